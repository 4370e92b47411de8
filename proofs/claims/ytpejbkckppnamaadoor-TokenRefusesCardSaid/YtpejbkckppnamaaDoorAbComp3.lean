/-
  The abstract machine of this work, part 14: running the short form is enough; functions in short form.
-/
import Derived.Test.YtpejbkckppnamaaDoorAbComp2
set_option linter.all false
set_option linter.unusedVariables false
set_option linter.unusedSimpArgs false
namespace Go.Ab
open Go Go.RowKit

section
variable {P : Program} {T : TT} {G : GT} {t : List AV} {σ : St}
theorem optK_some {α : Type} {x : Option α} {K : α → Prop} (h : optK x K) : ∃ r, x = some r ∧ K r := by
  cases x with
  | none => exact h.elim
  | some r => exact ⟨r, rfl, h⟩
theorem pairK_some {x : Option (AV × St)} {K : AV → St → Prop} (h : pairK x K) : ∃ r σ', x = some (r, σ') ∧ K r σ' := by
  cases x with
  | none => exact h.elim
  | some p => exact ⟨p.1, p.2, rfl, h⟩
theorem aOp_pure {o : Oper} {K : List AV → St → Prop} {r : AV} (hc : isCall o.op = false) (h : opP T G t σ o.op = some r) (hk : K (putA t o.dst r) σ) : aOp P T G o K t σ := by
  unfold aOp
  rw [if_neg (by rw [hc]; decide), h]
  exact hk
theorem opN_M {op : Op} {r : AV × St} (h : opM T G t σ op = some r) : opN T G t σ op = some r := by
  unfold opN; rw [h]
theorem aOp_mem {o : Oper} {K : List AV → St → Prop} {r : AV} {σ' : St} (hc : isCall o.op = false) (hn : opP T G t σ o.op = none) (h : opN T G t σ o.op = some (r, σ')) (hk : K (putA t o.dst r) σ') : aOp P T G o K t σ := by
  unfold aOp
  rw [if_neg (by rw [hc]; decide), hn, h]
  exact hk

theorem xP_fixed {e : Env} {x : X} (h : x.fixed = true) (σ σ' : St) : xP e σ x = xP e σ' x := by
  cases x <;> first | rfl | (cases h; done)
theorem aX_pure {e : Env} {x : X} (hp : x.pure = true) {K : AV → St → Prop} (h : aX P G e σ K x) : ∃ r, xP e σ x = some r ∧ K r σ := by
  cases x <;> first | (cases hp; done) | exact optK_some h | skip
  rename_i c a b
  obtain ⟨v, hv, h⟩ := optK_some h
  cases v <;> first | exact h.elim | skip
  rename_i q
  cases q with
  | true =>
    obtain ⟨r, hr, hk⟩ := optK_some h
    exact ⟨r, by simp only [xP, hv, Option.bind_some]; exact hr, hk⟩
  | false =>
    obtain ⟨r, hr, hk⟩ := optK_some h
    exact ⟨r, by simp only [xP, hv, Option.bind_some]; exact hr, hk⟩

theorem cOp_pure {op : Op} {x : X} (h : cOp T G op = some x) (hp : x.pure = true) : isCall op = false := by
  unfold cOp at h
  split at h
  · obtain ⟨_, _, rfl⟩ := map_some h; cases hp
  unfold cOp0 at h
  split at h <;> first | rfl | (cases h; done) | skip
  rename_i c
  split at h
  · split at h
    · cases h; cases hp
    · cases h
  · rename_i hcal; simp only [isCall, hcal]
  · rename_i hcal; simp only [isCall, hcal]
  · cases h

theorem aOp_of_aX {o : Oper} {x : X} {K : List AV → St → Prop} (hx : cOp T G o.op = some x) (h : aX P G (E t) σ (fun c σ' => K (putA t o.dst c) σ') x) : aOp P T G o K t σ := by
  cases hp : x.pure with
  | true =>
    obtain ⟨r, hr, hk⟩ := aX_pure hp h
    exact aOp_pure (cOp_pure hx hp) (opP_of_xP hx hr) hk
  | false =>
    have hx0 := hx
    unfold cOp at hx
    split at hx
    · rename_i m xs hmo
      obtain ⟨cs, hcs, rfl⟩ := map_some hx
      obtain ⟨as, has, h⟩ := optK_some h
      obtain ⟨r, σ', hr, hK⟩ := pairK_some h
      have hnone : isCall o.op = false ∧ opP T G t σ o.op = none ∧ opM T G t σ o.op = none := by
        unfold moreOf at hmo
        split at hmo
        · rename_i hop; rw [hop]; exact ⟨rfl, rfl, rfl⟩
        · rename_i hop; rw [hop]; exact ⟨rfl, rfl, rfl⟩
        · rename_i ts td x hop
          rw [hop]
          refine ⟨rfl, ?_, rfl⟩
          have hev : evs G t xs = some as := (cVs_evs hcs).trans has
          have key : ∀ c, xs = [x] → ev G t x = some c → as = [c] := by
            rintro c rfl hc
            simp only [evs, hc] at hev
            cases hev; rfl
          simp only [opP]
          split
          · rename_i c hc
            split at hmo
            · rename_i ks kd hks hkd
              unfold cvtA
              rw [hks, hkd]
              split at hmo
              · split at hmo
                · rename_i e hel
                  split at hmo
                  · split at hmo
                    · cases hmo
                      have := key c rfl hc
                      subst this
                      cases kd <;> first | cases hel | skip
                      rfl
                    · cases hmo
                  · cases hmo
                · cases hmo
              · split at hmo
                · rename_i hstr
                  split at hmo
                  · split at hmo
                    · split at hmo
                      · cases hmo
                        have := key c rfl hc
                        subst this
                        cases kd <;> first | cases hstr | skip
                        cases c <;> first | rfl | cases hr
                      · cases hmo
                    · cases hmo
                  · cases hmo
                · cases hmo
            · cases hmo
          · rfl
        · rename_i c hop
          rw [hop]
          split at hmo
          · rename_i hcal; simp only [isCall, opP, opM, hcal]; exact ⟨trivial, trivial, trivial⟩
          · rename_i hcal; simp only [isCall, opP, opM, hcal]; exact ⟨trivial, trivial, trivial⟩
          · cases hmo
        · cases hmo
      refine aOp_mem hnone.1 hnone.2.1 ?_ hK
      unfold opN
      simp only [hnone.2.2, hmo, cVs_evs hcs, has]
      exact hr
    unfold cOp0 at hx
    split at hx
    case h_18 =>
      rename_i ty hop
      obtain ⟨ti, hti, rfl⟩ := map_some hx
      exact aOp_mem (by rw [hop]; rfl) (by rw [hop]; rfl) (opN_M (by rw [hop]; simp only [opM, allocA, hti])) h
    case h_19 =>
      rename_i ty y hop
      obtain ⟨c, hc, rfl⟩ := map_some hx
      obtain ⟨v, hv, hk⟩ := optK_some h
      exact aOp_mem (by rw [hop]; rfl) (by rw [hop]; rfl) (opN_M (by rw [hop]; simp only [opM, cV_ev hc, hv, boxA])) hk
    case h_20 =>
      rename_i ty len parts hop
      split at hx
      · rename_i ps e hps hk
        split at hx
        · rename_i ti hti
          split at hx
          · rename_i hb
            cases hx
            obtain ⟨qs, hq, hk2⟩ := optK_some h
            obtain ⟨r, σ', hr, hK⟩ := pairK_some hk2
            refine aOp_mem (by rw [hop]; rfl) (by rw [hop]; rfl) (opN_M ?_) hK
            rw [hop]
            simp only [opM, cPs_evps hps, hq, buildSliceA, hk, hti, if_pos hb]
            exact hr
          · cases hx
        · cases hx
      · cases hx
    case h_21 =>
      rename_i ty p y hop
      split at hx
      · rename_i c d n hc hd hn
        cases hx
        obtain ⟨pv, hp1, h⟩ := optK_some h
        obtain ⟨cv, hc1, h⟩ := optK_some h
        obtain ⟨σ', hs, h⟩ := optK_some h
        refine aOp_mem (r := undefA) (σ' := σ') (by rw [hop]; rfl) (by rw [hop]; rfl) (opN_M ?_) h
        rw [hop]
        simp only [opM, cV_ev hc, cV_ev hd, hp1, hc1]
        have : storeA T σ ty pv cv = some σ' := by
          unfold szOf at hn
          obtain ⟨ti, hti, rfl⟩ := map_some hn
          unfold storeA
          rw [hti]
          exact hs
        rw [this]
        rfl
      · cases hx
    case h_22 =>
      rename_i c hop
      split at hx
      · rename_i f hcal
        split at hx
        · rename_i fv as hf ha
          cases hx
          obtain ⟨v, hv, h⟩ := optK_some h
          obtain ⟨avs, hav, h⟩ := optK_some h
          unfold aOp
          have hic : isCall o.op = true := by rw [hop]; simp only [isCall, hcal]
          rw [if_pos hic, hop]
          simp only [callOf, hcal, cV_ev hf, cVs_evs ha, hv, hav]
          split at h
          · exact h
          · exact h.elim
        · cases hx
      · split at hx
        · split at hx
          · cases hx; cases hp
          · cases hx; cases hp
          · cases hx; cases hp
          · cases hx
        · cases hx
      · rename_i hcal
        split at hx
        · rename_i s y ts tx hargs htys
          split at hx
          · rename_i a b e k ha hb hk hkx
            split at hx
            · rename_i hsrc
              split at hx
              · rename_i ti hti
                split at hx
                · rename_i hsz
                  cases hx
                  obtain ⟨sv, hsv, h⟩ := optK_some h
                  obtain ⟨xv', hxv, h⟩ := optK_some h
                  obtain ⟨r, σ', hr, hK⟩ := pairK_some h
                  have hnc : isCall o.op = false := by rw [hop]; simp only [isCall, hcal]
                  refine aOp_mem hnc (by rw [hop]; simp only [opP, hcal]) (opN_M ?_) hK
                  rw [hop]
                  simp only [opM, hcal, hargs, htys, cV_ev ha, cV_ev hb, hsv, hxv]
                  unfold appendA
                  unfold appX at hr
                  split at hr
                  · rename_i ys hys
                    split at hr
                    · rename_i hall
                      have hc2 : (ys.all (fun c => c.length == ti.size) && ys.all (fun c => c.all AV.one) && decide (0 < ti.size) && decide (0 < ti.bytes)) = true := by
                        simp only [Bool.and_eq_true, decide_eq_true_eq] at hall ⊢
                        exact ⟨⟨hall, hsz.1⟩, hsz.2⟩
                      simp only [hk, hkx, hsrc, if_true, hti, hys]
                      rw [if_pos hc2]
                      exact hr
                    · cases hr
                  · cases hr
                · cases hx
              · cases hx
            · cases hx
          · cases hx
        · cases hx
      · cases hx
    all_goals first
      | (cases hx; done)
      | (obtain ⟨_, _, rfl⟩ := map_some hx; cases hp; done)
      | (exfalso
         revert hp
         clear h hx0
         repeat' (first | (cases hx; done) | (split at hx))
         all_goals first
           | (cases hx; intro hp; cases hp; done)
           | (obtain ⟨_, _, rfl⟩ := map_some hx; intro hp; cases hp; done))

theorem optK_mono {α : Type} {o : Option α} {A B : α → Prop} (hab : ∀ a, A a → B a) (ho : optK o A) : optK o B := by
  cases o with
  | none => exact ho
  | some a => exact hab a ho
theorem pairK_mono {o : Option (AV × St)} {K K' : AV → St → Prop} (hk : ∀ c σ', K c σ' → K' c σ') (ho : pairK o K) : pairK o K' := by
  cases o with
  | none => exact ho
  | some p => exact hk _ _ ho
theorem aX_mono {t : Env} {x : X} {K K' : AV → St → Prop} (hk : ∀ c σ', K c σ' → K' c σ') (h : aX P G t σ K x) : aX P G t σ K' x := by
  cases x
  case call f args =>
    refine optK_mono (fun v => optK_mono (fun as hv => ?_)) h
    cases v <;> first | exact hv | skip
    rename_i fn fs cs
    cases fn <;> first | exact hv | exact hv.mono hk
  case st n a x => exact optK_mono (fun p => optK_mono (fun c => optK_mono (fun σ' hh => hk _ _ hh))) h
  case alloc ty z => exact hk _ _ h
  case pick c a b =>
    refine optK_mono (fun v hv => ?_) h
    cases v <;> first | exact hv | skip
    rename_i q
    cases q with
    | true => exact optK_mono (fun r hh => hk _ _ hh) hv
    | false => exact optK_mono (fun r hh => hk _ _ hh) hv
  case box ty x => exact optK_mono (fun c hh => hk _ _ hh) h
  case more m xs => exact optK_mono (fun _ hh => pairK_mono hk hh) h
  case mks e z zero len ps => exact optK_mono (fun qs hh => pairK_mono hk hh) h
  case app e z b s x => exact optK_mono (fun _ => optK_mono (fun _ hh => pairK_mono hk hh)) h
  all_goals exact optK_mono (fun r hh => hk _ _ hh) h

/-! ### What holds of some temporaries holds of more -/
def Ole {α : Type} (x y : Option α) : Prop := ∀ r, x = some r → y = some r
theorem Ole.refl {α : Type} (x : Option α) : Ole x x := fun _ h => h
theorem Ole.bind {α β : Type} {x y : Option α} {f g : α → Option β} (h : Ole x y) (k : ∀ a, Ole (f a) (g a)) : Ole (x.bind f) (y.bind g) := fun r hr => by
  obtain ⟨a, ha, hr⟩ := bind_some hr
  rw [h a ha]
  exact k a r hr
theorem Ole.map {α β : Type} {x y : Option α} {f : α → β} (h : Ole x y) : Ole (x.map f) (y.map f) := fun r hr => by
  obtain ⟨a, ha, rfl⟩ := map_some hr
  rw [h a ha]; rfl
theorem optK_le {α : Type} {x y : Option α} {K K' : α → Prop} (h : Ole x y) (hk : ∀ a, K a → K' a) (hx : optK x K) : optK y K' := by
  obtain ⟨r, hr, hK⟩ := optK_some hx
  rw [h r hr]; exact hk _ hK
section
variable {e f : Env} (hle : Env.le e f)
include hle
theorem xv_le (x : XV) : Ole (xv e x) (xv f x) := by
  cases x with
  | t n => exact fun r h => hle n r h
  | k c => exact Ole.refl _
theorem xvs_le : ∀ (l : List XV), Ole (xvs e l) (xvs f l)
  | [] => Ole.refl _
  | x :: xs => fun r h => by
    simp only [xvs] at h ⊢
    split at h
    · rename_i c cs h1 h2
      rw [xv_le hle x _ h1, xvs_le xs _ h2]; exact h
    · cases h
theorem xps_le : ∀ (l : List (Nat × XV)), Ole (xps e l) (xps f l)
  | [] => Ole.refl _
  | (i, x) :: xs => fun r h => by
    simp only [xps] at h ⊢
    split at h
    · rename_i c cs h1 h2
      rw [xv_le hle x _ h1, xps_le xs _ h2]; exact h
    · cases h
theorem xvo_le (x : Option XV) : Ole (xvo e x) (xvo f x) := by
  cases x with
  | none => exact Ole.refl _
  | some x => exact Ole.map (xv_le hle x)
theorem fillX_le : ∀ (l : List (Nat × Nat × XV)) (zero : List AV), Ole (fillX e zero l) (fillX f zero l)
  | [], _ => Ole.refl _
  | (off, z, x) :: l, zero => fun r h => by
    simp only [fillX] at h ⊢
    split at h
    · rename_i c h1
      rw [xv_le hle x _ h1]
      simp only
      split at h
      · rename_i hc
        rw [if_pos hc]
        exact fillX_le l _ r h
      · cases h
    · cases h
theorem xP_le (σ : St) (x : X) : Ole (xP e σ x) (xP f σ x) := by
  have v := xv_le hle
  cases x with
  | pick c a b =>
    refine Ole.bind (v c) (fun u => ?_)
    cases u <;> first | exact Ole.refl _ | skip
    rename_i q
    cases q
    · exact v b
    · exact v a
  | mk z ps => exact Ole.map (fillX_le hle ps z)
  | mkf g a b => exact Ole.bind (xvs_le hle a) (fun _ => Ole.map (xvs_le hle b))
  | sls z x lo hi mx => exact Ole.bind (v x) (fun _ => Ole.bind (xvo_le hle lo) (fun _ => Ole.bind (xvo_le hle hi) (fun _ => Ole.bind (xvo_le hle mx) (fun _ => Ole.refl _))))
  | slstr x lo hi => exact Ole.bind (v x) (fun _ => Ole.bind (xvo_le hle lo) (fun _ => Ole.bind (xvo_le hle hi) (fun _ => Ole.refl _)))
  | mv x => exact v x
  | ifc t x => exact Ole.map (v x)
  | lenarr n x => exact Ole.map (v x)
  | bin op kd c x y => exact Ole.bind (v x) (fun _ => Ole.bind (v y) (fun _ => Ole.refl _))
  | ixa len z x y => exact Ole.bind (v x) (fun _ => Ole.bind (v y) (fun _ => Ole.refl _))
  | ixs z x y => exact Ole.bind (v x) (fun _ => Ole.bind (v y) (fun _ => Ole.refl _))
  | ixstr x y => exact Ole.bind (v x) (fun _ => Ole.bind (v y) (fun _ => Ole.refl _))
  | ixarr len z n x y => exact Ole.bind (v x) (fun _ => Ole.bind (v y) (fun _ => Ole.refl _))
  | ld n a => exact Ole.bind (v a) (fun _ => Ole.refl _)
  | nilc x => exact Ole.bind (v x) (fun _ => Ole.refl _)
  | un op x => exact Ole.bind (v x) (fun _ => Ole.refl _)
  | cvi k x => exact Ole.bind (v x) (fun _ => Ole.refl _)
  | cvs x => exact Ole.bind (v x) (fun _ => Ole.refl _)
  | fa off x => exact Ole.bind (v x) (fun _ => Ole.refl _)
  | fl off n x => exact Ole.bind (v x) (fun _ => Ole.refl _)
  | ex x i => exact Ole.bind (v x) (fun _ => Ole.refl _)
  | lens x => exact Ole.bind (v x) (fun _ => Ole.refl _)
  | lenl x => exact Ole.bind (v x) (fun _ => Ole.refl _)
  | strs x => exact Ole.bind (v x) (fun _ => Ole.refl _)
  | st _ _ _ => exact Ole.refl _
  | alloc _ _ => exact Ole.refl _
  | box _ _ => exact Ole.refl _
  | mks _ _ _ _ _ => exact Ole.refl _
  | app _ _ _ _ _ => exact Ole.refl _
  | call _ _ => exact Ole.refl _
  | more _ _ => exact Ole.refl _
theorem aX_le {x : X} {K : AV → St → Prop} (h : aX P G e σ K x) : aX P G f σ K x := by
  have v := xv_le hle
  cases hp : x.pure with
  | true =>
    obtain ⟨r, hr, hK⟩ := aX_pure hp h
    have hr' := xP_le hle σ x r hr
    cases x <;> first | (cases hp; done) | (show optK (xP f σ _) (fun r => K r σ); rw [hr']; exact hK) | skip
    rename_i c a b
    obtain ⟨u, hu, hh⟩ := optK_some h
    show optK (xv f c) _
    rw [v c u hu]
    cases u <;> first | exact hh.elim | skip
    rename_i q
    cases q
    · exact (optK_le (v b) (fun _ x => x) hh : optK (xv f b) (fun r => K r σ))
    · exact (optK_le (v a) (fun _ x => x) hh : optK (xv f a) (fun r => K r σ))
  | false =>
    cases x <;> first | (cases hp; done) | skip
    case call g args => exact optK_le (v g) (fun _ h => optK_le (xvs_le hle args) (fun _ x => x) h) h
    case st n a x => exact optK_le (v a) (fun _ h => optK_le (v x) (fun _ x => x) h) h
    case alloc => exact h
    case more m xs => exact optK_le (xvs_le hle xs) (fun _ x => x) h
    case box t x => exact optK_le (v x) (fun _ x => x) h
    case mks t z l n ps => exact optK_le (xps_le hle ps) (fun _ x => x) h
    case app t z b s x => exact optK_le (v s) (fun _ h => optK_le (v x) (fun _ x => x) h) h
end

theorem Env.le_refl (e : Env) : Env.le e e := fun _ _ h => h
/-- What is put may be put. -/
theorem le_putE {N : Nat} {d : Option Nat} (hd : dstIn N d = true) {e : Env} {t : List AV} (hle : Env.le e (E t)) (hN : N ≤ t.length) (c : AV) : Env.le (putE e d c) (E (putA t d c)) := by
  cases d with
  | none => exact hle
  | some d =>
    simp only [dstIn, decide_eq_true_eq] at hd
    intro n r hr
    simp only [putE, put] at hr
    simp only [putA, E]
    split at hr
    · rename_i hn
      cases hr
      rw [hn, List.getElem?_set_self (by omega)]
    · rename_i hn
      rw [List.getElem?_set_ne (fun h => hn h.symm)]
      exact hle n r hr
theorem length_putA (t : List AV) (d : Option Nat) (c : AV) : (putA t d c).length = t.length := by
  cases d <;> simp [putA]

theorem guard_cases {ops : Array Oper} {o : Oper} {g : Option (Nat × Bool)} (h : cGuard ops o.guard = some g) {e : Env} {A B : Prop} (hle : Env.le e (E t)) (hg : guardX e g A B) : (wantedA ops o t = true ∧ A) ∨ (wantedA ops o t = false ∧ B) := by
  unfold wantedA
  cases ho : o.guard with
  | none => rw [ho] at h; cases h; exact .inl ⟨rfl, hg⟩
  | some p =>
    obtain ⟨j, want⟩ := p
    rw [ho] at h
    simp only [cGuard] at h
    split at h
    · rename_i d hd
      cases h
      simp only [guardX] at hg
      split at hg
      · rename_i b hb
        have := hle d _ hb
        simp only [yieldedA, hd, Option.bind_some, show t[d]? = some (.bool b) from this]
        unfold brk at hg
        split at hg
        · rename_i hq; exact .inl ⟨hq, hg⟩
        · rename_i hq; exact .inr ⟨by simpa using hq, hg⟩
      · rename_i c hn hb
        have := hle d _ hb
        simp only [yieldedA, hd, Option.bind_some, show t[d]? = some c from this]
        refine .inr ⟨?_, hg⟩
        cases c <;> first | rfl | exact absurd rfl (hn _)
      · exact hg.elim
    · cases h

theorem aOps_of_aL {N : Nat} {ops : Array Oper} {K : Env → St → Prop} : ∀ {l : List Oper} {cs : List CO} {e : Env} {t : List AV} {σ : St}, cOps T G N ops l = some cs → Env.le e (E t) → N ≤ t.length → aL P G K cs e σ → aOps P T G ops (liftK N K) l t σ
  | [], cs, e, t, σ, h, hle, hN, hk => by cases h; exact ⟨e, hle, hN, hk⟩
  | o :: r, cs, e, t, σ, h, hle, hN, hk => by
    simp only [cOps] at h
    split at h
    · rename_i x g ds hx hg hds
      split at h
      · rename_i hd
        cases h
        simp only [aL] at hk
        simp only [aOps]
        rcases guard_cases hg hle hk with ⟨hw, hk⟩ | ⟨hw, hk⟩
        · rw [if_pos hw]
          have h1 := aX_le hle hk
          have h2 : aX P G (E t) σ (fun c σ' => aOps P T G ops (liftK N K) r (putA t o.dst c) σ') x :=
            aX_mono (fun c σ' h => aOps_of_aL hds (le_putE hd hle hN c) (by rw [length_putA]; exact hN) h) h1
          exact aOp_of_aX hx h2
        · rw [if_neg (by rw [hw]; decide)]
          exact aOps_of_aL hds (le_putE hd hle hN undefA) (by rw [length_putA]; exact hN) hk
      · cases h
    · cases h
theorem aStill_of_aS {N : Nat} {ops : Array Oper} {K : Env → St → Prop} : ∀ {l : List Oper} {cs : List CO} {e : Env} {t : List AV}, cOps T G N ops l = some cs → Env.le e (E t) → N ≤ t.length → aS K σ cs e → aStill T G ops (liftK N K) l t σ
  | [], cs, e, t, h, hle, hN, hk => by cases h; exact ⟨e, hle, hN, hk⟩
  | o :: r, cs, e, t, h, hle, hN, hk => by
    simp only [cOps] at h
    split at h
    · rename_i x g ds hx hg hds
      split at h
      · rename_i hd
        cases h
        simp only [aS] at hk
        simp only [aStill]
        rcases guard_cases hg hle hk with ⟨hw, hk⟩ | ⟨hw, hk⟩
        · rw [if_pos hw]
          obtain ⟨c, hc, hk⟩ := optK_some hk
          rw [opP_of_xP hx (xP_le hle σ x c hc)]
          exact aStill_of_aS hds (le_putE hd hle hN c) (by rw [length_putA]; exact hN) hk
        · rw [if_neg (by rw [hw]; decide)]
          exact aStill_of_aS hds (le_putE hd hle hN undefA) (by rw [length_putA]; exact hN) hk
      · cases h
    · cases h

theorem coAt_some {N : Nat} {ops : Array Oper} {i : Nat} {c : CO} (h : coAt T G N ops i = some c) : ∃ o, ops[i]? = some o ∧ cOp T G o.op = some c.x ∧ cGuard ops o.guard = some c.g ∧ dstIn N o.dst = true ∧ c.dst = o.dst := by
  unfold coAt at h
  split at h
  · rename_i o ho
    split at h
    · rename_i x g hx hg
      split at h
      · rename_i hd; cases h; exact ⟨o, ho, hx, hg, hd, rfl⟩
      · cases h
    · cases h
  · cases h
theorem altAll_mem {N : Nat} {ops : Array Oper} {K : Env → St → Prop} {S : St → Prop} {f : Array Bool → Option CM} {listed : Array Bool} {e : Env} {σ : St} : ∀ {is : List Nat} {m : CM}, altAll T G N ops f listed is = some m → aH P G K m S e σ →
    ∀ i ∈ is, ∃ c r, coAt T G N ops i = some c ∧ f (listed.setIfInBounds i true) = some r ∧ aH P G K (.e c r) S e σ
  | [], m, h, hk, i, hi => by cases hi
  | j :: is, m, h, hk, i, hi => by
    unfold altAll at h
    split at h
    · rename_i c r hc hr
      split at h
      · cases h
        have : i = j := by simpa using hi
        subst this
        exact ⟨c, r, hc, hr, hk⟩
      · split at h
        · rename_i b hb
          cases h
          rcases List.mem_cons.1 hi with rfl | hi
          · exact ⟨c, r, hc, hr, hk.1⟩
          · exact altAll_mem hb hk.2 i hi
        · cases h
    · cases h
theorem aAnyH_of_aH {N : Nat} {ops : Array Oper} {K : Env → St → Prop} : ∀ (fuel : Nat) {listed : Array Bool} {m : CM} {S : St → Prop} {e : Env} {t : List AV} {σ : St}, cMix T G N ops fuel listed = some m → Env.le e (E t) → N ≤ t.length → S σ → aH P G K m S e σ → aAnyH P T G ops (liftK N K) S fuel listed t σ
  | 0, listed, m, S, e, t, σ, h, hle, hN, hS, hk => by
    simp only [cMix] at h
    split at h
    · rename_i hr; cases h; exact ⟨hr, e, hle, hN, hk⟩
    · cases h
  | fuel + 1, listed, m, S, e, t, σ, h, hle, hN, hS, hk => by
    simp only [cMix] at h
    split at h
    · rename_i hr
      cases h
      exact ⟨fun _ => ⟨e, hle, hN, hk⟩, by rw [hr]; simp⟩
    · rename_i r rs hr
      split at h
      · rename_i i hi
        split at h
        · rename_i c l' hc hl'
          cases h
          obtain ⟨o, ho, hx, hg, hd, hdst⟩ := coAt_some hc
          have hq := List.find?_some hi
          have hmem := List.mem_of_find?_eq_some hi
          simp only [quietAt, hc, Bool.and_eq_true] at hq
          have hcont : (Region.ready .any ops listed).contains i = true := by rw [hr]; simpa using hmem
          have hno : ∀ {S' : St → Prop}, S' σ → wantedA ops o t = false → aH P G K l' S' (putE e o.dst undefA) σ → aAnyH P T G ops (liftK N K) S' (fuel + 1) listed t σ := fun hS' hw hk' =>
            aAnyH_take ho hq.2 hcont (.inr ⟨hw, rfl⟩) hS' (aAnyH_of_aH fuel hl' (le_putE hd hle hN undefA) (by rw [length_putA]; exact hN) hS' hk')
          have hyes : ∀ {S' : St → Prop} {v : AV}, S' σ → wantedA ops o t = true → (∀ σ', S' σ' → xP e σ' c.x = some v) → aH P G K l' S' (putE e o.dst v) σ → aAnyH P T G ops (liftK N K) S' (fuel + 1) listed t σ := fun hS' hw hv hk' =>
            aAnyH_take ho hq.2 hcont (.inl ⟨hw, cOp_pure hx hq.1, fun σ' hs => opP_of_xP hx (xP_le hle σ' c.x _ (hv σ' hs))⟩) hS' (aAnyH_of_aH fuel hl' (le_putE hd hle hN _) (by rw [length_putA]; exact hN) hS' hk')
          split at hk
          · rename_i hfix
            simp only [aH] at hk
            rw [hdst] at hk
            rcases guard_cases hg hle hk with ⟨hw, hk⟩ | ⟨hw, hk⟩
            · obtain ⟨v, hv, hk⟩ := optK_some hk
              exact hyes hS hw (fun σ' _ => by rw [xP_fixed hfix σ' σ]; exact hv) hk
            · exact hno hS hw hk
          · simp only [aH] at hk
            rw [hdst] at hk
            rcases guard_cases hg hle hk with ⟨hw, hk⟩ | ⟨hw, hk⟩
            · obtain ⟨v, hv, hk⟩ := optK_some hk
              exact aAnyH_weak (fun σ' hs => hs.1) _ (hyes (S' := pin S e c.x v) ⟨hS, hv⟩ hw (fun σ' hs => hs.2) hk)
            · exact hno hS hw hk
        · cases h
      · refine ⟨fun h0 => absurd (hr.symm.trans h0) (by simp), fun i hi => ?_⟩
        rw [hr] at hi
        obtain ⟨c, l', hc, hl', hk⟩ := altAll_mem h hk i hi
        obtain ⟨o, ho, hx, hg, hd, hdst⟩ := coAt_some hc
        simp only [aH] at hk
        rw [hdst] at hk
        unfold aWpOp
        simp only [ho]
        rcases guard_cases hg hle hk with ⟨hw, hk⟩ | ⟨hw, hk⟩
        · rw [if_pos hw]
          have h1 := aX_le hle hk
          have h2 : aX P G (E t) σ (fun c σ' => S σ' ∧ aAnyH P T G ops (liftK N K) S fuel (listed.setIfInBounds i true) (putA t o.dst c) σ') c.x :=
            aX_mono (fun c σ' h => ⟨h.1, aAnyH_of_aH fuel hl' (le_putE hd hle hN c) (by rw [length_putA]; exact hN) h.1 h.2⟩) h1
          exact aOp_of_aX (K := fun t' σ' => S σ' ∧ aAnyH P T G ops (liftK N K) S fuel (listed.setIfInBounds i true) t' σ') hx h2
        · rw [if_neg (by rw [hw]; decide)]
          exact ⟨hS, aAnyH_of_aH fuel hl' (le_putE hd hle hN undefA) (by rw [length_putA]; exact hN) hS hk⟩

theorem thenQ_mono {R R' : List AV → St → Prop} {Q : AQ} (h : ∀ t σ, R t σ → R' t σ) : ∀ e t σ, thenQ R Q e t σ → thenQ R' Q e t σ := fun e t σ hq => by
  cases e <;> first | exact h _ _ hq | exact hq

theorem awp_mono (_hT : True) : ∀ (c : Code) {Q Q' : AQ} {t : List AV} {σ : St}, (∀ e t σ, Q e t σ → Q' e t σ) → awp P T G c Q t σ → awp P T G c Q' t σ := by
  intro c
  induction c with
  | skip => exact fun h hh => h _ _ _ hh
  | region id ops draw =>
    intro Q Q' t σ h hh
    have hl : ∀ (l : List Oper) (t : List AV) (σ : St), aOps P T G ops (Q .normal) l t σ → aOps P T G ops (Q' .normal) l t σ := by
      intro l
      induction l with
      | nil => exact fun t σ hh => h _ _ _ hh
      | cons o r ih =>
        intro t σ hh
        simp only [aOps] at hh ⊢
        split
        · rename_i hw
          rw [if_pos hw] at hh
          unfold aOp at hh ⊢
          split
          · rename_i hc
            rw [if_pos hc] at hh
            split
            · rename_i f args hcall
              rw [hcall] at hh
              exact hh.mono (fun r σ' hq => ih _ _ hq)
            · rename_i hcall; rw [hcall] at hh; exact hh
          · rename_i hc
            rw [if_neg hc] at hh
            split
            · rename_i r' hr; rw [hr] at hh; exact ih _ _ hh
            · rename_i hr
              rw [hr] at hh
              split
              · rename_i r' σ' hm; rw [hm] at hh; exact ih _ _ hh
              · rename_i hm; rw [hm] at hh; exact hh
        · rename_i hw
          rw [if_neg hw] at hh
          exact ih _ _ hh
    have hs : ∀ (l : List Oper) (t : List AV) (σ : St), aStill T G ops (Q .normal) l t σ → aStill T G ops (Q' .normal) l t σ := by
      intro l
      induction l with
      | nil => exact fun t σ hh => h _ _ _ hh
      | cons o r ih =>
        intro t σ hh
        simp only [aStill] at hh ⊢
        split
        · rename_i hw
          rw [if_pos hw] at hh
          split
          · rename_i r' hr; rw [hr] at hh; exact ih _ _ hh
          · rename_i hr; rw [hr] at hh; exact hh
        · rename_i hw
          rw [if_neg hw] at hh
          exact ih _ _ hh
    cases draw with
    | false => exact hl _ _ _ hh
    | true => exact hh.imp (fun hh => ⟨hh.1, hs _ _ _ hh.2⟩) (fun hh => ⟨hh.1, aAny_mono (fun t σ hq => h _ _ _ hq) _ hh.2⟩)
  | seq a b iha ihb =>
    intro Q Q' t σ h hh
    refine iha (fun e t σ hq => ?_) hh
    cases e with
    | normal => exact ihb h hq
    | _ => exact h _ _ _ hq
  | cond c a b iha ihb =>
    intro Q Q' t σ h hh
    simp only [awp] at hh ⊢
    split
    · rename_i b hc
      rw [hc] at hh
      cases b with
      | true => exact iha h hh
      | false => exact ihb h hh
    · rename_i hc
      split at hh
      · rename_i b hb; exact absurd hb (hc b)
      · exact hh
  | block id c ih =>
    intro Q Q' t σ h hh
    refine ih (fun e t σ hq => ?_) hh
    cases e with
    | exit id' =>
      simp only [blockQ] at hq ⊢
      split
      · rename_i hid; rw [if_pos hid] at hq; exact h _ _ _ hq
      · rename_i hid; rw [if_neg hid] at hq; exact h _ _ _ hq
    | _ => exact h _ _ _ hq
  | loop c ih =>
    intro Q Q' t σ h hh C0 a w h0 b k cs
    obtain ⟨e, a', w', ⟨t', σ', h1, h2⟩, harr⟩ := hh C0 a w h0 b k cs
    exact ⟨e, a', w', ⟨t', σ', h1, h _ _ _ h2⟩, harr⟩
  | exit id => exact fun h hh => h _ _ _ hh
  | ret => exact fun h hh => h _ _ _ hh
  | _ => exact fun h hh => hh

theorem liftK_mono {N : Nat} {K K' : Env → St → Prop} (h : ∀ e σ, K e σ → K' e σ) {t : List AV} {σ : St} (hk : liftK N K t σ) : liftK N K' t σ := by
  obtain ⟨e, h1, h2, h3⟩ := hk
  exact ⟨e, h1, h2, h _ _ h3⟩
theorem awp_of_aC (hm : P.follows .mixedOrders = true) {N : Nat} : ∀ {c : Code} {cc : CC} {Q : EQ} {e : Env} {t : List AV} {σ : St}, cCode T G N c = some cc → Env.le e (E t) → N ≤ t.length → aC P T G cc Q e σ → awp P T G c (liftQ N Q) t σ := by
  intro c
  induction c with
  | skip => intro cc Q e t σ h hle hN hh; cases h; exact ⟨e, hle, hN, hh⟩
  | region id ops draw =>
    intro cc Q e t σ h hle hN hh
    simp only [cCode] at h
    cases draw with
    | false =>
      obtain ⟨cs, hcs, rfl⟩ := map_some h
      exact aOps_of_aL hcs hle hN hh
    | true =>
      simp only [if_true] at h
      unfold cDraw at h
      split at h
      · rename_i cs hcs
        split at h
        · rename_i hB
          cases h
          simp only [Bool.and_eq_true] at hB
          exact .inl ⟨⟨hm, hB.1⟩, aStill_of_aS hcs hle hN hh⟩
        · obtain ⟨l, hl, rfl⟩ := map_some h
          exact .inr ⟨hm, aAny_of_held _ (aAnyH_of_aH _ hl hle hN trivial hh)⟩
      · cases h
  | seq a b iha ihb =>
    intro cc Q e t σ h hle hN hh
    simp only [cCode] at h
    split at h
    · rename_i x y hx hy
      cases h
      have h1 := iha hx hle hN hh
      refine awp_mono trivial a (fun x t σ hq => ?_) h1
      cases x with
      | normal =>
        obtain ⟨e', h1, h2, h3⟩ := hq
        exact ihb hy h1 h2 h3
      | exit id => exact hq
      | ret => exact hq
      | _ => exact hq
    · cases h
  | cond c a b iha ihb =>
    intro cc Q e t σ h hle hN hh
    simp only [cCode] at h
    split at h
    · rename_i v x y hv hx hy
      cases h
      obtain ⟨u, hu, hh⟩ := optK_some hh
      have hu' := xv_le hle v u hu
      simp only [awp, cV_ev hv, hu']
      cases u <;> simp only at hh ⊢
      rename_i b
      cases b with
      | true => exact iha hx hle hN hh
      | false => exact ihb hy hle hN hh
    · cases h
  | block id c ih =>
    intro cc Q e t σ h hle hN hh
    obtain ⟨x, hx, rfl⟩ := map_some h
    refine awp_mono trivial c (fun x t σ hq => ?_) (ih hx hle hN hh)
    cases x with
    | exit id' =>
      obtain ⟨e', h1, h2, h3⟩ := hq
      simp only [blockE] at h3
      simp only [blockQ]
      split
      · rename_i hid; rw [if_pos hid] at h3; exact ⟨e', h1, h2, h3⟩
      · rename_i hid; rw [if_neg hid] at h3; exact ⟨e', h1, h2, h3⟩
    | normal => exact hq
    | ret => exact hq
    | _ => exact hq
  | loop c ih =>
    intro cc Q e t σ h hle hN hh
    obtain ⟨x, hx, rfl⟩ := map_some h
    exact hh N c hx t hle hN
  | exit id => intro cc Q e t σ h hle hN hh; cases h; exact ⟨e, hle, hN, hh⟩
  | ret => intro cc Q e t σ h hle hN hh; cases h; exact ⟨e, hle, hN, hh⟩
  | _ => intro cc Q e t σ h hle hN hh; cases h

/-- A round, and the rest. -/
theorem LoopC_unfold (hT : TOK P T) (hm : P.follows .mixedOrders = true) {c : CC} {Q : EQ} {e : Env} {σ : St} (h : aC P T G c (thenE (LoopC P T G c Q) Q) e σ) : LoopC P T G c Q e σ := by
  intro N code hcode t hle hN
  refine AWPL_unfold hT ?_
  have h1 := awp_of_aC hm hcode hle hN h
  refine awp_mono trivial code (fun x t σ hq => ?_) h1
  cases x with
  | normal =>
    obtain ⟨e', h1, h2, h3⟩ := hq
    exact h3 N code hcode t h1 h2
  | exit id => exact hq
  | ret => exact hq
  | _ => exact hq
/-- With less. -/
theorem LoopC_le {c : CC} {Q : EQ} {e f : Env} {σ : St} (hle : Env.le e f) (h : LoopC P T G c Q e σ) : LoopC P T G c Q f σ :=
  fun N code hcode t h1 hN => h N code hcode t (fun n c hc => h1 n c (hle n c hc)) hN
end

/-! ### Functions in short form -/
inductive XR where
  | t (n : Nat)
  | c (a : Nat) (n : Option Nat)
structure CF where
  ntmps : Nat
  res : List XR
  code : CC
def cRes (T : TT) : List ResultVar → Option (List XR)
  | [] => some []
  | .tmp n :: r => (cRes T r).map (.t n :: ·)
  | .cell a ty :: r => match partN T ty, cRes T r with
    | some n, some rs => some (.c a n :: rs)
    | _, _ => none
def resX (e : Env) (σ : St) : List XR → Option (List AV)
  | [] => some []
  | .t n :: r => (e n).bind fun c => (resX e σ r).map (c :: ·)
  | .c a n :: r => (e a).bind fun p => (ldX n σ p).bind fun c => (resX e σ r).map (c :: ·)
def cFunc (T : TT) (G : GT) (fn : Func) : Option CF :=
  match fn.body with
  | some c => match cCode T G fn.ntmps c, cRes T fn.results.toList with
    | some cc, some rs => if fn.name == "runtime.NumGoroutine" then none else some ⟨fn.ntmps, rs, cc⟩
    | _, _ => none
  | none => none
/-- Function f of the program is this. -/
def FOk (P : Program) (T : TT) (G : GT) (f : FuncId) (cf : CF) : Prop := ∃ fn, P.funcs[f]? = some fn ∧ cFunc T G fn = some cf
def retQ (rs : List XR) (Q : AV → St → Prop) : EQ := fun x t σ => match x with
  | .normal => optK (resX t σ rs) fun l => Q (oneOr l) σ
  | .ret => optK (resX t σ rs) fun l => Q (oneOr l) σ
  | _ => False
theorem resX_eq {T : TT} {t : List AV} {σ : St} : ∀ {rs : List ResultVar} {xs : List XR}, cRes T rs = some xs → resAll T t σ rs = resX (E t) σ xs
  | [], xs, h => by cases h; rfl
  | .tmp n :: r, xs, h => by
    obtain ⟨ys, hy, rfl⟩ := map_some h
    simp only [resAll, resOne, resX, resX_eq hy]
    show _ = (t[n]?).bind _
    generalize resX (E t) σ ys = z
    cases t[n]? <;> cases z <;> rfl
  | .cell a ty :: r, xs, h => by
    simp only [cRes] at h
    split at h
    · rename_i n ys hn hy
      cases h
      simp only [resAll, resOne, resX, resX_eq hy]
      show _ = (t[a]?).bind _
      generalize resX (E t) σ ys = z
      cases hq : t[a]? with
      | none => rfl
      | some p =>
        simp only [partN_ld hn, Option.bind_some]
        cases ldX n σ p <;> cases z <;> rfl
    · cases h
theorem resX_le {e f : Env} (hle : Env.le e f) (σ : St) : ∀ (rs : List XR), Ole (resX e σ rs) (resX f σ rs)
  | [] => Ole.refl _
  | .t n :: r => Ole.bind (fun c h => hle n c h) (fun _ => Ole.map (resX_le hle σ r))
  | .c a n :: r => Ole.bind (fun c h => hle a c h) (fun _ => Ole.bind (Ole.refl _) (fun _ => Ole.map (resX_le hle σ r)))
theorem ACalls_fn {P : Program} {T : TT} {G : GT} (hT : TOK P T) (hm : P.follows .mixedOrders = true) {f : FuncId} {cf : CF} (hf : FOk P T G f cf) {args : List AV} {σ : St} {Q : AV → St → Prop}
    (h : aC P T G cf.code (retQ cf.res Q) (E args) σ) : ACalls P G f args σ Q := by
  obtain ⟨fn, hfn, hc⟩ := hf
  unfold cFunc at hc
  split at hc
  · rename_i c hb
    split at hc
    · rename_i cc rs hcc hrs
      split at hc
      · cases hc
      · rename_i hn
        cases hc
        refine ACalls_body hT hfn hb (by simpa using hn) ?_
        have hle : Env.le (E args) (E (args ++ List.replicate (fn.ntmps - args.length) undefA)) := by
          intro n r hr
          simp only [E] at hr ⊢
          rw [List.getElem?_append_left (List.getElem?_eq_some_iff.1 hr).1]; exact hr
        have hN : fn.ntmps ≤ (args ++ List.replicate (fn.ntmps - args.length) undefA).length := by simp; omega
        have fin : ∀ {t : List AV} {σ : St}, liftK fn.ntmps (fun e σ => optK (resX e σ rs) fun l => Q (oneOr l) σ) t σ → ∃ r, resA T fn.results.toList t σ = some r ∧ Q r σ := by
          rintro t σ ⟨e, h1, h2, h3⟩
          obtain ⟨l, hl, hQ⟩ := optK_some h3
          exact ⟨_, by unfold resA; rw [resX_eq hrs, resX_le h1 σ rs l hl]; rfl, hQ⟩
        refine awp_mono trivial c (fun x t σ hq => ?_) (awp_of_aC hm hcc hle hN h)
        cases x with
        | normal => exact fin hq
        | ret => exact fin hq
        | _ => exact (let ⟨_, _, _, h⟩ := hq; h).elim
    · cases hc
  · cases hc
end Go.Ab
