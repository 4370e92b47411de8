/-
  The abstract machine of this work, part 11b: regions whose order is drawn and that hold calls and stores: what turns nothing may be taken first, if it gives the same behind each of them.
-/
import Derived.Test.YtpejbkckppnamaaDoorAbCall
set_option linter.all false
set_option linter.unusedVariables false
set_option linter.unusedSimpArgs false
namespace Go.Ab
open Go Go.RowKit

section
variable {P : Program} {T : TT} {G : GT} {t t' : List AV} {σ : St}
theorem evs_congr : ∀ {xs : List Operand}, (∀ x ∈ xs, ev G t x = ev G t' x) → evs G t xs = evs G t' xs
  | [], _ => rfl
  | x :: xs, h => by
    simp only [evs]
    rw [h x (by simp), evs_congr (fun y hy => h y (by simp [hy]))]
theorem evps_congr : ∀ {xs : List (Nat × Operand)}, (∀ p ∈ xs, ev G t p.2 = ev G t' p.2) → evps G t xs = evps G t' xs
  | [], _ => rfl
  | (i, x) :: xs, h => by
    simp only [evps]
    rw [h (i, x) (by simp), evps_congr (fun y hy => h y (by simp [hy]))]
theorem evo_congr {x : Option Operand} (h : ∀ y, x = some y → ev G t y = ev G t' y) : evo G t x = evo G t' x := by
  cases x with
  | none => rfl
  | some y => simp only [evo]; rw [h y rfl]
theorem opP_congr {op : Op} (h : ∀ x ∈ op.operands, ev G t x = ev G t' x) : opP T G t σ op = opP T G t' σ op := by
  cases op <;> simp only [Op.operands] at h <;> simp only [opP]
  case build ty ps => rw [evps_congr fun p hp => h p.2 (by simpa using ⟨p.1, Array.mem_toList_iff.1 hp⟩)]
  case makeFunc f a b => rw [evs_congr fun x hx => h x (by simp at hx ⊢; exact .inl hx), evs_congr fun x hx => h x (by simp at hx ⊢; exact .inr hx)]
  case slice ty x lo hi mx => rw [h x (by simp), evo_congr fun y hy => h y (by simp [hy]), evo_congr fun y hy => h y (by simp [hy]), evo_congr fun y hy => h y (by simp [hy])]
  case pick c a b => rw [h c (by simp), h a (by simp), h b (by simp)]
  case binOp op xt x y _ => rw [h x (by simp), h y (by simp)]
  case indexAddr ty x i => rw [h x (by simp), h i (by simp)]
  case index ty x i => rw [h x (by simp), h i (by simp)]
  case call c =>
    simp only [Call.operands] at h
    split
    · rename_i x ty tys h1 h2 h3
      have hx : x ∈ c.args := by
        have : x ∈ c.args.toList := by rw [h2]; simp
        simpa using this
      rw [h x (by simp [hx])]
    · rfl
  all_goals first | rfl | (rename_i x; rw [h x (by simp)]) | (rename_i x _; rw [h x (by simp)]) | (rename_i x _ _; rw [h x (by simp)])
theorem opM_congr {op : Op} (h : ∀ x ∈ op.operands, ev G t x = ev G t' x) : opM T G t σ op = opM T G t' σ op := by
  cases op <;> simp only [Op.operands] at h <;> simp only [opM]
  case box ty x => rw [h x (by simp)]
  case buildSlice ty len ps => rw [evps_congr fun p hp => h p.2 (by simpa using ⟨p.1, Array.mem_toList_iff.1 hp⟩)]
  case store ty a x => rw [h a (by simp), h x (by simp)]
  case call c =>
    simp only [Call.operands] at h
    split
    · rename_i s x ts tx h1 h2 h3
      have hs : s ∈ c.args := by
        have : s ∈ c.args.toList := by rw [h2]; simp
        simpa using this
      have hx : x ∈ c.args := by
        have : x ∈ c.args.toList := by rw [h2]; simp
        simpa using this
      rw [h s (by simp [hs]), h x (by simp [hx])]
    · rfl
theorem moreOf_operands {op : Op} {m : MO} {xs : List Operand} (h : moreOf T op = some (m, xs)) : ∀ x ∈ xs, x ∈ op.operands := by
  unfold moreOf at h
  split at h
  · split at h
    · split at h
      · cases h; intro x hx; simpa [Op.operands] using hx
      · cases h
    · cases h
  · split at h
    · cases h; intro x hx; simpa [Op.operands] using hx
    · cases h
  · repeat' (split at h)
    all_goals first | (cases h; done) | (cases h; intro x hx; simpa [Op.operands] using hx)
  · split at h
    · cases h; intro x hx; simp only [Op.operands, Call.operands]; simp at hx ⊢; exact .inr hx
    · cases h; intro x hx; simp only [Op.operands, Call.operands]; simp at hx ⊢; exact .inr hx
    · cases h
  · cases h
theorem opN_congr {op : Op} (h : ∀ x ∈ op.operands, ev G t x = ev G t' x) : opN T G t σ op = opN T G t' σ op := by
  unfold opN
  rw [opM_congr h]
  cases hm : moreOf T op with
  | none => rfl
  | some p =>
    obtain ⟨m, xs⟩ := p
    simp only []
    rw [evs_congr fun x hx => h x (moreOf_operands hm x hx)]
theorem callOf_congr {op : Op} (h : ∀ x ∈ op.operands, ev G t x = ev G t' x) : callOf G t op = callOf G t' op := by
  cases op <;> try rfl
  rename_i c
  simp only [callOf]
  cases hc : c.callee <;> try rfl
  rename_i f
  simp only [Op.operands, Call.operands, hc] at h
  simp only []
  rw [h f (by simp), evs_congr fun x hx => h x (by simp at hx ⊢; exact .inr hx)]

theorem ev_putA {dst : Option Tmp} {v : AV} {x : Operand} (h : ∀ d, dst = some d → x ≠ .tmp d) : ev G (putA t dst v) x = ev G t x := by
  cases dst with
  | none => rfl
  | some d =>
    cases x with
    | tmp n =>
      have hne : d ≠ n := fun e => h d rfl (e ▸ rfl)
      simp only [ev, putA]
      rw [List.getElem?_set_ne hne]
    | _ => rfl
theorem putA_comm {x y : Option Tmp} (v u : AV) (h : ∀ d, x = some d → y ≠ some d) : putA (putA t x v) y u = putA (putA t y u) x v := by
  cases x with
  | none => rfl
  | some d =>
    cases y with
    | none => rfl
    | some e =>
      have hne : d ≠ e := fun he => h d rfl (he ▸ rfl)
      simp only [putA]
      exact List.set_comm _ _ hne
theorem ev_look {ops : Array Oper} {o : Oper} {dst : Option Tmp} {v : AV} (h : ∀ d, dst = some d → d ∉ o.looksAt ops) : ∀ x ∈ o.op.operands, ev G (putA t dst v) x = ev G t x := fun x hx => ev_putA fun d hd hxd => h d hd (by
    subst hxd
    exact List.mem_append_left _ (List.mem_filterMap.2 ⟨.tmp d, by simpa using hx, rfl⟩))
theorem wantedA_put {ops : Array Oper} {o : Oper} {dst : Option Tmp} {v : AV} (h : ∀ d, dst = some d → d ∉ o.looksAt ops) : wantedA ops o (putA t dst v) = wantedA ops o t := by
  cases dst with
  | none => rfl
  | some d =>
    unfold wantedA
    cases hg : o.guard with
    | none => rfl
    | some gw =>
      obtain ⟨g, want⟩ := gw
      have hy : yieldedA ops (putA t (some d) v) g = yieldedA ops t g := by
        unfold yieldedA
        cases ht : (ops[g]?).bind (·.dst) with
        | none => rfl
        | some n =>
          have hne : d ≠ n := fun e => h d rfl (by subst e; simp [Oper.looksAt, hg, ht])
          simp only [Option.bind_some, putA]
          rw [List.getElem?_set_ne hne]
      simp only [hy]

/-- In every state that meets S the operation gives v and turns nothing. -/
def YieldsA (T : TT) (G : GT) (ops : Array Oper) (S : St → Prop) (o : Oper) (v : AV) (t : List AV) : Prop :=
  (wantedA ops o t = true ∧ isCall o.op = false ∧ ∀ σ, S σ → opP T G t σ o.op = some v) ∨ (wantedA ops o t = false ∧ v = undefA)
theorem YieldsA.put {ops : Array Oper} {S : St → Prop} {o : Oper} {v : AV} (hy : YieldsA T G ops S o v t) {dst : Option Tmp} {u : AV} (h : ∀ d, dst = some d → d ∉ o.looksAt ops) : YieldsA T G ops S o v (putA t dst u) := by
  unfold YieldsA at *
  rw [wantedA_put h]
  refine hy.imp (fun ⟨h1, h2, h3⟩ => ⟨h1, h2, fun σ hS => ?_⟩) id
  rw [opP_congr (ev_look h)]
  exact h3 σ hS
theorem aOp_mono {o : Oper} {K K' : List AV → St → Prop} (hk : ∀ t σ, K t σ → K' t σ) (h : aOp P T G o K t σ) : aOp P T G o K' t σ := by
  unfold aOp at *
  split
  · rename_i hc
    rw [if_pos hc] at h
    split
    · rename_i hcall; rw [hcall] at h; exact h.mono fun r σ' hq => hk _ _ hq
    · rename_i hcall; rw [hcall] at h; exact h
  · rename_i hc
    rw [if_neg hc] at h
    split
    · rename_i hr; rw [hr] at h; exact hk _ _ h
    · rename_i hr
      rw [hr] at h
      split
      · rename_i hn; rw [hn] at h; exact hk _ _ h
      · rename_i hn; rw [hn] at h; exact h
theorem aWpOp_mono {ops : Array Oper} {i : Nat} {K K' : List AV → St → Prop} (hk : ∀ t σ, K t σ → K' t σ) (h : aWpOp P T G ops K i t σ) : aWpOp P T G ops K' i t σ := by
  unfold aWpOp at *
  split
  · rename_i he; rw [he] at h; exact hk _ _ h
  · rename_i o he
    rw [he] at h
    simp only at h
    split
    · rename_i hw; rw [if_pos hw] at h; exact aOp_mono hk h
    · rename_i hw; rw [if_neg hw] at h; exact hk _ _ h
theorem aAny_mono {ops : Array Oper} {K K' : List AV → St → Prop} (hk : ∀ t σ, K t σ → K' t σ) : ∀ (fuel : Nat) {listed : Array Bool} {t : List AV} {σ : St}, aAny P T G ops K fuel listed t σ → aAny P T G ops K' fuel listed t σ
  | 0, _, _, _, h => ⟨h.1, hk _ _ h.2⟩
  | fuel + 1, _, _, _, h => ⟨fun e => hk _ _ (h.1 e), fun i hi => aWpOp_mono (fun _ _ => aAny_mono hk fuel) (h.2 i hi)⟩

theorem aWpOp_put {ops : Array Oper} {S : St → Prop} {j : Nat} {oi oj : Oper} {v : AV} (hj : ops[j]? = some oj) (hap : oi.apart ops oj = true) {K : List AV → St → Prop} (hy : YieldsA T G ops S oi v t)
    (h : aWpOp P T G ops K j (putA t oi.dst v) σ) : aWpOp P T G ops (fun t' σ' => YieldsA T G ops S oi v t' ∧ K (putA t' oi.dst v) σ') j t σ := by
  obtain ⟨h1, h2, h3⟩ := Oper.apart_spec hap
  have fin : ∀ u σ', K (putA (putA t oi.dst v) oj.dst u) σ' → YieldsA T G ops S oi v (putA t oj.dst u) ∧ K (putA (putA t oj.dst u) oi.dst v) σ' := fun u σ' hk => ⟨hy.put h3, by rw [← putA_comm v u h2]; exact hk⟩
  unfold aWpOp at *
  simp only [hj] at h ⊢
  rw [wantedA_put h1] at h
  split
  · rename_i hw
    rw [if_pos hw] at h
    unfold aOp at *
    rw [callOf_congr (ev_look h1), opP_congr (ev_look h1), opN_congr (ev_look h1)] at h
    split
    · rename_i hc
      rw [if_pos hc] at h
      split
      · rename_i hcall; rw [hcall] at h; exact h.mono fun r σ' hq => fin _ _ hq
      · rename_i hcall; rw [hcall] at h; exact h
    · rename_i hc
      rw [if_neg hc] at h
      split
      · rename_i hr; rw [hr] at h; exact fin _ _ h
      · rename_i hr
        rw [hr] at h
        split
        · rename_i hn; rw [hn] at h; exact fin _ _ h
        · rename_i hn; rw [hn] at h; exact h
  · rename_i hw
    rw [if_neg hw] at h
    exact fin _ _ h
theorem YieldsA.wpOp {ops : Array Oper} {S : St → Prop} {i : Nat} {o : Oper} {v : AV} (hi : ops[i]? = some o) (hy : YieldsA T G ops S o v t) {K : List AV → St → Prop} (hS : S σ) (h : K (putA t o.dst v) σ) : aWpOp P T G ops K i t σ := by
  unfold aWpOp
  simp only [hi]
  rcases hy with ⟨hw, hc, hv⟩ | ⟨hw, rfl⟩
  · rw [if_pos hw]
    unfold aOp
    rw [if_neg (by rw [hc]; decide), hv σ hS]
    exact h
  · rw [if_neg (by rw [hw]; decide)]
    exact h

/-- Whatever order is picked, and S holds behind each one. -/
def aAnyH (P : Program) (T : TT) (G : GT) (ops : Array Oper) (K : List AV → St → Prop) (S : St → Prop) : Nat → Array Bool → List AV → St → Prop
  | 0, listed, t, σ => Region.ready .any ops listed = [] ∧ K t σ
  | fuel + 1, listed, t, σ => (Region.ready .any ops listed = [] → K t σ) ∧ ∀ i ∈ Region.ready .any ops listed, aWpOp P T G ops (fun t' σ' => S σ' ∧ aAnyH P T G ops K S fuel (listed.setIfInBounds i true) t' σ') i t σ
theorem aAnyH_weak {ops : Array Oper} {K : List AV → St → Prop} {S S' : St → Prop} (hs : ∀ σ, S σ → S' σ) : ∀ (fuel : Nat) {listed : Array Bool} {t : List AV} {σ : St}, aAnyH P T G ops K S fuel listed t σ → aAnyH P T G ops K S' fuel listed t σ
  | 0, _, _, _, h => h
  | fuel + 1, _, _, _, h => ⟨h.1, fun i hi => aWpOp_mono (fun _ _ hh => ⟨hs _ hh.1, aAnyH_weak hs fuel hh.2⟩) (h.2 i hi)⟩
theorem aAny_of_held {ops : Array Oper} {K : List AV → St → Prop} {S : St → Prop} : ∀ (fuel : Nat) {listed : Array Bool} {t : List AV} {σ : St}, aAnyH P T G ops K S fuel listed t σ → aAny P T G ops K fuel listed t σ
  | 0, _, _, _, h => h
  | fuel + 1, _, _, _, h => ⟨h.1, fun i hi => aWpOp_mono (fun _ _ hh => aAny_of_held fuel hh.2) (h.2 i hi)⟩
theorem aAnyH_first {ops : Array Oper} {K : List AV → St → Prop} {S : St → Prop} {i : Nat} {oi : Oper} {v : AV} (hi : ops[i]? = some oi) :
    ∀ (fuel : Nat) (listed : Array Bool) (t : List AV) (σ : St),
      (∀ j oj, ops[j]? = some oj → j ≠ i → listed.getD j true = false → (∀ e ∈ oj.after, Region.binds .any e = true → e.on ≠ i) → oi.apart ops oj = true) →
      i ∈ Region.ready .any ops listed → YieldsA T G ops S oi v t → S σ →
      aAnyH P T G ops K S fuel (listed.setIfInBounds i true) (putA t oi.dst v) σ → aAnyH P T G ops K S (fuel + 1) listed t σ := by
  intro fuel
  induction fuel with
  | zero =>
    intro listed t σ _ hr hy hS H
    refine ⟨fun h => (by rw [h] at hr; cases hr), fun j hj => ?_⟩
    by_cases hji : j = i
    · subst hji; exact hy.wpOp hi hS ⟨hS, H⟩
    · have := ready_mono hj hji
      rw [H.1] at this
      cases this
  | succ fuel ih =>
    intro listed t σ hfree hr hy hS H
    refine ⟨fun h => (by rw [h] at hr; cases hr), fun j hj => ?_⟩
    by_cases hji : j = i
    · subst hji; exact hy.wpOp hi hS ⟨hS, H⟩
    · have h1 := H.2 j (ready_mono hj hji)
      obtain ⟨hjun, oj, hoj, hall⟩ := mem_ready.1 hj
      have hnot : ∀ e ∈ oj.after, Region.binds .any e = true → e.on ≠ i := fun e he hb heq => by
        have h1 := hall e he hb
        have h0 := (mem_ready.1 hr).1
        rw [heq] at h1
        rcases Nat.lt_or_ge i listed.size with h' | h'
        · simp [h'] at h0 h1; rw [h0] at h1; cases h1
        · simp [Array.getElem?_eq_none h'] at h1
      have h2 := aWpOp_put hoj (hfree j oj hoj hji hjun hnot) hy h1
      have hfree' : ∀ k ok, ops[k]? = some ok → k ≠ i → (listed.setIfInBounds j true).getD k true = false →
          (∀ e ∈ ok.after, Region.binds .any e = true → e.on ≠ i) → oi.apart ops ok = true := fun k ok hk hki hun hno => by
        refine hfree k ok hk hki ?_ hno
        by_cases hjk : j = k
        · subst hjk; exact hjun
        · rw [getD_set_ne true hjk] at hun; exact hun
      refine aWpOp_mono (fun t' σ' h3 => ⟨h3.2.1, ih (listed.setIfInBounds j true) t' σ' hfree' (ready_mono hr (Ne.symm hji)) h3.1 h3.2.1 ?_⟩) h2
      rw [Array.setIfInBounds_comm _ _ hji]
      exact h3.2.2
theorem aAnyH_take {ops : Array Oper} {K : List AV → St → Prop} {S : St → Prop} {i : Nat} {oi : Oper} {v : AV} {fuel : Nat} {listed : Array Bool} (hi : ops[i]? = some oi) (hf : Region.free .any ops listed i = true) (hr : (Region.ready .any ops listed).contains i = true)
    (hy : YieldsA T G ops S oi v t) (hS : S σ) (h : aAnyH P T G ops K S fuel (listed.setIfInBounds i true) (putA t oi.dst v) σ) : aAnyH P T G ops K S (fuel + 1) listed t σ :=
  aAnyH_first hi fuel listed t σ (Region.free_spec hi hf) (by simpa using hr) hy hS h
end
end Go.Ab
