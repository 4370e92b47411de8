/-
  sync.Once, one goroutine: its parts.
-/
import Derived.Test.YtpejbkckppnamaaGreatDoorLib
import Derived.Tactics
import Derived.Tactics2
import Derived.Defers
import Derived.Laws.Pointers
import Derived.Laws.LoneSync
import Derived.RegionTactic
import Derived.RegionCalls
import Derived.ChangeAlike
import Derived.Test.YtpejbkckppnamaaGreatDoorAbB
import Derived.Test.YtpejbkckppnamaaGreatDoorAbG
import Derived.Test.YtpejbkckppnamaaGreatDoorTok
set_option linter.all false
set_option linter.unusedVariables false
set_option linter.unusedSimpArgs false
namespace Go.Ab.Sz
open Go Go.Ab Go.Proofs Go.RowKit
set_option maxRecDepth 100000
theorem o_disable (w : World) : (callFunc 159 #[]).run Tryz.prog w = .ok (.value (.tuple #[])) w := run_call_mark0 Tryz.func159 (by kernel_rfl) (by kernel_rfl) (by kernel_rfl) .disable (by kernel_rfl) w
theorem o_enable (w : World) : (callFunc 161 #[]).run Tryz.prog w = .ok (.value (.tuple #[])) w := run_call_mark0 Tryz.func161 (by kernel_rfl) (by kernel_rfl) (by kernel_rfl) .enable (by kernel_rfl) w
theorem o_acquire (a : Addr) (w : World) : (callFunc 162 #[.pointer (some a)]).run Tryz.prog w = .ok (.value (.tuple #[])) w := run_call_marked Tryz.func162 (by kernel_rfl) (by kernel_rfl) (by kernel_rfl) .acquire (by kernel_rfl) a w
theorem o_releaseMerge (a : Addr) (w : World) : (callFunc 164 #[.pointer (some a)]).run Tryz.prog w = .ok (.value (.tuple #[])) w := run_call_marked Tryz.func164 (by kernel_rfl) (by kernel_rfl) (by kernel_rfl) .releaseMerge (by kernel_rfl) a w
theorem o_store (a : Addr) (x : Value) (u : FrameMode) (w : World) (hc : w.cell? a = some x) (hz : w.frozen? a = false) :
    CallsD Tryz.prog 141 #[.pointer (some a), .bool true] u w fun e u' w' => u' = u ∧ (e = .returned (.tuple #[]) ∧ w' = w.drew.setCell a (.int .u32 1)) := by
  have hc' : w.drew.cell? a = some x := by go_simp
  have hz' : w.drew.frozen? a = false := by go_simp
  have hst := run_call_store (P := Tryz.prog) Tryz.func149 (by kernel_rfl) (by kernel_rfl) (by kernel_rfl) (by kernel_rfl) (k := .u32) (y := 1) hc' hz'
  go_enter_d Tryz.func141, Tryz.ntmps141
  go_wp2
  go_region_calls
  all_goals (go_end0; exact ⟨rfl, rfl⟩)
theorem o_unlock (a : Addr) (u : FrameMode) (w : World) (hc : w.cell? a = some (.int .i32 1)) (hz : w.frozen? a = false) :
    CallsD Tryz.prog 140 #[.pointer (some a)] u w fun e u' w' => u' = u ∧ (e = .returned (.tuple #[]) ∧ w' = w.setCell a (.int .i32 0)) := by
  have hd := o_disable
  have he := o_enable
  have hr := o_releaseMerge
  have hadd := run_call_add (P := Tryz.prog) Tryz.func165 (by kernel_rfl) (by kernel_rfl) (by kernel_rfl) .i32 (by kernel_rfl) (y := -1) (s := 0) hc hz (by simp [go_sem]; rfl)
  have hcv := run_convert_to_unsafe (P := Tryz.prog) (src := 209) (dst := 165) Tryz.underlying209 Tryz.underlying165 (by kernel_rfl) hc
  go_enter_d Tryz.func140, Tryz.ntmps140
  go_wp2
  go_end0
  go_wp2
  go_end0
  exact ⟨rfl, rfl⟩
theorem o_lock (a : Addr) (w : World) (hc : w.cell? a = some (.int .i32 0)) (hz : w.frozen? a = false) :
    Calls Tryz.prog 139 #[.pointer (some a)] w fun e w' => e = .returned (.tuple #[]) ∧ w' = w.setCell a (.int .i32 1) := by
  have hd := o_disable
  have he := o_enable
  have ha := o_acquire
  have hcas := run_call_cas_hit (P := Tryz.prog) Tryz.func160 (by kernel_rfl) (by kernel_rfl) (by kernel_rfl) .i32 (by kernel_rfl) (y := 1) hc hz
  have hc' : (w.setCell a (.int .i32 1)).cell? a = some (.int .i32 1) := World.cell?_setCell_same w a _ hc
  have hcv := run_convert_to_unsafe (P := Tryz.prog) (src := 209) (dst := 165) Tryz.underlying209 Tryz.underlying165 (by kernel_rfl) hc'
  go_enter Tryz.func139, Tryz.ntmps139
  go_wp2
  first | go_end0 | (simp only [Exit.inBlock, Exit.then]; refine bodyPost_ret (results_none rfl _ _ _) rfl ?_) | refine bodyPost_ret (results_none rfl _ _ _) rfl ?_
  go_wp2
  go_end0
  exact ⟨rfl, rfl⟩
end Go.Ab.Sz
namespace Go.Ab.Sz
open Go Go.Ab Go.Proofs Go.RowKit
set_option maxRecDepth 100000
theorem o_load (a : Addr) (w : World) (h0 : w.cell? a = some (.int .u32 0)) : Calls Tryz.prog 125 #[.pointer (some a)] w fun e w' => e = .returned (.bool false) ∧ w' = w := by
  have hl := run_call_load (P := Tryz.prog) Tryz.func138 (by kernel_rfl) (by kernel_rfl) (by kernel_rfl) .u32 (by kernel_rfl) h0
  go_enter Tryz.func125, Tryz.ntmps125
  go_wp2
  all_goals first | (go_end0; exact ⟨rfl, rfl⟩) | (go_ret; exact ⟨rfl, rfl⟩)
set_option maxHeartbeats 3200000 in
theorem o_slow (b : Nat) (w : World) (R : World → Prop)
    (h0 : w.cell? ⟨b, 0, none⟩ = some (.int .u32 0)) (h1 : w.cell? ⟨b, 1, none⟩ = some (.int .i32 0)) (_f0 : w.frozen? ⟨b, 0, none⟩ = false) (f1 : w.frozen? ⟨b, 1, none⟩ = false)
    (hf : Calls Tryz.prog 115 #[.pointer (some ⟨b, 0, none⟩)] (w.setCell ⟨b, 1, none⟩ (.int .i32 1)) fun e w' => e = .returned (.tuple #[]) ∧ w'.cell? ⟨b, 0, none⟩ = some (.int .u32 0) ∧ w'.cell? ⟨b, 1, none⟩ = some (.int .i32 1) ∧ w'.frozen? ⟨b, 0, none⟩ = false ∧ w'.frozen? ⟨b, 1, none⟩ = false ∧ R w') :
    Calls Tryz.prog 126 #[.pointer (some ⟨b, 0, none⟩), .func (.func 115) #[.pointer (some ⟨b, 0, none⟩)] #[]] w fun e w' => e = .returned (.tuple #[]) ∧ ∃ w1, R w1 ∧ w' = (w1.drew.setCell ⟨b, 0, none⟩ (.int .u32 1)).setCell ⟨b, 1, none⟩ (.int .i32 0) := by
  have hl := run_call_load (P := Tryz.prog) Tryz.func138 (by kernel_rfl) (by kernel_rfl) (by kernel_rfl) .u32 (by kernel_rfl) (w := w.setCell ⟨b, 1, none⟩ (.int .i32 1)) (a := ⟨b, 0, none⟩) (x := 0) ((World.cell?_setCell_other _ ⟨b, 1, none⟩ ⟨b, 0, none⟩ _ (by simp)).trans h0)
  have hnot : ∀ (x : Bool) (w : World), (Op.unary .not (.bool x)).run Tryz.prog w = .ok (.bool (!x)) w := fun _ _ => rfl
  go_enter_defers Tryz.func126, Tryz.ntmps126
  go_wp2_with (go_at_call 139; refine (o_lock ⟨b, 1, none⟩ _ (by go_simp) (by go_simp)).mono ?_; rintro e w' ⟨rfl, rfl⟩)
  refine (o_load ⟨b, 0, none⟩ _ (by go_simp)).mono ?_
  rintro e w' ⟨rfl, rfl⟩
  go_wp2_with (go_at_call 115; refine hf.mono ?_; rintro e w1 ⟨rfl, hA, hB, fA, fB, hR⟩)
  simp only [bodyPostD]
  refine leaves_cons (f := 141) (args := #[.pointer (some ⟨b, 0, none⟩), .bool true]) (by simp) (by simp [go_sem]) ?_
  refine (o_store ⟨b, 0, none⟩ (.int .u32 0) .returning _ hA fA).mono ?_
  rintro e u' w'' ⟨rfl, rfl, rfl⟩
  refine leaves_cons (f := 140) (args := #[.pointer (some ⟨b, 1, none⟩)]) (by simp [settle]) (by simp [go_sem]) ?_
  refine (o_unlock ⟨b, 1, none⟩ _ _ ?_ (by simp [fB])).mono ?_
  · refine (World.cell?_setCell_other _ ⟨b, 0, none⟩ ⟨b, 1, none⟩ _ (by simp)).trans ?_
    rw [World.cell?_drew]; exact hB
  rintro e u' w'' ⟨rfl, rfl, rfl⟩
  simp [Leaves, settle, results, Tryz.results126]
  exact ⟨w1, hR, rfl⟩
end Go.Ab.Sz
namespace Go.Ab.Sz
open Go Go.Ab Go.Proofs Go.RowKit
set_option maxRecDepth 100000
set_option maxHeartbeats 3200000 in
theorem o_do (b : Nat) (w : World) (R : World → Prop)
    (h0 : w.cell? ⟨b, 0, none⟩ = some (.int .u32 0)) (h1 : w.cell? ⟨b, 1, none⟩ = some (.int .i32 0)) (f0 : w.frozen? ⟨b, 0, none⟩ = false) (f1 : w.frozen? ⟨b, 1, none⟩ = false)
    (hf : Calls Tryz.prog 115 #[.pointer (some ⟨b, 0, none⟩)] (w.setCell ⟨b, 1, none⟩ (.int .i32 1)) fun e w' => e = .returned (.tuple #[]) ∧ w'.cell? ⟨b, 0, none⟩ = some (.int .u32 0) ∧ w'.cell? ⟨b, 1, none⟩ = some (.int .i32 1) ∧ w'.frozen? ⟨b, 0, none⟩ = false ∧ w'.frozen? ⟨b, 1, none⟩ = false ∧ R w') :
    Calls Tryz.prog 114 #[.pointer (some ⟨b, 0, none⟩), .func (.func 115) #[.pointer (some ⟨b, 0, none⟩)] #[]] w fun e w' => e = .returned (.tuple #[]) ∧ ∃ w1, R w1 ∧ w' = (w1.drew.setCell ⟨b, 0, none⟩ (.int .u32 1)).setCell ⟨b, 1, none⟩ (.int .i32 0) := by
  have hnot : ∀ (x : Bool) (w : World), (Op.unary .not (.bool x)).run Tryz.prog w = .ok (.bool (!x)) w := fun _ _ => rfl
  go_enter Tryz.func114, Tryz.ntmps114
  go_wp2_with (first | (go_at_call 125; refine (o_load ⟨b, 0, none⟩ _ h0).mono ?_; rintro e w' ⟨rfl, rfl⟩) | (go_at_call 126; refine (o_slow b _ R h0 h1 f0 f1 hf).mono ?_; rintro e w' ⟨rfl, w1, hR, rfl⟩))
  all_goals first | (go_end0; exact ⟨rfl, w1, hR, rfl⟩) | trace_state
end Go.Ab.Sz
namespace Go.Ab.Sz
open Go Go.Ab Go.Proofs Go.RowKit
set_option maxRecDepth 100000
theorem run_enter {f : FuncId} {fn : Func} (hf : Tryz.prog.funcs[f]? = some fn) (hb : fn.body.isSome = true) (hn : (fn.name == "runtime.NumGoroutine") = false) (vs : Array Value) (w : World) : (callFunc f vs).run Tryz.prog w = .ok (.enter f vs) w := by
  unfold callFunc
  rw [Sem.run_bind, run_program, Result.andThen_ok]
  have hb' : fn.body.isNone = false := by cases hq : fn.body <;> simp_all
  simp only [hf, hb', hn, Bool.false_eq_true, if_false, Sem.run_pure]
theorem onceDo_c {m : Int} {σ : St} {K : AV → St → Prop} (b : Nat) (T : TypeId) (rest : List AV) (hv : getV σ b = some (.cells T (.int .u32 0 :: .int .i32 0 :: rest)))
    (hcall : ACalls Tryz.prog (gD m) 115 [.vp b 0] (σ.setV b (.cells T (.int .u32 0 :: .int .i32 1 :: rest))) (fun r σ' => r = .tup [] ∧ ∃ rest', getV σ' b = some (.cells T (.int .u32 0 :: .int .i32 1 :: rest')) ∧ K (.tup []) (σ'.setV b (.cells T (.int .u32 1 :: .int .i32 0 :: rest'))))) :
    ACalls Tryz.prog (gD m) 114 [.vp b 0, .fn (.func 115) [.vp b 0] []] σ K := by
  intro C w vs h0 hg hr
  obtain ⟨us, rfl, hb, hr⟩ := hr.vp_inv
  cases hr with
  | cons _ vf _ us2 h1 h2 =>
    cases h2
    cases h1 with
    | fn _ _ _ vf vc g1 g2 =>
      obtain ⟨us3, rfl, _, g1⟩ := g1.vp_inv
      rw [g1.nil_inv]
      cases g2
      obtain ⟨cs, hw, hcs⟩ := h0.var b _ hv
      obtain ⟨us4, rfl⟩ : ∃ us4, cs = .int .u32 0 :: .int .i32 0 :: us4 := by
        cases hcs with | cons _ _ _ _ a t => cases a; cases t with | cons _ _ _ _ a2 t2 => cases a2; exact ⟨_, rfl⟩
      have c0 : w.cell? ⟨C.ρ b, 0, none⟩ = some (.int .u32 0) := by rw [cell_heap hw]; rfl
      have c1 : w.cell? ⟨C.ρ b, 1, none⟩ = some (.int .i32 0) := by rw [cell_heap hw]; rfl
      have f0 : w.frozen? ⟨C.ρ b, 0, none⟩ = false := by rw [frozen_heap hw]; rfl
      have f1 : w.frozen? ⟨C.ρ b, 1, none⟩ = false := by rw [frozen_heap hw]; rfl
      have hv' : σ.vars[b]? = some (.cells T (.int .u32 0 :: .int .i32 0 :: rest)) := hv
      have st1 : stAt σ (.vp b 1) [.int .i32 1] = some (σ.setV b (.cells T (.int .u32 0 :: .int .i32 1 :: rest))) := by
        simp only [stAt, hv']; rw [if_pos (by simp)]; rfl
      obtain ⟨_, _, e1, _, rel1⟩ := stAt_sound h0 (Rep.vp b 1 hb) (.cons _ _ _ _ (Rep.int .i32 1) .nil) st1
      cases e1
      have hc := hcall C _ _ rel1 hg (.cons _ _ _ _ (Rep.vp b 0 hb) .nil)
      unfold CallsX at hc ⊢
      rw [run_enter Tryz.func115 rfl (by decide)] at hc
      rw [run_enter Tryz.func114 rfl (by decide)]
      refine (o_do (C.ρ b) w (fun w' => ∃ σ' C' rest', C.le C' ∧ HRel C' σ' w' ∧ getV σ' b = some (.cells T (.int .u32 0 :: .int .i32 1 :: rest')) ∧ K (.tup []) (σ'.setV b (.cells T (.int .u32 1 :: .int .i32 0 :: rest')))) c0 c1 f0 f1 (hc.mono ?_)).mono ?_
      · rintro e w' ⟨v, rfl, r, σ', C', hle, hrel, hrep, rfl, rest', hg', hK⟩
        cases hrep with
        | tup _ _ hrep =>
          cases hrep
          have hρ : C'.ρ b = C.ρ b := hle.rho b hb
          obtain ⟨cs, hw, hcs⟩ := hrel.var b _ hg'
          obtain ⟨us4, rfl⟩ : ∃ us4, cs = .int .u32 0 :: .int .i32 1 :: us4 := by
            cases hcs with | cons _ _ _ _ a t => cases a; cases t with | cons _ _ _ _ a2 t2 => cases a2; exact ⟨_, rfl⟩
          rw [hρ] at hw
          exact ⟨rfl, by rw [cell_heap hw]; rfl, by rw [cell_heap hw]; rfl, by rw [frozen_heap hw]; rfl, by rw [frozen_heap hw]; rfl, σ', C', rest', hle, hrel, hg', hK⟩
      · rintro e w' ⟨rfl, w1, ⟨σ', C', rest', hle, hrel, hg', hK⟩, rfl⟩
        have hb' : b < C'.nv := hrel.nv ▸ (List.getElem?_eq_some_iff.1 hg').1
        have hρ : C'.ρ b = C.ρ b := hle.rho b hb
        have hg2 : σ'.vars[b]? = some (.cells T (.int .u32 0 :: .int .i32 1 :: rest')) := hg'
        have s1 : stAt σ' (.vp b 0) [.int .u32 1] = some (σ'.setV b (.cells T (.int .u32 1 :: .int .i32 1 :: rest'))) := by
          simp only [stAt, hg2]; rw [if_pos (by simp)]; rfl
        obtain ⟨_, _, e1, _, r1⟩ := stAt_sound hrel.drew (Rep.vp b 0 hb') (.cons _ _ _ _ (Rep.int .u32 1) .nil) s1
        cases e1
        have hg3 : (σ'.setV b (.cells T (.int .u32 1 :: .int .i32 1 :: rest'))).vars[b]? = some (.cells T (.int .u32 1 :: .int .i32 1 :: rest')) := by
          simp only [St.setV]; exact List.getElem?_set_self (List.getElem?_eq_some_iff.1 hg2).1
        have s2 : stAt (σ'.setV b (.cells T (.int .u32 1 :: .int .i32 1 :: rest'))) (.vp b 1) [.int .i32 0] = some ((σ'.setV b (.cells T (.int .u32 1 :: .int .i32 1 :: rest'))).setV b (.cells T (.int .u32 1 :: .int .i32 0 :: rest'))) := by
          simp only [stAt, hg3]; rw [if_pos (by simp)]; rfl
        obtain ⟨_, _, e2, _, r2⟩ := stAt_sound r1 (Rep.vp b 1 (by exact hb')) (.cons _ _ _ _ (Rep.int .i32 0) .nil) s2
        cases e2
        have e3 : (σ'.setV b (.cells T (.int .u32 1 :: .int .i32 1 :: rest'))).setV b (.cells T (.int .u32 1 :: .int .i32 0 :: rest')) = σ'.setV b (.cells T (.int .u32 1 :: .int .i32 0 :: rest')) := by simp [St.setV]
        rw [e3] at r2
        refine ⟨_, rfl, .tup [], _, C', hle, ?_, .tup [] [] .nil, hK⟩
        rw [hρ] at r2
        exact r2
end Go.Ab.Sz
namespace Go.Ab.Sz
open Go Go.Ab Go.Proofs Go.RowKit
set_option maxRecDepth 40000
set_option linter.unusedSimpArgs false
/-- Signs, and what stands for them, as they are handed in. -/
def prE (p : UInt8 × List UInt8) : List (List AV) := [[.str [p.1]], [.str p.2]]
def prsE (Ps : List (UInt8 × List UInt8)) : List (List AV) := Ps.flatMap prE
theorem prs_at : ∀ (Ps : List (UInt8 × List UInt8)) (k : Nat) (p : UInt8 × List UInt8), Ps[k]? = some p → (prsE Ps)[2 * k]? = some [.str [p.1]] ∧ (prsE Ps)[2 * k + 1]? = some [.str p.2]
  | [], k, p, h => by simp at h
  | q :: Ps, 0, p, h => by simp at h; subst h; exact ⟨rfl, rfl⟩
  | q :: Ps, k + 1, p, h => by
    have ih := prs_at Ps k p (by simpa using h)
    have e : prsE (q :: Ps) = [.str [q.1]] :: [.str q.2] :: prsE Ps := rfl
    rw [e, show 2 * (k + 1) = 2 * k + 1 + 1 by omega]
    simpa using ih
theorem prs_len (Ps : List (UInt8 × List UInt8)) : (prsE Ps).length = 2 * Ps.length := by
  induction Ps with
  | nil => rfl
  | cons q Ps ih =>
    have e : prsE (q :: Ps) = [.str [q.1]] :: [.str q.2] :: prsE Ps := rfl
    rw [e, List.length_cons, List.length_cons, ih, List.length_cons]; omega
theorem prs_uni (Ps : List (UInt8 × List UInt8)) : ∀ c ∈ prsE Ps, c.length = 1 := by
  intro c hc
  obtain ⟨p, _, hp⟩ := List.mem_flatMap.1 hc
  simp [prE] at hp
  rcases hp with rfl | rfl <;> rfl
theorem prs_ones (Ps : List (UInt8 × List UInt8)) : (prsE Ps).all (fun c => c.all AV.one) = true := by
  rw [List.all_eq_true]
  intro c hc
  obtain ⟨p, _, hp⟩ := List.mem_flatMap.1 hc
  simp [prE] at hp
  rcases hp with rfl | rfl <;> rfl
section
variable {m : Int} {σ : St} {K : AV → St → Prop}
theorem NewReplacer_c (Ps : List (UInt8 × List UInt8)) (h0 : Ps ≠ []) (hl : Ps.length < 1000) (x : AV) (hx : elsA σ x = some (prsE Ps)) (hln : lenlX x = some (.int .i64 (2 * Ps.length : Nat)))
    (hK : ∀ r σ1, getR σ1 r = some (some ⟨9, 1, 0, prsE Ps⟩) → RB σ σ1 none (some r) → K (.vp (nvs σ) 0) (σ1.pushV (.cells 158 [.int .u32 0, .int .i32 0, .int .u32 0, .nili, .os r 0 (2 * Ps.length)]))) : ACalls Tryz.prog (gD m) 92 [x] σ K := by
  have t0 : (Int.tmod ((2 * Ps.length : Nat) : Int) 2 == 1) = false := by
    have : Int.tmod ((2 * Ps.length : Nat) : Int) 2 = 0 := by
      rw [Int.tmod_eq_emod_of_nonneg (by omega)]; omega
    rw [this]; rfl
  have hne : prsE Ps ≠ [] := fun e => h0 (by have := prs_len Ps; rw [e, List.length_nil] at this; exact List.eq_nil_of_length_eq_zero (by omega))
  have hpl := prs_len Ps
  refine ACalls_fn tok fm (fk92 _) ?_
  simp (disch := first | omega | (simp only [ln]; first | done | omega)) only [walkAll, walkL, walkK, wk, E, Nat.reduceEqDiff, Nat.reduceAdd, Nat.reduceSub, Nat.reduceLeDiff, Int.reduceLT, Int.reduceLE, Int.reduceAdd, Int.reduceSub, Int.reduceToNat, ↓reduceIte, c92, hln, t0]
  refine data_copy hx (prs_uni Ps) (prs_ones Ps) (by omega) fun v1 σ1 ρ1 ho1 hb1 _ h2 => ?_
  obtain ⟨r, rfl, rfl, hr⟩ := h2 hne
  rw [hpl]
  simp (disch := first | omega | (simp only [ln]; first | done | omega)) only [walkAll, walkL, walkK, wk, E, Nat.reduceEqDiff, Nat.reduceAdd, Nat.reduceSub, Nat.reduceLeDiff, Int.reduceLT, Int.reduceLE, Int.reduceAdd, Int.reduceSub, Int.reduceToNat, ↓reduceIte]
  rw [hb1.nvs]
  exact hK r σ1 hr hb1
end
end Go.Ab.Sz
namespace Go.Ab.Sz
open Go Go.Ab Go.Proofs Go.RowKit
set_option maxRecDepth 40000
set_option linter.unusedSimpArgs false
/-- The table of what stands for signs, and the signs. -/
structure Tbl (σ : St) (L : List AV) (Q : List (UInt8 × List UInt8)) (v : AV) (ρ : Option Nat) : Prop where
  len : L.length = 257
  cell : ∀ c : UInt8, match Q.lookup c with
    | none => L[c.toNat]? = some .nils
    | some nw => ∃ r, L[c.toNat]? = some (.os r 0 nw.length) ∧ getR σ r = some (some ⟨5, 1, 0, bytesE nw⟩) ∧ some r ≠ ρ
  last : L[256]? = some v
  own : Own 9 1 σ v (Q.reverse.map fun p => [.str [p.1]]) ρ
theorem Tbl.step {τ τ1 σ' : St} {L : List AV} {Q : List (UInt8 × List UInt8)} {v v' : AV} {ρ ρ' : Option Nat} {b : Nat} {X : VB} {y : Row} {p : UInt8 × List UInt8} (hT : Tbl τ L Q v ρ) (h1 : τ1 = τ.pushR y) (ho' : Own 9 1 σ' v' ((Q.reverse.map fun p => [.str [p.1]]) ++ [[.str [p.1]]]) ρ') (hb' : RowsBut τ1 σ' ρ ρ') :
    Tbl ((σ'.setV b X).pushR ⟨5, 1, 0, bytesE p.2⟩) ((L.set 256 v').set p.1.toNat (.os (nrs σ') 0 p.2.length)) (p :: Q) v' ρ' := by
  have hlt := p.1.toNat_lt
  have hl := hT.len
  refine ⟨by simp [hl], fun c => ?_, ?_, ?_⟩
  · have hct := c.toNat_lt
    cases hc : c == p.1 with
    | true =>
      have : c = p.1 := by simpa using hc
      subst this
      have e : List.lookup p.1 (p :: Q) = some p.2 := by
        obtain ⟨a, w⟩ := p
        simp [List.lookup]
      rw [e]
      refine ⟨nrs σ', by rw [List.getElem?_set_self (by rw [List.length_set, hl]; omega)], by simp [getR, nrs, St.pushR, St.setV], fun he => ?_⟩
      rw [← he] at ho'
      have := ho'.lt
      omega
    | false =>
      have hne : c ≠ p.1 := by simpa using hc
      have hn : p.1.toNat ≠ c.toNat := fun e => hne (UInt8.toNat_inj.1 e.symm)
      have e : List.lookup c (p :: Q) = List.lookup c Q := by
        obtain ⟨a, w⟩ := p
        simp only at hc
        simp [List.lookup, hc]
      rw [e]
      have h := hT.cell c
      have hg : ∀ x, L[c.toNat]? = some x → ((L.set 256 v').set p.1.toNat (.os (nrs σ') 0 p.2.length))[c.toNat]? = some x := fun x hx => by
        rw [List.getElem?_set_ne hn, List.getElem?_set_ne (by omega)]; exact hx
      cases hq : List.lookup c Q with
      | none => rw [hq] at h; exact hg _ h
      | some nw =>
        rw [hq] at h
        obtain ⟨r, a1, a2, a3⟩ := h
        have hr1 : getR τ1 r = getR τ r := by
          rw [h1]; exact (getR_push a2 y).trans a2.symm
        have hrl : r < nrs τ1 := getR_lt (hr1.trans a2)
        refine ⟨r, hg _ a1, ?_, fun he => ?_⟩
        · have : getR σ' r = _ := (hb'.row r a3 hrl).trans (hr1.trans a2)
          exact getR_push (by exact this) _
        · rcases hb'.new with e1 | ⟨r', e1, e2⟩
          · exact a3 (he.trans e1)
          · rw [e1] at he
            have : r = r' := by simpa using he
            omega
  · rw [List.getElem?_set_ne (by omega), List.getElem?_set_self (by omega)]
  · have e : ((p :: Q).reverse.map fun p => [AV.str [p.1]]) = (Q.reverse.map fun p => [.str [p.1]]) ++ [[.str [p.1]]] := by simp
    rw [e]
    exact (ho'.setV b X).pushR _
theorem lookup_no (c : UInt8) : ∀ (Q : List (UInt8 × List UInt8)), (∀ q ∈ Q, c ≠ q.1) → Q.lookup c = none
  | [], _ => rfl
  | (a, w) :: Q, h => by
    have h1 : (c == a) = false := by simpa using h (a, w) (by simp)
    simp only [List.lookup, h1]
    exact lookup_no c Q fun q hq => h q (by simp [hq])
theorem ld_at {L : List AV} {n : Nat} {x : AV} (h : L[n]? = some x) : List.take 1 (L.drop n) = [x] := by
  have hlt := (List.getElem?_eq_some_iff.1 h).1
  rw [List.drop_eq_getElem_cons hlt]
  have := (List.getElem?_eq_some_iff.1 h).2
  simp [this]
section
variable {m : Int} {σ : St} {K : AV → St → Prop}
theorem bld_loop0 (Ps : List (UInt8 × List UInt8)) (hl : Ps.length < 1000) (v : AV) (hR : Rd 1 σ v (prsE Ps)) {Q : EQ} : ∀ (rest : List (UInt8 × List UInt8)) (k : Nat) (a : Bool) (e : Env), Ps.drop k = rest → e 3 = some v → e 4 = some (.bool a) → e 5 = some (.int .i64 (2 * k : Nat)) →
    (∀ p ∈ rest, p.2.length < 1000000) →
    (∀ e', e' 0 = e 0 → e' 3 = some v → e' 4 = some (.bool (a && rest.all fun p => p.2.length == 1)) → Q (.exit 0) e' σ) → LoopC Tryz.prog tt (gD m) l127_0 Q e σ := by
  intro rest
  have hln := hR.len
  rw [prs_len] at hln
  induction rest with
  | nil =>
    intro k a e hd h3 h4 h5 hb hq
    have hk : Ps.length ≤ k := by simpa using hd
    have d : decide (((2 * k : Nat) : Int) < ((2 * Ps.length : Nat) : Int)) = false := decide_eq_false (by omega)
    refine LoopC_unfold tok fm ?_
    simp (disch := first | omega | (simp only [ln]; first | done | omega)) only [walkAll, walkL, walkK, wk, E, Nat.reduceEqDiff, Nat.reduceAdd, Nat.reduceSub, Nat.reduceLeDiff, Int.reduceLT, Int.reduceLE, Int.reduceAdd, Int.reduceSub, Int.reduceToNat, ↓reduceIte, l127_0x, l127_0b, h3, h5, hln, d]
    exact hq _ (by simp [put]) (by simp [put, h3]) (by simp [put, h4])
  | cons p rest ih =>
    intro k a e hd h3 h4 h5 hb hq
    obtain ⟨hp, hd'⟩ := drop_cons hd
    have hlt := (List.getElem?_eq_some_iff.1 hp).1
    obtain ⟨g1, g2⟩ := prs_at Ps k p hp
    obtain ⟨p1, hp1, hpt1⟩ := hR.at (i := 2 * k) (c := [.str [p.1]]) g1 .i64
    obtain ⟨p2, hp2, hpt2⟩ := hR.at (i := 2 * k + 1) (c := [.str p.2]) g2 .i64
    have d : decide (((2 * k : Nat) : Int) < ((2 * Ps.length : Nat) : Int)) = true := decide_eq_true (by omega)
    have n1 : ((1 : Int) != 1) = false := rfl
    have w1 : IntKind.i64.wrap (((2 * k : Nat) : Int) + 1) = ((2 * k + 1 : Nat) : Int) := by rw [wrap_i64 _ (by omega) (by omega)]; omega
    have w2 : IntKind.i64.wrap (((2 * k : Nat) : Int) + 2) = ((2 * (k + 1) : Nat) : Int) := by rw [wrap_i64 _ (by omega) (by omega)]; omega
    have hld1 := hpt1.one
    have hld2 := hpt2.one
    refine LoopC_unfold tok fm ?_
    simp (disch := first | omega | (simp only [ln]; first | done | omega)) only [walkAll, walkL, walkK, wk, E, Nat.reduceEqDiff, Nat.reduceAdd, Nat.reduceSub, Nat.reduceLeDiff, Int.reduceLT, Int.reduceLE, Int.reduceAdd, Int.reduceSub, Int.reduceToNat, ↓reduceIte, l127_0x, l127_0b, h3, h5, hln, d, hp1, hld1, n1, w1, hp2, hld2, List.length_cons, List.length_nil]
    have hq1 : (((p.2.length : Nat) : Int) != 1) = !(p.2.length == 1) := by
      rw [bne, Bool.not_inj_iff, Bool.eq_iff_iff]; simp; omega
    cases g : (p.2.length == 1) with
    | true =>
      simp (disch := first | omega | (simp only [ln]; first | done | omega)) only [walkAll, walkL, walkK, wk, E, Nat.reduceEqDiff, Nat.reduceAdd, Nat.reduceSub, Nat.reduceLeDiff, Int.reduceLT, Int.reduceLE, Int.reduceAdd, Int.reduceSub, Int.reduceToNat, ↓reduceIte, hq1, g, Bool.not_true, h5, w2]
      refine ih (k + 1) a _ hd' (by simp [put, h3]) (by simp [put, h4]) (by simp [put]) (fun x hx => hb x (by simp [hx])) (fun e' a0 a3 a4 => hq e' (by rw [a0]; simp [put]) a3 (by rw [a4]; simp [g]))
    | false =>
      simp (disch := first | omega | (simp only [ln]; first | done | omega)) only [walkAll, walkL, walkK, wk, E, Nat.reduceEqDiff, Nat.reduceAdd, Nat.reduceSub, Nat.reduceLeDiff, Int.reduceLT, Int.reduceLE, Int.reduceAdd, Int.reduceSub, Int.reduceToNat, ↓reduceIte, hq1, g, Bool.not_false, h5, w2]
      refine ih (k + 1) false _ hd' (by simp [put, h3]) (by simp [put]) (by simp [put]) (fun x hx => hb x (by simp [hx])) (fun e' a0 a3 a4 => hq e' (by rw [a0]; simp [put]) a3 (by rw [a4]; simp [g]))
theorem b2s_one (τ : St) (e : TypeId) (x : UInt8) : b2sX (τ.pushR ⟨e, 1, 0, [[.int .u8 x.toNat]]⟩) (.os (nrs τ) 0 1) = some (.str [x]) := by
  have hr : (τ.pushR ⟨e, 1, 0, [[.int .u8 x.toNat]]⟩).rows[nrs τ]? = some (some ⟨e, 1, 0, [[.int .u8 x.toNat]]⟩) := by simp [nrs, St.pushR]
  simp [b2sX, elsA, hr, unB]
theorem bld_loop3 (Ps : List (UInt8 × List UInt8)) (hl : Ps.length < 1000) (hdist : Ps.Pairwise fun a b => a.1 ≠ b.1) (hlen : ∀ p ∈ Ps, p.2.length < 1000000) (rO b2 : Nat) (σ0 : St) (hr0 : getR σ0 rO = some (some ⟨9, 1, 0, prsE Ps⟩)) (hb2 : nvs σ0 ≤ b2) {Q : EQ} : ∀ (k : Nat) (L : List AV) (v : AV) (ρ : Option Nat) (τ : St) (e : Env),
    k ≤ Ps.length → Tbl τ L (Ps.drop k) v ρ → (∀ r, ρ = some r → nrs σ0 ≤ r) → Grown σ0 τ → getV τ b2 = some (.cells 185 L) → e 3 = some (.os rO 0 (2 * Ps.length)) → e 11 = some (.vp b2 0) → e 12 = some (.int .i64 (2 * (k : Int) - 2)) →
    (∀ L' v' ρ' τ' e', Tbl τ' L' Ps v' ρ' → Grown σ0 τ' → getV τ' b2 = some (.cells 185 L') → e' 0 = e 0 → e' 11 = some (.vp b2 0) → Q (.exit 6) e' τ') → LoopC Tryz.prog tt (gD m) l127_3 Q e τ := by
  intro k
  induction k with
  | zero =>
    intro L v ρ τ e hk hT hρ hg hv h3 h11 h12 hq
    have d : decide ((0 : Int) ≤ -2) = false := rfl
    have e0 : (2 * ((0 : Nat) : Int) - 2) = -2 := rfl
    rw [e0] at h12
    refine LoopC_unfold tok fm ?_
    simp (disch := first | omega | (simp only [ln]; first | done | omega)) only [walkAll, walkL, walkK, wk, E, Nat.reduceEqDiff, Nat.reduceAdd, Nat.reduceSub, Nat.reduceLeDiff, Int.reduceLT, Int.reduceLE, Int.reduceAdd, Int.reduceSub, Int.reduceToNat, ↓reduceIte, l127_3x, l127_3b, h3, h12, d]
    exact hq L v ρ τ _ (by simpa using hT) hg hv (by simp [put]) (by simp [put, h11])
  | succ k ih =>
    intro L v ρ τ e hk hT hρ hg hv h3 h11 h12 hq
    have d : decide ((0 : Int) ≤ 2 * ((k + 1 : Nat) : Int) - 2) = true := decide_eq_true (by omega)
    obtain ⟨p, hp⟩ : ∃ p, Ps[k]? = some p := ⟨Ps[k], List.getElem?_eq_getElem (by omega)⟩
    obtain ⟨g1, g2⟩ := prs_at Ps k p hp
    have hrt : getR τ rO = some (some ⟨9, 1, 0, prsE Ps⟩) := by
      obtain ⟨a, c, rfl⟩ := hg
      simp only [getR] at *
      rw [List.getElem?_append_left (List.getElem?_eq_some_iff.1 hr0).1]; exact hr0
    have hR : ∀ τ, getR τ rO = some (some ⟨9, 1, 0, prsE Ps⟩) → Rd 1 τ (.os rO 0 (2 * Ps.length)) (prsE Ps) := fun τ h => ⟨prs_uni Ps, .inr (.inr (.inr ⟨rO, 0, _, by rw [prs_len], h, rfl, by simp⟩))⟩
    obtain ⟨p1, hp1, hpt1⟩ := (hR τ hrt).at (i := 2 * k) (c := [.str [p.1]]) g1 .i64
    obtain ⟨p2, hp2, hpt2⟩ := (hR τ hrt).at (i := 2 * k + 1) (c := [.str p.2]) g2 .i64
    have e1 : (2 * ((k + 1 : Nat) : Int) - 2) = ((2 * k : Nat) : Int) := by omega
    rw [e1] at h12 d
    have w1 : IntKind.i64.wrap (((2 * k : Nat) : Int) + 1) = ((2 * k + 1 : Nat) : Int) := by rw [wrap_i64 _ (by omega) (by omega)]; omega
    have hld1 := hpt1.one
    have hld2 := hpt2.one
    have hlL := hT.len
    have hc := hT.cell p.1
    have hno : (Ps.drop (k + 1)).lookup p.1 = none := by
      have hps : Ps.drop k = p :: Ps.drop (k + 1) := by
        rw [List.drop_eq_getElem_cons (show k < Ps.length by omega)]
        congr 1
        exact (List.getElem?_eq_some_iff.1 hp).2
      have hpw : (p :: Ps.drop (k + 1)).Pairwise fun a b => a.1 ≠ b.1 := by rw [← hps]; exact hdist.sublist (List.drop_sublist _ _)
      exact lookup_no _ _ (List.pairwise_cons.1 hpw).1
    rw [hno] at hc
    simp only at hc
    have hlt := p.1.toNat_lt
    have hle := ld_at hc
    have hix : ixaX 256 1 (.vp b2 0) (.int .u8 p.1.toNat) = some (.vp b2 p.1.toNat) := by simp only [ixaX]; rw [if_pos ⟨by omega, by omega⟩]; simp
    have hnn : AV.nils = AV.nils := rfl
    refine LoopC_unfold tok fm ?_
    simp (disch := first | omega | (simp only [ln]; first | done | omega)) only [walkAll, walkL, walkK, wk, E, Nat.reduceEqDiff, Nat.reduceAdd, Nat.reduceSub, Nat.reduceLeDiff, Int.reduceLT, Int.reduceLE, Int.reduceAdd, Int.reduceSub, Int.reduceToNat, ↓reduceIte, l127_3x, l127_3b, h3, h11, h12, d, hp1, hld1, w1, hp2, hld2, hv, hlL, hix, hle]
    refine ⟨by omega, ?_⟩
    simp (disch := first | omega | (simp only [ln]; first | done | omega)) only [walkAll, walkL, walkK, wk, E, Nat.reduceEqDiff, Nat.reduceAdd, Nat.reduceSub, Nat.reduceLeDiff, Int.reduceLT, Int.reduceLE, Int.reduceAdd, Int.reduceSub, Int.reduceToNat, ↓reduceIte, ld_at hT.last, h11, hv, b2s_one]
    rw [show nrs τ + 1 = nrs (τ.pushR ⟨5, 1, 0, [[.int .u8 p.1.toNat]]⟩) by simp only [nvsR]]
    refine own_app (e := 9) (z := 1) (b := 16) (c := [.str [p.1]]) (hT.own.pushR _) rfl rfl (by simp only [List.length_map, List.length_reverse, List.length_drop]; omega) (fun v' σ' ρ' ho' hb' => ?_)
    have hv' : getV σ' b2 = some (.cells 185 L) := by rw [hb'.getV]; exact hv
    have hnw : nrs τ ≤ nrs σ' := by have := hb'.grow; simp only [nvsR] at this; omega
    have hltb := getV_lt hv'
    have w3 : IntKind.i64.wrap (((2 * k : Nat) : Int) - 2) = 2 * (k : Int) - 2 := by rw [wrap_i64 _ (by omega) (by omega)]; omega
    simp (disch := first | omega | (simp only [ln]; first | done | omega)) only [walkAll, walkL, walkK, wk, E, Nat.reduceEqDiff, Nat.reduceAdd, Nat.reduceSub, Nat.reduceLeDiff, Int.reduceLT, Int.reduceLE, Int.reduceAdd, Int.reduceSub, Int.reduceToNat, ↓reduceIte, h11, h12, hv', hlL, ho'.cells, hix, List.length_set, w3]
    refine ⟨by omega, ?_⟩
    have hT' := hT.step (b := b2) (X := .cells 185 ((L.set 256 v').set p.1.toNat (.os (nrs σ') 0 p.2.length))) rfl ho' hb'
    have hdr : p :: Ps.drop (k + 1) = Ps.drop k := by
      rw [List.drop_eq_getElem_cons (show k < Ps.length by omega)]
      congr 1
      exact (List.getElem?_eq_some_iff.1 hp).2.symm
    rw [hdr] at hT'
    have hρ' : ∀ r, ρ' = some r → nrs σ0 ≤ r := fun r hr => by
      have := hg.nrs
      rcases hb'.new with e1 | ⟨r', e1, e2⟩
      · exact hρ r (e1.symm.trans hr)
      · rw [e1] at hr; cases hr
        have e3 : nrs τ ≤ nrs (τ.pushR ⟨5, 1, 0, [[.int .u8 p.1.toNat]]⟩) := by simp only [nvsR]; omega
        exact Nat.le_trans this (Nat.le_trans e3 e2)
    have hg1 : Grown σ0 σ' := hb'.grown (Grown.pushR hg) hρ
    refine ih _ v' ρ' _ _ (by omega) hT' hρ' ?_ ?_ (by simp [put, h3]) (by simp [put, h11]) (by simp [put]) (fun L' v2 ρ2 τ' e' a1 a2 a3 a4 a5 => hq L' v2 ρ2 τ' e' a1 a2 a3 (by rw [a4]; simp [put]) a5)
    · refine Grown.pushR ?_
      exact Grown.setV hg1 hb2
    · simp (disch := first | omega | (simp only [ln]; first | done | omega)) only [walkAll, walkL, walkK, wk, E, Nat.reduceEqDiff, Nat.reduceAdd, Nat.reduceSub, Nat.reduceLeDiff, Int.reduceLT, Int.reduceLE, Int.reduceAdd, Int.reduceSub, Int.reduceToNat, ↓reduceIte]
end
end Go.Ab.Sz
namespace Go.Ab.Sz
open Go Go.Ab Go.Proofs Go.RowKit
set_option maxRecDepth 40000
set_option linter.unusedSimpArgs false
/-- Signs, and what stands for them, of which a table of bytes is made. -/
structure Prs (Ps : List (UInt8 × List UInt8)) : Prop where
  few : Ps.length < 1000
  two : 2 ≤ Ps.length
  dist : Ps.Pairwise fun a b => a.1 ≠ b.1
  len : ∀ p ∈ Ps, p.2.length < 1000000
  one : (Ps.all fun p => p.2.length == 1) = false
section
variable {m : Int} {σ : St} {K : AV → St → Prop}
theorem build_c (Ps : List (UInt8 × List UInt8)) (hP : Prs Ps) (b r : Nat) (hv : getV σ b = some (.cells 158 [.int .u32 0, .int .i32 1, .int .u32 0, .nili, .os r 0 (2 * Ps.length)])) (hr : getR σ r = some (some ⟨9, 1, 0, prsE Ps⟩))
    (hK : ∀ b2 L v ρ τ, Tbl τ L Ps v ρ → Grown σ τ → getV τ b2 = some (.cells 185 L) → nvs σ ≤ b2 → K (.ifc 186 (.vp b2 0)) τ) : ACalls Tryz.prog (gD m) 127 [.vp b 0] σ K := by
  have hlt := getV_lt hv
  have hR : Rd 1 σ (.os r 0 (2 * Ps.length)) (prsE Ps) := ⟨prs_uni Ps, .inr (.inr (.inr ⟨r, 0, _, by rw [prs_len], hr, rfl, by simp⟩))⟩
  have hln := hR.len
  rw [prs_len] at hln
  have hfew := hP.few
  have htwo := hP.two
  have q2 : (((2 * Ps.length : Nat) : Int) == 2) = false := by rw [beq_eq_false_iff_ne]; omega
  have qd : IntKind.i64.wrap (Int.tdiv ((2 * Ps.length : Nat) : Int) 2) = (Ps.length : Int) := by
    have : Int.tdiv ((2 * Ps.length : Nat) : Int) 2 = (Ps.length : Int) := by
      rw [Int.tdiv_eq_ediv_of_nonneg (by omega)]; omega
    rw [this, wrap_i64 _ (by omega) (by omega)]
  have w3 : IntKind.i64.wrap (((2 * Ps.length : Nat) : Int) - 2) = 2 * (Ps.length : Int) - 2 := by rw [wrap_i64 _ (by omega) (by omega)]; omega
  refine ACalls_fn tok fm (fk127 _) ?_
  simp (disch := first | omega | (simp only [ln]; first | done | omega)) only [walkAll, walkL, walkK, wk, E, Nat.reduceEqDiff, Nat.reduceAdd, Nat.reduceSub, Nat.reduceLeDiff, Int.reduceLT, Int.reduceLE, Int.reduceAdd, Int.reduceSub, Int.reduceToNat, ↓reduceIte, c127, hv, hln, q2]
  refine bld_loop0 Ps hfew _ hR Ps 0 true _ rfl (by simp [put, E]) (by simp [put, E]) (by simp [put, E]) hP.len (fun e' a0 a3 a4 => ?_)
  rw [hP.one] at a4
  simp (disch := first | omega | (simp only [ln]; first | done | omega)) only [walkAll, walkL, walkK, wk, E, Nat.reduceEqDiff, Nat.reduceAdd, Nat.reduceSub, Nat.reduceLeDiff, Int.reduceLT, Int.reduceLE, Int.reduceAdd, Int.reduceSub, Int.reduceToNat, ↓reduceIte, a0, a3, a4, Bool.and_false, hln, qd]
  have hT0 : Tbl ((σ.pushR ⟨9, 1, 0, List.replicate 0 [AV.str []]⟩).pushV (.cells 185 ((List.replicate 257 AV.nils).set 256 (.os (nrs σ) 0 0)))) ((List.replicate 257 AV.nils).set 256 (.os (nrs σ) 0 0)) (Ps.drop Ps.length) (.os (nrs σ) 0 0) (some (nrs σ)) := by
    rw [List.drop_length]
    refine ⟨by simp, fun c => ?_, ?_, ?_⟩
    · have := c.toNat_lt
      show ((List.replicate 257 AV.nils).set 256 (.os (nrs σ) 0 0))[c.toNat]? = some .nils
      rw [List.getElem?_set_ne (by omega), List.getElem?_replicate, if_pos (by omega)]
    · rw [List.getElem?_set_self (by simp)]
    · exact ⟨by simp, .inr ⟨nrs σ, ⟨9, 1, 0, []⟩, rfl, rfl, by simp [getR, nrs, St.pushR, St.pushV], by simp, by simp, rfl, rfl, rfl⟩⟩
  refine ⟨by simp, ?_, by simp, ?_⟩
  · generalize nrs σ = z
    simp only [List.reduceReplicate, List.set_cons_succ, List.set_cons_zero, onesN]
    rfl
  rw [setL_all (by simp)]
  refine bld_loop3 Ps hfew hP.dist hP.len r (nvs σ) σ hr (Nat.le_refl _) Ps.length _ _ _ _ _ (Nat.le_refl _) hT0 (fun r hr => by cases hr; exact Nat.le_refl _) (by repeat first | exact Grown.refl _ | assumption | apply Grown.pushV | apply Grown.pushR | (refine Grown.setV ?_ (by first | omega | (simp only [nvsR]; first | done | omega))) | (refine Grown.setOld ‹_› (by first | omega | (simp only [nvsR]; first | done | omega)) _) | (refine Grown.setOld0 ?_ (by first | omega | (simp only [nvsR]; first | done | omega)) _)) (by simp (disch := first | omega | (simp only [ln]; first | done | omega)) only [walkAll, walkL, walkK, wk, E, Nat.reduceEqDiff, Nat.reduceAdd, Nat.reduceSub, Nat.reduceLeDiff, Int.reduceLT, Int.reduceLE, Int.reduceAdd, Int.reduceSub, Int.reduceToNat, ↓reduceIte]) (by simp [put, a3]) (by simp [put]) (by simp [put]) (fun L' v' ρ' τ' e2 b1 b2 b3 b4 b5 => ?_)
  simp (disch := first | omega | (simp only [ln]; first | done | omega)) only [walkAll, walkL, walkK, wk, E, Nat.reduceEqDiff, Nat.reduceAdd, Nat.reduceSub, Nat.reduceLeDiff, Int.reduceLT, Int.reduceLE, Int.reduceAdd, Int.reduceSub, Int.reduceToNat, ↓reduceIte, b5]
  exact hK _ _ _ _ _ b1 b2 b3 (Nat.le_refl _)
theorem buildOnce_c (Ps : List (UInt8 × List UInt8)) (hP : Prs Ps) (b r : Nat) (hv : getV σ b = some (.cells 158 [.int .u32 0, .int .i32 1, .int .u32 0, .nili, .os r 0 (2 * Ps.length)])) (hr : getR σ r = some (some ⟨9, 1, 0, prsE Ps⟩))
    (hK : ∀ b2 L v ρ τ, Tbl τ L Ps v ρ → Grown σ τ → getV τ b2 = some (.cells 185 L) → nvs σ ≤ b2 → K (.tup []) (τ.setV b (.cells 158 [.int .u32 0, .int .i32 1, .int .u32 0, .ifc 186 (.vp b2 0), .nils]))) : ACalls Tryz.prog (gD m) 115 [.vp b 0] σ K := by
  have hlt := getV_lt hv
  refine ACalls_fn tok fm (fk115 _) ?_
  simp (disch := first | omega | (simp only [ln]; first | done | omega)) only [walkAll, walkL, walkK, wk, E, Nat.reduceEqDiff, Nat.reduceAdd, Nat.reduceSub, Nat.reduceLeDiff, Int.reduceLT, Int.reduceLE, Int.reduceAdd, Int.reduceSub, Int.reduceToNat, ↓reduceIte, c115, hv]
  refine build_c Ps hP b r hv hr (fun b2 L v ρ τ hT hg h2 hb2 => ?_)
  have hv' : getV τ b = some (.cells 158 [.int .u32 0, .int .i32 1, .int .u32 0, .nili, .os r 0 (2 * Ps.length)]) := by
    obtain ⟨g, k, rfl⟩ := hg
    simp only [getV] at *
    rw [List.getElem?_append_left hlt]; exact hv
  have hlt' := getV_lt hv'
  simp (disch := first | omega | (simp only [ln]; first | done | omega)) only [walkAll, walkL, walkK, wk, E, Nat.reduceEqDiff, Nat.reduceAdd, Nat.reduceSub, Nat.reduceLeDiff, Int.reduceLT, Int.reduceLE, Int.reduceAdd, Int.reduceSub, Int.reduceToNat, ↓reduceIte, hv']
  exact hK b2 L v ρ τ hT hg h2 hb2
end
end Go.Ab.Sz
namespace Go.Ab.Sz
open Go Go.Ab Go.Proofs Go.RowKit
set_option maxRecDepth 40000
set_option linter.unusedSimpArgs false
/-- A text with signs replaced. -/
def rep1 (Ps : List (UInt8 × List UInt8)) (c : UInt8) : List UInt8 := match Ps.lookup c with
  | none => [c]
  | some w => w
def repS (Ps : List (UInt8 × List UInt8)) (s : List UInt8) : List UInt8 := s.flatMap (rep1 Ps)
/-- How much a text grows, by the signs. -/
def growB (Ps : List (UInt8 × List UInt8)) (s : List UInt8) : Int := (Ps.map fun p => (s.count p.1 : Int) * ((p.2.length : Int) - 1)).sum
section
variable {m : Int} {σ : St} {K : AV → St → Prop}
theorem CountString_c (s : List UInt8) (c : UInt8) (h : K (.int .i64 (s.count c : Nat)) σ) : ACalls Tryz.prog (gD m) 224 [.str s, .int .u8 c.toNat] σ K := by
  intro C w vs h0 hg ha
  rw [ha.si_inv]
  have hrun : (callFunc 224 ([Value.string ⟨s.toArray⟩, Value.int .u8 c.toNat] : List Value).toArray).run Tryz.prog w = .ok (.value (.int .i64 (s.count c : Nat))) w := by
    rw [run_callFunc_extern Tryz.func224 (by kernel_rfl) (by kernel_rfl) (by kernel_rfl) (e := Extern.BytealgCount.count) (by kernel_rfl)]
    have := Lib.run_countString (P := Tryz.prog) ⟨s.toArray⟩ c.toNat w
    rw [show ([Value.string ⟨s.toArray⟩, Value.int .u8 c.toNat] : List Value).toArray = #[Value.string ⟨s.toArray⟩, Value.int .u8 c.toNat] from rfl, this]
    simp [Lib.countByte]
  unfold CallsX
  rw [hrun]
  exact ⟨_, σ, C, Cz.le.refl C, h0, .int _ _, h⟩
theorem Count_c (s : List UInt8) (c : UInt8) (h : K (.int .i64 (s.count c : Nat)) σ) : ACalls Tryz.prog (gD m) 222 [.str s, .str [c]] σ K := by
  have n0 : ((1 : Int) == 0) = false := rfl
  have n1 : ((1 : Int) == 1) = true := rfl
  refine ACalls_fn tok fm (fk222 _) ?_
  simp (disch := first | omega | (simp only [ln]; first | done | omega)) only [walkAll, walkL, walkK, wk, E, Nat.reduceEqDiff, Nat.reduceAdd, Nat.reduceSub, Nat.reduceLeDiff, Int.reduceLT, Int.reduceLE, Int.reduceAdd, Int.reduceSub, Int.reduceToNat, ↓reduceIte, c222, n0, n1, List.length_cons, List.length_nil, List.getElem?_cons_zero]
  refine CountString_c s c ?_
  simp (disch := first | omega | (simp only [ln]; first | done | omega)) only [walkAll, walkL, walkK, wk, E, Nat.reduceEqDiff, Nat.reduceAdd, Nat.reduceSub, Nat.reduceLeDiff, Int.reduceLT, Int.reduceLE, Int.reduceAdd, Int.reduceSub, Int.reduceToNat, ↓reduceIte]
  exact h
def hit (Ps : List (UInt8 × List UInt8)) (c : UInt8) : Bool := (Ps.lookup c).isSome
theorem repS_app (Ps : List (UInt8 × List UInt8)) (a b : List UInt8) : repS Ps (a ++ b) = repS Ps a ++ repS Ps b := by simp [repS]
theorem rep1_miss {Ps : List (UInt8 × List UInt8)} {c : UInt8} (h : hit Ps c = false) : rep1 Ps c = [c] := by
  unfold hit at h; unfold rep1
  cases hq : Ps.lookup c with
  | none => rfl
  | some w => rw [hq] at h; cases h
theorem lookup_mem : ∀ {Ps : List (UInt8 × List UInt8)} {c : UInt8} {w : List UInt8}, Ps.lookup c = some w → (c, w) ∈ Ps
  | [], _, _, h => by cases h
  | (a, x) :: Ps, c, w, h => by
    simp only [List.lookup] at h
    split at h
    · rename_i g
      have : c = a := by simpa using g
      cases h; subst this; simp
    · exact List.mem_cons_of_mem _ (lookup_mem h)
theorem repS_le (Ps : List (UInt8 × List UInt8)) (hl : ∀ p ∈ Ps, p.2.length < 1000000) : ∀ s : List UInt8, (repS Ps s).length ≤ s.length * 1000000
  | [] => by simp [repS]
  | c :: s => by
    have ih := repS_le Ps hl s
    have h1 : (rep1 Ps c).length ≤ 1000000 := by
      unfold rep1
      split
      · simp
      · rename_i w hw
        exact Nat.le_of_lt (hl _ (lookup_mem hw))
    simp only [repS, List.flatMap_cons, List.length_append, List.length_cons] at *
    omega
/-- The table's cell of a sign. -/
theorem Tbl.miss {τ : St} {L : List AV} {Q : List (UInt8 × List UInt8)} {v : AV} {ρ : Option Nat} (h : Tbl τ L Q v ρ) {c : UInt8} (hc : hit Q c = false) : L[c.toNat]? = some .nils := by
  have := h.cell c
  unfold hit at hc
  cases hq : Q.lookup c with
  | none => rw [hq] at this; exact this
  | some w => rw [hq] at hc; cases hc
theorem Tbl.hit {τ : St} {L : List AV} {Q : List (UInt8 × List UInt8)} {v : AV} {ρ : Option Nat} (h : Tbl τ L Q v ρ) {c : UInt8} (hc : hit Q c = true) : ∃ r, L[c.toNat]? = some (.os r 0 (rep1 Q c).length) ∧ getR τ r = some (some ⟨5, 1, 0, bytesE (rep1 Q c)⟩) ∧ (c, rep1 Q c) ∈ Q := by
  have := h.cell c
  unfold Go.Ab.Sz.hit at hc
  cases hq : Q.lookup c with
  | none => rw [hq] at hc; cases hc
  | some w =>
    rw [hq] at this
    obtain ⟨r, a, b, _⟩ := this
    have e : rep1 Q c = w := by unfold rep1; rw [hq]
    rw [e]
    exact ⟨r, a, b, lookup_mem hq⟩
theorem rpl_loop1 (Ps : List (UInt8 × List UInt8)) (hl : ∀ p ∈ Ps, p.2.length < 1000000) (b2 : Nat) (L : List AV) (v : AV) (ρ : Option Nat) (τ : St) (hT : Tbl τ L Ps v ρ) (hv : getV τ b2 = some (.cells 185 L)) (s : List UInt8) (hs : s.length < 1000000000000) {Q : EQ} :
    ∀ (rest dn : List UInt8) (e : Env), s = dn ++ rest → e 0 = some (.vp b2 0) → e 1 = some (.str s) → e 5 = some (.int .i64 ((repS Ps dn).length + rest.length : Nat)) → e 6 = some (.bool (dn.any (hit Ps))) → e 10 = some (.int .i64 dn.length) →
    (∀ e', e' 0 = some (.vp b2 0) → e' 1 = some (.str s) → e' 5 = some (.int .i64 (repS Ps s).length) → e' 6 = some (.bool (s.any (hit Ps))) → Q (.exit 2) e' τ) → LoopC Tryz.prog tt (gD m) l220_1 Q e τ := by
  intro rest
  induction rest with
  | nil =>
    intro dn e he h0 h1 h5 h6 h10 hq
    have hd : s = dn := by simpa using he
    subst hd
    have d : decide ((s.length : Int) < (s.length : Int)) = false := decide_eq_false (by omega)
    refine LoopC_unfold tok fm ?_
    simp (disch := first | omega | (simp only [ln]; first | done | omega)) only [walkAll, walkL, walkK, wk, E, Nat.reduceEqDiff, Nat.reduceAdd, Nat.reduceSub, Nat.reduceLeDiff, Int.reduceLT, Int.reduceLE, Int.reduceAdd, Int.reduceSub, Int.reduceToNat, ↓reduceIte, l220_1x, l220_1b, h0, h1, h5, h6, h10, d]
    exact hq _ (by simp [put, h0]) (by simp [put, h1]) (by simp [put, h5]) (by simp [put, h6])
  | cons c rest ih =>
    intro dn e he h0 h1 h5 h6 h10 hq
    have hlen : s.length = dn.length + (rest.length + 1) := by rw [he]; simp
    have d : decide ((dn.length : Int) < (s.length : Int)) = true := decide_eq_true (by omega)
    have hgc : s[dn.length]? = some c := by rw [he]; simp
    have hct := c.toNat_lt
    have hix : ixaX 256 1 (.vp b2 0) (.int .u8 c.toNat) = some (.vp b2 c.toNat) := by simp only [ixaX]; rw [if_pos ⟨by omega, by omega⟩]; simp
    have hlL := hT.len
    have hr1 := repS_le Ps hl dn
    have w10 : IntKind.i64.wrap ((dn.length : Int) + 1) = ((dn ++ [c]).length : Int) := by rw [wrap_i64 _ (by omega) (by omega)]; simp
    refine LoopC_unfold tok fm ?_
    cases hh : hit Ps c with
    | false =>
      have hle := ld_at (hT.miss hh)
      simp (disch := first | omega | (simp only [ln]; first | done | omega)) only [walkAll, walkL, walkK, wk, E, Nat.reduceEqDiff, Nat.reduceAdd, Nat.reduceSub, Nat.reduceLeDiff, Int.reduceLT, Int.reduceLE, Int.reduceAdd, Int.reduceSub, Int.reduceToNat, ↓reduceIte, l220_1x, l220_1b, h0, h1, h5, h6, h10, d, hgc, hv, hlL, hix, hle]
      refine ⟨by omega, ?_⟩
      refine ih (dn ++ [c]) _ (by rw [he]; simp) (by simp [put, h0]) (by simp [put, h1]) ?_ ?_ (by simp [put, w10]) hq
      · simp [put, h5, repS_app, repS, rep1_miss hh]; omega
      · simp [put, h6, hh]
    | true =>
      obtain ⟨r, a1, a2, a3⟩ := hT.hit hh
      have hle := ld_at a1
      have hbx : binX .neq (.slice 5) true (.os r 0 (rep1 Ps c).length) .nils = some (.bool true) := rfl
      have hr2 := hl _ a3
      have w80 : IntKind.i64.wrap ((((repS Ps dn).length + (rest.length + 1) : Nat) : Int) + IntKind.i64.wrap (((rep1 Ps c).length : Int) - 1)) = (((repS Ps (dn ++ [c])).length + rest.length : Nat) : Int) := by
        simp only at hr2
        have e1 : (repS Ps (dn ++ [c])).length = (repS Ps dn).length + (rep1 Ps c).length := by simp [repS_app, repS]
        have wi : IntKind.i64.wrap (((rep1 Ps c).length : Int) - 1) = ((rep1 Ps c).length : Int) - 1 := wrap_i64 _ (by omega) (by omega)
        rw [e1, wi, wrap_i64 _ (by omega) (by omega)]
        omega
      simp (disch := first | omega | (simp only [ln]; first | done | omega)) only [walkAll, walkL, walkK, wk, E, Nat.reduceEqDiff, Nat.reduceAdd, Nat.reduceSub, Nat.reduceLeDiff, Int.reduceLT, Int.reduceLE, Int.reduceAdd, Int.reduceSub, Int.reduceToNat, ↓reduceIte, l220_1x, l220_1b, h0, h1, h5, h6, h10, d, hgc, hv, hlL, hix, hle, hbx]
      refine ⟨by omega, by omega, ?_⟩
      refine ih (dn ++ [c]) _ (by rw [he]; simp) (by simp [put, h0]) (by simp [put, h1]) ?_ ?_ (by simp [put, w10]) hq
      · simp only [put, Nat.reduceEqDiff, if_false, if_true]; rw [w80]
      · simp [put, hh]
theorem grow_app (Ps : List (UInt8 × List UInt8)) (c : UInt8) (s : List UInt8) : growB Ps (c :: s) = growB Ps [c] + growB Ps s := by
  induction Ps with
  | nil => rfl
  | cons p Ps ih =>
    simp only [growB, List.map_cons, List.sum_cons] at *
    rw [ih]
    have : (List.count p.1 (c :: s) : Int) = List.count p.1 [c] + List.count p.1 s := by
      rw [List.count_cons, List.count_cons]; simp; omega
    rw [this, Int.add_mul]
    omega
theorem grow_none (Ps : List (UInt8 × List UInt8)) (c : UInt8) (h : ∀ p ∈ Ps, c ≠ p.1) : growB Ps [c] = 0 := by
  induction Ps with
  | nil => rfl
  | cons p Ps ih =>
    have h1 : ([c] : List UInt8).count p.1 = 0 := by
      rw [List.count_eq_zero]; simpa using fun e => h p (by simp) e.symm
    have := ih fun q hq => h q (by simp [hq])
    simp only [growB, List.map_cons, List.sum_cons, h1] at *
    omega
theorem grow_one : ∀ (Ps : List (UInt8 × List UInt8)) (c : UInt8), Ps.Pairwise (fun a b => a.1 ≠ b.1) → growB Ps [c] = (rep1 Ps c).length - 1
  | [], c, _ => by simp [growB, rep1]
  | (a, w) :: Ps, c, h => by
    have hp := List.pairwise_cons.1 h
    cases hc : c == a with
    | true =>
      have : c = a := by simpa using hc
      subst this
      have h1 : rep1 ((c, w) :: Ps) c = w := by simp [rep1, List.lookup]
      have h2 := grow_none Ps c hp.1
      rw [h1]
      simp only [growB, List.map_cons, List.sum_cons] at *
      rw [h2]; simp
    | false =>
      have hne : c ≠ a := by simpa using hc
      have h1 : rep1 ((a, w) :: Ps) c = rep1 Ps c := by simp [rep1, List.lookup, hc]
      have h2 := grow_one Ps c hp.2
      have h3 : ([c] : List UInt8).count a = 0 := by rw [List.count_eq_zero]; simpa using fun e => hne e.symm
      rw [h1]
      simp only [growB, List.map_cons, List.sum_cons, h3] at *
      omega
theorem grow_eq (Ps : List (UInt8 × List UInt8)) (h : Ps.Pairwise (fun a b => a.1 ≠ b.1)) : ∀ s : List UInt8, ((repS Ps s).length : Int) = s.length + growB Ps s
  | [] => by
    have : growB Ps [] = 0 := by
      clear h
      induction Ps with
      | nil => rfl
      | cons p Ps ih => simp only [growB, List.map_cons, List.sum_cons] at *; rw [ih]; simp
    rw [this]; simp [repS]
  | c :: s => by
    have ih := grow_eq Ps h s
    rw [grow_app, grow_one Ps c h]
    simp only [repS, List.flatMap_cons, List.length_append, List.length_cons] at *
    omega
theorem grow_rev (Ps : List (UInt8 × List UInt8)) (s : List UInt8) : growB Ps.reverse s = growB Ps s := by
  unfold growB
  rw [List.map_reverse, List.sum_reverse]
theorem grow_bound (s : List UInt8) (hs : s.length < 1000000000) : ∀ (Ps : List (UInt8 × List UInt8)), (∀ p ∈ Ps, p.2.length < 1000000) → -(Ps.length * 1000000000 : Int) ≤ growB Ps s ∧ growB Ps s ≤ Ps.length * 1000000000000000
  | [], _ => by simp [growB]
  | p :: Ps, h => by
    obtain ⟨i1, i2⟩ := grow_bound s hs Ps fun q hq => h q (by simp [hq])
    have hc : s.count p.1 ≤ s.length := List.count_le_length
    have hp := h p (by simp)
    have e : growB (p :: Ps) s = (s.count p.1 : Int) * ((p.2.length : Int) - 1) + growB Ps s := by simp [growB]
    have a1 : (s.count p.1 : Int) * ((p.2.length : Int) - 1) = (s.count p.1 : Int) * (p.2.length : Int) - s.count p.1 := by rw [Int.mul_sub]; simp
    have a2 : s.count p.1 * p.2.length ≤ 1000000000 * 1000000 := Nat.mul_le_mul (by omega) (by omega)
    have a3 : ((s.count p.1 * p.2.length : Nat) : Int) = (s.count p.1 : Int) * (p.2.length : Int) := by simp
    rw [e, a1, ← a3, List.length_cons]
    omega
theorem hit_any (s : List UInt8) : ∀ (Ps : List (UInt8 × List UInt8)), (Ps.any fun p => s.count p.1 != 0) = s.any (hit Ps) := by
  intro Ps
  rw [Bool.eq_iff_iff, List.any_eq_true, List.any_eq_true]
  constructor
  · rintro ⟨p, hp, hc⟩
    have hm : p.1 ∈ s := by
      rw [← List.count_pos_iff]
      have : s.count p.1 ≠ 0 := by simpa using hc
      omega
    refine ⟨p.1, hm, ?_⟩
    unfold hit
    cases hq : Ps.lookup p.1 with
    | some w => rfl
    | none =>
      exfalso
      induction Ps with
      | nil => cases hp
      | cons q Ps ih =>
        obtain ⟨a, w⟩ := q
        simp only [List.lookup] at hq
        split at hq
        · cases hq
        · rename_i g
          rcases List.mem_cons.1 hp with rfl | hp
          · simp at g
          · exact ih hp hq
  · rintro ⟨c, hc, hh⟩
    unfold hit at hh
    cases hq : Ps.lookup c with
    | none => rw [hq] at hh; cases hh
    | some w =>
      refine ⟨_, lookup_mem hq, ?_⟩
      have := List.count_pos_iff.2 hc
      simp only [bne_iff_ne, ne_eq]
      omega
theorem lookup_dist : ∀ {Ps : List (UInt8 × List UInt8)} {p : UInt8 × List UInt8}, Ps.Pairwise (fun a b => a.1 ≠ b.1) → p ∈ Ps → Ps.lookup p.1 = some p.2
  | [], _, _, h => by cases h
  | (a, w) :: Ps, p, hd, h => by
    have hp := List.pairwise_cons.1 hd
    simp only [List.lookup]
    rcases List.mem_cons.1 h with rfl | h
    · simp
    · have : (p.1 == a) = false := by
        have := hp.1 p h
        rw [beq_eq_false_iff_ne]; exact fun e => this e.symm
      rw [this]
      exact lookup_dist hp.2 h
theorem rpl_loop0 (Ps : List (UInt8 × List UInt8)) (hP : Prs Ps) (b2 : Nat) (L : List AV) (v : AV) (ρ : Option Nat) (τ : St) (hT : Tbl τ L Ps v ρ) (hv : getV τ b2 = some (.cells 185 L)) (s : List UInt8) (hs : s.length < 1000000000) {Q : EQ} :
    ∀ (rest dn : List (UInt8 × List UInt8)) (e : Env), Ps.reverse = dn ++ rest → e 0 = some (.vp b2 0) → e 1 = some (.str s) → e 5 = some (.int .i64 (s.length + growB dn s)) → e 6 = some (.bool (dn.any fun p => s.count p.1 != 0)) → e 30 = some v → e 31 = some (.int .i64 Ps.length) → e 32 = some (.int .i64 dn.length) →
    (∀ e', e' 0 = some (.vp b2 0) → e' 1 = some (.str s) → e' 5 = some (.int .i64 (repS Ps s).length) → e' 6 = some (.bool (s.any (hit Ps))) → Q (.exit 0) e' τ) → LoopC Tryz.prog tt (gD m) l220_0 Q e τ := by
  have hfew := hP.few
  intro rest
  induction rest with
  | nil =>
    intro dn e he h0 h1 h5 h6 h30 h31 h32 hq
    rw [List.append_nil] at he
    subst he
    have d : decide (((Ps.reverse.length : Nat) : Int) < (Ps.length : Int)) = false := decide_eq_false (by simp)
    refine LoopC_unfold tok fm ?_
    simp (disch := first | omega | (simp only [ln]; first | done | omega)) only [walkAll, walkL, walkK, wk, E, Nat.reduceEqDiff, Nat.reduceAdd, Nat.reduceSub, Nat.reduceLeDiff, Int.reduceLT, Int.reduceLE, Int.reduceAdd, Int.reduceSub, Int.reduceToNat, ↓reduceIte, l220_0x, l220_0b, h31, h32, d]
    refine hq _ (by simp [put, h0]) (by simp [put, h1]) ?_ ?_
    · simp only [put, Nat.reduceEqDiff, if_false, h5]; rw [grow_rev, ← grow_eq Ps hP.dist s]
    · simp only [put, Nat.reduceEqDiff, if_false, h6]; rw [List.any_reverse, hit_any]
  | cons p rest ih =>
    intro dn e he h0 h1 h5 h6 h30 h31 h32 hq
    have hlen : Ps.length = dn.length + (rest.length + 1) := by
      have := congrArg List.length he
      simpa using this
    have hm : p ∈ Ps := by rw [← List.mem_reverse, he]; simp
    have hlk := lookup_dist hP.dist hm
    have hhit : hit Ps p.1 = true := by unfold hit; rw [hlk]; rfl
    have hrep : rep1 Ps p.1 = p.2 := by unfold rep1; rw [hlk]
    obtain ⟨r, a1, a2, a3⟩ := hT.hit hhit
    rw [hrep] at a1
    have hle := ld_at a1
    have hlL := hT.len
    have hpt := p.1.toNat_lt
    have hix : ixaX 256 1 (.vp b2 0) (.int .u8 p.1.toNat) = some (.vp b2 p.1.toNat) := by simp only [ixaX]; rw [if_pos ⟨by omega, by omega⟩]; simp
    have hget : (Ps.reverse.map fun p => [AV.str [p.1]])[dn.length]? = some [.str [p.1]] := by rw [he]; simp
    obtain ⟨q, hq1, hq2⟩ := hT.own.rd.at (i := dn.length) (c := [.str [p.1]]) hget .i64
    have hld := hq2.one
    have d : decide ((dn.length : Int) < (Ps.length : Int)) = true := decide_eq_true (by omega)
    have w32 : IntKind.i64.wrap ((dn.length : Int) + 1) = ((dn ++ [p]).length : Int) := by rw [wrap_i64 _ (by omega) (by omega)]; simp
    have hdl : ∀ x ∈ dn, x.2.length < 1000000 := fun x hx => hP.len x (by rw [← List.mem_reverse, he]; simp [hx])
    have hb := grow_bound s hs dn hdl
    have hb2 := grow_bound s hs [p] (fun x hx => by simp at hx; subst hx; exact hP.len _ hm)
    have e1 : growB [p] s = (s.count p.1 : Int) * ((p.2.length : Int) - 1) := by simp [growB]
    have e2 : growB (dn ++ [p]) s = growB dn s + growB [p] s := by simp [growB]
    have hpl := hP.len _ hm
    simp only [List.length_singleton] at hb2
    refine LoopC_unfold tok fm ?_
    simp (disch := first | omega | (simp only [ln]; first | done | omega)) only [walkAll, walkL, walkK, wk, E, Nat.reduceEqDiff, Nat.reduceAdd, Nat.reduceSub, Nat.reduceLeDiff, Int.reduceLT, Int.reduceLE, Int.reduceAdd, Int.reduceSub, Int.reduceToNat, ↓reduceIte, l220_0x, l220_0b, h0, h1, h5, h6, h30, h31, h32, d, hq1, hld]
    refine Count_c s p.1 ?_
    cases hc : (s.count p.1 != 0) with
    | false =>
      have hc0 : s.count p.1 = 0 := by simpa using hc
      have hcz : ((s.count p.1 : Int) != 0) = false := by rw [hc0]; rfl
      simp (disch := first | omega | (simp only [ln]; first | done | omega)) only [walkAll, walkL, walkK, wk, E, Nat.reduceEqDiff, Nat.reduceAdd, Nat.reduceSub, Nat.reduceLeDiff, Int.reduceLT, Int.reduceLE, Int.reduceAdd, Int.reduceSub, Int.reduceToNat, ↓reduceIte, hcz, h32]
      refine ih (dn ++ [p]) _ (by rw [he]; simp) (by simp [put, h0]) (by simp [put, h1]) ?_ ?_ (by simp [put, h30]) (by simp [put, h31]) (by simp [put, w32]) hq
      · simp only [put, Nat.reduceEqDiff, if_false, h5]; rw [e2, e1, hc0]; simp
      · simp [put, h6, hc0]
    | true =>
      have hc0 : s.count p.1 ≠ 0 := by simpa using hc
      have hcz : ((s.count p.1 : Int) != 0) = true := by rw [bne_iff_ne]; omega
      have wi : IntKind.i64.wrap ((p.2.length : Int) - 1) = (p.2.length : Int) - 1 := wrap_i64 _ (by omega) (by omega)
      have wm : IntKind.i64.wrap ((s.count p.1 : Int) * ((p.2.length : Int) - 1)) = growB [p] s := by rw [← e1]; exact wrap_i64 _ (by omega) (by omega)
      have wa : IntKind.i64.wrap ((s.length : Int) + growB dn s + growB [p] s) = (s.length : Int) + growB (dn ++ [p]) s := by
        have hdn : dn.length < 1000 := by omega
        rw [e2, wrap_i64 _ (by omega) (by omega)]; omega
      simp (disch := first | omega | (simp only [ln]; first | done | omega)) only [walkAll, walkL, walkK, wk, E, Nat.reduceEqDiff, Nat.reduceAdd, Nat.reduceSub, Nat.reduceLeDiff, Int.reduceLT, Int.reduceLE, Int.reduceAdd, Int.reduceSub, Int.reduceToNat, ↓reduceIte, hcz, h0, h1, h5, h32, hv, hlL, hix, hle, List.getElem?_cons_zero, wi, wm, wa]
      refine ⟨by omega, ?_⟩
      refine ih (dn ++ [p]) _ (by rw [he]; simp) (by simp [put, h0]) (by simp [put, h1]) (by simp [put]) ?_ (by simp [put, h30]) (by simp [put, h31]) (by simp [put, w32]) hq
      simp [put, hc0]
/-! ### The text that is made -/
def buf (σ : St) (rb N : Nat) (out : List UInt8) : St := σ.setR rb (some ⟨5, 1, 0, bytesE out ++ List.replicate (N - out.length) [.int .u8 0]⟩)
theorem buf_get {rb N : Nat} {out : List UInt8} (h : rb < nrs σ) : getR (buf σ rb N out) rb = some (some ⟨5, 1, 0, bytesE out ++ List.replicate (N - out.length) [.int .u8 0]⟩) := by
  simp only [buf, getR, St.setR, nrs] at *
  rw [List.getElem?_set_self h]
theorem buf_other {rb N r : Nat} {out : List UInt8} (h : r ≠ rb) : getR (buf σ rb N out) r = getR σ r := by
  simp only [buf, getR, St.setR]
  rw [List.getElem?_set_ne (Ne.symm h)]
theorem setR_row {r : Nat} {x : Option Row} (h : getR σ r = some x) : σ.setR r x = σ := by
  cases σ with
  | mk vs rs =>
    simp only [getR, St.setR] at *
    congr 1
    obtain ⟨hlt, he⟩ := List.getElem?_eq_some_iff.1 h
    rw [← he]; exact List.set_getElem_self hlt
theorem bytesE_len (l : List UInt8) : (bytesE l).length = l.length := by simp [bytesE]
theorem buf_els (N : Nat) (out w : List UInt8) (h : out.length + w.length ≤ N) :
    (bytesE out ++ List.replicate (N - out.length) [AV.int .u8 0]).take out.length ++ bytesE w ++ (bytesE out ++ List.replicate (N - out.length) [AV.int .u8 0]).drop (out.length + w.length) = bytesE (out ++ w) ++ List.replicate (N - (out ++ w).length) [.int .u8 0] := by
  have hb := bytesE_len out
  have e1 : (bytesE out ++ List.replicate (N - out.length) [AV.int .u8 0]).take out.length = bytesE out := by
    rw [← hb, List.take_left]
  have e2 : (bytesE out ++ List.replicate (N - out.length) [AV.int .u8 0]).drop (out.length + w.length) = List.replicate (N - (out ++ w).length) [AV.int .u8 0] := by
    rw [← List.drop_drop]
    conv => lhs; arg 2; rw [← hb]
    rw [List.drop_left, List.drop_replicate, List.length_append]
    congr 1; omega
  rw [e1, e2]
  simp [bytesE]
theorem buf_st {rb N : Nat} {out : List UInt8} {c : UInt8} (hr : rb < nrs σ) (h : out.length < N) : stX 1 (buf σ rb N out) (.op rb out.length 0) (.int .u8 c.toNat) = some (buf σ rb N (out ++ [c])) := by
  have hg := buf_get (σ := σ) (N := N) (out := out) hr
  have hb := bytesE_len out
  have hn : (bytesE out ++ List.replicate (N - out.length) [AV.int .u8 0])[out.length]? = some [.int .u8 0] := by
    rw [List.getElem?_append_right (by omega), List.getElem?_replicate, if_pos (by omega)]
  have hs : stX 1 (buf σ rb N out) (.op rb out.length 0) (.int .u8 c.toNat) = some ((buf σ rb N out).setR rb (some ⟨5, 1, 0, (bytesE out ++ List.replicate (N - out.length) [AV.int .u8 0]).set out.length [.int .u8 c.toNat]⟩)) := by
    simp only [getR] at hg
    simp only [stX, cellsA, List.length_singleton, List.all_cons, List.all_nil, AV.one, Bool.and_self, and_self, if_true]
    simp only [stAt, hg, hn, List.length_singleton]
    rw [if_pos ⟨by simp, by omega⟩]
    rfl
  rw [hs]
  have he : (bytesE out ++ List.replicate (N - out.length) [AV.int .u8 0]).set out.length [.int .u8 c.toNat] = bytesE (out ++ [c]) ++ List.replicate (N - (out ++ [c]).length) [.int .u8 0] := by
    rw [← buf_els N out [c] (by simp; omega)]
    rw [List.set_eq_take_append_cons_drop, if_pos (by simp [hb]; omega)]
    simp [bytesE]
  rw [he]
  simp [buf, St.setR]
theorem cpyX_at (r : Nat) : ∀ (ys : List (List AV)) (σ : St) (row : Row) (off : Nat), getR σ r = some (some row) → row.fz = 0 → off + ys.length ≤ row.els.length → (∀ c ∈ ys, c.length = 1) → (∀ c ∈ row.els, c.length = 1) →
    cpyX r σ off ys = some (σ.setR r (some { row with els := row.els.take off ++ ys ++ row.els.drop (off + ys.length) }))
  | [], σ, row, off, h, _, _, _, _ => by
    have e : ({ row with els := row.els.take off ++ [] ++ row.els.drop (off + 0) } : Row) = row := by simp
    simp only [cpyX, List.length_nil, e]
    rw [setR_row h]
  | c :: ys, σ, row, off, h, hf, hl, h1, h2 => by
    simp only [List.length_cons] at hl
    have hlt : off < row.els.length := by omega
    have hc := h1 c (by simp)
    have hrl := getR_lt h
    have hg : row.els[off]? = some row.els[off] := List.getElem?_eq_getElem hlt
    have he1 := h2 _ (List.getElem_mem hlt)
    have hst : stAt σ (.op r off 0) c = some (σ.setR r (some { row with els := row.els.set off c })) := by
      simp only [getR] at h
      simp only [stAt, h, hg]
      rw [if_pos ⟨by omega, by omega⟩]
      have : setL row.els[off] 0 c = c := setL_all (by omega)
      rw [this]
    have hg2 : getR (σ.setR r (some { row with els := row.els.set off c })) r = some (some { row with els := row.els.set off c }) := by
      simp only [getR, St.setR, nrs] at *
      rw [List.getElem?_set_self hrl]
    have ih := cpyX_at r ys (σ.setR r (some { row with els := row.els.set off c })) { row with els := row.els.set off c } (off + 1) hg2 hf (by simp; omega) (fun x hx => h1 x (by simp [hx])) (fun x hx => by
      rcases List.mem_or_eq_of_mem_set hx with hx | rfl
      · exact h2 x hx
      · exact hc)
    simp only [cpyX, hst, ih]
    have e1 : (row.els.set off c).take (off + 1) = row.els.take off ++ [c] := by
      rw [List.take_add_one, List.take_set_of_le (Nat.le_refl _), List.getElem?_set_self hlt]; rfl
    have e2 : (row.els.set off c).drop (off + 1 + ys.length) = row.els.drop (off + (c :: ys).length) := by
      rw [List.drop_set, if_pos (by omega)]
      simp [Nat.add_assoc, Nat.add_comm 1]
    rw [e1, e2]
    simp [St.setR]
theorem buf_cpy {rb N : Nat} {out w : List UInt8} {x : AV} (hr : rb < nrs σ) (h : out.length + w.length ≤ N) (hx : elsA (buf σ rb N out) x = some (bytesE w)) (hns : ∀ s, x ≠ .str s) :
    moreX .cpy (buf σ rb N out) [.os rb out.length (N - out.length), x] = some (.int .i64 w.length, buf σ rb N (out ++ w)) := by
  have hg := buf_get (σ := σ) (N := N) (out := out) hr
  have hbo := bytesE_len out
  have hbw := bytesE_len w
  have h1 : ∀ c ∈ bytesE w, c.length = 1 := fun c hc => by simp only [bytesE, List.mem_map] at hc; obtain ⟨b, _, rfl⟩ := hc; rfl
  have h2 : ∀ c ∈ bytesE out ++ List.replicate (N - out.length) [AV.int .u8 0], c.length = 1 := fun c hc => by
    rcases List.mem_append.1 hc with hc | hc
    · simp only [bytesE, List.mem_map] at hc; obtain ⟨b, _, rfl⟩ := hc; rfl
    · rw [(List.mem_replicate.1 hc).2]; rfl
  have hc := cpyX_at rb (bytesE w) (buf σ rb N out) _ out.length hg rfl (by simp [hbo, hbw]; omega) h1 h2
  have hall : (bytesE w).all (fun c => c.length == 1) = true := by rw [List.all_eq_true]; intro c hc; simpa using h1 c hc
  have hone : (bytesE w).all (fun c => c.all AV.one) = true := by rw [List.all_eq_true]; intro c hc; simp only [bytesE, List.mem_map] at hc; obtain ⟨b, _, rfl⟩ := hc; rfl
  have hez : rowEsz (buf σ rb N out) rb = some 1 := by simp only [getR] at hg; simp only [rowEsz, hg]
  have hG : cpyG (buf σ rb N out) rb out.length (N - out.length) (bytesE w) = some (.int .i64 w.length, buf σ rb N (out ++ w)) := by
    unfold cpyG
    rw [if_pos ⟨by omega, hez, hall, hone⟩, hc, hbw]
    simp only [Option.map_some]
    rw [buf_els N out w h]
    simp [buf, St.setR]
  cases x <;> first | (exact absurd rfl (hns _)) | (simp only [moreX, hx]; exact hG)
end
end Go.Ab.Sz
namespace Go.Ab.Sz
open Go Go.Ab Go.Proofs Go.RowKit
set_option maxRecDepth 40000
set_option linter.unusedSimpArgs false
section
variable {m : Int} {σ : St} {K : AV → St → Prop}
theorem buf_sls {rb N : Nat} {out : List UInt8} (hr : rb < nrs σ) (h : out.length ≤ N) : slsX 1 (buf σ rb N out) (.os rb 0 N) (some (.int .i64 out.length)) none none = some (if out.length = N ∧ 0 < N then .sl [] else .os rb out.length (N - out.length)) := by
  have hg := buf_get (σ := σ) (N := N) (out := out) hr
  have hl : liveA (buf σ rb N out) (.os rb 0 N) = true := by simp only [getR] at hg; simp only [liveA, hg]
  have hz : rowEsz (buf σ rb N out) rb = some 1 := by simp only [getR] at hg; simp only [rowEsz, hg]
  simp only [slsX, hl, if_true, bnd]
  rw [if_pos (by omega)]
  simp only [Int.toNat_natCast]
  by_cases h0 : out.length = 0
  · rw [if_pos h0, if_neg (by omega), h0]; simp
  · rw [if_neg h0]
    by_cases h1 : out.length < N
    · rw [if_pos ⟨h1, hz⟩, if_neg (by omega)]; simp
    · rw [if_neg (fun hh => h1 hh.1), if_pos (show out.length = N ∧ True from ⟨by omega, trivial⟩), if_pos (show out.length = N ∧ 0 < N from ⟨by omega, by omega⟩)]
theorem buf_cpy2 {rb N : Nat} {out w : List UInt8} {x : AV} (hr : rb < nrs σ) (h : out.length + w.length ≤ N) (hx : elsA (buf σ rb N out) x = some (bytesE w)) (hns : ∀ s, x ≠ .str s) :
    moreX .cpy (buf σ rb N out) [if out.length = N ∧ 0 < N then .sl [] else .os rb out.length (N - out.length), x] = some (.int .i64 w.length, buf σ rb N (out ++ w)) := by
  split
  · have hw : w = [] := List.eq_nil_of_length_eq_zero (by omega)
    subst hw
    cases x <;> first | (exact absurd rfl (hns _)) | (simp only [moreX, hx, bytesE, List.map_nil, List.append_nil]; rfl)
  · exact buf_cpy hr h hx hns
theorem rpl_loop2 (Ps : List (UInt8 × List UInt8)) (hl : ∀ p ∈ Ps, p.2.length < 1000000) (b2 : Nat) (L : List AV) (v : AV) (ρ : Option Nat) (hT : Tbl σ L Ps v ρ) (hv : getV σ b2 = some (.cells 185 L)) (s : List UInt8) (hs : s.length < 1000000000) (N : Nat) (hN : N = (repS Ps s).length) (y : Row) {Q : EQ} :
    ∀ (rest dn : List UInt8) (e : Env), s = dn ++ rest → e 0 = some (.vp b2 0) → e 1 = some (.str s) → e 12 = some (.os (nrs σ) 0 N) → e 13 = some (.int .i64 (repS Ps dn).length) → e 14 = some (.int .i64 dn.length) →
    (∀ e', e' 12 = some (.os (nrs σ) 0 N) → Q (.exit 4) e' (buf (σ.pushR y) (nrs σ) N (repS Ps s))) → LoopC Tryz.prog tt (gD m) l220_2 Q e (buf (σ.pushR y) (nrs σ) N (repS Ps dn)) := by
  intro rest
  have hrb : nrs σ < nrs (σ.pushR y) := by simp only [nvsR]; omega
  have hvb : ∀ out, getV (buf (σ.pushR y) (nrs σ) N out) b2 = some (.cells 185 L) := fun out => hv
  induction rest with
  | nil =>
    intro dn e he h0 h1 h12 h13 h14 hq
    have hd : s = dn := by simpa using he
    subst hd
    have d : decide ((s.length : Int) < (s.length : Int)) = false := decide_eq_false (by omega)
    refine LoopC_unfold tok fm ?_
    simp (disch := first | omega | (simp only [ln]; first | done | omega)) only [walkAll, walkL, walkK, wk, E, Nat.reduceEqDiff, Nat.reduceAdd, Nat.reduceSub, Nat.reduceLeDiff, Int.reduceLT, Int.reduceLE, Int.reduceAdd, Int.reduceSub, Int.reduceToNat, ↓reduceIte, l220_2x, l220_2b, h0, h1, h12, h13, h14, d]
    exact hq _ (by simp [put, h12])
  | cons c rest ih =>
    intro dn e he h0 h1 h12 h13 h14 hq
    have hlen : s.length = dn.length + (rest.length + 1) := by rw [he]; simp
    have d : decide ((dn.length : Int) < (s.length : Int)) = true := decide_eq_true (by omega)
    have hgc : s[dn.length]? = some c := by rw [he]; simp
    have hct := c.toNat_lt
    have hix : ixaX 256 1 (.vp b2 0) (.int .u8 c.toNat) = some (.vp b2 c.toNat) := by simp only [ixaX]; rw [if_pos ⟨by omega, by omega⟩]; simp
    have hlL := hT.len
    have hr0 := repS_le Ps hl s
    have hsp : (repS Ps s).length = (repS Ps dn).length + (rep1 Ps c).length + (repS Ps rest).length := by rw [he]; simp [repS]; omega
    have w14 : IntKind.i64.wrap ((dn.length : Int) + 1) = ((dn ++ [c]).length : Int) := by rw [wrap_i64 _ (by omega) (by omega)]; simp
    have e1 : repS Ps (dn ++ [c]) = repS Ps dn ++ rep1 Ps c := by simp [repS]
    refine LoopC_unfold tok fm ?_
    cases hh : hit Ps c with
    | false =>
      have hle := ld_at (hT.miss hh)
      have hm1 := rep1_miss hh
      rw [hm1] at hsp e1
      simp only [List.length_singleton] at hsp
      have hixs : ixsX 1 (buf (σ.pushR y) (nrs σ) N (repS Ps dn)) (.os (nrs σ) 0 N) (.int .i64 (repS Ps dn).length) = some (.op (nrs σ) (repS Ps dn).length 0) := by
        have hg := buf_get (σ := σ.pushR y) (N := N) (out := repS Ps dn) hrb
        simp only [getR] at hg
        simp only [ixsX, hg]
        rw [if_pos ⟨by omega, by omega⟩]
        simp
      have hst := buf_st (σ := σ.pushR y) (rb := nrs σ) (N := N) (out := repS Ps dn) (c := c) hrb (by omega)
      rw [← e1] at hst
      have w13 : IntKind.i64.wrap (((repS Ps dn).length : Int) + 1) = ((repS Ps (dn ++ [c])).length : Int) := by rw [wrap_i64 _ (by omega) (by omega), e1]; simp
      simp (disch := first | omega | (simp only [ln]; first | done | omega)) only [walkAll, walkL, walkK, wk, E, Nat.reduceEqDiff, Nat.reduceAdd, Nat.reduceSub, Nat.reduceLeDiff, Int.reduceLT, Int.reduceLE, Int.reduceAdd, Int.reduceSub, Int.reduceToNat, ↓reduceIte, l220_2x, l220_2b, h0, h1, h12, h13, h14, d, hgc, hvb, hlL, hix, hle, hixs]
      refine ⟨by omega, ?_⟩
      simp only [stX, cellsA, List.length_singleton, List.all_cons, List.all_nil, AV.one, Bool.and_self, and_self, if_true] at hst
      rw [hst]
      simp (disch := first | omega | (simp only [ln]; first | done | omega)) only [walkAll, walkL, walkK, wk, E, Nat.reduceEqDiff, Nat.reduceAdd, Nat.reduceSub, Nat.reduceLeDiff, Int.reduceLT, Int.reduceLE, Int.reduceAdd, Int.reduceSub, Int.reduceToNat, ↓reduceIte, h0, h1, h12, h13, h14, w13, w14]
      exact ih (dn ++ [c]) _ (by rw [he]; simp) (by simp [put, h0]) (by simp [put, h1]) (by simp [put, h12]) (by simp [put]) (by simp [put]) hq
    | true =>
      obtain ⟨r, a1, a2, a3⟩ := hT.hit hh
      have hle := ld_at a1
      have hbx : binX .neq (.slice 5) true (.os r 0 (rep1 Ps c).length) .nils = some (.bool true) := rfl
      simp (disch := first | omega | (simp only [ln]; first | done | omega)) only [walkAll, walkL, walkK, wk, E, Nat.reduceEqDiff, Nat.reduceAdd, Nat.reduceSub, Nat.reduceLeDiff, Int.reduceLT, Int.reduceLE, Int.reduceAdd, Int.reduceSub, Int.reduceToNat, ↓reduceIte, l220_2x, l220_2b, h0, h1, h12, h13, h14, d, hgc, hvb, hlL, hix, hle, hbx]
      refine ⟨by omega, ?_⟩
      rw [buf_sls hrb (by omega)]
      simp (disch := first | omega | (simp only [ln]; first | done | omega)) only [walkAll, walkL, walkK, wk, E, Nat.reduceEqDiff, Nat.reduceAdd, Nat.reduceSub, Nat.reduceLeDiff, Int.reduceLT, Int.reduceLE, Int.reduceAdd, Int.reduceSub, Int.reduceToNat, ↓reduceIte, h0, h1, h12, h13, h14, d, hgc, hvb, hlL, hix, hle]
      refine ⟨by omega, ?_⟩
      have hrn : r ≠ nrs σ := fun e => by have := getR_lt a2; omega
      have hxe : elsA (buf (σ.pushR y) (nrs σ) N (repS Ps dn)) (.os r 0 (rep1 Ps c).length) = some (bytesE (rep1 Ps c)) := by
        have hg : getR (buf (σ.pushR y) (nrs σ) N (repS Ps dn)) r = some (some ⟨5, 1, 0, bytesE (rep1 Ps c)⟩) := by
          rw [buf_other hrn]; exact getR_push a2 y
        have hbl := bytesE_len (rep1 Ps c)
        simp only [getR] at hg
        simp only [elsA, hg, Nat.zero_add, List.drop_zero]
        rw [if_pos (by omega), ← hbl, List.take_length]
      rw [buf_cpy2 hrb (by omega) hxe (fun s => by simp)]
      have w13 : IntKind.i64.wrap (((repS Ps dn).length : Int) + ((rep1 Ps c).length : Int)) = ((repS Ps (dn ++ [c])).length : Int) := by rw [wrap_i64 _ (by omega) (by omega), e1]; simp
      rw [← e1]
      simp (disch := first | omega | (simp only [ln]; first | done | omega)) only [walkAll, walkL, walkK, wk, E, Nat.reduceEqDiff, Nat.reduceAdd, Nat.reduceSub, Nat.reduceLeDiff, Int.reduceLT, Int.reduceLE, Int.reduceAdd, Int.reduceSub, Int.reduceToNat, ↓reduceIte, h0, h1, h12, h13, h14, w13, w14]
      exact ih (dn ++ [c]) _ (by rw [he]; simp) (by simp [put, h0]) (by simp [put, h1]) (by simp [put, h12]) (by simp [put]) (by simp [put]) hq
theorem rep_none {Ps : List (UInt8 × List UInt8)} : ∀ {s : List UInt8}, s.any (hit Ps) = false → repS Ps s = s
  | [], _ => rfl
  | c :: s, h => by
    simp only [List.any_cons, Bool.or_eq_false_iff] at h
    simp only [repS, List.flatMap_cons]
    rw [rep1_miss h.1]
    have := rep_none h.2
    simp only [repS] at this
    rw [this]; rfl
theorem BReplace_c (Ps : List (UInt8 × List UInt8)) (hP : Prs Ps) (b2 : Nat) (L : List AV) (v : AV) (ρ : Option Nat) (hT : Tbl σ L Ps v ρ) (hv : getV σ b2 = some (.cells 185 L)) (s : List UInt8) (hs : s.length < 1000000000) (hb : (repS Ps s).length ≤ 140737488355328) (h : K (.str (repS Ps s)) σ) :
    ACalls Tryz.prog (gD m) 220 [.vp b2 0, .str s] σ K := by
  refine ACalls.close σ _ (.refl σ) (by simp only [dataR]) ?_ h
  have hlL := hT.len
  have hfew := hP.few
  have hln := hT.own.len
  rw [List.length_map, List.length_reverse] at hln
  have w23 : IntKind.i64.wrap ((Ps.length : Int) * 8) = (Ps.length : Int) * 8 := wrap_i64 _ (by omega) (by omega)
  have hbuf0 : buf (σ.pushR ⟨5, 1, 0, List.replicate (repS Ps s).length [.int .u8 0]⟩) (nrs σ) (repS Ps s).length (repS Ps []) = σ.pushR ⟨5, 1, 0, List.replicate (repS Ps s).length [.int .u8 0]⟩ := by
    refine setR_row ?_
    simp [getR, nrs, St.pushR, repS, bytesE]
  have hb2s : b2sX (buf (σ.pushR ⟨5, 1, 0, List.replicate (repS Ps s).length [.int .u8 0]⟩) (nrs σ) (repS Ps s).length (repS Ps s)) (.os (nrs σ) 0 (repS Ps s).length) = some (.str (repS Ps s)) := by
    have hg := buf_get (σ := σ.pushR ⟨5, 1, 0, List.replicate (repS Ps s).length [.int .u8 0]⟩) (rb := nrs σ) (N := (repS Ps s).length) (out := repS Ps s) (by simp only [nvsR]; omega)
    have hbl := bytesE_len (repS Ps s)
    have hun : ∀ l : List UInt8, unB (bytesE l) = some l := fun l => by
      induction l with
      | nil => rfl
      | cons a l ih =>
        have e : bytesE (a :: l) = [.int .u8 a.toNat] :: bytesE l := rfl
        rw [e, unB, ih]
        simp
    simp only [getR] at hg
    simp only [b2sX, elsA, hg, Nat.zero_add, List.drop_zero, Nat.sub_self, List.replicate_zero, List.append_nil]
    rw [if_pos (by omega)]
    have : (bytesE (repS Ps s)).take (repS Ps s).length = bytesE (repS Ps s) := List.take_of_length_le (by omega)
    rw [this]
    simp [hun]
  refine ACalls_fn tok fm (fk220 _) ?_
  simp (disch := first | omega | (simp only [ln]; first | done | omega)) only [walkAll, walkL, walkK, wk, E, Nat.reduceEqDiff, Nat.reduceAdd, Nat.reduceSub, Nat.reduceLeDiff, Int.reduceLT, Int.reduceLE, Int.reduceAdd, Int.reduceSub, Int.reduceToNat, ↓reduceIte, c220, hv, hlL, ld_at hT.last, hln, w23]
  cases hc : decide ((Ps.length : Int) * 8 ≤ (s.length : Int)) with
  | true =>
    simp (disch := first | omega | (simp only [ln]; first | done | omega)) only [walkAll, walkL, walkK, wk, E, Nat.reduceEqDiff, Nat.reduceAdd, Nat.reduceSub, Nat.reduceLeDiff, Int.reduceLT, Int.reduceLE, Int.reduceAdd, Int.reduceSub, Int.reduceToNat, ↓reduceIte, hc, hv, hlL, ld_at hT.last, hln]
    refine rpl_loop0 Ps hP b2 L v ρ σ hT hv s hs Ps.reverse [] _ rfl (by simp [put, E]) (by simp [put, E]) (by simp [put, E, growB]) (by simp [put, E]) (by simp [put, E]) (by simp [put, E]) (by simp [put, E]) (fun e' k0 k1 k5 k6 => ?_)
    cases ha : s.any (hit Ps) with
    | false =>
      rw [ha] at k6
      have hr := rep_none ha
      simp (disch := first | omega | (simp only [ln]; first | done | omega)) only [walkAll, walkL, walkK, wk, E, Nat.reduceEqDiff, Nat.reduceAdd, Nat.reduceSub, Nat.reduceLeDiff, Int.reduceLT, Int.reduceLE, Int.reduceAdd, Int.reduceSub, Int.reduceToNat, ↓reduceIte, k0, k1, k5, k6, Bool.not_false]
      rw [hr]
      exact ⟨.refl _, .inl rfl⟩
    | true =>
      rw [ha] at k6
      simp (disch := first | omega | (simp only [ln]; first | done | omega)) only [walkAll, walkL, walkK, wk, E, Nat.reduceEqDiff, Nat.reduceAdd, Nat.reduceSub, Nat.reduceLeDiff, Int.reduceLT, Int.reduceLE, Int.reduceAdd, Int.reduceSub, Int.reduceToNat, ↓reduceIte, k0, k1, k5, k6, Bool.not_true]
      rw [← hbuf0]
      refine rpl_loop2 Ps hP.len b2 L v ρ hT hv s hs _ rfl _ s [] _ rfl (by simp [put, k0]) (by simp [put, k1]) (by simp [put]) (by simp [put, repS]) (by simp [put]) (fun e2 k12 => ?_)
      simp (disch := first | omega | (simp only [ln]; first | done | omega)) only [walkAll, walkL, walkK, wk, E, Nat.reduceEqDiff, Nat.reduceAdd, Nat.reduceSub, Nat.reduceLeDiff, Int.reduceLT, Int.reduceLE, Int.reduceAdd, Int.reduceSub, Int.reduceToNat, ↓reduceIte, k12]
      rw [hb2s]
      simp (disch := first | omega | (simp only [ln]; first | done | omega)) only [walkAll, walkL, walkK, wk, E, Nat.reduceEqDiff, Nat.reduceAdd, Nat.reduceSub, Nat.reduceLeDiff, Int.reduceLT, Int.reduceLE, Int.reduceAdd, Int.reduceSub, Int.reduceToNat, ↓reduceIte]
      refine ⟨?_, .inl rfl⟩
      exact ⟨[], [some ⟨5, 1, 0, bytesE (repS Ps s) ++ List.replicate ((repS Ps s).length - (repS Ps s).length) [.int .u8 0]⟩], by simp [buf, St.setR, St.pushR, nrs]⟩
  | false =>
    simp (disch := first | omega | (simp only [ln]; first | done | omega)) only [walkAll, walkL, walkK, wk, E, Nat.reduceEqDiff, Nat.reduceAdd, Nat.reduceSub, Nat.reduceLeDiff, Int.reduceLT, Int.reduceLE, Int.reduceAdd, Int.reduceSub, Int.reduceToNat, ↓reduceIte, hc]
    refine rpl_loop1 Ps hP.len b2 L v ρ σ hT hv s (by omega) s [] _ rfl (by simp [put, E]) (by simp [put, E]) (by simp [put, E, repS]) (by simp [put, E]) (by simp [put, E]) (fun e' k0 k1 k5 k6 => ?_)
    cases ha : s.any (hit Ps) with
    | false =>
      rw [ha] at k6
      have hr := rep_none ha
      simp (disch := first | omega | (simp only [ln]; first | done | omega)) only [walkAll, walkL, walkK, wk, E, Nat.reduceEqDiff, Nat.reduceAdd, Nat.reduceSub, Nat.reduceLeDiff, Int.reduceLT, Int.reduceLE, Int.reduceAdd, Int.reduceSub, Int.reduceToNat, ↓reduceIte, k0, k1, k5, k6, Bool.not_false]
      rw [hr]
      exact ⟨.refl _, .inl rfl⟩
    | true =>
      rw [ha] at k6
      simp (disch := first | omega | (simp only [ln]; first | done | omega)) only [walkAll, walkL, walkK, wk, E, Nat.reduceEqDiff, Nat.reduceAdd, Nat.reduceSub, Nat.reduceLeDiff, Int.reduceLT, Int.reduceLE, Int.reduceAdd, Int.reduceSub, Int.reduceToNat, ↓reduceIte, k0, k1, k5, k6, Bool.not_true]
      rw [← hbuf0]
      refine rpl_loop2 Ps hP.len b2 L v ρ hT hv s hs _ rfl _ s [] _ rfl (by simp [put, k0]) (by simp [put, k1]) (by simp [put]) (by simp [put, repS]) (by simp [put]) (fun e2 k12 => ?_)
      simp (disch := first | omega | (simp only [ln]; first | done | omega)) only [walkAll, walkL, walkK, wk, E, Nat.reduceEqDiff, Nat.reduceAdd, Nat.reduceSub, Nat.reduceLeDiff, Int.reduceLT, Int.reduceLE, Int.reduceAdd, Int.reduceSub, Int.reduceToNat, ↓reduceIte, k12]
      rw [hb2s]
      simp (disch := first | omega | (simp only [ln]; first | done | omega)) only [walkAll, walkL, walkK, wk, E, Nat.reduceEqDiff, Nat.reduceAdd, Nat.reduceSub, Nat.reduceLeDiff, Int.reduceLT, Int.reduceLE, Int.reduceAdd, Int.reduceSub, Int.reduceToNat, ↓reduceIte]
      refine ⟨?_, .inl rfl⟩
      exact ⟨[], [some ⟨5, 1, 0, bytesE (repS Ps s) ++ List.replicate ((repS Ps s).length - (repS Ps s).length) [.int .u8 0]⟩], by simp [buf, St.setR, St.pushR, nrs]⟩
end
end Go.Ab.Sz
namespace Go.Ab.Sz
open Go Go.Ab Go.Proofs Go.RowKit
set_option maxRecDepth 100000
set_option maxHeartbeats 3200000 in
theorem o_replace (b : Nat) (s r : ByteArray) (w : World) (S : World → Prop)
    (hf : Calls Tryz.prog 114 #[.pointer (some ⟨b, 0, none⟩), .func (.func 115) #[.pointer (some ⟨b, 0, none⟩)] #[]] w fun e w' => e = .returned (.tuple #[]) ∧ ∃ p, w'.cell? ⟨b, 3, none⟩ = some (.iface 186 p) ∧ Calls Tryz.prog 220 #[p, .string s] w' (fun e w' => e = .returned (.string r) ∧ S w')) :
    Calls Tryz.prog 93 #[.pointer (some ⟨b, 0, none⟩), .string s] w fun e w' => e = .returned (.string r) ∧ S w' := by
  have hm : ∀ (p : Value) (w : World), (method (Tryz.prog.types.size + Made.depth) 186 p "Replace").run Tryz.prog w = .ok (220, p) w := fun _ _ => by kernel_rfl
  simp only [Tryz.types_size, Made.depth, Nat.reduceAdd] at hm
  have hcf : ∀ (args : Array Value) (w : World), (callFunc 220 args).run Tryz.prog w = .ok (.enter 220 args) w := fun args w => run_enter Tryz.func220 rfl (by decide) args w
  go_enter Tryz.func93, Tryz.ntmps93
  go_wp2_with (first | (go_at_call 114; refine hf.mono ?_; rintro e w1 ⟨rfl, p, hp, hc⟩) | (go_at_call 220; refine hc.mono ?_; rintro e w2 ⟨rfl, hS⟩))
  all_goals first | (go_end0; exact ⟨rfl, hS⟩) | (go_ret; exact ⟨rfl, hS⟩)
section
variable {m : Int} {σ : St} {K : AV → St → Prop}
theorem Tbl.setV {τ : St} {L : List AV} {Q : List (UInt8 × List UInt8)} {v : AV} {ρ : Option Nat} (h : Tbl τ L Q v ρ) (b : Nat) (X : VB) : Tbl (τ.setV b X) L Q v ρ := ⟨h.len, h.cell, h.last, h.own.setV b X⟩
/-- Signs of a text are replaced by what stands for them. -/
theorem RReplace_c (Ps : List (UInt8 × List UInt8)) (hP : Prs Ps) (b r : Nat) (hv : getV σ b = some (.cells 158 [.int .u32 0, .int .i32 0, .int .u32 0, .nili, .os r 0 (2 * Ps.length)])) (hr : getR σ r = some (some ⟨9, 1, 0, prsE Ps⟩))
    (s : List UInt8) (hs : s.length < 1000000000) (hb : (repS Ps s).length ≤ 140737488355328) (h : ∀ τ Y X, Grown (σ.setV b Y) τ → K (.str (repS Ps s)) (τ.setV b X)) : ACalls Tryz.prog (gD m) 93 [.vp b 0, .str s] σ K := by
  intro C w vs h0 hg hr0
  obtain ⟨us, rfl, hbn, hr1⟩ := hr0.vp_inv
  rw [hr1.s_inv]
  have hlt := getV_lt hv
  have honce : ACalls Tryz.prog (gD m) 114 [.vp b 0, .fn (.func 115) [.vp b 0] []] σ (fun r' σ' => r' = .tup [] ∧ ∃ b2 L v ρ τ Y X, σ' = τ.setV b X ∧ Grown (σ.setV b Y) τ ∧ Tbl σ' L Ps v ρ ∧ getV σ' b2 = some (.cells 185 L) ∧ getV σ' b = some (.cells 158 [.int .u32 1, .int .i32 0, .int .u32 0, .ifc 186 (.vp b2 0), .nils])) := by
    refine onceDo_c b 158 _ hv ?_
    refine buildOnce_c Ps hP b r (by simp (disch := first | omega | (simp only [ln]; first | done | omega)) only [walkAll, walkL, walkK, wk, E, Nat.reduceEqDiff, Nat.reduceAdd, Nat.reduceSub, Nat.reduceLeDiff, Int.reduceLT, Int.reduceLE, Int.reduceAdd, Int.reduceSub, Int.reduceToNat, ↓reduceIte]) hr (fun b2 L v ρ τ hT hgr hv2 hb2 => ?_)
    have hn := hgr.nvs
    have hn2 := getV_lt hv2
    simp only [nvsR] at hn hb2
    refine ⟨rfl, [.int .u32 0, .ifc 186 (.vp b2 0), .nils], by simp (disch := first | omega | (simp only [ln]; first | done | omega)) only [walkAll, walkL, walkK, wk, E, Nat.reduceEqDiff, Nat.reduceAdd, Nat.reduceSub, Nat.reduceLeDiff, Int.reduceLT, Int.reduceLE, Int.reduceAdd, Int.reduceSub, Int.reduceToNat, ↓reduceIte], rfl, b2, L, v, ρ, τ, _, .cells 158 [.int .u32 1, .int .i32 0, .int .u32 0, .ifc 186 (.vp b2 0), .nils], ?_, hgr, ?_, ?_, ?_⟩
    · simp [St.setV]
    · exact (hT.setV _ _).setV _ _
    · have : b2 ≠ b := by omega
      simp (disch := first | omega | (simp only [ln]; first | done | omega)) only [walkAll, walkL, walkK, wk, E, Nat.reduceEqDiff, Nat.reduceAdd, Nat.reduceSub, Nat.reduceLeDiff, Int.reduceLT, Int.reduceLE, Int.reduceAdd, Int.reduceSub, Int.reduceToNat, ↓reduceIte]
      exact hv2
    · simp (disch := first | omega | (simp only [ln]; first | done | omega)) only [walkAll, walkL, walkK, wk, E, Nat.reduceEqDiff, Nat.reduceAdd, Nat.reduceSub, Nat.reduceLeDiff, Int.reduceLT, Int.reduceLE, Int.reduceAdd, Int.reduceSub, Int.reduceToNat, ↓reduceIte]
  have hx := honce C w _ h0 hg (.cons _ _ _ _ (.vp b 0 hbn) (.cons _ _ _ _ (.fn _ _ _ _ _ (.cons _ _ _ _ (.vp b 0 hbn) .nil) .nil) .nil))
  unfold CallsX at hx ⊢
  rw [run_enter Tryz.func114 rfl (by decide)] at hx
  rw [run_enter Tryz.func93 rfl (by decide)]
  refine (o_replace (C.ρ b) ⟨s.toArray⟩ ⟨(repS Ps s).toArray⟩ w (fun w' => ∃ σ' C', C.le C' ∧ HRel C' σ' w' ∧ K (.str (repS Ps s)) σ') (hx.mono ?_)).mono ?_
  · rintro e w' ⟨v, rfl, r', σ', C', hle, hrel, hrep, rfl, b2, L, v2, ρ, τ, Y, X, rfl, hgr, hT, hv2, hvb⟩
    cases hrep with
    | tup _ _ hrep =>
      cases hrep
      have hρ : C'.ρ b = C.ρ b := hle.rho b hbn
      obtain ⟨cs, hw, hcs⟩ := hrel.var b _ hvb
      rw [hρ] at hw
      obtain ⟨p, hp, hrp⟩ : ∃ p, w'.cell? ⟨C.ρ b, 3, none⟩ = some (.iface 186 p) ∧ Rep C' (.vp b2 0) p := by
        cases hcs with | cons _ _ _ _ a1 t1 => cases t1 with | cons _ _ _ _ a2 t2 => cases t2 with | cons _ _ _ _ a3 t3 => cases t3 with | cons _ _ _ _ a4 t4 =>
          cases a4 with
          | ifc _ _ v a5 => exact ⟨v, by rw [cell_heap hw]; rfl, a5⟩
      refine ⟨rfl, p, hp, ?_⟩
      have hB := BReplace_c (m := m) (K := fun r' σ' => r' = .str (repS Ps s) ∧ σ' = τ.setV b X) Ps hP b2 L v2 ρ hT hv2 s hs hb ⟨rfl, rfl⟩
      have hy := hB C' w' _ hrel (hg.mono hle) (.cons _ _ _ _ hrp (.cons _ _ _ _ (.str s) .nil))
      unfold CallsX at hy
      rw [run_enter Tryz.func220 rfl (by decide)] at hy
      refine hy.mono ?_
      rintro e w2 ⟨v3, rfl, r3, σ3, C3, hle3, hrel3, hrep3, rfl, rfl⟩
      cases hrep3
      exact ⟨rfl, _, C3, hle.trans hle3, hrel3, h τ Y X hgr⟩
  · rintro e w' ⟨rfl, σ', C', hle, hrel, hK⟩
    exact ⟨_, rfl, _, σ', C', hle, hrel, .str _, hK⟩
end
end Go.Ab.Sz
namespace Go.Ab.Sz
open Go Go.Ab Go.Proofs Go.RowKit
set_option maxRecDepth 100000
theorem liesW : liesAt Tryz.prog Tryz.prog.depth 84 (3 / Tryz.prog.cellsOf 84) 1 82 1 = true := by kernel_rfl
/-- A writer: the nodes, and what is out already. -/
def BldW (σ : St) (b : Nat) (x0 : AV) (l : List UInt8) (ρ : Option Nat) : Prop := ∃ a buf, getV σ b = some (.cells 84 [x0, a, buf]) ∧ (a = .nilp ∨ a = .vp b 1) ∧ BufIs 5 σ buf l ρ
set_option maxHeartbeats 1000000 in
theorem wcopyCheck_used (b : Nat) (w : World) (h0 : w.cell? ⟨b, 1, none⟩ = some (.pointer (some ⟨b, 1, none⟩))) :
    Calls Tryz.prog 113 #[.pointer (some ⟨b, 1, none⟩)] w fun e w' => e = .returned (.tuple #[]) ∧ w' = w := by
  obtain ⟨j, hj, _⟩ := Option.map_eq_some_iff.1 size78
  go_enter Tryz.func113, Tryz.ntmps113
  go_wp2
  rw [Lib.run_neq_ptr_same w _ Tryz.underlying79 hj]
  go_wp2
  go_end0
  exact ⟨rfl, rfl⟩
set_option maxHeartbeats 1000000 in
theorem wcopyCheck_fresh (b : Nat) (w : World) (h0 : w.cell? ⟨b, 1, none⟩ = some (.pointer none)) (hsh : w.shape? b = some (84, 3)) (hfz : w.frozen? ⟨b, 1, none⟩ = false) :
    Calls Tryz.prog 113 #[.pointer (some ⟨b, 1, none⟩)] w fun e w' => e = .returned (.tuple #[]) ∧ w' = w.setCell ⟨b, 1, none⟩ (.pointer (some ⟨b, 1, none⟩)) := by
  obtain ⟨j, hj, hjs⟩ := Option.map_eq_some_iff.1 size78
  go_enter Tryz.func113, Tryz.ntmps113
  go_wp2
  rw [Lib.run_to_unsafe w ⟨b, 1, none⟩ Tryz.underlying79 Tryz.underlying165 hj (by rw [hjs]; decide) hsh (show 1 < 3 by decide)]
  simp only [Result.andThen]
  rw [Oper.upon_value]
  go_wp2
  rw [run_callFunc_extern Tryz.func124 (by kernel_rfl) (by kernel_rfl) (by kernel_rfl) (e := Extern.AbiNoEscape.same) (by kernel_rfl)]
  rw [Lib.run_noEscape]
  simp only [Result.andThen]
  rw [Oper.upon_value]
  go_wp2
  rw [Lib.run_from_unsafe w ⟨b, 1, none⟩ Tryz.underlying165 Tryz.underlying79 hj hsh liesW]
  simp only [Result.andThen]
  rw [Oper.upon_value]
  go_wp2
  go_end0
  exact ⟨rfl, rfl⟩
set_option maxHeartbeats 2000000 in
theorem wString_heap (b : Nat) (w : World) (x0 p : Value) (g o cap : Nat) (cur : Array Value) (fz : Nat × Nat) (l : List UInt8) (h0 : l ≠ []) (hbk : w.heap[b]? = some (.cells #[x0, p, .slice (some ⟨g, o, none⟩) l.length cap] 84 (0, 0)))
    (hg : w.heap[g]? = some (.cells cur 5 fz)) (hn : o + l.length ≤ cur.size) (hcap : l.length ≤ cap) (h63 : l.length ≤ 9223372036854775807) (hcell : ∀ j x, l[j]? = some x → cur[o + j]? = some (.int .u8 x.toNat)) :
    Calls Tryz.prog 44 #[.pointer (some ⟨b, 1, none⟩)] w fun e w' => e = .returned (.string ⟨l.toArray⟩) ∧ w' = w.drew.freeze ⟨g, o, none⟩ l.length := by
  have hl0 : l.length ≠ 0 := by simpa using h0
  have c1 : w.drew.cell? ⟨b, 2, none⟩ = some (.slice (some ⟨g, o, none⟩) l.length cap) := by
    have : w.drew.heap[b]? = some (.cells #[x0, p, .slice (some ⟨g, o, none⟩) l.length cap] 84 (0, 0)) := hbk
    rw [Lib.cell_of_heap this]; rfl
  have hSD : (Builtin.unsafeSliceData_ #[80] 102 #[.slice (some ⟨g, o, none⟩) l.length cap]).run Tryz.prog w.drew = .ok (.pointer (some ⟨g, o, none⟩)) w.drew :=
    Lib.run_unsafeSliceData_row _ _ _ _ _ _ (by omega)
  have hUS : (Builtin.unsafeString_ #[102, 3] 9 #[.pointer (some ⟨g, o, none⟩), .int .i64 l.length]).run Tryz.prog w.drew = .ok (.string ⟨l.toArray⟩) (w.drew.freeze ⟨g, o, none⟩ l.length) := by
    refine run_unsafeString_at w.drew 102 3 9 5 Tryz.underlying102 (by kernel_rfl) g o cur.size (by have hg' : w.drew.heap[g]? = some (.cells cur 5 fz) := hg; simp [World.shape?, hg']) l h0 hn h63 ?_
    intro j x hx
    have hg' : w.drew.heap[g]? = some (.cells cur 5 fz) := hg
    have := hcell j x hx
    have e : (⟨g, o, none⟩ : Addr).add j = ⟨g, o + j, none⟩ := by
      unfold Addr.add
      by_cases hj : j = 0
      · subst hj; simp
      · simp [hj]
    rw [e]
    simp [World.cell?, hg', this]
  go_enter Tryz.func44, Tryz.ntmps44
  go_wp2
  go_region
  all_goals (go_wp2; go_ret; exact ⟨rfl, rfl⟩)
set_option maxHeartbeats 2000000 in
theorem wString_nil (b : Nat) (w : World) (x0 p : Value) (hbk : w.heap[b]? = some (.cells #[x0, p, .slice none 0 0] 84 (0, 0))) :
    Calls Tryz.prog 44 #[.pointer (some ⟨b, 1, none⟩)] w fun e w' => e = .returned (.string ⟨#[]⟩) ∧ w' = w.drew := by
  have hUS : ∀ (W : World) (q : Option Addr), (Builtin.unsafeString_ #[102, 3] 9 #[.pointer q, .int .i64 0]).run Tryz.prog W = .ok (.string .empty) W := fun W q => Lib.run_unsafeString_none W _ _ _ q
  have c1 : w.drew.cell? ⟨b, 2, none⟩ = some (.slice none 0 0) := by
    have : w.drew.heap[b]? = some (.cells #[x0, p, .slice none 0 0] 84 (0, 0)) := hbk
    rw [Lib.cell_of_heap this]; rfl
  have hSD : (Builtin.unsafeSliceData_ #[80] 102 #[.slice none 0 0]).run Tryz.prog w.drew = .ok (.pointer none) w.drew := rfl
  go_enter Tryz.func44, Tryz.ntmps44
  go_wp2
  go_region
  all_goals (go_wp2; go_ret; exact ⟨rfl, rfl⟩)
section
variable {m : Int} {σ : St} {K : AV → St → Prop}
theorem wcopyCheck_c (b : Nat) (x0 a buf : AV) (ha : a = .nilp ∨ a = .vp b 1) (hv : getV σ b = some (.cells 84 [x0, a, buf])) (h : K (.tup []) (σ.setV b (.cells 84 [x0, .vp b 1, buf]))) : ACalls Tryz.prog (gD m) 113 [.vp b 1] σ K :=
  ACalls.of_heap Tryz.func113 rfl (by decide) (fun C w vs h0 hg hr => by
    obtain ⟨us, rfl, hb, hr⟩ := hr.vp_inv
    rw [hr.nil_inv]
    obtain ⟨cs, hw, hcs⟩ := h0.var b _ hv
    obtain ⟨y0, x, rest, rfl, hx, hrest⟩ : ∃ y0 x rest, cs = y0 :: x :: rest ∧ Rep C a x ∧ RepL C [buf] rest := by
      cases hcs with | cons _ _ _ _ h0 t0 => cases t0 with | cons _ _ _ _ h t => exact ⟨_, _, _, rfl, h, t⟩
    obtain ⟨y, rfl⟩ : ∃ y, rest = [y] := by cases hrest with | cons _ _ _ _ _ t => cases t; exact ⟨_, rfl⟩
    have hc0 : w.cell? ⟨C.ρ b, 1, none⟩ = some x := by rw [cell_heap hw]; rfl
    rcases ha with rfl | rfl
    · cases hx
      have hsh : w.shape? (C.ρ b) = some (84, 3) := by simp [World.shape?, hw]
      have hfz : w.frozen? ⟨C.ρ b, 1, none⟩ = false := by rw [frozen_heap hw]; rfl
      refine (wcopyCheck_fresh (C.ρ b) w hc0 hsh hfz).mono ?_
      rintro e w' ⟨he, rfl⟩
      obtain ⟨_, _, hp, _, hrel⟩ := stAt_sound h0 (Rep.vp b 1 hb) (cs := [.vp b 1]) (.cons _ _ _ _ (Rep.vp b 1 hb) .nil) (σ' := σ.setV b (.cells 84 [x0, .vp b 1, buf])) (by
        simp only [getV] at hv
        simp only [stAt, hv]; rfl)
      cases hp
      exact ⟨_, C, he, Cz.le.refl C, hrel, .tup [] [] .nil⟩
    · cases hx
      refine (wcopyCheck_used (C.ρ b) w hc0).mono ?_
      rintro e w' ⟨he, rfl⟩
      refine ⟨_, C, he, Cz.le.refl C, ?_, .tup [] [] .nil⟩
      have : σ.setV b (.cells 84 [x0, .vp b 1, buf]) = σ := setV_same hv
      rw [this]; exact h0) h
theorem wWriteString_c (b : Nat) (x0 : AV) (l s : List UInt8) (ρ : Option Nat) (hb : BldW σ b x0 l ρ) (hle : l.length + s.length ≤ 140737488355328)
    (h : ∀ σ' ρ', BldW σ' b x0 (l ++ s) ρ' → But σ σ' b ρ ρ' → K (.tup [.int .i64 s.length, .nili]) σ') : ACalls Tryz.prog (gD m) 91 [.vp b 1, .str s] σ K := by
  obtain ⟨a, buf, hv, ha, hbuf⟩ := hb
  have hlt := getV_lt hv
  refine ACalls_fn tok fm (fk91 _) ?_
  simp only [c91, walkAll, walkL, E, Nat.reduceEqDiff, ↓reduceIte]
  refine wcopyCheck_c b x0 a buf ha hv ?_
  obtain ⟨buf', σ1, ρ', happ, hb', hrows, hcell, hone⟩ := app_buf (hbuf.setV b (.cells 84 [x0, .vp b 1, buf])) hle
  have hv1 : getV σ1 b = some (.cells 84 [x0, .vp b 1, buf]) := by
    have : getV (σ.setV b (.cells 84 [x0, .vp b 1, buf])) b = some (.cells 84 [x0, .vp b 1, buf]) := by simp only [getV, St.setV]; exact List.getElem?_set_self hlt
    simp only [getV] at this ⊢
    rw [hrows.vars]; exact this
  simp (disch := omega) only [walkAll, walkL, E, nilA, faX, happ, hv1, hcell, hone, Nat.reduceEqDiff, Nat.reduceAdd, Nat.reduceSub, Nat.reduceLeDiff, Nat.le_refl, ↓reduceIte]
  refine h _ ρ' ⟨_, _, ?_, .inr rfl, hb'.setV b _⟩ ?_
  · have : b < nvs σ1 := getV_lt hv1
    simp only [getV, St.setV]; exact List.getElem?_set_self this
  · have := hrows.but b (.cells 84 [x0, .vp b 1, buf'])
    refine ⟨?_, ?_, this.grow, this.row, this.new⟩
    · rw [this.nv]; simp [nvs, St.setV]
    · intro k hk
      rw [this.var k hk]
      simp only [getV, St.setV]; rw [List.getElem?_set_ne (Ne.symm hk)]
theorem wString_c (b : Nat) (x0 : AV) (l : List UInt8) (ρ : Option Nat) (hb : BldW σ b x0 l ρ) (h63 : l.length ≤ 9223372036854775807) (h : ∀ σ', But σ σ' b ρ ρ → K (.str l) σ') : ACalls Tryz.prog (gD m) 44 [.vp b 1] σ K := by
  obtain ⟨a, buf, hv, ha, hbuf⟩ := hb
  rcases hbuf with ⟨rfl, rfl, rfl⟩ | ⟨hl0, r, row, rfl, rfl, hr, he, hz, ht, hf⟩
  · refine ACalls.of_heap Tryz.func44 rfl (by decide) (fun C w vs h0 hg hr => ?_) (h σ ⟨rfl, fun _ _ => rfl, Nat.le_refl _, fun _ _ _ => rfl, .inl rfl⟩)
    obtain ⟨us, rfl, hb, hr⟩ := hr.vp_inv
    rw [hr.nil_inv]
    obtain ⟨cs, hw, hcs⟩ := h0.var b _ hv
    obtain ⟨y0, x, rfl⟩ : ∃ y0 x, cs = [y0, x, .slice none 0 0] := by
      cases hcs with | cons _ _ _ _ _ t0 => cases t0 with | cons _ _ _ _ h t => cases t with | cons _ _ _ _ h2 t2 => cases h2; cases t2; exact ⟨_, _, rfl⟩
    refine (wString_nil (C.ρ b) w y0 x hw).mono ?_
    rintro e w' ⟨he, rfl⟩
    exact ⟨_, C, he, Cz.le.refl C, h0.drew, .str []⟩
  · refine ACalls.of_heap Tryz.func44 rfl (by decide) (σ' := σ.setR r none) (fun C w vs h0 hg ha => ?_) (h _ ⟨rfl, fun _ _ => rfl, by simp [nrs, St.setR], fun r' hne _ => ?_, .inl rfl⟩)
    · obtain ⟨us, rfl, hb, hr'⟩ := ha.vp_inv
      rw [hr'.nil_inv]
      obtain ⟨cs, hw, hcs⟩ := h0.var b _ hv
      have hlv : σ.live r := ⟨row, hr⟩
      obtain ⟨hlive, us, fr, hh⟩ := h0.row r row hr
      obtain ⟨y0, x, cap, rfl, hcap⟩ : ∃ y0 x cap, cs = [y0, x, .slice (some ⟨(C.row r).blk, (C.row r).base, none⟩) l.length cap] ∧ l.length ≤ cap := by
        cases hcs with
        | cons _ y0 _ _ _ t0 =>
         cases t0 with
         | cons _ v0 _ _ h t =>
          cases t with
          | cons _ _ _ _ h2 t2 =>
            cases h2 with
            | os _ _ _ a cap hrr hvv =>
              cases t2
              obtain ⟨rfl, _, hc⟩ := hvv hlive
              exact ⟨y0, v0, cap, by simp, hc⟩
      have hlen : us.length = (C.row r).size := hh.size
      have hfits := hh.fits
      rw [he, bytesE_length, hz, Nat.mul_one] at hfits
      have hrep := hh.rep
      rw [he, bytesE_length, hz, Nat.mul_one] at hrep
      have hcell : ∀ j x, l[j]? = some x → us.toArray[(C.row r).base + j]? = some (.int .u8 x.toNat) := by
        intro j x hx
        have hx' : (bytesE l).flatten[j]? = some (.int .u8 x.toNat) := by
          rw [bytesE_flatten, List.getElem?_map, hx]; rfl
        obtain ⟨v, hv1, hv2⟩ := hrep.get j _ hx'
        cases hv2
        have := take_drop_get hv1
        simpa using this
      have hheap := hh.heap
      rw [ht] at hheap
      refine (wString_heap (C.ρ b) w y0 x (C.row r).blk (C.row r).base cap us.toArray fr l hl0 hw hheap (by simp; omega) hcap h63 hcell).mono ?_
      rintro e w' ⟨hee, rfl⟩
      have hfree := h0.free_kill hlv
      have hk := (h0.kill r).drew
      refine ⟨_, C.kill r, hee, C.le_kill r, hk.at_free hfree ?_ ?_ (Lib.below_freeze hk.below hfree.base _), .str l⟩
      · intro k hne
        unfold World.freeze
        split
        · rfl
        · simp only [Array.getElem?_modify]
          rw [if_neg (fun e => hne e.symm)]
      · unfold World.freeze
        split
        · exact Nat.le_refl _
        · simp
    · have hne' : r' ≠ r := fun e => hne (by rw [e])
      simp only [getR, St.setR]; rw [List.getElem?_set_ne (Ne.symm hne')]
end
end Go.Ab.Sz
