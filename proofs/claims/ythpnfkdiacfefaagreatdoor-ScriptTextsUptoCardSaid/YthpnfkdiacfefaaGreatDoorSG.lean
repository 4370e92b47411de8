/- Part of this work: see the text that closes the claim. -/
import Derived.Test.YthpnfkdiacfefaaGreatDoorSB
import Derived.Test.YthpnfkdiacfefaaGreatDoorAbG
set_option linter.all false
set_option linter.unusedVariables false
set_option linter.unusedSimpArgs false
namespace Go.Ab.Ss
open Go Go.Ab Go.Proofs Go.RowKit
set_option maxRecDepth 40000
set_option linter.unusedSimpArgs false
section
variable {m : Int} {σ : St} {K : AV → St → Prop}
theorem u8_info : ∃ i, Tryz.prog.info? 5 = some i ∧ i.size = 1 ∧ i.bytes = 1 ∧ i.zero = some (.int .u8 0) := ⟨Tryz.t5, by kernel_rfl, rfl, rfl, rfl⟩
theorem Grow_c (n : Nat) (hn : n ≤ 1000000) (hK : ∀ v σ' ρ, Own 5 1 σ' v [] ρ → RB σ σ' none ρ → K v σ') : ACalls Tryz.prog (gD m) 22 [.nils, .int .i64 n] σ K := by
  obtain ⟨i, h1, h2, h3, h4⟩ := u8_info
  by_cases h0 : n = 0
  · subst h0
    refine ACalls.of_heap Tryz.func22 rfl (by decide) (σ' := σ) (r := .nils) (fun C w vs hr hg ha => ?_) (hK _ _ none (Own.nil _ _ _) (RB.refl σ none))
    cases ha with
    | cons _ v1 _ us a1 ha =>
      cases ha with
      | cons _ v2 _ us2 a2 ha =>
        cases ha; cases a1; cases a2
        refine (Any8.slices_Grow_room Tryz.laysGrow none 0 0 0 w (by omega) (by omega) (by omega) (by omega)).mono ?_
        rintro e w' ⟨he, rfl⟩
        exact ⟨_, C, he, Cz.le.refl C, hr, .nils⟩
  · refine ACalls.of_heap Tryz.func22 rfl (by decide) (σ' := σ.pushR ⟨5, 1, 0, []⟩) (r := .os (nrs σ) 0 0) (fun C w vs hr hg ha => ?_) (hK _ _ (some (nrs σ)) ⟨by simp, .inr ⟨nrs σ, ⟨5, 1, 0, []⟩, rfl, rfl, getR_last _ _, by simp, by simp, rfl, rfl, rfl⟩⟩ ⟨rfl, by simp [nrs, St.pushR], fun r _ h => ?_, fun r h => .inr (by cases h; exact Nat.le_refl _)⟩)
    · cases ha with
      | cons _ v1 _ us a1 ha =>
        cases ha with
        | cons _ v2 _ us2 a2 ha =>
          cases ha; cases a1; cases a2
          refine (Any8.slices_Grow_grow Tryz.laysGrow i (.int .u8 0) h1 h4 (by omega) none 0 0 n [] w (by omega) (by omega) (by rw [h3]; omega) (by omega) (by simp) (fun _ => rfl) (fun a h => by cases h)).mono ?_
          rintro e w' ⟨he, rfl⟩
          generalize hX : (#[] ++ Builtin.zeroCells (Value.int IntKind.u8 0).cells (0 + n - 0) ++ Builtin.zeroCells (Value.int IntKind.u8 0).cells (grownCap w (0 + n) 0 (Tryz.laysGrow_ren.t 25) - (0 + n)) : Array Value) = X
          have hge := grownCap_ge w (0 + n) 0 (Tryz.laysGrow_ren.t 25)
          have hXs : X.size = grownCap w (0 + n) 0 (Tryz.laysGrow_ren.t 25) := by
            rw [← hX]
            simp only [Array.size_append, Builtin.zeroCells, Array.size_map, Array.size_range, Value.cells, List.size_toArray, List.length_nil, List.length_singleton]
            rw [Nat.zero_add] at hge ⊢
            simp
            omega
          have hrel := hr.drew.newR ⟨5, 1, 0, []⟩ X.toList (0, 0) (by simp) (by simp; exact .nil) (by simp) (by simp)
          rw [Array.toArray_toList] at hrel
          refine ⟨_, _, he, C.le_pushR _, hrel, .os _ _ _ (some ⟨w.heap.size, 0, none⟩) _ (by simp [Cz.pushR, hr.nr, nrs]) (fun _ => ?_)⟩
          have e1 : ∀ rc, (C.pushR rc).row (nrs σ) = rc := fun rc => by simp only [Cz.pushR]; rw [if_pos (show nrs σ = C.nr from hr.nr.symm)]
          rw [e1]
          simp [hXs]
    · simp only [getR, nrs, St.pushR] at *
      rw [List.getElem?_append_left h]
end
end Go.Ab.Ss
namespace Go.Ab.Ss
open Go Go.Ab Go.Proofs Go.RowKit
set_option maxRecDepth 40000
set_option linter.unusedSimpArgs false
section
variable {m : Int} {σ : St} {K : AV → St → Prop}
theorem BufIs.pushR {e : TypeId} {buf : AV} {l : List UInt8} {ρ : Option Nat} (h : BufIs e σ buf l ρ) (y : Row) : BufIs e (σ.pushR y) buf l ρ := by
  rcases h with h | ⟨h0, r, row, h1, h2, h3, h4⟩
  · exact .inl h
  · exact .inr ⟨h0, r, row, h1, h2, by simp only [getR, St.pushR] at *; rw [List.getElem?_append_left (List.getElem?_eq_some_iff.1 h3).1]; exact h3, h4⟩
theorem WriteByte_c (b : Nat) (l : List UInt8) (c : UInt8) (ρ : Option Nat) (hb : Bld 37 5 σ b l ρ) (hle : l.length + 1 ≤ 140737488355328)
    (h : ∀ σ' ρ', Bld 37 5 σ' b (l ++ [c]) ρ' → nvs σ' = nvs σ → (∀ k, k ≠ b → getV σ' k = getV σ k) → (∀ σ1, Grown σ1 σ → nvs σ1 ≤ b → (∀ k, ρ = some k → nrs σ1 ≤ k) → Grown σ1 σ' ∧ ∀ k, ρ' = some k → nrs σ1 ≤ k) → K .nili σ') : ACalls Tryz.prog (gD m) 18 [.vp b 0, .int .u8 c.toNat] σ K := by
  obtain ⟨a, buf, hv, ha, hbuf⟩ := hb
  have hlt := getV_lt hv
  refine ACalls_fn tok fm (fk18 _) ?_
  simp (disch := first | omega | (simp only [ln]; first | done | omega)) only [walkAll, walkL, walkK, wk, E, Nat.reduceEqDiff, Nat.reduceAdd, Nat.reduceSub, Nat.reduceLeDiff, Int.reduceLT, Int.reduceLE, Int.reduceAdd, Int.reduceSub, Int.reduceToNat, ↓reduceIte, c18]
  refine copyCheck_c b a buf ha hv ?_
  have hv0 : getV (σ.setV b (.cells 37 [.vp b 0, buf])) b = some (.cells 37 [.vp b 0, buf]) := by simp (disch := first | omega | (simp only [ln]; first | done | omega)) only [walkAll, walkL, walkK, wk, E, Nat.reduceEqDiff, Nat.reduceAdd, Nat.reduceSub, Nat.reduceLeDiff, Int.reduceLT, Int.reduceLE, Int.reduceAdd, Int.reduceSub, Int.reduceToNat, ↓reduceIte]
  simp (disch := first | omega | (simp only [ln]; first | done | omega)) only [walkAll, walkL, walkK, wk, E, Nat.reduceEqDiff, Nat.reduceAdd, Nat.reduceSub, Nat.reduceLeDiff, Int.reduceLT, Int.reduceLE, Int.reduceAdd, Int.reduceSub, Int.reduceToNat, ↓reduceIte, hv0]
  have hb0 := (BufIs.pushR (hbuf.setV b (.cells 37 [.vp b 0, buf])) ⟨5, 1, 0, bytesE [c]⟩)
  have hx0 := elsA_one (getR_last (σ.setV b (.cells 37 [.vp b 0, buf])) ⟨5, 1, 0, [[.int .u8 c.toNat]]⟩)
  obtain ⟨buf', σ1, ρ', happ, hb', hrows, hcell, hone⟩ := app_bufx hb0 (s := [c]) hx0 hle
  have happ' : appX 5 1 1 ((σ.setV b (.cells 37 [.vp b 0, buf])).pushR ⟨5, 1, 0, [[.int .u8 c.toNat]]⟩) buf (.os (nrs σ) 0 1) = some (buf', σ1) := happ
  have hv1 : getV σ1 b = some (.cells 37 [.vp b 0, buf]) := by
    have : getV (σ.setV b (.cells 37 [.vp b 0, buf])) b = some (.cells 37 [.vp b 0, buf]) := by simp only [getV, St.setV]; exact List.getElem?_set_self hlt
    simp only [getV] at this ⊢
    rw [hrows.vars]; exact this
  simp (disch := first | omega | (simp only [ln]; first | done | omega)) only [walkAll, walkL, walkK, wk, E, Nat.reduceEqDiff, Nat.reduceAdd, Nat.reduceSub, Nat.reduceLeDiff, Int.reduceLT, Int.reduceLE, Int.reduceAdd, Int.reduceSub, Int.reduceToNat, ↓reduceIte, happ', hv1, hcell, hone]
  refine h _ ρ' ⟨_, _, ?_, .inr rfl, hb'.setV b _⟩ ?_ ?_ ?_
  · have : b < nvs σ1 := getV_lt hv1
    simp only [getV, St.setV]; exact List.getElem?_set_self this
  · simp [nvs, St.setV, hrows.vars, St.pushR]
  · intro k hk
    simp only [getV, St.setV]; rw [List.getElem?_set_ne (Ne.symm hk), hrows.vars]
    simp only [St.pushR, St.setV]; rw [List.getElem?_set_ne (Ne.symm hk)]
  · intro σ2 hg h1 h2
    refine ⟨(hrows.rb.grown (Grown.pushR (Grown.setV hg h1)) h2).setV h1, fun k hk => ?_⟩
    rcases hrows.rb.new k hk with h3 | h3
    · exact h2 k h3
    · have := hg.nrs
      have h4 : nrs ((σ.setV b (.cells 37 [.vp b 0, buf])).pushR ⟨5, 1, 0, bytesE [c]⟩) = nrs σ + 1 := by simp [nrs, St.pushR, St.setV]
      omega
theorem Concat_c (x y : AV) (lx ly : List UInt8) (r : Nat) (hr : getR σ r = some (some ⟨24, 1, 0, [[x], [y]]⟩)) (hx : ∀ σ' ρ', RB σ σ' none ρ' → elsA σ' x = some (bytesE lx)) (hy : ∀ σ' ρ', RB σ σ' none ρ' → elsA σ' y = some (bytesE ly))
    (hlx : lenlX x = some (.int .i64 lx.length)) (hly : lenlX y = some (.int .i64 ly.length)) (hlen : lx.length + ly.length ≤ 100000)
    (hK : ∀ v σ' ρ', Own 5 1 σ' v (bytesE (lx ++ ly)) ρ' → RB σ σ' none ρ' → K v σ') : ACalls Tryz.prog (gD m) 15 [.os r 0 2] σ K := by
  have rd : ∀ τ, getR τ r = getR σ r → Rd 1 τ (.os r 0 2) [[x], [y]] := fun τ h => ⟨by simp, .inr (.inr (.inr ⟨r, 0, _, rfl, h.trans hr, rfl, rfl⟩))⟩
  obtain ⟨p0, hp0, hpt0⟩ := (rd σ rfl).at (i := 0) (c := [x]) rfl .i64
  obtain ⟨p1, hp1, hpt1⟩ := (rd σ rfl).at (i := 1) (c := [y]) rfl .i64
  have hl0 := hpt0.one
  have hl1 := hpt1.one
  have hp0' : ixsX 1 σ (.os r 0 2) (.int .i64 0) = some p0 := hp0
  have hp1' : ixsX 1 σ (.os r 0 2) (.int .i64 1) = some p1 := hp1
  have d0 : decide ((0 : Int) < (2 : Int)) = true := rfl
  have d1 : decide ((1 : Int) < (2 : Int)) = true := rfl
  have d2 : decide ((2 : Int) < (2 : Int)) = false := rfl
  have d3 : decide ((lx.length : Int) < 0) = false := by simp
  have d4 : decide (((lx.length : Int) + (ly.length : Int)) < 0) = false := by simp; omega
  refine ACalls_fn tok fm (fk15 _) ?_
  simp (disch := first | omega | (simp only [ln]; first | done | omega)) only [walkAll, walkL, walkK, wk, E, Nat.reduceEqDiff, Nat.reduceAdd, Nat.reduceSub, Nat.reduceLeDiff, Int.reduceLT, Int.reduceLE, Int.reduceAdd, Int.reduceSub, Int.reduceToNat, ↓reduceIte, c15, lenlX]
  refine LoopC_unfold tok fm ?_
  simp (disch := first | omega | (simp only [ln]; first | done | omega)) only [walkAll, walkL, walkK, wk, E, Nat.reduceEqDiff, Nat.reduceAdd, Nat.reduceSub, Nat.reduceLeDiff, Int.reduceLT, Int.reduceLE, Int.reduceAdd, Int.reduceSub, Int.reduceToNat, ↓reduceIte, l15_0x, l15_0b, d0, hp0', hl0, hlx, d3, Int.zero_add]
  refine LoopC_unfold tok fm ?_
  simp (disch := first | omega | (simp only [ln]; first | done | omega)) only [walkAll, walkL, walkK, wk, E, Nat.reduceEqDiff, Nat.reduceAdd, Nat.reduceSub, Nat.reduceLeDiff, Int.reduceLT, Int.reduceLE, Int.reduceAdd, Int.reduceSub, Int.reduceToNat, ↓reduceIte, l15_0x, l15_0b, d1, hp1', hl1, hly, d4, Int.zero_add]
  refine LoopC_unfold tok fm ?_
  simp (disch := first | omega | (simp only [ln]; first | done | omega)) only [walkAll, walkL, walkK, wk, E, Nat.reduceEqDiff, Nat.reduceAdd, Nat.reduceSub, Nat.reduceLeDiff, Int.reduceLT, Int.reduceLE, Int.reduceAdd, Int.reduceSub, Int.reduceToNat, ↓reduceIte, l15_0x, l15_0b, d2]
  rw [show (lx.length : Int) + (ly.length : Int) = ((lx.length + ly.length : Nat) : Int) from (Int.natCast_add _ _).symm]
  refine Grow_c _ (by omega) fun v0 σ0 ρ0 ho0 hb0 => ?_
  have hlt : r < nrs σ := getR_lt hr
  have hr0 : getR σ0 r = getR σ r := hb0.row r (by simp) hlt
  obtain ⟨q0, hq0, hqt0⟩ := (rd σ0 hr0).at (i := 0) (c := [x]) rfl .i64
  have hq0' : ixsX 1 σ0 (.os r 0 2) (.int .i64 0) = some q0 := hq0
  have hm0 := hqt0.one
  simp (disch := first | omega | (simp only [ln]; first | done | omega)) only [walkAll, walkL, walkK, wk, E, Nat.reduceEqDiff, Nat.reduceAdd, Nat.reduceSub, Nat.reduceLeDiff, Int.reduceLT, Int.reduceLE, Int.reduceAdd, Int.reduceSub, Int.reduceToNat, ↓reduceIte]
  refine LoopC_unfold tok fm ?_
  simp (disch := first | omega | (simp only [ln]; first | done | omega)) only [walkAll, walkL, walkK, wk, E, Nat.reduceEqDiff, Nat.reduceAdd, Nat.reduceSub, Nat.reduceLeDiff, Int.reduceLT, Int.reduceLE, Int.reduceAdd, Int.reduceSub, Int.reduceToNat, ↓reduceIte, l15_1x, l15_1b, d0, hq0', hm0]
  refine own_appy ho0 (hx _ _ hb0) (bytes_len lx) (bytes_ones lx) (by simp [bytesE_length]; omega) fun v1 σ1 ρ1 ho1 hb1 => ?_
  have hb01 := hb0.trans hb1
  have hr1 : getR σ1 r = getR σ r := hb01.row r (by simp) hlt
  obtain ⟨q1, hq1, hqt1⟩ := (rd σ1 hr1).at (i := 1) (c := [y]) rfl .i64
  have hq1' : ixsX 1 σ1 (.os r 0 2) (.int .i64 1) = some q1 := hq1
  have hm1 := hqt1.one
  simp (disch := first | omega | (simp only [ln]; first | done | omega)) only [walkAll, walkL, walkK, wk, E, Nat.reduceEqDiff, Nat.reduceAdd, Nat.reduceSub, Nat.reduceLeDiff, Int.reduceLT, Int.reduceLE, Int.reduceAdd, Int.reduceSub, Int.reduceToNat, ↓reduceIte, Int.zero_add]
  refine LoopC_unfold tok fm ?_
  simp (disch := first | omega | (simp only [ln]; first | done | omega)) only [walkAll, walkL, walkK, wk, E, Nat.reduceEqDiff, Nat.reduceAdd, Nat.reduceSub, Nat.reduceLeDiff, Int.reduceLT, Int.reduceLE, Int.reduceAdd, Int.reduceSub, Int.reduceToNat, ↓reduceIte, l15_1x, l15_1b, d1, hq1', hm1]
  refine own_appy ho1 (hy _ _ hb01) (bytes_len ly) (bytes_ones ly) (by simp [bytesE_length]; omega) fun v2 σ2 ρ2 ho2 hb2 => ?_
  have hb02 := hb01.trans hb2
  simp (disch := first | omega | (simp only [ln]; first | done | omega)) only [walkAll, walkL, walkK, wk, E, Nat.reduceEqDiff, Nat.reduceAdd, Nat.reduceSub, Nat.reduceLeDiff, Int.reduceLT, Int.reduceLE, Int.reduceAdd, Int.reduceSub, Int.reduceToNat, ↓reduceIte]
  refine LoopC_unfold tok fm ?_
  simp (disch := first | omega | (simp only [ln]; first | done | omega)) only [walkAll, walkL, walkK, wk, E, Nat.reduceEqDiff, Nat.reduceAdd, Nat.reduceSub, Nat.reduceLeDiff, Int.reduceLT, Int.reduceLE, Int.reduceAdd, Int.reduceSub, Int.reduceToNat, ↓reduceIte, l15_1x, l15_1b, d2]
  refine hK _ _ ρ2 ?_ hb02
  rw [bytesE_append]
  simpa using ho2
end
end Go.Ab.Ss
namespace Go.Ab.Ss
open Go Go.Ab Go.Proofs Go.RowKit
set_option maxRecDepth 40000
set_option linter.unusedSimpArgs false
section
variable {m : Int} {σ : St} {K : AV → St → Prop}
theorem wrap_u8' (x : Int) : IntKind.u8.wrap x = x % 256 := rfl
theorem numB_lo (n : Nat) : IntKind.u8.wrap ((n : Int).fdiv (2 ^ min ((8 : Int) * 0).toNat IntKind.u64.bits)) = ((UInt8.ofNat n).toNat : Int) := by
  rw [wrap_u8']
  show ((n : Int).fdiv 1) % 256 = _
  simp
theorem numB_hi (n : Nat) : IntKind.u8.wrap ((n : Int).fdiv (2 ^ min ((8 : Int) * 1).toNat IntKind.u64.bits)) = ((UInt8.ofNat (n / 256)).toNat : Int) := by
  rw [wrap_u8']
  show ((n : Int).fdiv 256) % 256 = _
  rw [Int.fdiv_eq_ediv_of_nonneg _ (by decide)]
  simp
theorem own_stAt {e z : Nat} {σ : St} {v : AV} {k0 : IntKind} {a : Int} {l : List (List AV)} {r : Nat} (h : Own e z σ v l (some r)) {i k : Nat} {c : List AV} (hi : l[i]? = some c) (hk : k < z) :
    ∃ σ', stAt σ (.op r i k) [.int k0 a] = some σ' ∧ Own e z σ' v (l.set i (c.set k (.int k0 a))) (some r) ∧ RB σ σ' (some r) (some r) := by
  obtain ⟨σ', h1, h2, h3⟩ := own_st (x := .int k0 a) h hi hk rfl rfl
  exact ⟨σ', (show stX 1 σ (.op r i k) (.int k0 a) = _ from if_pos ⟨rfl, rfl⟩).symm.trans h1, h2, h3.rb⟩
theorem own_elsA {e z : Nat} {σ : St} {v : AV} {l : List (List AV)} {ρ : Option Nat} (h : Own e z σ v l ρ) : elsA σ v = some l := by
  rcases h.2 with ⟨rfl, rfl, _⟩ | ⟨r, row, _, rfl, hr, hln, ht, _⟩
  · rfl
  · simp only [getR] at hr
    simp only [elsA, hr, Nat.zero_add, hln, if_true, List.drop_zero, ht]
theorem Put_c (n : Nat) (hn : n ≤ 4096) (hK : ∀ v σ' ρ', Own 5 1 σ' v (bytesE (numB n)) ρ' → RB σ σ' none ρ' → K v σ') : ACalls Tryz.prog (gD m) 16 [.nils, .int .u64 n, .int .i64 2] σ K := by
  have d0 : decide ((0 : Int) < (2 : Int)) = true := rfl
  have d1 : decide ((1 : Int) < (2 : Int)) = true := rfl
  have d2 : decide ((2 : Int) < (2 : Int)) = false := rfl
  have mx2 : (if (0 : Int) > 2 then (0 : Int) else 2) = 2 := rfl
  have mn2 : (if (8 : Int) < 2 then (8 : Int) else 2) = 2 := rfl
  refine ACalls_fn tok fm (fk16 _) ?_
  simp (disch := first | omega | (simp only [ln]; first | done | omega)) only [walkAll, walkL, walkK, wk, E, Nat.reduceEqDiff, Nat.reduceAdd, Nat.reduceSub, Nat.reduceLeDiff, Int.reduceLT, Int.reduceLE, Int.reduceAdd, Int.reduceSub, Int.reduceToNat, ↓reduceIte, c16, mx2, mn2]
  have ho : Own 5 1 (σ.pushR ⟨5, 1, 0, List.replicate 2 [.int .u8 0]⟩) (.os (nrs σ) 0 2) (List.replicate 2 [.int .u8 0]) (some (nrs σ)) :=
    ⟨by decide, .inr ⟨nrs σ, ⟨5, 1, 0, List.replicate 2 [.int .u8 0]⟩, rfl, rfl, getR_last _ _, by simp, by simp, rfl, rfl, rfl⟩⟩
  have hb : RB σ (σ.pushR ⟨5, 1, 0, List.replicate 2 [.int .u8 0]⟩) none (some (nrs σ)) := ⟨rfl, by simp [nrs, St.pushR], fun r _ h => by
    simp only [getR, nrs, St.pushR] at *
    rw [List.getElem?_append_left h], fun r h => .inr (by cases h; exact Nat.le_refl _)⟩
  generalize σ.pushR ⟨5, 1, 0, List.replicate 2 [.int .u8 0]⟩ = σ0 at ho hb ⊢
  obtain ⟨r1, e1, hp1, _⟩ := own_at ho (i := 1) (c := [.int .u8 0]) rfl
  cases e1
  have hp1' : ixsX 1 σ0 (.os (nrs σ) 0 2) (.int .i64 1) = some (.op (nrs σ) 1 0) := hp1
  obtain ⟨σ1, hs1, ho1, hb1⟩ := own_stAt (k0 := .u8) (a := ((UInt8.ofNat n).toNat : Int)) ho (i := 1) (k := 0) (c := [.int .u8 0]) rfl (by decide)
  obtain ⟨r2, e2, hp2, _⟩ := own_at ho1 (i := 0) (c := [.int .u8 0]) rfl
  cases e2
  have hp2' : ixsX 1 σ1 (.os (nrs σ) 0 2) (.int .i64 0) = some (.op (nrs σ) 0 0) := hp2
  obtain ⟨σ2, hs2, ho2, hb2⟩ := own_stAt (k0 := .u8) (a := ((UInt8.ofNat (n / 256)).toNat : Int)) ho1 (i := 0) (k := 0) (c := [.int .u8 0]) rfl (by decide)
  have hb12 := (hb.trans hb1).trans hb2
  have hb12' : RB σ σ2 none none := ⟨hb12.vars, hb12.grow, hb12.row, fun _ h => by cases h⟩
  have ho3 : Own 5 1 σ2 (.os (nrs σ) 0 2) (bytesE (numB n)) (some (nrs σ)) := ho2
  refine LoopC_unfold tok fm ?_
  simp (disch := first | omega | (simp only [ln]; first | done | omega)) only [walkAll, walkL, walkK, wk, E, Nat.reduceEqDiff, Nat.reduceAdd, Nat.reduceSub, Nat.reduceLeDiff, Int.reduceLT, Int.reduceLE, Int.reduceAdd, Int.reduceSub, Int.reduceToNat, ↓reduceIte, l16_0x, l16_0b, d0, hp1', numB_lo, hs1, Int.zero_add]
  refine LoopC_unfold tok fm ?_
  simp (disch := first | omega | (simp only [ln]; first | done | omega)) only [walkAll, walkL, walkK, wk, E, Nat.reduceEqDiff, Nat.reduceAdd, Nat.reduceSub, Nat.reduceLeDiff, Int.reduceLT, Int.reduceLE, Int.reduceAdd, Int.reduceSub, Int.reduceToNat, ↓reduceIte, l16_0x, l16_0b, d1, hp2', numB_hi, hs2, Int.zero_add]
  refine LoopC_unfold tok fm ?_
  simp (disch := first | omega | (simp only [ln]; first | done | omega)) only [walkAll, walkL, walkK, wk, E, Nat.reduceEqDiff, Nat.reduceAdd, Nat.reduceSub, Nat.reduceLeDiff, Int.reduceLT, Int.reduceLE, Int.reduceAdd, Int.reduceSub, Int.reduceToNat, ↓reduceIte, l16_0x, l16_0b, d2]
  have hy0 : elsA σ2 (.os (nrs σ) 0 2) = some (bytesE (numB n)) := own_elsA ho3
  refine Concat_c .nils (.os (nrs σ) 0 2) [] (numB n) (nrs σ2) (getR_last _ _) (fun _ _ _ => rfl) (fun σ' ρ' h => ?_) rfl rfl (by simp [numB]) fun v σ' ρ' ho' hb' => ?_
  · have h3 : Comp.ok σ' ⟨5, 1, .os (nrs σ) 0 2, bytesE (numB n), some (nrs σ)⟩ := Comp.ok.rb (Comp.ok.rb (σ := σ2) (c := ⟨5, 1, .os (nrs σ) 0 2, bytesE (numB n), some (nrs σ)⟩) ho3 (RB.pushR σ2 _) (fun _ _ h => by cases h)) h (fun _ _ h => by cases h)
    exact own_elsA h3
  · simp (disch := first | omega | (simp only [ln]; first | done | omega)) only [walkAll, walkL, walkK, wk, E, Nat.reduceEqDiff, Nat.reduceAdd, Nat.reduceSub, Nat.reduceLeDiff, Int.reduceLT, Int.reduceLE, Int.reduceAdd, Int.reduceSub, Int.reduceToNat, ↓reduceIte]
    exact hK _ _ ρ' ho' ((hb12'.trans (RB.pushR σ2 _)).trans hb')
end
end Go.Ab.Ss
namespace Go.Ab.Ss
open Go Go.Ab Go.Proofs Go.RowKit
set_option maxRecDepth 40000
set_option linter.unusedSimpArgs false
theorem frz_own {e z : Nat} {σ' : St} {v : AV} {l : List (List AV)} {ρ : Option Nat} (h : Own e z σ' v l ρ) (h0 : l ≠ []) (f : AV → AV) (hf : ∀ k els, frz k els (f v) = f (frz k els v)) : Frz σ' (f v) (f (lsv l)) := by
  rcases h.2 with ⟨_, rfl, _⟩ | ⟨r, row, _, rfl, hr, hln, ht, _⟩
  · exact absurd rfl h0
  · refine .inr ⟨r, row, hr, ?_⟩
    rw [hf]
    simp only [frz, Nat.zero_add, hln, and_self, if_true, List.drop_zero, ht, lsv, if_neg h0]
section
variable {m : Int} {σ : St} {K : AV → St → Prop}
def codeF (l : List UInt8) : Int := if l.length = 0 then 1 else if 4096 < l.length then 4 else 0
theorem frameS_ok {l : List UInt8} (h0 : l.length ≠ 0) (h1 : ¬ 4096 < l.length) : frameS l = numB l.length ++ l ∧ codeF l = 0 := by
  constructor
  · unfold frameS; rw [if_neg (by omega)]
  · unfold codeF; rw [if_neg h0, if_neg h1]
theorem own_one {e z : Nat} {σ' : St} {v : AV} {l : List (List AV)} {ρ : Option Nat} (h : Own e z σ' v l ρ) : cellsA v = [v] ∧ v.one = true := by
  rcases h.2 with ⟨rfl, _, _⟩ | ⟨r, row, _, rfl, _⟩ <;> exact ⟨rfl, rfl⟩
theorem own_lenl {e z : Nat} {σ' : St} {v : AV} {l : List (List AV)} {ρ : Option Nat} (h : Own e z σ' v l ρ) : lenlX v = some (.int .i64 l.length) := by
  rcases h.2 with ⟨rfl, rfl, _⟩ | ⟨r, row, _, rfl, _⟩ <;> rfl
theorem own_rb {e z : Nat} {σ σ' : St} {v : AV} {l : List (List AV)} {ρ ρ' : Option Nat} (h : Own e z σ v l ρ) (hb : RB σ σ' none ρ') : Own e z σ' v l ρ :=
  Comp.ok.rb (σ := σ) (c := ⟨e, z, v, l, ρ⟩) h hb (fun _ _ h => by cases h)
theorem linkFrame_c (nn : Bool) (l : List UInt8) (h : K (.tup [lsv (bytesE (frameS l)), .int .i64 (codeF l)]) σ) : ACalls Tryz.prog (gD m) 8 [lsq nn (bytesE l)] σ K := by
  refine (ACalls.frame_frz gD_data (.cons _ _ (lsq_data nn (bytes_data l)) .nil) (Q := fun r => r = .tup [lsv (bytesE (frameS l)), .int .i64 (codeF l)]) ?_ σ).mono (fun r σ' hr => by rw [hr.1, hr.2]; exact h)
  have hel : ∀ τ, elsA τ (lsq nn (bytesE l)) = some (bytesE l) := fun τ => elsA_lsq τ nn _
  have hln : lenlX (lsq nn (bytesE l)) = some (.int .i64 l.length) := by rw [lenlX_lsq, bytesE_length]
  have hc : cellsA (lsq nn (bytesE l)) = [lsq nn (bytesE l)] := lsq_cells _ _
  have h1 := lsq_one nn (bytesE l)
  generalize lsq nn (bytesE l) = x at hel hln hc h1
  have hdd : Data (.tup [lsv (bytesE (frameS l)), .int .i64 (codeF l)]) := by simp only [dataR, and_true]; exact lsv_data (bytes_data _)
  refine ACalls_fn tok fm (fk8 _) ?_
  by_cases h0 : l.length = 0
  · have e0 : ((l.length : Int) == 0) = true := by simp [h0]
    simp (disch := first | omega | (simp only [ln]; first | done | omega)) only [walkAll, walkL, walkK, wk, E, Nat.reduceEqDiff, Nat.reduceAdd, Nat.reduceSub, Nat.reduceLeDiff, Int.reduceLT, Int.reduceLE, Int.reduceAdd, Int.reduceSub, Int.reduceToNat, ↓reduceIte, c8, hln, e0]
    have e2 : (.tup [.nils, .int .i64 1] : AV) = .tup [lsv (bytesE (frameS l)), .int .i64 (codeF l)] := by simp [codeF, frameS, h0, bytesE, lsv]
    exact ⟨_, .inl e2, hdd, rfl⟩
  · have e0 : ((l.length : Int) == 0) = false := by simp; intro h; simp [h] at h0
    by_cases h4 : 4096 < l.length
    · have e1 : decide ((4096 : Int) < (l.length : Int)) = true := decide_eq_true (by omega)
      simp (disch := first | omega | (simp only [ln]; first | done | omega)) only [walkAll, walkL, walkK, wk, E, Nat.reduceEqDiff, Nat.reduceAdd, Nat.reduceSub, Nat.reduceLeDiff, Int.reduceLT, Int.reduceLE, Int.reduceAdd, Int.reduceSub, Int.reduceToNat, ↓reduceIte, c8, hln, e0, e1]
      have e2 : (.tup [.nils, .int .i64 4] : AV) = .tup [lsv (bytesE (frameS l)), .int .i64 (codeF l)] := by simp [codeF, frameS, h0, h4, bytesE, lsv]
      exact ⟨_, .inl e2, hdd, rfl⟩
    · have e1 : decide ((4096 : Int) < (l.length : Int)) = false := decide_eq_false (by omega)
      have ew : IntKind.u64.wrap (l.length : Int) = (l.length : Int) := wrap_u64 _ (by omega) (by omega)
      simp (disch := first | omega | (simp only [ln]; first | done | omega)) only [walkAll, walkL, walkK, wk, E, Nat.reduceEqDiff, Nat.reduceAdd, Nat.reduceSub, Nat.reduceLeDiff, Int.reduceLT, Int.reduceLE, Int.reduceAdd, Int.reduceSub, Int.reduceToNat, ↓reduceIte, c8, hln, e0, e1, ew]
      refine Put_c l.length (by omega) fun v σ1 ρ1 ho1 hb1 => ?_
      have hv1 := own_one ho1
      have hel1 : ∀ τ ρ', RB (σ1.pushR ⟨24, 1, 0, [[v], [x]]⟩) τ none ρ' → elsA τ v = some (bytesE (numB l.length)) := fun τ ρ' hτ => own_elsA (own_rb (own_rb ho1 (RB.pushR σ1 _)) hτ)
      have hvl : lenlX v = some (.int .i64 (numB l.length).length) := by rw [own_lenl ho1, bytesE_length]
      simp (disch := first | omega | (simp only [ln]; first | done | omega)) only [walkAll, walkL, walkK, wk, E, Nat.reduceEqDiff, Nat.reduceAdd, Nat.reduceSub, Nat.reduceLeDiff, Int.reduceLT, Int.reduceLE, Int.reduceAdd, Int.reduceSub, Int.reduceToNat, ↓reduceIte, hc, h1, hv1.1, hv1.2]
      refine Concat_c v x (numB l.length) l (nrs σ1) (getR_last _ _) hel1 (fun τ _ _ => hel τ) hvl hln (by simp [numB]; omega) fun v2 σ2 ρ2 ho2 _ => ?_
      simp (disch := first | omega | (simp only [ln]; first | done | omega)) only [walkAll, walkL, walkK, wk, E, Nat.reduceEqDiff, Nat.reduceAdd, Nat.reduceSub, Nat.reduceLeDiff, Int.reduceLT, Int.reduceLE, Int.reduceAdd, Int.reduceSub, Int.reduceToNat, ↓reduceIte]
      have hF := frameS_ok h0 h4
      rw [hF.1, hF.2] at hdd ⊢
      exact ⟨_, frz_own ho2 (by simp [bytesE, numB]) (fun u => .tup [u, .int .i64 0]) (fun k els => by simp only [frzR]), hdd, rfl⟩
theorem refPut_c (n : Nat) (hn : n ≤ 4096) (hK : ∀ v σ' ρ', Own 5 1 σ' v (bytesE (numB n)) ρ' → RB σ σ' none ρ' → K v σ') : ACalls Tryz.prog (gD m) 19 [.nils, .int .u64 n, .int .i64 2] σ K := by
  have mn2 : (if (8 : Int) < 2 then (8 : Int) else 2) = 2 := rfl
  have mx2 : (if (2 : Int) > 0 then (2 : Int) else 0) = 2 := rfl
  have a8 : IntKind.u64.wrap ((8 : Int) * 1) = 8 * 1 := rfl
  have a0 : IntKind.u64.wrap ((8 : Int) * 0) = 8 * 0 := rfl
  have hap : appX 5 1 1 σ .nils .nils = some (.nils, σ) := rfl
  refine ACalls_fn tok fm (fk19 _) ?_
  simp (disch := first | omega | (simp only [ln]; first | done | omega)) only [walkAll, walkL, walkK, wk, E, Nat.reduceEqDiff, Nat.reduceAdd, Nat.reduceSub, Nat.reduceLeDiff, Int.reduceLT, Int.reduceLE, Int.reduceAdd, Int.reduceSub, Int.reduceToNat, ↓reduceIte, c19, mx2, mn2, hap]
  refine LoopC_unfold tok fm ?_
  have hc0 : decide ((2 : Int) < 0) = false := rfl
  simp (disch := first | omega | (simp only [ln]; first | done | omega)) only [walkAll, walkL, walkK, wk, E, Nat.reduceEqDiff, Nat.reduceAdd, Nat.reduceSub, Nat.reduceLeDiff, Int.reduceLT, Int.reduceLE, Int.reduceAdd, Int.reduceSub, Int.reduceToNat, ↓reduceIte, l19_0x, l19_0b, numB_hi]
  refine own_appx (Own.nil _ _ _) (elsA_one (getR_last σ _)) rfl rfl (by decide) fun v1 σ1 ρ1 ho1 hb1 => ?_
  simp (disch := first | omega | (simp only [ln]; first | done | omega)) only [walkAll, walkL, walkK, wk, E, Nat.reduceEqDiff, Nat.reduceAdd, Nat.reduceSub, Nat.reduceLeDiff, Int.reduceLT, Int.reduceLE, Int.reduceAdd, Int.reduceSub, Int.reduceToNat, ↓reduceIte]
  refine LoopC_unfold tok fm ?_
  simp (disch := first | omega | (simp only [ln]; first | done | omega)) only [walkAll, walkL, walkK, wk, E, Nat.reduceEqDiff, Nat.reduceAdd, Nat.reduceSub, Nat.reduceLeDiff, Int.reduceLT, Int.reduceLE, Int.reduceAdd, Int.reduceSub, Int.reduceToNat, ↓reduceIte, l19_0x, l19_0b, numB_lo]
  have ho1' := own_rb ho1 (RB.pushR σ1 ⟨5, 1, 0, [[.int .u8 ((UInt8.ofNat n).toNat : Int)]]⟩)
  refine own_appx ho1' (elsA_one (getR_last σ1 _)) rfl rfl (by simp) fun v2 σ2 ρ2 ho2 hb2 => ?_
  simp (disch := first | omega | (simp only [ln]; first | done | omega)) only [walkAll, walkL, walkK, wk, E, Nat.reduceEqDiff, Nat.reduceAdd, Nat.reduceSub, Nat.reduceLeDiff, Int.reduceLT, Int.reduceLE, Int.reduceAdd, Int.reduceSub, Int.reduceToNat, ↓reduceIte]
  refine LoopC_unfold tok fm ?_
  simp (disch := first | omega | (simp only [ln]; first | done | omega)) only [walkAll, walkL, walkK, wk, E, Nat.reduceEqDiff, Nat.reduceAdd, Nat.reduceSub, Nat.reduceLeDiff, Int.reduceLT, Int.reduceLE, Int.reduceAdd, Int.reduceSub, Int.reduceToNat, ↓reduceIte, l19_0x, l19_0b]
  have r1 : RB σ σ1 none ρ1 := (RB.pushR σ _).trans hb1
  have r2 : RB σ1 (σ1.pushR ⟨5, 1, 0, [[.int .u8 ((UInt8.ofNat n).toNat : Int)]]⟩) ρ1 ρ1 := ⟨rfl, (RB.pushR σ1 _).grow, fun r h => (RB.pushR σ1 _).row r (by simp), fun _ h => .inl h⟩
  exact hK _ _ ρ2 ho2 ((r1.trans r2).trans hb2)
theorem refFramed_c (nn : Bool) (l : List UInt8) (h : K (.tup [lsv (bytesE (frameS l)), .int .i64 (codeF l)]) σ) : ACalls Tryz.prog (gD m) 12 [lsq nn (bytesE l)] σ K := by
  refine (ACalls.frame_frz gD_data (.cons _ _ (lsq_data nn (bytes_data l)) .nil) (Q := fun r => r = .tup [lsv (bytesE (frameS l)), .int .i64 (codeF l)]) ?_ σ).mono (fun r σ' hr => by rw [hr.1, hr.2]; exact h)
  have hel : ∀ τ, elsA τ (lsq nn (bytesE l)) = some (bytesE l) := fun τ => elsA_lsq τ nn _
  have hln : lenlX (lsq nn (bytesE l)) = some (.int .i64 l.length) := by rw [lenlX_lsq, bytesE_length]
  generalize lsq nn (bytesE l) = x at hel hln
  have hdd : Data (.tup [lsv (bytesE (frameS l)), .int .i64 (codeF l)]) := by simp only [dataR, and_true]; exact lsv_data (bytes_data _)
  refine ACalls_fn tok fm (fk12 _) ?_
  by_cases h0 : l.length = 0
  · have e0 : ((l.length : Int) == 0) = true := by simp [h0]
    simp (disch := first | omega | (simp only [ln]; first | done | omega)) only [walkAll, walkL, walkK, wk, E, Nat.reduceEqDiff, Nat.reduceAdd, Nat.reduceSub, Nat.reduceLeDiff, Int.reduceLT, Int.reduceLE, Int.reduceAdd, Int.reduceSub, Int.reduceToNat, ↓reduceIte, c12, hln, e0]
    have e2 : (.tup [.nils, .int .i64 1] : AV) = .tup [lsv (bytesE (frameS l)), .int .i64 (codeF l)] := by simp [codeF, frameS, h0, bytesE, lsv]
    exact ⟨_, .inl e2, hdd, rfl⟩
  · have e0 : ((l.length : Int) == 0) = false := by simp; intro h; simp [h] at h0
    by_cases h4 : 4096 < l.length
    · have e1 : decide ((4096 : Int) < (l.length : Int)) = true := decide_eq_true (by omega)
      simp (disch := first | omega | (simp only [ln]; first | done | omega)) only [walkAll, walkL, walkK, wk, E, Nat.reduceEqDiff, Nat.reduceAdd, Nat.reduceSub, Nat.reduceLeDiff, Int.reduceLT, Int.reduceLE, Int.reduceAdd, Int.reduceSub, Int.reduceToNat, ↓reduceIte, c12, hln, e0, e1]
      have e2 : (.tup [.nils, .int .i64 4] : AV) = .tup [lsv (bytesE (frameS l)), .int .i64 (codeF l)] := by simp [codeF, frameS, h0, h4, bytesE, lsv]
      exact ⟨_, .inl e2, hdd, rfl⟩
    · have e1 : decide ((4096 : Int) < (l.length : Int)) = false := decide_eq_false (by omega)
      have ew : IntKind.u64.wrap (l.length : Int) = (l.length : Int) := wrap_u64 _ (by omega) (by omega)
      simp (disch := first | omega | (simp only [ln]; first | done | omega)) only [walkAll, walkL, walkK, wk, E, Nat.reduceEqDiff, Nat.reduceAdd, Nat.reduceSub, Nat.reduceLeDiff, Int.reduceLT, Int.reduceLE, Int.reduceAdd, Int.reduceSub, Int.reduceToNat, ↓reduceIte, c12, hln, e0, e1, ew]
      refine refPut_c l.length (by omega) fun v σ1 ρ1 ho1 hb1 => ?_
      simp (disch := first | omega | (simp only [ln]; first | done | omega)) only [walkAll, walkL, walkK, wk, E, Nat.reduceEqDiff, Nat.reduceAdd, Nat.reduceSub, Nat.reduceLeDiff, Int.reduceLT, Int.reduceLE, Int.reduceAdd, Int.reduceSub, Int.reduceToNat, ↓reduceIte]
      refine own_appy ho1 (hel σ1) (bytes_len l) (bytes_ones l) (by simp [bytesE_length, numB]; omega) fun v2 σ2 ρ2 ho2 _ => ?_
      simp (disch := first | omega | (simp only [ln]; first | done | omega)) only [walkAll, walkL, walkK, wk, E, Nat.reduceEqDiff, Nat.reduceAdd, Nat.reduceSub, Nat.reduceLeDiff, Int.reduceLT, Int.reduceLE, Int.reduceAdd, Int.reduceSub, Int.reduceToNat, ↓reduceIte]
      have hF := frameS_ok h0 h4
      rw [hF.1, hF.2] at hdd ⊢
      rw [bytesE_append] at hdd ⊢
      exact ⟨_, frz_own ho2 (by simp [bytesE, numB]) (fun u => .tup [u, .int .i64 0]) (fun k els => by simp only [frzR]), hdd, rfl⟩
end
end Go.Ab.Ss
namespace Go.Ab.Ss
open Go Go.Ab Go.Proofs Go.RowKit
set_option maxRecDepth 40000
set_option linter.unusedSimpArgs false
theorem hex_hi0 : ∀ n : Nat, n < 256 → [48, 49, 50, 51, 52, 53, 54, 55, 56, 57, 65, 66, 67, 68, 69, 70][((n : Int).fdiv (2 ^ min 4 IntKind.u8.bits)).toNat]? = some (hexD (n / 16)) ∧ 0 ≤ ((n : Int).fdiv (2 ^ min 4 IntKind.u8.bits)) := by decide +kernel
theorem hex_hi (c : UInt8) : ixstrX (.str [48, 49, 50, 51, 52, 53, 54, 55, 56, 57, 65, 66, 67, 68, 69, 70]) (.int .u8 ((c.toNat : Int).fdiv (2 ^ min 4 IntKind.u8.bits))) = some (.int .u8 (hexD (c.toNat / 16)).toNat) := by
  obtain ⟨h1, h2⟩ := hex_hi0 c.toNat c.toNat_lt
  simp only [ixstrX, if_pos h2, h1, Option.map_some]
theorem hex_lo0 : ∀ n : Nat, n < 256 → [48, 49, 50, 51, 52, 53, 54, 55, 56, 57, 65, 66, 67, 68, 69, 70][(IntKind.u8.wrap (BitVec.ofInt IntKind.u8.bits (n : Int) &&& BitVec.ofInt IntKind.u8.bits 15).toNat).toNat]? = some (hexD (n % 16)) ∧ 0 ≤ (IntKind.u8.wrap (BitVec.ofInt IntKind.u8.bits (n : Int) &&& BitVec.ofInt IntKind.u8.bits 15).toNat) := by decide +kernel
theorem hex_lo (c : UInt8) : ixstrX (.str [48, 49, 50, 51, 52, 53, 54, 55, 56, 57, 65, 66, 67, 68, 69, 70]) (.int .u8 (IntKind.u8.wrap (BitVec.ofInt IntKind.u8.bits (c.toNat : Int) &&& BitVec.ofInt IntKind.u8.bits 15).toNat)) = some (.int .u8 (hexD (c.toNat % 16)).toNat) := by
  obtain ⟨h1, h2⟩ := hex_lo0 c.toNat c.toNat_lt
  simp only [ixstrX, if_pos h2, h1, Option.map_some]
theorem sl_hi0 : ∀ n : Nat, n < 256 → bnd (some (.int .u8 (IntKind.u8.wrap (((n : Int).fdiv (2 ^ min 4 IntKind.u8.bits)) + 1)))) 16 16 = some (n / 16 + 1) ∧ bnd (some (.int .u8 ((n : Int).fdiv (2 ^ min 4 IntKind.u8.bits)))) (n / 16 + 1) 0 = some (n / 16) ∧ List.take (n / 16 + 1 - n / 16) (List.drop (n / 16) [48, 49, 50, 51, 52, 53, 54, 55, 56, 57, 65, 66, 67, 68, 69, 70]) = [hexD (n / 16)] := by decide +kernel
theorem sl_hi (c : UInt8) : ((bnd (some (.int .u8 (IntKind.u8.wrap (((c.toNat : Int).fdiv (2 ^ min 4 IntKind.u8.bits)) + 1)))) 16 16).bind fun h => (bnd (some (.int .u8 ((c.toNat : Int).fdiv (2 ^ min 4 IntKind.u8.bits)))) h 0).bind fun l => some (AV.str (List.take (h - l) (List.drop l [48, 49, 50, 51, 52, 53, 54, 55, 56, 57, 65, 66, 67, 68, 69, 70])))) = some (.str [hexD (c.toNat / 16)]) := by
  obtain ⟨h1, h2, h3⟩ := sl_hi0 c.toNat c.toNat_lt
  rw [h1, Option.bind_some, h2, Option.bind_some, h3]
theorem sl_lo0 : ∀ n : Nat, n < 256 → bnd (some (.int .u8 (IntKind.u8.wrap ((IntKind.u8.wrap (BitVec.ofInt IntKind.u8.bits (n : Int) &&& BitVec.ofInt IntKind.u8.bits 15).toNat) + 1)))) 16 16 = some (n % 16 + 1) ∧ bnd (some (.int .u8 (IntKind.u8.wrap (BitVec.ofInt IntKind.u8.bits (n : Int) &&& BitVec.ofInt IntKind.u8.bits 15).toNat))) (n % 16 + 1) 0 = some (n % 16) ∧ List.take (n % 16 + 1 - n % 16) (List.drop (n % 16) [48, 49, 50, 51, 52, 53, 54, 55, 56, 57, 65, 66, 67, 68, 69, 70]) = [hexD (n % 16)] := by decide +kernel
theorem sl_lo (c : UInt8) : ((bnd (some (.int .u8 (IntKind.u8.wrap ((IntKind.u8.wrap (BitVec.ofInt IntKind.u8.bits (c.toNat : Int) &&& BitVec.ofInt IntKind.u8.bits 15).toNat) + 1)))) 16 16).bind fun h => (bnd (some (.int .u8 (IntKind.u8.wrap (BitVec.ofInt IntKind.u8.bits (c.toNat : Int) &&& BitVec.ofInt IntKind.u8.bits 15).toNat))) h 0).bind fun l => some (AV.str (List.take (h - l) (List.drop l [48, 49, 50, 51, 52, 53, 54, 55, 56, 57, 65, 66, 67, 68, 69, 70])))) = some (.str [hexD (c.toNat % 16)]) := by
  obtain ⟨h1, h2, h3⟩ := sl_lo0 c.toNat c.toNat_lt
  rw [h1, Option.bind_some, h2, Option.bind_some, h3]
section
variable {m : Int} {σ : St} {K : AV → St → Prop}
theorem hex_loop (b : Nat) (x : AV) (l : List UInt8) (hl : l.length ≤ 100000) (hRd : ∀ τ, Rd 1 τ x (bytesE l)) {Q : EQ} : ∀ (rest : List UInt8) (k : Nat) (pre : List UInt8) (τ : St) (ρ : Option Nat) (e : Env),
    l.drop k = rest → pre ++ hexS rest = hexS l → Bld 37 5 τ b pre ρ → e 3 = some (.vp b 0) → e 6 = some x → e 7 = some (.int .i64 l.length) → e 8 = some (.int .i64 k) →
    (∀ e' τ' ρ', Bld 37 5 τ' b (hexS l) ρ' → e' 3 = some (.vp b 0) → Q (.exit 0) e' τ') → LoopC Tryz.prog tt (gD m) l10_0 Q e τ := by
  intro rest
  induction rest with
  | nil =>
    intro k pre τ ρ e hd hpre hB h3 h6 h7 h8 hx
    have hi : l.length ≤ k := by simpa using hd
    have hb : decide ((k : Int) < (l.length : Int)) = false := by simp; omega
    refine LoopC_unfold tok fm ?_
    simp (disch := first | omega | (simp only [ln]; first | done | omega)) only [walkAll, walkL, walkK, wk, E, Nat.reduceEqDiff, Nat.reduceAdd, Nat.reduceSub, Nat.reduceLeDiff, Int.reduceLT, Int.reduceLE, Int.reduceAdd, Int.reduceSub, Int.reduceToNat, ↓reduceIte, l10_0x, l10_0b, h7, h8, hb]
    refine hx _ τ ρ ?_ (by simp [put, h3])
    simp only [hexS, List.append_nil] at hpre
    rw [← hpre]; exact hB
  | cons c rest ih =>
    intro k pre τ ρ e hd hpre hB h3 h6 h7 h8 hx
    obtain ⟨hc, hd'⟩ := drop_cons hd
    have hi := (List.getElem?_eq_some_iff.1 hc).1
    have hb : decide ((k : Int) < (l.length : Int)) = true := by simp; omega
    obtain ⟨p, hp, hpt⟩ := (hRd τ).at (i := k) (c := [.int .u8 c.toNat]) (by simp only [bytesE]; rw [List.getElem?_map, hc]; rfl) .i64
    have hld := hpt.one
    have hpl : pre.length + 2 * (rest.length + 1) = 2 * l.length := by
      have := congrArg List.length hpre
      rw [List.length_append, hexS_len, hexS_len] at this
      simpa using this
    refine LoopC_unfold tok fm ?_
    simp (disch := first | omega | (simp only [ln]; first | done | omega)) only [walkAll, walkL, walkK, wk, E, Nat.reduceEqDiff, Nat.reduceAdd, Nat.reduceSub, Nat.reduceLeDiff, Int.reduceLT, Int.reduceLE, Int.reduceAdd, Int.reduceSub, Int.reduceToNat, ↓reduceIte, l10_0x, l10_0b, h3, h6, h7, h8, hb, hp, hld, hex_hi]
    refine WriteByte_c b pre _ ρ hB (by omega) fun τ1 ρ1 hB1 _ _ _ => ?_
    simp (disch := first | omega | (simp only [ln]; first | done | omega)) only [walkAll, walkL, walkK, wk, E, Nat.reduceEqDiff, Nat.reduceAdd, Nat.reduceSub, Nat.reduceLeDiff, Int.reduceLT, Int.reduceLE, Int.reduceAdd, Int.reduceSub, Int.reduceToNat, ↓reduceIte, h3, h8, hex_lo]
    refine WriteByte_c b (pre ++ [hexD (c.toNat / 16)]) _ ρ1 hB1 (by simp; omega) fun τ2 ρ2 hB2 _ _ _ => ?_
    simp (disch := first | omega | (simp only [ln]; first | done | omega)) only [walkAll, walkL, walkK, wk, E, Nat.reduceEqDiff, Nat.reduceAdd, Nat.reduceSub, Nat.reduceLeDiff, Int.reduceLT, Int.reduceLE, Int.reduceAdd, Int.reduceSub, Int.reduceToNat, ↓reduceIte, h3, h8]
    refine ih (k + 1) ((pre ++ [hexD (c.toNat / 16)]) ++ [hexD (c.toNat % 16)]) τ2 ρ2 _ hd' ?_ hB2 (by simp [put, h3]) (by simp [put, h6]) (by simp [put, h7]) (by simp [put]) hx
    rw [← hpre]; simp [hexS]
theorem digitsHex_c (l : List UInt8) (hl : l.length ≤ 100000) (h : K (.str (hexS l)) σ) : ACalls Tryz.prog (gD m) 10 [lsv (bytesE l)] σ K := by
  refine (ACalls.frame gD_data (.cons _ _ (lsv_data (bytes_data l)) .nil) (Q := fun r => r = .str (hexS l)) ?_ σ).mono (fun r σ' hr => by rw [hr.1, hr.2]; exact h)
  have hRd : ∀ τ, Rd 1 τ (lsv (bytesE l)) (bytesE l) := fun τ => rd_lsv (bytes_len l) τ
  have hln : lenlX (lsv (bytesE l)) = some (.int .i64 l.length) := by rw [← lsq_false, lenlX_lsq, bytesE_length]
  generalize lsv (bytesE l) = x at hRd hln
  refine ACalls_fn tok fm (fk10 _) ?_
  simp (disch := first | omega | (simp only [ln]; first | done | omega)) only [walkAll, walkL, walkK, wk, E, Nat.reduceEqDiff, Nat.reduceAdd, Nat.reduceSub, Nat.reduceLeDiff, Int.reduceLT, Int.reduceLE, Int.reduceAdd, Int.reduceSub, Int.reduceToNat, ↓reduceIte, c10, hln]
  refine hex_loop 0 x l hl hRd l 0 [] _ none _ rfl rfl ⟨.nilp, .nils, rfl, .inl rfl, .inl ⟨rfl, rfl, rfl⟩⟩ (by simp [put, E, nvs]) (by simp [put]) (by simp [put]) (by simp [put]) fun e' τ' ρ' hB' h3 => ?_
  simp (disch := first | omega | (simp only [ln]; first | done | omega)) only [walkAll, walkL, walkK, wk, E, Nat.reduceEqDiff, Nat.reduceAdd, Nat.reduceSub, Nat.reduceLeDiff, Int.reduceLT, Int.reduceLE, Int.reduceAdd, Int.reduceSub, Int.reduceToNat, ↓reduceIte, h3]
  refine String_c 0 (hexS l) ρ' hB' (by rw [hexS_len]; omega) fun σ' _ => ?_
  simp (disch := first | omega | (simp only [ln]; first | done | omega)) only [walkAll, walkL, walkK, wk, E, Nat.reduceEqDiff, Nat.reduceAdd, Nat.reduceSub, Nat.reduceLeDiff, Int.reduceLT, Int.reduceLE, Int.reduceAdd, Int.reduceSub, Int.reduceToNat, ↓reduceIte]
  exact .str _
theorem hexref_loop (x : AV) (l : List UInt8) (hl : l.length ≤ 100000) (hRd : ∀ τ, Rd 1 τ x (bytesE l)) (hln : lenlX x = some (.int .i64 l.length)) {Q : EQ} : ∀ (rest : List UInt8) (k : Nat) (pre : List UInt8) (τ : St) (e : Env),
    l.drop k = rest → pre ++ hexS rest = hexS l → e 0 = some x → e 3 = some (.str pre) → e 4 = some (.int .i64 k) →
    (∀ e' τ', e' 3 = some (.str (hexS l)) → Q (.exit 0) e' τ') → LoopC Tryz.prog tt (gD m) l13_0 Q e τ := by
  intro rest
  induction rest with
  | nil =>
    intro k pre τ e hd hpre h0 h3 h4 hx
    have hi : l.length ≤ k := by simpa using hd
    have hb : decide ((k : Int) < (l.length : Int)) = false := by simp; omega
    refine LoopC_unfold tok fm ?_
    simp (disch := first | omega | (simp only [ln]; first | done | omega)) only [walkAll, walkL, walkK, wk, E, Nat.reduceEqDiff, Nat.reduceAdd, Nat.reduceSub, Nat.reduceLeDiff, Int.reduceLT, Int.reduceLE, Int.reduceAdd, Int.reduceSub, Int.reduceToNat, ↓reduceIte, l13_0x, l13_0b, h0, h4, hln, hb]
    refine hx _ τ ?_
    simp only [hexS, List.append_nil] at hpre
    rw [← hpre]; simp [put, h3]
  | cons c rest ih =>
    intro k pre τ e hd hpre h0 h3 h4 hx
    obtain ⟨hc, hd'⟩ := drop_cons hd
    have hi := (List.getElem?_eq_some_iff.1 hc).1
    have hb : decide ((k : Int) < (l.length : Int)) = true := by simp; omega
    obtain ⟨p, hp, hpt⟩ := (hRd τ).at (i := k) (c := [.int .u8 c.toNat]) (by simp only [bytesE]; rw [List.getElem?_map, hc]; rfl) .i64
    have hld := hpt.one
    have hpl : pre.length + 2 * (rest.length + 1) = 2 * l.length := by
      have := congrArg List.length hpre
      rw [List.length_append, hexS_len, hexS_len] at this
      simpa using this
    refine LoopC_unfold tok fm ?_
    simp (disch := first | omega | (simp only [ln]; first | done | omega)) only [walkAll, walkL, walkK, wk, E, Nat.reduceEqDiff, Nat.reduceAdd, Nat.reduceSub, Nat.reduceLeDiff, Int.reduceLT, Int.reduceLE, Int.reduceAdd, Int.reduceSub, Int.reduceToNat, ↓reduceIte, l13_0x, l13_0b, h0, h3, h4, hln, hb, hp, hld, sl_hi, sl_lo]
    refine ih (k + 1) ((pre ++ [hexD (c.toNat / 16)]) ++ [hexD (c.toNat % 16)]) τ _ hd' ?_ (by simp [put, h0]) (by simp [put]) (by simp [put]) hx
    rw [← hpre]; simp [hexS]
theorem refHex_c (l : List UInt8) (hl : l.length ≤ 100000) (h : K (.str (hexS l)) σ) : ACalls Tryz.prog (gD m) 13 [lsv (bytesE l)] σ K := by
  refine (ACalls.frame gD_data (.cons _ _ (lsv_data (bytes_data l)) .nil) (Q := fun r => r = .str (hexS l)) ?_ σ).mono (fun r σ' hr => by rw [hr.1, hr.2]; exact h)
  have hRd : ∀ τ, Rd 1 τ (lsv (bytesE l)) (bytesE l) := fun τ => rd_lsv (bytes_len l) τ
  have hln : lenlX (lsv (bytesE l)) = some (.int .i64 l.length) := by rw [← lsq_false, lenlX_lsq, bytesE_length]
  generalize lsv (bytesE l) = x at hRd hln
  refine ACalls_fn tok fm (fk13 _) ?_
  simp (disch := first | omega | (simp only [ln]; first | done | omega)) only [walkAll, walkL, walkK, wk, E, Nat.reduceEqDiff, Nat.reduceAdd, Nat.reduceSub, Nat.reduceLeDiff, Int.reduceLT, Int.reduceLE, Int.reduceAdd, Int.reduceSub, Int.reduceToNat, ↓reduceIte, c13]
  refine hexref_loop x l hl hRd hln l 0 [] _ _ rfl rfl (by simp [put, E]) (by simp [put]) (by simp [put]) fun e' τ' h3 => ?_
  simp (disch := first | omega | (simp only [ln]; first | done | omega)) only [walkAll, walkL, walkK, wk, E, Nat.reduceEqDiff, Nat.reduceAdd, Nat.reduceSub, Nat.reduceLeDiff, Int.reduceLT, Int.reduceLE, Int.reduceAdd, Int.reduceSub, Int.reduceToNat, ↓reduceIte, h3]
  exact .str _
end
end Go.Ab.Ss
