/- Part of this work: see the text that closes the claim. -/
import Derived.Test.YtpejbkckppnamaaGreatDoorSzDeep
import Derived.Test.YtpejbkckppnamaaGreatDoorT9
import Derived.Test.YtpejbkckppnamaaGreatDoorAbB
set_option linter.all false
set_option linter.unusedVariables false
set_option linter.unusedSimpArgs false
namespace Go.Ab.Sz
open Go Go.Ab Go.Proofs Go.RowKit
set_option maxRecDepth 40000
set_option linter.unusedSimpArgs false
section
variable {m : Int} {σ : St} {K : AV → St → Prop}
theorem many_loop0 (b : Nat) (hb : b ≤ 600) {Q : EQ} (w : Option AV) : ∀ (j i : Nat) (acc : List Tok) (v : AV) (ρ : Option Nat) (τ : St) (e : Env), i + j = b → acc.length + j ≤ 2000 → Lst 30 5 τ v (acc.map Tok.c) ρ →
    e 1 = some (.int .i64 b) → e 0 = w → e 5 = some v → e 6 = some (.int .i64 i) →
    (∀ e' τ' v' ρ', Lst 30 5 τ' v' ((acc ++ List.replicate j aO).map Tok.c) ρ' → e' 1 = some (.int .i64 b) → e' 0 = w → e' 5 = some v' → Q (.exit 0) e' τ') → LoopC Tryz.prog tt (gD m) l9_0 Q e τ := by
  intro j
  induction j with
  | zero =>
    intro i acc v ρ τ e hij hl hL h1 h2 h5 h6 hx
    have hq : decide ((i : Int) < (b : Int)) = false := by simp; omega
    refine LoopC_unfold tok fm ?_
    simp (disch := first | omega | (simp only [ln]; first | done | omega)) only [walkAll, walkL, walkK, wk, E, Nat.reduceEqDiff, Nat.reduceAdd, Nat.reduceSub, Nat.reduceLeDiff, Int.reduceLT, Int.reduceLE, Int.reduceAdd, Int.reduceSub, Int.reduceToNat, ↓reduceIte, l9_0x, l9_0b, h1, h6, hq]
    exact hx _ τ v ρ (by simpa using hL) (by simp [put, h1]) (by simp [put, h2]) (by simp [put, h5])
  | succ j ih =>
    intro i acc v ρ τ e hij hl hL h1 h2 h5 h6 hx
    have hq : decide ((i : Int) < (b : Int)) = true := by simp; omega
    have w1 : IntKind.i64.wrap ((i : Int) + 1) = ((i + 1 : Nat) : Int) := by rw [wrap_i64 _ (by omega) (by omega)]; rfl
    refine LoopC_unfold tok fm ?_
    simp (disch := first | omega | (simp only [ln]; first | done | omega)) only [walkAll, walkL, walkK, wk, E, Nat.reduceEqDiff, Nat.reduceAdd, Nat.reduceSub, Nat.reduceLeDiff, Int.reduceLT, Int.reduceLE, Int.reduceAdd, Int.reduceSub, Int.reduceToNat, ↓reduceIte, l9_0x, l9_0b, h1, h5, h6, hq]
    refine app_one (e := 30) (z := 5) (b := 72) (c := aO.c) hL rfl rfl (by simp; omega) (fun v' σ' ρ' hL' hb' => ?_)
    simp (disch := first | omega | (simp only [ln]; first | done | omega)) only [walkAll, walkL, walkK, wk, E, Nat.reduceEqDiff, Nat.reduceAdd, Nat.reduceSub, Nat.reduceLeDiff, Int.reduceLT, Int.reduceLE, Int.reduceAdd, Int.reduceSub, Int.reduceToNat, ↓reduceIte, h6, w1]
    refine ih (i + 1) (acc ++ [aO]) v' ρ' σ' _ (by omega) (by simp; omega) (by rw [List.map_append]; exact hL') (by simp [put, putE, h1]) (by simp [put, putE, h2]) (by simp [put, putE]) (by simp [put, putE]) (fun e' τ' u ρ2 k1 k2 k3 k4 => ?_)
    exact hx e' τ' u ρ2 (by rw [List.replicate_succ]; simpa using k1) k2 k3 k4
theorem many_loop1 (b : Nat) (hb : b ≤ 600) {Q : EQ} (w : Option AV) : ∀ (j i : Nat) (acc : List Tok) (v : AV) (ρ : Option Nat) (τ : St) (e : Env), i + j = b → acc.length + j ≤ 2000 → Lst 30 5 τ v (acc.map Tok.c) ρ →
    e 0 = some (.int .i64 b) → e 1 = w → e 5 = some v → e 7 = some (.int .i64 i) →
    (∀ e' τ' v' ρ', Lst 30 5 τ' v' ((acc ++ List.replicate j bE).map Tok.c) ρ' → e' 0 = some (.int .i64 b) → e' 1 = w → e' 5 = some v' → Q (.exit 2) e' τ') → LoopC Tryz.prog tt (gD m) l9_1 Q e τ := by
  intro j
  induction j with
  | zero =>
    intro i acc v ρ τ e hij hl hL h1 h2 h5 h6 hx
    have hq : decide ((i : Int) < (b : Int)) = false := by simp; omega
    refine LoopC_unfold tok fm ?_
    simp (disch := first | omega | (simp only [ln]; first | done | omega)) only [walkAll, walkL, walkK, wk, E, Nat.reduceEqDiff, Nat.reduceAdd, Nat.reduceSub, Nat.reduceLeDiff, Int.reduceLT, Int.reduceLE, Int.reduceAdd, Int.reduceSub, Int.reduceToNat, ↓reduceIte, l9_1x, l9_1b, h1, h6, hq]
    exact hx _ τ v ρ (by simpa using hL) (by simp [put, h1]) (by simp [put, h2]) (by simp [put, h5])
  | succ j ih =>
    intro i acc v ρ τ e hij hl hL h1 h2 h5 h6 hx
    have hq : decide ((i : Int) < (b : Int)) = true := by simp; omega
    have w1 : IntKind.i64.wrap ((i : Int) + 1) = ((i + 1 : Nat) : Int) := by rw [wrap_i64 _ (by omega) (by omega)]; rfl
    refine LoopC_unfold tok fm ?_
    simp (disch := first | omega | (simp only [ln]; first | done | omega)) only [walkAll, walkL, walkK, wk, E, Nat.reduceEqDiff, Nat.reduceAdd, Nat.reduceSub, Nat.reduceLeDiff, Int.reduceLT, Int.reduceLE, Int.reduceAdd, Int.reduceSub, Int.reduceToNat, ↓reduceIte, l9_1x, l9_1b, h1, h5, h6, hq]
    refine app_one (e := 30) (z := 5) (b := 72) (c := bE.c) hL rfl rfl (by simp; omega) (fun v' σ' ρ' hL' hb' => ?_)
    simp (disch := first | omega | (simp only [ln]; first | done | omega)) only [walkAll, walkL, walkK, wk, E, Nat.reduceEqDiff, Nat.reduceAdd, Nat.reduceSub, Nat.reduceLeDiff, Int.reduceLT, Int.reduceLE, Int.reduceAdd, Int.reduceSub, Int.reduceToNat, ↓reduceIte, h6, w1]
    refine ih (i + 1) (acc ++ [bE]) v' ρ' σ' _ (by omega) (by simp; omega) (by rw [List.map_append]; exact hL') (by simp [put, putE, h1]) (by simp [put, putE, h2]) (by simp [put, putE]) (by simp [put, putE]) (fun e' τ' u ρ2 k1 k2 k3 k4 => ?_)
    exact hx e' τ' u ρ2 (by rw [List.replicate_succ]; simpa using k1) k2 k3 k4
theorem many_loop2 (b : Nat) (hb : b ≤ 600) {Q : EQ} (w : Option AV) : ∀ (j i : Nat) (acc : List Tok) (v : AV) (ρ : Option Nat) (τ : St) (e : Env), i + j = b → acc.length + j ≤ 2000 → Lst 30 5 τ v (acc.map Tok.c) ρ →
    e 1 = some (.int .i64 b) → e 0 = w → e 5 = some v → e 8 = some (.int .i64 i) →
    (∀ e' τ' v' ρ', Lst 30 5 τ' v' ((acc ++ List.replicate j aC).map Tok.c) ρ' → e' 1 = some (.int .i64 b) → e' 0 = w → e' 5 = some v' → Q (.exit 4) e' τ') → LoopC Tryz.prog tt (gD m) l9_2 Q e τ := by
  intro j
  induction j with
  | zero =>
    intro i acc v ρ τ e hij hl hL h1 h2 h5 h6 hx
    have hq : decide ((i : Int) < (b : Int)) = false := by simp; omega
    refine LoopC_unfold tok fm ?_
    simp (disch := first | omega | (simp only [ln]; first | done | omega)) only [walkAll, walkL, walkK, wk, E, Nat.reduceEqDiff, Nat.reduceAdd, Nat.reduceSub, Nat.reduceLeDiff, Int.reduceLT, Int.reduceLE, Int.reduceAdd, Int.reduceSub, Int.reduceToNat, ↓reduceIte, l9_2x, l9_2b, h1, h6, hq]
    exact hx _ τ v ρ (by simpa using hL) (by simp [put, h1]) (by simp [put, h2]) (by simp [put, h5])
  | succ j ih =>
    intro i acc v ρ τ e hij hl hL h1 h2 h5 h6 hx
    have hq : decide ((i : Int) < (b : Int)) = true := by simp; omega
    have w1 : IntKind.i64.wrap ((i : Int) + 1) = ((i + 1 : Nat) : Int) := by rw [wrap_i64 _ (by omega) (by omega)]; rfl
    refine LoopC_unfold tok fm ?_
    simp (disch := first | omega | (simp only [ln]; first | done | omega)) only [walkAll, walkL, walkK, wk, E, Nat.reduceEqDiff, Nat.reduceAdd, Nat.reduceSub, Nat.reduceLeDiff, Int.reduceLT, Int.reduceLE, Int.reduceAdd, Int.reduceSub, Int.reduceToNat, ↓reduceIte, l9_2x, l9_2b, h1, h5, h6, hq]
    refine app_one (e := 30) (z := 5) (b := 72) (c := aC.c) hL rfl rfl (by simp; omega) (fun v' σ' ρ' hL' hb' => ?_)
    simp (disch := first | omega | (simp only [ln]; first | done | omega)) only [walkAll, walkL, walkK, wk, E, Nat.reduceEqDiff, Nat.reduceAdd, Nat.reduceSub, Nat.reduceLeDiff, Int.reduceLT, Int.reduceLE, Int.reduceAdd, Int.reduceSub, Int.reduceToNat, ↓reduceIte, h6, w1]
    refine ih (i + 1) (acc ++ [aC]) v' ρ' σ' _ (by omega) (by simp; omega) (by rw [List.map_append]; exact hL') (by simp [put, putE, h1]) (by simp [put, putE, h2]) (by simp [put, putE]) (by simp [put, putE]) (fun e' τ' u ρ2 k1 k2 k3 k4 => ?_)
    exact hx e' τ' u ρ2 (by rw [List.replicate_succ]; simpa using k1) k2 k3 k4
theorem TreeMany_law (n0 deep : Int) : ACalls Tryz.prog (gD m) 9 [.int .i64 n0, .int .i64 deep] ⟨[], []⟩ (fun r _ => r = .bool true) := by
  refine ACalls_fn tok fm (fk9 _) ?_
  obtain ⟨k, hk, ek⟩ := small_of 4 (by decide) n0
  obtain ⟨c, hc, ec⟩ := small_of 20 (by decide) deep
  have w1 : IntKind.i64.wrap (k : Int) = k := wrap_i64 _ (by omega) (by omega)
  have w2 : IntKind.i64.wrap (498 + (k : Int)) = ((498 + k : Nat) : Int) := by rw [wrap_i64 _ (by omega) (by omega)]; push_cast; omega
  have w3 : IntKind.i64.wrap (c : Int) = c := wrap_i64 _ (by omega) (by omega)
  have w4 : IntKind.i64.wrap (1 + (c : Int)) = ((c + 1 : Nat) : Int) := by rw [wrap_i64 _ (by omega) (by omega)]; push_cast; omega
  obtain ⟨d, hd⟩ : ∃ d, d = c + 1 := ⟨_, rfl⟩
  obtain ⟨j, hj⟩ : ∃ j, d + j = 498 + k := ⟨498 + k - d, by omega⟩
  rw [← hd] at w4
  rw [← hj] at w2
  simp (disch := first | omega | (simp only [ln]; first | done | omega)) only [walkAll, walkL, walkK, wk, E, Nat.reduceEqDiff, Nat.reduceAdd, Nat.reduceSub, Nat.reduceLeDiff, Int.reduceLT, Int.reduceLE, Int.reduceAdd, Int.reduceSub, Int.reduceToNat, ↓reduceIte, c9, ek, ec, w1, w2, w3, w4]
  refine many_loop0 d (by omega) _ d 0 [] .nils none _ _ (by omega) (by simp; omega) (Lst.nil _ _ _) (by simp [put, E]) rfl (by simp [put, E]) (by simp [put, E]) (fun e1 τ1 v1 ρ1 hL1 h11 h10 h15 => ?_)
  simp only [put, E, Nat.reduceEqDiff, ↓reduceIte] at h10
  simp (disch := first | omega | (simp only [ln]; first | done | omega)) only [walkAll, walkL, walkK, wk, E, Nat.reduceEqDiff, Nat.reduceAdd, Nat.reduceSub, Nat.reduceLeDiff, Int.reduceLT, Int.reduceLE, Int.reduceAdd, Int.reduceSub, Int.reduceToNat, ↓reduceIte, h11]
  refine many_loop1 (d + j) (by omega) _ j d _ v1 ρ1 _ _ (by omega) (by simp; omega) hL1 (by simp [put, h10]) rfl (by simp [put, h15]) (by simp [put]) (fun e2 τ2 v2 ρ2 hL2 h20 h21 h25 => ?_)
  simp only [put, h11, Nat.reduceEqDiff, ↓reduceIte] at h21
  simp (disch := first | omega | (simp only [ln]; first | done | omega)) only [walkAll, walkL, walkK, wk, E, Nat.reduceEqDiff, Nat.reduceAdd, Nat.reduceSub, Nat.reduceLeDiff, Int.reduceLT, Int.reduceLE, Int.reduceAdd, Int.reduceSub, Int.reduceToNat, ↓reduceIte]
  refine many_loop2 d (by omega) _ d 0 _ v2 ρ2 _ _ (by omega) (by simp; omega) hL2 (by simp [put, h21]) rfl (by simp [put, h25]) (by simp [put]) (fun e3 τ3 v3 ρ3 hL3 h31 h30 h35 => ?_)
  simp only [put, h20, Nat.reduceEqDiff, ↓reduceIte] at h30
  have eL : [] ++ List.replicate d aO ++ List.replicate j bE ++ List.replicate d aC = manyL d j := by simp [manyL]
  rw [eL] at hL3
  obtain ⟨σ4, hgive, hvars⟩ := hL3.give
  simp (disch := first | omega | (simp only [ln]; first | done | omega)) only [walkAll, walkL, walkK, wk, E, Nat.reduceEqDiff, Nat.reduceAdd, Nat.reduceSub, Nat.reduceLeDiff, Int.reduceLT, Int.reduceLE, Int.reduceAdd, Int.reduceSub, Int.reduceToNat, ↓reduceIte, h31, h30, h35]
  refine ACalls.give1 hgive ?_
  have hml := manyL_len d j
  refine Build_c (manyL d j) (by omega) (fun t ht => ?_) ?_ (data_flat fun t _ => tok_data t) ?_
  · obtain ⟨a, b⟩ := manyL_mem ht
    rw [a, b]; decide
  · have := sum_le (fun t : Tok => t.text.length) 0 (manyL d j) (fun t ht => by rw [(manyL_mem ht).2]; exact Nat.le_refl 0)
    omega
  by_cases hb : 500 < d + j
  · have q1 : decide ((500 : Int) < ((d + j : Nat) : Int)) = true := decide_eq_true (by omega)
    have z0 : ((0 : Int) == 0) = true := rfl
    have z1 : ((4 : Int) == 4) = true := rfl
    rw [many_big (by omega) (by omega) hb]
    simp (disch := first | omega | (simp only [ln]; first | done | omega)) only [walkAll, walkL, walkK, wk, E, Nat.reduceEqDiff, Nat.reduceAdd, Nat.reduceSub, Nat.reduceLeDiff, Int.reduceLT, Int.reduceLE, Int.reduceAdd, Int.reduceSub, Int.reduceToNat, ↓reduceIte, h31, h30, h35, q1]
    refine awake8_c ?_
    simp (disch := first | omega | (simp only [ln]; first | done | omega)) only [walkAll, walkL, walkK, wk, E, Nat.reduceEqDiff, Nat.reduceAdd, Nat.reduceSub, Nat.reduceLeDiff, Int.reduceLT, Int.reduceLE, Int.reduceAdd, Int.reduceSub, Int.reduceToNat, ↓reduceIte, h31, h30, h35, List.map_nil, lsv_nil, z0, z1]
  · have q1 : decide ((500 : Int) < ((d + j : Nat) : Int)) = false := decide_eq_false (by omega)
    have z0 : ((0 : Int) == 0) = true := rfl
    have hlen := lsv_len ((ndB d j).map Nd.c)
    rw [List.length_map, ndB_len] at hlen
    have zn : (((d + j : Nat) : Int) == ((d + j : Nat) : Int)) = true := by simp
    have wd : IntKind.i64.wrap ((d : Int) - 1) = (d : Int) - 1 := wrap_i64 _ (by omega) (by omega)
    have hkl := lsv_len ((kidsS (ndB d j) ((d : Int) - 1)).map ixc)
    rw [List.length_map, many_kids (by omega)] at hkl
    have wj : IntKind.i64.wrap (((d + j : Nat) : Int) - (d : Int)) = (j : Int) := by rw [wrap_i64 _ (by omega) (by omega)]; omega
    have zj : ((j : Int) == (j : Int)) = true := by simp
    have wl : IntKind.i64.wrap (((d + j : Nat) : Int) - 1) = ((d + j - 1 : Nat) : Int) := by rw [wrap_i64 _ (by omega) (by omega)]; omega
    obtain ⟨p, hp, hpt⟩ := (rd_lsv (nd_len (ndB d j)) σ4).at (i := d + j - 1) (c := (bN d).c) (by rw [List.getElem?_map, many_last (by omega)]; rfl) .i64
    obtain ⟨p0, hp0, hl0⟩ := hpt.fld 0 _ rfl
    have zd : (((d : Int) - 1) == ((d : Int) - 1)) = true := by simp
    rw [many_ok (by omega) (by omega) (by omega)]
    simp (disch := first | omega | (simp only [ln]; first | done | omega)) only [walkAll, walkL, walkK, wk, E, Nat.reduceEqDiff, Nat.reduceAdd, Nat.reduceSub, Nat.reduceLeDiff, Int.reduceLT, Int.reduceLE, Int.reduceAdd, Int.reduceSub, Int.reduceToNat, ↓reduceIte, h31, h30, h35, q1]
    refine awake8_c ?_
    simp (disch := first | omega | (simp only [ln]; first | done | omega)) only [walkAll, walkL, walkK, wk, E, Nat.reduceEqDiff, Nat.reduceAdd, Nat.reduceSub, Nat.reduceLeDiff, Int.reduceLT, Int.reduceLE, Int.reduceAdd, Int.reduceSub, Int.reduceToNat, ↓reduceIte, h31, h30, h35, z0, hlen, zn, wd]
    refine Kids_c (ndB d j) ((d : Int) - 1) (by rw [ndB_len]; omega) ?_
    simp (disch := first | omega | (simp only [ln]; first | done | omega)) only [walkAll, walkL, walkK, wk, E, Nat.reduceEqDiff, Nat.reduceAdd, Nat.reduceSub, Nat.reduceLeDiff, Int.reduceLT, Int.reduceLE, Int.reduceAdd, Int.reduceSub, Int.reduceToNat, ↓reduceIte, h31, h30, h35, z0, hlen, zn, wd, hkl, wj, zj, wl, hp, hp0, hl0, bN, zd]
end
end Go.Ab.Sz
