/- Part of this work: see the text that closes the claim. -/
import Derived.Test.YtpejbkckppnamaaGreatDoorSzStands
import Derived.Test.YtpejbkckppnamaaGreatDoorT9
set_option linter.all false
set_option linter.unusedVariables false
set_option linter.unusedSimpArgs false
namespace Go.Ab.Sz
open Go Go.Ab Go.Proofs Go.RowKit
set_option maxRecDepth 40000
set_option linter.unusedSimpArgs false
theorem parse_of {s : List UInt8} {l : List Tok} (h : toksS s = (l, 0)) : parseS s = buildS l := by unfold parseS; rw [h]; rfl
theorem small_of (k : Int) (hk : 0 < k) (what : Int) : ∃ n : Nat, (n : Int) < k ∧ (IntKind.u64.wrap what).tmod k = n := by
  have h0 : 0 ≤ IntKind.u64.wrap what := by
    simp only [IntKind.wrap, IntKind.bits, IntKind.signed]
    simp
    omega
  have h1 := Int.tmod_nonneg k h0
  have h2 := Int.tmod_lt_of_pos (IntKind.u64.wrap what) (b := k) hk
  exact ⟨((IntKind.u64.wrap what).tmod k).toNat, by omega, by omega⟩
section
variable {n : Nat} (h1 : 1 ≤ n) (h2 : n ≤ 40)
include h1 h2
theorem str_text : toksS (rep n oL ++ [32, 120] ++ rep n cL) = (List.replicate n aO ++ (tx t1L :: (List.replicate n aC ++ [])), 0) := by
  have := toks_in (x := [32, 120]) (lx := [tx t1L]) (m := n) (y := []) (ly := []) (n := n) h1 h2 h2 (by decide) (by decide) (by decide) (by decide)
    (TK.text (TK.closes TK.nil n) (by decide) (by decide) (closes_head n [] (.inl rfl)))
  rw [List.append_nil, ← List.append_assoc] at this
  exact this
theorem str_blank : toksS ([32] ++ rep n oL ++ [32, 10, 32] ++ rep n cL ++ [9]) = (tx [32] :: (List.replicate n aO ++ (tx t2L :: (List.replicate n aC ++ [tx [9]]))), 0) := by
  have k1 : TK ([32, 10, 32] ++ (rep n cL ++ [9])) (tx t2L :: (List.replicate n aC ++ [tx [9]])) := by
    have k0 : TK [9] [tx [9]] := TK.text (c := 9) (t := []) (r := []) TK.nil (by decide) (by decide) (.inl rfl)
    have kk := TK.closes k0 n
    obtain ⟨k, rfl⟩ : ∃ k, n = k + 1 := ⟨n - 1, by omega⟩
    exact TK.text kk (by decide) (by decide) (.inr ⟨_, by rw [rep_succ]; rfl⟩)
  have k2 := k1.opens n
  have hh : ∃ y, rep n oL ++ ([32, 10, 32] ++ (rep n cL ++ [9])) = 60 :: y := by
    obtain ⟨k, rfl⟩ : ∃ k, n = k + 1 := ⟨n - 1, by omega⟩
    exact ⟨_, by rw [rep_succ]; rfl⟩
  have k3 : TK ([32] ++ (rep n oL ++ ([32, 10, 32] ++ (rep n cL ++ [9])))) _ := TK.text k2 (by decide) (by decide) (.inr hh)
  have e : [32] ++ rep n oL ++ [32, 10, 32] ++ rep n cL ++ [9] = [32] ++ (rep n oL ++ ([32, 10, 32] ++ (rep n cL ++ [9]))) := by simp
  rw [e]
  refine k3.toks ?_ ?_ rfl
  · simp only [List.length_append, rep_len, oL, cL, List.length_cons, List.length_nil]; omega
  · rw [utfB_append _ (by decide), utf_rep (by decide), utfB_append _ (by decide), utf_rep (by decide)]; decide
theorem str_0 : toksS (rep n oL ++ rep (n - 1) cL) = (List.replicate n aO ++ (List.replicate (n - 1) aC ++ []), 0) := by
  have := toks_in (x := []) (lx := []) (m := n - 1) (y := []) (ly := []) (n := n) h1 h2 (by omega) (by decide) (by decide) (by decide) (by decide) (TK.closes TK.nil (n - 1))
  simpa using this
theorem str_1 : toksS (rep n oL ++ rep n cL ++ [60, 98, 47, 62]) = (List.replicate n aO ++ (List.replicate n aC ++ [bE]), 0) := by
  have k0 : TK [60, 98, 47, 62] [bE] := TK.step (r := []) TK.nil (by simp) (rTok_b [])
  have := toks_in (x := []) (lx := []) (m := n) (y := [60, 98, 47, 62]) (ly := [bE]) (n := n) h1 h2 h2 (by decide) (by decide) (by decide) (by decide) (TK.closes k0 n)
  simpa using this
theorem str_2 : toksS (rep n oL ++ rep (n - 1) cL ++ [60, 47, 98, 62]) = (List.replicate n aO ++ (List.replicate (n - 1) aC ++ [bC]), 0) := by
  have k0 : TK [60, 47, 98, 62] [bC] := TK.step (r := []) TK.nil (by simp) (rTok_bc [])
  have := toks_in (x := []) (lx := []) (m := n - 1) (y := [60, 47, 98, 62]) (ly := [bC]) (n := n) h1 h2 (by omega) (by decide) (by decide) (by decide) (by decide) (TK.closes k0 (n - 1))
  simpa using this
theorem str_3 : toksS (rep n oL ++ rep n cL ++ [120]) = (List.replicate n aO ++ (List.replicate n aC ++ [tx [120]]), 0) := by
  have k0 : TK [120] [tx [120]] := TK.text (c := 120) (t := []) (r := []) TK.nil (by decide) (by decide) (.inl rfl)
  have := toks_in (x := []) (lx := []) (m := n) (y := [120]) (ly := [tx [120]]) (n := n) h1 h2 h2 (by decide) (by decide) (by decide) (by decide) (TK.closes k0 n)
  simpa using this
theorem str_4 : toksS (rep n oL ++ [60, 98, 47, 62, 120] ++ rep n cL) = (List.replicate n aO ++ (bE :: tx [120] :: (List.replicate n aC ++ [])), 0) := by
  have k1 : TK ([120] ++ (rep n cL ++ [])) (tx [120] :: (List.replicate n aC ++ [])) := TK.text (TK.closes TK.nil n) (by decide) (by decide) (closes_head n [] (.inl rfl))
  have k2 : TK ([60, 98, 47, 62, 120] ++ (rep n cL ++ [])) (bE :: tx [120] :: (List.replicate n aC ++ [])) := k1.step (by simp) (rTok_b _)
  have := toks_in (x := [60, 98, 47, 62, 120]) (lx := [bE, tx [120]]) (m := n) (y := []) (ly := []) (n := n) h1 h2 h2 (by decide) (by decide) (by decide) (by decide) k2
  simpa using this
theorem str_5 : toksS (rep n oL ++ rep n cL ++ [60, 47, 97, 62]) = (List.replicate n aO ++ (List.replicate n aC ++ [aC]), 0) := by
  have k0 : TK [60, 47, 97, 62] [aC] := TK.step (r := []) TK.nil (by simp) (rTok_ac [])
  have := toks_in (x := []) (lx := []) (m := n) (y := [60, 47, 97, 62]) (ly := [aC]) (n := n) h1 h2 h2 (by decide) (by decide) (by decide) (by decide) (TK.closes k0 n)
  simpa using this
end
section
variable {m : Int} {σ : St} {K : AV → St → Prop}
theorem deep_loop (n : Nat) (hn : n ≤ 40) {Q : EQ} (w0 : Option AV) : ∀ (j i : Nat) (e : Env), i + j = n → e 0 = some (.int .i64 n) → e 1 = w0 → e 5 = some (.str (rep i oL)) → e 6 = some (.str (rep i cL)) → e 7 = some (.int .i64 i) →
    (∀ e', e' 0 = some (.int .i64 n) → e' 1 = w0 → e' 5 = some (.str (rep n oL)) → e' 6 = some (.str (rep n cL)) → Q (.exit 0) e' σ) → LoopC Tryz.prog tt (gD m) l7_0 Q e σ := by
  intro j
  induction j with
  | zero =>
    intro i e hij h0 h1 h5 h6 h7 hx
    have hb : decide ((i : Int) < (n : Int)) = false := by simp; omega
    have hi : i = n := by omega
    refine LoopC_unfold tok fm ?_
    simp (disch := first | omega | (simp only [ln]; first | done | omega)) only [walkAll, walkL, walkK, wk, E, Nat.reduceEqDiff, Nat.reduceAdd, Nat.reduceSub, Nat.reduceLeDiff, Int.reduceLT, Int.reduceLE, Int.reduceAdd, Int.reduceSub, Int.reduceToNat, ↓reduceIte, l7_0x, l7_0b, h0, h7, hb]
    exact hx _ (by simp [put, h0]) (by simp [put, h1]) (by simp [put, h5, hi]) (by simp [put, h6, hi])
  | succ j ih =>
    intro i e hij h0 h1 h5 h6 h7 hx
    have hb : decide ((i : Int) < (n : Int)) = true := by simp; omega
    have w1 : IntKind.i64.wrap ((i : Int) + 1) = ((i + 1 : Nat) : Int) := by rw [wrap_i64 _ (by omega) (by omega)]; rfl
    have lo : (rep i oL).length ≤ 120 := by rw [rep_len]; simp [oL]; omega
    have lc : (rep i cL).length ≤ 160 := by rw [rep_len]; simp [cL]; omega
    have eo : rep i oL ++ [60, 97, 62] = rep (i + 1) oL := (rep_snoc i oL).symm
    have ec : rep i cL ++ [60, 47, 97, 62] = rep (i + 1) cL := (rep_snoc i cL).symm
    refine LoopC_unfold tok fm ?_
    simp (disch := first | omega | (simp only [ln]; first | done | omega)) only [walkAll, walkL, walkK, wk, E, Nat.reduceEqDiff, Nat.reduceAdd, Nat.reduceSub, Nat.reduceLeDiff, Int.reduceLT, Int.reduceLE, Int.reduceAdd, Int.reduceSub, Int.reduceToNat, ↓reduceIte, l7_0x, l7_0b, h0, h5, h6, h7, hb, eo, ec, w1]
    exact ih (i + 1) _ (by omega) (by simp [put, h0]) (by simp [put, h1]) (by simp [put]) (by simp [put]) (by simp [put]) hx
theorem TreeDeep_law (n0 what : Int) : ACalls Tryz.prog (gD m) 7 [.int .i64 n0, .int .i64 what] ⟨[], []⟩ (fun r _ => r = .bool true) := by
  refine ACalls_fn tok fm (fk7 _) ?_
  obtain ⟨k, hk, ek⟩ := small_of 38 (by decide) n0
  obtain ⟨c, hc, ec⟩ := small_of 6 (by decide) what
  have w1 : IntKind.i64.wrap (k : Int) = k := wrap_i64 _ (by omega) (by omega)
  have w2 : IntKind.i64.wrap (1 + (k : Int)) = ((k + 1 : Nat) : Int) := by rw [wrap_i64 _ (by omega) (by omega)]; push_cast; omega
  obtain ⟨n, hn⟩ : ∃ n, n = k + 1 := ⟨_, rfl⟩
  rw [← hn] at w2
  simp (disch := first | omega | (simp only [ln]; first | done | omega)) only [walkAll, walkL, walkK, wk, E, Nat.reduceEqDiff, Nat.reduceAdd, Nat.reduceSub, Nat.reduceLeDiff, Int.reduceLT, Int.reduceLE, Int.reduceAdd, Int.reduceSub, Int.reduceToNat, ↓reduceIte, c7, ek, w1, w2]
  refine deep_loop n (by omega) _ n 0 _ (by omega) (by simp [put, E]) rfl (by simp [put, E, rep_zero]) (by simp [put, E, rep_zero]) (by simp [put, E]) (fun e' h0 h1 h5 h6 => ?_)
  simp only [put, E, Nat.reduceEqDiff, ↓reduceIte] at h1
  have lo : (rep n oL).length ≤ 120 := by rw [rep_len]; simp [oL]; omega
  have lc : (rep n cL).length = 4 * n := by rw [rep_len]; simp [cL]; omega
  simp (disch := first | omega | (simp only [ln]; first | done | omega)) only [walkAll, walkL, walkK, wk, E, Nat.reduceEqDiff, Nat.reduceAdd, Nat.reduceSub, Nat.reduceLeDiff, Int.reduceLT, Int.reduceLE, Int.reduceAdd, Int.reduceSub, Int.reduceToNat, ↓reduceIte, h0, h1, h5, h6]
  refine parse_at _ (by simp; omega) ?_
  rw [parse_of (str_text (n := n) (by omega) (by omega))]
  by_cases hd : 32 < n
  · have q1 : decide ((32 : Int) < (n : Int)) = true := decide_eq_true (by omega)
    have z0 : ((0 : Int) == 0) = true := rfl
    have z1 : ((11 : Int) == 11) = true := rfl
    rw [deep_over hd]
    simp (disch := first | omega | (simp only [ln]; first | done | omega)) only [walkAll, walkL, walkK, wk, E, Nat.reduceEqDiff, Nat.reduceAdd, Nat.reduceSub, Nat.reduceLeDiff, Int.reduceLT, Int.reduceLE, Int.reduceAdd, Int.reduceSub, Int.reduceToNat, ↓reduceIte, h0, h1, h5, h6, q1]
    refine awake8_c ?_
    simp (disch := first | omega | (simp only [ln]; first | done | omega)) only [walkAll, walkL, walkK, wk, E, Nat.reduceEqDiff, Nat.reduceAdd, Nat.reduceSub, Nat.reduceLeDiff, Int.reduceLT, Int.reduceLE, Int.reduceAdd, Int.reduceSub, Int.reduceToNat, ↓reduceIte, h0, h1, h5, h6, List.map_nil, lsv_nil, z0, z1]
  · have q1 : decide ((32 : Int) < (n : Int)) = false := decide_eq_false (by omega)
    have hn1 : 1 ≤ n := by omega
    have hn2 : n ≤ 32 := by omega
    rw [deep_text hn1 hn2]
    have z0 : ((0 : Int) == 0) = true := rfl
    have z10 : ((10 : Int) == 10) = true := rfl
    have z12 : ((12 : Int) == 12) = true := rfl
    have hlen := lsv_len ((ndT n t1L).map Nd.c)
    rw [List.length_map, ndT_len hn1] at hlen
    have zn : ((n : Int) == (n : Int)) = true := by simp
    have wn : IntKind.i64.wrap ((n : Int) - 1) = ((n - 1 : Nat) : Int) := by rw [wrap_i64 _ (by omega) (by omega)]; omega
    obtain ⟨p, hp, hpt⟩ := (rd_lsv (nd_len (ndT n t1L)) ⟨[], []⟩).at (i := n - 1) (c := Nd.c ⟨(n : Int) - 2, [97], t1L, []⟩) (by rw [List.getElem?_map, ndT_last hn1]; rfl) .i64
    obtain ⟨p2, hp2, hl2⟩ := hpt.fld 2 _ rfl
    obtain ⟨p', hp', hpt'⟩ := (rd_lsv (nd_len (ndT n t2L)) ⟨[], []⟩).at (i := n - 1) (c := Nd.c ⟨(n : Int) - 2, [97], t2L, []⟩) (by rw [List.getElem?_map, ndT_last hn1]; rfl) .i64
    obtain ⟨p2', hp2', hl2'⟩ := hpt'.fld 2 _ rfl
    have zt : (t1L == [32, 120]) = true := rfl
    have zt' : (t2L == [32, 10, 32]) = true := rfl
    have pB : parseS (32 :: (rep n oL ++ [32, 10, 32] ++ rep n cL ++ [9])) = _ := parse_of (str_blank (n := n) (by omega) (by omega))
    have bB := deep_blank hn1 hn2
    have wc : IntKind.i64.wrap ((4 * n : Nat) - 4 : Int) = ((4 * (n - 1) : Nat) : Int) := by rw [wrap_i64 _ (by omega) (by omega)]; omega
    have lc2 : ((rep n cL).length : Int) = ((4 * n : Nat) : Int) := by rw [lc]
    have fl : (rep n cL).take (4 * (n - 1) - 0) = rep (n - 1) cL := by
      obtain ⟨k, rfl⟩ : ∃ k, n = k + 1 := ⟨n - 1, by omega⟩
      rw [rep_snoc, Nat.sub_zero, Nat.add_sub_cancel]
      exact List.take_left' (by rw [rep_len]; simp [cL]; omega)
    have lo1 : (rep (n - 1) cL).length ≤ 160 := by rw [rep_len]; simp [cL]; omega
    have y00 : ((0 : Int) == 0) = true := rfl
    have y01 : ((0 : Int) == 1) = false := rfl
    have y02 : ((0 : Int) == 2) = false := rfl
    have y03 : ((0 : Int) == 3) = false := rfl
    have y04 : ((0 : Int) == 4) = false := rfl
    have y10 : ((1 : Int) == 0) = false := rfl
    have y11 : ((1 : Int) == 1) = true := rfl
    have y12 : ((1 : Int) == 2) = false := rfl
    have y13 : ((1 : Int) == 3) = false := rfl
    have y14 : ((1 : Int) == 4) = false := rfl
    have y20 : ((2 : Int) == 0) = false := rfl
    have y21 : ((2 : Int) == 1) = false := rfl
    have y22 : ((2 : Int) == 2) = true := rfl
    have y23 : ((2 : Int) == 3) = false := rfl
    have y24 : ((2 : Int) == 4) = false := rfl
    have y30 : ((3 : Int) == 0) = false := rfl
    have y31 : ((3 : Int) == 1) = false := rfl
    have y32 : ((3 : Int) == 2) = false := rfl
    have y33 : ((3 : Int) == 3) = true := rfl
    have y34 : ((3 : Int) == 4) = false := rfl
    have y40 : ((4 : Int) == 0) = false := rfl
    have y41 : ((4 : Int) == 1) = false := rfl
    have y42 : ((4 : Int) == 2) = false := rfl
    have y43 : ((4 : Int) == 3) = false := rfl
    have y44 : ((4 : Int) == 4) = true := rfl
    have y50 : ((5 : Int) == 0) = false := rfl
    have y51 : ((5 : Int) == 1) = false := rfl
    have y52 : ((5 : Int) == 2) = false := rfl
    have y53 : ((5 : Int) == 3) = false := rfl
    have y54 : ((5 : Int) == 4) = false := rfl
    obtain rfl | rfl | rfl | rfl | rfl | rfl : c = 0 ∨ c = 1 ∨ c = 2 ∨ c = 3 ∨ c = 4 ∨ c = 5 := by omega
    · have ec' : (IntKind.u64.wrap what).tmod 6 = 0 := ec
      simp (disch := first | omega | (simp only [ln]; first | done | omega)) only [walkAll, walkL, walkK, wk, E, Nat.reduceEqDiff, Nat.reduceAdd, Nat.reduceSub, Nat.reduceLeDiff, Int.reduceLT, Int.reduceLE, Int.reduceAdd, Int.reduceSub, Int.reduceToNat, ↓reduceIte, h0, h1, h5, h6, q1, ec', y00, y01, y02, y03, y04, lc2, wc, fl]
      refine parse_at _ (by simp; omega) ?_
      rw [parse_of (str_0 (n := n) (by omega) (by omega)), deep_0 hn1 hn2]
      simp (disch := first | omega | (simp only [ln]; first | done | omega)) only [walkAll, walkL, walkK, wk, E, Nat.reduceEqDiff, Nat.reduceAdd, Nat.reduceSub, Nat.reduceLeDiff, Int.reduceLT, Int.reduceLE, Int.reduceAdd, Int.reduceSub, Int.reduceToNat, ↓reduceIte, h0, h1, h5, h6]
      refine parse_at _ (by simp; omega) ?_
      rw [pB, bB]
      simp (disch := first | omega | (simp only [ln]; first | done | omega)) only [walkAll, walkL, walkK, wk, E, Nat.reduceEqDiff, Nat.reduceAdd, Nat.reduceSub, Nat.reduceLeDiff, Int.reduceLT, Int.reduceLE, Int.reduceAdd, Int.reduceSub, Int.reduceToNat, ↓reduceIte, h0, h1, h5, h6]
      refine awake8_c ?_
      simp (disch := first | omega | (simp only [ln]; first | done | omega)) only [walkAll, walkL, walkK, wk, E, Nat.reduceEqDiff, Nat.reduceAdd, Nat.reduceSub, Nat.reduceLeDiff, Int.reduceLT, Int.reduceLE, Int.reduceAdd, Int.reduceSub, Int.reduceToNat, ↓reduceIte, h0, h1, h5, h6, z0, hlen, zn, wn, hp, hp2, hl2, zt, z10, z12, hp', hp2', hl2', zt']
    · have ec' : (IntKind.u64.wrap what).tmod 6 = 1 := ec
      simp (disch := first | omega | (simp only [ln]; first | done | omega)) only [walkAll, walkL, walkK, wk, E, Nat.reduceEqDiff, Nat.reduceAdd, Nat.reduceSub, Nat.reduceLeDiff, Int.reduceLT, Int.reduceLE, Int.reduceAdd, Int.reduceSub, Int.reduceToNat, ↓reduceIte, h0, h1, h5, h6, q1, ec', y10, y11, y12, y13, y14, lc2, wc, fl]
      refine parse_at _ (by simp; omega) ?_
      rw [parse_of (str_1 (n := n) (by omega) (by omega)), deep_1 hn1 hn2]
      simp (disch := first | omega | (simp only [ln]; first | done | omega)) only [walkAll, walkL, walkK, wk, E, Nat.reduceEqDiff, Nat.reduceAdd, Nat.reduceSub, Nat.reduceLeDiff, Int.reduceLT, Int.reduceLE, Int.reduceAdd, Int.reduceSub, Int.reduceToNat, ↓reduceIte, h0, h1, h5, h6]
      refine parse_at _ (by simp; omega) ?_
      rw [pB, bB]
      simp (disch := first | omega | (simp only [ln]; first | done | omega)) only [walkAll, walkL, walkK, wk, E, Nat.reduceEqDiff, Nat.reduceAdd, Nat.reduceSub, Nat.reduceLeDiff, Int.reduceLT, Int.reduceLE, Int.reduceAdd, Int.reduceSub, Int.reduceToNat, ↓reduceIte, h0, h1, h5, h6]
      refine awake8_c ?_
      simp (disch := first | omega | (simp only [ln]; first | done | omega)) only [walkAll, walkL, walkK, wk, E, Nat.reduceEqDiff, Nat.reduceAdd, Nat.reduceSub, Nat.reduceLeDiff, Int.reduceLT, Int.reduceLE, Int.reduceAdd, Int.reduceSub, Int.reduceToNat, ↓reduceIte, h0, h1, h5, h6, z0, hlen, zn, wn, hp, hp2, hl2, zt, z10, z12, hp', hp2', hl2', zt']
    · have ec' : (IntKind.u64.wrap what).tmod 6 = 2 := ec
      simp (disch := first | omega | (simp only [ln]; first | done | omega)) only [walkAll, walkL, walkK, wk, E, Nat.reduceEqDiff, Nat.reduceAdd, Nat.reduceSub, Nat.reduceLeDiff, Int.reduceLT, Int.reduceLE, Int.reduceAdd, Int.reduceSub, Int.reduceToNat, ↓reduceIte, h0, h1, h5, h6, q1, ec', y20, y21, y22, y23, y24, lc2, wc, fl]
      refine parse_at _ (by simp; omega) ?_
      rw [parse_of (str_2 (n := n) (by omega) (by omega)), deep_2 hn1 hn2]
      simp (disch := first | omega | (simp only [ln]; first | done | omega)) only [walkAll, walkL, walkK, wk, E, Nat.reduceEqDiff, Nat.reduceAdd, Nat.reduceSub, Nat.reduceLeDiff, Int.reduceLT, Int.reduceLE, Int.reduceAdd, Int.reduceSub, Int.reduceToNat, ↓reduceIte, h0, h1, h5, h6]
      refine parse_at _ (by simp; omega) ?_
      rw [pB, bB]
      simp (disch := first | omega | (simp only [ln]; first | done | omega)) only [walkAll, walkL, walkK, wk, E, Nat.reduceEqDiff, Nat.reduceAdd, Nat.reduceSub, Nat.reduceLeDiff, Int.reduceLT, Int.reduceLE, Int.reduceAdd, Int.reduceSub, Int.reduceToNat, ↓reduceIte, h0, h1, h5, h6]
      refine awake8_c ?_
      simp (disch := first | omega | (simp only [ln]; first | done | omega)) only [walkAll, walkL, walkK, wk, E, Nat.reduceEqDiff, Nat.reduceAdd, Nat.reduceSub, Nat.reduceLeDiff, Int.reduceLT, Int.reduceLE, Int.reduceAdd, Int.reduceSub, Int.reduceToNat, ↓reduceIte, h0, h1, h5, h6, z0, hlen, zn, wn, hp, hp2, hl2, zt, z10, z12, hp', hp2', hl2', zt']
    · have ec' : (IntKind.u64.wrap what).tmod 6 = 3 := ec
      simp (disch := first | omega | (simp only [ln]; first | done | omega)) only [walkAll, walkL, walkK, wk, E, Nat.reduceEqDiff, Nat.reduceAdd, Nat.reduceSub, Nat.reduceLeDiff, Int.reduceLT, Int.reduceLE, Int.reduceAdd, Int.reduceSub, Int.reduceToNat, ↓reduceIte, h0, h1, h5, h6, q1, ec', y30, y31, y32, y33, y34, lc2, wc, fl]
      refine parse_at _ (by simp; omega) ?_
      rw [parse_of (str_3 (n := n) (by omega) (by omega)), deep_3 hn1 hn2]
      simp (disch := first | omega | (simp only [ln]; first | done | omega)) only [walkAll, walkL, walkK, wk, E, Nat.reduceEqDiff, Nat.reduceAdd, Nat.reduceSub, Nat.reduceLeDiff, Int.reduceLT, Int.reduceLE, Int.reduceAdd, Int.reduceSub, Int.reduceToNat, ↓reduceIte, h0, h1, h5, h6]
      refine parse_at _ (by simp; omega) ?_
      rw [pB, bB]
      simp (disch := first | omega | (simp only [ln]; first | done | omega)) only [walkAll, walkL, walkK, wk, E, Nat.reduceEqDiff, Nat.reduceAdd, Nat.reduceSub, Nat.reduceLeDiff, Int.reduceLT, Int.reduceLE, Int.reduceAdd, Int.reduceSub, Int.reduceToNat, ↓reduceIte, h0, h1, h5, h6]
      refine awake8_c ?_
      simp (disch := first | omega | (simp only [ln]; first | done | omega)) only [walkAll, walkL, walkK, wk, E, Nat.reduceEqDiff, Nat.reduceAdd, Nat.reduceSub, Nat.reduceLeDiff, Int.reduceLT, Int.reduceLE, Int.reduceAdd, Int.reduceSub, Int.reduceToNat, ↓reduceIte, h0, h1, h5, h6, z0, hlen, zn, wn, hp, hp2, hl2, zt, z10, z12, hp', hp2', hl2', zt']
    · have ec' : (IntKind.u64.wrap what).tmod 6 = 4 := ec
      by_cases hm : n = 32
      · have q2 : ((n : Int) == 32) = true := by rw [hm]; rfl
        simp (disch := first | omega | (simp only [ln]; first | done | omega)) only [walkAll, walkL, walkK, wk, E, Nat.reduceEqDiff, Nat.reduceAdd, Nat.reduceSub, Nat.reduceLeDiff, Int.reduceLT, Int.reduceLE, Int.reduceAdd, Int.reduceSub, Int.reduceToNat, ↓reduceIte, h0, h1, h5, h6, q1, ec', y40, y41, y42, y43, y44, q2]
        refine awake8_c ?_
        simp (disch := first | omega | (simp only [ln]; first | done | omega)) only [walkAll, walkL, walkK, wk, E, Nat.reduceEqDiff, Nat.reduceAdd, Nat.reduceSub, Nat.reduceLeDiff, Int.reduceLT, Int.reduceLE, Int.reduceAdd, Int.reduceSub, Int.reduceToNat, ↓reduceIte]
      · have q2 : ((n : Int) == 32) = false := by rw [beq_eq_false_iff_ne]; omega
        simp (disch := first | omega | (simp only [ln]; first | done | omega)) only [walkAll, walkL, walkK, wk, E, Nat.reduceEqDiff, Nat.reduceAdd, Nat.reduceSub, Nat.reduceLeDiff, Int.reduceLT, Int.reduceLE, Int.reduceAdd, Int.reduceSub, Int.reduceToNat, ↓reduceIte, h0, h1, h5, h6, q1, ec', y40, y41, y42, y43, y44, q2]
        refine parse_at _ (by simp; omega) ?_
        rw [parse_of (str_4 (n := n) (by omega) (by omega)), deep_4 hn1 (by omega)]
        simp (disch := first | omega | (simp only [ln]; first | done | omega)) only [walkAll, walkL, walkK, wk, E, Nat.reduceEqDiff, Nat.reduceAdd, Nat.reduceSub, Nat.reduceLeDiff, Int.reduceLT, Int.reduceLE, Int.reduceAdd, Int.reduceSub, Int.reduceToNat, ↓reduceIte, h0, h1, h5, h6]
        refine parse_at _ (by simp; omega) ?_
        rw [pB, bB]
        simp (disch := first | omega | (simp only [ln]; first | done | omega)) only [walkAll, walkL, walkK, wk, E, Nat.reduceEqDiff, Nat.reduceAdd, Nat.reduceSub, Nat.reduceLeDiff, Int.reduceLT, Int.reduceLE, Int.reduceAdd, Int.reduceSub, Int.reduceToNat, ↓reduceIte, h0, h1, h5, h6]
        refine awake8_c ?_
        simp (disch := first | omega | (simp only [ln]; first | done | omega)) only [walkAll, walkL, walkK, wk, E, Nat.reduceEqDiff, Nat.reduceAdd, Nat.reduceSub, Nat.reduceLeDiff, Int.reduceLT, Int.reduceLE, Int.reduceAdd, Int.reduceSub, Int.reduceToNat, ↓reduceIte, h0, h1, h5, h6, z0, hlen, zn, wn, hp, hp2, hl2, zt, z10, z12, hp', hp2', hl2', zt']
    · have ec' : (IntKind.u64.wrap what).tmod 6 = 5 := ec
      simp (disch := first | omega | (simp only [ln]; first | done | omega)) only [walkAll, walkL, walkK, wk, E, Nat.reduceEqDiff, Nat.reduceAdd, Nat.reduceSub, Nat.reduceLeDiff, Int.reduceLT, Int.reduceLE, Int.reduceAdd, Int.reduceSub, Int.reduceToNat, ↓reduceIte, h0, h1, h5, h6, q1, ec', y50, y51, y52, y53, y54, lc2, wc, fl]
      refine parse_at _ (by simp; omega) ?_
      rw [parse_of (str_5 (n := n) (by omega) (by omega)), deep_5 hn1 hn2]
      simp (disch := first | omega | (simp only [ln]; first | done | omega)) only [walkAll, walkL, walkK, wk, E, Nat.reduceEqDiff, Nat.reduceAdd, Nat.reduceSub, Nat.reduceLeDiff, Int.reduceLT, Int.reduceLE, Int.reduceAdd, Int.reduceSub, Int.reduceToNat, ↓reduceIte, h0, h1, h5, h6]
      refine parse_at _ (by simp; omega) ?_
      rw [pB, bB]
      simp (disch := first | omega | (simp only [ln]; first | done | omega)) only [walkAll, walkL, walkK, wk, E, Nat.reduceEqDiff, Nat.reduceAdd, Nat.reduceSub, Nat.reduceLeDiff, Int.reduceLT, Int.reduceLE, Int.reduceAdd, Int.reduceSub, Int.reduceToNat, ↓reduceIte, h0, h1, h5, h6]
      refine awake8_c ?_
      simp (disch := first | omega | (simp only [ln]; first | done | omega)) only [walkAll, walkL, walkK, wk, E, Nat.reduceEqDiff, Nat.reduceAdd, Nat.reduceSub, Nat.reduceLeDiff, Int.reduceLT, Int.reduceLE, Int.reduceAdd, Int.reduceSub, Int.reduceToNat, ↓reduceIte, h0, h1, h5, h6, z0, hlen, zn, wn, hp, hp2, hl2, zt, z10, z12, hp', hp2', hl2', zt']
end
end Go.Ab.Sz
