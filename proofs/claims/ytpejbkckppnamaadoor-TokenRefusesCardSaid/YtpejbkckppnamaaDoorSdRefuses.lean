/- Part of this work: see the text that closes the claim. -/
import Derived.Test.YtpejbkckppnamaaDoorSdAw
set_option linter.all false
set_option linter.unusedVariables false
set_option linter.unusedSimpArgs false
namespace Go.Ab.Sd
open Go Go.Ab Go.Proofs Go.RowKit
set_option maxRecDepth 40000
set_option linter.unusedSimpArgs false
section
variable {m : Int} {σ : St} {K : AV → St → Prop}
def badL : List (List UInt8) := [[60], [60, 97], [60, 97, 32, 98, 62], [60, 97, 32, 98, 61, 99, 62], [60, 97, 32, 98, 61, 34, 49, 34, 99, 61, 34, 50, 34, 62], [60, 97, 32, 98, 61, 34, 49, 34, 32, 98, 61, 34, 50, 34, 62], [60, 97, 32, 98, 61, 34, 60, 34, 62], [60, 33, 45, 45, 32, 97, 32, 45, 45, 62], [60, 33, 91, 67, 68, 65, 84, 65, 91, 97, 93, 93, 62], [60, 63, 120, 63, 62], [32, 60, 63, 120, 109, 108, 32, 118, 101, 114, 115, 105, 111, 110, 61, 34, 49, 46, 48, 34, 32, 101, 110, 99, 111, 100, 105, 110, 103, 61, 34, 85, 84, 70, 45, 56, 34, 63, 62], [38, 120, 59], [38, 35, 49, 59], [60, 47, 32, 97, 62], [60, 49, 62], [60, 33, 68, 79, 67, 84, 89, 80, 69, 32, 97, 62], [38, 35, 49, 50, 51, 52, 53, 54, 55, 56, 59], [38]]
def goodL : List (List UInt8) := [[], [60, 97, 62], [60, 97, 32, 98, 61, 39, 99, 39, 62], [60, 97, 32, 98, 32, 61, 32, 34, 99, 34, 32, 62], [60, 97, 32, 98, 61, 34, 49, 34, 32, 99, 61, 34, 50, 34, 62], [60, 97, 32, 98, 61, 34, 49, 34, 32, 99, 61, 39, 49, 39, 47, 62], [60, 97, 32, 98, 61, 39, 38, 108, 116, 59, 39, 62], [97, 32, 45, 45, 62], [91, 67, 68, 65, 84, 65, 91, 97, 93, 93, 62], [60, 63, 120, 109, 108, 32, 118, 101, 114, 115, 105, 111, 110, 61, 34, 49, 46, 48, 34, 32, 101, 110, 99, 111, 100, 105, 110, 103, 61, 34, 85, 84, 70, 45, 56, 34, 63, 62], [60, 63, 120, 109, 108, 32, 118, 101, 114, 115, 105, 111, 110, 61, 34, 49, 46, 48, 34, 32, 101, 110, 99, 111, 100, 105, 110, 103, 61, 34, 85, 84, 70, 45, 56, 34, 63, 62, 32], [38, 97, 109, 112, 59, 120, 59], [38, 35, 57, 59], [60, 47, 97, 32, 62], [60, 95, 49, 62], [60, 97, 47, 62], [38, 35, 120, 49, 48, 70, 70, 70, 70, 59], [38, 97, 109, 112, 59]]
theorem refuses_all : (List.range 18).all (fun i => decide ((toksS (badL.getD i [])).2 = 9) && decide ((toksS (goodL.getD i [])).2 = 0) && decide (decide (0 < (((toksS (goodL.getD i [])).1.length : Nat) : Int)) = (((i : Int) != 0) && ((i : Int) != 9)))) = true := by kernel_rfl
theorem short_all : (List.range 18).all (fun i => decide ((badL.getD i []).length ≤ 9223372036854775807) && decide ((goodL.getD i []).length ≤ 9223372036854775807)) = true := by kernel_rfl
theorem getC (L : List (List UInt8)) (i : Nat) (h : i < L.length) : (L.map fun s => [AV.str s])[i]? = some [.str (L.getD i [])] := by
  rw [List.getElem?_map, List.getElem?_eq_getElem h]
  simp [List.getD_eq_getElem?_getD, h]
theorem umod (n : Int) : 0 ≤ IntKind.u64.wrap n := by
  simp only [IntKind.wrap, IntKind.bits, IntKind.signed]
  simp
  omega
theorem TokenRefuses_law (what : Int) : ACalls Tryd.prog (gD m) 5 [.int .i64 what] ⟨[], []⟩ (fun r _ => r = .bool true) := by
  refine ACalls_fn tok fm (fk5 _) ?_
  obtain ⟨i, hi, hk⟩ : ∃ i : Nat, i < 18 ∧ (IntKind.u64.wrap what).tmod 18 = i := by
    have h0 := umod what
    have h1 := Int.tmod_nonneg 18 h0
    have h2 := Int.tmod_lt_of_pos (IntKind.u64.wrap what) (b := 18) (by decide)
    exact ⟨((IntKind.u64.wrap what).tmod 18).toNat, by omega, by omega⟩
  have hr := List.all_eq_true.1 refuses_all i (by simpa using hi)
  have hs := List.all_eq_true.1 short_all i (by simpa using hi)
  simp only [Bool.and_eq_true, decide_eq_true_eq] at hr hs
  have g1 : ([[AV.str [60]], [AV.str [60, 97]], [AV.str [60, 97, 32, 98, 62]], [AV.str [60, 97, 32, 98, 61, 99, 62]], [AV.str [60, 97, 32, 98, 61, 34, 49, 34, 99, 61, 34, 50, 34, 62]], [AV.str [60, 97, 32, 98, 61, 34, 49, 34, 32, 98, 61, 34, 50, 34, 62]], [AV.str [60, 97, 32, 98, 61, 34, 60, 34, 62]], [AV.str [60, 33, 45, 45, 32, 97, 32, 45, 45, 62]], [AV.str [60, 33, 91, 67, 68, 65, 84, 65, 91, 97, 93, 93, 62]], [AV.str [60, 63, 120, 63, 62]], [AV.str [32, 60, 63, 120, 109, 108, 32, 118, 101, 114, 115, 105, 111, 110, 61, 34, 49, 46, 48, 34, 32, 101, 110, 99, 111, 100, 105, 110, 103, 61, 34, 85, 84, 70, 45, 56, 34, 63, 62]], [AV.str [38, 120, 59]], [AV.str [38, 35, 49, 59]], [AV.str [60, 47, 32, 97, 62]], [AV.str [60, 49, 62]], [AV.str [60, 33, 68, 79, 67, 84, 89, 80, 69, 32, 97, 62]], [AV.str [38, 35, 49, 50, 51, 52, 53, 54, 55, 56, 59]], [AV.str [38]]])[i]? = some [AV.str (badL.getD i [])] := getC badL i hi
  have g2 : ([[AV.str []], [AV.str [60, 97, 62]], [AV.str [60, 97, 32, 98, 61, 39, 99, 39, 62]], [AV.str [60, 97, 32, 98, 32, 61, 32, 34, 99, 34, 32, 62]], [AV.str [60, 97, 32, 98, 61, 34, 49, 34, 32, 99, 61, 34, 50, 34, 62]], [AV.str [60, 97, 32, 98, 61, 34, 49, 34, 32, 99, 61, 39, 49, 39, 47, 62]], [AV.str [60, 97, 32, 98, 61, 39, 38, 108, 116, 59, 39, 62]], [AV.str [97, 32, 45, 45, 62]], [AV.str [91, 67, 68, 65, 84, 65, 91, 97, 93, 93, 62]], [AV.str [60, 63, 120, 109, 108, 32, 118, 101, 114, 115, 105, 111, 110, 61, 34, 49, 46, 48, 34, 32, 101, 110, 99, 111, 100, 105, 110, 103, 61, 34, 85, 84, 70, 45, 56, 34, 63, 62]], [AV.str [60, 63, 120, 109, 108, 32, 118, 101, 114, 115, 105, 111, 110, 61, 34, 49, 46, 48, 34, 32, 101, 110, 99, 111, 100, 105, 110, 103, 61, 34, 85, 84, 70, 45, 56, 34, 63, 62, 32]], [AV.str [38, 97, 109, 112, 59, 120, 59]], [AV.str [38, 35, 57, 59]], [AV.str [60, 47, 97, 32, 62]], [AV.str [60, 95, 49, 62]], [AV.str [60, 97, 47, 62]], [AV.str [38, 35, 120, 49, 48, 70, 70, 70, 70, 59]], [AV.str [38, 97, 109, 112, 59]]])[i]? = some [AV.str (goodL.getD i [])] := getC goodL i hi
  have w1 : IntKind.i64.wrap (i : Int) = i := wrap_i64 _ (by omega) (by omega)
  simp (maxSteps := 3000000) (disch := first | omega | (simp only [nvsR]; first | done | omega)) only [walkAll, walkL, walkK, E, Nat.reduceEqDiff, Nat.reduceAdd, Nat.reduceSub, Nat.reduceLeDiff, Nat.le_refl, Nat.zero_lt_one, Int.cast_ofNat_Int, Int.reduceLT, Int.reduceLE, Int.reduceAdd, Int.reduceSub, Int.reduceToNat, Int.toNat_natCast, decide_true, decide_false, wrap_i64, wrap_i32, wrap_u8, wrap_u32, wrap_u64, and_true, true_and, ↓reduceIte, c5, hk, w1, g1, g2, Nat.zero_add]
  refine Tokens_c _ hs.1 ?_
  simp (disch := first | omega | (simp only [nvsR]; first | done | omega)) only [walkAll, walkL, walkK, E, Nat.reduceEqDiff, Nat.reduceAdd, Nat.reduceSub, Nat.reduceLeDiff, Nat.le_refl, Nat.zero_lt_one, Int.cast_ofNat_Int, Int.reduceLT, Int.reduceLE, Int.reduceAdd, Int.reduceSub, Int.reduceToNat, Int.toNat_natCast, decide_true, decide_false, wrap_i64, wrap_i32, wrap_u8, wrap_u32, wrap_u64, and_true, true_and, ↓reduceIte, hk, w1, g1, g2, Nat.zero_add]
  refine Tokens_c _ hs.2 ?_
  simp (disch := first | omega | (simp only [nvsR]; first | done | omega)) only [walkAll, walkL, walkK, E, Nat.reduceEqDiff, Nat.reduceAdd, Nat.reduceSub, Nat.reduceLeDiff, Nat.le_refl, Nat.zero_lt_one, Int.cast_ofNat_Int, Int.reduceLT, Int.reduceLE, Int.reduceAdd, Int.reduceSub, Int.reduceToNat, Int.toNat_natCast, decide_true, decide_false, wrap_i64, wrap_i32, wrap_u8, wrap_u32, wrap_u64, and_true, true_and, ↓reduceIte, hk, w1]
  refine awake_c ?_
  have e1 : ((9 : Int) == 9) = true := rfl
  have e2 : ((0 : Int) == 0) = true := rfl
  simp (disch := first | omega | (simp only [nvsR]; first | done | omega)) only [walkAll, walkL, walkK, E, Nat.reduceEqDiff, Nat.reduceAdd, Nat.reduceSub, Nat.reduceLeDiff, Nat.le_refl, Nat.zero_lt_one, Int.cast_ofNat_Int, Int.reduceLT, Int.reduceLE, Int.reduceAdd, Int.reduceSub, Int.reduceToNat, Int.toNat_natCast, decide_true, decide_false, wrap_i64, wrap_i32, wrap_u8, wrap_u32, wrap_u64, and_true, true_and, ↓reduceIte, hr.1.1, hr.1.2, e1, e2, lsv_len, List.length_map]
  refine brG_split (fun hb => ?_) (fun hb => ?_)
  · simp (disch := first | omega | (simp only [nvsR]; first | done | omega)) only [walkAll, walkL, walkK, E, Nat.reduceEqDiff, Nat.reduceAdd, Nat.reduceSub, Nat.reduceLeDiff, Nat.le_refl, Nat.zero_lt_one, Int.cast_ofNat_Int, Int.reduceLT, Int.reduceLE, Int.reduceAdd, Int.reduceSub, Int.reduceToNat, Int.toNat_natCast, decide_true, decide_false, wrap_i64, wrap_i32, wrap_u8, wrap_u32, wrap_u64, and_true, true_and, ↓reduceIte, hb]
    rw [hr.2, hb]
    simp
  · skip
    simp (disch := first | omega | (simp only [nvsR]; first | done | omega)) only [walkAll, walkL, walkK, E, Nat.reduceEqDiff, Nat.reduceAdd, Nat.reduceSub, Nat.reduceLeDiff, Nat.le_refl, Nat.zero_lt_one, Int.cast_ofNat_Int, Int.reduceLT, Int.reduceLE, Int.reduceAdd, Int.reduceSub, Int.reduceToNat, Int.toNat_natCast, decide_true, decide_false, wrap_i64, wrap_i32, wrap_u8, wrap_u32, wrap_u64, and_true, true_and, ↓reduceIte, hb]
    trace_state
    rw [hr.2, hb]
    rfl
end
end Go.Ab.Sd
