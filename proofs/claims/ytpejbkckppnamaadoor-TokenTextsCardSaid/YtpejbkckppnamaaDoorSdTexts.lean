/- Part of this work: see the text that closes the claim. -/
import Derived.Test.YtpejbkckppnamaaDoorRef
set_option linter.all false
set_option linter.unusedVariables false
set_option linter.unusedSimpArgs false
namespace Go.Ab.Sd
open Go Go.Ab Go.Proofs Go.RowKit
set_option maxRecDepth 40000
set_option linter.unusedSimpArgs false
section
variable {m : Int} {σ : St} {K : AV → St → Prop}
theorem TokenTexts_law (s : List UInt8) : ACalls Tryd.prog (gD m) 3 [.str s] ⟨[], []⟩ (fun r _ => r = .bool true) := by
  refine ACalls_fn tok fm (fk3 _) ?_
  cases q : decide ((300 : Int) < (s.length : Int)) with
  | true =>
    simp (disch := first | omega | (simp only [nvsR, List.length_cons, List.length_nil, List.length_append]; first | done | omega)) only [walkAll, walkL, walkK, E, Nat.reduceEqDiff, Nat.reduceAdd, Nat.reduceSub, Nat.reduceLeDiff, Nat.le_refl, Nat.zero_lt_one, Int.cast_ofNat_Int, Int.reduceLT, Int.reduceLE, Int.reduceAdd, Int.reduceSub, Int.reduceToNat, Int.toNat_natCast, decide_true, decide_false, wrap_i64, wrap_i32, wrap_u8, wrap_u32, wrap_u64, and_true, true_and, ↓reduceIte, c3, q]
    refine awake_c ?_
    simp (disch := first | omega | (simp only [nvsR, List.length_cons, List.length_nil, List.length_append]; first | done | omega)) only [walkAll, walkL, walkK, E, Nat.reduceEqDiff, Nat.reduceAdd, Nat.reduceSub, Nat.reduceLeDiff, Nat.le_refl, Nat.zero_lt_one, Int.cast_ofNat_Int, Int.reduceLT, Int.reduceLE, Int.reduceAdd, Int.reduceSub, Int.reduceToNat, Int.toNat_natCast, decide_true, decide_false, wrap_i64, wrap_i32, wrap_u8, wrap_u32, wrap_u64, and_true, true_and, ↓reduceIte]
  | false =>
    have hs : s.length ≤ 300 := by have := of_decide_eq_false q; omega
    simp (disch := first | omega | (simp only [nvsR, List.length_cons, List.length_nil, List.length_append]; first | done | omega)) only [walkAll, walkL, walkK, E, Nat.reduceEqDiff, Nat.reduceAdd, Nat.reduceSub, Nat.reduceLeDiff, Nat.le_refl, Nat.zero_lt_one, Int.cast_ofNat_Int, Int.reduceLT, Int.reduceLE, Int.reduceAdd, Int.reduceSub, Int.reduceToNat, Int.toNat_natCast, decide_true, decide_false, wrap_i64, wrap_i32, wrap_u8, wrap_u32, wrap_u64, and_true, true_and, ↓reduceIte, c3, q]
    refine refUtf_c s (by omega) ?_
    cases hu : utfB s with
    | false =>
      simp (disch := first | omega | (simp only [nvsR, List.length_cons, List.length_nil, List.length_append]; first | done | omega)) only [walkAll, walkL, walkK, E, Nat.reduceEqDiff, Nat.reduceAdd, Nat.reduceSub, Nat.reduceLeDiff, Nat.le_refl, Nat.zero_lt_one, Int.cast_ofNat_Int, Int.reduceLT, Int.reduceLE, Int.reduceAdd, Int.reduceSub, Int.reduceToNat, Int.toNat_natCast, decide_true, decide_false, wrap_i64, wrap_i32, wrap_u8, wrap_u32, wrap_u64, and_true, true_and, ↓reduceIte]
      refine awake_c ?_
      simp (disch := first | omega | (simp only [nvsR, List.length_cons, List.length_nil, List.length_append]; first | done | omega)) only [walkAll, walkL, walkK, E, Nat.reduceEqDiff, Nat.reduceAdd, Nat.reduceSub, Nat.reduceLeDiff, Nat.le_refl, Nat.zero_lt_one, Int.cast_ofNat_Int, Int.reduceLT, Int.reduceLE, Int.reduceAdd, Int.reduceSub, Int.reduceToNat, Int.toNat_natCast, decide_true, decide_false, wrap_i64, wrap_i32, wrap_u8, wrap_u32, wrap_u64, and_true, true_and, ↓reduceIte]
    | true =>
      have hl := escS_len s
      simp (disch := first | omega | (simp only [nvsR, List.length_cons, List.length_nil, List.length_append]; first | done | omega)) only [walkAll, walkL, walkK, E, Nat.reduceEqDiff, Nat.reduceAdd, Nat.reduceSub, Nat.reduceLeDiff, Nat.le_refl, Nat.zero_lt_one, Int.cast_ofNat_Int, Int.reduceLT, Int.reduceLE, Int.reduceAdd, Int.reduceSub, Int.reduceToNat, Int.toNat_natCast, decide_true, decide_false, wrap_i64, wrap_i32, wrap_u8, wrap_u32, wrap_u64, and_true, true_and, ↓reduceIte]
      refine Escape_c s (by omega) ?_
      simp (disch := first | omega | (simp only [nvsR, List.length_cons, List.length_nil, List.length_append]; first | done | omega)) only [walkAll, walkL, walkK, E, Nat.reduceEqDiff, Nat.reduceAdd, Nat.reduceSub, Nat.reduceLeDiff, Nat.le_refl, Nat.zero_lt_one, Int.cast_ofNat_Int, Int.reduceLT, Int.reduceLE, Int.reduceAdd, Int.reduceSub, Int.reduceToNat, Int.toNat_natCast, decide_true, decide_false, wrap_i64, wrap_i32, wrap_u8, wrap_u32, wrap_u64, and_true, true_and, ↓reduceIte]
      refine Escape_c s (by omega) ?_
      simp (disch := first | omega | (simp only [nvsR, List.length_cons, List.length_nil, List.length_append]; first | done | omega)) only [walkAll, walkL, walkK, E, Nat.reduceEqDiff, Nat.reduceAdd, Nat.reduceSub, Nat.reduceLeDiff, Nat.le_refl, Nat.zero_lt_one, Int.cast_ofNat_Int, Int.reduceLT, Int.reduceLE, Int.reduceAdd, Int.reduceSub, Int.reduceToNat, Int.toNat_natCast, decide_true, decide_false, wrap_i64, wrap_i32, wrap_u8, wrap_u32, wrap_u64, and_true, true_and, ↓reduceIte]
      have ht : toksS (60 :: 97 :: 32 :: 98 :: 61 :: 34 :: (escS s ++ [34, 62] ++ escS s ++ [60, 47, 97, 62])) = (textL s, 0) := by
        rw [show (60 :: 97 :: 32 :: 98 :: 61 :: 34 :: (escS s ++ [34, 62] ++ escS s ++ [60, 47, 97, 62])) = textT s by simp [textT]]
        exact text_toks s hs hu
      refine Tokens_c _ (by simp; omega) ?_
      rw [ht]
      simp (disch := first | omega | (simp only [nvsR, List.length_cons, List.length_nil, List.length_append]; first | done | omega)) only [walkAll, walkL, walkK, E, Nat.reduceEqDiff, Nat.reduceAdd, Nat.reduceSub, Nat.reduceLeDiff, Nat.le_refl, Nat.zero_lt_one, Int.cast_ofNat_Int, Int.reduceLT, Int.reduceLE, Int.reduceAdd, Int.reduceSub, Int.reduceToNat, Int.toNat_natCast, decide_true, decide_false, wrap_i64, wrap_i32, wrap_u8, wrap_u32, wrap_u64, and_true, true_and, ↓reduceIte]
      refine awake_c ?_
      have er : ∀ a : List UInt8, (a == a) = true := fun a => by simp
      have e0 : ((0 : Int) != 0) = false := rfl
      have e1 : ((1 : Int) != 1) = false := rfl
      cases hz : s == [] with
      | true =>
        have : s = [] := by simpa using hz
        subst this
        have c2 : decide ((2 : Int) < 2) = false := rfl
        have c3 : ((2 : Int) == 2) = true := rfl
        simp (disch := first | omega | (simp only [nvsR, List.length_cons, List.length_nil, List.length_append]; first | done | omega)) only [walkAll, walkL, walkK, E, Nat.reduceEqDiff, Nat.reduceAdd, Nat.reduceSub, Nat.reduceLeDiff, Nat.le_refl, Nat.zero_lt_one, Int.cast_ofNat_Int, Int.reduceLT, Int.reduceLE, Int.reduceAdd, Int.reduceSub, Int.reduceToNat, Int.toNat_natCast, decide_true, decide_false, wrap_i64, wrap_i32, wrap_u8, wrap_u32, wrap_u64, and_true, true_and, ↓reduceIte, textL, hz, List.map_cons, List.map_nil, List.nil_append, lsv_cons, lsv_nil, Tok.c, atc, e0, e1, er, c2, c3]
      | false =>
        have c2 : decide ((3 : Int) < 2) = false := rfl
        have c3 : ((3 : Int) == 3) = true := rfl
        simp (disch := first | omega | (simp only [nvsR, List.length_cons, List.length_nil, List.length_append]; first | done | omega)) only [walkAll, walkL, walkK, E, Nat.reduceEqDiff, Nat.reduceAdd, Nat.reduceSub, Nat.reduceLeDiff, Nat.le_refl, Nat.zero_lt_one, Int.cast_ofNat_Int, Int.reduceLT, Int.reduceLE, Int.reduceAdd, Int.reduceSub, Int.reduceToNat, Int.toNat_natCast, decide_true, decide_false, wrap_i64, wrap_i32, wrap_u8, wrap_u32, wrap_u64, and_true, true_and, ↓reduceIte, textL, hz, List.map_cons, List.map_nil, List.nil_append, List.cons_append, lsv_cons, lsv_nil, Tok.c, atc, e0, e1, er, c2, c3, Bool.false_eq_true]
end
end Go.Ab.Sd
