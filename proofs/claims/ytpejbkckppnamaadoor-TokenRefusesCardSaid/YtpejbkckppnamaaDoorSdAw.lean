/- Part of this work: see the text that closes the claim. -/
import Derived.Test.YtpejbkckppnamaaDoorSdTok5
set_option linter.all false
set_option linter.unusedVariables false
set_option linter.unusedSimpArgs false
namespace Go.Ab.Sd
open Go Go.Ab Go.Proofs Go.RowKit
set_option maxRecDepth 40000
set_option linter.unusedSimpArgs false
section
variable {m : Int} {σ : St} {K : AV → St → Prop}
def awakeL : List UInt8 := [60, 97, 62, 120, 60, 47, 97, 62]
theorem awake_toks : toksS awakeL = ([⟨1, [97], [], [], false⟩, ⟨3, [], [120], [], false⟩, ⟨2, [97], [], [], false⟩], 0) := by kernel_rfl
theorem awake_c (h : K (.bool true) σ) : ACalls Tryd.prog (gD m) 8 [] σ K := by
  refine ACalls_fn tok fm (fk8 _) ?_
  simp (disch := first | omega | (simp only [nvsR]; first | done | omega)) only [walkAll, walkL, walkK, E, Nat.reduceEqDiff, Nat.reduceAdd, Nat.reduceSub, Nat.reduceLeDiff, Nat.le_refl, Nat.zero_lt_one, Int.cast_ofNat_Int, Int.reduceLT, Int.reduceLE, Int.reduceAdd, Int.reduceSub, Int.reduceToNat, Int.toNat_natCast, decide_true, decide_false, wrap_i64, wrap_i32, wrap_u8, wrap_u32, wrap_u64, and_true, true_and, ↓reduceIte, c8]
  refine Tokens_c awakeL (by decide) ?_
  rw [awake_toks]
  simp (disch := first | omega | (simp only [nvsR]; first | done | omega)) only [walkAll, walkL, walkK, E, Nat.reduceEqDiff, Nat.reduceAdd, Nat.reduceSub, Nat.reduceLeDiff, Nat.le_refl, Nat.zero_lt_one, Int.cast_ofNat_Int, Int.reduceLT, Int.reduceLE, Int.reduceAdd, Int.reduceSub, Int.reduceToNat, Int.toNat_natCast, decide_true, decide_false, wrap_i64, wrap_i32, wrap_u8, wrap_u32, wrap_u64, and_true, true_and, ↓reduceIte, List.map_cons, List.map_nil, Tok.c, lsv_nil, show ∀ (a : List AV) (l : List (List AV)), lsv (a :: l) = .sl (a :: l) from fun _ _ => rfl]
  exact h
end
end Go.Ab.Sd
