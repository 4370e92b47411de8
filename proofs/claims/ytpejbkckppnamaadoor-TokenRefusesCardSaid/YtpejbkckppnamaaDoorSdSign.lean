/- Part of this work: see the text that closes the claim. -/
import Derived.Test.YtpejbkckppnamaaDoorSdNum
set_option linter.all false
set_option linter.unusedVariables false
set_option linter.unusedSimpArgs false
namespace Go.Ab.Sd
open Go Go.Ab Go.Proofs Go.RowKit
set_option maxRecDepth 40000
set_option linter.unusedSimpArgs false
section
variable {m : Int} {σ : St} {K : AV → St → Prop}
/-- What an entity is; none: of none. -/
def signS (s : List UInt8) : List UInt8 :=
  if s == [108, 116] then [60] else if s == [103, 116] then [62] else if s == [97, 109, 112] then [38] else if s == [113, 117, 111, 116] then [34] else if s == [97, 112, 111, 115] then [39] else
  if Lib.hasPrefix s [35, 120] then numberS hexes 6 16 (Lib.trimPrefix s [35, 120]) else
  if Lib.hasPrefix s [35] then numberS tens 7 10 (Lib.trimPrefix s [35]) else []
theorem trimPrefix_le (s p : List UInt8) : (Lib.trimPrefix s p).length ≤ s.length := by
  unfold Lib.trimPrefix
  split
  · simp
  · exact Nat.le_refl _
theorem sign_c (s : List UInt8) (hs : s.length < 9223372036854775807) (h : K (.str (signS s)) σ) : ACalls Tryd.prog (gD m) 50 [.str s] σ K := by
  refine ACalls_fn tok fm (fk50 _) ?_
  simp only [c50, walkAll, walkL, E, Nat.reduceEqDiff, ↓reduceIte]
  cases h1 : s == [108, 116] with
  | true => simp only [signS, h1, if_true] at h; simp only [h1, walkAll, walkL, E, Nat.reduceEqDiff, ↓reduceIte]; exact h
  | false =>
  simp only [h1, walkAll, walkL, E, Nat.reduceEqDiff, ↓reduceIte]
  cases h2 : s == [103, 116] with
  | true => simp only [signS, h1, h2, if_true, if_false, Bool.false_eq_true] at h; simp only [h2, walkAll, walkL, E, Nat.reduceEqDiff, ↓reduceIte]; exact h
  | false =>
  simp only [h2, walkAll, walkL, E, Nat.reduceEqDiff, ↓reduceIte]
  cases h3 : s == [97, 109, 112] with
  | true => simp only [signS, h1, h2, h3, if_true, if_false, Bool.false_eq_true] at h; simp only [h3, walkAll, walkL, E, Nat.reduceEqDiff, ↓reduceIte]; exact h
  | false =>
  simp only [h3, walkAll, walkL, E, Nat.reduceEqDiff, ↓reduceIte]
  cases h4 : s == [113, 117, 111, 116] with
  | true => simp only [signS, h1, h2, h3, h4, if_true, if_false, Bool.false_eq_true] at h; simp only [h4, walkAll, walkL, E, Nat.reduceEqDiff, ↓reduceIte]; exact h
  | false =>
  simp only [h4, walkAll, walkL, E, Nat.reduceEqDiff, ↓reduceIte]
  cases h5 : s == [97, 112, 111, 115] with
  | true => simp only [signS, h1, h2, h3, h4, h5, if_true, if_false, Bool.false_eq_true] at h; simp only [h5, walkAll, walkL, E, Nat.reduceEqDiff, ↓reduceIte]; exact h
  | false =>
  simp only [h5, walkAll, walkL, E, Nat.reduceEqDiff, ↓reduceIte]
  refine CutPrefix_c _ _ ?_
  simp only [walkAll, walkL, E, Nat.reduceEqDiff, ↓reduceIte]
  cases h6 : Lib.hasPrefix s [35, 120] with
  | true =>
    simp only [signS, h1, h2, h3, h4, h5, h6, if_true, if_false, Bool.false_eq_true] at h
    simp only [h6, walkAll, walkL, E, Nat.reduceEqDiff, ↓reduceIte]
    refine number_c hexes 6 16 (.inr rfl) (by decide) (by decide) hexes_dgt _ (by have := trimPrefix_le s [35, 120]; omega) ?_
    simp only [walkAll, walkL, E, Nat.reduceEqDiff, ↓reduceIte]
    exact h
  | false =>
  simp only [h6, walkAll, walkL, E, Nat.reduceEqDiff, ↓reduceIte]
  refine CutPrefix_c _ _ ?_
  simp only [walkAll, walkL, E, Nat.reduceEqDiff, ↓reduceIte]
  cases h7 : Lib.hasPrefix s [35] with
  | true =>
    simp only [signS, h1, h2, h3, h4, h5, h6, h7, if_true, if_false, Bool.false_eq_true] at h
    simp only [h7, walkAll, walkL, E, Nat.reduceEqDiff, ↓reduceIte]
    refine number_c tens 7 10 (.inl rfl) (by decide) (by decide) tens_dgt _ (by have := trimPrefix_le s [35]; omega) ?_
    simp only [walkAll, walkL, E, Nat.reduceEqDiff, ↓reduceIte]
    exact h
  | false =>
    simp only [signS, h1, h2, h3, h4, h5, h6, h7, if_true, if_false, Bool.false_eq_true] at h
    simp only [h7, walkAll, walkL, E, Nat.reduceEqDiff, ↓reduceIte]
    exact h
end
end Go.Ab.Sd
