/- Part of this work: see the text that closes the claim. -/
import Derived.Test.YtpejbkckppnamaaDoorSdPlain
set_option linter.all false
set_option linter.unusedVariables false
set_option linter.unusedSimpArgs false
namespace Go.Ab.Sd
open Go Go.Ab Go.Proofs Go.RowKit
set_option maxRecDepth 40000
set_option linter.unusedSimpArgs false
section
variable {m : Int} {σ : St} {K : AV → St → Prop}
theorem step_c (b : Nat) (s : List UInt8) (ty : TypeId) (hv : W σ b ty s)
    (h1 : Lib.hasPrefix s [60, 47] = true → K (.fn (.func 26) [.vp b 0] []) (σ.setV b (.cells ty [.str (Lib.trimPrefix s [60, 47])])))
    (h2 : Lib.hasPrefix s [60, 47] = false → Lib.hasPrefix s [60] = true → K (.fn (.func 27) [.vp b 0] []) (σ.setV b (.cells ty [.str (Lib.trimPrefix s [60])])))
    (h3 : Lib.hasPrefix s [60, 47] = false → Lib.hasPrefix s [60] = false → K (.fn (.func 28) [.vp b 0] []) σ) :
    ACalls Tryd.prog (gD m) 18 [.vp b 0] σ K := by
  have tp : ∀ p, Lib.hasPrefix s p = false → σ.setV b (.cells ty [.str (Lib.trimPrefix s p)]) = σ := fun p hp => by
    have : Lib.trimPrefix s p = s := by unfold Lib.trimPrefix; rw [hp]; rfl
    rw [this]; exact setV_same hv
  refine ACalls_fn tok fm (fk18 _) ?_
  simp (disch := omega) only [c18, walkAll, walkL, E, hv, Nat.reduceEqDiff, ↓reduceIte]
  refine pass_c b s [60, 47] ty hv ?_
  cases q : Lib.hasPrefix s [60, 47] with
  | true =>
    simp (disch := omega) only [walkAll, walkL, E, hv, Nat.reduceEqDiff, ↓reduceIte]
    exact h1 q
  | false =>
    rw [tp _ q]
    simp (disch := omega) only [walkAll, walkL, E, hv, Nat.reduceEqDiff, ↓reduceIte]
    refine pass_c b s [60] ty hv ?_
    cases q2 : Lib.hasPrefix s [60] with
    | true =>
      simp (disch := omega) only [walkAll, walkL, E, hv, Nat.reduceEqDiff, ↓reduceIte]
      exact h2 q q2
    | false =>
      rw [tp _ q2]
      simp (disch := omega) only [walkAll, walkL, E, hv, Nat.reduceEqDiff, ↓reduceIte]
      exact h3 q q2
end
end Go.Ab.Sd
