/- Part of this work: see the text that closes the claim. -/
import Derived.Test.YtpejbkckppnamaaGreatDoorSzStands
import Derived.Test.YtpejbkckppnamaaGreatDoorT9
set_option linter.all false
set_option linter.unusedVariables false
set_option linter.unusedSimpArgs false
namespace Go.Ab.Sz
open Go Go.Ab Go.Proofs Go.RowKit
set_option maxRecDepth 40000
set_option linter.unusedSimpArgs false
theorem small_of (k : Int) (hk : 0 < k) (what : Int) : ∃ n : Nat, (n : Int) < k ∧ (IntKind.u64.wrap what).tmod k = n := by
  have h0 : 0 ≤ IntKind.u64.wrap what := by
    simp only [IntKind.wrap, IntKind.bits, IntKind.signed]
    simp
    omega
  have h1 := Int.tmod_nonneg k h0
  have h2 := Int.tmod_lt_of_pos (IntKind.u64.wrap what) (b := k) hk
  exact ⟨((IntKind.u64.wrap what).tmod k).toNat, by omega, by omega⟩
section
variable {n : Nat} (h1 : 1 ≤ n) (h2 : n ≤ 40)
include h1 h2
end
section
variable {m : Int} {σ : St} {K : AV → St → Prop}
end
end Go.Ab.Sz
