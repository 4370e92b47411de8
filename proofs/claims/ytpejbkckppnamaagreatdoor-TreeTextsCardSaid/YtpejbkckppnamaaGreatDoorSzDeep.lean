/- Part of this work: see the text that closes the claim. -/
import Derived.Test.YtpejbkckppnamaaGreatDoorSzStands
import Derived.Test.YtpejbkckppnamaaGreatDoorT9
set_option linter.all false
set_option linter.unusedVariables false
set_option linter.unusedSimpArgs false
namespace Go.Ab.Sz
open Go Go.Ab Go.Proofs Go.RowKit
set_option maxRecDepth 40000
set_option linter.unusedSimpArgs false
section
variable {n : Nat} (h1 : 1 ≤ n) (h2 : n ≤ 40)
include h1 h2
end
section
variable {m : Int} {σ : St} {K : AV → St → Prop}
end
end Go.Ab.Sz
