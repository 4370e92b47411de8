/- Part of this work: see the text that closes the claim. -/
import Derived.Test.YtpejbkckppnamaaGreatDoorT8
set_option linter.all false
set_option linter.unusedVariables false
set_option linter.unusedSimpArgs false
namespace Go.Ab.Sz
open Go Go.Ab Go.Proofs Go.RowKit
set_option maxRecDepth 40000
set_option linter.unusedSimpArgs false
theorem nd_len (l : List Nd) : ∀ e ∈ l.map Nd.c, e.length = 4 := fun e he => by
  obtain ⟨a, _, rfl⟩ := List.mem_map.1 he; rfl
section
variable {m : Int} {σ : St} {K : AV → St → Prop}
end
end Go.Ab.Sz
