/- Part of this work: see the text that closes the claim. -/
import Derived.Test.YtpejbkckppnamaaGreatDoorT8
set_option linter.all false
set_option linter.unusedVariables false
set_option linter.unusedSimpArgs false
namespace Go.Ab.Sz
open Go Go.Ab Go.Proofs Go.RowKit
set_option maxRecDepth 40000
set_option linter.unusedSimpArgs false
theorem nd_len (l : List Nd) : ∀ e ∈ l.map Nd.c, e.length = 4 := fun e he => by
  obtain ⟨a, _, rfl⟩ := List.mem_map.1 he; rfl
section
variable {m : Int} {σ : St} {K : AV → St → Prop}
theorem parse_at (s : List UInt8) (hs : s.length ≤ 5000) (h : K (.tup [lsv ((parseS s).1.map Nd.c), .int .i64 (parseS s).2]) σ) : ACalls Tryz.prog (gD m) 19 [.str s] σ K := by
  have l1 := toksS_len s
  have l2 := toksS_txt s
  have l3 := sum_le (fun t : Tok => t.text.length) (4 * s.length) (toksS s).1 l2
  refine Parse_c s (by omega) (fun t ht => ⟨?_, ?_⟩) (by omega) ?_ h
  · have := l1.2 t ht; omega
  · have := l2 t ht; omega
  · have : (toksS s).1.length * (4 * s.length) ≤ 5000 * 20000 := Nat.mul_le_mul (by omega) (by omega)
    omega
end
end Go.Ab.Sz
