/-
  A world in which the listed variables read as they are listed, and the given row out of a law's contract.
-/
import Derived.Test.YtpejbkckppnamaaDoorSdJoin
set_option linter.all false
set_option linter.unusedVariables false
set_option linter.unusedSimpArgs false
namespace Go.Ab.Sd
open Go Go.Ab Go.Proofs Go.RowKit Go.ChangeShapes Go.WideShapes Go.ChangeAt
set_option maxRecDepth 100000
def lit1 : DataW Unit → Value
  | .lit (.int k n) => .int k n
  | _ => .nilIface
def lits1 : DataW Unit → List Value
  | .agg l => l.map lit1
  | _ => []
def lits2 : DataW Unit → List Value
  | .agg l => l.flatMap lits1
  | _ => []
def textOf : DataW Unit → ByteArray
  | .iface _ (.ptr (.agg [.lit (.string l)])) => ⟨l.toArray⟩
  | _ => ⟨#[]⟩
noncomputable def low : Nat := (World.holding Tryd.prog default ⟨#[], #[], []⟩).heap.size
def putG (g : Nat) (vs : List Value) (heap : Array Obj) : Array Obj := heap.modify g fun
  | .cells _ t frozen => .cells vs.toArray t frozen
  | o => o
noncomputable def world0 (os : Os) : World := World.holding Tryd.prog os ⟨#[.cells #[.string (textOf Go.Proofs.YtpejbkckppnamaaDoor.Rows.laid_strconv_ErrSyntax)] 120, .cells #[.string (textOf Go.Proofs.YtpejbkckppnamaaDoor.Rows.laid_strconv_ErrRange)] 120], #[], []⟩
noncomputable def laidHeap (h : Array Obj) : Array Obj :=
  putG 0 (lits1 Go.Proofs.YtpejbkckppnamaaDoor.Rows.laid_unicode_utf8_first) <| putG 1 (lits2 Go.Proofs.YtpejbkckppnamaaDoor.Rows.laid_unicode_utf8_acceptRanges) <|
      putG 3 [.iface 118 (.pointer (some ⟨low, 0, none⟩))] <| putG 4 [.iface 118 (.pointer (some ⟨low + 1, 0, none⟩))] <|
      putG 5 (lits1 Go.Proofs.YtpejbkckppnamaaDoor.Rows.laid_internal_strconv_uint64pow10) <| putG 6 (lits1 Go.Proofs.YtpejbkckppnamaaDoor.Rows.laid_math_bits_deBruijn32tab) <| putG 7 (lits1 Go.Proofs.YtpejbkckppnamaaDoor.Rows.laid_math_bits_deBruijn64tab) h
noncomputable def laidWorld (os : Os) : World := { world0 os with heap := laidHeap (world0 os).heap }
theorem laid_met (os : Os) (args : Array Value) : laidMet Tryd.prog laidL ((laidWorld os).forCall (fun _ _ => 0) ⟨#[], args, []⟩).memory :=
  laidMet_of_run' 8 (by kernel_rfl) (by kernel_rfl)
end Go.Ab.Sd
