/-
  Texts of characters that may be: plain laws.
-/
import Derived.Test.YtpejbkckppnamaaGreatDoorTok
import Derived.Lib.MapLaws
import Derived.Lib.ValidU
import Derived.Lib.TrimAscii
import Derived.Shelf.GgClosure.StringsIndexFunc
import Derived.Lib.IndexMore
import Derived.Lib.Strings
import Derived.Lib.Bytealg
set_option linter.all false
set_option linter.unusedVariables false
set_option linter.unusedSimpArgs false
namespace Go.Ab.Sz
open Go Go.Ab Go.Proofs Go.RowKit
set_option maxRecDepth 100000
section
variable {m : Int} {σ : St} {K : AV → St → Prop}
theorem tok_len (l : List Tok) : ∀ e ∈ l.map Tok.c, e.length = 5 := fun e he => by
  obtain ⟨a, _, rfl⟩ := List.mem_map.1 he; rfl
end
end Go.Ab.Sz
namespace Go.Ab.Sz
open Go Go.Ab Go.Proofs Go.RowKit
set_option maxRecDepth 40000
set_option linter.unusedSimpArgs false
section
variable {m : Int} {σ : St} {K : AV → St → Prop}
end
end Go.Ab.Sz
namespace Go.Ab
open Go Go.Lib

end Go.Ab
namespace Go.Ab
open Go Go.Lib
end Go.Ab
namespace Go.Ab
open Go Go.Lib

theorem pre_cons (a b : UInt8) (s p : List UInt8) : hasPrefix (a :: s) (b :: p) = (b == a && hasPrefix s p) := rfl
theorem pre_nil (s : List UInt8) : hasPrefix s [] = true := by unfold hasPrefix; simp
/-! ### The bytes of a character -/
end Go.Ab
namespace Go.Ab.Sz
open Go Go.Ab Go.Proofs Go.RowKit
set_option maxRecDepth 40000
theorem dropWhile_all (p : UInt8 → Bool) : ∀ (s : List UInt8), (∀ c ∈ s, p c = true) → s.dropWhile p = []
  | [], _ => rfl
  | c :: s, h => by rw [List.dropWhile_cons_of_pos (h c (by simp))]; exact dropWhile_all p s fun x hx => h x (by simp [hx])
/-- A sign of a number. -/
def hx (c : Nat) : UInt8 := if c < 10 then UInt8.ofNat (48 + c) else UInt8.ofNat (87 + c)
end Go.Ab.Sz
namespace Go.Ab.Sz
open Go Go.Ab Go.Proofs Go.RowKit Go.Lib
set_option maxRecDepth 40000
set_option linter.unusedSimpArgs false
section
variable {m : Int} {σ : St} {K : AV → St → Prop}
end
end Go.Ab.Sz
namespace Go.Ab.Sz
open Go Go.Ab Go.Proofs Go.RowKit Go.Lib
set_option maxRecDepth 100000
set_option linter.unusedSimpArgs false
section
variable {m : Int} {σ : St} {K : AV → St → Prop}
end
end Go.Ab.Sz
namespace Go.Ab.Sz
open Go Go.Ab Go.Proofs Go.RowKit
set_option maxRecDepth 40000
set_option linter.unusedSimpArgs false
section
variable {m : Int} {σ : St} {K : AV → St → Prop}
end
end Go.Ab.Sz
