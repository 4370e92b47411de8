/-
  This seat's library functions in the abstract machine's words: each a contract of the kit's shelf.
-/
import Derived.Test.YtpejbkckppnamaaDoorSdCf
import Derived.Test.YtpejbkckppnamaaDoorAbShelf
import Derived.Test.YtpejbkckppnamaaDoorTrydShelf
set_option linter.all false
set_option linter.unusedVariables false
set_option linter.unusedSimpArgs false
namespace Go.Ab.Sd
open Go Go.Ab Go.Proofs Go.RowKit
set_option maxRecDepth 20000
theorem fm : Tryd.prog.follows .mixedOrders = true := by kernel_rfl
/-- The tables that the library reads: a character's first byte, what may follow, and the longest text that is looked for in one go. -/
def firstL : List AV := (List.range 256).map fun c => .int .u8 (Lib.firstT c)
def accL : List AV := (List.range 16).flatMap fun i => [.int .u8 (Lib.accLo i), .int .u8 (Lib.accHi i)]
def gD (m : Int) : GT := fun g => if g = 0 then some firstL else if g = 1 then some accL else if g = 2 then some [.int .i64 m] else none
section
variable {m : Int} {σ : St} {K : AV → St → Prop}
theorem gD_max {C : Cz} {w : World} (h : GOK (gD m) C) (hm : ∀ b o v, C.M b o = some v → w.cell? ⟨b, o, none⟩ = some v) : w.cell? ⟨2, 0, none⟩ = some (.int .i64 m) := by
  obtain ⟨vs, h1, h2⟩ := h.cell hm (g := 2) (cs := [.int .i64 m]) rfl
  cases h1 with | cons _ _ _ _ h1 _ => cases h1; exact h2 0 _ rfl
theorem same_below {w : World} {e : Ending} {v : Value} {C : Cz} {r : AV} (hr : Rep C r v) {w' : World} (h : e = .returned v ∧ w' = w) : ∃ v, e = .returned v ∧ Rep C r v ∧ Below w.heap.size w w' := ⟨v, h.1, hr, by rw [h.2]; exact Below.refl _ _⟩
theorem CutPrefix_c (s p : List UInt8) (h : K (.tup [.str (Lib.trimPrefix s p), .bool (Lib.hasPrefix s p)]) σ) : ACalls Tryd.prog (gD m) 25 [.str s, .str p] σ K :=
  ACalls.of_calls Tryd.func25 rfl (by decide) (fun C w vs _ _ ha => by
    rw [ha.ss_inv]
    exact (Tryd.strings_CutPrefix ⟨s.toArray⟩ ⟨p.toArray⟩ w).mono fun _ _ h => same_below (.tup _ _ (.cons _ _ _ _ (.str _) (.cons _ _ _ _ (.bool _) .nil))) h) h
theorem IndexByte_c (s : List UInt8) (c : Int) (h : K (.int .i64 (Lib.indexByte s c.toNat.toUInt8)) σ) : ACalls Tryd.prog (gD m) 39 [.str s, .int .u8 c] σ K :=
  ACalls.of_calls Tryd.func39 rfl (by decide) (fun C w vs _ _ ha => by
    rw [ha.si_inv]
    exact (Tryd.strings_IndexByte ⟨s.toArray⟩ c w).mono fun _ _ h => same_below (.int _ _) h) h
theorem Contains_c (s p : List UInt8) (hs : s.length < 4294967281) (h : K (.bool (Lib.contains s p)) σ) : ACalls Tryd.prog (gD m) 42 [.str s, .str p] σ K :=
  ACalls.of_calls Tryd.func42 rfl (by decide) (fun C w vs hm hg ha => by
    rw [ha.ss_inv]
    exact (Tryd.strings_Contains ⟨s.toArray⟩ ⟨p.toArray⟩ m w (by rw [str_size]; exact hs) (gD_max hg hm)).mono fun _ _ h => same_below (.bool _) h) h
theorem Cut_c (s p : List UInt8) (hs : s.length < 4294967281) (h : K (.tup [.str (Lib.cut s p).1, .str (Lib.cut s p).2.1, .bool (Lib.cut s p).2.2]) σ) : ACalls Tryd.prog (gD m) 47 [.str s, .str p] σ K :=
  ACalls.of_calls Tryd.func47 rfl (by decide) (fun C w vs hm hg ha => by
    rw [ha.ss_inv]
    exact (Tryd.strings_Cut ⟨s.toArray⟩ ⟨p.toArray⟩ m w (by rw [str_size]; exact hs) (gD_max hg hm)).mono fun _ _ ⟨h1, n, h2⟩ => ⟨_, h1, .tup _ _ (.cons _ _ _ _ (.str _) (.cons _ _ _ _ (.str _) (.cons _ _ _ _ (.bool _) .nil))), by rw [h2]; exact below_drewN n⟩) h
theorem ValidRune_c (r : Int) (h : K (.bool (Lib.validRune r)) σ) : ACalls Tryd.prog (gD m) 68 [.int .i32 r] σ K :=
  ACalls.of_calls Tryd.func68 rfl (by decide) (fun C w vs _ _ ha => by
    rw [ha.i_inv]
    exact (Tryd.utf8_ValidRune r w).mono fun _ _ h => same_below (.bool _) h) h
end
end Go.Ab.Sd
