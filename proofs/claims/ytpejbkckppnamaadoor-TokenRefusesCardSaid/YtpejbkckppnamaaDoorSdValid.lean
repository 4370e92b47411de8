/- Part of this work: see the text that closes the claim. -/
import Derived.Shelf.Unicode.ValidAny
import Derived.Test.YtpejbkckppnamaaDoorSdUtf
set_option linter.all false
set_option linter.unusedVariables false
set_option linter.unusedSimpArgs false
namespace Go.Ab.Sd
open Go Go.Ab Go.Proofs Go.RowKit
set_option maxRecDepth 20000
set_option linter.unusedSimpArgs false
section
variable {m : Int} {σ : St} {K : AV → St → Prop}
theorem ValidString_c (s : List UInt8) (hs : s.length ≤ 9223372036854775807) (h : K (.bool (Lib.validD s)) σ) : ACalls Tryd.prog (gD m) 21 [.str s] σ K :=
  ACalls.of_calls Tryd.func21 rfl (by decide) (fun C w vs hm hg ha => by
    rw [ha.s_inv]
    have := Any.utf8_ValidString Tryd.laysValid ⟨s.toArray⟩ w (by rw [str_size]; exact hs) (gD_tabs hg hm)
    exact Calls.mono this fun _ _ h => ⟨_, h.1, .bool _, h.2⟩) h
/-- Is a text one that may be? -/
def utf8S (s : List UInt8) : Bool := Lib.validD s && decide (Lib.idxFunc (fun x => !mayS x) true ⟨s.toArray⟩ < 0)
theorem Utf8_c (s : List UInt8) (hs : s.length ≤ 9223372036854775807) (h : K (.bool (utf8S s)) σ) : ACalls Tryd.prog (gD m) 16 [.str s] σ K := by
  refine ACalls_fn tok fm (fk16 _) ?_
  simp only [c16, walkAll, walkL, E, Nat.reduceEqDiff, ↓reduceIte]
  refine ValidString_c s hs ?_
  simp only [walkAll, walkL, E, Nat.reduceEqDiff, ↓reduceIte]
  refine brG_split (fun hb => ?_) (fun hb => ?_)
  · simp only [hb, walkAll, walkL, E, Nat.reduceEqDiff, ↓reduceIte]
    refine IndexFunc_c 23 _ Tryd.func23 rfl (by decide) (fun x => !mayS x) s (fun x _ => notMay_c x rfl) ?_
    simp only [hb, walkAll, walkL, E, Nat.reduceEqDiff, ↓reduceIte]
    have e : utf8S s = decide (Lib.idxFunc (fun x => !mayS x) true ⟨s.toArray⟩ < 0) := by simp [utf8S, hb]
    rw [e] at h
    exact h
  · simp only [hb, walkAll, walkL, E, Nat.reduceEqDiff, ↓reduceIte]
    have e : utf8S s = false := by simp [utf8S, hb]
    rw [e] at h
    exact h
end
end Go.Ab.Sd
