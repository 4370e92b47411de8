/-
  The abstract machine of this work, part 19: what a method made for itself is forgotten.
-/
import Derived.Test.YtpejbkckppnamaaDoorAbBuf
set_option linter.all false
set_option linter.unusedVariables false
set_option linter.unusedSimpArgs false
namespace Go.Ab
open Go Go.RowKit
theorem Keeps.set {σ : St} {b : Nat} {v : VB} (hv : v.data) (g : List VB) (h : List (Option Row)) : Keeps σ ⟨σ.vars.set b v ++ g, σ.rows ++ h⟩ (σ.setV b v) := {
  nv := by simp [St.setV]
  nr := rfl
  var := fun k vb hk => by
    simp only [St.setV] at hk
    refine ⟨by rw [List.getElem?_append_left (List.getElem?_eq_some_iff.1 hk).1]; exact hk, ?_⟩
    rw [List.getElem?_set] at hk
    split at hk
    · split at hk
      · cases hk; exact .inr hv
      · cases hk
    · exact .inl hk
  row := fun r x hx => by
    have hx' : σ.rows[r]? = some (some x) := hx
    exact ⟨by rw [List.getElem?_append_left (List.getElem?_eq_some_iff.1 hx').1]; exact hx', .inl hx'⟩ }
theorem ACalls.forget_set {P : Program} {G : GT} {f : FuncId} {args : List AV} {σ : St} {K : AV → St → Prop} {b : Nat} {v : VB} {r0 : AV} (hv : v.data) (hr : Data r0)
    (h : ACalls P G f args σ (fun r σ' => r = r0 ∧ ∃ g h, σ' = ⟨σ.vars.set b v ++ g, σ.rows ++ h⟩)) (hK : K r0 (σ.setV b v)) : ACalls P G f args σ K :=
  ACalls.forget (h.mono (fun r σ' ⟨h1, g, k, h2⟩ => ⟨σ.setV b v, by rw [h2]; exact Keeps.set hv g k, by rw [h1]; exact hr, by rw [h1]; exact hK⟩))
end Go.Ab
