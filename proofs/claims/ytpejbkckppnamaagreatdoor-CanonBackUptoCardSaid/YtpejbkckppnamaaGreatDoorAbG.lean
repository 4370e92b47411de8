/-
  The abstract machine of this work: a list of one's own, and what is put behind it.
-/
import Derived.Test.YtpejbkckppnamaaGreatDoorAbB
set_option linter.all false
set_option linter.unusedVariables false
set_option linter.unusedSimpArgs false
namespace Go.Ab
open Go Go.RowKit
end Go.Ab
namespace Go.Ab
open Go Go.RowKit
theorem RB.trans {σ σ1 σ2 : St} {ρ ρ1 ρ2 : Option Nat} (h : RB σ σ1 ρ ρ1) (k : RB σ1 σ2 ρ1 ρ2) : RB σ σ2 ρ ρ2 := {
  vars := k.vars.trans h.vars
  grow := Nat.le_trans h.grow k.grow
  row := fun r hne hlt => by
    have hne1 : some r ≠ ρ1 := fun e => by
      rcases h.new r e.symm with h1 | h1
      · exact hne h1.symm
      · omega
    rw [k.row r hne1 (Nat.lt_of_lt_of_le hlt h.grow), h.row r hne hlt]
  new := fun r hr => by
    rcases k.new r hr with h1 | h1
    · exact h.new r h1
    · exact .inr (Nat.le_trans h.grow h1) }
theorem RB.refl (σ : St) (ρ : Option Nat) : RB σ σ ρ ρ := ⟨rfl, Nat.le_refl _, fun _ _ _ => rfl, fun _ h => .inl h⟩
theorem rows_grown {σ1 σ σ' : St} (hg : Grown σ1 σ) (hrow : ∀ r, r < nrs σ1 → getR σ' r = getR σ r) (hgrow : nrs σ ≤ nrs σ') : σ'.rows.take (nrs σ1) = σ1.rows := by
  obtain ⟨g, rs, rfl⟩ := hg
  apply List.ext_getElem?
  intro i
  rw [List.getElem?_take]
  split
  · rename_i hi
    have h1 := hrow i hi
    simp only [getR] at h1
    rw [h1, List.getElem?_append_left hi]
  · rename_i hi
    rw [List.getElem?_eq_none (by simp only [nrs] at hi; omega)]
theorem RB.grown {σ1 σ σ' : St} {ρ ρ' : Option Nat} (h : RB σ σ' ρ ρ') (hg : Grown σ1 σ) (hk : ∀ k, ρ = some k → nrs σ1 ≤ k) : Grown σ1 σ' := by
  have hr := rows_grown hg (fun r hr => h.row r (fun e => by have := hk r e.symm; omega) (Nat.lt_of_lt_of_le hr hg.nrs)) h.grow
  obtain ⟨g, rs, rfl⟩ := hg
  refine ⟨g, σ'.rows.drop (nrs σ1), ?_⟩
  have hv : σ'.vars = σ1.vars ++ g := h.vars
  cases σ' with
  | mk vs rs' =>
    simp only at hv hr ⊢
    rw [hv]
    congr 1
    have := List.take_append_drop (nrs σ1) rs'
    rw [hr] at this
    exact this.symm
theorem But.grown {σ1 σ σ' : St} {b : Nat} {ρ ρ' : Option Nat} (h : But σ σ' b ρ ρ') (hg : Grown σ1 σ) (hb : nvs σ1 ≤ b) (hk : ∀ k, ρ = some k → nrs σ1 ≤ k) : Grown σ1 σ' := by
  have hr := rows_grown hg (fun r hr => h.row r (fun e => by have := hk r e.symm; omega) (Nat.lt_of_lt_of_le hr hg.nrs)) h.grow
  have hv : σ'.vars.take (nvs σ1) = σ1.vars := by
    obtain ⟨g, rs, rfl⟩ := hg
    apply List.ext_getElem?
    intro i
    rw [List.getElem?_take]
    split
    · rename_i hi
      have h1 := h.var i (by omega)
      simp only [getV] at h1
      rw [h1, List.getElem?_append_left hi]
    · rename_i hi
      rw [List.getElem?_eq_none (by simp only [nvs] at hi; omega)]
  refine ⟨σ'.vars.drop (nvs σ1), σ'.rows.drop (nrs σ1), ?_⟩
  cases σ' with
  | mk vs rs' =>
    simp only at hv hr ⊢
    have h1 := List.take_append_drop (nvs σ1) vs
    have h2 := List.take_append_drop (nrs σ1) rs'
    rw [hv] at h1
    rw [hr] at h2
    rw [h1, h2]
end Go.Ab
