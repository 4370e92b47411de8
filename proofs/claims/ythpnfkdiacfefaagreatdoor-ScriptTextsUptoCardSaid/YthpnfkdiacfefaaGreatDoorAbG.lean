/-
  The abstract machine of this work: a list of one's own, and what is put behind it.
-/
import Derived.Test.YthpnfkdiacfefaaGreatDoorAbB
set_option linter.all false
set_option linter.unusedVariables false
set_option linter.unusedSimpArgs false
namespace Go.Ab
open Go Go.RowKit
/-- append(l, x...), whatever lies in x. -/
theorem own_appy {e z b : Nat} {σ : St} {v x : AV} {l ys : List (List AV)} {ρ : Option Nat} {K : AV → St → Prop} (h : Own e z σ v l ρ) (hx : elsA σ x = some ys) (hz : ∀ c ∈ ys, c.length = z) (h1 : ys.all (fun c => c.all AV.one) = true)
    (hle : (l.length + ys.length) * b ≤ 140737488355328) (hk : ∀ v' σ' ρ', Own e z σ' v' (l ++ ys) ρ' → RB σ σ' ρ ρ' → K v' σ') : pairK (appX e z b σ v x) K := by
  have hall : ys.all (fun c => c.length == z) = true := by rw [List.all_eq_true]; intro c hc; simpa using hz c hc
  have hall2 : ∀ x ∈ l ++ ys, x.length = z := fun x hx => by
    rcases List.mem_append.1 hx with hx | hx
    · exact h.1 x hx
    · exact hz x hx
  rcases h.2 with ⟨rfl, rfl, rfl⟩ | ⟨r, row, rfl, rfl, hr, hln, ht, hz', hty, hf⟩
  · simp only [appX, hx, hall, h1, Bool.and_self, if_true]
    by_cases h0 : ys = []
    · rw [if_pos h0]
      subst h0
      exact hk _ _ none (Own.nil _ _ _) ⟨rfl, Nat.le_refl _, fun _ _ _ => rfl, fun r h => by cases h⟩
    · rw [if_neg h0, if_pos (by simpa using hle)]
      refine hk _ _ (some (nrs σ)) ⟨hall2, .inr ⟨nrs σ, ⟨e, z, 0, ys⟩, rfl, rfl, by simp [getR, nrs, St.pushR], by simp, by simp, rfl, rfl, rfl⟩⟩ ⟨rfl, by simp [nrs, St.pushR], fun r _ hr => ?_, fun r h => .inr (by cases h; exact Nat.le_refl _)⟩
      simp only [getR, nrs, St.pushR] at *
      rw [List.getElem?_append_left hr]
  · have hr' : σ.rows[r]? = some (some row) := hr
    simp only [appX, hx, hall, h1, Bool.and_self, if_true, hr']
    rw [if_pos ⟨by omega, by omega, hz', hty, by simpa using hle⟩]
    refine hk _ _ (some (nrs σ)) ⟨hall2, .inr ⟨nrs σ, ⟨e, z, row.fz - 0, (row.els.drop 0).take l.length ++ ys⟩, rfl, ?_, ?_, ?_, ?_, rfl, rfl, by simp [hf]⟩⟩ ⟨rfl, ?_, ?_, fun r h => .inr (by cases h; exact Nat.le_refl _)⟩
    · simp [nrs]
    · simp [getR, nrs, St.pushR, St.setR]
    · simp; omega
    · simp only [List.drop_zero, ht]
      exact List.take_of_length_le (by simp)
    · simp [nrs, St.pushR, St.setR]
    · intro r' hne hr2
      have hne' : r' ≠ r := fun e => hne (by rw [e])
      simp only [getR, nrs, St.pushR, St.setR] at *
      rw [List.getElem?_append_left (by simpa using hr2), List.getElem?_set_ne (Ne.symm hne')]
end Go.Ab
namespace Go.Ab
open Go Go.RowKit
theorem RB.trans {σ σ1 σ2 : St} {ρ ρ1 ρ2 : Option Nat} (h : RB σ σ1 ρ ρ1) (k : RB σ1 σ2 ρ1 ρ2) : RB σ σ2 ρ ρ2 := {
  vars := k.vars.trans h.vars
  grow := Nat.le_trans h.grow k.grow
  row := fun r hne hlt => by
    have hne1 : some r ≠ ρ1 := fun e => by
      rcases h.new r e.symm with h1 | h1
      · exact hne h1.symm
      · omega
    rw [k.row r hne1 (Nat.lt_of_lt_of_le hlt h.grow), h.row r hne hlt]
  new := fun r hr => by
    rcases k.new r hr with h1 | h1
    · exact h.new r h1
    · exact .inr (Nat.le_trans h.grow h1) }
theorem RB.refl (σ : St) (ρ : Option Nat) : RB σ σ ρ ρ := ⟨rfl, Nat.le_refl _, fun _ _ _ => rfl, fun _ h => .inl h⟩
theorem rows_grown {σ1 σ σ' : St} (hg : Grown σ1 σ) (hrow : ∀ r, r < nrs σ1 → getR σ' r = getR σ r) (hgrow : nrs σ ≤ nrs σ') : σ'.rows.take (nrs σ1) = σ1.rows := by
  obtain ⟨g, rs, rfl⟩ := hg
  apply List.ext_getElem?
  intro i
  rw [List.getElem?_take]
  split
  · rename_i hi
    have h1 := hrow i hi
    simp only [getR] at h1
    rw [h1, List.getElem?_append_left hi]
  · rename_i hi
    rw [List.getElem?_eq_none (by simp only [nrs] at hi; omega)]
theorem RB.grown {σ1 σ σ' : St} {ρ ρ' : Option Nat} (h : RB σ σ' ρ ρ') (hg : Grown σ1 σ) (hk : ∀ k, ρ = some k → nrs σ1 ≤ k) : Grown σ1 σ' := by
  have hr := rows_grown hg (fun r hr => h.row r (fun e => by have := hk r e.symm; omega) (Nat.lt_of_lt_of_le hr hg.nrs)) h.grow
  obtain ⟨g, rs, rfl⟩ := hg
  refine ⟨g, σ'.rows.drop (nrs σ1), ?_⟩
  have hv : σ'.vars = σ1.vars ++ g := h.vars
  cases σ' with
  | mk vs rs' =>
    simp only at hv hr ⊢
    rw [hv]
    congr 1
    have := List.take_append_drop (nrs σ1) rs'
    rw [hr] at this
    exact this.symm
theorem But.grown {σ1 σ σ' : St} {b : Nat} {ρ ρ' : Option Nat} (h : But σ σ' b ρ ρ') (hg : Grown σ1 σ) (hb : nvs σ1 ≤ b) (hk : ∀ k, ρ = some k → nrs σ1 ≤ k) : Grown σ1 σ' := by
  have hr := rows_grown hg (fun r hr => h.row r (fun e => by have := hk r e.symm; omega) (Nat.lt_of_lt_of_le hr hg.nrs)) h.grow
  have hv : σ'.vars.take (nvs σ1) = σ1.vars := by
    obtain ⟨g, rs, rfl⟩ := hg
    apply List.ext_getElem?
    intro i
    rw [List.getElem?_take]
    split
    · rename_i hi
      have h1 := h.var i (by omega)
      simp only [getV] at h1
      rw [h1, List.getElem?_append_left hi]
    · rename_i hi
      rw [List.getElem?_eq_none (by simp only [nvs] at hi; omega)]
  refine ⟨σ'.vars.drop (nvs σ1), σ'.rows.drop (nrs σ1), ?_⟩
  cases σ' with
  | mk vs rs' =>
    simp only at hv hr ⊢
    have h1 := List.take_append_drop (nvs σ1) vs
    have h2 := List.take_append_drop (nrs σ1) rs'
    rw [hv] at h1
    rw [hr] at h2
    rw [h1, h2]
theorem Rd.grown' {z : Nat} {σ τ : St} {v : AV} {l : List (List AV)} (h : Rd z σ v l) (g : Grown σ τ) : Rd z τ v l := by
  obtain ⟨a, b, rfl⟩ := g
  refine ⟨h.1, h.2.imp id (fun h => h.imp id (fun h => h.imp id (fun ⟨r, off, row, h1, h2, h3⟩ => ⟨r, off, row, h1, ?_, h3⟩)))⟩
  simp only [getR] at *
  rw [List.getElem?_append_left (List.getElem?_eq_some_iff.1 h2).1]; exact h2
/-- append to the bytes of a builder, whatever they lie in. -/
theorem app_bufx {e : TypeId} {σ : St} {buf x : AV} {l s : List UInt8} {ρ : Option Nat} (h : BufIs e σ buf l ρ) (hx : elsA σ x = some (bytesE s)) (hle : l.length + s.length ≤ 140737488355328) :
    ∃ buf' σ' ρ', appX e 1 1 σ buf x = some (buf', σ') ∧ BufIs e σ' buf' (l ++ s) ρ' ∧ RowsBut σ σ' ρ ρ' ∧ (cellsA buf' = [buf'] ∧ buf'.one = true) := by
  have h1 := app_buf h (s := s) hle
  have e1 : appX e 1 1 σ buf x = appX e 1 1 σ buf (.str s) := by
    have h2 : elsA σ (.str s) = some (bytesE s) := rfl
    unfold appX
    rw [hx, h2]
  rw [e1]; exact h1
end Go.Ab
