/-
  The abstract machine of this work, part 21: lists: read wherever they lie, and grown by append.
-/
import Derived.Test.YtpejbkckppnamaaDoorAbFreeze
set_option linter.all false
set_option linter.unusedVariables false
set_option linter.unusedSimpArgs false
namespace Go.Ab
open Go Go.RowKit

/-- This points to these cells. -/
structure PtrTo (σ : St) (p : AV) (c : List AV) : Prop where
  nil : nilA σ p = some p
  ld : ∀ n, n ≤ c.length → ldAt σ p n = some (c.take n)
  fa : ∀ off, off ≤ c.length → ∃ p', faX off σ p = some p' ∧ ∀ n, off + n ≤ c.length → ldAt σ p' n = some ((c.drop off).take n)
theorem PtrTo.all {σ : St} {p : AV} {c : List AV} (h : PtrTo σ p c) {n : Nat} (hn : c.length = n) : ldX (some n) σ p = some (.agg c) := by
  simp only [ldX]; rw [h.ld n (by omega), ← hn, List.take_length]; rfl
theorem PtrTo.one {σ : St} {p v : AV} (h : PtrTo σ p [v]) : ldX none σ p = some v := by
  have := h.ld 1 (by simp)
  simp only [ldX, this]; rfl
theorem PtrTo.fld {σ : St} {p : AV} {c : List AV} (h : PtrTo σ p c) (off : Nat) (v : AV) (hv : c[off]? = some v) : ∃ p', faX off σ p = some p' ∧ ldX none σ p' = some v := by
  have hlt := (List.getElem?_eq_some_iff.1 hv).1
  obtain ⟨p', h1, h2⟩ := h.fa off (by omega)
  refine ⟨p', h1, ?_⟩
  have e : (c.drop off).take 1 = [v] := by
    rw [List.drop_eq_getElem_cons hlt]
    have : c[off] = v := by simpa [List.getElem?_eq_getElem hlt] using hv
    rw [this]; rfl
  simp only [ldX, h2 1 (by omega), e]
theorem ptr_rp (σ : St) (c : List AV) : PtrTo σ (.rp c) c := {
  nil := rfl
  ld := fun n hn => by show (if n ≤ c.length then _ else _) = _; rw [if_pos hn]
  fa := fun off hoff => ⟨.rp (c.drop off), rfl, fun n hn => by show (if n ≤ (c.drop off).length then _ else _) = _; rw [if_pos (by simp; omega)]⟩ }
theorem ptr_op {σ : St} {r i : Nat} {row : Row} {c : List AV} (hr : getR σ r = some (some row)) (hi : row.els[i]? = some c) : PtrTo σ (.op r i 0) c := {
  nil := by
    have : nilA σ (.op r i 0) = rowN (getR σ r) (.op r i 0) := rfl
    rw [this, hr]; rfl
  ld := fun n hn => by
    have : ldAt σ (.op r i 0) n = rowL (getR σ r) i 0 n := rfl
    rw [this, hr]
    simp only [rowL, hi]
    rw [if_pos (by omega), List.drop_zero]
  fa := fun off hoff => by
    refine ⟨.op r i off, ?_, fun n hn => ?_⟩
    · show (if liveA σ (.op r i 0) = true then some (AV.op r i (0 + off)) else none) = _
      rw [if_pos (by simp only [getR] at hr; simp only [liveA, hr]), Nat.zero_add]
    · have : ldAt σ (.op r i off) n = rowL (getR σ r) i off n := rfl
      rw [this, hr]
      simp only [rowL, hi]
      rw [if_pos hn] }

/-- This reads as that list, elements of so many cells. -/
def Rd (z : Nat) (σ : St) (v : AV) (l : List (List AV)) : Prop :=
  (∀ e ∈ l, e.length = z) ∧ ((v = .nils ∧ l = []) ∨ (v = .ez ∧ l = []) ∨ v = .sl l ∨ ∃ r off row, v = .os r off l.length ∧ getR σ r = some (some row) ∧ row.esz = z ∧ l = (row.els.drop off).take l.length)
theorem Rd.len {z : Nat} {σ : St} {v : AV} {l : List (List AV)} (h : Rd z σ v l) : lenlX v = some (.int .i64 l.length) := by
  rcases h.2 with ⟨rfl, rfl⟩ | ⟨rfl, rfl⟩ | rfl | ⟨r, off, row, rfl, _⟩ <;> rfl
theorem Rd.at {z : Nat} {σ : St} {v : AV} {l : List (List AV)} (h : Rd z σ v l) {i : Nat} {c : List AV} (hi : l[i]? = some c) (k : IntKind) : ∃ p, ixsX z σ v (.int k i) = some p ∧ PtrTo σ p c := by
  have hlt := (List.getElem?_eq_some_iff.1 hi).1
  rcases h.2 with ⟨rfl, rfl⟩ | ⟨rfl, rfl⟩ | rfl | ⟨r, off, row, rfl, hr, hz, hl⟩
  · simp at hi
  · simp at hi
  · refine ⟨.rp c, ?_, ptr_rp σ c⟩
    simp only [ixsX]
    rw [if_pos (by omega), Int.toNat_natCast, hi]
    simp only []
    rw [if_pos (h.1 c (List.mem_of_getElem? hi))]
  · refine ⟨.op r (off + i) 0, ?_, ptr_op hr ?_⟩
    · simp only [getR] at hr
      simp only [ixsX, hr]
      rw [if_pos (by omega), if_pos hz, Int.toNat_natCast]
    · have hi2 : ((row.els.drop off).take l.length)[i]? = some c := by rw [← hl]; exact hi
      rw [List.getElem?_take, if_pos hlt, List.getElem?_drop] at hi2
      exact hi2
theorem Rd.pushV {z : Nat} {σ : St} {v : AV} {l : List (List AV)} (h : Rd z σ v l) (b : VB) : Rd z (σ.pushV b) v l := h
theorem Rd.setV {z : Nat} {σ : St} {v : AV} {l : List (List AV)} (h : Rd z σ v l) (b : Nat) (x : VB) : Rd z (σ.setV b x) v l := h
theorem getR_push {σ : St} {r : Nat} {x : Option Row} (h : getR σ r = some x) (y : Row) : getR (σ.pushR y) r = some x := by
  simp only [getR, St.pushR] at *
  rw [List.getElem?_append_left (List.getElem?_eq_some_iff.1 h).1]; exact h
theorem Rd.pushR {z : Nat} {σ : St} {v : AV} {l : List (List AV)} (h : Rd z σ v l) (y : Row) : Rd z (σ.pushR y) v l :=
  ⟨h.1, h.2.imp id (fun h => h.imp id (fun h => h.imp id (fun ⟨r, off, row, h1, h2, h3⟩ => ⟨r, off, row, h1, getR_push h2 y, h3⟩)))⟩
/-- The list as a value that is data. -/
def lsv (l : List (List AV)) : AV := if l = [] then .nils else .sl l
theorem lsv_nil : lsv [] = .nils := rfl
theorem lsv_data {l : List (List AV)} (h : DataL l.flatten) : Data (lsv l) := by
  unfold lsv; split
  · exact .nils
  · exact .sl l h
theorem rd_lsv {z : Nat} {l : List (List AV)} (h : ∀ e ∈ l, e.length = z) (σ : St) : Rd z σ (lsv l) l := by
  refine ⟨h, ?_⟩
  unfold lsv
  split
  · exact .inl ⟨rfl, by assumption⟩
  · exact .inr (.inr (.inl rfl))
theorem lsv_len (l : List (List AV)) : lenlX (lsv l) = some (.int .i64 l.length) := by unfold lsv; split <;> simp_all [lenlX]
theorem lsv_cons (a : List AV) (l : List (List AV)) : lsv (a :: l) = .sl (a :: l) := rfl
theorem lsv_cells (l : List (List AV)) : cellsA (lsv l) = [lsv l] := by unfold lsv; split <;> rfl
theorem lsv_one (l : List (List AV)) : (lsv l).one = true := by unfold lsv; split <;> rfl

/-- A list under append: nil, or a row. -/
def Lst (e z : Nat) (σ : St) (v : AV) (l : List (List AV)) (ρ : Option Nat) : Prop :=
  (∀ x ∈ l, x.length = z) ∧ ((v = .nils ∧ l = [] ∧ ρ = none) ∨ l ≠ [] ∧ ∃ r row, ρ = some r ∧ v = .os r 0 l.length ∧ getR σ r = some (some row) ∧ row.els = l ∧ row.esz = z ∧ row.ety = e ∧ row.fz ≤ l.length)
theorem Lst.nil (e z : Nat) (σ : St) : Lst e z σ .nils [] none := ⟨by simp, .inl ⟨rfl, rfl, rfl⟩⟩
theorem Lst.rd {e z : Nat} {σ : St} {v : AV} {l : List (List AV)} {ρ : Option Nat} (h : Lst e z σ v l ρ) : Rd z σ v l := by
  refine ⟨h.1, ?_⟩
  rcases h.2 with ⟨rfl, rfl, _⟩ | ⟨_, r, row, _, rfl, hr, rfl, hz, _, _⟩
  · exact .inl ⟨rfl, rfl⟩
  · exact .inr (.inr (.inr ⟨r, 0, row, rfl, hr, hz, by simp⟩))
theorem Lst.cells {e z : Nat} {σ : St} {v : AV} {l : List (List AV)} {ρ : Option Nat} (h : Lst e z σ v l ρ) : cellsA v = [v] ∧ v.one = true := by
  rcases h.2 with ⟨rfl, _⟩ | ⟨_, r, row, _, rfl, _⟩ <;> exact ⟨rfl, rfl⟩
theorem Lst.len {e z : Nat} {σ : St} {v : AV} {l : List (List AV)} {ρ : Option Nat} (h : Lst e z σ v l ρ) : lenlX v = some (.int .i64 l.length) := h.rd.len
theorem Lst.setV {e z : Nat} {σ : St} {v : AV} {l : List (List AV)} {ρ : Option Nat} (h : Lst e z σ v l ρ) (b : Nat) (x : VB) : Lst e z (σ.setV b x) v l ρ := h
theorem Lst.pushV {e z : Nat} {σ : St} {v : AV} {l : List (List AV)} {ρ : Option Nat} (h : Lst e z σ v l ρ) (x : VB) : Lst e z (σ.pushV x) v l ρ := h
theorem Lst.pushR {e z : Nat} {σ : St} {v : AV} {l : List (List AV)} {ρ : Option Nat} (h : Lst e z σ v l ρ) (y : Row) : Lst e z (σ.pushR y) v l ρ :=
  ⟨h.1, h.2.imp id (fun ⟨h0, r, row, h1, h2, h3, h4⟩ => ⟨h0, r, row, h1, h2, getR_push h3 y, h4⟩)⟩
theorem Lst.lt {e z : Nat} {σ : St} {v : AV} {l : List (List AV)} {r : Nat} (h : Lst e z σ v l (some r)) : r < nrs σ := by
  rcases h.2 with ⟨_, _, h⟩ | ⟨_, r', row, h1, _, hr, _⟩
  · cases h
  · cases h1; exact getR_lt hr
theorem Lst.but {e z : Nat} {σ σ' : St} {v : AV} {l : List (List AV)} {ρ ρ1 ρ2 : Option Nat} (h : Lst e z σ v l ρ) (hb : RowsBut σ σ' ρ1 ρ2) (hne : ρ = none ∨ ρ ≠ ρ1) : Lst e z σ' v l ρ := by
  refine ⟨h.1, ?_⟩
  rcases h.2 with h | ⟨h0, r, row, rfl, h2, hr, h3⟩
  · exact .inl h
  · refine .inr ⟨h0, r, row, rfl, h2, ?_, h3⟩
    rw [hb.row r (by rcases hne with h | h; · cases h
                     · exact h) (getR_lt hr)]
    exact hr
theorem RowsBut.grown {σ1 σ σ' : St} {ρ ρ' : Option Nat} (h : RowsBut σ σ' ρ ρ') (hg : Grown σ1 σ) (hk : ∀ k, ρ = some k → nrs σ1 ≤ k) : Grown σ1 σ' := by
  obtain ⟨g, rs, rfl⟩ := hg
  refine ⟨g, σ'.rows.drop (nrs σ1), ?_⟩
  have hv : σ'.vars = σ1.vars ++ g := h.vars
  have hr : σ'.rows.take (nrs σ1) = σ1.rows := by
    apply List.ext_getElem?
    intro i
    rw [List.getElem?_take]
    split
    · rename_i hi
      have h1 := h.row i (fun e => by have := hk i e.symm; omega) (by simp only [nrs, List.length_append] at hi ⊢; omega)
      simp only [getR] at h1
      rw [h1, List.getElem?_append_left hi]
    · rename_i hi
      rw [List.getElem?_eq_none (by simp only [nrs] at hi; omega)]
  cases σ' with
  | mk vs rs' =>
    simp only at hv hr ⊢
    rw [hv]
    congr 1
    have := List.take_append_drop (nrs σ1) rs'
    rw [hr] at this
    exact this.symm
theorem RowsBut.trans {σ σ1 σ2 : St} {ρ ρ1 ρ2 : Option Nat} (h : RowsBut σ σ1 ρ ρ1) (k : RowsBut σ1 σ2 ρ1 ρ2) : RowsBut σ σ2 ρ ρ2 := {
  vars := k.vars.trans h.vars
  grow := Nat.le_trans h.grow k.grow
  row := fun r hr hlt => by
    by_cases he : some r = ρ1
    · rcases h.new with e | ⟨r', e, hle⟩
      · exact absurd (he.trans e) hr
      · rw [e] at he; cases he; omega
    · rw [k.row r he (Nat.lt_of_lt_of_le hlt h.grow), h.row r hr hlt]
  new := by
    rcases k.new with e | ⟨r, e, hle⟩
    · rw [e]; exact h.new
    · exact .inr ⟨r, e, Nat.le_trans h.grow hle⟩ }
theorem RowsBut.getV {σ σ' : St} {ρ ρ' : Option Nat} (h : RowsBut σ σ' ρ ρ') (b : Nat) : Go.Ab.getV σ' b = Go.Ab.getV σ b := by simp only [Go.Ab.getV, h.vars]
theorem RowsBut.nvs {σ σ' : St} {ρ ρ' : Option Nat} (h : RowsBut σ σ' ρ ρ') : Go.Ab.nvs σ' = Go.Ab.nvs σ := by simp only [Go.Ab.nvs, h.vars]

/-- What is appended: some elements. -/
theorem app_lst {e z b : Nat} {σ : St} {v x : AV} {l ys : List (List AV)} {ρ : Option Nat} (h : Lst e z σ v l ρ) (hx : elsA σ x = some ys) (hz : ∀ y ∈ ys, y.length = z) (h1 : ys.all (fun c => c.all AV.one) = true) (hne : ys ≠ [])
    (hle : (l.length + ys.length) * b ≤ 140737488355328) : ∃ v' σ' ρ', appX e z b σ v x = some (v', σ') ∧ Lst e z σ' v' (l ++ ys) ρ' ∧ RowsBut σ σ' ρ ρ' := by
  have hall : (ys.all (fun c => c.length == z) && ys.all (fun c => c.all AV.one)) = true := by
    rw [h1, Bool.and_true, List.all_eq_true]; intro c hc; simpa using hz c hc
  have hall2 : ∀ x ∈ l ++ ys, x.length = z := fun x hx => by
    rcases List.mem_append.1 hx with hx | hx
    · exact h.1 x hx
    · exact hz x hx
  rcases h.2 with ⟨rfl, rfl, rfl⟩ | ⟨hl0, r, row, rfl, rfl, hr, rfl, hz', ht, hf⟩
  · refine ⟨.os (nrs σ) 0 ys.length, σ.pushR ⟨e, z, 0, ys⟩, some (nrs σ), ?_, ⟨hall2, .inr ⟨by simpa using hne, _, ⟨e, z, 0, ys⟩, rfl, by simp, ?_, by simp, rfl, rfl, Nat.zero_le _⟩⟩, ⟨rfl, ?_, ?_, .inr ⟨_, rfl, Nat.le_refl _⟩⟩⟩
    · simp only [appX, hx, hall, if_true, if_neg hne]
      rw [if_pos (by simpa using hle)]; rfl
    · simp [getR, nrs, St.pushR]
    · simp [nrs, St.pushR]
    · intro r _ hr
      simp only [getR, nrs, St.pushR] at *
      rw [List.getElem?_append_left hr]
  · refine ⟨.os (nrs σ) 0 (row.els.length + ys.length), (σ.setR r none).pushR ⟨e, z, row.fz, row.els ++ ys⟩, some (nrs σ), ?_, ⟨hall2, .inr ⟨by simp [hl0], _, ⟨e, z, row.fz, row.els ++ ys⟩, rfl, by simp, ?_, by simp, rfl, rfl, ?_⟩⟩, ⟨rfl, ?_, ?_, .inr ⟨_, rfl, Nat.le_refl _⟩⟩⟩
    · simp only [getR] at hr
      simp only [appX, hx, hall, if_true, hr, hz', ht, Nat.zero_add, Nat.sub_zero, List.drop_zero]
      rw [if_pos ⟨Nat.le_refl _, hf, trivial, trivial, hle⟩, List.take_length]
      rfl
    · simp [getR, nrs, St.pushR, St.setR]
    · simp; omega
    · simp [nrs, St.pushR, St.setR]
    · intro r' hne hr'
      have hne' : r' ≠ r := fun e => hne (by rw [e])
      simp only [getR, nrs, St.pushR, St.setR] at *
      rw [List.getElem?_append_left (by simpa using hr'), List.getElem?_set_ne (Ne.symm hne')]
/-- append(l, c), c one element just made. -/
theorem app_one {e z b : Nat} {σ : St} {v : AV} {l : List (List AV)} {ρ : Option Nat} {c : List AV} {K : AV → St → Prop} (h : Lst e z σ v l ρ) (hz : c.length = z) (h1 : c.all AV.one = true)
    (hle : (l.length + 1) * b ≤ 140737488355328) (hk : ∀ v' σ' ρ', Lst e z σ' v' (l ++ [c]) ρ' → RowsBut σ σ' ρ ρ' → K v' σ') :
    pairK (appX e z b (σ.pushR ⟨e, z, 0, [c]⟩) v (.os (nrs σ) 0 1)) K := by
  have hr : getR (σ.pushR ⟨e, z, 0, [c]⟩) (nrs σ) = some (some ⟨e, z, 0, [c]⟩) := by simp [getR, nrs, St.pushR]
  have hx : elsA (σ.pushR ⟨e, z, 0, [c]⟩) (.os (nrs σ) 0 1) = some [c] := by
    simp only [getR] at hr
    simp [elsA, hr]
  obtain ⟨v', σ', ρ', h2, h3, h4⟩ := app_lst (h.pushR ⟨e, z, 0, [c]⟩) hx (by simpa using hz) (by simpa using h1) (by simp) (by simpa using hle)
  rw [h2]
  refine hk v' σ' ρ' h3 ⟨h4.vars, ?_, ?_, ?_⟩
  · have := h4.grow; simp only [nrs, St.pushR, List.length_append] at this ⊢; simp at this; omega
  · intro r hne hlt
    rw [h4.row r hne (by simp only [nrs, St.pushR, List.length_append] at hlt ⊢; omega)]
    simp only [getR, nrs, St.pushR] at *
    rw [List.getElem?_append_left hlt]
  · rcases h4.new with e | ⟨r, e, hle⟩
    · exact .inl e
    · refine .inr ⟨r, e, ?_⟩
      simp only [nrs, St.pushR, List.length_append] at hle ⊢; omega
/-- append(l, x...), x data. -/
theorem app_data {e z b : Nat} {σ : St} {v : AV} {l ys : List (List AV)} {ρ : Option Nat} {K : AV → St → Prop} (h : Lst e z σ v l ρ) (hz : ∀ y ∈ ys, y.length = z) (h1 : ys.all (fun c => c.all AV.one) = true)
    (hle : (l.length + ys.length) * b ≤ 140737488355328) (hk : ∀ v' σ' ρ', Lst e z σ' v' (l ++ ys) ρ' → RowsBut σ σ' ρ ρ' → K v' σ') :
    pairK (appX e z b σ v (lsv ys)) K := by
  have hx : elsA σ (lsv ys) = some ys := by
    unfold lsv; split
    · rename_i h; rw [h]; rfl
    · rfl
  by_cases hne : ys = []
  · subst hne
    have hnr : RowsBut σ σ ρ ρ := ⟨rfl, Nat.le_refl _, fun _ _ _ => rfl, .inl rfl⟩
    rcases h.2 with ⟨rfl, rfl, rfl⟩ | ⟨hl0, r, row, rfl, rfl, hr, rfl, hz', ht, hf⟩
    · simp only [appX, hx]
      exact hk _ _ _ (by simpa using h) hnr
    · have hr' := hr
      simp only [getR] at hr'
      simp only [appX, hx, List.all_nil, Bool.and_self, if_true, hr', hz', ht, Nat.zero_add, Nat.sub_zero, List.drop_zero, List.length_nil, Nat.add_zero]
      rw [if_pos ⟨Nat.le_refl _, hf, trivial, trivial, by simpa using hle⟩, List.take_length]
      refine hk _ _ (some (nrs σ)) ⟨by simpa using h.1, .inr ⟨by simpa using hl0, _, ⟨e, z, row.fz, row.els ++ []⟩, rfl, by simp [nrs], ?_, by simp, rfl, rfl, by simpa using hf⟩⟩ ⟨rfl, ?_, ?_, .inr ⟨_, rfl, Nat.le_refl _⟩⟩
      · simp [getR, nrs, St.pushR, St.setR]
      · simp [nrs, St.pushR, St.setR]
      · intro r' hne hr'
        have hne' : r' ≠ r := fun e => hne (by rw [e])
        simp only [getR, nrs, St.pushR, St.setR] at *
        rw [List.getElem?_append_left (by simpa using hr'), List.getElem?_set_ne (Ne.symm hne')]
  · obtain ⟨v', σ', ρ', h2, h3, h4⟩ := app_lst h hx hz h1 hne hle
    rw [h2]
    exact hk v' σ' ρ' h3 h4
theorem Grown.setOld {σ τ : St} {b : Nat} {y : VB} (h : Grown (σ.setV b y) τ) (hb : b < nvs σ) (x : VB) : Grown (σ.setV b x) (τ.setV b x) := by
  obtain ⟨g, k, rfl⟩ := h
  exact ⟨g, k, by simp only [St.setV]; rw [List.set_append_left _ _ (by simpa [nvs] using hb), List.set_set]⟩
theorem Grown.setOld0 {σ τ : St} {b : Nat} (h : Grown σ τ) (hb : b < nvs σ) (x : VB) : Grown (σ.setV b x) (τ.setV b x) := by
  obtain ⟨g, k, rfl⟩ := h
  exact ⟨g, k, by simp only [St.setV]; rw [List.set_append_left _ _ (by simpa [nvs] using hb)]⟩
theorem Grown.nvs {σ τ : St} (h : Grown σ τ) : Go.Ab.nvs σ ≤ Go.Ab.nvs τ := by obtain ⟨g, k, rfl⟩ := h; simp [Go.Ab.nvs]
theorem Grown.nrs {σ τ : St} (h : Grown σ τ) : Go.Ab.nrs σ ≤ Go.Ab.nrs τ := by obtain ⟨g, k, rfl⟩ := h; simp [Go.Ab.nrs]
/-- How many variables and rows there are. -/
theorem nvsR : (∀ (σ : St) (v : VB), nvs (σ.pushV v) = nvs σ + 1) ∧ (∀ (σ : St) (b : Nat) (v : VB), nvs (σ.setV b v) = nvs σ) ∧ (∀ (σ : St) (r : Row), nvs (σ.pushR r) = nvs σ) ∧ (∀ (σ : St) (r : Nat) (x : Option Row), nvs (σ.setR r x) = nvs σ) ∧
    (∀ (σ : St) (v : VB), nrs (σ.pushV v) = nrs σ) ∧ (∀ (σ : St) (b : Nat) (v : VB), nrs (σ.setV b v) = nrs σ) ∧ (∀ (σ : St) (r : Row), nrs (σ.pushR r) = nrs σ + 1) ∧ (∀ (σ : St) (r : Nat) (x : Option Row), nrs (σ.setR r x) = nrs σ) := by
  refine ⟨?_, ?_, ?_, ?_, ?_, ?_, ?_, ?_⟩ <;> intros <;> simp [nvs, nrs, St.pushV, St.pushR, St.setV, St.setR]
def pickP (v : Option AV) (a b : XV) (t : Env) : Option AV := v.bind fun v => match v with
    | .bool true => xv t a
    | .bool false => xv t b
    | _ => none
/-- These are all elements, in order, of so many cells each. -/
def fullN (z len : Nat) : Nat → List (Nat × AV) → Bool
  | i, [] => i == len
  | i, (j, x) :: r => j == i && ((cellsA x).length == z && fullN z len (i + 1) r)
theorem fillE_full {z len : Nat} : ∀ (ps : List (Nat × AV)) (i : Nat) (els : List (List AV)), fullN z len i ps = true → els.length = len → fillE z els ps = some (els.take i ++ ps.map fun p => cellsA p.2)
  | [], i, els, h, hl => by
    simp only [fullN, beq_iff_eq] at h
    subst h
    simp only [fillE, List.map_nil, List.append_nil]
    rw [List.take_of_length_le (by omega)]
  | (j, x) :: r, i, els, h, hl => by
    simp only [fullN, Bool.and_eq_true, beq_iff_eq] at h
    obtain ⟨rfl, hx, hr⟩ := h
    have hlt : ∀ (r : List (Nat × AV)) (k : Nat), fullN z len k r = true → k ≤ len := by
      intro r
      induction r with
      | nil => intro k h; simp [fullN] at h; omega
      | cons p r ih => intro k h; obtain ⟨j', x'⟩ := p; simp only [fullN, Bool.and_eq_true] at h; have := ih _ h.2.2; omega
    have hi := hlt r _ hr
    simp only [fillE]
    rw [if_pos ⟨by omega, hx⟩, fillE_full r (j + 1) _ hr (by simpa using hl)]
    congr 1
    rw [List.take_add_one, List.take_set_of_le (Nat.le_refl _), List.getElem?_set_self (by omega)]
    simp
def mksF (ok : Bool) (e z len : Nat) (zero : List AV) (σ : St) (ps : List (Nat × AV)) : Option (AV × St) :=
  if ok then some (.os (nrs σ) 0 len, σ.pushR ⟨e, z, 0, ps.map fun p => cellsA p.2⟩) else mksX e z zero len σ ps
/-- A slice that is made of its elements; a choice in a region that draws. -/
theorem walkK : (∀ (t : Env) (σ : St) (c a b : XV), xP t σ (.pick c a b) = pickP (xv t c) a b t) ∧ (∀ (t : Env) (a b : XV), pickP (some (.bool true)) a b t = xv t a) ∧ (∀ (t : Env) (a b : XV), pickP (some (.bool false)) a b t = xv t b) ∧
    (∀ (e : TypeId) (z : Nat) (zero : List AV) (len : Nat) (σ : St) (ps : List (Nat × AV)), mksX e z zero len σ ps = mksF (fullN z len 0 ps) e z len zero σ ps) ∧
    (∀ (e z len : Nat) (zero : List AV) (σ : St) (ps : List (Nat × AV)), mksF true e z len zero σ ps = some (.os (nrs σ) 0 len, σ.pushR ⟨e, z, 0, ps.map fun p => cellsA p.2⟩)) ∧
    (∀ (z len i : Nat), fullN z len i [] = (i == len)) ∧ (∀ (z len i j : Nat) (x : AV) (r : List (Nat × AV)), fullN z len i ((j, x) :: r) = (j == i && ((cellsA x).length == z && fullN z len (i + 1) r))) ∧
    (∀ (f : Nat × AV → List AV), ([] : List (Nat × AV)).map f = []) ∧ (∀ (f : Nat × AV → List AV) (p : Nat × AV) (r : List (Nat × AV)), (p :: r).map f = f p :: r.map f) ∧ (∀ (n : Nat), (n == n) = true) := by
  refine ⟨?_, ?_, ?_, ?_, ?_, ?_, ?_, ?_, ?_, ?_⟩ <;> intros <;> first | rfl | (simp; done) | skip
  rename_i e z zero len σ ps
  unfold mksF
  split
  · rename_i h
    simp only [mksX]
    rw [fillE_full ps 0 _ h (by simp)]
    simp [nrs]
  · rfl
/-- At the end: the list is read alone. -/
theorem close_lst {e z : Nat} {σ σ1 σ' : St} {v : AV} {l : List (List AV)} {ρ : Option Nat} (h : Lst e z σ' v l ρ) (hg : Grown σ1 σ') (hk : ∀ k, ρ = some k → nrs σ ≤ k) (f : AV → AV)
    (hf : ∀ k els, frz k els (f v) = f (frz k els v)) : Close σ σ1 (f (lsv l)) (f v) σ' := by
  refine ⟨hg, ?_⟩
  rcases h.2 with ⟨rfl, rfl, _⟩ | ⟨h0, r, row, rfl, rfl, hr, he, _⟩
  · exact .inl rfl
  · refine .inr ⟨r, row, hk r rfl, hr, ?_⟩
    rw [hf, he]
    rw [frz_all rfl]
    unfold lsv
    rw [if_neg h0]
theorem frz_lst {e z : Nat} {σ' : St} {v : AV} {l : List (List AV)} {ρ : Option Nat} (h : Lst e z σ' v l ρ) (f : AV → AV) (hf : ∀ k els, frz k els (f v) = f (frz k els v)) : Frz σ' (f v) (f (lsv l)) := by
  rcases h.2 with ⟨rfl, rfl, _⟩ | ⟨h0, r, row, rfl, rfl, hr, he, _⟩
  · exact .inl rfl
  · refine .inr ⟨r, row, hr, ?_⟩
    rw [hf, he, frz_all rfl]
    unfold lsv
    rw [if_neg h0]
end Go.Ab
