/-
  The abstract machine of this work, part 18: bytes under append (a Builder's).
-/
import Derived.Test.YtpejbkckppnamaaDoorAbShelf
import Derived.Lib.UnsafeStr
set_option linter.all false
set_option linter.unusedVariables false
set_option linter.unusedSimpArgs false
namespace Go.Ab
open Go Go.RowKit

def bytesE (l : List UInt8) : List (List AV) := l.map fun b => [.int .u8 b.toNat]
theorem bytesE_length (l : List UInt8) : (bytesE l).length = l.length := by simp [bytesE]
theorem bytesE_append (l k : List UInt8) : bytesE (l ++ k) = bytesE l ++ bytesE k := by simp [bytesE]
theorem bytesE_flatten : ∀ (l : List UInt8), (bytesE l).flatten = l.map fun b => AV.int .u8 b.toNat
  | [] => rfl
  | a :: l => by
    show [AV.int .u8 a.toNat] ++ (bytesE l).flatten = _
    rw [bytesE_flatten l]; rfl
theorem bytesE_len1 (l : List UInt8) : ((bytesE l).all fun c => c.length == 1) = true := by simp [bytesE]
theorem bytesE_one (l : List UInt8) : ((bytesE l).all fun c => c.all AV.one) = true := by simp [bytesE, AV.one]
/-- This value is these bytes, under append; in this row, if in one. -/
def BufIs (e : TypeId) (σ : St) (buf : AV) (l : List UInt8) (ρ : Option Nat) : Prop :=
  (buf = .nils ∧ l = [] ∧ ρ = none) ∨ l ≠ [] ∧ ∃ r row, ρ = some r ∧ buf = .os r 0 l.length ∧ getR σ r = some (some row) ∧ row.els = bytesE l ∧ row.esz = 1 ∧ row.ety = e ∧ row.fz ≤ l.length
/-- Rows other than this one are as they were. -/
structure RowsBut (σ σ' : St) (ρ ρ' : Option Nat) : Prop where
  vars : σ'.vars = σ.vars
  grow : nrs σ ≤ nrs σ'
  row : ∀ r, some r ≠ ρ → r < nrs σ → getR σ' r = getR σ r
  new : ρ' = ρ ∨ ∃ r, ρ' = some r ∧ nrs σ ≤ r
theorem app_buf {e : TypeId} {σ : St} {buf : AV} {l s : List UInt8} {ρ : Option Nat} (h : BufIs e σ buf l ρ) (hle : l.length + s.length ≤ 140737488355328) :
    ∃ buf' σ' ρ', appX e 1 1 σ buf (.str s) = some (buf', σ') ∧ BufIs e σ' buf' (l ++ s) ρ' ∧ RowsBut σ σ' ρ ρ' ∧ (cellsA buf' = [buf'] ∧ buf'.one = true) := by
  have hx : elsA σ (.str s) = some (bytesE s) := rfl
  have hall : ((bytesE s).all (fun c => c.length == 1) && (bytesE s).all (fun c => c.all AV.one)) = true := by rw [bytesE_len1, bytesE_one]; rfl
  rcases h with ⟨rfl, rfl, rfl⟩ | ⟨hl0, r, row, rfl, rfl, hr, he, hz, ht, hf⟩
  · by_cases hs : s = []
    · subst hs
      exact ⟨.nils, σ, none, by simp [appX, hx, bytesE], .inl ⟨rfl, rfl, rfl⟩, ⟨rfl, Nat.le_refl _, fun _ _ _ => rfl, .inl rfl⟩, rfl, rfl⟩
    · have hne : bytesE s ≠ [] := by simpa [bytesE] using hs
      refine ⟨.os (nrs σ) 0 s.length, σ.pushR ⟨e, 1, 0, bytesE s⟩, some (nrs σ), ?_, .inr ⟨by simpa using hs, _, ⟨e, 1, 0, bytesE s⟩, rfl, by simp, ?_, by simp, rfl, rfl, Nat.zero_le _⟩, ⟨rfl, ?_, ?_, .inr ⟨_, rfl, Nat.le_refl _⟩⟩, rfl, rfl⟩
      · simp only [appX, hx, hall, if_true, if_neg hne, bytesE_length]
        rw [if_pos (by simp at hle; omega)]; rfl
      · simp [getR, nrs, St.pushR]
      · simp [nrs, St.pushR]
      · intro r _ hr
        simp only [getR, nrs, St.pushR] at *
        rw [List.getElem?_append_left hr]
  · have hlt : r < nrs σ := getR_lt hr
    refine ⟨.os (nrs σ) 0 (l.length + s.length), (σ.setR r none).pushR ⟨e, 1, row.fz, bytesE l ++ bytesE s⟩, some (nrs σ), ?_, .inr ⟨by simp [hl0], _, ⟨e, 1, row.fz, bytesE l ++ bytesE s⟩, rfl, by simp, ?_, by simp [bytesE_append], rfl, rfl, ?_⟩, ⟨rfl, ?_, ?_, .inr ⟨_, rfl, Nat.le_refl _⟩⟩, rfl, rfl⟩
    · simp only [getR] at hr
      simp only [appX, hx, hall, if_true, hr, hz, ht, he, bytesE_length, Nat.zero_add, Nat.sub_zero, List.drop_zero, Nat.mul_one]
      rw [if_pos ⟨Nat.le_refl _, hf, trivial, trivial, hle⟩]
      rw [List.take_of_length_le (by rw [bytesE_length]; exact Nat.le_refl _)]
      rfl
    · simp [getR, nrs, St.pushR, St.setR]
    · simp; omega
    · simp [nrs, St.pushR, St.setR]
    · intro r' hne hr'
      have hne' : r' ≠ r := fun e => hne (by rw [e])
      simp only [getR, nrs, St.pushR, St.setR] at *
      rw [List.getElem?_append_left (by simpa using hr'), List.getElem?_set_ne (Ne.symm hne')]
/-- A Builder: its own address or none, and its bytes. -/
def Bld (T e : TypeId) (σ : St) (b : Nat) (l : List UInt8) (ρ : Option Nat) : Prop :=
  ∃ a buf, getV σ b = some (.cells T [a, buf]) ∧ (a = .nilp ∨ a = .vp b 0) ∧ BufIs e σ buf l ρ
/-- But for this variable and this row all is as it was. -/
structure But (σ σ' : St) (b : Nat) (ρ ρ' : Option Nat) : Prop where
  nv : nvs σ' = nvs σ
  var : ∀ k, k ≠ b → getV σ' k = getV σ k
  grow : nrs σ ≤ nrs σ'
  row : ∀ r, some r ≠ ρ → r < nrs σ → getR σ' r = getR σ r
  new : ρ' = ρ ∨ ∃ r, ρ' = some r ∧ nrs σ ≤ r
theorem BufIs.setV {e : TypeId} {σ : St} {buf : AV} {l : List UInt8} {ρ : Option Nat} (h : BufIs e σ buf l ρ) (b : Nat) (v : VB) : BufIs e (σ.setV b v) buf l ρ := h
theorem RowsBut.but {σ σ' : St} {ρ ρ' : Option Nat} (h : RowsBut σ σ' ρ ρ') (b : Nat) (v : VB) : But σ (σ'.setV b v) b ρ ρ' := {
  nv := by simp [nvs, St.setV, h.vars]
  var := fun k hk => by simp only [getV, St.setV]; rw [List.getElem?_set_ne (Ne.symm hk), h.vars]
  grow := h.grow
  row := h.row
  new := h.new }
/-! ### A Builder's text -/
/-- A block that nobody knows may turn. -/
theorem HRel.at_free {C : Cz} {σ : St} {w w' : World} (h : HRel C σ w) {g : Nat} (hf : C.free σ g) (hk : ∀ k, k ≠ g → w'.heap[k]? = w.heap[k]?) (hs : w.heap.size ≤ w'.heap.size) (hb : Below C.base C.w0 w') : HRel C σ w' := by
  refine { h with mem := ?_, var := ?_, row := ?_, hb := Nat.le_trans h.hb hs, below := hb }
  · intro b o v hm
    exact (cell_of_heap (hk b (fun e => by rw [e, hf.mem] at hm; cases hm))).trans (h.mem b o v hm)
  · intro b vb hv
    have hlt : b < C.nv := h.nv ▸ (List.getElem?_eq_some_iff.1 hv).1
    exact (h.var b vb hv).mono (Cz.le.refl C) (hk _ (hf.var b hlt))
  · intro r row hr
    obtain ⟨hl, vs, fr, hh⟩ := h.row r row hr
    exact ⟨hl, vs, fr, hh.mono (Cz.le.refl C) (hk _ (hf.row r ⟨_, hr⟩))⟩
section
variable {P : Program}
theorem lies_bytes {e : TypeId} (hc : P.cellsOf e = 1) (count o n : Nat) (hn : o + n ≤ count) : liesAt P P.depth e count o e n = true := by
  have hd : P.depth = (2 * (P.types.size + Made.depth) + 1) + 1 := rfl
  rw [hd]
  simp only [liesAt, Bool.or_eq_true]
  left
  rw [hd]
  simp [rowAt, hc, hn, sameLayout, Nat.mod_one]
theorem run_unsafeString_at (w : World) (pt it ty e : TypeId) (hp : P.underlying pt = some (.pointer e)) (hc : P.cellsOf e = 1) (g o cells : Nat) (hsh : w.shape? g = some (e, cells)) (l : List UInt8) (h0 : l ≠ []) (hn : o + l.length ≤ cells) (h63 : l.length ≤ 9223372036854775807)
    (hcell : ∀ j x, l[j]? = some x → w.cell? ((⟨g, o, none⟩ : Addr).add j) = some (.int .u8 x.toNat)) :
    (Builtin.unsafeString_ #[pt, it] ty #[.pointer (some ⟨g, o, none⟩), .int .i64 l.length]).run P w = .ok (.string ⟨l.toArray⟩) (w.freeze ⟨g, o, none⟩ l.length) := by
  have hl : l.length ≠ 0 := by simpa using h0
  have hlb := Lib.run_loadBytes (P := P) w l ⟨g, o, none⟩ .empty hcell
  have hlies := lies_bytes (P := P) hc (cells / P.cellsOf e) o l.length (by rw [hc]; simpa using hn)
  have h63' : ¬ (9223372036854775807 : Int) < (l.length : Int) := by omega
  have hdef : Builtin.unsafeString_ #[pt, it] ty #[.pointer (some ⟨g, o, none⟩), .int .i64 l.length] =
      (do
        let n ← asInt (.int .i64 l.length)
        if n < 0 then runtimePanic (.error "unsafe.String: len out of range")
        if n > IntKind.i64.max then unsupported (.unsafePointer "String: a length above the largest int")
        if n = 0 then pure (.string .empty)
        else if ← variablesAt ⟨g, o, none⟩ (← elemOf pt) n.toNat then do
          let s ← loadBytes ⟨g, o, none⟩ .empty n.toNat
          freeze ⟨g, o, none⟩ n.toNat
          pure (.string s)
        else unsupported (.unsafePointer "String: not so many bytes at ptr")) := rfl
  rw [hdef]
  have hmax : IntKind.i64.max = 9223372036854775807 := rfl
  have hneg : ¬ (l.length : Int) < 0 := by omega
  simp [asInt, asIntOf, hmax, h63', hneg, hl, variablesAt, hsh, elemOf, run_underlying hp, hlies, hlb]
end
end Go.Ab
