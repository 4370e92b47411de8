/-
  The abstract machine of this work, part 1: abstract values, what they stand for in a world, and what a world's change does to that.
-/
import Derived.Deep.MidRow
import Derived.Below
import Derived.Tactics
import Derived.RowKit
import Derived.Laws.Entries
import Derived.ChangeKeysEq
import Derived.Lib.Strings
import Derived.Laws.Slices
import Derived.Deep.AppendSrc
import Derived.Deep.Upon
import Derived.Laws.MakeOwn
import Derived.Lib.ConvBytes
import Derived.Lib.UnsafeStr
import Derived.Laws.BytesString
import Derived.Laws.IdiomCopy
set_option linter.all false
set_option linter.unusedVariables false
set_option linter.unusedSimpArgs false
namespace Go.Ab
open Go Go.RowKit

/-- Abstract values: a slice that nobody writes bears its cells (`sl`), one that is being made is a row of the abstract heap (`os`). -/
inductive AV where
  | int (k : IntKind) (n : Int)
  | bool (b : Bool)
  | str (s : List UInt8)
  | nilp
  | vp (b off : Nat)
  | rp (cs : List AV)
  | nils
  | ez
  | sl (els : List (List AV))
  | os (r off n : Nat)
  | op (r i k : Nat)
  | fn (f : Fn) (first cap : List AV)
  | niln
  | ifc (t : TypeId) (v : AV)
  | nili
  | agg (cs : List AV)
  | tup (cs : List AV)
  deriving Inhabited

def AV.one : AV → Bool
  | .agg _ | .tup _ => false
  | _ => true

/-- Where a row lies. -/
structure RowC where
  blk : Nat
  base : Nat
  esz : Nat
  size : Nat
  live : Bool

/-- What abstract numbers stand for: memory that stays, the variables' blocks, the rows. -/
structure Cz where
  M : Nat → Nat → Option Value
  nv : Nat
  ρ : Nat → Nat
  nr : Nat
  row : Nat → RowC
  base : Nat
  w0 : World

structure Cz.le (C D : Cz) : Prop where
  mem : ∀ b o v, C.M b o = some v → D.M b o = some v
  nv : C.nv ≤ D.nv
  rho : ∀ b, b < C.nv → D.ρ b = C.ρ b
  nr : C.nr ≤ D.nr
  row : ∀ r, r < C.nr → (D.row r).live = true → D.row r = C.row r
  base : D.base = C.base
  w0 : D.w0 = C.w0
  old : ∀ b o v, b < C.base → D.M b o = some v → C.M b o = some v

theorem Cz.le.refl (C : Cz) : C.le C := ⟨fun _ _ _ h => h, Nat.le_refl _, fun _ _ => rfl, Nat.le_refl _, fun _ _ _ => rfl, rfl, rfl, fun _ _ _ _ h => h⟩
theorem Cz.le.trans {C D E : Cz} (h : C.le D) (k : D.le E) : C.le E :=
  ⟨fun b o v x => k.mem b o v (h.mem b o v x), Nat.le_trans h.nv k.nv, fun b x => (k.rho b (Nat.lt_of_lt_of_le x h.nv)).trans (h.rho b x), Nat.le_trans h.nr k.nr,
   fun r x l => by
    have e := k.row r (Nat.lt_of_lt_of_le x h.nr) l
    rw [e]; exact h.row r x (by rw [← e]; exact l),
   k.base.trans h.base, k.w0.trans h.w0, fun b o v hb x => h.old b o v hb (k.old b o v (h.base.symm ▸ hb) x)⟩

mutual
inductive Rep (C : Cz) : AV → Value → Prop
  | int (k : IntKind) (n : Int) : Rep C (.int k n) (.int k n)
  | bool (b : Bool) : Rep C (.bool b) (.bool b)
  | str (s : List UInt8) : Rep C (.str s) (.string ⟨s.toArray⟩)
  | nilp : Rep C .nilp (.pointer none)
  | vp (b off : Nat) (h : b < C.nv) : Rep C (.vp b off) (.pointer (some ⟨C.ρ b, off, none⟩))
  | rp (cs : List AV) (vs : List Value) (b o : Nat) (h : RepL C cs vs) (hm : ∀ j v, vs[j]? = some v → C.M b (o + j) = some v) : Rep C (.rp cs) (.pointer (some ⟨b, o, none⟩))
  | nils : Rep C .nils (.slice none 0 0)
  | ez (a : Option Addr) : Rep C .ez (.slice a 0 0)
  | sl0 (a : Addr) (cap : Nat) : Rep C (.sl []) (.slice (some a) 0 cap)
  | sl (els : List (List AV)) (z : Nat) (vs : List Value) (b o cap : Nat) (hz : ∀ e ∈ els, e.length = z) (hc : els.length ≤ cap) (h : RepL C els.flatten vs) (hm : ∀ j v, vs[j]? = some v → C.M b (o + j) = some v) :
      Rep C (.sl els) (.slice (some ⟨b, o, none⟩) els.length cap)
  | os (r off n : Nat) (a : Option Addr) (cap : Nat) (h : r < C.nr)
      (hv : (C.row r).live = true → a = some ⟨(C.row r).blk, (C.row r).base + off * (C.row r).esz, none⟩ ∧ (C.row r).base + off * (C.row r).esz + cap * (C.row r).esz = (C.row r).size ∧ n ≤ cap) (hs : a ≠ none) : Rep C (.os r off n) (.slice a n cap)
  | op (r i k : Nat) (a : Option Addr) (h : r < C.nr) (hv : (C.row r).live = true → a = some ⟨(C.row r).blk, (C.row r).base + i * (C.row r).esz + k, none⟩) : Rep C (.op r i k) (.pointer a)
  | fn (f : Fn) (first cap : List AV) (vf vc : List Value) (h1 : RepL C first vf) (h2 : RepL C cap vc) : Rep C (.fn f first cap) (.func f vf.toArray vc.toArray)
  | niln : Rep C .niln .nilFunc
  | ifc (t : TypeId) (c : AV) (v : Value) (h : Rep C c v) : Rep C (.ifc t c) (.iface t v)
  | nili : Rep C .nili .nilIface
  | agg (cs : List AV) (vs : List Value) (h : RepL C cs vs) : Rep C (.agg cs) (.agg vs.toArray)
  | tup (cs : List AV) (vs : List Value) (h : RepL C cs vs) : Rep C (.tup cs) (.tuple vs.toArray)
inductive RepL (C : Cz) : List AV → List Value → Prop
  | nil : RepL C [] []
  | cons (c : AV) (v : Value) (cs : List AV) (vs : List Value) (h : Rep C c v) (t : RepL C cs vs) : RepL C (c :: cs) (v :: vs)
end

mutual
theorem Rep.mono {C D : Cz} (l : C.le D) : ∀ {c : AV} {v : Value}, Rep C c v → Rep D c v
  | _, _, .int k n => .int k n
  | _, _, .bool b => .bool b
  | _, _, .str s => .str s
  | _, _, .nilp => .nilp
  | _, _, .vp b off h => by
    have := l.rho b h
    rw [← this]; exact .vp b off (Nat.lt_of_lt_of_le h l.nv)
  | _, _, .rp cs vs b o h hm => .rp cs vs b o (RepL.mono l h) (fun j v e => l.mem _ _ _ (hm j v e))
  | _, _, .nils => .nils
  | _, _, .ez a => .ez a
  | _, _, .sl0 a cap => .sl0 a cap
  | _, _, .sl els z vs b o cap hz hc h hm => .sl els z vs b o cap hz hc (RepL.mono l h) (fun j v e => l.mem _ _ _ (hm j v e))
  | _, _, .os r off n a cap h hv hs => .os r off n a cap (Nat.lt_of_lt_of_le h l.nr) (fun e => by
      have e2 := l.row r h e
      rw [e2]; exact hv (by rw [← e2]; exact e)) hs
  | _, _, .op r i k a h hv => .op r i k a (Nat.lt_of_lt_of_le h l.nr) (fun e => by
      have e2 := l.row r h e
      rw [e2]; exact hv (by rw [← e2]; exact e))
  | _, _, .fn f a b va vb h1 h2 => .fn f a b va vb (RepL.mono l h1) (RepL.mono l h2)
  | _, _, .niln => .niln
  | _, _, .ifc t c v h => .ifc t c v (Rep.mono l h)
  | _, _, .nili => .nili
  | _, _, .agg cs vs h => .agg cs vs (RepL.mono l h)
  | _, _, .tup cs vs h => .tup cs vs (RepL.mono l h)
theorem RepL.mono {C D : Cz} (l : C.le D) : ∀ {cs : List AV} {vs : List Value}, RepL C cs vs → RepL D cs vs
  | _, _, .nil => .nil
  | _, _, .cons c v cs vs h t => .cons c v cs vs (Rep.mono l h) (RepL.mono l t)
end

theorem Rep.one {C : Cz} {c : AV} {v : Value} (h : Rep C c v) : c.one = v.oneCell' := by cases h <;> rfl

section lists
variable {C : Cz}
theorem RepL.length {cs : List AV} {vs : List Value} (h : RepL C cs vs) : vs.length = cs.length := by
  induction cs generalizing vs with
  | nil => cases h; rfl
  | cons c cs ih => cases h; simp [ih ‹_›]
theorem RepL.get {cs : List AV} {vs : List Value} (h : RepL C cs vs) (j : Nat) (c : AV) (hj : cs[j]? = some c) : ∃ v, vs[j]? = some v ∧ Rep C c v := by
  induction cs generalizing vs j with
  | nil => simp at hj
  | cons d cs ih =>
    cases h with
    | cons _ v _ vs h t =>
      cases j with
      | zero => simp at hj; subst hj; exact ⟨v, by simp, h⟩
      | succ j => simp at hj; simpa using ih t j hj
theorem RepL.append {cs ds : List AV} {vs us : List Value} (h : RepL C cs vs) (k : RepL C ds us) : RepL C (cs ++ ds) (vs ++ us) := by
  induction cs generalizing vs with
  | nil => cases h; simpa using k
  | cons c cs ih => cases h with | cons _ v _ vs h t => exact .cons _ _ _ _ h (ih t)
theorem RepL.take {cs : List AV} {vs : List Value} (h : RepL C cs vs) (n : Nat) : RepL C (cs.take n) (vs.take n) := by
  induction n generalizing cs vs with
  | zero => simp; exact .nil
  | succ n ih => cases h with
    | nil => simp; exact .nil
    | cons c v cs vs h t => simp; exact .cons _ _ _ _ h (ih t)
theorem RepL.drop {cs : List AV} {vs : List Value} (h : RepL C cs vs) (n : Nat) : RepL C (cs.drop n) (vs.drop n) := by
  induction n generalizing cs vs with
  | zero => simpa using h
  | succ n ih => cases h with
    | nil => simp; exact .nil
    | cons c v cs vs h t => simpa using ih t
theorem RepL.set {cs : List AV} {vs : List Value} (h : RepL C cs vs) (n : Nat) {c : AV} {v : Value} (hc : Rep C c v) : RepL C (cs.set n c) (vs.set n v) := by
  induction n generalizing cs vs with
  | zero => cases h with
    | nil => simp; exact .nil
    | cons d u cs vs h t => simp; exact .cons _ _ _ _ hc t
  | succ n ih => cases h with
    | nil => simp; exact .nil
    | cons d u cs vs h t => simp; exact .cons _ _ _ _ h (ih t)
theorem RepL.one {cs : List AV} {vs : List Value} (h : RepL C cs vs) (h1 : cs.all AV.one = true) : ∀ v ∈ vs, v.oneCell' = true := by
  induction cs generalizing vs with
  | nil => cases h; simp
  | cons c cs ih =>
    cases h with
    | cons _ v _ vs h t =>
      simp at h1
      intro u hu
      rcases List.mem_cons.1 hu with rfl | hu
      · rw [← h.one]; exact h1.1
      · exact ih t (by simpa using h1.2) u hu
theorem RepL.replicate {c : AV} {v : Value} (h : Rep C c v) (n : Nat) : RepL C (List.replicate n c) (List.replicate n v) := by
  induction n with
  | zero => exact .nil
  | succ n ih => exact .cons _ _ _ _ h ih
theorem RepL.split {cs ds : List AV} {vs : List Value} (h : RepL C (cs ++ ds) vs) : ∃ a b, vs = a ++ b ∧ RepL C cs a ∧ RepL C ds b := by
  refine ⟨vs.take cs.length, vs.drop cs.length, by simp, ?_, ?_⟩
  · simpa using h.take cs.length
  · simpa using h.drop cs.length
end lists

/-! ### Lists of elements of one size -/
theorem flat_len {α : Type} {z : Nat} : ∀ {l : List (List α)}, (∀ e ∈ l, e.length = z) → l.flatten.length = l.length * z
  | [], _ => by simp
  | e :: l, h => by
    rw [List.flatten_cons, List.length_append, flat_len (fun x hx => h x (List.mem_cons_of_mem _ hx)), h e (by simp), List.length_cons, Nat.add_mul]; omega
theorem flat_drop {α : Type} {z : Nat} : ∀ {l : List (List α)} (i : Nat), (∀ e ∈ l, e.length = z) → l.flatten.drop (i * z) = (l.drop i).flatten
  | _, 0, _ => by simp
  | [], i + 1, _ => by simp
  | e :: l, i + 1, h => by
    have he := h e (by simp)
    rw [List.flatten_cons, Nat.succ_mul, Nat.add_comm, ← List.drop_drop, List.drop_succ_cons, ← flat_drop i (fun x hx => h x (List.mem_cons_of_mem _ hx)), ← he, List.drop_left]
theorem flat_take {α : Type} {z : Nat} : ∀ {l : List (List α)} (i : Nat), (∀ e ∈ l, e.length = z) → l.flatten.take (i * z) = (l.take i).flatten
  | _, 0, _ => by simp
  | [], i + 1, _ => by simp
  | e :: l, i + 1, h => by
    have he := h e (by simp)
    rw [List.flatten_cons, Nat.succ_mul, List.take_succ_cons, List.flatten_cons, ← flat_take i (fun x hx => h x (List.mem_cons_of_mem _ hx)), List.take_append, he]
    rw [List.take_of_length_le (by omega)]
    congr 2; omega
theorem flat_get {α : Type} {z i : Nat} {l : List (List α)} {e : List α} (h : ∀ e ∈ l, e.length = z) (hi : l[i]? = some e) : (l.flatten.drop (i * z)).take z = e := by
  rw [flat_drop i h]
  have hlt := (List.getElem?_eq_some_iff.1 hi).1
  have hm : e ∈ l := List.mem_of_getElem? hi
  rw [List.drop_eq_getElem_cons hlt, List.flatten_cons]
  have : l[i] = e := by simpa [List.getElem?_eq_getElem hlt] using hi
  rw [this, ← h e hm, List.take_left]
theorem mem_take' {α : Type} {l : List α} {n : Nat} {x : α} (h : x ∈ l.take n) : x ∈ l := List.mem_of_mem_take h
theorem mem_drop' {α : Type} {l : List α} {n : Nat} {x : α} (h : x ∈ l.drop n) : x ∈ l := List.mem_of_mem_drop h

/-! ### The abstract heap -/
structure Row where
  ety : TypeId
  esz : Nat
  fz : Nat
  els : List (List AV)
inductive VB where
  | cells (ety : TypeId) (l : List AV)
  | siter (s : List UInt8) (pos : Nat)
structure St where
  vars : List VB
  rows : List (Option Row)

def VB.rel (C : Cz) (vb : VB) (g : Nat) (w : World) : Prop :=
  match vb with
  | .cells e l => ∃ vs : List Value, w.heap[g]? = some (.cells vs.toArray e (0, 0)) ∧ RepL C l vs
  | .siter s pos => w.heap[g]? = some (.stringIter ⟨s.toArray⟩ pos)

structure RowRel (C : Cz) (row : Row) (rc : RowC) (w : World) (vs : List Value) (fr : Nat × Nat) : Prop where
  heap : w.heap[rc.blk]? = some (.cells vs.toArray row.ety fr)
  size : vs.length = rc.size
  esz : rc.esz = row.esz
  uni : ∀ e ∈ row.els, e.length = row.esz
  fits : rc.base + row.els.length * row.esz ≤ rc.size
  rep : RepL C row.els.flatten ((vs.drop rc.base).take (row.els.length * row.esz))
  free : ∀ o, rc.base + row.fz * row.esz ≤ o → o < rc.size → ¬ (fr.1 ≤ o ∧ o < fr.2)

def St.live (σ : St) (r : Nat) : Prop := ∃ row, σ.rows[r]? = some (some row)

structure HRel (C : Cz) (σ : St) (w : World) : Prop where
  nv : C.nv = σ.vars.length
  nr : C.nr = σ.rows.length
  mem : ∀ b o v, C.M b o = some v → w.cell? ⟨b, o, none⟩ = some v
  var : ∀ (b : Nat) (vb : VB), σ.vars[b]? = some vb → vb.rel C (C.ρ b) w
  vinj : ∀ b b', b < C.nv → b' < C.nv → C.ρ b = C.ρ b' → b = b'
  vM : ∀ b o, b < C.nv → C.M (C.ρ b) o = none
  vbase : ∀ b, b < C.nv → C.base ≤ C.ρ b
  row : ∀ r row, σ.rows[r]? = some (some row) → (C.row r).live = true ∧ ∃ vs fr, RowRel C row (C.row r) w vs fr
  rinj : ∀ r r', σ.live r → σ.live r' → (C.row r).blk = (C.row r').blk → r = r'
  rv : ∀ r b, σ.live r → b < C.nv → (C.row r).blk ≠ C.ρ b
  rM : ∀ r o, σ.live r → C.M (C.row r).blk o = none
  rbase : ∀ r, σ.live r → C.base ≤ (C.row r).blk
  hb : C.base ≤ w.heap.size
  below : Below C.base C.w0 w

theorem VB.rel.lt {C : Cz} {vb : VB} {g : Nat} {w : World} (h : vb.rel C g w) : g < w.heap.size := by
  cases vb with
  | cells e l => obtain ⟨vs, h, _⟩ := h; exact (Array.getElem?_eq_some_iff.1 h).1
  | siter s pos => exact (Array.getElem?_eq_some_iff.1 h).1
theorem RowRel.lt {C : Cz} {row : Row} {rc : RowC} {w : World} {vs : List Value} {fr : Nat × Nat} (h : RowRel C row rc w vs fr) : rc.blk < w.heap.size := (Array.getElem?_eq_some_iff.1 h.heap).1
theorem VB.rel.mono {C D : Cz} (l : C.le D) {vb : VB} {g : Nat} {w w' : World} (h : vb.rel C g w) (hw : w'.heap[g]? = w.heap[g]?) : vb.rel D g w' := by
  cases vb with
  | cells e l' => obtain ⟨vs, h, hr⟩ := h; exact ⟨vs, hw.trans h, hr.mono l⟩
  | siter s pos => exact hw.trans h
theorem RowRel.mono {C D : Cz} (l : C.le D) {row : Row} {rc : RowC} {w w' : World} {vs : List Value} {fr : Nat × Nat} (h : RowRel C row rc w vs fr) (hw : w'.heap[rc.blk]? = w.heap[rc.blk]?) : RowRel D row rc w' vs fr :=
  ⟨hw.trans h.heap, h.size, h.esz, h.uni, h.fits, h.rep.mono l, h.free⟩

theorem HRel.rho_lt {C : Cz} {σ : St} {w : World} (h : HRel C σ w) {b : Nat} (hb : b < C.nv) : C.ρ b < w.heap.size := by
  have : b < σ.vars.length := h.nv ▸ hb
  exact (h.var b σ.vars[b] (List.getElem?_eq_getElem this)).lt
theorem HRel.blk_lt {C : Cz} {σ : St} {w : World} (h : HRel C σ w) {r : Nat} (hr : σ.live r) : (C.row r).blk < w.heap.size := by
  obtain ⟨row, hr⟩ := hr
  obtain ⟨_, vs, fr, h⟩ := h.row r row hr
  exact h.lt
theorem HRel.mem_lt {C : Cz} {σ : St} {w : World} (h : HRel C σ w) {b o : Nat} {v : Value} (hm : C.M b o = some v) : b < w.heap.size := World.block_lt_of_cell? w _ (h.mem b o v hm)

theorem cell_of_heap {w w' : World} {b o : Nat} (h : w'.heap[b]? = w.heap[b]?) : w'.cell? ⟨b, o, none⟩ = w.cell? ⟨b, o, none⟩ := World.cell?_of_block (w := w) h

theorem heap_alloc_at (w : World) (o : Obj) : (w.alloc o).heap[w.heap.size]? = some o := by
  show (w.heap.push o)[w.heap.size]? = _
  simp

/-- A draw turns nothing. -/
theorem HRel.drew {C : Cz} {σ : St} {w : World} (h : HRel C σ w) : HRel C σ w.drew :=
  { h with mem := fun b o v hm => h.mem b o v hm, var := fun b vb hb => (h.var b vb hb).mono (Cz.le.refl C) rfl,
           row := fun r row hr => by
             obtain ⟨hl, vs, fr, hh⟩ := h.row r row hr
             exact ⟨hl, vs, fr, hh.mono (Cz.le.refl C) rfl⟩,
           hb := h.hb, below := h.below.drew }

/-- The world has grown by blocks that nobody knows. -/
theorem HRel.grow {C : Cz} {σ : St} {w : World} (h : HRel C σ w) (o : Obj) : HRel C σ (w.alloc o) := by
  have hk : ∀ k, k < w.heap.size → (w.alloc o).heap[k]? = w.heap[k]? := fun k hk => Below.heap_alloc w o k hk
  exact { h with
    mem := fun b o' v hm => (cell_of_heap (hk b (h.mem_lt hm))).trans (h.mem b o' v hm),
    var := fun b vb hb => (h.var b vb hb).mono (Cz.le.refl C) (hk _ (h.var b vb hb).lt),
    row := fun r row hr => by
      obtain ⟨hl, vs, fr, hh⟩ := h.row r row hr
      exact ⟨hl, vs, fr, hh.mono (Cz.le.refl C) (hk _ hh.lt)⟩,
    hb := by have := h.hb; simp; omega, below := h.below.alloc h.hb o }

/-! ### A new variable -/
def Cz.pushV (C : Cz) (g : Nat) : Cz := { C with nv := C.nv + 1, ρ := fun b => if b = C.nv then g else C.ρ b }
theorem Cz.le_pushV (C : Cz) (g : Nat) : C.le (C.pushV g) :=
  ⟨fun _ _ _ h => h, Nat.le_succ _, fun b hb => by simp [Cz.pushV]; omega, Nat.le_refl _, fun _ _ _ => rfl, rfl, rfl, fun _ _ _ _ h => h⟩
def St.pushV (σ : St) (vb : VB) : St := { σ with vars := σ.vars ++ [vb] }

theorem HRel.pushV {C : Cz} {σ : St} {w : World} (h : HRel C σ w) (vb : VB) (o : Obj) (hn : ∀ w' : World, w'.heap[w.heap.size]? = some o → vb.rel (C.pushV w.heap.size) w.heap.size w') :
    HRel (C.pushV w.heap.size) (σ.pushV vb) (w.alloc o) := by
  have hk : ∀ k, k < w.heap.size → (w.alloc o).heap[k]? = w.heap[k]? := fun k hk => Below.heap_alloc w o k hk
  have hle := C.le_pushV w.heap.size
  have hrho : ∀ b, b < C.nv → (C.pushV w.heap.size).ρ b = C.ρ b := fun b hb => hle.rho b hb
  have hlast : (C.pushV w.heap.size).ρ C.nv = w.heap.size := by simp [Cz.pushV]
  have hnv : ∀ b, b < (C.pushV w.heap.size).nv → b < C.nv ∨ b = C.nv := fun b hb => by simp [Cz.pushV] at hb; omega
  have hMn : ∀ o', C.M w.heap.size o' = none := fun o' => by
    cases hm : C.M w.heap.size o' with
    | none => rfl
    | some v => exact absurd (h.mem_lt hm) (Nat.lt_irrefl _)
  refine { nv := by simp [Cz.pushV, St.pushV, h.nv], nr := h.nr, mem := ?_, var := ?_, vinj := ?_, vM := ?_, vbase := ?_, row := ?_, rinj := h.rinj, rv := ?_, rM := h.rM, rbase := h.rbase, hb := ?_, below := h.below.alloc h.hb o }
  · exact fun b o' v hm => (cell_of_heap (hk b (h.mem_lt hm))).trans (h.mem b o' v hm)
  · intro b vb' hb
    by_cases hlt : b < σ.vars.length
    · rw [St.pushV, List.getElem?_append_left hlt] at hb
      rw [hrho b (h.nv ▸ hlt)]
      exact (h.var b vb' hb).mono hle (hk _ (h.var b vb' hb).lt)
    · have : b = σ.vars.length := by
        have := (List.getElem?_eq_some_iff.1 hb).1
        simp [St.pushV] at this; omega
      subst this
      simp [St.pushV] at hb; subst hb
      rw [← h.nv, hlast]
      exact hn _ (heap_alloc_at w o)
  · intro b b' hb hb' e
    rcases hnv b hb with hb | rfl <;> rcases hnv b' hb' with hb' | rfl
    · rw [hrho b hb, hrho b' hb'] at e; exact h.vinj b b' hb hb' e
    · rw [hrho b hb, hlast] at e; have := h.rho_lt hb; omega
    · rw [hrho b' hb', hlast] at e; have := h.rho_lt hb'; omega
    · rfl
  · intro b o' hb
    rcases hnv b hb with hb | rfl
    · rw [hrho b hb]; exact h.vM b o' hb
    · rw [hlast]; exact hMn o'
  · intro b hb
    rcases hnv b hb with hb | rfl
    · rw [hrho b hb]; exact h.vbase b hb
    · rw [hlast]; exact h.hb
  · intro r row hr
    obtain ⟨hl, vs, fr, hh⟩ := h.row r row hr
    exact ⟨hl, vs, fr, hh.mono hle (hk _ hh.lt)⟩
  · intro r b hr hb
    rcases hnv b hb with hb | rfl
    · rw [hrho b hb]; exact h.rv r b hr hb
    · rw [hlast]; exact Nat.ne_of_lt (h.blk_lt hr)
  · have := h.hb; show C.base ≤ _; simp; omega

/-! ### A new row: in a block that nobody else knows -/
def Cz.pushR (C : Cz) (rc : RowC) : Cz := { C with nr := C.nr + 1, row := fun r => if r = C.nr then rc else C.row r }
theorem Cz.le_pushR (C : Cz) (rc : RowC) : C.le (C.pushR rc) :=
  ⟨fun _ _ _ h => h, Nat.le_refl _, fun _ _ => rfl, Nat.le_succ _, fun r hr _ => by simp only [Cz.pushR]; rw [if_neg (by omega)], rfl, rfl, fun _ _ _ _ h => h⟩
def St.pushR (σ : St) (row : Row) : St := { σ with rows := σ.rows ++ [some row] }

theorem St.live_pushR {σ : St} {row : Row} {r : Nat} (h : (σ.pushR row).live r) : (r < σ.rows.length ∧ σ.live r) ∨ r = σ.rows.length := by
  obtain ⟨row', h⟩ := h
  by_cases hlt : r < σ.rows.length
  · rw [St.pushR, List.getElem?_append_left hlt] at h
    exact .inl ⟨hlt, row', h⟩
  · have := (List.getElem?_eq_some_iff.1 h).1
    simp [St.pushR] at this
    exact .inr (by omega)
/-- Nobody knows block g. -/
structure Cz.free (C : Cz) (σ : St) (g : Nat) : Prop where
  mem : ∀ o, C.M g o = none
  var : ∀ b, b < C.nv → C.ρ b ≠ g
  row : ∀ r, σ.live r → (C.row r).blk ≠ g
  base : C.base ≤ g

theorem HRel.free_new {C : Cz} {σ : St} {w : World} (h : HRel C σ w) : C.free σ w.heap.size := {
  mem := fun o => by
    cases hm : C.M w.heap.size o with
    | none => rfl
    | some v => exact absurd (h.mem_lt hm) (Nat.lt_irrefl _)
  var := fun b hb => Nat.ne_of_lt (h.rho_lt hb)
  row := fun r hr => Nat.ne_of_lt (h.blk_lt hr)
  base := h.hb }

theorem HRel.pushR {C : Cz} {σ : St} {w w' : World} (h : HRel C σ w) (row : Row) (rc : RowC) (hl : rc.live = true) (hf : C.free σ rc.blk)
    (hk : ∀ k, k < w.heap.size → k ≠ rc.blk → w'.heap[k]? = w.heap[k]?) (hb : C.base ≤ w'.heap.size) (hbel : Below C.base C.w0 w') {vs : List Value} {fr : Nat × Nat} (hr : RowRel C row rc w' vs fr) :
    HRel (C.pushR rc) (σ.pushR row) w' := by
  have hle := C.le_pushR rc
  have hold : ∀ r, r < C.nr → (C.pushR rc).row r = C.row r := fun r hr => by simp only [Cz.pushR]; rw [if_neg (by omega)]
  have hnew : (C.pushR rc).row σ.rows.length = rc := by simp only [Cz.pushR]; rw [if_pos h.nr.symm]
  refine { nv := h.nv, nr := by simp [Cz.pushR, St.pushR, h.nr], mem := ?_, var := ?_, vinj := h.vinj, vM := h.vM, vbase := h.vbase, row := ?_, rinj := ?_, rv := ?_, rM := ?_, rbase := ?_, hb := hb, below := hbel }
  · intro b o' v hm
    have hm' : C.M b o' = some v := hm
    exact (cell_of_heap (hk b (h.mem_lt hm') (fun e => by rw [e, hf.mem] at hm'; cases hm'))).trans (h.mem b o' v hm')
  · intro b vb hb
    have hlt : b < C.nv := h.nv ▸ (List.getElem?_eq_some_iff.1 hb).1
    exact (h.var b vb hb).mono hle (hk _ (h.var b vb hb).lt (hf.var b hlt))
  · intro r row' hr'
    by_cases hlt : r < σ.rows.length
    · rw [St.pushR, List.getElem?_append_left hlt] at hr'
      rw [hold r (h.nr ▸ hlt)]
      obtain ⟨hl, vs, fr, hh⟩ := h.row r row' hr'
      exact ⟨hl, vs, fr, hh.mono hle (hk _ hh.lt (hf.row r ⟨_, hr'⟩))⟩
    · have : r = σ.rows.length := by
        have := (List.getElem?_eq_some_iff.1 hr').1
        simp [St.pushR] at this; omega
      subst this
      simp [St.pushR] at hr'; subst hr'
      rw [hnew]
      exact ⟨hl, vs, fr, hr.mono hle rfl⟩
  · intro r r' h1 h2 e
    rcases St.live_pushR h1 with ⟨hlt, h1⟩ | rfl <;> rcases St.live_pushR h2 with ⟨hlt', h2⟩ | rfl
    · rw [hold r (h.nr ▸ hlt), hold r' (h.nr ▸ hlt')] at e; exact h.rinj r r' h1 h2 e
    · rw [hold r (h.nr ▸ hlt), hnew] at e; exact absurd e (hf.row r h1)
    · rw [hold r' (h.nr ▸ hlt'), hnew] at e; exact absurd e.symm (hf.row r' h2)
    · rfl
  · intro r b h1 hb
    rcases St.live_pushR h1 with ⟨hlt, h1⟩ | rfl
    · rw [hold r (h.nr ▸ hlt)]; exact h.rv r b h1 hb
    · rw [hnew]; exact fun e => hf.var b hb e.symm
  · intro r o' h1
    rcases St.live_pushR h1 with ⟨hlt, h1⟩ | rfl
    · rw [hold r (h.nr ▸ hlt)]; exact h.rM r o' h1
    · rw [hnew]; exact hf.mem o'
  · intro r h1
    rcases St.live_pushR h1 with ⟨hlt, h1⟩ | rfl
    · rw [hold r (h.nr ▸ hlt)]; exact h.rbase r h1
    · rw [hnew]; exact hf.base

/-- A row in a block that is made. -/
theorem HRel.newR {C : Cz} {σ : St} {w : World} (h : HRel C σ w) (row : Row) (vs : List Value) (fr : Nat × Nat) (hu : ∀ e ∈ row.els, e.length = row.esz) (hr : RepL C row.els.flatten (vs.take (row.els.length * row.esz))) (hl : row.els.length * row.esz ≤ vs.length)
    (hfr : ∀ o, row.fz * row.esz ≤ o → o < vs.length → ¬ (fr.1 ≤ o ∧ o < fr.2)) :
    HRel (C.pushR ⟨w.heap.size, 0, row.esz, vs.length, true⟩) (σ.pushR row) (w.alloc (.cells vs.toArray row.ety fr)) :=
  h.pushR row _ rfl h.free_new (fun k hk _ => Below.heap_alloc w _ k hk) (by have := h.hb; simp; omega) (h.below.alloc h.hb _)
    (vs := vs) (fr := fr) ⟨heap_alloc_at w _, rfl, rfl, hu, by simpa using hl, by simpa using hr, fun o h1 h2 => hfr o (by simpa using h1) h2⟩

/-! ### A row is let go -/
def Cz.kill (C : Cz) (r : Nat) : Cz := { C with row := fun k => if k = r then { C.row k with live := false } else C.row k }
theorem Cz.le_kill (C : Cz) (r : Nat) : C.le (C.kill r) :=
  ⟨fun _ _ _ h => h, Nat.le_refl _, fun _ _ => rfl, Nat.le_refl _, fun k _ hl => by
    simp only [Cz.kill] at hl ⊢
    by_cases e : k = r
    · rw [if_pos e] at hl; cases hl
    · rw [if_neg e], rfl, rfl, fun _ _ _ _ h => h⟩
def St.setR (σ : St) (r : Nat) (x : Option Row) : St := { σ with rows := σ.rows.set r x }
theorem St.live_kill {σ : St} {r k : Nat} (h : (σ.setR r none).live k) : k ≠ r ∧ σ.live k := by
  obtain ⟨row, h⟩ := h
  simp only [St.setR, List.getElem?_set] at h
  split at h
  · split at h <;> cases h
  · exact ⟨fun e => by omega, row, h⟩

theorem HRel.kill {C : Cz} {σ : St} {w : World} (h : HRel C σ w) (r : Nat) : HRel (C.kill r) (σ.setR r none) w := by
  have hne : ∀ k, k ≠ r → (C.kill r).row k = C.row k := fun k hk => by simp only [Cz.kill]; rw [if_neg hk]
  refine { nv := h.nv, nr := by simp [Cz.kill, St.setR, h.nr], mem := h.mem, var := fun b vb hb => (h.var b vb hb).mono (C.le_kill r) rfl, vinj := h.vinj, vM := h.vM, vbase := h.vbase, row := ?_, rinj := ?_, rv := ?_, rM := ?_, rbase := ?_, hb := h.hb, below := h.below }
  · intro k row hk
    have hl := St.live_kill ⟨row, hk⟩
    simp only [St.setR, List.getElem?_set, if_neg (Ne.symm hl.1)] at hk
    rw [hne k hl.1]
    obtain ⟨h1, vs, fr, h2⟩ := h.row k row hk
    exact ⟨h1, vs, fr, h2.mono (C.le_kill r) rfl⟩
  · intro k k' h1 h2 e
    have h1 := St.live_kill h1; have h2 := St.live_kill h2
    rw [hne k h1.1, hne k' h2.1] at e
    exact h.rinj k k' h1.2 h2.2 e
  · intro k b h1 hb
    have h1 := St.live_kill h1
    rw [hne k h1.1]; exact h.rv k b h1.2 hb
  · intro k o h1
    have h1 := St.live_kill h1
    rw [hne k h1.1]; exact h.rM k o h1.2
  · intro k h1
    have h1 := St.live_kill h1
    rw [hne k h1.1]; exact h.rbase k h1.2

theorem HRel.free_kill {C : Cz} {σ : St} {w : World} (h : HRel C σ w) {r : Nat} (hr : σ.live r) : (C.kill r).free (σ.setR r none) (C.row r).blk := {
  mem := fun o => h.rM r o hr
  var := fun b hb e => h.rv r b hr hb e.symm
  row := fun k hk e => by
    have hk := St.live_kill hk
    have : (C.kill r).row k = C.row k := by simp only [Cz.kill]; rw [if_neg hk.1]
    rw [this] at e
    exact hk.1 (h.rinj k r hk.2 hr e)
  base := h.rbase r hr }

/-! ### A row is there for good -/
/-! ### A block is written -/
def St.setV (σ : St) (b : Nat) (vb : VB) : St := { σ with vars := σ.vars.set b vb }
theorem HRel.setV {C : Cz} {σ : St} {w w' : World} (h : HRel C σ w) {b : Nat} (hb : b < C.nv) (vb : VB) (hk : ∀ k, k ≠ C.ρ b → w'.heap[k]? = w.heap[k]?) (hs : w.heap.size ≤ w'.heap.size)
    (hbel : Below C.base C.w0 w') (hv : vb.rel C (C.ρ b) w') : HRel C (σ.setV b vb) w' := by
  refine { nv := by simp [St.setV, h.nv], nr := h.nr, mem := ?_, var := ?_, vinj := h.vinj, vM := h.vM, vbase := h.vbase, row := ?_, rinj := h.rinj, rv := h.rv, rM := h.rM, rbase := h.rbase, hb := Nat.le_trans h.hb hs, below := hbel }
  · exact fun k o v hm => (cell_of_heap (hk k (fun e => by rw [e, h.vM b o hb] at hm; cases hm))).trans (h.mem k o v hm)
  · intro k vb' hk'
    simp only [St.setV, List.getElem?_set] at hk'
    split at hk'
    · rename_i e
      split at hk'
      · cases hk'; rw [← e]; exact hv
      · cases hk'
    · rename_i e
      have hlt : k < C.nv := h.nv ▸ (List.getElem?_eq_some_iff.1 hk').1
      exact (h.var k vb' hk').mono (Cz.le.refl C) (hk _ (fun e' => e (h.vinj k b hlt hb e').symm))
  · intro r row hr
    obtain ⟨h1, vs, fr, h2⟩ := h.row r row hr
    exact ⟨h1, vs, fr, h2.mono (Cz.le.refl C) (hk _ (h.rv r b ⟨row, hr⟩ hb))⟩

theorem HRel.setR {C : Cz} {σ : St} {w w' : World} (h : HRel C σ w) {r : Nat} (hr : σ.live r) (row : Row) (hk : ∀ k, k ≠ (C.row r).blk → w'.heap[k]? = w.heap[k]?) (hs : w.heap.size ≤ w'.heap.size)
    (hbel : Below C.base C.w0 w') {vs : List Value} {fr : Nat × Nat} (hv : RowRel C row (C.row r) w' vs fr) : HRel C (σ.setR r (some row)) w' := by
  have hlv : ∀ k, (σ.setR r (some row)).live k → σ.live k := fun k hk' => by
    obtain ⟨row', hk'⟩ := hk'
    simp only [St.setR, List.getElem?_set] at hk'
    split at hk'
    · rename_i e; rw [← e]; exact hr
    · exact ⟨row', hk'⟩
  refine { nv := h.nv, nr := by simp [St.setR, h.nr], mem := ?_, var := ?_, vinj := h.vinj, vM := h.vM, vbase := h.vbase, row := ?_, rinj := fun a b x y => h.rinj a b (hlv a x) (hlv b y), rv := fun a b x => h.rv a b (hlv a x), rM := fun a b x => h.rM a b (hlv a x), rbase := fun a x => h.rbase a (hlv a x), hb := Nat.le_trans h.hb hs, below := hbel }
  · exact fun k o v hm => (cell_of_heap (hk k (fun e => by rw [e, h.rM r o hr] at hm; cases hm))).trans (h.mem k o v hm)
  · intro b vb hb
    have hlt : b < C.nv := h.nv ▸ (List.getElem?_eq_some_iff.1 hb).1
    exact (h.var b vb hb).mono (Cz.le.refl C) (hk _ (fun e => h.rv r b hr hlt e.symm))
  · intro k row' hk'
    by_cases e : k = r
    · subst e
      simp only [St.setR, List.getElem?_set] at hk'
      simp at hk'
      obtain ⟨_, rfl⟩ := hk'
      obtain ⟨row0, hr0⟩ := hr
      exact ⟨(h.row k row0 hr0).1, vs, fr, hv⟩
    · simp only [St.setR, List.getElem?_set] at hk'
      rw [if_neg (Ne.symm e)] at hk'
      obtain ⟨h1, vs, fr, h2⟩ := h.row k row' hk'
      exact ⟨h1, vs, fr, h2.mono (Cz.le.refl C) (hk _ (fun e' => e (h.rinj k r ⟨_, hk'⟩ hr e')))⟩

/-! ### Cells are written in the middle of a list -/
def setL {α : Type} : List α → Nat → List α → List α
  | l, _, [] => l
  | l, o, c :: cs => setL (l.set o c) (o + 1) cs
theorem length_setL {α : Type} : ∀ (cs : List α) (l : List α) (o : Nat), (setL l o cs).length = l.length
  | [], _, _ => rfl
  | c :: cs, l, o => by simp [setL, length_setL cs]
theorem RepL.setL {C : Cz} : ∀ {cs : List AV} {us : List Value} {l : List AV} {vs : List Value} (o : Nat), RepL C l vs → RepL C cs us → RepL C (Go.Ab.setL l o cs) (Go.Ab.setL vs o us)
  | _, _, _, _, _, h, .nil => h
  | _, _, _, _, o, h, .cons _ _ _ _ hc t => RepL.setL (o + 1) (h.set o hc) t
theorem setL_eq {α : Type} : ∀ (cs : List α) (l : List α) (o : Nat), o + cs.length ≤ l.length → setL l o cs = l.take o ++ cs ++ l.drop (o + cs.length)
  | [], l, o, _ => by simp [setL]
  | c :: cs, l, o, h => by
    simp at h
    rw [setL, setL_eq cs _ _ (by simp; omega)]
    have h1 : (l.set o c).take (o + 1) = l.take o ++ [c] := by
      rw [List.take_set, List.take_succ_eq_append_getElem (by omega), List.set_append_right _ _ (by simp; omega)]
      simp; congr 1; simp [Nat.min_eq_left (by omega : o ≤ l.length)]
    have h2 : (l.set o c).drop (o + 1 + cs.length) = l.drop (o + 1 + cs.length) := by rw [List.drop_set_of_lt (by omega)]
    rw [h1, h2]
    simp [Nat.add_assoc, Nat.add_comm 1]

theorem heap_setCell {w : World} {b o : Nat} {l : List Value} {e : TypeId} {fr : Nat × Nat} (v : Value) (h : w.heap[b]? = some (.cells l.toArray e fr)) :
    (w.setCell ⟨b, o, none⟩ v).heap[b]? = some (.cells (l.set o v).toArray e fr) := by
  simp [World.setCell, Array.getElem?_modify, h]
theorem heap_setCells {b : Nat} {e : TypeId} {fr : Nat × Nat} : ∀ (vs : List Value) (o : Nat) (w : World) (l : List Value), w.heap[b]? = some (.cells l.toArray e fr) →
    (w.setCells b o vs).heap[b]? = some (.cells (setL l o vs).toArray e fr)
  | [], _, _, _, h => by simpa [World.setCells, setL] using h
  | v :: vs, o, w, l, h => by
    rw [World.setCells, setL]
    exact heap_setCells vs (o + 1) _ _ (heap_setCell v h)
theorem heap_setCells_other {b k : Nat} (hk : k ≠ b) : ∀ (vs : List Value) (o : Nat) (w : World), (w.setCells b o vs).heap[k]? = w.heap[k]?
  | [], _, _ => by simp [World.setCells]
  | v :: vs, o, w => by
    rw [World.setCells, heap_setCells_other hk vs]
    exact Below.heap_setCell w _ v k hk
theorem size_setCells {b : Nat} : ∀ (vs : List Value) (o : Nat) (w : World), (w.setCells b o vs).heap.size = w.heap.size
  | [], _, _ => by simp [World.setCells]
  | v :: vs, o, w => by rw [World.setCells, size_setCells vs]; simp
theorem below_setCells {B b : Nat} {w0 : World} (hb : B ≤ b) : ∀ (vs : List Value) (o : Nat) (w : World), Below B w0 w → Below B w0 (w.setCells b o vs)
  | [], _, _, h => by simpa [World.setCells] using h
  | v :: vs, o, w, h => by
    rw [World.setCells]
    exact below_setCells hb vs (o + 1) _ (h.setCell hb v)
end Go.Ab
namespace Go.Ab
open Go Go.RowKit

/-! ### Types -/
inductive Kd where
  | int (k : IntKind)
  | bool
  | str
  | slice (e : TypeId)
  | arr (n : Nat) (e : TypeId)
  | struct (fs : List (Nat × TypeId))
  | ptr (e : TypeId)
  | iface
  | func
  | other
structure TI where
  size : Nat
  bytes : Nat
  kd : Kd
  zero : List AV
abbrev TT := TypeId → Option TI

/-- The value of an abstract value that needs no memory. -/
def AV.toV : AV → Value
  | .int k n => .int k n
  | .bool b => .bool b
  | .str s => .string ⟨s.toArray⟩
  | .nilp => .pointer none
  | .nils => .slice none 0 0
  | .niln => .nilFunc
  | .nili => .nilIface
  | _ => undef
def AV.plain : AV → Bool
  | .int _ _ | .bool _ | .str _ | .nilp | .nils | .niln | .nili => true
  | _ => false
theorem Rep.plain {C : Cz} {c : AV} (h : c.plain = true) : Rep C c c.toV := by
  cases c <;> first | (simp [AV.plain] at h; done) | constructor
theorem RepL.plain {C : Cz} : ∀ {cs : List AV}, cs.all AV.plain = true → RepL C cs (cs.map AV.toV)
  | [], _ => .nil
  | c :: cs, h => by
    simp only [List.all_cons, Bool.and_eq_true] at h
    exact .cons _ _ _ _ (Rep.plain h.1) (RepL.plain h.2)
def Kd.agg : Kd → Bool
  | .arr _ _ | .struct _ => true
  | _ => false
def Kd.ok (k : Kd) (d : TypeDesc) : Prop :=
  match k with
  | .int k => d = .int k
  | .bool => d = .bool
  | .str => d = .string
  | .slice e => d = .slice e
  | .arr n e => d = .array n e
  | .struct fs => ∃ a : Array Field, d = .struct a ∧ a.toList.map (fun f => (f.offset, f.type)) = fs
  | .ptr e => d = .pointer e
  | .iface => ∃ m, d = .interface m
  | .func => ∃ a b c, d = .func a b c
  | .other => d.isRow = false ∧ ∀ m, d ≠ .interface m
structure TIok (P : Program) (t : TypeId) (ti : TI) : Prop where
  info : ∃ i z, P.info? t = some i ∧ i.size = ti.size ∧ i.bytes = ti.bytes ∧ i.zero = some z ∧ z.cells.toList = ti.zero.map AV.toV
  plain : ti.zero.all AV.plain = true
  len : ti.zero.length = ti.size
  kd : ∃ d, P.underlying t = some d ∧ ti.kd.ok d
def TOK (P : Program) (T : TT) : Prop := ∀ t ti, T t = some ti → TIok P t ti

def lookT (t : TypeId) : List (Nat × TI) → Option TI
  | [] => none
  | (k, ti) :: r => if k == t then some ti else lookT t r
def AllOk (P : Program) : List (Nat × TI) → Prop
  | [] => True
  | (k, ti) :: r => TIok P k ti ∧ AllOk P r
theorem tok_of_all {P : Program} : ∀ {l : List (Nat × TI)}, AllOk P l → TOK P (fun t => lookT t l)
  | [], _, t, ti, h => by cases h
  | (k, ti') :: r, hh, t, ti, h => by
    simp only [lookT] at h
    split at h
    · rename_i e
      cases h
      have : k = t := by simpa using e
      subst this; exact hh.1
    · exact tok_of_all hh.2 t ti h

section types
variable {P : Program} {t : TypeId} {ti : TI} (h : TIok P t ti) (w : World)
include h
theorem TIok.sizeOf : (sizeOf t).run P w = .ok ti.size w := by
  obtain ⟨i, z, hi, hs, _⟩ := h.info
  unfold Go.sizeOf typeInfo
  simp [hi, hs]
theorem TIok.zeroValue : ∃ z : Value, (zeroValue t).run P w = .ok z w ∧ z.cells.toList = ti.zero.map AV.toV := by
  obtain ⟨i, z, hi, hs, _, hz, hc⟩ := h.info
  exact ⟨z, by unfold Go.zeroValue; rw [Sem.run_bind, run_typeInfo w hi]; simp only [Result.andThen_ok, hz]; rfl, hc⟩
theorem TIok.under : ∃ d, (underlying t).run P w = .ok d w ∧ ti.kd.ok d ∧ P.underlying t = some d := by
  obtain ⟨d, hd, hk⟩ := h.kd
  exact ⟨d, run_underlying hd w, hk, hd⟩
omit h in
theorem TIok.row {d : TypeDesc} (hk : ti.kd.ok d) : d.isRow = ti.kd.agg := by
  cases hq : ti.kd <;> rw [hq] at hk <;> simp only [Kd.ok] at hk <;> simp only [Kd.agg]
  case other => exact hk.1
  case struct fs => obtain ⟨a, rfl, _⟩ := hk; rfl
  case iface => obtain ⟨a, rfl⟩ := hk; rfl
  case func => obtain ⟨a, b, c, rfl⟩ := hk; rfl
  all_goals (subst hk; rfl)
theorem TIok.isAgg : (isAgg t).run P w = .ok ti.kd.agg w := by
  obtain ⟨d, hd, hk, _⟩ := h.under w
  have := TIok.row hk
  unfold Go.isAgg
  rw [Sem.run_bind, hd]
  simp only [Result.andThen_ok]
  rw [← this]
  cases d <;> rfl
end types

/-! ### Reading and writing the abstract heap -/
def ldAt (σ : St) (a : AV) (n : Nat) : Option (List AV) :=
  match a with
  | .vp b off => match σ.vars[b]? with
    | some (.cells _ l) => if off + n ≤ l.length then some ((l.drop off).take n) else none
    | _ => none
  | .rp cs => if n ≤ cs.length then some (cs.take n) else none
  | .op r i k => match σ.rows[r]? with
    | some (some row) => match row.els[i]? with
      | some e => if k + n ≤ e.length then some ((e.drop k).take n) else none
      | none => none
    | _ => none
  | _ => none
def stAt (σ : St) (a : AV) (cs : List AV) : Option St :=
  match a with
  | .vp b off => match σ.vars[b]? with
    | some (.cells e l) => if off + cs.length ≤ l.length then some (σ.setV b (.cells e (setL l off cs))) else none
    | _ => none
  | .op r i k => match σ.rows[r]? with
    | some (some row) => match row.els[i]? with
      | some e => if k + cs.length ≤ e.length ∧ row.fz ≤ i then some (σ.setR r (some { row with els := row.els.set i (setL e k cs) })) else none
      | none => none
    | _ => none
  | _ => none

theorem take_drop_get {α : Type} {l : List α} {a n j : Nat} {v : α} (h : ((l.drop a).take n)[j]? = some v) : l[a + j]? = some v := by
  rw [List.getElem?_take] at h
  split at h
  · simpa using h
  · cases h

theorem cell_heap {w : World} {b o : Nat} {vs : List Value} {e : TypeId} {fr : Nat × Nat} (h : w.heap[b]? = some (.cells vs.toArray e fr)) : w.cell? ⟨b, o, none⟩ = vs[o]? := by
  unfold World.cell?
  simp only [h]
  simp
theorem frozen_heap {w : World} {b o : Nat} {vs : List Value} {e : TypeId} {fr : Nat × Nat} (h : w.heap[b]? = some (.cells vs.toArray e fr)) : w.frozen? ⟨b, o, none⟩ = (decide (fr.1 ≤ o) && decide (o < fr.2)) := by
  unfold World.frozen?
  simp only [h]

theorem ldAt_sound {C : Cz} {σ : St} {w : World} (h : HRel C σ w) {a : AV} {V : Value} (ha : Rep C a V) {n : Nat} {cs : List AV} (hl : ldAt σ a n = some cs) :
    ∃ b o vs, V = .pointer (some ⟨b, o, none⟩) ∧ w.rangeAt b o vs ∧ RepL C cs vs ∧ cs.length = n := by
  cases a <;> simp only [ldAt] at hl <;> try (cases hl; done)
  case vp b off =>
    split at hl
    · rename_i e l hv
      split at hl
      · cases hl
        rename_i hle
        cases ha with
        | vp _ _ hb =>
          obtain ⟨vs, hw, hr⟩ := h.var b _ hv
          refine ⟨_, _, (vs.drop off).take n, rfl, fun j v hj => ?_, (hr.drop off).take n, by simp; omega⟩
          rw [cell_heap hw]
          exact take_drop_get hj
      · cases hl
    · cases hl
  case rp ds =>
    split at hl
    · cases hl
      cases ha with
      | rp _ vs b o hr hm =>
        refine ⟨b, o, vs.take n, rfl, fun j v hj => h.mem _ _ _ (hm j v ?_), hr.take n, by simp; omega⟩
        rw [List.getElem?_take] at hj
        split at hj
        · exact hj
        · cases hj
    · cases hl
  case op r i k =>
    split at hl
    · rename_i row hv
      split at hl
      · rename_i e he
        split at hl
        · cases hl
          rename_i hle
          cases ha with
          | op _ _ _ a hr hp =>
            obtain ⟨hlive, vs, fr, hh⟩ := h.row r row hv
            have := hp hlive
            subst this
            have hee : ((row.els.flatten.drop (i * row.esz)).take row.esz) = e := flat_get hh.uni he
            have hre : RepL C e ((((vs.drop (C.row r).base).take (row.els.length * row.esz)).drop (i * row.esz)).take row.esz) := by
              rw [← hee]; exact (hh.rep.drop _).take _
            refine ⟨_, _, ((((((vs.drop (C.row r).base).take (row.els.length * row.esz)).drop (i * row.esz)).take row.esz)).drop k).take n, rfl, fun j v hj => ?_, (hre.drop k).take n, by simp; omega⟩
            rw [cell_heap hh.heap, hh.esz]
            have h1 := take_drop_get hj
            have h2 := take_drop_get h1
            rw [List.getElem?_take] at h2
            split at h2
            · rw [List.getElem?_drop] at h2
              rw [← h2]; congr 1; omega
            · cases h2
        · cases hl
      · cases hl
    · cases hl

theorem take_drop_setL {α : Type} (l : List α) (base off n : Nat) (cs : List α) (h1 : off + cs.length ≤ n) (h2 : base + n ≤ l.length) :
    ((setL l (base + off) cs).drop base).take n = setL ((l.drop base).take n) off cs := by
  rw [setL_eq _ _ _ (by omega), setL_eq _ _ _ (by simp; omega)]
  apply List.ext_getElem?
  intro j
  by_cases hj : j < n
  · rw [List.getElem?_take, if_pos hj, List.getElem?_drop]
    simp only [List.getElem?_append, List.length_append, List.length_take, List.length_drop, List.getElem?_take, List.getElem?_drop]
    have e1 : min (base + off) l.length = base + off := by omega
    have e2 : min off (min n (l.length - base)) = off := by omega
    rw [e1, e2]
    by_cases a1 : j < off
    · rw [if_pos (by omega), if_pos (by omega), if_pos (by omega), if_pos (by omega), if_pos a1, if_pos hj, if_pos (by omega)]
    · by_cases a2 : j < off + cs.length
      · rw [if_pos (by omega), if_neg (by omega), if_pos (by omega), if_neg a1]
        congr 1; omega
      · rw [if_neg (by omega), if_neg (by omega), if_pos (by omega)]
        congr 1; omega
  · rw [List.getElem?_eq_none (by simp; omega), List.getElem?_eq_none (by simp; omega)]

theorem flat_set {α : Type} {z i k : Nat} {l : List (List α)} {e cs : List α} (h : ∀ e ∈ l, e.length = z) (hi : l[i]? = some e) (hk : k + cs.length ≤ z) :
    (l.set i (setL e k cs)).flatten = setL l.flatten (i * z + k) cs := by
  have hlt := (List.getElem?_eq_some_iff.1 hi).1
  have hm : e ∈ l := List.mem_of_getElem? hi
  have hz := h e hm
  have hmul : (i + 1) * z ≤ l.length * z := Nat.mul_le_mul_right _ hlt
  rw [Nat.add_mul, Nat.one_mul] at hmul
  have hfl := flat_len h
  rw [setL_eq _ _ _ (by omega), setL_eq _ _ _ (by omega)]
  have h1 : l = l.take i ++ e :: l.drop (i + 1) := by
    have : l[i] = e := by simpa [List.getElem?_eq_getElem hlt] using hi
    rw [← this, ← List.drop_eq_getElem_cons hlt, List.take_append_drop]
  have hl1 : (l.take i).flatten.length = i * z := by
    rw [flat_len (fun x hx => h x (mem_take' hx)), List.length_take, Nat.min_eq_left (by omega)]
  have h2 : l.flatten = (l.take i).flatten ++ (e ++ (l.drop (i + 1)).flatten) := by
    conv => lhs; rw [h1]
    simp
  rw [List.set_eq_take_append_cons_drop, if_pos hlt]
  simp only [List.flatten_append, List.flatten_cons]
  generalize (l.take i).flatten = A at hl1 h2 ⊢
  generalize (l.drop (i + 1)).flatten = B at h2 ⊢
  rw [h2]
  have e1 : (A ++ (e ++ B)).take (i * z + k) = A ++ e.take k := by
    rw [List.take_append, List.take_of_length_le (by omega), List.take_append, show i * z + k - A.length = k by omega, show k - e.length = 0 by omega]; simp
  have e2 : (A ++ (e ++ B)).drop (i * z + k + cs.length) = e.drop (k + cs.length) ++ B := by
    rw [List.drop_append, List.drop_of_length_le (by omega), List.drop_append, show i * z + k + cs.length - A.length = k + cs.length by omega, show k + cs.length - e.length = 0 by omega]; simp
  rw [e1, e2]
  simp

theorem stAt_sound {C : Cz} {σ σ' : St} {w : World} (h : HRel C σ w) {a : AV} {V : Value} (ha : Rep C a V) {cs : List AV} {vs : List Value} (hc : RepL C cs vs) (hl : stAt σ a cs = some σ') :
    ∃ b o, V = .pointer (some ⟨b, o, none⟩) ∧ w.there b o vs.length ∧ HRel C σ' (w.setCells b o vs) := by
  have hlen := hc.length
  cases a <;> simp only [stAt] at hl <;> try (cases hl; done)
  case vp b off =>
    split at hl
    · rename_i e l hv
      split at hl
      · cases hl
        rename_i hle
        cases ha with
        | vp _ _ hb =>
          obtain ⟨us, hw, hr⟩ := h.var b _ hv
          have hul := hr.length
          refine ⟨_, _, rfl, fun j hj => ?_, h.setV hb _ (fun k hk => heap_setCells_other hk _ _ _) (by rw [size_setCells]; omega) (below_setCells (h.vbase b hb) _ _ _ h.below) ?_⟩
          · rw [cell_heap hw, frozen_heap hw]
            refine ⟨?_, by simp⟩
            rw [List.getElem?_eq_getElem (by omega)]; rfl
          · exact ⟨_, heap_setCells vs off w us hw, hr.setL off hc⟩
      · cases hl
    · cases hl
  case op r i k =>
    split at hl
    · rename_i row hv
      split at hl
      · rename_i e he
        split at hl
        · cases hl
          rename_i hle
          cases ha with
          | op _ _ _ a hr hp =>
            obtain ⟨hlive, us, fr, hh⟩ := h.row r row hv
            have := hp hlive
            subst this
            have hlv : σ.live r := ⟨row, hv⟩
            have hfit := hh.fits
            have hsz := hh.size
            have hi : i < row.els.length := (List.getElem?_eq_some_iff.1 he).1
            have hez : e.length = row.esz := hh.uni e (List.mem_of_getElem? he)
            have hmul : (i + 1) * row.esz ≤ row.els.length * row.esz := Nat.mul_le_mul_right _ hi
            rw [Nat.add_mul, Nat.one_mul] at hmul
            have huni : ∀ x ∈ row.els.set i (setL e k cs), x.length = row.esz := fun x hx => by
              rcases List.mem_or_eq_of_mem_set hx with hx | rfl
              · exact hh.uni x hx
              · rw [length_setL]; exact hez
            refine ⟨_, _, rfl, fun j hj => ?_, h.setR hlv _ (fun k hk => heap_setCells_other hk _ _ _) (by rw [size_setCells]; omega) (below_setCells (h.rbase r hlv) _ _ _ h.below)
              (vs := setL us ((C.row r).base + i * (C.row r).esz + k) vs) (fr := fr) ⟨heap_setCells vs _ w us hh.heap, by rw [length_setL]; exact hh.size, hh.esz, huni, ?_, ?_, ?_⟩⟩
            · rw [cell_heap hh.heap, frozen_heap hh.heap, hh.esz]
              refine ⟨?_, ?_⟩
              · rw [List.getElem?_eq_getElem (by omega)]; rfl
              · have hfz : row.fz * row.esz ≤ i * row.esz := Nat.mul_le_mul_right _ hle.2
                have := hh.free ((C.row r).base + i * row.esz + k + j) (by omega) (by omega)
                rw [← Bool.not_eq_true, Bool.and_eq_true, decide_eq_true_eq, decide_eq_true_eq]; exact this
            · show _ + (row.els.set i (setL e k cs)).length * _ ≤ _
              rw [List.length_set]; exact hfit
            · show RepL C (row.els.set i (setL e k cs)).flatten ((List.drop _ _).take ((row.els.set i (setL e k cs)).length * row.esz))
              rw [List.length_set, hh.esz, Nat.add_assoc, take_drop_setL us _ _ _ _ (by omega) (by omega), flat_set hh.uni he (by omega)]
              exact hh.rep.setL _ hc
            · exact hh.free
        · cases hl
      · cases hl
    · cases hl
end Go.Ab
namespace Go.Ab
open Go Go.RowKit

/-! ### Operands -/
abbrev GT := Nat → Option (List AV)
def GOK (G : GT) (C : Cz) : Prop := ∀ g cs, G g = some cs → ∃ vs, RepL C cs vs ∧ ∀ j v, vs[j]? = some v → C.M g j = some v
theorem GOK.mono {G : GT} {C D : Cz} (l : C.le D) (h : GOK G C) : GOK G D := fun g cs e => by
  obtain ⟨vs, hr, hm⟩ := h g cs e
  exact ⟨vs, hr.mono l, fun j v hj => l.mem _ _ _ (hm j v hj)⟩

def ofV1 : Value → Option AV
  | .int k n => some (.int k n)
  | .bool b => some (.bool b)
  | .string s => some (.str s.data.toList)
  | .pointer none => some .nilp
  | .slice none 0 0 => some .nils
  | .nilFunc => some .niln
  | .nilIface => some .nili
  | _ => none
def ofVs : List Value → Option (List AV)
  | [] => some []
  | v :: vs => match ofV1 v, ofVs vs with
    | some c, some cs => some (c :: cs)
    | _, _ => none
def ofV : Value → Option AV
  | .agg cs => (ofVs cs.toList).map .agg
  | .tuple ⟨[]⟩ => some (.tup [])
  | v => ofV1 v
theorem ofV1_rep {C : Cz} {v : Value} {c : AV} (h : ofV1 v = some c) : Rep C c v := by
  unfold ofV1 at h
  split at h <;> first | (cases h; done) | (cases h; first | constructor | skip)
theorem ofVs_rep {C : Cz} : ∀ {vs : List Value} {cs : List AV}, ofVs vs = some cs → RepL C cs vs
  | [], cs, h => by cases h; exact .nil
  | v :: vs, cs, h => by
    simp only [ofVs] at h
    split at h
    · rename_i c ds h1 h2
      cases h
      exact .cons _ _ _ _ (ofV1_rep h1) (ofVs_rep h2)
    · cases h
theorem ofV_rep {C : Cz} {v : Value} {c : AV} (h : ofV v = some c) : Rep C c v := by
  unfold ofV at h
  split at h
  · rename_i cs
    cases hq : ofVs cs.toList with
    | none => rw [hq] at h; cases h
    | some ds =>
      rw [hq] at h; cases h
      exact .agg ds cs.toList (ofVs_rep hq)
  · cases h; exact .tup [] [] .nil
  · exact ofV1_rep h

def ev (G : GT) (t : List AV) : Operand → Option AV
  | .tmp n => t[n]?
  | .const v => ofV v
  | .global g => (G g).map .rp
  | .func f => some (.fn (.func f) [] [])
def evs (G : GT) (t : List AV) : List Operand → Option (List AV)
  | [] => some []
  | x :: xs => match ev G t x, evs G t xs with
    | some c, some cs => some (c :: cs)
    | _, _ => none

section
variable {C : Cz} {G : GT} {t : List AV} {a : Act}
theorem ev_rep (hg : GOK G C) (ht : RepL C t a.tmps.toList) {x : Operand} {c : AV} (h : ev G t x = some c) : Rep C c (a.eval x) := by
  cases x with
  | tmp n =>
    obtain ⟨v, hv, hr⟩ := ht.get n c h
    have : a.tmps.getD n undef = v := by
      rw [Array.getElem?_toList] at hv
      simp [Array.getD_eq_getD_getElem?, hv]
    simp only [Act.eval, this]; exact hr
  | const v => exact ofV_rep h
  | global g =>
    simp only [ev] at h
    cases hq : G g with
    | none => rw [hq] at h; cases h
    | some cs =>
      rw [hq] at h; cases h
      obtain ⟨vs, hr, hm⟩ := hg g cs hq
      exact .rp cs vs g 0 hr (fun j v hj => by rw [Nat.zero_add]; exact hm j v hj)
  | func f => cases h; exact .fn _ [] [] [] [] .nil .nil
theorem evs_rep (hg : GOK G C) (ht : RepL C t a.tmps.toList) : ∀ {xs : List Operand} {cs : List AV}, evs G t xs = some cs → RepL C cs (xs.map a.eval)
  | [], cs, h => by cases h; exact .nil
  | x :: xs, cs, h => by
    simp only [evs] at h
    split at h
    · rename_i c ds h1 h2
      cases h
      exact .cons _ _ _ _ (ev_rep hg ht h1) (evs_rep hg ht h2)
    · cases h
end

/-! ### Cells of a value -/
def cellsA : AV → List AV
  | .agg cs => cs
  | c => [c]
theorem cellsA_rep {C : Cz} {c : AV} {v : Value} (h : Rep C c v) : RepL C (cellsA c) v.cells.toList := by
  cases h
  case agg cs vs h => simpa [cellsA, Value.cells] using h
  all_goals (simp only [cellsA, Value.cells]; refine .cons _ _ _ _ ?_ .nil)
  all_goals first | constructor <;> assumption | skip

/-! ### load, store -/
def loadA (T : TT) (σ : St) (ty : TypeId) (a : AV) : Option AV :=
  match T ty with
  | some ti => if ti.kd.agg then (ldAt σ a ti.size).map .agg else
    match ldAt σ a 1 with
    | some [c] => some c
    | _ => none
  | none => none
def storeA (T : TT) (σ : St) (ty : TypeId) (a v : AV) : Option St :=
  match T ty with
  | some ti => if (cellsA v).length = ti.size ∧ (cellsA v).all AV.one = true then stAt σ a (cellsA v) else none
  | none => none

section
variable {P : Program} {C : Cz} {σ : St} {w : World} {T : TT}
theorem loadA_sound (hT : TOK P T) (h : HRel C σ w) {ty : TypeId} {a r : AV} {V : Value} (ha : Rep C a V) (hl : loadA T σ ty a = some r) :
    ∃ v, (Instr.loadAt ty V).run P w = .ok v w ∧ Rep C r v := by
  unfold loadA at hl
  split at hl
  · rename_i ti hti
    have ok := hT ty ti hti
    split at hl
    · rename_i hagg
      cases hq : ldAt σ a ti.size with
      | none => rw [hq] at hl; cases hl
      | some cs =>
        rw [hq] at hl; cases hl
        obtain ⟨b, o, vs, rfl, hr, hrep, hlen⟩ := ldAt_sound h ha hq
        obtain ⟨d, _, hk, hd⟩ := ok.under w
        obtain ⟨i, z, hi, hs, _⟩ := ok.info
        exact ⟨_, run_loadAt_mid w b o ty vs d hr hd (by rw [TIok.row hk]; exact hagg) (by rw [hi]; simp [hs, hrep.length, hlen]), .agg cs vs hrep⟩
    · rename_i hagg
      split at hl
      · rename_i c hq
        cases hl
        obtain ⟨b, o, vs, rfl, hr, hrep, hlen⟩ := ldAt_sound h ha hq
        cases hrep with
        | cons _ v _ vs h1 h2 =>
          have hc := hr 0 v (by simp)
          refine ⟨v, ?_, h1⟩
          have hna : ti.kd.agg = false := by simpa using hagg
          simp only [Instr.loadAt, Instr.sureAddr, Sem.run_bind, Sem.run_pure, Result.andThen_ok, loadVar, ok.isAgg w, hna]
          simp only [Nat.add_zero] at hc
          simp [hc]
      · cases hl
  · cases hl

theorem run_storeAt_any (b o : Nat) (ty : TypeId) (V : Value) (ht : w.there b o V.cells.size) (hs : (sizeOf ty).run P w = .ok V.cells.size w) (h1 : ∀ v ∈ V.cells.toList, v.oneCell' = true) :
    (Instr.storeAt ty (.pointer (some ⟨b, o, none⟩)) V).run P w = .ok () (w.setCells b o V.cells.toList) := by
  have := run_storeCells_cells (P := P) b o V.cells.toList 0 w (fun j hj => by simpa using (ht j (by simpa using hj)).1) (fun j hj => by simpa using (ht j (by simpa using hj)).2) h1
  simp only [Nat.add_zero] at this
  simp only [Instr.storeAt, Instr.sureAddr, Sem.run_bind, Sem.run_pure, Result.andThen_ok, storeVar, hs]
  simp [this]

theorem storeA_sound (hT : TOK P T) (h : HRel C σ w) {ty : TypeId} {a c : AV} {A V : Value} (ha : Rep C a A) (hc : Rep C c V) {σ' : St} (hl : storeA T σ ty a c = some σ') :
    ∃ w', (Instr.storeAt ty A V).run P w = .ok () w' ∧ HRel C σ' w' := by
  unfold storeA at hl
  split at hl
  · rename_i ti hti
    have ok := hT ty ti hti
    split at hl
    · rename_i hcond
      have hcr := cellsA_rep hc
      obtain ⟨b, o, rfl, hth, hrel⟩ := stAt_sound h ha hcr hl
      have hlen : V.cells.size = ti.size := by have := hcr.length; simp at this; omega
      refine ⟨_, run_storeAt_any b o ty V (by simpa using hth) (by rw [hlen]; exact ok.sizeOf w) (hcr.one hcond.2), hrel⟩
    · cases hl
  · cases hl
end

/-! ### nilCheck -/
def nilA (σ : St) (x : AV) : Option AV :=
  match x with
  | .vp _ _ | .rp _ | .fn (.func _) _ _ | .ifc _ _ => some x
  | .op r _ _ => match σ.rows[r]? with
    | some (some _) => some x
    | _ => none
  | _ => none
theorem nilA_sound {C : Cz} {σ : St} {w : World} (h : HRel C σ w) {x r : AV} {V : Value} (hx : Rep C x V) (hn : nilA σ x = some r) :
    r = x ∧ (∀ P : Program, ∀ (o : Oper) (ρ : Operand → Value) (y : Operand), o.op = .nilCheck y → ρ y = V → (execOp ρ o).run P w = .ok (.value V) w) := by
  have key : ∀ V' : Value, (∀ a, V' = .pointer a → a ≠ none) → V' ≠ .nilIface → V' ≠ .nilFunc → (∀ n f c, V' ≠ .func (.method n) f c) →
      ∀ P : Program, ∀ (o : Oper) (ρ : Operand → Value) (y : Operand), o.op = .nilCheck y → ρ y = V' → (execOp ρ o).run P w = .ok (.value V') w := by
    intro V' h1 h2 h3 h4 P o ρ y ho hy
    unfold execOp
    simp only [ho, hy]
    split
    · rename_i e; exact absurd rfl (h1 none rfl)
    · exact absurd rfl h2
    · exact absurd rfl h3
    · rename_i e; exact absurd rfl (h4 _ _ _)
    · rfl
  cases x <;> simp only [nilA] at hn <;> try (cases hn; done)
  case vp b off => cases hn; cases hx; exact ⟨rfl, key _ (by simp) (by simp) (by simp) (by simp)⟩
  case rp cs => cases hn; cases hx; exact ⟨rfl, key _ (by simp) (by simp) (by simp) (by simp)⟩
  case ifc t v => cases hn; cases hx; exact ⟨rfl, key _ (by simp) (by simp) (by simp) (by simp)⟩
  case op r i k =>
    split at hn
    · rename_i row hv
      cases hn
      cases hx with
      | op _ _ _ a hr hp =>
        have := hp (h.row r row hv).1
        subst this
        exact ⟨rfl, key _ (by simp) (by simp) (by simp) (by simp)⟩
    · cases hn
  case fn f a b =>
    cases f <;> simp only at hn <;> try (cases hn; done)
    cases hn; cases hx; exact ⟨rfl, key _ (by simp) (by simp) (by simp) (by simp)⟩
end Go.Ab
namespace Go.Ab
open Go Go.RowKit

/-! ### Two operands -/
def binI (op : BinOp) (k : IntKind) (x y : Int) : Option AV :=
  match op with
  | .add => some (.int k (k.wrap (x + y)))
  | .sub => some (.int k (k.wrap (x - y)))
  | .mul => some (.int k (k.wrap (x * y)))
  | .quo => if y = 0 then none else some (.int k (k.wrap (x.tdiv y)))
  | .rem => if y = 0 then none else some (.int k (x.tmod y))
  | .and => some (.int k (k.wrap (BitVec.ofInt k.bits x &&& BitVec.ofInt k.bits y).toNat))
  | .or => some (.int k (k.wrap (BitVec.ofInt k.bits x ||| BitVec.ofInt k.bits y).toNat))
  | .xor => some (.int k (k.wrap (BitVec.ofInt k.bits x ^^^ BitVec.ofInt k.bits y).toNat))
  | .andNot => some (.int k (k.wrap (BitVec.ofInt k.bits x &&& ~~~(BitVec.ofInt k.bits y)).toNat))
  | .eql => some (.bool (x == y))
  | .neq => some (.bool (x != y))
  | .lss => some (.bool (decide (x < y)))
  | .leq => some (.bool (decide (x ≤ y)))
  | .gtr => some (.bool (decide (x > y)))
  | .geq => some (.bool (decide (x ≥ y)))
  | _ => none
def shiftI (op : BinOp) (k : IntKind) (x y : Int) : Option AV :=
  match op with
  | .shl => if y < 0 then none else some (.int k (k.wrap (x * 2 ^ (min y.toNat k.bits))))
  | .shr => if y < 0 then none else some (.int k (x.fdiv (2 ^ (min y.toNat k.bits))))
  | _ => none
def binS (op : BinOp) (x y : List UInt8) : Option AV :=
  match op with
  | .add => if x.length + y.length ≤ 9223372036854775807 then some (.str (x ++ y)) else none
  | .eql => some (.bool (x == y))
  | .neq => some (.bool (!(x == y)))
  | .lss => some (.bool (Op.bytesLess x y))
  | .leq => some (.bool (Op.bytesLess x y || x == y))
  | .gtr => some (.bool (!(Op.bytesLess x y || x == y)))
  | .geq => some (.bool (!(Op.bytesLess x y)))
  | _ => none
def binB (op : BinOp) (x y : Bool) : Option AV :=
  match op with
  | .eql => some (.bool (x == y))
  | .neq => some (.bool (!(x == y)))
  | _ => none
def shOp : BinOp → Bool
  | .shl | .shr => true
  | _ => false
/-- Is it its kind's nil? -/
def nilAs (x : AV) (k : Kd) : Option Bool :=
  match x, k with
  | .nilp, .ptr _ | .nils, .slice _ | .niln, .func | .nili, .iface => some true
  | .vp _ _, .ptr _ | .rp _, .ptr _ | .sl _, .slice _ | .os _ _ _, .slice _ | .fn _ _ _, .func | .ifc _ _, .iface => some false
  | _, _ => none
def binN (op : BinOp) (x y : AV) (k : Kd) (c : Bool) : Option AV :=
  match nilAs x k, nilAs y k with
  | some true, some true => if c then binB op true true else none
  | some true, some false => binB op true false
  | some false, some true => binB op false true
  | _, _ => none
def isC : Operand → Bool
  | .const _ => true
  | _ => false
def binA (T : TT) (op : BinOp) (xt : TypeId) (cx cy : Bool) (x y : AV) : Option AV :=
  match x, y with
  | .int k a, .int k' b => if shOp op then shiftI op k a b else if k = k' then binI op k a b else none
  | .str a, .str b => binS op a b
  | .bool a, .bool b => match T xt with
    | some ti => match ti.kd with
      | .bool => binB op a b
      | _ => none
    | none => none
  | x, y => match T xt with
    | some ti => binN op x y ti.kd (cx || cy)
    | none => none

section
variable {P : Program} {C : Cz} {w : World}
/-- The operation yields this, and the world stands. -/
def Yields (P : Program) (C : Cz) (w : World) (s : Sem Value) (r : AV) : Prop := ∃ v, s.run P w = .ok v w ∧ Rep C r v
theorem Yields.mk {s : Sem Value} {r : AV} {v : Value} (h : s.run P w = .ok v w) (hr : Rep C r v) : Yields P C w s r := ⟨v, h, hr⟩

theorem binI_sound {op : BinOp} {k : IntKind} {x y : Int} {r : AV} (xt : TypeId) (hs : shOp op = false) (h : binI op k x y = some r) : Yields P C w (binOp op xt (.int k x) (.int k y)) r := by
  cases op <;> simp only [binI] at h <;> (try (cases h; done)) <;> (try (simp [shOp] at hs; done))
  case quo =>
    split at h
    · cases h
    · rename_i hy
      cases h
      exact ⟨_, by simp only [binOp, ne_eq, not_true_eq_false, if_false, Op.intDiv, if_neg hy]; rfl, .int _ _⟩
  case rem =>
    split at h
    · cases h
    · rename_i hy
      cases h
      exact ⟨_, by simp only [binOp, ne_eq, not_true_eq_false, if_false, Op.intDiv, if_neg hy]; rfl, .int _ _⟩
  all_goals
    cases h
    unfold Yields
    simp only [binOp, ne_eq, not_true_eq_false, if_false]
    refine ⟨_, rfl, ?_⟩
    first
      | exact .int _ _
      | exact .bool _
theorem shiftI_sound {op : BinOp} {k k' : IntKind} {x y : Int} {r : AV} (xt : TypeId) (h : shiftI op k x y = some r) : Yields P C w (binOp op xt (.int k x) (.int k' y)) r := by
  cases op <;> simp only [shiftI] at h <;> (try (cases h; done))
  all_goals
    split at h
    · cases h
    · rename_i hy
      cases h
      exact ⟨_, by simp only [binOp, Op.shift, if_neg hy]; rfl, .int _ _⟩
theorem str_toList (l : List UInt8) : (⟨l.toArray⟩ : ByteArray).toList = l := by rw [Lib.toList_data]
theorem str_size (l : List UInt8) : (⟨l.toArray⟩ : ByteArray).size = l.length := by simp [ByteArray.size]
theorem str_append (a b : List UInt8) : (⟨a.toArray⟩ : ByteArray) ++ ⟨b.toArray⟩ = ⟨(a ++ b).toArray⟩ := by
  apply ByteArray.ext
  rw [ByteArray.data_append]
  simp
theorem binS_sound {op : BinOp} {x y : List UInt8} {r : AV} (xt : TypeId) (h : binS op x y = some r) : Yields P C w (binOp op xt (.string ⟨x.toArray⟩) (.string ⟨y.toArray⟩)) r := by
  cases op <;> simp only [binS] at h <;> (try (cases h; done))
  case add =>
    split at h
    · rename_i hle
      cases h
      refine ⟨_, ?_, .str _⟩
      simp only [binOp, Op.stringOp]
      rw [if_neg (by rw [str_size, str_size]; simp [IntKind.max, IntKind.signed, IntKind.bits]; omega), str_append]
      rfl
    · cases h
  all_goals
    cases h
    refine ⟨_, ?_, .bool _⟩
    simp only [binOp, Op.stringOp, str_toList]
    rfl
theorem nil_binB {op : BinOp} {x y : Bool} {r : AV} (h : binB op x y = some r) : (op = .eql ∧ r = .bool (x == y)) ∨ (op = .neq ∧ r = .bool (!(x == y))) := by
  cases op <;> simp only [binB] at h <;> (try (cases h; done))
  · cases h; exact .inl ⟨rfl, rfl⟩
  · cases h; exact .inr ⟨rfl, rfl⟩
theorem eq_run {op : BinOp} {xt : TypeId} {X Y : Value} {b : Bool} {r : AV} (he : (Op.equal xt X Y).run P w = .ok b w)
    (hop : (op = .eql ∧ r = .bool b ∧ binOp op xt X Y = (do pure (.bool (← Op.equal xt X Y)))) ∨ (op = .neq ∧ r = .bool (!b) ∧ binOp op xt X Y = (do pure (.bool (!(← Op.equal xt X Y)))))) :
    Yields P C w (binOp op xt X Y) r := by
  rcases hop with ⟨rfl, rfl, e⟩ | ⟨rfl, rfl, e⟩
  · exact ⟨_, by rw [e]; simp [he], .bool _⟩
  · exact ⟨_, by rw [e]; simp [he], .bool _⟩
theorem run_equal_bool {xt : TypeId} (hu : P.underlying xt = some .bool) (a b : Bool) : (Op.equal xt (.bool a) (.bool b)).run P w = .ok (a == b) w := by
  show (Op.equalIn (9999 + 1) xt _ _).run P w = _
  unfold Op.equalIn
  rw [Sem.run_bind, run_underlying hu]
  rfl
theorem binB_sound {op : BinOp} {x y : Bool} {r : AV} {xt : TypeId} (hu : P.underlying xt = some .bool) (h : binB op x y = some r) : Yields P C w (binOp op xt (.bool x) (.bool y)) r := by
  refine eq_run (run_equal_bool hu x y) ?_
  rcases nil_binB h with ⟨rfl, rfl⟩ | ⟨rfl, rfl⟩
  · exact .inl ⟨rfl, rfl, rfl⟩
  · exact .inr ⟨rfl, rfl, rfl⟩

theorem run_equal_nil {xt : TypeId} {k : Kd} {d : TypeDesc} (hu : P.underlying xt = some d) (hk : k.ok d) {x y : AV} {X Y : Value} (hx : Rep C x X) (hy : Rep C y Y) {a b : Bool}
    (h1 : nilAs x k = some a) (h2 : nilAs y k = some b) (h3 : (a || b) = true) : (Op.equal xt X Y).run P w = .ok (a == b) w := by
  show (Op.equalIn (9999 + 1) xt _ _).run P w = _
  unfold Op.equalIn
  rw [Sem.run_bind, run_underlying hu]
  cases k <;> (try (simp [nilAs] at h1; done))
  all_goals (simp only [Kd.ok] at hk)
  all_goals (try (obtain ⟨_, _, _, rfl⟩ := hk))
  all_goals (try (obtain ⟨_, rfl⟩ := hk))
  all_goals (try subst hk)
  all_goals cases x <;> (try (simp [nilAs] at h1; done))
  all_goals (simp only [nilAs] at h1; cases h1)
  all_goals cases y <;> (try (simp [nilAs] at h2; done))
  all_goals (simp only [nilAs] at h2; cases h2)
  all_goals (try (simp at h3; done))
  all_goals cases hx
  all_goals cases hy
  all_goals first | rfl | (have hsome : (_ : Option Addr) ≠ none := ‹(_ : Option Addr) ≠ none›; revert hsome; rename_i a _ _ _ _ _; cases a <;> first | (intro hh; exact absurd rfl hh) | (intro _; rfl)) | (have hsome : (_ : Option Addr) ≠ none := ‹(_ : Option Addr) ≠ none›; obtain ⟨a, ha⟩ := Option.ne_none_iff_exists'.1 hsome; subst ha; rfl)
theorem agg_nilAs {x : AV} {k : Kd} {b : Bool} (h : nilAs x k = some b) : (∀ X, Rep C x X → ∀ cs, X ≠ .agg cs) ∧ (∀ X, Rep C x X → X = .nilIface → x = .nili) := by
  unfold nilAs at h
  constructor
  · intro X hX cs e
    subst e
    cases hX
    split at h <;> rename_i e <;> first | (cases h; done) | (cases e; done) | skip
  · intro X hX e
    subst e
    cases hX
    rfl

theorem eqGuard_run {op : BinOp} {xt : TypeId} {ox oy : Operand} {X Y : Value} (h1 : ∀ cs, X ≠ .agg cs) (h2 : X = .nilIface → Y = .nilIface → (isC ox || isC oy) = true) :
    (eqGuard op xt ox oy X Y).run P w = .ok () w := by
  cases op <;> (try rfl)
  all_goals
    unfold eqGuard
    cases X <;> cases Y <;> (try rfl)
    · show (if _ then _ else _ : Sem Unit).run P w = _
      rw [if_neg (by decide)]
      exact congrArg (fun s => Sem.run P s w) (if_pos (h2 rfl rfl))
    · exact absurd rfl (h1 _)
theorem binA_sound {T : TT} (hT : TOK P T) {op : BinOp} {xt : TypeId} {ox oy : Operand} {x y r : AV} {X Y : Value} (hx : Rep C x X) (hy : Rep C y Y)
    (h : binA T op xt (isC ox) (isC oy) x y = some r) :
    Yields P C w (do eqGuard op xt ox oy X Y; binOp op xt X Y) r := by
  have key : (∀ cs, X ≠ .agg cs) → (X = .nilIface → Y = .nilIface → (isC ox || isC oy) = true) → Yields P C w (binOp op xt X Y) r → Yields P C w (do eqGuard op xt ox oy X Y; binOp op xt X Y) r := by
    rintro h1 h2 ⟨v, hv, hr⟩
    exact ⟨v, by rw [Sem.run_bind, eqGuard_run h1 h2]; exact hv, hr⟩
  unfold binA at h
  split at h
  · cases hx; cases hy
    refine key (by simp) (by simp) ?_
    split at h
    · rename_i hs; exact shiftI_sound xt h
    · rename_i hs
      split at h
      · rename_i hk; subst hk; exact binI_sound xt (by simpa using hs) h
      · cases h
  · cases hx; cases hy
    exact key (by simp) (by simp) (binS_sound xt h)
  · cases hx; cases hy
    split at h
    · rename_i ti hti
      split at h
      · rename_i hkd
        obtain ⟨d, hd, hk⟩ := (hT _ _ hti).kd
        rw [hkd] at hk
        simp only [Kd.ok] at hk
        subst hk
        exact key (by simp) (by simp) (binB_sound hd h)
      · cases h
    · cases h
  · split at h
    · rename_i ti hti
      obtain ⟨d, hd, hk⟩ := (hT _ _ hti).kd
      have fin : ∀ a b, nilAs x ti.kd = some a → nilAs y ti.kd = some b → (a || b) = true → binB op a b = some r → (a = true → b = true → (isC ox || isC oy) = true) →
          Yields P C w (do eqGuard op xt ox oy X Y; binOp op xt X Y) r := by
        intro a b ha hb hab hr hc
        have hag := agg_nilAs (C := C) ha
        have hag' := agg_nilAs (C := C) hb
        have he := run_equal_nil (w := w) hd hk hx hy ha hb hab
        refine key (hag.1 X hx) (fun e1 e2 => ?_) (eq_run he ?_)
        · have := hag.2 X hx e1; subst this
          have := hag'.2 Y hy e2; subst this
          cases hq : ti.kd <;> rw [hq] at ha hb <;> simp [nilAs] at ha hb
          exact hc ha hb
        · have hne : ∀ k n, X ≠ .int k n := fun k n e => by subst e; cases hx; cases hq : ti.kd <;> rw [hq] at ha <;> simp [nilAs] at ha
          have hne2 : ∀ k n, Y ≠ .int k n := fun k n e => by subst e; cases hy; cases hq : ti.kd <;> rw [hq] at hb <;> simp [nilAs] at hb
          have hs2 : ∀ s, X ≠ .string s := fun s e => by subst e; cases hx; cases hq : ti.kd <;> rw [hq] at ha <;> simp [nilAs] at ha
          have hbin : op = .eql ∨ op = .neq → (op = .eql → binOp op xt X Y = (do pure (.bool (← Op.equal xt X Y)))) ∧ (op = .neq → binOp op xt X Y = (do pure (.bool (!(← Op.equal xt X Y))))) := by
            intro ho
            constructor <;> rintro rfl
            all_goals
              cases X <;> (try (exact absurd rfl (hne _ _); done)) <;> (try (exact absurd rfl (hs2 _); done)) <;> (try (cases hx; done)) <;> (try rfl)
          rcases nil_binB hr with ⟨rfl, rfl⟩ | ⟨rfl, rfl⟩
          · exact .inl ⟨rfl, rfl, (hbin (.inl rfl)).1 rfl⟩
          · exact .inr ⟨rfl, rfl, (hbin (.inr rfl)).2 rfl⟩
      unfold binN at h
      split at h
      · rename_i ha hb
        split at h
        · rename_i hc; exact fin _ _ ha hb rfl h (fun _ _ => hc)
        · cases h
      · rename_i ha hb; exact fin _ _ ha hb rfl h (fun _ e => by cases e)
      · rename_i ha hb; exact fin _ _ ha hb rfl h (fun e => by cases e)
      · cases h
    · cases h
end
end Go.Ab
namespace Go.Ab
open Go Go.RowKit

def unA (op : UnOp) (x : AV) : Option AV :=
  match op, x with
  | .neg, .int k n => some (.int k (k.wrap (0 - n)))
  | .xor, .int k n => some (.int k (k.wrap (BitVec.ofInt k.bits (if k.signed then -1 else k.max) ^^^ BitVec.ofInt k.bits n).toNat))
  | .not, .bool b => some (.bool (!b))
  | _, _ => none
def kdOf (T : TT) (t : TypeId) : Option Kd := (T t).map (·.kd)
def szOf (T : TT) (t : TypeId) : Option Nat := (T t).map (·.size)
def cvtA (T : TT) (s d : TypeId) (x : AV) : Option AV :=
  match kdOf T s, kdOf T d, x with
  | some _, some (.int k), .int _ n => some (.int k (k.wrap n))
  | some _, some .str, .int _ n => some (.str (Utf8.encode n).data.toList)
  | some _, some .str, .str s => some (.str s)
  | _, _, _ => none
def ifcA (T : TT) (t : TypeId) (x : AV) : Option AV :=
  match kdOf T t with
  | some .iface => none
  | some _ => some (.ifc t x)
  | none => none
def extrA (x : AV) (i : Nat) : Option AV :=
  match x with
  | .tup cs => cs[i]?
  | _ => none
def partA (T : TT) (t : TypeId) (cs : List AV) (off : Nat) : Option AV :=
  match T t with
  | some ti => if ti.kd.agg then (if off + ti.size ≤ cs.length then some (.agg ((cs.drop off).take ti.size)) else none) else cs[off]?
  | none => none
def fieldA (T : TT) (xt : TypeId) (x : AV) (f : Nat) : Option AV :=
  match kdOf T xt, x with
  | some (.struct fs), .agg cs => match fs[f]? with
    | some (off, ft) => partA T ft cs off
    | none => none
  | _, _ => none
def fieldAddrA (T : TT) (s : TypeId) (x : AV) (f : Nat) : Option AV :=
  match kdOf T s with
  | some (.struct fs) => match fs[f]? with
    | some (off, ft) => match szOf T ft with
      | some (_ + 1) => match x with
        | .vp b o => some (.vp b (o + off))
        | .rp cs => some (.rp (cs.drop off))
        | .op r i k => some (.op r i (k + off))
        | _ => none
      | _ => none
    | none => none
  | _ => none
def indexA (T : TT) (xt : TypeId) (x i : AV) : Option AV :=
  match kdOf T xt, x, i with
  | some .str, .str s, .int _ n => if 0 ≤ n then (s[n.toNat]?).map fun b => .int .u8 b.toNat else none
  | some (.arr len e), .agg cs, .int _ n => match szOf T e with
    | some z => if 0 ≤ n ∧ n < len then partA T e cs (n.toNat * z) else none
    | none => none
  | _, _, _ => none
def indexAddrA (T : TT) (xt : TypeId) (σ : St) (x i : AV) : Option AV :=
  match kdOf T xt, i with
  | some (.arr len e), .int _ n => match szOf T e, x with
    | some z, .vp b o => if 0 ≤ n ∧ n < len then some (.vp b (o + n.toNat * z)) else none
    | _, _ => none
  | some (.slice e), .int _ n => match szOf T e, x with
    | some z, .sl els => if 0 ≤ n then match els[n.toNat]? with
      | some c => if c.length = z then some (.rp c) else none
      | none => none else none
    | some z, .os r off m => if 0 ≤ n ∧ n < m then
      match σ.rows[r]? with
      | some (some row) => if row.esz = z then some (.op r (off + n.toNat) 0) else none
      | _ => none else none
    | _, _ => none
  | _, _ => none
def bnd (x : Option AV) (top dflt : Nat) : Option Nat :=
  match x with
  | none => some dflt
  | some (.int _ i) => if 0 ≤ i ∧ i ≤ top then some i.toNat else none
  | _ => none
/-- How many cells an element of a row has. -/
def rowEsz (σ : St) (r : Nat) : Option Nat :=
  match σ.rows[r]? with
  | some (some row) => some row.esz
  | _ => none
def sliceA (T : TT) (σ : St) (xt : TypeId) (x : AV) (lo hi mx : Option AV) : Option AV :=
  match kdOf T xt with
  | some .str => match x, mx with
    | .str s, none => match bnd hi s.length s.length with
      | some h => match bnd lo h 0 with
        | some l => some (.str ((s.drop l).take (h - l)))
        | none => none
      | none => none
    | _, _ => none
  | some (.slice e) => match szOf T e, x, mx with
    | some z, .sl els, none => match bnd hi els.length els.length with
      | some h => match bnd lo h 0 with
        | some l => if els.all (fun c => c.length == z) then some (.sl ((els.drop l).take (h - l))) else none
        | none => none
      | none => none
    | some _, .sl _, some (.int _ 0) => match bnd hi 0 0, bnd lo 0 0 with
      | some 0, some 0 => if hi.isSome then some .ez else none
      | _, _ => none
    | some z, .os r off n, none => match bnd hi n n with
      | some h => match bnd lo h 0 with
        | some l => if l = 0 then some (.os r off h) else if l < n ∧ rowEsz σ r = some z then some (.os r (off + l) (h - l)) else if l = n ∧ h = n then some (.sl []) else none
        | none => none
      | none => none
    | some _, .nils, _ => match bnd hi 0 0, bnd lo 0 0, bnd mx 0 0 with
      | some 0, some 0, some 0 => if mx.isSome && !hi.isSome then none else some .nils
      | _, _, _ => none
    | _, _, _ => none
  | _ => none

section
variable {P : Program} {C : Cz} {σ : St} {w : World} {T : TT}
theorem unA_sound {op : UnOp} {x r : AV} {X : Value} (hx : Rep C x X) (h : unA op x = some r) : Yields P C w (Op.unary op X) r := by
  unfold unA at h
  split at h <;> cases h <;> cases hx
  · exact ⟨_, rfl, .int _ _⟩
  · exact ⟨_, rfl, .int _ _⟩
  · exact ⟨_, rfl, .bool _⟩
theorem kdOf_ok (hT : TOK P T) {t : TypeId} {k : Kd} (h : kdOf T t = some k) : ∃ ti d, T t = some ti ∧ ti.kd = k ∧ TIok P t ti ∧ P.underlying t = some d ∧ k.ok d := by
  unfold kdOf at h
  cases hq : T t with
  | none => rw [hq] at h; cases h
  | some ti =>
    rw [hq] at h; cases h
    obtain ⟨d, hd, hk⟩ := (hT t ti hq).kd
    exact ⟨ti, d, rfl, rfl, hT t ti hq, hd, hk⟩
theorem szOf_ok (hT : TOK P T) {t : TypeId} {z : Nat} (h : szOf T t = some z) : ∃ ti, T t = some ti ∧ ti.size = z ∧ TIok P t ti := by
  unfold szOf at h
  cases hq : T t with
  | none => rw [hq] at h; cases h
  | some ti => rw [hq] at h; cases h; exact ⟨ti, rfl, rfl, hT t ti hq⟩
theorem cvtA_sound (hT : TOK P T) {s d : TypeId} {x r : AV} {X : Value} (hx : Rep C x X) (h : cvtA T s d x = some r) : Yields P C w (convert s d X) r := by
  unfold cvtA at h
  split at h
  · rename_i k0 k _ n h0 h1
    cases h; cases hx
    obtain ⟨_, d0, _, _, _, hd0, _⟩ := kdOf_ok hT h0
    obtain ⟨_, d1, _, _, _, hd1, hk1⟩ := kdOf_ok hT h1
    simp only [Kd.ok] at hk1; subst hk1
    refine ⟨_, ?_, .int _ _⟩
    unfold convert
    rw [Sem.run_bind, run_underlying hd0, Result.andThen_ok, Sem.run_bind, run_underlying hd1, Result.andThen_ok]
    rfl
  · rename_i k0 k n h0 h1
    cases h; cases hx
    obtain ⟨_, d0, _, _, _, hd0, _⟩ := kdOf_ok hT h0
    obtain ⟨_, d1, _, _, _, hd1, hk1⟩ := kdOf_ok hT h1
    simp only [Kd.ok] at hk1; subst hk1
    refine ⟨_, ?_, .str _⟩
    unfold convert
    rw [Sem.run_bind, run_underlying hd0, Result.andThen_ok, Sem.run_bind, run_underlying hd1, Result.andThen_ok]
    show Result.ok (Value.string (Utf8.encode n)) w = _
    rw [Lib.mk_data]
  · rename_i k0 s h0 h1
    cases h; cases hx
    obtain ⟨_, d0, _, _, _, hd0, _⟩ := kdOf_ok hT h0
    obtain ⟨_, d1, _, _, _, hd1, hk1⟩ := kdOf_ok hT h1
    simp only [Kd.ok] at hk1; subst hk1
    refine ⟨_, ?_, .str _⟩
    unfold convert
    rw [Sem.run_bind, run_underlying hd0, Result.andThen_ok, Sem.run_bind, run_underlying hd1, Result.andThen_ok]
    rfl
  · cases h
theorem ifcA_sound (hT : TOK P T) {t : TypeId} {x r : AV} {X : Value} (hx : Rep C x X) (h : ifcA T t x = some r) : Yields P C w (Instr.makeInterface t X) r := by
  unfold ifcA at h
  split at h
  · cases h
  · rename_i k hne hk
    cases h
    obtain ⟨_, d, _, _, _, hd, hok⟩ := kdOf_ok hT hk
    refine ⟨_, ?_, .ifc _ _ _ hx⟩
    unfold Instr.makeInterface
    rw [Sem.run_bind, run_underlying hd, Result.andThen_ok]
    cases hk' : k <;> rw [hk'] at hok <;> simp only [Kd.ok] at hok
    case iface => exact absurd hk' hne
    case other =>
      cases d <;> first | rfl | exact absurd rfl (hok.2 _)
    case struct => obtain ⟨_, rfl, _⟩ := hok; rfl
    case func => obtain ⟨_, _, _, rfl⟩ := hok; rfl
    all_goals (subst hok; rfl)
  · cases h
theorem extrA_sound {x r : AV} {i : Nat} {X : Value} (hx : Rep C x X) (h : extrA x i = some r) : Yields P C w (Instr.extract X i) r := by
  unfold extrA at h
  split at h
  · cases hx with
    | tup cs vs hr =>
      obtain ⟨v, hv, hrep⟩ := hr.get i r h
      refine ⟨v, ?_, hrep⟩
      unfold Instr.extract
      simp [hv]
  · cases h
theorem partA_sound (hT : TOK P T) {t : TypeId} {cs : List AV} {vs : List Value} {off : Nat} {r : AV} (hr : RepL C cs vs) (h : partA T t cs off = some r) : Yields P C w (part t vs.toArray off) r := by
  unfold partA at h
  split at h
  · rename_i ti hti
    have ok := hT t ti hti
    unfold part
    unfold Yields
    rw [Sem.run_bind, ok.isAgg w, Result.andThen_ok]
    split at h
    · rename_i hagg
      split at h
      · cases h
        rename_i hle
        simp only [hagg, if_true]
        rw [Sem.run_bind, ok.sizeOf w]
        refine ⟨_, rfl, ?_⟩
        have := Rep.agg _ _ ((hr.drop off).take ti.size)
        have he : (vs.toArray.extract off (off + ti.size)) = ((vs.drop off).take ti.size).toArray := by
          simp
        rw [he]; exact this
      · cases h
    · rename_i hagg
      simp only [hagg]
      obtain ⟨v, hv, hrep⟩ := hr.get off r h
      refine ⟨v, ?_, hrep⟩
      simp [hv]
  · cases h

theorem asIntOf_int (k : IntKind) (n : Int) : (asIntOf (.int k n)).run P w = .ok (k, n) w := rfl
theorem fieldA_sound (hT : TOK P T) {xt : TypeId} {x r : AV} {f : Nat} {X : Value} (hx : Rep C x X) (h : fieldA T xt x f = some r) : Yields P C w (Instr.field xt X f) r := by
  unfold fieldA at h
  split at h
  · rename_i fs cs hk
    split at h
    · rename_i off ft hf
      cases hx with
      | agg cs vs hr =>
        obtain ⟨_, d, _, _, _, hd, hok⟩ := kdOf_ok hT hk
        obtain ⟨a, rfl, ha⟩ := hok
        have hf' : ∃ g, a[f]? = some g ∧ g.offset = off ∧ g.type = ft := by
          rw [← ha, List.getElem?_map] at hf
          cases hq : a.toList[f]? with
          | none => rw [hq] at hf; cases hf
          | some g =>
            rw [hq] at hf
            rw [Array.getElem?_toList] at hq
            simp at hf
            exact ⟨g, hq, hf.1, hf.2⟩
        obtain ⟨g, hg, rfl, rfl⟩ := hf'
        obtain ⟨v, hv, hrep⟩ := partA_sound (w := w) hT hr h
        refine ⟨v, ?_, hrep⟩
        unfold Instr.field
        rw [Sem.run_bind, run_underlying hd, Result.andThen_ok]
        simp only [hg, asAgg]
        rw [Sem.run_bind, Sem.run_pure, Result.andThen_ok]
        exact hv
    · cases h
  · cases h
theorem fieldAddrA_sound (hT : TOK P T) {s : TypeId} {x r : AV} {f : Nat} {X : Value} (h0 : HRel C σ w) (hl : ∀ rr i k, x = .op rr i k → σ.live rr) (hx : Rep C x X) (h : fieldAddrA T s x f = some r) : Yields P C w (Instr.fieldAt s X f) r := by
  unfold fieldAddrA at h
  split at h
  · rename_i fs hk
    split at h
    · rename_i off ft hf
      split at h
      · rename_i n hz
        obtain ⟨_, d, _, _, _, hd, hok⟩ := kdOf_ok hT hk
        obtain ⟨a, rfl, ha⟩ := hok
        have hf' : ∃ g, a[f]? = some g ∧ g.offset = off ∧ g.type = ft := by
          rw [← ha, List.getElem?_map] at hf
          cases hq : a.toList[f]? with
          | none => rw [hq] at hf; cases hf
          | some g =>
            rw [hq] at hf
            rw [Array.getElem?_toList] at hq
            simp at hf
            exact ⟨g, hq, hf.1, hf.2⟩
        obtain ⟨g, hg, rfl, rfl⟩ := hf'
        obtain ⟨ti, hti, hsz, ok⟩ := szOf_ok hT hz
        have run : ∀ b o, (Instr.fieldAt s (.pointer (some ⟨b, o, none⟩)) f).run P w = .ok (.pointer (some ⟨b, o + g.offset, none⟩)) w := fun b o => by
          unfold Instr.fieldAt
          rw [Sem.run_bind, run_underlying hd, Result.andThen_ok]
          simp only [hg, Instr.sureAddr]
          rw [Sem.run_bind, Sem.run_pure, Result.andThen_ok, Sem.run_bind]
          unfold fieldPlace
          rw [Sem.run_bind, ok.sizeOf w, Result.andThen_ok, hsz, if_neg (by omega), Sem.run_pure, Result.andThen_ok, Addr.add_mid]
          rfl
        split at h
        · rename_i b o
          cases h
          cases hx with
          | vp _ _ hb => exact ⟨_, run _ _, .vp _ _ hb⟩
        · rename_i cs
          cases h
          cases hx with
          | rp cs vs b o hr hm =>
            refine ⟨_, run _ _, .rp _ (vs.drop g.offset) _ _ (hr.drop _) (fun j v hj => ?_)⟩
            rw [List.getElem?_drop] at hj
            rw [Nat.add_assoc]; exact hm _ v hj
        · rename_i rr i k
          cases h
          cases hx with
          | op _ _ _ a hr hp =>
            obtain ⟨row, hrow⟩ := hl rr i k rfl
            have := hp (h0.row rr row hrow).1
            subst this
            exact ⟨_, run _ _, .op _ _ _ _ hr (fun _ => by rw [Nat.add_assoc])⟩
        · cases h
      · cases h
    · cases h
  · cases h
theorem indexA_sound (hT : TOK P T) {xt : TypeId} {x i r : AV} {X I : Value} (hx : Rep C x X) (hi : Rep C i I) (h : indexA T xt x i = some r) : Yields P C w (Instr.index xt X I) r := by
  unfold indexA at h
  split at h
  · rename_i s k n hk
    cases hx; cases hi
    obtain ⟨_, d, _, _, _, hd, hok⟩ := kdOf_ok hT hk
    simp only [Kd.ok] at hok; subst hok
    split at h
    · rename_i h0
      cases hq : s[n.toNat]? with
      | none => rw [hq] at h; cases h
      | some b =>
        rw [hq] at h; cases h
        refine ⟨_, ?_, .int _ _⟩
        unfold Instr.index
        rw [Sem.run_bind, asIntOf_int, Result.andThen_ok]
        simp only []
        rw [Sem.run_bind, run_underlying hd, Result.andThen_ok]
        have e : (if 0 ≤ n then (⟨s.toArray⟩ : ByteArray)[n.toNat]? else none) = some b := by
          rw [if_pos h0]
          have hlt := (List.getElem?_eq_some_iff.1 hq).1
          have : n.toNat < (⟨s.toArray⟩ : ByteArray).size := by rw [str_size]; exact hlt
          have e2 : (⟨s.toArray⟩ : ByteArray)[n.toNat]? = some ((⟨s.toArray⟩ : ByteArray)[n.toNat]'this) := getElem?_pos (⟨s.toArray⟩ : ByteArray) n.toNat this
          rw [e2]
          rw [List.getElem?_eq_getElem hlt] at hq
          rw [← hq]; rfl
        simp only [e]
        rfl
    · cases h
  · rename_i len e cs k n hk
    cases hi
    split at h
    · rename_i z hz
      split at h
      · rename_i hb
        cases hx with
        | agg cs vs hr =>
          obtain ⟨_, d, _, _, _, hd, hok⟩ := kdOf_ok hT hk
          simp only [Kd.ok] at hok; subst hok
          obtain ⟨ti, hti, hsz, ok⟩ := szOf_ok hT hz
          obtain ⟨v, hv, hrep⟩ := partA_sound (w := w) hT hr h
          refine ⟨v, ?_, hrep⟩
          unfold Instr.index
          rw [Sem.run_bind, asIntOf_int, Result.andThen_ok]
          simp only []
          rw [Sem.run_bind, run_underlying hd, Result.andThen_ok]
          simp only []
          rw [if_pos hb, Sem.run_bind, ok.sizeOf w, Result.andThen_ok, hsz]
          exact hv
      · cases h
    · cases h
  · cases h
theorem indexAddrA_sound (hT : TOK P T) {xt : TypeId} {x i r : AV} {X I : Value} (h0 : HRel C σ w) (hx : Rep C x X) (hi : Rep C i I) (h : indexAddrA T xt σ x i = some r) : Yields P C w (Instr.indexAt xt X I) r := by
  unfold indexAddrA at h
  split at h
  · rename_i len e k n hk
    cases hi
    obtain ⟨_, d, _, _, _, hd, hok⟩ := kdOf_ok hT hk
    simp only [Kd.ok] at hok; subst hok
    split at h
    · rename_i z b o hz
      split at h
      · rename_i hb
        cases h
        cases hx with
        | vp _ _ hbv =>
          obtain ⟨ti, hti, hsz, ok⟩ := szOf_ok hT hz
          refine ⟨_, ?_, .vp _ _ hbv⟩
          unfold Instr.indexAt
          rw [Sem.run_bind, asIntOf_int, Result.andThen_ok]
          simp only []
          simp only [Sem.run_bind, run_underlying hd, Result.andThen_ok, Sem.run_pure, Instr.sureAddr, if_pos hb, ok.sizeOf w, hsz, Addr.add_mid]
      · cases h
    · cases h
  · rename_i e k n hk
    cases hi
    obtain ⟨_, d, _, _, _, hd, hok⟩ := kdOf_ok hT hk
    simp only [Kd.ok] at hok; subst hok
    have run : ∀ (b o len cap z : Nat), szOf T e = some z → 0 ≤ n → n < (len : Int) → (Instr.indexAt xt (.slice (some ⟨b, o, none⟩) len cap) (.int k n)).run P w = .ok (.pointer (some ⟨b, o + n.toNat * z, none⟩)) w := by
      intro b o len cap z hz h1 h2
      obtain ⟨ti, hti, hsz, ok⟩ := szOf_ok hT hz
      unfold Instr.indexAt
      rw [Sem.run_bind, asIntOf_int, Result.andThen_ok]
      simp only []
      have h12 : 0 ≤ n ∧ n < (len : Int) := ⟨h1, h2⟩
      simp only [Sem.run_bind, run_underlying hd, Result.andThen_ok, Sem.run_pure, if_pos h12, ok.sizeOf w, hsz, Addr.add_mid]
    split at h
    · rename_i z els hz
      split at h
      · rename_i hn
        split at h
        · rename_i c hc
          split at h
          · rename_i hcz
            cases h
            have hlt := (List.getElem?_eq_some_iff.1 hc).1
            cases hx with
            | sl0 a cap => simp at hlt
            | sl _ z' vs b o cap hz' hcap hr hm =>
              have hmem : c ∈ els := List.mem_of_getElem? hc
              have hzz : z' = z := by rw [← hz' c hmem, hcz]
              subst hzz
              refine ⟨_, run b o els.length cap _ hz hn (by omega), .rp c ((vs.drop (n.toNat * z')).take z') _ _ ?_ (fun j v hj => ?_)⟩
              · have := (hr.drop (n.toNat * z')).take z'
                rwa [flat_get hz' hc] at this
              · rw [Nat.add_assoc]; exact hm _ v (take_drop_get hj)
          · cases h
        · cases h
      · cases h
    · rename_i z r' off m hz
      split at h
      · rename_i hn
        split at h
        · rename_i row hrow
          split at h
          · rename_i hez
            cases h
            obtain ⟨hlive, vs, fr, hh⟩ := h0.row r' row hrow
            cases hx with
            | os _ _ _ a cap hr hv =>
              obtain ⟨rfl, h2, h3⟩ := hv hlive
              have e1 := hh.esz
              refine ⟨_, run _ _ m cap _ hz hn.1 hn.2, .op _ _ _ _ hr (fun _ => ?_)⟩
              rw [e1, hez, Nat.add_mul]
              simp [Nat.add_assoc]
          · cases h
        · cases h
      · cases h
    · cases h
  · cases h
end
end Go.Ab
namespace Go.Ab
open Go Go.RowKit

section
variable {P : Program} {C : Cz} {σ : St} {w : World} {T : TT}
inductive RepO (C : Cz) : Option AV → Option Value → Prop
  | none : RepO C none none
  | some (c : AV) (v : Value) (h : Rep C c v) : RepO C (some c) (some v)
theorem bnd_sound {x : Option AV} {X : Option Value} (hx : RepO C x X) {top dflt n : Nat} (h : bnd x top dflt = some n) :
    (X = none ∧ n = dflt) ∨ (∃ k i, X = some (.int k i) ∧ 0 ≤ i ∧ i ≤ (top : Int) ∧ n = i.toNat) := by
  cases hx with
  | none => cases h; exact .inl ⟨rfl, rfl⟩
  | some c v hr =>
    unfold bnd at h
    split at h
    · rename_i e; cases e
    · rename_i k i e
      cases e
      split at h
      · rename_i hb; cases h; cases hr; exact .inr ⟨_, _, rfl, hb.1, hb.2, rfl⟩
      · cases h
    · cases h
theorem sliceBound_run {k : IntKind} {i : Int} {y : Nat} {code : BoundsCode} (h : 0 ≤ i ∧ i ≤ (y : Int)) : (Instr.sliceBound (.int k i) y code).run P w = .ok i.toNat w := by
  unfold Instr.sliceBound
  simp only [Sem.run_bind, asIntOf_int, Result.andThen_ok, if_pos h, Sem.run_pure]
/-- The bounds of a slice without a third index. -/
theorem sliceBounds_run {isS : Bool} {len cap : Nat} {lo hi : Option AV} {LO HI : Option Value} (hlo : RepO C lo LO) (hhi : RepO C hi HI) {h l : Nat} (hh : bnd hi len len = some h) (hl : bnd lo h 0 = some l) (hc : len ≤ cap) :
    (Instr.sliceBounds isS len cap LO HI none).run P w = .ok (l, h, cap) w ∧ l ≤ h ∧ h ≤ len := by
  have h1 : h ≤ len := by
    rcases bnd_sound hhi hh with ⟨_, rfl⟩ | ⟨k, i, _, _, _, rfl⟩ <;> omega
  have h2 : l ≤ h := by
    rcases bnd_sound hlo hl with ⟨_, rfl⟩ | ⟨k, i, _, _, _, rfl⟩ <;> omega
  refine ⟨?_, h2, h1⟩
  unfold Instr.sliceBounds
  rcases bnd_sound hhi hh with ⟨rfl, rfl⟩ | ⟨k, i, rfl, a1, a2, rfl⟩ <;> rcases bnd_sound hlo hl with ⟨rfl, rfl⟩ | ⟨k', i', rfl, b1, b2, rfl⟩
  · simp only [Sem.run_bind, Sem.run_pure, Result.andThen_ok]
  · simp only [Sem.run_bind, Sem.run_pure, Result.andThen_ok, sliceBound_run (⟨b1, b2⟩ : 0 ≤ i' ∧ i' ≤ _)]
  · have a3 : 0 ≤ i ∧ i ≤ (cap : Int) := ⟨a1, by omega⟩
    simp only [Sem.run_bind, Sem.run_pure, Result.andThen_ok, sliceBound_run a3]
  · have a3 : 0 ≤ i ∧ i ≤ (cap : Int) := ⟨a1, by omega⟩
    simp only [Sem.run_bind, Sem.run_pure, Result.andThen_ok, sliceBound_run a3, sliceBound_run (⟨b1, b2⟩ : 0 ≤ i' ∧ i' ≤ _)]
/-- The bounds with a third index of nought. -/
theorem sliceBounds_zero {isS : Bool} {len cap : Nat} {lo hi : Option AV} {LO HI : Option Value} {k : IntKind} (hlo : RepO C lo LO) (hhi : RepO C hi HI) (hh : bnd hi 0 0 = some 0) (hl : bnd lo 0 0 = some 0) (hs : hi.isSome = true) :
    (Instr.sliceBounds isS len cap LO HI (some (.int k 0))).run P w = .ok (0, 0, 0) w := by
  unfold Instr.sliceBounds
  have z : ∀ c : BoundsCode, (Instr.sliceBound (.int k 0) cap c).run P w = .ok 0 w := fun c => sliceBound_run (i := 0) ⟨by omega, by omega⟩
  rcases bnd_sound hhi hh with ⟨rfl, _⟩ | ⟨k1, i, rfl, a1, a2, a3⟩
  · cases hhi; cases hs
  · have zi : ∀ c : BoundsCode, (Instr.sliceBound (.int k1 i) 0 c).run P w = .ok i.toNat w := fun c => sliceBound_run ⟨a1, a2⟩
    rw [← a3] at zi
    rcases bnd_sound hlo hl with ⟨rfl, _⟩ | ⟨k', i', rfl, b1, b2, b3⟩
    · simp only [Sem.run_bind, Sem.run_pure, Result.andThen_ok, z, zi]
    · have zl : ∀ c : BoundsCode, (Instr.sliceBound (.int k' i') 0 c).run P w = .ok i'.toNat w := fun c => sliceBound_run ⟨b1, b2⟩
      rw [← b3] at zl
      simp only [Sem.run_bind, Sem.run_pure, Result.andThen_ok, z, zi, zl]

theorem str_extract (s : List UInt8) (l h : Nat) : (⟨s.toArray⟩ : ByteArray).extract l h = ⟨((s.drop l).take (h - l)).toArray⟩ := by
  apply ByteArray.ext
  rw [ByteArray.data_extract]
  simp

theorem sliceAt_eq {xt : TypeId} {d : TypeDesc} (hd : P.underlying xt = some d) (hn : ∀ n e, d ≠ .array n e) (X : Value) (LO HI MX : Option Value) :
    (Instr.sliceAt xt X LO HI MX).run P w = (Instr.slice xt X LO HI MX).run P w := by
  unfold Instr.sliceAt
  rw [Sem.run_bind, run_underlying hd, Result.andThen_ok]
  cases d <;> first | rfl | exact absurd rfl (hn _ _)

theorem sliceA_sound (hT : TOK P T) {xt : TypeId} {x r : AV} {lo hi mx : Option AV} {X : Value} {LO HI MX : Option Value} (h0 : HRel C σ w) (hlv : ∀ rr off n, x = .os rr off n → σ.live rr) (hx : Rep C x X) (hlo : RepO C lo LO) (hhi : RepO C hi HI) (hmx : RepO C mx MX)
    (h : sliceA T σ xt x lo hi mx = some r) : Yields P C w (Instr.sliceAt xt X LO HI MX) r := by
  unfold sliceA at h
  split at h
  · rename_i hk
    obtain ⟨_, d, _, _, _, hd, hok⟩ := kdOf_ok hT hk
    simp only [Kd.ok] at hok; subst hok
    split at h
    · rename_i s
      split at h
      · rename_i hN hh
        split at h
        · rename_i lN hl
          cases h; cases hx; cases hmx
          obtain ⟨hrun, h1, h2⟩ := sliceBounds_run (P := P) (w := w) (isS := false) hlo hhi hh hl (Nat.le_refl _)
          refine ⟨_, ?_, .str _⟩
          rw [sliceAt_eq hd (by simp)]
          unfold Instr.slice
          rw [Sem.run_bind, run_underlying hd, Result.andThen_ok]
          simp only [Option.isSome_none, Bool.false_eq_true, if_false, str_size]
          simp only [Sem.run_bind, hrun, Result.andThen_ok, Sem.run_pure, str_extract]
        · cases h
      · cases h
    · cases h
  · rename_i e hk
    obtain ⟨_, d, _, _, _, hd, hok⟩ := kdOf_ok hT hk
    simp only [Kd.ok] at hok; subst hok
    rw [Yields, sliceAt_eq hd (by simp)]
    have run : ∀ (a : Option Addr) (n cap l h m z : Nat), szOf T e = some z → (Instr.sliceBounds true n cap LO HI MX).run P w = .ok (l, h, m) w →
        (Instr.slice xt (.slice a n cap) LO HI MX).run P w = .ok (.slice (if m = l then a else a.map (·.add (l * z))) (h - l) (m - l)) w := by
      intro a n cap l h m z hz hb
      obtain ⟨ti, hti, hsz, ok⟩ := szOf_ok hT hz
      unfold Instr.slice
      rw [Sem.run_bind, run_underlying hd, Result.andThen_ok]
      simp only [Sem.run_bind, hb, Result.andThen_ok, ok.sizeOf w, hsz, Sem.run_pure]
    split at h
    · rename_i z els hz
      split at h
      · rename_i hN hh
        split at h
        · rename_i lN hl
          split at h
          · rename_i hall
            cases h; cases hmx
            have hall' : ∀ c ∈ els, c.length = z := fun c hc => by simpa using List.all_eq_true.1 hall c hc
            cases hx with
            | sl0 a cap =>
              obtain ⟨hrun, h1, h2⟩ := sliceBounds_run (P := P) (w := w) (isS := true) (cap := cap) hlo hhi hh hl (Nat.zero_le _)
              have := run (some a) 0 cap lN hN cap z hz hrun
              simp at h2; subst h2
              simp at h1; subst h1
              refine ⟨_, this, ?_⟩
              split
              · simpa using Rep.sl0 _ _
              · simpa using Rep.sl0 _ _
            | sl _ z' vs b o cap hz' hcap hr hm =>
              obtain ⟨hrun, h1, h2⟩ := sliceBounds_run (P := P) (w := w) (isS := true) (cap := cap) hlo hhi hh hl hcap
              refine ⟨_, run _ _ cap lN hN cap z hz hrun, ?_⟩
              by_cases hcl : cap = lN
              · rw [if_pos hcl]
                have e1 : hN = lN := by omega
                subst e1
                simpa using Rep.sl0 _ _
              · rw [if_neg hcl]
                have hlen : ((els.drop lN).take (hN - lN)).length = hN - lN := by simp; omega
                have hrep := (hr.drop (lN * z)).take ((hN - lN) * z)
                rw [flat_drop lN hall', flat_take (hN - lN) (fun c hc => hall' c (mem_drop' hc))] at hrep
                have := Rep.sl ((els.drop lN).take (hN - lN)) z _ b (o + lN * z) (cap - lN) (fun c hc => hall' c (mem_drop' (mem_take' hc))) (by rw [hlen]; omega) hrep (fun j v hj => by
                  have := take_drop_get hj
                  rw [Nat.add_assoc]; exact hm _ v this)
                rw [hlen] at this
                simpa [Addr.add_mid] using this
          · cases h
        · cases h
      · cases h
    · rename_i z els k hz
      split at h
      · rename_i hh hlz
        split at h
        · rename_i hsome
          cases h
          obtain ⟨V, rfl, hV⟩ : ∃ V, MX = some V ∧ Rep C (.int k 0) V := by cases hmx with | some _ v h => exact ⟨v, rfl, h⟩
          cases hV
          have hb : ∀ n cap, (Instr.sliceBounds true n cap LO HI (some (.int k 0))).run P w = .ok (0, 0, 0) w := fun n cap => sliceBounds_zero hlo hhi hh hlz hsome
          cases hx with
          | sl0 a cap => exact ⟨_, run (some a) 0 cap 0 0 0 z hz (hb _ _), by simpa using Rep.ez _⟩
          | sl _ z' vs b o cap hz' hcap hr hm => exact ⟨_, run _ _ cap 0 0 0 z hz (hb _ _), by simpa using Rep.ez _⟩
        · cases h
      · cases h
    · rename_i z rr off n hz
      split at h
      · rename_i hN hh
        split at h
        · rename_i lN hl
          cases hmx
          cases hx with
          | os _ _ _ a cap hr hv =>
            obtain ⟨row, hrow⟩ := hlv rr off n rfl
            obtain ⟨hlive, _, _, hh0⟩ := h0.row rr row hrow
            obtain ⟨rfl, h2, h3⟩ := hv hlive
            obtain ⟨hrun, h4, h5⟩ := sliceBounds_run (P := P) (w := w) (isS := true) (cap := cap) hlo hhi hh hl h3
            split at h
            · rename_i hl0
              subst hl0
              cases h
              refine ⟨_, run _ _ cap 0 hN cap z hz hrun, ?_⟩
              have := Rep.os (C := C) rr off hN (some ⟨(C.row rr).blk, (C.row rr).base + off * (C.row rr).esz, none⟩) cap hr (fun _ => ⟨rfl, h2, by omega⟩) (by simp)
              by_cases hc0 : cap = 0
              · rw [if_pos hc0]; simpa using this
              · rw [if_neg hc0]; simpa [Addr.add_mid] using this
            · split at h
              · rename_i hlz
                obtain ⟨hln, hesz⟩ := hlz
                cases h
                have hz' : (C.row rr).esz = z := by
                  simp only [rowEsz, hrow, Option.some.injEq] at hesz
                  rw [← hesz]; exact hh0.esz
                refine ⟨_, run _ _ cap lN hN cap z hz hrun, ?_⟩
                rw [if_neg (by omega)]
                have e1 : (C.row rr).base + (off + lN) * (C.row rr).esz = (C.row rr).base + off * (C.row rr).esz + lN * z := by rw [Nat.add_mul, hz']; omega
                have e2 : (off + lN) * (C.row rr).esz + (cap - lN) * (C.row rr).esz = off * (C.row rr).esz + cap * (C.row rr).esz := by
                  rw [← Nat.add_mul, ← Nat.add_mul]; congr 1; omega
                have := Rep.os (C := C) rr (off + lN) (hN - lN) (some ⟨(C.row rr).blk, (C.row rr).base + off * (C.row rr).esz + lN * z, none⟩) (cap - lN) hr (fun _ => ⟨by rw [e1], by omega, by omega⟩) (by simp)
                simpa [Addr.add_mid] using this
              · split at h
                · rename_i hlz
                  obtain ⟨rfl, rfl⟩ := hlz
                  cases h
                  refine ⟨_, run _ _ cap _ _ cap z hz hrun, ?_⟩
                  rw [Nat.sub_self]
                  split
                  · exact .sl0 _ _
                  · exact .sl0 _ _
                · cases h
        · cases h
      · cases h
    · rename_i z hz
      split at h
      · rename_i hh hlz hmz
        split at h
        · cases h
        · rename_i hc
          cases h; cases hx
          refine ⟨_, ?_, .nils⟩
          cases hmx with
          | none =>
            obtain ⟨hrun, _, _⟩ := sliceBounds_run (P := P) (w := w) (isS := true) (cap := 0) hlo hhi hh hlz (Nat.le_refl _)
            have := run none 0 0 0 0 0 z hz hrun
            simpa using this
          | some c v hcv =>
            have hs : hi.isSome = true := by
              cases hi with
              | none => simp at hc
              | some _ => rfl
            obtain ⟨k, hk0, hv0⟩ : ∃ k, c = .int k 0 ∧ v = .int k 0 := by
              unfold bnd at hmz
              split at hmz
              · rename_i e; cases e
              · rename_i k i e
                cases e
                split at hmz
                · rename_i hb
                  have : i = 0 := by omega
                  subst this
                  cases hcv
                  exact ⟨_, rfl, rfl⟩
                · cases hmz
              · cases hmz
            subst hv0
            have := run none 0 0 0 0 0 z hz (sliceBounds_zero hlo hhi hh hlz hs)
            simpa using this
      · cases h
    · cases h
  · cases h
end
end Go.Ab
namespace Go.Ab
open Go Go.RowKit

def placesA (T : TT) : List (Nat × TypeId) → Option (List (Nat × Nat))
  | [] => some []
  | (off, t) :: r => match szOf T t, placesA T r with
    | some z, some ps => some ((off, z) :: ps)
    | _, _ => none
def fillA (place : Nat → Option (Nat × Nat)) : List AV → List (Nat × AV) → Option (List AV)
  | cells, [] => some cells
  | cells, (i, c) :: rest => match place i with
    | some (off, z) => if (cellsA c).length = z ∧ off + z ≤ cells.length then fillA place (setL cells off (cellsA c)) rest else none
    | none => none
def fillE (z : Nat) : List (List AV) → List (Nat × AV) → Option (List (List AV))
  | els, [] => some els
  | els, (i, c) :: rest => if i < els.length ∧ (cellsA c).length = z then fillE z (els.set i (cellsA c)) rest else none
def evps (G : GT) (t : List AV) : List (Nat × Operand) → Option (List (Nat × AV))
  | [] => some []
  | (i, x) :: r => match ev G t x, evps G t r with
    | some c, some cs => some ((i, c) :: cs)
    | _, _ => none
def buildA (T : TT) (t : TypeId) (ps : List (Nat × AV)) : Option AV :=
  match T t with
  | some ti => match ti.kd with
    | .struct fs => match placesA T fs with
      | some pl => (fillA (pl[·]?) ti.zero ps).map .agg
      | none => none
    | .arr _ e => match szOf T e with
      | some z => (fillA (fun i => some (i * z, z)) ti.zero ps).map .agg
      | none => none
    | _ => none
  | none => none
def buildSliceA (T : TT) (σ : St) (t : TypeId) (len : Nat) (ps : List (Nat × AV)) : Option (AV × St) :=
  match kdOf T t with
  | some (.slice e) => match T e with
    | some ti => if len * ti.size ≤ 16777216 ∧ 0 < ti.size ∧ ti.zero.all AV.one = true then
        match fillE ti.size (List.replicate len ti.zero) ps with
        | some els => some (.os σ.rows.length 0 len, σ.pushR ⟨e, ti.size, 0, els⟩)
        | none => none
      else none
    | none => none
  | _ => none

inductive RepP (C : Cz) : List (Nat × AV) → List (Nat × Value) → Prop
  | nil : RepP C [] []
  | cons (i : Nat) (c : AV) (v : Value) (cs : List (Nat × AV)) (vs : List (Nat × Value)) (h : Rep C c v) (t : RepP C cs vs) : RepP C ((i, c) :: cs) ((i, v) :: vs)
theorem evps_rep {C : Cz} {G : GT} {t : List AV} {a : Act} (hg : GOK G C) (ht : RepL C t a.tmps.toList) : ∀ {xs : List (Nat × Operand)} {cs : List (Nat × AV)}, evps G t xs = some cs → RepP C cs (xs.map fun (i, x) => (i, a.eval x))
  | [], cs, h => by cases h; exact .nil
  | (i, x) :: xs, cs, h => by
    simp only [evps] at h
    split at h
    · rename_i c ds h1 h2
      cases h
      exact .cons _ _ _ _ _ (ev_rep hg ht h1) (evps_rep hg ht h2)
    · cases h

theorem zip_setL (off : Nat) : ∀ (vs : List Value) (k : Nat) (cs : Array Value), ((vs.zipIdx k).foldl (fun cs (p : Value × Nat) => cs.setIfInBounds (off + p.2) p.1) cs).toList = setL cs.toList (off + k) vs
  | [], _, _ => rfl
  | v :: vs, k, cs => by
    rw [List.zipIdx_cons, List.foldl_cons, zip_setL off vs (k + 1)]
    simp [setL, Nat.add_assoc]
theorem zip_setL_arr (off : Nat) (vs cs : Array Value) : (vs.zipIdx.foldl (fun cs (x : Value × Nat) => match x with | (c, j) => cs.setIfInBounds (off + j) c) cs).toList = setL cs.toList off vs.toList := by
  rw [← Array.foldl_toList, Array.toList_zipIdx]
  exact zip_setL off vs.toList 0 cs

theorem fillA_sound {C : Cz} {place : Nat → Option (Nat × Nat)} : ∀ {ps : List (Nat × AV)} {qs : List (Nat × Value)} {cells r : List AV} {vs : Array Value}, RepP C ps qs → RepL C cells vs.toList → fillA place cells ps = some r →
    ∃ us : Array Value, Instr.fill place vs qs = some us ∧ RepL C r us.toList
  | _, _, _, _, vs, .nil, hr, h => by cases h; exact ⟨vs, rfl, hr⟩
  | _, _, cells, r, vs, .cons i c v cs qs hc t, hr, h => by
    simp only [fillA] at h
    split at h
    · rename_i off z hp
      split at h
      · rename_i hb
        have hcr := cellsA_rep hc
        have hl1 := hcr.length
        have hl2 := hr.length
        simp at hl1 hl2
        obtain ⟨us, hu, hru⟩ := fillA_sound (vs := v.cells.zipIdx.foldl (fun cs (x : Value × Nat) => match x with | (c, j) => cs.setIfInBounds (off + j) c) vs) t (by rw [zip_setL_arr]; exact hr.setL off hcr) h
        refine ⟨us, ?_, hru⟩
        unfold Instr.fill
        simp only [hp]
        rw [if_neg (by simp; omega)]
        exact hu
      · cases h
    · cases h

theorem fillE_sound {C : Cz} {z : Nat} : ∀ {ps : List (Nat × AV)} {qs : List (Nat × Value)} {els r : List (List AV)} {vs : Array Value}, RepP C ps qs → (∀ e ∈ els, e.length = z) → RepL C els.flatten vs.toList → fillE z els ps = some r →
    ∃ us : Array Value, Instr.fill (fun i => some (i * z, z)) vs qs = some us ∧ RepL C r.flatten us.toList ∧ (∀ e ∈ r, e.length = z) ∧ r.length = els.length
  | _, _, _, _, vs, .nil, hz, hr, h => by cases h; exact ⟨vs, rfl, hr, hz, rfl⟩
  | _, _, els, r, vs, .cons i c v cs qs hc t, hz, hr, h => by
    simp only [fillE] at h
    split at h
    · rename_i hb
      have hcr := cellsA_rep hc
      have hl1 := hcr.length
      have hl2 := hr.length
      have hfl := flat_len hz
      simp only [Array.length_toList] at hl1 hl2
      have hi : els[i]? = some els[i] := List.getElem?_eq_getElem hb.1
      have hez : els[i].length = z := hz _ (List.getElem_mem hb.1)
      have hset : (els.set i (cellsA c)).flatten = setL els.flatten (i * z) (cellsA c) := by
        have := flat_set hz hi (k := 0) (cs := cellsA c) (by omega)
        rw [setL_eq _ _ _ (by omega)] at this
        rw [List.take_zero, List.drop_of_length_le (by omega)] at this
        simpa using this
      have hmul : (i + 1) * z ≤ els.length * z := Nat.mul_le_mul_right _ hb.1
      rw [Nat.add_mul, Nat.one_mul] at hmul
      obtain ⟨us, hu, hru, hz', hl⟩ := fillE_sound (vs := v.cells.zipIdx.foldl (fun cs (x : Value × Nat) => match x with | (c, j) => cs.setIfInBounds (i * z + j) c) vs) t
        (fun e he => by
          rcases List.mem_or_eq_of_mem_set he with he | rfl
          · exact hz e he
          · exact hb.2) (by rw [zip_setL_arr, hset]; exact hr.setL _ hcr) h
      refine ⟨us, ?_, hru, hz', by simpa using hl⟩
      unfold Instr.fill
      simp only []
      rw [if_neg (by simp; omega)]
      exact hu
    · cases h

theorem zero_flat {α : Type} [Inhabited α] (zs : Array α) (n : Nat) : ((Array.range (n * zs.size)).map (zs[· % zs.size]!)).toList = (List.replicate n zs.toList).flatten := by
  have hu : ∀ e ∈ List.replicate n zs.toList, e.length = zs.size := fun e he => by rw [(List.mem_replicate.1 he).2]; simp
  apply List.ext_getElem?
  intro j
  have hfl := flat_len hu
  rw [List.length_replicate] at hfl
  by_cases hj : j < n * zs.size
  · have hz : 0 < zs.size := Nat.pos_of_ne_zero (fun h => by rw [h] at hj; omega)
    have hdiv : j / zs.size < n := Nat.div_lt_of_lt_mul (by rw [Nat.mul_comm]; exact hj)
    have hmod : j % zs.size < zs.size := Nat.mod_lt _ hz
    have hg : (List.replicate n zs.toList)[j / zs.size]? = some zs.toList := by rw [List.getElem?_replicate, if_pos hdiv]
    have h1 := flat_get hu hg
    have h2 : ((List.replicate n zs.toList).flatten.drop (j / zs.size * zs.size)).take zs.size = zs.toList := h1
    have h3 : (((List.replicate n zs.toList).flatten.drop (j / zs.size * zs.size)).take zs.size)[j % zs.size]? = zs.toList[j % zs.size]? := by rw [h2]
    rw [List.getElem?_take, if_pos hmod, List.getElem?_drop, Nat.mul_comm, Nat.div_add_mod] at h3
    rw [h3]
    simp only [Array.getElem?_toList, Array.getElem?_map]
    rw [Array.getElem?_range, if_pos hj]
    simp only [Option.map_some]
    rw [getElem!_pos zs _ hmod, Array.getElem?_eq_getElem hmod]
  · rw [List.getElem?_eq_none (by simp; omega), List.getElem?_eq_none (by omega)]

section
variable {P : Program} {C : Cz} {σ : St} {w : World} {T : TT}
theorem placesA_run (hT : TOK P T) : ∀ {fs : List (Nat × TypeId)} {ps : List (Nat × Nat)} {l : List Field}, placesA T fs = some ps → l.map (fun f => (f.offset, f.type)) = fs →
    (l.mapM fun f => (do pure (f.offset, ← sizeOf f.type) : Sem (Nat × Nat))).run P w = .ok ps w
  | [], ps, l, h, hl => by
    cases h
    have : l = [] := by simpa using hl
    subst this; rfl
  | (off, t) :: fs, ps, [], h, hl => by simp at hl
  | (off, t) :: fs, ps, f :: l, h, hl => by
    simp only [List.map_cons, List.cons.injEq, Prod.mk.injEq] at hl
    obtain ⟨⟨rfl, rfl⟩, hl⟩ := hl
    simp only [placesA] at h
    split at h
    · rename_i z qs hz hq
      cases h
      obtain ⟨ti, _, hsz, ok⟩ := szOf_ok hT hz
      have ih := placesA_run hT hq hl
      rw [List.mapM_cons]
      simp only [Sem.run_bind, ok.sizeOf w, Result.andThen_ok, Sem.run_pure, hsz, ih]
    · cases h

theorem buildA_sound (hT : TOK P T) {t : TypeId} {ps : List (Nat × AV)} {qs : Array (Nat × Value)} {r : AV} (hp : RepP C ps qs.toList) (h : buildA T t ps = some r) : Yields P C w (Instr.build t qs) r := by
  unfold buildA at h
  split at h
  · rename_i ti hti
    have ok := hT t ti hti
    obtain ⟨z, hz, hzc⟩ := ok.zeroValue w
    obtain ⟨d, hd, hok, hd'⟩ := ok.under w
    have hzr : RepL C ti.zero z.cells.toList := by rw [hzc]; exact RepL.plain ok.plain
    unfold Instr.build
    split at h
    · rename_i fs hk
      rw [hk] at hok
      obtain ⟨a, rfl, ha⟩ := hok
      split at h
      · rename_i pl hpl
        cases hq : fillA (pl[·]?) ti.zero ps with
        | none => rw [hq] at h; cases h
        | some cs =>
          rw [hq] at h; cases h
          obtain ⟨us, hu, hr⟩ := fillA_sound hp hzr hq
          refine ⟨.agg us, ?_, by simpa using Rep.agg cs us.toList hr⟩
          have hm : (a.mapM fun f => (do pure (f.offset, ← sizeOf f.type) : Sem (Nat × Nat))).run P w = .ok pl.toArray w := by
            rw [Array.mapM_eq_mapM_toList]
            simp only [Sem.run_map, placesA_run hT hpl ha, Result.andThen_ok]
          have hfun : (fun (i : Nat) => pl.toArray[i]?) = (fun (i : Nat) => pl[i]?) := by funext i; simp
          simp only [Sem.run_bind, hz, Result.andThen_ok, hd, hm, hfun, hu, Sem.run_pure]
      · cases h
    · rename_i n e hk
      rw [hk] at hok
      simp only [Kd.ok] at hok; subst hok
      split at h
      · rename_i zz hzz
        obtain ⟨ti', _, hsz, ok'⟩ := szOf_ok hT hzz
        cases hq : fillA (fun i => some (i * zz, zz)) ti.zero ps with
        | none => rw [hq] at h; cases h
        | some cs =>
          rw [hq] at h; cases h
          obtain ⟨us, hu, hr⟩ := fillA_sound hp hzr hq
          refine ⟨.agg us, ?_, by simpa using Rep.agg cs us.toList hr⟩
          simp only [Sem.run_bind, hz, Result.andThen_ok, hd, ok'.sizeOf w, hsz, hu, Sem.run_pure]
      · cases h
    · cases h
  · cases h

/-- What a step that may turn the heap does. -/
def Steps' (P : Program) (C : Cz) (w : World) (s : Sem Value) (r : AV) (σ' : St) : Prop := ∃ v w' C', s.run P w = .ok v w' ∧ C.le C' ∧ HRel C' σ' w' ∧ Rep C' r v

theorem buildSliceA_sound (hT : TOK P T) (h0 : HRel C σ w) {t : TypeId} {len : Nat} {ps : List (Nat × AV)} {qs : Array (Nat × Value)} {r : AV} {σ' : St} (hp : RepP C ps qs.toList) (h : buildSliceA T σ t len ps = some (r, σ')) :
    Steps' P C w (Instr.buildSlice t len qs) r σ' := by
  unfold buildSliceA at h
  split at h
  · rename_i e hk
    obtain ⟨_, d, _, _, _, hd, hok⟩ := kdOf_ok hT hk
    simp only [Kd.ok] at hok; subst hok
    split at h
    · rename_i ti hti
      have ok := hT e ti hti
      split at h
      · rename_i hb
        split at h
        · rename_i els hf
          cases h
          obtain ⟨z, hz, hzc⟩ := ok.zeroValue w
          have hzs : z.cells.size = ti.size := by rw [← Array.length_toList, hzc]; simp [ok.len]
          have hz0 : ∀ x ∈ List.replicate len ti.zero, x.length = ti.size := fun x hx => by rw [(List.mem_replicate.1 hx).2]; exact ok.len
          have hflat : RepL C (List.replicate len ti.zero).flatten ((Array.range (len * ti.size)).map (z.cells[· % z.cells.size]!)).toList := by
            rw [← hzs, zero_flat, hzc]
            have hp := RepL.plain (C := C) ok.plain
            clear hf hb hz0
            induction len with
            | zero => exact .nil
            | succ n ih => rw [List.replicate_succ, List.replicate_succ]; exact hp.append ih
          obtain ⟨us, hu, hru, hze, hle⟩ := fillE_sound hp hz0 hflat hf
          simp at hle
          have hul := hru.length
          rw [flat_len hze, hle] at hul
          have hrel := h0.newR ⟨e, ti.size, 0, els⟩ us.toList (0, 0) hze (by simp only [hle]; rw [List.take_of_length_le (by omega)]; exact hru) (by simp only [hle]; omega) (by simp)
          refine ⟨_, _, _, ?_, C.le_pushR _, hrel, .os _ _ _ (some ⟨w.heap.size, 0, none⟩) len (by simp [Cz.pushR, h0.nr]) (fun _ => ?_) (by simp)⟩
          · unfold Instr.buildSlice
            simp only [Sem.run_bind, run_underlying hd, Result.andThen_ok, ok.sizeOf w]
            rw [if_neg (by omega)]
            by_cases hl0 : len * ti.size = 0
            · have hl00 : len = 0 := by
                rcases Nat.mul_eq_zero.1 hl0 with h | h
                · exact h
                · omega
              subst hl00
              have e2 : ∀ f : Nat → Value, (Array.range (0 * ti.size)).map f = #[] := fun f => by
                exact Array.eq_empty_of_size_eq_zero (by simp)
              have hu' : Instr.fill (fun i => some (i * ti.size, ti.size)) #[] qs.toList = some us := by rw [e2] at hu; exact hu
              simp only [e2]
              rw [if_pos hl0]
              simp only [Sem.run_pure, Result.andThen_ok, Sem.run_bind, hu', newRow, run_newObj]
              simp
            · rw [if_neg hl0]
              simp only [Sem.run_pure, Result.andThen_ok, Sem.run_bind, hz, hu, newRow, run_newObj]
              simp
          · have e1 : (C.pushR { blk := w.heap.size, base := 0, esz := ti.size, size := us.toList.length, live := true }).row σ.rows.length = { blk := w.heap.size, base := 0, esz := ti.size, size := us.toList.length, live := true } := by
              simp only [Cz.pushR]; rw [if_pos h0.nr.symm]
            rw [e1]
            simp
            simp at hul; omega
        · cases h
      · cases h
    · cases h
  · cases h
end
end Go.Ab
namespace Go.Ab
open Go Go.RowKit

def allocA (T : TT) (σ : St) (t : TypeId) : Option (AV × St) :=
  match T t with
  | some ti => some (.vp σ.vars.length 0, σ.pushV (.cells t ti.zero))
  | none => none
def boxA (σ : St) (t : TypeId) (x : AV) : Option (AV × St) := some (.vp σ.vars.length 0, σ.pushV (.cells t (cellsA x)))

/-- The elements of what is appended. -/
def elsA (σ : St) (x : AV) : Option (List (List AV)) :=
  match x with
  | .sl els => some els
  | .nils | .ez => some []
  | .str s => some (s.map fun b => [.int .u8 b.toNat])
  | .os r off n => match σ.rows[r]? with
    | some (some row) => if off + n ≤ row.els.length then some ((row.els.drop off).take n) else none
    | _ => none
  | _ => none
def Kd.src : Kd → Bool
  | .slice _ | .str => true
  | _ => false
def appendA (T : TT) (σ : St) (st xt : TypeId) (s x : AV) : Option (AV × St) :=
  match kdOf T st, kdOf T xt with
  | some (.slice e), some k => if k.src then match T e with
    | some ti => match elsA σ x with
      | some ys => if ys.all (fun c => c.length == ti.size) && ys.all (fun c => c.all AV.one) && decide (0 < ti.size) && decide (0 < ti.bytes) then
          match s with
          | .nils => if ys = [] then some (.nils, σ) else
            if ys.length * ti.bytes ≤ 140737488355328 then some (.os σ.rows.length 0 ys.length, σ.pushR ⟨e, ti.size, 0, ys⟩) else none
          | .ez => if ys = [] then some (.ez, σ) else
            if ys.length * ti.bytes ≤ 140737488355328 then some (.os σ.rows.length 0 ys.length, σ.pushR ⟨e, ti.size, 0, ys⟩) else none
          | .sl els => if ys = [] then some (.sl els, σ) else none
          | .os r off n => match σ.rows[r]? with
            | some (some row) => if off + n ≤ row.els.length ∧ row.fz ≤ off + n ∧ row.esz = ti.size ∧ row.ety = e ∧ (n + ys.length) * ti.bytes ≤ 140737488355328 then
                some (.os σ.rows.length 0 (n + ys.length), (σ.setR r none).pushR ⟨e, ti.size, row.fz - off, (row.els.drop off).take n ++ ys⟩) else none
            | _ => none
          | _ => none
        else none
      | none => none
    | none => none else none
  | _, _ => none
def lenA (T : TT) (t : TypeId) (x : AV) : Option AV :=
  match kdOf T t, x with
  | some .str, .str s => some (.int .i64 s.length)
  | some (.slice _), .sl els => some (.int .i64 els.length)
  | some (.slice _), .nils => some (.int .i64 0)
  | some (.slice _), .ez => some (.int .i64 0)
  | some (.slice _), .os _ _ n => some (.int .i64 n)
  | some (.arr n _), _ => some (.int .i64 n)
  | _, _ => none

section
variable {P : Program} {C : Cz} {σ : St} {w : World} {T : TT}
theorem allocA_sound (hT : TOK P T) (h0 : HRel C σ w) {t : TypeId} {r : AV} {σ' : St} (h : allocA T σ t = some (r, σ')) : Steps' P C w (Instr.alloc t true (.tuple #[])) r σ' := by
  unfold allocA at h
  split at h
  · rename_i ti hti
    cases h
    have ok := hT t ti hti
    obtain ⟨z, hz, hzc⟩ := ok.zeroValue w
    have hrel := h0.pushV (.cells t ti.zero) (.cells z.cells t (0, 0)) (fun w' hw' => ⟨z.cells.toList, by simpa using hw', by rw [hzc]; exact RepL.plain ok.plain⟩)
    refine ⟨.pointer (some ⟨w.heap.size, 0, none⟩), _, _, ?_, C.le_pushV _, hrel, ?_⟩
    · unfold Instr.alloc
      simp only [Sem.run_bind, hz, Result.andThen_ok, newVar, newRow, run_newObj, Sem.run_pure]
      rfl
    · have := Rep.vp (C := C.pushV w.heap.size) σ.vars.length 0 (by simp [Cz.pushV, h0.nv])
      simpa [Cz.pushV, h0.nv] using this
  · cases h
theorem boxA_sound (h0 : HRel C σ w) {t : TypeId} {x r : AV} {X : Value} {σ' : St} (hx : Rep C x X) (h : boxA σ t x = some (r, σ')) : Steps' P C w (Instr.box t X) r σ' := by
  cases h
  have hrel := h0.pushV (.cells t (cellsA x)) (.cells X.cells t (0, 0)) (fun w' hw' => ⟨X.cells.toList, by simpa using hw', (cellsA_rep hx).mono (C.le_pushV _)⟩)
  refine ⟨.pointer (some ⟨w.heap.size, 0, none⟩), _, _, ?_, C.le_pushV _, hrel, ?_⟩
  · unfold Instr.box
    simp only [Sem.run_bind, Result.andThen_ok, newVar, newRow, run_newObj, Sem.run_pure]
    rfl
  · have := Rep.vp (C := C.pushV w.heap.size) σ.vars.length 0 (by simp [Cz.pushV, h0.nv])
    simpa [Cz.pushV, h0.nv] using this
theorem lenA_sound (hT : TOK P T) {t : TypeId} {x r : AV} {X : Value} {ts : Array TypeId} {ty : TypeId} (ht : ts[0]? = some t) (hx : Rep C x X) (h : lenA T t x = some r) : Yields P C w (Builtin.len_ ts ty #[X]) r := by
  unfold lenA at h
  have key : ∀ d n, P.underlying t = some d → (match d, X with
      | .string, .string s => n = (s.size : Int)
      | .array m _, _ => n = m
      | .slice _, .slice _ m _ => n = m
      | _, _ => False) → (Builtin.len_ ts ty #[X]).run P w = .ok (.int .i64 n) w := by
    intro d n hd hm
    unfold Builtin.len_
    have hx0 : (#[X] : Array Value)[0]? = some X := rfl
    simp only [ht, hx0]
    rw [Sem.run_bind, run_underlying hd, Result.andThen_ok]
    split at hm
    · subst hm; rfl
    · subst hm; rfl
    · subst hm; rfl
    · exact hm.elim
  split at h
  · rename_i s hk
    cases h; cases hx
    obtain ⟨_, d, _, _, _, hd, hok⟩ := kdOf_ok hT hk
    simp only [Kd.ok] at hok; subst hok
    exact ⟨_, key _ _ hd (by simp [str_size]), .int _ _⟩
  · rename_i e els hk
    cases h
    obtain ⟨_, d, _, _, _, hd, hok⟩ := kdOf_ok hT hk
    simp only [Kd.ok] at hok; subst hok
    cases hx with
    | sl0 a cap => exact ⟨_, key _ _ hd rfl, .int _ _⟩
    | sl _ z vs b o cap hz hc hr hm => exact ⟨_, key _ _ hd rfl, .int _ _⟩
  · rename_i e hk
    cases h; cases hx
    obtain ⟨_, d, _, _, _, hd, hok⟩ := kdOf_ok hT hk
    simp only [Kd.ok] at hok; subst hok
    exact ⟨_, key _ _ hd rfl, .int _ _⟩
  · rename_i e hk
    cases h; cases hx
    obtain ⟨_, d, _, _, _, hd, hok⟩ := kdOf_ok hT hk
    simp only [Kd.ok] at hok; subst hok
    exact ⟨_, key _ _ hd rfl, .int _ _⟩
  · rename_i e r off n hk
    cases h; cases hx
    obtain ⟨_, d, _, _, _, hd, hok⟩ := kdOf_ok hT hk
    simp only [Kd.ok] at hok; subst hok
    exact ⟨_, key _ _ hd rfl, .int _ _⟩
  · rename_i n e hk
    cases h
    obtain ⟨_, d, _, _, _, hd, hok⟩ := kdOf_ok hT hk
    simp only [Kd.ok] at hok; subst hok
    exact ⟨_, key _ _ hd (by cases X <;> rfl), .int _ _⟩
  · cases h

/-- What the appended elements are in the machine. -/
theorem elsA_sound (hT : TOK P T) (h0 : HRel C σ w) {x : AV} {X : Value} {ys : List (List AV)} (hx : Rep C x X) (h : elsA σ x = some ys) {xt : TypeId} {k : Kd} (hk : kdOf T xt = some k) (hks : k.src = true) (z : Nat) (hz : ∀ c ∈ ys, c.length = z) (h1 : ∀ c ∈ ys, c.all AV.one = true) :
    ∃ vs : List Value, RepL C ys.flatten vs ∧ Src P z xt X ys.length vs w := by
  obtain ⟨_, d, _, _, _, hd, hok⟩ := kdOf_ok hT hk
  have kind : (∃ e', P.underlying xt = some (.slice e')) ∨ P.underlying xt = some .string := by
    cases k <;> simp only [Kd.src] at hks <;> (try (cases hks; done)) <;> simp only [Kd.ok] at hok <;> subst hok
    · exact .inr hd
    · exact .inl ⟨_, hd⟩
  have hall : ys.flatten.all AV.one = true := by
    rw [List.all_eq_true]
    intro c hc
    obtain ⟨l, hl, hc⟩ := List.mem_flatten.1 hc
    exact List.all_eq_true.1 (h1 l hl) c hc
  have mk : ∀ vs : List Value, RepL C ys.flatten vs → (∀ w' : World, (Builtin.lenOf X).run P w' = .ok ys.length w') → (∀ w' : World, (∀ b o v, w.cell? ⟨b, o, none⟩ = some v → w'.cell? ⟨b, o, none⟩ = some v) → (Builtin.firstCells z ys.length X).run P w' = .ok vs.toArray w') →
      ∃ vs : List Value, RepL C ys.flatten vs ∧ Src P z xt X ys.length vs w := fun vs hr hl hc =>
    ⟨vs, hr, kind, hl, hc w (fun _ _ _ h => h), hc w.drew (fun _ _ _ h => h), by rw [hr.length, flat_len hz], hr.one hall⟩
  unfold elsA at h
  split at h
  · rename_i els
    cases h
    cases hx with
    | sl0 a cap =>
      refine mk [] .nil (fun _ => rfl) (fun w' _ => ?_)
      simp [Builtin.firstCells, loadCells, loadCellsFrom]
    | sl _ z' vs b o cap hz' hcap hr hm =>
      refine mk vs hr (fun _ => rfl) (fun w' hw' => ?_)
      have hl := hr.length
      rw [flat_len hz] at hl
      show (loadCells ⟨b, o, none⟩ (ys.length * z)).run P w' = _
      rw [← hl]
      exact run_loadCells_list (P := P) w' ⟨b, o, none⟩ vs (fun j v hj => by rw [Addr.add_mid]; exact hw' _ _ _ (h0.mem _ _ _ (hm j v hj)))
  · cases h; cases hx
    exact mk [] .nil (fun _ => rfl) (fun w' _ => rfl)
  · cases h
    cases hx with
    | ez a =>
      refine mk [] .nil (fun _ => rfl) (fun w' _ => ?_)
      cases a with
      | none => rfl
      | some a => simp [Builtin.firstCells, loadCells, loadCellsFrom]
  · rename_i s
    cases h; cases hx
    refine mk (s.map fun b => .int .u8 b.toNat) ?_ (fun _ => by simp [Builtin.lenOf, str_size]) (fun w' _ => ?_)
    · clear hz h1 hall mk
      induction s with
      | nil => exact .nil
      | cons b s ih => exact .cons _ _ _ _ (.int _ _) ih
    · simp only [Builtin.firstCells, List.length_map]
      have : (⟨s.toArray⟩ : ByteArray).extract 0 s.length = ⟨s.toArray⟩ := by rw [str_extract]; simp
      rw [this]
      simp
  · rename_i r off n
    split at h
    · rename_i row hrow
      split at h
      · rename_i hle
        cases h
        obtain ⟨hlive, vs, fr, hh⟩ := h0.row r row hrow
        cases hx with
        | os _ _ _ a cap hr hv =>
          obtain ⟨rfl, h2, h3⟩ := hv hlive
          have hlen : ((row.els.drop off).take n).length = n := by simp; omega
          have hrep := (hh.rep.drop (off * row.esz)).take (n * row.esz)
          rw [flat_drop off hh.uni, flat_take n (fun c hc => hh.uni c (mem_drop' hc))] at hrep
          refine mk _ hrep (fun _ => by rw [hlen]; rfl) (fun w' hw' => ?_)
          have hl := hrep.length
          rw [flat_len hz, hlen] at hl
          rw [hlen]
          show (loadCells _ (n * z)).run P w' = _
          rw [← hl]
          refine run_loadCells_list (P := P) w' _ _ (fun j v hj => ?_)
          rw [Addr.add_mid]
          apply hw'
          rw [cell_heap hh.heap, hh.esz]
          have h1 := take_drop_get hj
          rw [List.getElem?_take] at h1
          split at h1
          · rw [List.getElem?_drop] at h1
            rw [← h1]; congr 1; omega
          · cases h1
      · cases h
    · cases h
  · cases h

theorem row_after (us vs : List Value) (b k m : Nat) (h : b + k + vs.length ≤ us.length) (hm : m = vs.length) : ((setL us (b + k) vs).drop b).take (k + m) = (us.drop b).take k ++ vs := by
  subst hm
  rw [take_drop_setL us b k (k + vs.length) vs (Nat.le_refl _) (by omega), setL_eq _ _ _ (by simp; omega), List.take_take, Nat.min_eq_left (by omega)]
  have e : ((us.drop b).take (k + vs.length)).drop (k + vs.length) = [] := List.drop_of_length_le (by simp; omega)
  rw [e, List.append_nil]

/-- A row of what there was and what comes, in a block that is made. -/
theorem grow_rel (h0 : HRel C σ w) {e : TypeId} {z : Nat} {ys : List (List AV)} {vs : List Value} {rest : Array Value} {fz : Nat} (hz : ∀ c ∈ ys, c.length = z) (hr : RepL C ys.flatten vs) (hm : ∃ m, vs.length + rest.size = m * z ∧ ys.length ≤ m) :
    ∃ C' m, C.le C' ∧ HRel C' (σ.pushR ⟨e, z, fz, ys⟩) (w.drew.alloc (.cells (vs.toArray ++ rest) e)) ∧ vs.length + rest.size = m * z ∧ ys.length ≤ m ∧
      ∀ cap, cap = m → ys.length ≤ cap → Rep C' (.os σ.rows.length 0 ys.length) (.slice (some ⟨w.heap.size, 0, none⟩) ys.length cap) := by
  obtain ⟨m, hm1, hm2⟩ := hm
  have hvl := hr.length
  rw [flat_len hz] at hvl
  have e1 : (vs.toArray ++ rest) = (vs ++ rest.toList).toArray := by apply Array.ext'; simp
  have hrel := h0.drew.newR ⟨e, z, fz, ys⟩ (vs ++ rest.toList) (0, 0) hz (by simp only [← hvl]; rw [List.take_left]; exact hr) (by simp; omega) (by simp)
  rw [← e1] at hrel
  refine ⟨_, m, C.le_pushR _, hrel, hm1, hm2, fun cap hcap hle => .os _ _ _ _ cap (by simp [Cz.pushR, h0.nr]) (fun _ => ?_) (by simp)⟩
  have e2 : ∀ rc, (C.pushR rc).row σ.rows.length = rc := fun rc => by simp only [Cz.pushR]; rw [if_pos h0.nr.symm]
  rw [e2]
  subst hcap
  simp
  omega

theorem appendA_sound (hT : TOK P T) (h0 : HRel C σ w) {st xt ty : TypeId} {s x r : AV} {S X : Value} {σ' : St} (hs : Rep C s S) (hx : Rep C x X) (h : appendA T σ st xt s x = some (r, σ')) :
    Steps' P C w (Builtin.append_ #[st, xt] ty #[S, X]) r σ' := by
  unfold appendA at h
  split at h
  · rename_i e k hk hkx
    split at h
    · rename_i hsrc
      split at h
      · rename_i ti hti
        split at h
        · rename_i ys hys
          split at h
          · rename_i hchk
            simp only [Bool.and_eq_true, decide_eq_true_eq] at hchk
            obtain ⟨⟨⟨hz', h1'⟩, hsz0⟩, hb0⟩ := hchk
            have hz : ∀ c ∈ ys, c.length = ti.size := fun c hc => by simpa using List.all_eq_true.1 hz' c hc
            have h1 : ∀ c ∈ ys, c.all AV.one = true := fun c hc => List.all_eq_true.1 h1' c hc
            obtain ⟨_, d, _, _, _, hd, hok⟩ := kdOf_ok hT hk
            simp only [Kd.ok] at hok; subst hok
            have ok := hT e ti hti
            obtain ⟨i, zv, hi, his, hib, hiz, hzc⟩ := ok.info
            have hzs : zv.cells.size = ti.size := by rw [← Array.length_toList, hzc]; simp [ok.len]
            obtain ⟨vs, hvr, hsrcV⟩ := elsA_sound hT h0 hx hys hkx hsrc ti.size hz h1
            rw [← his] at hsrcV
            have hvl := hvr.length
            rw [flat_len hz] at hvl
            have empty : ys = [] → ∀ (a : Option Addr) (n cap : Nat), n ≤ cap → (Builtin.append_ #[st, xt] ty #[.slice a n cap, X]).run P w = .ok (.slice a n cap) w := by
              intro hy a n cap hle
              subst hy
              cases hvr
              exact run_append_nothing w st xt ty e i hd hi a n cap hle X hsrcV
            have fresh : ys ≠ [] → ys.length * ti.bytes ≤ 140737488355328 → ∀ a : Option Addr, S = .slice a 0 0 →
                Steps' P C w (Builtin.append_ #[st, xt] ty #[S, X]) (.os σ.rows.length 0 ys.length) (σ.pushR ⟨e, ti.size, 0, ys⟩) := by
              intro hne hle a hS
              subst hS
              have hpos : 0 < ys.length := by
                rcases Nat.eq_zero_or_pos ys.length with h | h
                · exact absurd (List.eq_nil_of_length_eq_zero h) hne
                · exact h
              have hlen63 : ys.length ≤ 140737488355328 := Nat.le_trans (Nat.le_mul_of_pos_right _ hb0) hle
              have hold : (Builtin.firstCells i.size 0 (.slice a 0 0)).run P w.drew = .ok ([] : List Value).toArray w.drew := by
                cases a with
                | none => rfl
                | some a => simp [Builtin.firstCells, loadCells, loadCellsFrom]
              have hrun := run_append_grow_src w st xt ty e i zv hd hi hiz a 0 0 [] hold X ys.length vs hsrcV (by omega) (by omega) (growslice_fits (by omega) (by rw [hib]; simpa using hle))
              simp only [Nat.zero_add, List.nil_append] at hrun
              have hg := grownCap_ge w ys.length 0 e
              have hzcs : (Builtin.zeroCells zv.cells (grownCap w ys.length 0 e - ys.length)).size = (grownCap w ys.length 0 e - ys.length) * ti.size := by simp [Builtin.zeroCells, hzs]
              obtain ⟨C', m, hle', hrel, hm1, hm2, hrep⟩ := grow_rel h0 (e := e) (rest := Builtin.zeroCells zv.cells (grownCap w ys.length 0 e - ys.length)) (fz := 0) hz hvr ⟨grownCap w ys.length 0 e, by rw [hzcs, hvl, ← Nat.add_mul]; congr 1; omega, hg⟩
              have hmc : m = grownCap w ys.length 0 e := by
                rw [hzcs, hvl, ← Nat.add_mul] at hm1
                have := Nat.eq_of_mul_eq_mul_right hsz0 hm1
                omega
              exact ⟨_, _, C', hrun, hle', hrel, hrep _ hmc.symm (by omega)⟩
            split at h
            · cases hs
              split at h
              · rename_i hy
                cases h
                exact ⟨_, _, C, empty hy _ _ _ (Nat.le_refl _), Cz.le.refl C, h0, .nils⟩
              · rename_i hy
                split at h
                · rename_i hle
                  cases h
                  exact fresh hy hle none rfl
                · cases h
            · split at h
              · rename_i hy
                cases h
                cases hs with
                | ez a => exact ⟨_, _, C, empty hy _ _ _ (Nat.le_refl _), Cz.le.refl C, h0, .ez a⟩
              · rename_i hy
                split at h
                · rename_i hle
                  cases h
                  cases hs with
                  | ez a => exact fresh hy hle a rfl
                · cases h
            · rename_i els
              split at h
              · rename_i hy
                cases h
                cases hs with
                | sl0 a cap => exact ⟨_, _, C, empty hy _ _ _ (Nat.zero_le _), Cz.le.refl C, h0, .sl0 a cap⟩
                | sl _ z vs' b o cap hz2 hcap hr hm => exact ⟨_, _, C, empty hy _ _ _ hcap, Cz.le.refl C, h0, .sl _ z vs' b o cap hz2 hcap hr hm⟩
              · cases h
            · rename_i r0 off n
              split at h
              · rename_i row hrow
                split at h
                · rename_i hc
                  cases h
                  obtain ⟨hc1, hc2, hc3, hc4, hc5⟩ := hc
                  obtain ⟨hlive, us, fr, hh⟩ := h0.row r0 row hrow
                  have hlv : σ.live r0 := ⟨row, hrow⟩
                  cases hs with
                  | os _ _ _ a cap hr hv =>
                    obtain ⟨rfl, h2, h3⟩ := hv hlive
                    have hesz := hh.esz
                    rw [hesz, hc3] at h2
                    have hfit := hh.fits
                    have hsize := hh.size
                    have huni : ∀ c ∈ (row.els.drop off).take n ++ ys, c.length = ti.size := fun c hcm => by
                      rcases List.mem_append.1 hcm with hcm | hcm
                      · rw [← hc3]; exact hh.uni c (mem_drop' (mem_take' hcm))
                      · exact hz c hcm
                    have holdlen : ((row.els.drop off).take n).length = n := by simp; omega
                    have hnewlen : ((row.els.drop off).take n ++ ys).length = n + ys.length := by rw [List.length_append, holdlen]
                    have hlen63 : n + ys.length ≤ 140737488355328 := Nat.le_trans (Nat.le_mul_of_pos_right _ hb0) hc5
                    have hkill := h0.kill r0
                    have hkle := C.le_kill r0
                    have hoffn : off * ti.size + n * ti.size ≤ row.els.length * ti.size := by rw [← Nat.add_mul]; exact Nat.mul_le_mul_right _ hc1
                    rw [hc3] at hfit
                    by_cases hroom : n + ys.length ≤ cap
                    · have hcapm : (n + ys.length) * ti.size ≤ cap * ti.size := Nat.mul_le_mul_right _ hroom
                      rw [Nat.add_mul] at hcapm
                      have hfree : ∀ j, j < vs.length → w.frozen? ⟨(C.row r0).blk, (C.row r0).base + off * (C.row r0).esz + n * i.size + j, none⟩ = false := fun j hj => by
                        rw [frozen_heap hh.heap, hesz, hc3, his]
                        have hfz : row.fz * row.esz ≤ (off + n) * row.esz := Nat.mul_le_mul_right _ hc2
                        rw [hc3, Nat.add_mul] at hfz
                        have := hh.free ((C.row r0).base + off * ti.size + n * ti.size + j) (by rw [hc3]; omega) (by omega)
                        rw [← Bool.not_eq_true, Bool.and_eq_true, decide_eq_true_eq, decide_eq_true_eq]; exact this
                      have hrun := run_append_room_src w st xt ty e i hd hi (C.row r0).blk ((C.row r0).base + off * (C.row r0).esz) n cap X ys.length vs hsrcV hroom
                        (fun j hj => by rw [cell_heap hh.heap, hesz, hc3, his, List.getElem?_eq_getElem (by omega)]; rfl) hfree
                      have hbk := h0.free_kill hlv
                      let rc : RowC := ⟨(C.row r0).blk, (C.row r0).base + off * ti.size, ti.size, (C.row r0).size, true⟩
                      have hpos : (C.row r0).base + off * (C.row r0).esz + n * i.size = (C.row r0).base + off * ti.size + n * ti.size := by rw [hesz, hc3, his]
                      have hrel := hkill.pushR ⟨e, ti.size, row.fz - off, (row.els.drop off).take n ++ ys⟩ rc rfl hbk (w' := w.setCells (C.row r0).blk ((C.row r0).base + off * (C.row r0).esz + n * i.size) vs)
                        (fun k _ hk => heap_setCells_other hk _ _ _) (by rw [size_setCells]; exact h0.hb) (below_setCells (h0.rbase r0 hlv) _ _ _ h0.below)
                        (vs := setL us ((C.row r0).base + off * ti.size + n * ti.size) vs) (fr := fr)
                        ⟨by rw [hpos, ← hc4]; exact heap_setCells vs _ w us hh.heap, by rw [length_setL]; exact hsize, rfl, huni, by
                          simp only [hnewlen, rc]; rw [Nat.add_mul]; omega, by
                          simp only [hnewlen, rc]
                          rw [Nat.add_mul, row_after us vs _ _ _ (by omega) hvl.symm, List.flatten_append]
                          refine RepL.mono hkle (RepL.append ?_ hvr)
                          have hrep := (hh.rep.drop (off * row.esz)).take (n * row.esz)
                          rw [flat_drop off hh.uni, flat_take n (fun c hc => hh.uni c (mem_drop' hc))] at hrep
                          rw [hc3] at hrep
                          have e3 : ((us.drop (C.row r0).base).take (row.els.length * ti.size)).drop (off * ti.size) = (us.drop ((C.row r0).base + off * ti.size)).take (row.els.length * ti.size - off * ti.size) := by
                            rw [List.drop_take, List.drop_drop]
                          rw [e3, List.take_take, Nat.min_eq_left (by omega)] at hrep
                          exact hrep, by
                          intro o h5 h6
                          simp only [rc] at h5 h6
                          refine hh.free o ?_ h6
                          rw [hc3]
                          have : row.fz * ti.size ≤ off * ti.size + (row.fz - off) * ti.size := by rw [← Nat.add_mul]; exact Nat.mul_le_mul_right _ (by omega)
                          omega⟩
                      refine ⟨_, _, _, hrun, hkle.trans (Cz.le_pushR _ rc), hrel, .os _ _ _ _ cap (by simp [Cz.pushR, Cz.kill, h0.nr]) (fun _ => ?_) (by simp)⟩
                      have e2 : ((C.kill r0).pushR rc).row σ.rows.length = rc := by simp only [Cz.pushR]; rw [if_pos (by simp [Cz.kill, h0.nr])]
                      rw [e2]
                      simp only [rc, hesz, hc3, Nat.zero_mul, Nat.add_zero]
                      exact ⟨trivial, by omega, hroom⟩
                    · have hfc : (Builtin.firstCells i.size n (.slice (some ⟨(C.row r0).blk, (C.row r0).base + off * (C.row r0).esz, none⟩) n cap)).run P w.drew = .ok ((us.drop ((C.row r0).base + off * ti.size)).take (n * ti.size)).toArray w.drew := by
                        refine run_firstCells_some w.drew i.size n _ n cap _ (by rw [his]; simp; omega) (fun j v hj => ?_)
                        rw [Addr.add_mid]
                        show w.cell? _ = _
                        rw [cell_heap hh.heap, hesz, hc3]
                        exact take_drop_get hj
                      have hrun := run_append_grow_src w st xt ty e i zv hd hi hiz _ n cap _ hfc X ys.length vs hsrcV (by omega) (by omega) (growslice_fits (by omega) (by rw [hib]; exact hc5))
                      have hg := grownCap_ge w (n + ys.length) cap e
                      have hrepo : RepL C ((row.els.drop off).take n).flatten ((us.drop ((C.row r0).base + off * ti.size)).take (n * ti.size)) := by
                        have hrep := (hh.rep.drop (off * row.esz)).take (n * row.esz)
                        rw [flat_drop off hh.uni, flat_take n (fun c hc => hh.uni c (mem_drop' hc))] at hrep
                        rw [hc3] at hrep
                        have e3 : ((us.drop (C.row r0).base).take (row.els.length * ti.size)).drop (off * ti.size) = (us.drop ((C.row r0).base + off * ti.size)).take (row.els.length * ti.size - off * ti.size) := by
                          rw [List.drop_take, List.drop_drop]
                        rw [e3, List.take_take, Nat.min_eq_left (by omega)] at hrep
                        exact hrep
                      have hzcs : (Builtin.zeroCells zv.cells (grownCap w (n + ys.length) cap e - (n + ys.length))).size = (grownCap w (n + ys.length) cap e - (n + ys.length)) * ti.size := by simp [Builtin.zeroCells, hzs]
                      have hol : ((us.drop ((C.row r0).base + off * ti.size)).take (n * ti.size)).length = n * ti.size := by simp; omega
                      obtain ⟨C', m, hle', hrel, hm1, hm2, hrep⟩ := grow_rel hkill (e := e) (rest := Builtin.zeroCells zv.cells (grownCap w (n + ys.length) cap e - (n + ys.length))) (fz := row.fz - off) huni
                        (by rw [List.flatten_append]; exact RepL.mono hkle (hrepo.append hvr)) ⟨grownCap w (n + ys.length) cap e, by rw [List.length_append, hol, hvl, hzcs, ← Nat.add_mul, ← Nat.add_mul]; congr 1; omega, by rw [hnewlen]; exact hg⟩
                      have hmc : m = grownCap w (n + ys.length) cap e := by
                        rw [List.length_append, hol, hvl, hzcs, ← Nat.add_mul, ← Nat.add_mul] at hm1
                        have := Nat.eq_of_mul_eq_mul_right hsz0 hm1
                        omega
                      have hfin := hrep _ hmc.symm (by rw [hnewlen]; exact hg)
                      rw [hnewlen] at hfin
                      have hrl : (σ.setR r0 none).rows.length = σ.rows.length := by simp [St.setR]
                      rw [hrl] at hfin
                      exact ⟨_, _, C', hrun, hkle.trans hle', hrel, hfin⟩
                · cases h
              · cases h
            · cases h
          · cases h
        · cases h
      · cases h
    · cases h
  · cases h
end
end Go.Ab
namespace Go.Ab
open Go Go.RowKit

def liveA (σ : St) (x : AV) : Bool :=
  match x with
  | .op r _ _ | .os r _ _ => match σ.rows[r]? with
    | some (some _) => true
    | _ => false
  | _ => true
def evo (G : GT) (t : List AV) : Option Operand → Option (Option AV)
  | none => some none
  | some x => (ev G t x).map some

/-- An operation that turns no memory. -/
def opP (T : TT) (G : GT) (t : List AV) (σ : St) (op : Op) : Option AV :=
  match op with
  | .move x => ev G t x
  | .assign x => ev G t x
  | .pick c a b => match ev G t c with
    | some (.bool true) => ev G t a
    | some (.bool false) => ev G t b
    | _ => none
  | .build ty parts => match evps G t parts.toList with
    | some ps => buildA T ty ps
    | none => none
  | .load ty a => match ev G t a with
    | some c => loadA T σ ty c
    | none => none
  | .nilCheck x => match ev G t x with
    | some c => nilA σ c
    | none => none
  | .binOp op xt x y _ => match ev G t x, ev G t y with
    | some a, some b => binA T op xt (isC x) (isC y) a b
    | _, _ => none
  | .unOp op _ x => match ev G t x with
    | some a => unA op a
    | none => none
  | .convert s d x => match ev G t x with
    | some a => cvtA T s d a
    | none => none
  | .makeInterface ty x => match ev G t x with
    | some a => ifcA T ty a
    | none => none
  | .makeFunc f first cap => match evs G t first.toList, evs G t cap.toList with
    | some a, some b => some (.fn f a b)
    | _, _ => none
  | .slice ty x lo hi mx => match ev G t x, evo G t lo, evo G t hi, evo G t mx with
    | some a, some l, some h, some m => if liveA σ a then sliceA T σ ty a l h m else none
    | _, _, _, _ => none
  | .fieldAddr ty x f => match ev G t x with
    | some a => if liveA σ a then fieldAddrA T ty a f else none
    | none => none
  | .field ty x f => match ev G t x with
    | some a => fieldA T ty a f
    | none => none
  | .indexAddr ty x i => match ev G t x, ev G t i with
    | some a, some b => indexAddrA T ty σ a b
    | _, _ => none
  | .index ty x i => match ev G t x, ev G t i with
    | some a, some b => indexA T ty a b
    | _, _ => none
  | .extract x i => match ev G t x with
    | some a => extrA a i
    | none => none
  | .call c => match c.callee, c.args.toList, c.argTypes.toList with
    | .builtin .len, [x], ty :: _ => match ev G t x with
      | some a => lenA T ty a
      | none => none
    | _, _, _ => none
  | _ => none
/-- An operation that makes or writes memory. -/
def opM (T : TT) (G : GT) (t : List AV) (σ : St) (op : Op) : Option (AV × St) :=
  match op with
  | .alloc ty => allocA T σ ty
  | .box ty x => match ev G t x with
    | some a => boxA σ ty a
    | none => none
  | .buildSlice ty len parts => match evps G t parts.toList with
    | some ps => buildSliceA T σ ty len ps
    | none => none
  | .store ty a x => match ev G t a, ev G t x with
    | some p, some c => match storeA T σ ty p c with
      | some σ' => some (.tup [], σ')
      | none => none
    | _, _ => none
  | .call c => match c.callee, c.args.toList, c.argTypes.toList with
    | .builtin .append, [s, x], [ts, tx] => match ev G t s, ev G t x with
      | some a, some b => appendA T σ ts tx a b
      | _, _ => none
    | _, _, _ => none
  | _ => none

section
variable {P : Program} {C : Cz} {σ : St} {w : World} {T : TT} {G : GT} {t : List AV} {a : Act}

theorem evo_rep (hg : GOK G C) (ht : RepL C t a.tmps.toList) {x : Option Operand} {c : Option AV} (h : evo G t x = some c) : RepO C c (x.map a.eval) := by
  cases x with
  | none => cases h; exact .none
  | some x =>
    simp only [evo] at h
    cases hq : ev G t x with
    | none => rw [hq] at h; cases h
    | some c' => rw [hq] at h; cases h; exact .some _ _ (ev_rep hg ht hq)
theorem liveA_op {x : AV} (h : liveA σ x = true) : (∀ rr i k, x = AV.op rr i k → σ.live rr) ∧ (∀ rr off n, x = AV.os rr off n → σ.live rr) := by
  constructor
  · rintro rr i k rfl
    simp only [liveA] at h
    split at h
    · rename_i row hr; exact ⟨row, hr⟩
    · cases h
  · rintro rr i k rfl
    simp only [liveA] at h
    split at h
    · rename_i row hr; exact ⟨row, hr⟩
    · cases h

theorem opP_sound (hT : TOK P T) (h0 : HRel C σ w) (hg : GOK G C) (ht : RepL C t a.tmps.toList) {o : Oper} {r : AV} (h : opP T G t σ o.op = some r) :
    ∃ v, (execOp a.eval o).run P w = .ok (.value v) w ∧ Rep C r v := by
  have lift : ∀ s : Sem Value, Yields P C w s r → execOp a.eval o = (do pure (.value (← s))) → ∃ v, (execOp a.eval o).run P w = .ok (.value v) w ∧ Rep C r v := by
    rintro s ⟨v, hv, hr⟩ e
    exact ⟨v, by rw [e, Sem.run_bind, hv]; rfl, hr⟩
  unfold opP at h
  split at h
  · rename_i x hop
    exact ⟨_, by unfold execOp; rw [hop]; rfl, ev_rep hg ht h⟩
  · rename_i x hop
    exact ⟨_, by unfold execOp; rw [hop]; rfl, ev_rep hg ht h⟩
  · rename_i c x y hop
    split at h
    · rename_i hc
      have hcr := ev_rep hg ht hc
      have hce : a.eval c = .bool true := by generalize a.eval c = V at hcr; cases hcr; rfl
      exact ⟨_, by unfold execOp; rw [hop]; simp only [hce]; rfl, ev_rep hg ht h⟩
    · rename_i hc
      have hcr := ev_rep hg ht hc
      have hce : a.eval c = .bool false := by generalize a.eval c = V at hcr; cases hcr; rfl
      exact ⟨_, by unfold execOp; rw [hop]; simp only [hce]; rfl, ev_rep hg ht h⟩
    · cases h
  · rename_i ty parts hop
    split at h
    · rename_i ps hps
      refine lift _ (buildA_sound (qs := parts.map fun (i, x) => (i, a.eval x)) hT ?_ h) (by unfold execOp; rw [hop])
      have := evps_rep hg ht hps
      simpa using this
    · cases h
  · rename_i ty x hop
    split at h
    · rename_i c hc
      obtain ⟨v, hv, hr⟩ := loadA_sound hT h0 (ev_rep hg ht hc) h
      exact lift _ ⟨v, hv, hr⟩ (by unfold execOp; rw [hop])
    · cases h
  · rename_i x hop
    split at h
    · rename_i c hc
      obtain ⟨rfl, hrun⟩ := nilA_sound h0 (ev_rep hg ht hc) h
      exact ⟨_, hrun P o a.eval x hop rfl, ev_rep hg ht hc⟩
    · cases h
  · rename_i op xt x y yt hop
    split at h
    · rename_i c d hc hd
      exact lift _ (binA_sound hT (ev_rep hg ht hc) (ev_rep hg ht hd) h) (by unfold execOp; rw [hop])
    · cases h
  · rename_i op xt x hop
    split at h
    · rename_i c hc
      exact lift _ (unA_sound (ev_rep hg ht hc) h) (by unfold execOp; rw [hop])
    · cases h
  · rename_i s d x hop
    split at h
    · rename_i c hc
      exact lift _ (cvtA_sound hT (ev_rep hg ht hc) h) (by unfold execOp; rw [hop])
    · cases h
  · rename_i ty x hop
    split at h
    · rename_i c hc
      exact lift _ (ifcA_sound hT (ev_rep hg ht hc) h) (by unfold execOp; rw [hop])
    · cases h
  · rename_i f first cap hop
    split at h
    · rename_i c d hc hd
      cases h
      refine lift _ ⟨_, rfl, ?_⟩ (by unfold execOp; rw [hop])
      have h1 := evs_rep hg ht hc
      have h2 := evs_rep hg ht hd
      have := Rep.fn f _ _ _ _ h1 h2
      have e1 : (first.toList.map a.eval).toArray = first.map a.eval := by apply Array.ext'; simp
      have e2 : (cap.toList.map a.eval).toArray = cap.map a.eval := by apply Array.ext'; simp
      rwa [e1, e2] at this
    · cases h
  · rename_i ty x lo hi mx hop
    split at h
    · rename_i c l hh m hc hl hhh hm
      split at h
      · rename_i hlive
        exact lift _ (sliceA_sound hT h0 (liveA_op hlive).2 (ev_rep hg ht hc) (evo_rep hg ht hl) (evo_rep hg ht hhh) (evo_rep hg ht hm) h) (by unfold execOp; rw [hop])
      · cases h
    · cases h
  · rename_i ty x f hop
    split at h
    · rename_i c hc
      split at h
      · rename_i hlive
        exact lift _ (fieldAddrA_sound hT h0 (liveA_op hlive).1 (ev_rep hg ht hc) h) (by unfold execOp; rw [hop])
      · cases h
    · cases h
  · rename_i ty x f hop
    split at h
    · rename_i c hc
      exact lift _ (fieldA_sound hT (ev_rep hg ht hc) h) (by unfold execOp; rw [hop])
    · cases h
  · rename_i ty x i hop
    split at h
    · rename_i c d hc hd
      exact lift _ (indexAddrA_sound hT h0 (ev_rep hg ht hc) (ev_rep hg ht hd) h) (by unfold execOp; rw [hop])
    · cases h
  · rename_i ty x i hop
    split at h
    · rename_i c d hc hd
      exact lift _ (indexA_sound hT (ev_rep hg ht hc) (ev_rep hg ht hd) h) (by unfold execOp; rw [hop])
    · cases h
  · rename_i x i hop
    split at h
    · rename_i c hc
      exact lift _ (extrA_sound (ev_rep hg ht hc) h) (by unfold execOp; rw [hop])
    · cases h
  · rename_i c hop
    split at h
    · rename_i x ty tys hcal hargs htys
      split at h
      · rename_i d hd
        have ha : c.args = #[x] := by apply Array.ext'; simpa using hargs
        have hts : c.argTypes[0]? = some ty := by rw [← Array.getElem?_toList, htys]; rfl
        obtain ⟨v, hv, hr⟩ := lenA_sound (P := P) (w := w) hT (ty := o.type) hts (ev_rep hg ht hd) h
        refine ⟨v, ?_, hr⟩
        unfold execOp
        rw [hop]
        simp only [resolve, hcal, ha, invoke, Sem.run_bind, Sem.run_pure, Result.andThen_ok, builtin]
        simp only [List.map_toArray, List.map_cons, List.map_nil]
        have hv' : (Builtin.len_ c.argTypes o.type #[a.eval x]).run P w = .ok v w := hv
        simp [hv']
      · cases h
    · cases h
  · cases h

theorem opM_sound (hT : TOK P T) (h0 : HRel C σ w) (hg : GOK G C) (ht : RepL C t a.tmps.toList) {o : Oper} {r : AV} {σ' : St} (h : opM T G t σ o.op = some (r, σ')) :
    ∃ n v w' C', (execOp a.eval o).run P w = .ok n w' ∧ (n = .value v ∨ n = .skip ∧ v = undef) ∧ C.le C' ∧ HRel C' σ' w' ∧ Rep C' r v := by
  have lift : ∀ s : Sem Value, Steps' P C w s r σ' → execOp a.eval o = (do pure (.value (← s))) → ∃ n v w' C', (execOp a.eval o).run P w = .ok n w' ∧ (n = .value v ∨ n = .skip ∧ v = undef) ∧ C.le C' ∧ HRel C' σ' w' ∧ Rep C' r v := by
    rintro s ⟨v, w', C', hv, hle, hrel, hr⟩ e
    exact ⟨_, v, w', C', by rw [e, Sem.run_bind, hv]; rfl, .inl rfl, hle, hrel, hr⟩
  unfold opM at h
  split at h
  · rename_i ty hop
    exact lift _ (allocA_sound hT h0 h) (by unfold execOp; rw [hop])
  · rename_i ty x hop
    split at h
    · rename_i c hc
      exact lift _ (boxA_sound h0 (ev_rep hg ht hc) h) (by unfold execOp; rw [hop])
    · cases h
  · rename_i ty len parts hop
    split at h
    · rename_i ps hps
      refine lift _ (buildSliceA_sound (qs := parts.map fun (i, x) => (i, a.eval x)) hT h0 ?_ h) (by unfold execOp; rw [hop])
      have := evps_rep hg ht hps
      simpa using this
    · cases h
  · rename_i ty p x hop
    split at h
    · rename_i c d hc hd
      split at h
      · rename_i σ1 hs
        cases h
        obtain ⟨w', hw, hrel⟩ := storeA_sound hT h0 (ev_rep hg ht hc) (ev_rep hg ht hd) hs
        exact ⟨_, undef, w', C, by unfold execOp; rw [hop]; simp only [Sem.run_bind, hw]; rfl, .inr ⟨rfl, rfl⟩, Cz.le.refl C, hrel, .tup [] [] .nil⟩
      · cases h
    · cases h
  · rename_i c hop
    split at h
    · rename_i s x ts tx hcal hargs htys
      split at h
      · rename_i d e hd he
        have ha : c.args = #[s, x] := by apply Array.ext'; simpa using hargs
        have hts : c.argTypes = #[ts, tx] := by apply Array.ext'; simpa using htys
        obtain ⟨v, w', C', hv, hle, hrel, hr⟩ := appendA_sound (P := P) (w := w) hT h0 (ty := o.type) (ev_rep hg ht hd) (ev_rep hg ht he) h
        refine ⟨_, v, w', C', ?_, .inl rfl, hle, hrel, hr⟩
        unfold execOp
        rw [hop]
        simp only [resolve, hcal, ha, hts, invoke, Sem.run_bind, Sem.run_pure, Result.andThen_ok, builtin]
        simp only [List.map_toArray, List.map_cons, List.map_nil]
        have hv' : (Builtin.append_ #[ts, tx] o.type #[a.eval s, a.eval x]).run P w = .ok v w' := hv
        simp [hv']
      · cases h
    · cases h
  · cases h
end
end Go.Ab
namespace Go.Ab
open Go Go.RowKit

inductive MO where
  | rng
  | nxt
  | mx
  | mn
  | s2b (e : TypeId)
  | b2s (t : TypeId)
  | mksl (e : TypeId) (z bytes : Nat) (zero : List AV)
  | capn
  | bad
  | cpy
def Kd.isU8 : Kd → Bool
  | .int .u8 => true
  | _ => false
def Kd.elem : Kd → Option TypeId
  | .slice e => some e
  | _ => none
def Kd.isStr : Kd → Bool
  | .str => true
  | _ => false
/-- Which one it is, and of what. -/
def moreOf (T : TT) (op : Op) : Option (MO × List Operand) :=
  match op with
  | .range t x => match kdOf T t with
    | some k => if k.isStr then some (.rng, [x]) else none
    | none => none
  | .next it s => if s then some (.nxt, [it]) else none
  | .convert s d x => match kdOf T s, kdOf T d with
    | some ks, some kd => if ks.isStr then (match kd.elem with
        | some e => match kdOf T e with
          | some ke => if ke.isU8 then some (.s2b e, [x]) else none
          | none => none
        | none => none)
      else if kd.isStr then (match ks.elem with
        | some e => match kdOf T e with
          | some ke => if ke.isU8 then some (.b2s s, [x]) else none
          | none => none
        | none => none) else none
    | _, _ => none
  | .call c => match c.callee with
    | .builtin .max => some (.mx, c.args.toList)
    | .builtin .min => some (.mn, c.args.toList)
    | .builtin .cap => match c.argTypes[0]? with
      | some t => match kdOf T t with
        | some k => if k.elem.isSome then some (.capn, c.args.toList) else none
        | none => none
      | none => none
    | .builtin .copy => match c.argTypes[0]? with
      | some t => match kdOf T t with
        | some (.slice e) => match szOf T e with
          | some z => if z = 1 then some (.cpy, c.args.toList) else none
          | none => none
        | _ => none
      | none => none
    | _ => none
  | .makeSlice t l c => match kdOf T t with
    | some k => match k.elem with
      | some e => match T e with
        | some ti => if decide (0 < ti.size) && decide (0 < ti.bytes) then some (.mksl e ti.size ti.bytes ti.zero, [l, c]) else none
        | none => none
      | none => none
    | none => none
  | .panic _ => some (.bad, [])
  | _ => none
def maxI : List AV → Option AV
  | [.int k x] => some (.int k x)
  | [.int k x, .int _ y] => some (.int k (if y > x then y else x))
  | _ => none
def minI : List AV → Option AV
  | [.int k x] => some (.int k x)
  | [.int k x, .int _ y] => some (.int k (if y < x then y else x))
  | _ => none
def unB : List (List AV) → Option (List UInt8)
  | [] => some []
  | [.int .u8 n] :: r => (unB r).map (UInt8.ofNat n.toNat :: ·)
  | _ => none
def b2sX (σ : St) (x : AV) : Option AV :=
  match x with
  | .str _ => none
  | x => match elsA σ x with
    | some ys => (unB ys).map .str
    | none => none
/-- One element after the other is written. -/
def cpyX (r : Nat) : St → Nat → List (List AV) → Option St
  | σ, _, [] => some σ
  | σ, i, c :: cs => match stAt σ (.op r i 0) c with
    | some σ' => cpyX r σ' (i + 1) cs
    | none => none
def cpyG (σ : St) (r off n : Nat) (ys : List (List AV)) : Option (AV × St) :=
  if ys.length ≤ n ∧ rowEsz σ r = some 1 ∧ ys.all (fun c => c.length == 1) = true ∧ ys.all (fun c => c.all AV.one) = true then (cpyX r σ off ys).map fun σ' => (.int .i64 ys.length, σ') else none
def moreX (m : MO) (σ : St) (as : List AV) : Option (AV × St) :=
  match m with
  | .rng => match as with
    | [.str s] => some (.vp σ.vars.length 0, σ.pushV (.siter s 0))
    | _ => none
  | .nxt => match as with
    | [.vp b 0] => match σ.vars[b]? with
      | some (.siter s pos) => if pos < s.length then
          some (.tup [.bool true, .int .i64 pos, .int .i32 (Utf8.decode ⟨s.toArray⟩ pos).1], σ.setV b (.siter s (pos + (Utf8.decode ⟨s.toArray⟩ pos).2)))
        else some (.tup [.bool false], σ)
      | _ => none
    | _ => none
  | .mx => (maxI as).map fun r => (r, σ)
  | .mn => (minI as).map fun r => (r, σ)
  | .s2b e => match as with
    | [.str s] => some (.os σ.rows.length 0 s.length, σ.pushR ⟨e, 1, 0, s.map fun b => [.int .u8 b.toNat]⟩)
    | _ => none
  | .b2s _ => match as with
    | [x] => (b2sX σ x).map fun r => (r, σ)
    | _ => none
  | .mksl e z b zero => match as with
    | [.int .i64 n, .int .i64 n'] => if n ≤ n' ∧ 0 ≤ n ∧ n'.toNat * b ≤ 140737488355328 then some (.os σ.rows.length 0 n.toNat, σ.pushR ⟨e, z, 0, List.replicate n.toNat zero⟩) else none
    | _ => none
  | .capn => match as with
    | [.nils] => some (.int .i64 0, σ)
    | _ => none
  | .bad => none
  | .cpy => match as with
    | [.os r off n, x] => match x with
      | .str _ => none
      | x => match elsA σ x with
        | some ys => cpyG σ r off n ys
        | none => none
    | [.sl [], x] => match x with
      | .str _ => none
      | x => match elsA σ x with
        | some [] => some (.int .i64 0, σ)
        | _ => none
    | _ => none
def opN (T : TT) (G : GT) (t : List AV) (σ : St) (op : Op) : Option (AV × St) :=
  match opM T G t σ op with
  | some r => some r
  | none => match moreOf T op with
    | some (m, xs) => match evs G t xs with
      | some as => moreX m σ as
      | none => none
    | none => none

section
variable {P : Program} {C : Cz} {σ : St} {w : World} {T : TT} {G : GT} {t : List AV} {a : Act}

theorem rng_sound (hT : TOK P T) (h0 : HRel C σ w) {ty : TypeId} {k : Kd} (hk : kdOf T ty = some k) (hs : k.isStr = true) {s : List UInt8} :
    Steps' P C w (Instr.range ty (.string ⟨s.toArray⟩)) (.vp σ.vars.length 0) (σ.pushV (.siter s 0)) := by
  obtain ⟨_, d, _, _, _, hd, hok⟩ := kdOf_ok hT hk
  cases k <;> first | cases hs | skip
  simp only [Kd.ok] at hok; subst hok
  have hrel := h0.pushV (.siter s 0) (.stringIter ⟨s.toArray⟩ 0) (fun w' hw' => hw')
  refine ⟨.pointer (some ⟨w.heap.size, 0, none⟩), _, _, ?_, C.le_pushV _, hrel, ?_⟩
  · unfold Instr.range
    rw [Sem.run_bind, run_underlying hd]
    rfl
  · have := Rep.vp (C := C.pushV w.heap.size) σ.vars.length 0 (by simp [Cz.pushV, h0.nv])
    simpa [Cz.pushV, h0.nv] using this
theorem nxt_sound (h0 : HRel C σ w) {ty : TypeId} {b : Nat} {s : List UInt8} {pos : Nat} (hb : σ.vars[b]? = some (.siter s pos)) {r : AV} {σ' : St}
    (h : (if pos < s.length then some (AV.tup [.bool true, .int .i64 pos, .int .i32 (Utf8.decode ⟨s.toArray⟩ pos).1], σ.setV b (.siter s (pos + (Utf8.decode ⟨s.toArray⟩ pos).2))) else some (.tup [.bool false], σ)) = some (r, σ')) :
    Steps' P C w (Instr.next (.pointer (some ⟨C.ρ b, 0, none⟩)) true ty) r σ' := by
  have hv : w.heap[C.ρ b]? = some (.stringIter ⟨s.toArray⟩ pos) := h0.var b _ hb
  have hlt : b < C.nv := h0.nv ▸ (List.getElem?_eq_some_iff.1 hb).1
  have hget : (getObj (C.ρ b)).run P w = .ok (.stringIter ⟨s.toArray⟩ pos) w := by simp [getObj, Sem.run, hv]
  split at h
  · rename_i hp
    cases h
    let w' : World := { w with heap := w.heap.setIfInBounds (C.ρ b) (.stringIter ⟨s.toArray⟩ (pos + (Utf8.decode ⟨s.toArray⟩ pos).2)) }
    have hset : (setObj (C.ρ b) (.stringIter ⟨s.toArray⟩ (pos + (Utf8.decode ⟨s.toArray⟩ pos).2))).run P w = .ok () w' := by simp [setObj, Sem.run, hv, w']
    have hbel : Below C.base C.w0 w' := h0.below.trans ⟨rfl, rfl, rfl, by simp [w'], fun k hk => by
      have := h0.vbase b hlt
      simp only [w', Array.getElem?_setIfInBounds]
      rw [if_neg (by omega)]⟩
    refine ⟨.tuple #[.bool true, goInt pos, .int .i32 (Utf8.decode ⟨s.toArray⟩ pos).1], w', C, ?_, Cz.le.refl C, h0.setV hlt _ ?_ ?_ hbel ?_, ?_⟩
    · unfold Instr.next
      simp only [Sem.run_bind, hget, Result.andThen_ok, str_size, if_pos hp, hset, Sem.run_pure]
    · intro k hk
      simp only [w', Array.getElem?_setIfInBounds]
      rw [if_neg (fun e => hk e.symm)]
    · simp [w']
    · show w'.heap[C.ρ b]? = _
      simp [w', h0.rho_lt hlt]
    · exact .tup _ _ (.cons _ _ _ _ (.bool _) (.cons _ _ _ _ (.int _ _) (.cons _ _ _ _ (.int _ _) .nil)))
  · rename_i hp
    cases h
    refine ⟨.tuple #[.bool false], w, C, ?_, Cz.le.refl C, h0, .tup _ _ (.cons _ _ _ _ (.bool _) .nil)⟩
    unfold Instr.next
    simp only [Sem.run_bind, hget, Result.andThen_ok, str_size, if_neg hp, Sem.run_pure]

theorem mx_sound {as : List AV} {vs : List Value} (ha : RepL C as vs) {ts : Array TypeId} {ty : TypeId} {r : AV} (h : maxI as = some r) : Yields P C w (Builtin.max_ ts ty vs.toArray) r := by
  unfold maxI at h
  split at h
  · cases h
    cases ha with | cons _ _ _ _ h1 t1 => cases h1; cases t1; exact ⟨_, rfl, .int _ _⟩
  · cases h
    cases ha with | cons _ _ _ _ h1 t1 => cases h1; cases t1 with | cons _ _ _ _ h2 t2 => cases h2; cases t2; exact ⟨_, rfl, .int _ _⟩
  · cases h
theorem mn_sound {as : List AV} {vs : List Value} (ha : RepL C as vs) {ts : Array TypeId} {ty : TypeId} {r : AV} (h : minI as = some r) : Yields P C w (Builtin.min_ ts ty vs.toArray) r := by
  unfold minI at h
  split at h
  · cases h
    cases ha with | cons _ _ _ _ h1 t1 => cases h1; cases t1; exact ⟨_, rfl, .int _ _⟩
  · cases h
    cases ha with | cons _ _ _ _ h1 t1 => cases h1; cases t1 with | cons _ _ _ _ h2 t2 => cases h2; cases t2; exact ⟨_, rfl, .int _ _⟩
  · cases h

theorem flat_bytes : ∀ (s : List UInt8), (s.map fun b => [AV.int .u8 b.toNat]).flatten = s.map fun b => AV.int .u8 b.toNat
  | [] => rfl
  | a :: s => by
    show [AV.int .u8 a.toNat] ++ (s.map fun b => [AV.int .u8 b.toNat]).flatten = _
    rw [flat_bytes s]; rfl
theorem rep_bytes : ∀ (s : List UInt8), RepL C (s.map fun b => AV.int .u8 b.toNat) (s.map fun b => Value.int .u8 b.toNat)
  | [] => .nil
  | _ :: s => .cons _ _ _ _ (.int _ _) (rep_bytes s)
theorem s2b_sound (hT : TOK P T) (h0 : HRel C σ w) {ts td e : TypeId} {ks kd ke : Kd} (hs : kdOf T ts = some ks) (hd : kdOf T td = some kd) (h1 : ks.isStr = true) (h2 : kd.elem = some e) (he : kdOf T e = some ke) (h3 : ke.isU8 = true) (s : List UInt8) :
    Steps' P C w (convert ts td (.string ⟨s.toArray⟩)) (.os σ.rows.length 0 s.length) (σ.pushR ⟨e, 1, 0, s.map fun b => [.int .u8 b.toNat]⟩) := by
  obtain ⟨_, d1, _, _, _, hd1, ok1⟩ := kdOf_ok hT hs
  obtain ⟨_, d2, _, _, _, hd2, ok2⟩ := kdOf_ok hT hd
  obtain ⟨_, d3, _, _, _, hd3, ok3⟩ := kdOf_ok hT he
  cases ks <;> first | cases h1 | skip
  cases kd <;> first | cases h2 | skip
  unfold Kd.isU8 at h3
  split at h3
  · simp only [Kd.ok] at ok1 ok2 ok3
    subst ok1; subst ok2; subst ok3
    have hge := grownCap_ge w (⟨s.toArray⟩ : ByteArray).size 0 e
    rw [str_size] at hge
    have hcl : (Lib.bytesCells w e ⟨s.toArray⟩).size = grownCap w s.length 0 e := by
      simp only [Lib.bytesCells, str_size]
      simp
      omega
    let vs := (Lib.bytesCells w e ⟨s.toArray⟩).toList
    have hvl : vs.length = grownCap w s.length 0 e := by rw [← hcl]; simp [vs]
    let rc : RowC := ⟨w.heap.size, 0, 1, vs.length, true⟩
    have hbel : Below C.base C.w0 (Lib.bytesWorld w e ⟨s.toArray⟩) := Lib.below_freeze ((h0.below.drew).alloc h0.hb _) h0.hb 1
    have hrow : RowRel C ⟨e, 1, 0, s.map fun b => [.int .u8 b.toNat]⟩ rc (Lib.bytesWorld w e ⟨s.toArray⟩) vs ((Lib.bytesCells w e ⟨s.toArray⟩).size, (Lib.bytesCells w e ⟨s.toArray⟩).size + 1) := by
      refine ⟨?_, rfl, rfl, ?_, ?_, ?_, ?_⟩
      · have := Lib.bytesWorld_at_new w e ⟨s.toArray⟩
        simpa [vs, rc] using this
      · intro x hx
        obtain ⟨b, _, rfl⟩ := List.mem_map.1 hx
        rfl
      · show 0 + (List.map _ s).length * 1 ≤ vs.length
        rw [hvl, List.length_map]; omega
      · show RepL C (List.flatten _) ((vs.drop 0).take ((List.map _ s).length * 1))
        rw [flat_bytes, List.length_map, Nat.mul_one, List.drop_zero]
        have : vs.take s.length = s.map fun b => Value.int .u8 b.toNat := by
          simp only [vs, Lib.bytesCells]
          simp
        rw [this]; exact rep_bytes s
      · intro o _ ho
        have : vs.length = (Lib.bytesCells w e ⟨s.toArray⟩).size := by simp [vs]
        have ho' : o < vs.length := ho
        omega
    have hrel := h0.pushR ⟨e, 1, 0, s.map fun b => [.int .u8 b.toNat]⟩ rc rfl h0.free_new (fun k hk _ => Lib.bytesWorld_at_old w e _ k hk) (by rw [Lib.bytesWorld_size]; have := h0.hb; omega) hbel hrow
    refine ⟨_, _, _, Lib.run_convert_string_bytes w ts td e ⟨s.toArray⟩ hd1 hd2 hd3, C.le_pushR rc, hrel, ?_⟩
    have e1 : (⟨s.toArray⟩ : ByteArray).size = s.length := str_size s
    have hlast : (C.pushR rc).row σ.rows.length = rc := by simp only [Cz.pushR]; rw [if_pos h0.nr.symm]
    have := Rep.os (C := C.pushR rc) σ.rows.length 0 s.length (some ⟨w.heap.size, 0, none⟩) (grownCap w s.length 0 e) (by simp [Cz.pushR, h0.nr]) (fun _ => by
      rw [hlast]
      exact ⟨by simp [rc], by simp [rc, hvl], hge⟩) (by simp)
    rw [e1]
    exact this
  · cases h3
theorem unB_len : ∀ {ys : List (List AV)} {l : List UInt8}, unB ys = some l → (∀ c ∈ ys, c.length = 1) ∧ (∀ c ∈ ys, c.all AV.one = true)
  | [], l, h => ⟨by simp, by simp⟩
  | c :: ys, l, h => by
    unfold unB at h
    split at h
    · rename_i he; cases he
    · rename_i n r he
      cases he
      cases hq : unB ys with
      | none => rw [hq] at h; cases h
      | some l' =>
        obtain ⟨a, b⟩ := unB_len hq
        refine ⟨?_, ?_⟩
        · intro c hc; rcases List.mem_cons.1 hc with rfl | hc
          · rfl
          · exact a c hc
        · intro c hc; rcases List.mem_cons.1 hc with rfl | hc
          · rfl
          · exact b c hc
    · cases h
theorem unB_rep : ∀ {ys : List (List AV)} {l : List UInt8} {vs : List Value}, unB ys = some l → RepL C ys.flatten vs → (∀ c ∈ ys, c.length = 1) ∧ (∀ c ∈ ys, c.all AV.one = true) ∧ ∃ ns : List Int, vs = ns.map (Value.int .u8) ∧ l = ns.map fun n => UInt8.ofNat n.toNat
  | [], l, vs, h, hr => by cases h; cases hr; exact ⟨by simp, by simp, [], rfl, rfl⟩
  | c :: ys, l, vs, h, hr => by
    unfold unB at h
    split at h
    · rename_i he; cases he
    · rename_i n r he
      cases he
      cases hq : unB ys with
      | none => rw [hq] at h; cases h
      | some l' =>
        rw [hq] at h; cases h
        rw [List.flatten_cons] at hr
        cases hr with
        | cons _ _ _ _ h1 t =>
          cases h1
          obtain ⟨a, b, ns, rfl, rfl⟩ := unB_rep hq t
          refine ⟨?_, ?_, n :: ns, rfl, rfl⟩
          · intro c hc; rcases List.mem_cons.1 hc with rfl | hc
            · rfl
            · exact a c hc
          · intro c hc; rcases List.mem_cons.1 hc with rfl | hc
            · rfl
            · exact b c hc
    · cases h
theorem fold_push : ∀ (ns : List Int) (a : ByteArray), ns.foldl (fun r n => r.push (UInt8.ofNat n.toNat)) a = ⟨a.data ++ (ns.map fun n => UInt8.ofNat n.toNat).toArray⟩
  | [], a => by simp
  | n :: ns, a => by
    rw [List.foldl_cons, fold_push ns]
    congr 1
    simp [ByteArray.push]

theorem b2s_sound (hT : TOK P T) (h0 : HRel C σ w) {ts td e : TypeId} {ks kd ke : Kd} (hs : kdOf T ts = some ks) (hd : kdOf T td = some kd) (h1 : kd.isStr = true) (h2 : ks.elem = some e) (he : kdOf T e = some ke) (h3 : ke.isU8 = true) {x r : AV} {X : Value} (hx : Rep C x X) (h : b2sX σ x = some r) :
    Yields P C w (convert ts td X) r := by
  have hk : ks = .slice e := by cases ks <;> simp only [Kd.elem, Option.some.injEq, reduceCtorEq] at h2; rw [h2]
  subst hk
  obtain ⟨_, d1, _, _, _, hd1, ok1⟩ := kdOf_ok hT hs
  obtain ⟨_, d2, _, _, _, hd2, ok2⟩ := kdOf_ok hT hd
  obtain ⟨_, d3, _, _, _, hd3, ok3⟩ := kdOf_ok hT he
  cases kd <;> first | cases h1 | skip
  unfold Kd.isU8 at h3
  split at h3
  · simp only [Kd.ok] at ok1 ok2 ok3
    subst ok1; subst ok2; subst ok3
    have main : ∀ ys, elsA σ x = some ys → (unB ys).map AV.str = some r → (∀ s, x ≠ .str s) → Yields P C w (convert ts td X) r := by
      intro ys hys hu hns
      obtain ⟨l, hl, rfl⟩ : ∃ l, unB ys = some l ∧ AV.str l = r := by
        cases hq : unB ys with
        | none => rw [hq] at hu; cases hu
        | some l => rw [hq] at hu; cases hu; exact ⟨l, rfl, rfl⟩
      have hz := unB_len hl
      obtain ⟨vs, hvr, hsrc⟩ := elsA_sound hT h0 hx hys hs rfl 1 hz.1 hz.2
      obtain ⟨_, _, ns, rfl, rfl⟩ := unB_rep hl hvr
      obtain ⟨_, hlen, hcells, _⟩ := hsrc
      obtain ⟨a, n, cap, rfl⟩ : ∃ a n cap, X = .slice a n cap := by
        unfold elsA at hys
        split at hys
        · cases hx <;> exact ⟨_, _, _, rfl⟩
        · cases hx; exact ⟨_, _, _, rfl⟩
        · cases hx; exact ⟨_, _, _, rfl⟩
        · exact absurd rfl (hns _)
        · cases hx; exact ⟨_, _, _, rfl⟩
        · cases hys
      have hn : n = ys.length := by
        have : (Builtin.lenOf (.slice a n cap)).run P w = .ok n w := rfl
        have h4 := hlen w
        rw [this] at h4
        cases h4; rfl
      cases a with
      | none =>
        have hcz : (Builtin.firstCells 1 ys.length (.slice none n cap)).run P w = .ok #[] w := rfl
        rw [hcz] at hcells
        have : ns = [] := by
          have h5 : (#[] : Array Value) = (List.map (Value.int .u8) ns).toArray := by injection hcells
          have := congrArg Array.toList h5
          cases ns with
          | nil => rfl
          | cons a l => simp at this
        subst this
        refine ⟨.string .empty, ?_, .str []⟩
        simp [convert, run_underlying hd1, run_underlying hd2, run_underlying hd3, Conv.bytesToString]
      | some a =>
        have hl : (loadCells a n).run P w = .ok (ns.map (Value.int .u8)).toArray w := by
          have : (Builtin.firstCells 1 ys.length (.slice (some a) n cap)) = loadCells a (ys.length * 1) := rfl
          rw [this, Nat.mul_one, ← hn] at hcells
          exact hcells
        have hrun := run_bytesToString (P := P) w a n cap ns hl
        rw [fold_push] at hrun
        refine ⟨_, ?_, .str _⟩
        have e1 : ((ByteArray.empty.data ++ (ns.map fun n => UInt8.ofNat n.toNat).toArray) : Array UInt8) = (ns.map fun n => UInt8.ofNat n.toNat).toArray := by simp
        rw [e1] at hrun
        simp [convert, run_underlying hd1, run_underlying hd2, run_underlying hd3, hrun]
    unfold b2sX at h
    split at h
    · cases h
    · rename_i hns
      split at h
      · rename_i ys hys
        exact main ys hys h hns
      · cases h
  · cases h3

theorem mksl_sound (hT : TOK P T) (h0 : HRel C σ w) {t e : TypeId} {k : Kd} {ti : TI} (hk : kdOf T t = some k) (hke : k.elem = some e) (hti : T e = some ti) (hz0 : 0 < ti.size) (hb0 : 0 < ti.bytes) (m n : Nat) (hmn : m ≤ n) (hn : n * ti.bytes ≤ 140737488355328) :
    Steps' P C w (Instr.makeSlice t (.int .i64 m) (.int .i64 n)) (.os σ.rows.length 0 m) (σ.pushR ⟨e, ti.size, 0, List.replicate m ti.zero⟩) := by
  obtain ⟨_, d, _, _, _, hd, hok⟩ := kdOf_ok hT hk
  cases k <;> simp only [Kd.elem] at hke <;> (try (cases hke; done))
  cases hke
  simp only [Kd.ok] at hok; subst hok
  have ok := hT e ti hti
  obtain ⟨z, hz, hzc⟩ := ok.zeroValue w
  have hn' : n ≤ 140737488355328 := Nat.le_trans (Nat.le_mul_of_pos_right n hb0) hn
  have hzs : z.cells.size = ti.size := by rw [← Array.length_toList, hzc]; simp [ok.len]
  have hze : ∀ n, ∀ x ∈ List.replicate n ti.zero, x.length = ti.size := fun n x hx => by rw [(List.mem_replicate.1 hx).2]; exact ok.len
  have hflat : RepL C (List.replicate n ti.zero).flatten ((Array.range (n * ti.size)).map (z.cells[· % z.cells.size]!)).toList := by
    rw [← hzs, zero_flat, hzc]
    have hp := RepL.plain (C := C) ok.plain
    clear hn hn' hze hmn
    induction n with
    | zero => exact .nil
    | succ n ih => rw [List.replicate_succ, List.replicate_succ]; exact hp.append ih
  have hflat2 := hflat.take (m * ti.size)
  rw [flat_take m (hze n), List.take_replicate, Nat.min_eq_left hmn] at hflat2
  obtain ⟨i, z', hi, hsz, hbt, hz', hzc'⟩ := ok.info
  have hbb : (i.bytes : Int) * (n : Int) ≤ 281474976710656 := by
    have : ((n * ti.bytes : Nat) : Int) ≤ 281474976710656 := by omega
    rw [Int.natCast_mul, Int.mul_comm] at this
    rw [hbt]; exact this
  have hrun := run_make (P := P) w t e i z' hd hi hz' .i64 .i64 m n (by omega) (by omega) hbb (by omega)
  simp only [Int.toNat_natCast, hsz] at hrun
  have hzz : z'.cells = z.cells := by
    apply Array.ext'
    rw [hzc, hzc']
  rw [hzz] at hrun
  have hsize : (madeCells z.cells (n * ti.size)).toList.length = n * ti.size := by simp [madeCells]
  have hms : m * ti.size ≤ n * ti.size := Nat.mul_le_mul_right _ hmn
  have hrel := h0.newR ⟨e, ti.size, 0, List.replicate m ti.zero⟩ (madeCells z.cells (n * ti.size)).toList (0, 0) (hze m) (by
    simp only [List.length_replicate]
    exact hflat2) (by simp only [List.length_replicate]; omega) (by simp)
  refine ⟨_, _, _, ?_, C.le_pushR _, hrel, .os _ _ _ (some ⟨w.heap.size, 0, none⟩) n (by simp [Cz.pushR, h0.nr]) (fun _ => ?_) (by simp)⟩
  · rw [hrun]
  · have e1 : ∀ rc, (C.pushR rc).row σ.rows.length = rc := fun rc => by simp only [Cz.pushR]; rw [if_pos h0.nr.symm]
    rw [e1]
    simp [madeCells, hmn]
theorem cpy_cells {r : Nat} : ∀ (cs : List (List AV)) {σ σ' : St} {w : World} {i : Nat} {vs : List Value}, HRel C σ w → σ.live r → (C.row r).esz = 1 → RepL C cs.flatten vs → (∀ c ∈ cs, c.length = 1) → cpyX r σ i cs = some σ' →
    w.there (C.row r).blk ((C.row r).base + i) vs.length ∧ HRel C σ' (w.setCells (C.row r).blk ((C.row r).base + i) vs)
  | [], σ, σ', w, i, vs, h, _, _, hr, _, hx => by
    cases hr; cases hx
    exact ⟨fun j hj => by simp at hj, h⟩
  | c :: cs, σ, σ', w, i, vs, h, hl, he, hr, hz, hx => by
    simp only [cpyX] at hx
    split at hx
    · rename_i σ1 hst
      obtain ⟨a, rfl⟩ : ∃ a, c = [a] := by
        have := hz c (by simp)
        match c, this with | [a], _ => exact ⟨a, rfl⟩
      rw [List.flatten_cons] at hr
      cases hr with
      | cons _ v _ vs' h1 t =>
        obtain ⟨row, hrow⟩ := hl
        have hlt : r < C.nr := h.nr ▸ (List.getElem?_eq_some_iff.1 hrow).1
        obtain ⟨b, o, hV, hth, hrel⟩ := stAt_sound h (Rep.op (C := C) r i 0 (some ⟨(C.row r).blk, (C.row r).base + i * (C.row r).esz + 0, none⟩) hlt (fun _ => rfl)) (.cons _ _ _ _ h1 .nil) hst
        rw [he, Nat.mul_one, Nat.add_zero] at hV
        cases hV
        have hl1 : σ1.live r := by
          simp only [stAt, hrow] at hst
          split at hst
          · split at hst
            · cases hst
              exact ⟨_, by simp only [St.setR]; rw [List.getElem?_set_self (List.getElem?_eq_some_iff.1 hrow).1]⟩
            · cases hst
          · cases hst
        obtain ⟨hth2, hrel2⟩ := cpy_cells cs (i := i + 1) hrel hl1 he t (fun c hc => hz c (by simp [hc])) hx
        refine ⟨fun j hj => ?_, ?_⟩
        · cases j with
          | zero => exact hth 0 (by simp)
          | succ j =>
            have := hth2 j (by simpa using hj)
            rw [World.frozen?_setCells, World.cell?_setCells_out _ _ _ _ _ (fun _ _ => Or.inr (by simp; omega))] at this
            rw [show (C.row r).base + i + (j + 1) = (C.row r).base + (i + 1) + j by omega]
            exact this
        · have e : w.setCells (C.row r).blk ((C.row r).base + i) (v :: vs') = (w.setCells (C.row r).blk ((C.row r).base + i) [v]).setCells (C.row r).blk ((C.row r).base + (i + 1)) vs' := rfl
          rw [show ([] : List AV).append cs.flatten = cs.flatten from rfl] at * <;> first | (rw [e]; exact hrel2) | skip
    · cases hx
theorem cpy_sound (hT : TOK P T) (h0 : HRel C σ w) {t s e ty : TypeId} (hk : kdOf T t = some (.slice e)) (hs1 : szOf T e = some 1) {r off n : Nat} {x : AV} (hns : ∀ s, x ≠ .str s) {X V : Value} (hV : Rep C (.os r off n) V) (hx : Rep C x X) {ys : List (List AV)} (hys : elsA σ x = some ys) {res : AV} {σ' : St}
    (h : cpyG σ r off n ys = some (res, σ')) : Steps' P C w (Builtin.copy_ #[t, s] ty #[V, X]) res σ' := by
  unfold cpyG at h
  split at h
  · rename_i hc
    obtain ⟨hle, hez, ha1, ha2⟩ := hc
    cases hq : cpyX r σ off ys with
    | none => rw [hq] at h; cases h
    | some σ1 =>
      rw [hq] at h; cases h
      have hz1 : ∀ c ∈ ys, c.length = 1 := fun c hc => by simpa using List.all_eq_true.1 ha1 c hc
      obtain ⟨vs, hvr, hsrc⟩ := elsA_sound hT h0 hx hys hk rfl 1 hz1 (fun c hc => List.all_eq_true.1 ha2 c hc)
      obtain ⟨_, hlen, hcells, _, _, hone⟩ := hsrc
      obtain ⟨row, hrow⟩ : ∃ row, σ.rows[r]? = some (some row) := by
        unfold rowEsz at hez
        split at hez
        · rename_i row hrow; exact ⟨row, hrow⟩
        · cases hez
      have hl : σ.live r := ⟨row, hrow⟩
      obtain ⟨hlive, us, fr, hh⟩ := h0.row r row hrow
      have he : (C.row r).esz = 1 := by
        simp only [rowEsz, hrow, Option.some.injEq] at hez
        rw [hh.esz, hez]
      obtain ⟨hth, hrel⟩ := cpy_cells ys h0 hl he hvr hz1 hq
      cases hV with
      | os _ _ _ a cap hr hv =>
        obtain ⟨rfl, h2, h3⟩ := hv hlive
        obtain ⟨_, d, _, _, _, hd, hok⟩ := kdOf_ok hT hk
        simp only [Kd.ok] at hok; subst hok
        obtain ⟨ti, hti, hsz, ok⟩ := szOf_ok hT hs1
        have hst := run_storeCells_cells (P := P) (C.row r).blk ((C.row r).base + off) vs 0 w (fun j hj => by simpa using (hth j hj).1) (fun j hj => by simpa using (hth j hj).2) hone
        have hmin : Nat.min ys.length n = ys.length := Nat.min_eq_left hle
        refine ⟨_, _, _, ?_, Cz.le.refl C, hrel, .int _ _⟩
        rw [he, Nat.mul_one]
        simp [Builtin.copy_, run_underlying hd, hlen, ok.sizeOf, hsz, hmin, hcells, hst, goInt]
  · cases h
/-- Nothing is copied to where nothing is. -/
theorem cpy0_sound (hT : TOK P T) (h0 : HRel C σ w) {t s e ty : TypeId} (hk : kdOf T t = some (.slice e)) (hs1 : szOf T e = some 1) {x : AV} (hns : ∀ s, x ≠ .str s) {X V : Value} (hV : Rep C (.sl []) V) (hx : Rep C x X) (hys : elsA σ x = some []) :
    Yields P C w (Builtin.copy_ #[t, s] ty #[V, X]) (.int .i64 0) := by
  obtain ⟨vs, hvr, hsrc⟩ := elsA_sound hT h0 hx hys hk rfl 1 (by simp) (by simp)
  obtain ⟨_, hlen, hcells, _, _, hone⟩ := hsrc
  have hv0 : vs = [] := by cases hvr; rfl
  subst hv0
  obtain ⟨_, d, _, _, _, hd, hok⟩ := kdOf_ok hT hk
  simp only [Kd.ok] at hok; subst hok
  obtain ⟨ti, hti, hsz, ok⟩ := szOf_ok hT hs1
  obtain ⟨A, cap, rfl⟩ : ∃ A cap, V = .slice (some A) 0 cap := by
    cases hV with
    | sl0 a cap => exact ⟨a, cap, rfl⟩
    | sl _ z vs b o cap _ _ _ _ => exact ⟨_, cap, rfl⟩
  have hz : Nat.min 0 0 = 0 := rfl
  have hc0 : (Builtin.firstCells 1 0 X).run P w = .ok #[] w := hcells
  have hst : (storeCells A ([] : List Value)).run P w = .ok () w := by
    simp [storeCells]
  refine ⟨_, ?_, .int _ _⟩
  simp [Builtin.copy_, run_underlying hd, hlen, ok.sizeOf, hsz, hz, hc0, hst, goInt]
theorem opN_sound (hT : TOK P T) (h0 : HRel C σ w) (hg : GOK G C) (ht : RepL C t a.tmps.toList) {o : Oper} {r : AV} {σ' : St} (h : opN T G t σ o.op = some (r, σ')) :
    ∃ n v w' C', (execOp a.eval o).run P w = .ok n w' ∧ (n = .value v ∨ n = .skip ∧ v = undef) ∧ C.le C' ∧ HRel C' σ' w' ∧ Rep C' r v := by
  have lift : ∀ s : Sem Value, Steps' P C w s r σ' → execOp a.eval o = (do pure (.value (← s))) → ∃ n v w' C', (execOp a.eval o).run P w = .ok n w' ∧ (n = .value v ∨ n = .skip ∧ v = undef) ∧ C.le C' ∧ HRel C' σ' w' ∧ Rep C' r v := by
    rintro s ⟨v, w', C', hv, hle, hrel, hr⟩ e
    exact ⟨_, v, w', C', by rw [e, Sem.run_bind, hv]; rfl, .inl rfl, hle, hrel, hr⟩
  unfold opN at h
  split at h
  · rename_i r' hm
    cases h
    exact opM_sound hT h0 hg ht hm
  · split at h
    · rename_i m xs hmo
      split at h
      · rename_i as has
        have hreps := evs_rep hg ht has
        unfold moreOf at hmo
        split at hmo
        · rename_i ty x hop
          split at hmo
          · rename_i k hk
            split at hmo
            · rename_i hs
              cases hmo
              simp only [moreX] at h
              split at h
              · rename_i s
                cases h
                have hx : a.eval x = .string ⟨s.toArray⟩ := by
                  simp only [List.map_cons, List.map_nil] at hreps
                  cases hreps with | cons _ _ _ _ h1 _ => generalize a.eval x = V at h1; cases h1; rfl
                refine lift (Instr.range ty (a.eval x)) ?_ (by unfold execOp; rw [hop])
                rw [hx]
                exact rng_sound hT h0 hk hs
              · cases h
            · cases hmo
          · cases hmo
        · rename_i it s hop
          split at hmo
          · rename_i hs
            cases hmo
            simp only [moreX] at h
            split at h
            · rename_i b
              split at h
              · rename_i s' pos hb
                have hx : a.eval it = .pointer (some ⟨C.ρ b, 0, none⟩) := by
                  simp only [List.map_cons, List.map_nil] at hreps
                  cases hreps with | cons _ _ _ _ h1 _ => generalize a.eval it = V at h1; cases h1; rfl
                refine lift (Instr.next (a.eval it) true o.type) ?_ (by unfold execOp; rw [hop, hs])
                rw [hx]
                exact nxt_sound h0 hb h
              · cases h
            · cases h
          · cases hmo
        · rename_i ts td x hop
          split at hmo
          · rename_i ks kd hks hkd
            split at hmo
            · rename_i hstr
              split at hmo
              · rename_i e hel
                split at hmo
                · rename_i ke hke
                  split at hmo
                  · rename_i hu8
                    cases hmo
                    simp only [moreX] at h
                    split at h
                    · rename_i s
                      cases h
                      have hx : a.eval x = .string ⟨s.toArray⟩ := by
                        simp only [List.map_cons, List.map_nil] at hreps
                        cases hreps with | cons _ _ _ _ h1 _ => generalize a.eval x = V at h1; cases h1; rfl
                      refine lift (convert ts td (a.eval x)) ?_ (by unfold execOp; rw [hop])
                      rw [hx]
                      exact s2b_sound hT h0 hks hkd hstr hel hke hu8 s
                    · cases h
                  · cases hmo
                · cases hmo
              · cases hmo
            · split at hmo
              · rename_i hns hstr
                split at hmo
                · rename_i e hel
                  split at hmo
                  · rename_i ke hke
                    split at hmo
                    · rename_i hu8
                      cases hmo
                      simp only [moreX] at h
                      split at h
                      · rename_i c
                        cases hq : b2sX σ c with
                        | none => rw [hq] at h; cases h
                        | some r' =>
                          rw [hq] at h; cases h
                          have hx : Rep C c (a.eval x) := by
                            simp only [List.map_cons, List.map_nil] at hreps
                            cases hreps with | cons _ _ _ _ h1 _ => exact h1
                          obtain ⟨v, hv, hr⟩ := b2s_sound hT h0 hks hkd hstr hel hke hu8 hx hq
                          refine lift (convert ts td (a.eval x)) ⟨v, w, C, hv, Cz.le.refl C, h0, hr⟩ (by unfold execOp; rw [hop])
                      · cases h
                    · cases hmo
                  · cases hmo
                · cases hmo
              · cases hmo
          · cases hmo
        · rename_i c hop
          split at hmo
          · rename_i hcal
            cases hmo
            obtain ⟨r', hr', he⟩ : ∃ r', maxI as = some r' ∧ (r', σ) = (r, σ') := by
              simp only [moreX] at h
              cases hq : maxI as with
              | none => rw [hq] at h; cases h
              | some r' => rw [hq] at h; cases h; exact ⟨_, rfl, rfl⟩
            cases he
            obtain ⟨v, hv, hr⟩ := mx_sound (P := P) (w := w) (ts := c.argTypes) (ty := o.type) hreps hr'
            refine ⟨_, v, w, C, ?_, .inl rfl, Cz.le.refl C, h0, hr⟩
            unfold execOp
            rw [hop]
            have e : (c.args.map a.eval) = (List.map a.eval c.args.toList).toArray := by apply Array.ext'; simp
            simp only [resolve, hcal, invoke, Sem.run_bind, Sem.run_pure, Result.andThen_ok, builtin, e]
            simp [hv]
          · rename_i hcal
            cases hmo
            obtain ⟨r', hr', he⟩ : ∃ r', minI as = some r' ∧ (r', σ) = (r, σ') := by
              simp only [moreX] at h
              cases hq : minI as with
              | none => rw [hq] at h; cases h
              | some r' => rw [hq] at h; cases h; exact ⟨_, rfl, rfl⟩
            cases he
            obtain ⟨v, hv, hr⟩ := mn_sound (P := P) (w := w) (ts := c.argTypes) (ty := o.type) hreps hr'
            refine ⟨_, v, w, C, ?_, .inl rfl, Cz.le.refl C, h0, hr⟩
            unfold execOp
            rw [hop]
            have e : (c.args.map a.eval) = (List.map a.eval c.args.toList).toArray := by apply Array.ext'; simp
            simp only [resolve, hcal, invoke, Sem.run_bind, Sem.run_pure, Result.andThen_ok, builtin, e]
            simp [hv]
          · rename_i hcal
            split at hmo
            · rename_i ty hty
              split at hmo
              · rename_i k hk
                split at hmo
                · rename_i hel
                  cases hmo
                  simp only [moreX] at h
                  split at h
                  · cases h
                    obtain ⟨_, d, _, _, _, hd, hok⟩ := kdOf_ok hT hk
                    cases k <;> simp only [Kd.elem, Option.isSome] at hel <;> (try (cases hel; done))
                    simp only [Kd.ok] at hok; subst hok
                    generalize hvs : List.map a.eval c.args.toList = VS at hreps
                    cases hreps with
                    | cons _ V _ vs h1 h2 =>
                      cases h2
                      cases h1
                      refine ⟨_, .int .i64 0, w, C, ?_, .inl rfl, Cz.le.refl C, h0, .int _ _⟩
                      unfold execOp
                      rw [hop]
                      have e : (c.args.map a.eval) = #[.slice none 0 0] := by apply Array.ext'; simpa using hvs
                      simp only [resolve, hcal, invoke, Sem.run_bind, Sem.run_pure, Result.andThen_ok, builtin, e]
                      simp [Builtin.cap_, hty, run_underlying hd, goInt]
                  · cases h
                · cases hmo
              · cases hmo
            · cases hmo
          · rename_i hcal
            split at hmo
            · rename_i ty hty
              split at hmo
              · rename_i e hk
                split at hmo
                · rename_i z hz
                  split at hmo
                  · rename_i hz1
                    subst hz1
                    cases hmo
                    simp only [moreX] at h
                    split at h
                    · rename_i rr off n x
                      split at h
                      · cases h
                      · rename_i hns
                        split at h
                        · rename_i ys hys
                          generalize hvs : List.map a.eval c.args.toList = VS at hreps
                          cases hreps with
                          | cons _ V _ vs h1 h2 =>
                            cases h2 with
                            | cons _ X _ vs2 h3 h4 =>
                              cases h4
                              have hcp : ∃ s, c.argTypes = #[ty, s] ∨ True := ⟨0, .inr trivial⟩
                              obtain ⟨v, w', C', hv, hle, hrel, hr⟩ := cpy_sound (s := 0) (ty := o.type) hT h0 hk hz hns h1 h3 hys h
                              have hv' : (Builtin.copy_ c.argTypes o.type #[V, X]).run P w = .ok v w' := by
                                rw [← hv]
                                simp only [Builtin.copy_, hty]
                                rfl
                              refine ⟨_, v, w', C', ?_, .inl rfl, hle, hrel, hr⟩
                              unfold execOp
                              rw [hop]
                              have e : (c.args.map a.eval) = #[V, X] := by apply Array.ext'; simpa using hvs
                              simp only [resolve, hcal, invoke, Sem.run_bind, Sem.run_pure, Result.andThen_ok, builtin, e]
                              simp [hv']
                        · cases h
                    · rename_i x
                      split at h
                      · cases h
                      · rename_i hns
                        split at h
                        · rename_i hys
                          cases h
                          generalize hvs : List.map a.eval c.args.toList = VS at hreps
                          cases hreps with
                          | cons _ V _ vs h1 h2 =>
                            cases h2 with
                            | cons _ X _ vs2 h3 h4 =>
                              cases h4
                              obtain ⟨v, hv, hr⟩ := cpy0_sound (P := P) (s := 0) (ty := o.type) hT h0 hk hz hns h1 h3 hys
                              have hv' : (Builtin.copy_ c.argTypes o.type #[V, X]).run P w = .ok v w := by
                                rw [← hv]
                                simp only [Builtin.copy_, hty]
                                rfl
                              refine ⟨_, v, w, C, ?_, .inl rfl, Cz.le.refl C, h0, hr⟩
                              unfold execOp
                              rw [hop]
                              have e : (c.args.map a.eval) = #[V, X] := by apply Array.ext'; simpa using hvs
                              simp only [resolve, hcal, invoke, Sem.run_bind, Sem.run_pure, Result.andThen_ok, builtin, e]
                              simp [hv']
                        · cases h
                    · cases h
                  · cases hmo
                · cases hmo
              · cases hmo
            · cases hmo
          · cases hmo
        · rename_i ty l c hop
          split at hmo
          · rename_i k hk
            split at hmo
            · rename_i e hke
              split at hmo
              · rename_i ti hti
                split at hmo
                · rename_i hpos
                  obtain ⟨p1, p2⟩ := Bool.and_eq_true_iff.1 hpos
                  cases hmo
                  simp only [moreX] at h
                  split at h
                  · rename_i n n'
                    split at h
                    · rename_i hc
                      obtain ⟨hle, hn0, hnb⟩ := hc
                      cases h
                      simp only [List.map_cons, List.map_nil] at hreps
                      have hl : a.eval l = .int .i64 n := by
                        cases hreps with | cons _ _ _ _ h1 _ => generalize a.eval l = V at h1; cases h1; rfl
                      have hc' : a.eval c = .int .i64 n' := by
                        cases hreps with | cons _ _ _ _ _ h2 => cases h2 with | cons _ _ _ _ h1 _ => generalize a.eval c = V at h1; cases h1; rfl
                      obtain ⟨k0, hk0⟩ : ∃ k0 : Nat, n = k0 := ⟨n.toNat, by omega⟩
                      obtain ⟨k1, hk1⟩ : ∃ k1 : Nat, n' = k1 := ⟨n'.toNat, by omega⟩
                      subst hk0 hk1
                      rw [Int.toNat_natCast] at hnb ⊢
                      refine lift (Instr.makeSlice ty (a.eval l) (a.eval c)) ?_ (by unfold execOp; rw [hop])
                      rw [hl, hc']
                      exact mksl_sound hT h0 hk hke hti (of_decide_eq_true p1) (of_decide_eq_true p2) k0 k1 (by omega) hnb
                    · cases h
                  · cases h
                · cases hmo
              · cases hmo
            · cases hmo
          · cases hmo
        · cases hmo
          simp only [moreX] at h
          cases h
        · cases hmo
      · cases h
    · cases h
end
end Go.Ab
