/-
  The abstract machine of this work, part 1: abstract values, what they stand for in a world, and what a world's change does to that.
-/
import Derived.Deep.MidRow
import Derived.Below
import Derived.Tactics
import Derived.RowKit
set_option linter.all false
set_option linter.unusedVariables false
set_option linter.unusedSimpArgs false
namespace Go.Ab
open Go Go.RowKit

/-- Abstract values: a slice that nobody writes bears its cells (`sl`), one that is being made is a row of the abstract heap (`os`). -/
inductive AV where
  | int (k : IntKind) (n : Int)
  | bool (b : Bool)
  | str (s : List UInt8)
  | nilp
  | vp (b off : Nat)
  | rp (cs : List AV)
  | nils
  | ez
  | sl (els : List (List AV))
  | os (r off n : Nat)
  | op (r i k : Nat)
  | fn (f : Fn) (first cap : List AV)
  | niln
  | ifc (t : TypeId) (v : AV)
  | nili
  | agg (cs : List AV)
  | tup (cs : List AV)
  deriving Inhabited

def AV.one : AV → Bool
  | .agg _ | .tup _ => false
  | _ => true

/-- Where a row lies. -/
structure RowC where
  blk : Nat
  base : Nat
  esz : Nat
  size : Nat
  live : Bool

/-- What abstract numbers stand for: memory that stays, the variables' blocks, the rows. -/
structure Cz where
  M : Nat → Nat → Option Value
  nv : Nat
  ρ : Nat → Nat
  nr : Nat
  row : Nat → RowC
  base : Nat
  w0 : World

structure Cz.le (C D : Cz) : Prop where
  mem : ∀ b o v, C.M b o = some v → D.M b o = some v
  nv : C.nv ≤ D.nv
  rho : ∀ b, b < C.nv → D.ρ b = C.ρ b
  nr : C.nr ≤ D.nr
  row : ∀ r, r < C.nr → (D.row r).live = true → D.row r = C.row r
  base : D.base = C.base
  w0 : D.w0 = C.w0
  old : ∀ b o v, b < C.base → D.M b o = some v → C.M b o = some v

theorem Cz.le.refl (C : Cz) : C.le C := ⟨fun _ _ _ h => h, Nat.le_refl _, fun _ _ => rfl, Nat.le_refl _, fun _ _ _ => rfl, rfl, rfl, fun _ _ _ _ h => h⟩
theorem Cz.le.trans {C D E : Cz} (h : C.le D) (k : D.le E) : C.le E :=
  ⟨fun b o v x => k.mem b o v (h.mem b o v x), Nat.le_trans h.nv k.nv, fun b x => (k.rho b (Nat.lt_of_lt_of_le x h.nv)).trans (h.rho b x), Nat.le_trans h.nr k.nr,
   fun r x l => by
    have e := k.row r (Nat.lt_of_lt_of_le x h.nr) l
    rw [e]; exact h.row r x (by rw [← e]; exact l),
   k.base.trans h.base, k.w0.trans h.w0, fun b o v hb x => h.old b o v hb (k.old b o v (h.base.symm ▸ hb) x)⟩

mutual
inductive Rep (C : Cz) : AV → Value → Prop
  | int (k : IntKind) (n : Int) : Rep C (.int k n) (.int k n)
  | bool (b : Bool) : Rep C (.bool b) (.bool b)
  | str (s : List UInt8) : Rep C (.str s) (.string ⟨s.toArray⟩)
  | nilp : Rep C .nilp (.pointer none)
  | vp (b off : Nat) (h : b < C.nv) : Rep C (.vp b off) (.pointer (some ⟨C.ρ b, off, none⟩))
  | rp (cs : List AV) (vs : List Value) (b o : Nat) (h : RepL C cs vs) (hm : ∀ j v, vs[j]? = some v → C.M b (o + j) = some v) : Rep C (.rp cs) (.pointer (some ⟨b, o, none⟩))
  | nils : Rep C .nils (.slice none 0 0)
  | ez (a : Option Addr) : Rep C .ez (.slice a 0 0)
  | sl0 (a : Option Addr) (cap : Nat) : Rep C (.sl []) (.slice a 0 cap)
  | sl (els : List (List AV)) (z : Nat) (vs : List Value) (b o cap : Nat) (hz : ∀ e ∈ els, e.length = z) (hc : els.length ≤ cap) (h : RepL C els.flatten vs) (hm : ∀ j v, vs[j]? = some v → C.M b (o + j) = some v) :
      Rep C (.sl els) (.slice (some ⟨b, o, none⟩) els.length cap)
  | os (r off n : Nat) (a : Option Addr) (cap : Nat) (h : r < C.nr)
      (hv : (C.row r).live = true → a = some ⟨(C.row r).blk, (C.row r).base + off * (C.row r).esz, none⟩ ∧ (C.row r).base + off * (C.row r).esz + cap * (C.row r).esz = (C.row r).size ∧ n ≤ cap) : Rep C (.os r off n) (.slice a n cap)
  | op (r i k : Nat) (a : Option Addr) (h : r < C.nr) (hv : (C.row r).live = true → a = some ⟨(C.row r).blk, (C.row r).base + i * (C.row r).esz + k, none⟩) : Rep C (.op r i k) (.pointer a)
  | fn (f : Fn) (first cap : List AV) (vf vc : List Value) (h1 : RepL C first vf) (h2 : RepL C cap vc) : Rep C (.fn f first cap) (.func f vf.toArray vc.toArray)
  | niln : Rep C .niln .nilFunc
  | ifc (t : TypeId) (c : AV) (v : Value) (h : Rep C c v) : Rep C (.ifc t c) (.iface t v)
  | nili : Rep C .nili .nilIface
  | agg (cs : List AV) (vs : List Value) (h : RepL C cs vs) : Rep C (.agg cs) (.agg vs.toArray)
  | tup (cs : List AV) (vs : List Value) (h : RepL C cs vs) : Rep C (.tup cs) (.tuple vs.toArray)
inductive RepL (C : Cz) : List AV → List Value → Prop
  | nil : RepL C [] []
  | cons (c : AV) (v : Value) (cs : List AV) (vs : List Value) (h : Rep C c v) (t : RepL C cs vs) : RepL C (c :: cs) (v :: vs)
end

mutual
theorem Rep.mono {C D : Cz} (l : C.le D) : ∀ {c : AV} {v : Value}, Rep C c v → Rep D c v
  | _, _, .int k n => .int k n
  | _, _, .bool b => .bool b
  | _, _, .str s => .str s
  | _, _, .nilp => .nilp
  | _, _, .vp b off h => by
    have := l.rho b h
    rw [← this]; exact .vp b off (Nat.lt_of_lt_of_le h l.nv)
  | _, _, .rp cs vs b o h hm => .rp cs vs b o (RepL.mono l h) (fun j v e => l.mem _ _ _ (hm j v e))
  | _, _, .nils => .nils
  | _, _, .ez a => .ez a
  | _, _, .sl0 a cap => .sl0 a cap
  | _, _, .sl els z vs b o cap hz hc h hm => .sl els z vs b o cap hz hc (RepL.mono l h) (fun j v e => l.mem _ _ _ (hm j v e))
  | _, _, .os r off n a cap h hv => .os r off n a cap (Nat.lt_of_lt_of_le h l.nr) (fun e => by
      have e2 := l.row r h e
      rw [e2]; exact hv (by rw [← e2]; exact e))
  | _, _, .op r i k a h hv => .op r i k a (Nat.lt_of_lt_of_le h l.nr) (fun e => by
      have e2 := l.row r h e
      rw [e2]; exact hv (by rw [← e2]; exact e))
  | _, _, .fn f a b va vb h1 h2 => .fn f a b va vb (RepL.mono l h1) (RepL.mono l h2)
  | _, _, .niln => .niln
  | _, _, .ifc t c v h => .ifc t c v (Rep.mono l h)
  | _, _, .nili => .nili
  | _, _, .agg cs vs h => .agg cs vs (RepL.mono l h)
  | _, _, .tup cs vs h => .tup cs vs (RepL.mono l h)
theorem RepL.mono {C D : Cz} (l : C.le D) : ∀ {cs : List AV} {vs : List Value}, RepL C cs vs → RepL D cs vs
  | _, _, .nil => .nil
  | _, _, .cons c v cs vs h t => .cons c v cs vs (Rep.mono l h) (RepL.mono l t)
end

theorem Rep.one {C : Cz} {c : AV} {v : Value} (h : Rep C c v) : c.one = v.oneCell' := by cases h <;> rfl

section lists
variable {C : Cz}
theorem RepL.length {cs : List AV} {vs : List Value} (h : RepL C cs vs) : vs.length = cs.length := by
  induction cs generalizing vs with
  | nil => cases h; rfl
  | cons c cs ih => cases h; simp [ih ‹_›]
theorem RepL.get {cs : List AV} {vs : List Value} (h : RepL C cs vs) (j : Nat) (c : AV) (hj : cs[j]? = some c) : ∃ v, vs[j]? = some v ∧ Rep C c v := by
  induction cs generalizing vs j with
  | nil => simp at hj
  | cons d cs ih =>
    cases h with
    | cons _ v _ vs h t =>
      cases j with
      | zero => simp at hj; subst hj; exact ⟨v, by simp, h⟩
      | succ j => simp at hj; simpa using ih t j hj
theorem RepL.append {cs ds : List AV} {vs us : List Value} (h : RepL C cs vs) (k : RepL C ds us) : RepL C (cs ++ ds) (vs ++ us) := by
  induction cs generalizing vs with
  | nil => cases h; simpa using k
  | cons c cs ih => cases h with | cons _ v _ vs h t => exact .cons _ _ _ _ h (ih t)
theorem RepL.take {cs : List AV} {vs : List Value} (h : RepL C cs vs) (n : Nat) : RepL C (cs.take n) (vs.take n) := by
  induction n generalizing cs vs with
  | zero => simp; exact .nil
  | succ n ih => cases h with
    | nil => simp; exact .nil
    | cons c v cs vs h t => simp; exact .cons _ _ _ _ h (ih t)
theorem RepL.drop {cs : List AV} {vs : List Value} (h : RepL C cs vs) (n : Nat) : RepL C (cs.drop n) (vs.drop n) := by
  induction n generalizing cs vs with
  | zero => simpa using h
  | succ n ih => cases h with
    | nil => simp; exact .nil
    | cons c v cs vs h t => simpa using ih t
theorem RepL.set {cs : List AV} {vs : List Value} (h : RepL C cs vs) (n : Nat) {c : AV} {v : Value} (hc : Rep C c v) : RepL C (cs.set n c) (vs.set n v) := by
  induction n generalizing cs vs with
  | zero => cases h with
    | nil => simp; exact .nil
    | cons d u cs vs h t => simp; exact .cons _ _ _ _ hc t
  | succ n ih => cases h with
    | nil => simp; exact .nil
    | cons d u cs vs h t => simp; exact .cons _ _ _ _ h (ih t)
theorem RepL.one {cs : List AV} {vs : List Value} (h : RepL C cs vs) (h1 : cs.all AV.one = true) : ∀ v ∈ vs, v.oneCell' = true := by
  induction cs generalizing vs with
  | nil => cases h; simp
  | cons c cs ih =>
    cases h with
    | cons _ v _ vs h t =>
      simp at h1
      intro u hu
      rcases List.mem_cons.1 hu with rfl | hu
      · rw [← h.one]; exact h1.1
      · exact ih t (by simpa using h1.2) u hu
theorem RepL.replicate {c : AV} {v : Value} (h : Rep C c v) (n : Nat) : RepL C (List.replicate n c) (List.replicate n v) := by
  induction n with
  | zero => exact .nil
  | succ n ih => exact .cons _ _ _ _ h ih
theorem RepL.snoc {cs : List AV} {vs : List Value} (h : RepL C cs vs) {c : AV} {v : Value} (hc : Rep C c v) : RepL C (cs ++ [c]) (vs ++ [v]) := h.append (.cons _ _ _ _ hc .nil)
theorem RepL.split {cs ds : List AV} {vs : List Value} (h : RepL C (cs ++ ds) vs) : ∃ a b, vs = a ++ b ∧ RepL C cs a ∧ RepL C ds b := by
  refine ⟨vs.take cs.length, vs.drop cs.length, by simp, ?_, ?_⟩
  · simpa using h.take cs.length
  · simpa using h.drop cs.length
end lists

/-! ### Lists of elements of one size -/
theorem flat_len {α : Type} {z : Nat} : ∀ {l : List (List α)}, (∀ e ∈ l, e.length = z) → l.flatten.length = l.length * z
  | [], _ => by simp
  | e :: l, h => by
    rw [List.flatten_cons, List.length_append, flat_len (fun x hx => h x (List.mem_cons_of_mem _ hx)), h e (by simp), List.length_cons, Nat.add_mul]; omega
theorem flat_drop {α : Type} {z : Nat} : ∀ {l : List (List α)} (i : Nat), (∀ e ∈ l, e.length = z) → l.flatten.drop (i * z) = (l.drop i).flatten
  | _, 0, _ => by simp
  | [], i + 1, _ => by simp
  | e :: l, i + 1, h => by
    have he := h e (by simp)
    rw [List.flatten_cons, Nat.succ_mul, Nat.add_comm, ← List.drop_drop, List.drop_succ_cons, ← flat_drop i (fun x hx => h x (List.mem_cons_of_mem _ hx)), ← he, List.drop_left]
theorem flat_take {α : Type} {z : Nat} : ∀ {l : List (List α)} (i : Nat), (∀ e ∈ l, e.length = z) → l.flatten.take (i * z) = (l.take i).flatten
  | _, 0, _ => by simp
  | [], i + 1, _ => by simp
  | e :: l, i + 1, h => by
    have he := h e (by simp)
    rw [List.flatten_cons, Nat.succ_mul, List.take_succ_cons, List.flatten_cons, ← flat_take i (fun x hx => h x (List.mem_cons_of_mem _ hx)), List.take_append, he]
    rw [List.take_of_length_le (by omega)]
    congr 2; omega
theorem flat_get {α : Type} {z i : Nat} {l : List (List α)} {e : List α} (h : ∀ e ∈ l, e.length = z) (hi : l[i]? = some e) : (l.flatten.drop (i * z)).take z = e := by
  rw [flat_drop i h]
  have hlt := (List.getElem?_eq_some_iff.1 hi).1
  have hm : e ∈ l := List.mem_of_getElem? hi
  rw [List.drop_eq_getElem_cons hlt, List.flatten_cons]
  have : l[i] = e := by simpa [List.getElem?_eq_getElem hlt] using hi
  rw [this, ← h e hm, List.take_left]
theorem mem_take' {α : Type} {l : List α} {n : Nat} {x : α} (h : x ∈ l.take n) : x ∈ l := List.mem_of_mem_take h
theorem mem_drop' {α : Type} {l : List α} {n : Nat} {x : α} (h : x ∈ l.drop n) : x ∈ l := List.mem_of_mem_drop h

/-! ### The abstract heap -/
structure Row where
  ety : TypeId
  esz : Nat
  fz : Nat
  els : List (List AV)
inductive VB where
  | cells (ety : TypeId) (l : List AV)
  | siter (s : List UInt8) (pos : Nat)
structure St where
  vars : List VB
  rows : List (Option Row)

def VB.rel (C : Cz) (vb : VB) (g : Nat) (w : World) : Prop :=
  match vb with
  | .cells e l => ∃ vs : List Value, w.heap[g]? = some (.cells vs.toArray e (0, 0)) ∧ RepL C l vs
  | .siter s pos => w.heap[g]? = some (.stringIter ⟨s.toArray⟩ pos)

structure RowRel (C : Cz) (row : Row) (rc : RowC) (w : World) (vs : List Value) (fr : Nat × Nat) : Prop where
  heap : w.heap[rc.blk]? = some (.cells vs.toArray row.ety fr)
  size : vs.length = rc.size
  esz : rc.esz = row.esz
  uni : ∀ e ∈ row.els, e.length = row.esz
  fits : rc.base + row.els.length * row.esz ≤ rc.size
  rep : RepL C row.els.flatten ((vs.drop rc.base).take (row.els.length * row.esz))
  free : ∀ o, rc.base + row.fz * row.esz ≤ o → o < rc.size → ¬ (fr.1 ≤ o ∧ o < fr.2)

def St.live (σ : St) (r : Nat) : Prop := ∃ row, σ.rows[r]? = some (some row)

structure HRel (C : Cz) (σ : St) (w : World) : Prop where
  nv : C.nv = σ.vars.length
  nr : C.nr = σ.rows.length
  mem : ∀ b o v, C.M b o = some v → w.cell? ⟨b, o, none⟩ = some v
  var : ∀ (b : Nat) (vb : VB), σ.vars[b]? = some vb → vb.rel C (C.ρ b) w
  vinj : ∀ b b', b < C.nv → b' < C.nv → C.ρ b = C.ρ b' → b = b'
  vM : ∀ b o, b < C.nv → C.M (C.ρ b) o = none
  vbase : ∀ b, b < C.nv → C.base ≤ C.ρ b
  row : ∀ r row, σ.rows[r]? = some (some row) → (C.row r).live = true ∧ ∃ vs fr, RowRel C row (C.row r) w vs fr
  rinj : ∀ r r', σ.live r → σ.live r' → (C.row r).blk = (C.row r').blk → r = r'
  rv : ∀ r b, σ.live r → b < C.nv → (C.row r).blk ≠ C.ρ b
  rM : ∀ r o, σ.live r → C.M (C.row r).blk o = none
  rbase : ∀ r, σ.live r → C.base ≤ (C.row r).blk
  hb : C.base ≤ w.heap.size
  below : Below C.base C.w0 w

theorem VB.rel.lt {C : Cz} {vb : VB} {g : Nat} {w : World} (h : vb.rel C g w) : g < w.heap.size := by
  cases vb with
  | cells e l => obtain ⟨vs, h, _⟩ := h; exact (Array.getElem?_eq_some_iff.1 h).1
  | siter s pos => exact (Array.getElem?_eq_some_iff.1 h).1
theorem RowRel.lt {C : Cz} {row : Row} {rc : RowC} {w : World} {vs : List Value} {fr : Nat × Nat} (h : RowRel C row rc w vs fr) : rc.blk < w.heap.size := (Array.getElem?_eq_some_iff.1 h.heap).1
theorem VB.rel.mono {C D : Cz} (l : C.le D) {vb : VB} {g : Nat} {w w' : World} (h : vb.rel C g w) (hw : w'.heap[g]? = w.heap[g]?) : vb.rel D g w' := by
  cases vb with
  | cells e l' => obtain ⟨vs, h, hr⟩ := h; exact ⟨vs, hw.trans h, hr.mono l⟩
  | siter s pos => exact hw.trans h
theorem RowRel.mono {C D : Cz} (l : C.le D) {row : Row} {rc : RowC} {w w' : World} {vs : List Value} {fr : Nat × Nat} (h : RowRel C row rc w vs fr) (hw : w'.heap[rc.blk]? = w.heap[rc.blk]?) : RowRel D row rc w' vs fr :=
  ⟨hw.trans h.heap, h.size, h.esz, h.uni, h.fits, h.rep.mono l, h.free⟩

theorem HRel.rho_lt {C : Cz} {σ : St} {w : World} (h : HRel C σ w) {b : Nat} (hb : b < C.nv) : C.ρ b < w.heap.size := by
  have : b < σ.vars.length := h.nv ▸ hb
  exact (h.var b σ.vars[b] (List.getElem?_eq_getElem this)).lt
theorem HRel.blk_lt {C : Cz} {σ : St} {w : World} (h : HRel C σ w) {r : Nat} (hr : σ.live r) : (C.row r).blk < w.heap.size := by
  obtain ⟨row, hr⟩ := hr
  obtain ⟨_, vs, fr, h⟩ := h.row r row hr
  exact h.lt
theorem HRel.mem_lt {C : Cz} {σ : St} {w : World} (h : HRel C σ w) {b o : Nat} {v : Value} (hm : C.M b o = some v) : b < w.heap.size := World.block_lt_of_cell? w _ (h.mem b o v hm)

theorem cell_of_heap {w w' : World} {b o : Nat} (h : w'.heap[b]? = w.heap[b]?) : w'.cell? ⟨b, o, none⟩ = w.cell? ⟨b, o, none⟩ := World.cell?_of_block (w := w) h

theorem heap_alloc_at (w : World) (o : Obj) : (w.alloc o).heap[w.heap.size]? = some o := by
  show (w.heap.push o)[w.heap.size]? = _
  simp

/-- A draw turns nothing. -/
theorem HRel.drew {C : Cz} {σ : St} {w : World} (h : HRel C σ w) : HRel C σ w.drew :=
  { h with mem := fun b o v hm => h.mem b o v hm, var := fun b vb hb => (h.var b vb hb).mono (Cz.le.refl C) rfl,
           row := fun r row hr => by
             obtain ⟨hl, vs, fr, hh⟩ := h.row r row hr
             exact ⟨hl, vs, fr, hh.mono (Cz.le.refl C) rfl⟩,
           hb := h.hb, below := h.below.drew }

/-- The world has grown by blocks that nobody knows. -/
theorem HRel.grow {C : Cz} {σ : St} {w : World} (h : HRel C σ w) (o : Obj) : HRel C σ (w.alloc o) := by
  have hk : ∀ k, k < w.heap.size → (w.alloc o).heap[k]? = w.heap[k]? := fun k hk => Below.heap_alloc w o k hk
  exact { h with
    mem := fun b o' v hm => (cell_of_heap (hk b (h.mem_lt hm))).trans (h.mem b o' v hm),
    var := fun b vb hb => (h.var b vb hb).mono (Cz.le.refl C) (hk _ (h.var b vb hb).lt),
    row := fun r row hr => by
      obtain ⟨hl, vs, fr, hh⟩ := h.row r row hr
      exact ⟨hl, vs, fr, hh.mono (Cz.le.refl C) (hk _ hh.lt)⟩,
    hb := by have := h.hb; simp; omega, below := h.below.alloc h.hb o }

/-! ### A new variable -/
def Cz.pushV (C : Cz) (g : Nat) : Cz := { C with nv := C.nv + 1, ρ := fun b => if b = C.nv then g else C.ρ b }
theorem Cz.le_pushV (C : Cz) (g : Nat) : C.le (C.pushV g) :=
  ⟨fun _ _ _ h => h, Nat.le_succ _, fun b hb => by simp [Cz.pushV]; omega, Nat.le_refl _, fun _ _ _ => rfl, rfl, rfl, fun _ _ _ _ h => h⟩
def St.pushV (σ : St) (vb : VB) : St := { σ with vars := σ.vars ++ [vb] }

theorem HRel.pushV {C : Cz} {σ : St} {w : World} (h : HRel C σ w) (vb : VB) (o : Obj) (hn : ∀ w' : World, w'.heap[w.heap.size]? = some o → vb.rel (C.pushV w.heap.size) w.heap.size w') :
    HRel (C.pushV w.heap.size) (σ.pushV vb) (w.alloc o) := by
  have hk : ∀ k, k < w.heap.size → (w.alloc o).heap[k]? = w.heap[k]? := fun k hk => Below.heap_alloc w o k hk
  have hle := C.le_pushV w.heap.size
  have hrho : ∀ b, b < C.nv → (C.pushV w.heap.size).ρ b = C.ρ b := fun b hb => hle.rho b hb
  have hlast : (C.pushV w.heap.size).ρ C.nv = w.heap.size := by simp [Cz.pushV]
  have hnv : ∀ b, b < (C.pushV w.heap.size).nv → b < C.nv ∨ b = C.nv := fun b hb => by simp [Cz.pushV] at hb; omega
  have hMn : ∀ o', C.M w.heap.size o' = none := fun o' => by
    cases hm : C.M w.heap.size o' with
    | none => rfl
    | some v => exact absurd (h.mem_lt hm) (Nat.lt_irrefl _)
  refine { nv := by simp [Cz.pushV, St.pushV, h.nv], nr := h.nr, mem := ?_, var := ?_, vinj := ?_, vM := ?_, vbase := ?_, row := ?_, rinj := h.rinj, rv := ?_, rM := h.rM, rbase := h.rbase, hb := ?_, below := h.below.alloc h.hb o }
  · exact fun b o' v hm => (cell_of_heap (hk b (h.mem_lt hm))).trans (h.mem b o' v hm)
  · intro b vb' hb
    by_cases hlt : b < σ.vars.length
    · rw [St.pushV, List.getElem?_append_left hlt] at hb
      rw [hrho b (h.nv ▸ hlt)]
      exact (h.var b vb' hb).mono hle (hk _ (h.var b vb' hb).lt)
    · have : b = σ.vars.length := by
        have := (List.getElem?_eq_some_iff.1 hb).1
        simp [St.pushV] at this; omega
      subst this
      simp [St.pushV] at hb; subst hb
      rw [← h.nv, hlast]
      exact hn _ (heap_alloc_at w o)
  · intro b b' hb hb' e
    rcases hnv b hb with hb | rfl <;> rcases hnv b' hb' with hb' | rfl
    · rw [hrho b hb, hrho b' hb'] at e; exact h.vinj b b' hb hb' e
    · rw [hrho b hb, hlast] at e; have := h.rho_lt hb; omega
    · rw [hrho b' hb', hlast] at e; have := h.rho_lt hb'; omega
    · rfl
  · intro b o' hb
    rcases hnv b hb with hb | rfl
    · rw [hrho b hb]; exact h.vM b o' hb
    · rw [hlast]; exact hMn o'
  · intro b hb
    rcases hnv b hb with hb | rfl
    · rw [hrho b hb]; exact h.vbase b hb
    · rw [hlast]; exact h.hb
  · intro r row hr
    obtain ⟨hl, vs, fr, hh⟩ := h.row r row hr
    exact ⟨hl, vs, fr, hh.mono hle (hk _ hh.lt)⟩
  · intro r b hr hb
    rcases hnv b hb with hb | rfl
    · rw [hrho b hb]; exact h.rv r b hr hb
    · rw [hlast]; exact Nat.ne_of_lt (h.blk_lt hr)
  · have := h.hb; show C.base ≤ _; simp; omega

/-! ### A new row: in a block that nobody else knows -/
def Cz.pushR (C : Cz) (rc : RowC) : Cz := { C with nr := C.nr + 1, row := fun r => if r = C.nr then rc else C.row r }
theorem Cz.le_pushR (C : Cz) (rc : RowC) : C.le (C.pushR rc) :=
  ⟨fun _ _ _ h => h, Nat.le_refl _, fun _ _ => rfl, Nat.le_succ _, fun r hr _ => by simp only [Cz.pushR]; rw [if_neg (by omega)], rfl, rfl, fun _ _ _ _ h => h⟩
def St.pushR (σ : St) (row : Row) : St := { σ with rows := σ.rows ++ [some row] }

theorem St.live_pushR {σ : St} {row : Row} {r : Nat} (h : (σ.pushR row).live r) : (r < σ.rows.length ∧ σ.live r) ∨ r = σ.rows.length := by
  obtain ⟨row', h⟩ := h
  by_cases hlt : r < σ.rows.length
  · rw [St.pushR, List.getElem?_append_left hlt] at h
    exact .inl ⟨hlt, row', h⟩
  · have := (List.getElem?_eq_some_iff.1 h).1
    simp [St.pushR] at this
    exact .inr (by omega)
theorem St.live_lt {σ : St} {r : Nat} (h : σ.live r) : r < σ.rows.length := by obtain ⟨row, h⟩ := h; exact (List.getElem?_eq_some_iff.1 h).1

/-- Nobody knows block g. -/
structure Cz.free (C : Cz) (σ : St) (g : Nat) : Prop where
  mem : ∀ o, C.M g o = none
  var : ∀ b, b < C.nv → C.ρ b ≠ g
  row : ∀ r, σ.live r → (C.row r).blk ≠ g
  base : C.base ≤ g

theorem HRel.free_new {C : Cz} {σ : St} {w : World} (h : HRel C σ w) : C.free σ w.heap.size := {
  mem := fun o => by
    cases hm : C.M w.heap.size o with
    | none => rfl
    | some v => exact absurd (h.mem_lt hm) (Nat.lt_irrefl _)
  var := fun b hb => Nat.ne_of_lt (h.rho_lt hb)
  row := fun r hr => Nat.ne_of_lt (h.blk_lt hr)
  base := h.hb }

theorem HRel.pushR {C : Cz} {σ : St} {w w' : World} (h : HRel C σ w) (row : Row) (rc : RowC) (hl : rc.live = true) (hf : C.free σ rc.blk)
    (hk : ∀ k, k < w.heap.size → k ≠ rc.blk → w'.heap[k]? = w.heap[k]?) (hb : C.base ≤ w'.heap.size) (hbel : Below C.base C.w0 w') {vs : List Value} {fr : Nat × Nat} (hr : RowRel C row rc w' vs fr) :
    HRel (C.pushR rc) (σ.pushR row) w' := by
  have hle := C.le_pushR rc
  have hold : ∀ r, r < C.nr → (C.pushR rc).row r = C.row r := fun r hr => by simp only [Cz.pushR]; rw [if_neg (by omega)]
  have hnew : (C.pushR rc).row σ.rows.length = rc := by simp only [Cz.pushR]; rw [if_pos h.nr.symm]
  refine { nv := h.nv, nr := by simp [Cz.pushR, St.pushR, h.nr], mem := ?_, var := ?_, vinj := h.vinj, vM := h.vM, vbase := h.vbase, row := ?_, rinj := ?_, rv := ?_, rM := ?_, rbase := ?_, hb := hb, below := hbel }
  · intro b o' v hm
    have hm' : C.M b o' = some v := hm
    exact (cell_of_heap (hk b (h.mem_lt hm') (fun e => by rw [e, hf.mem] at hm'; cases hm'))).trans (h.mem b o' v hm')
  · intro b vb hb
    have hlt : b < C.nv := h.nv ▸ (List.getElem?_eq_some_iff.1 hb).1
    exact (h.var b vb hb).mono hle (hk _ (h.var b vb hb).lt (hf.var b hlt))
  · intro r row' hr'
    by_cases hlt : r < σ.rows.length
    · rw [St.pushR, List.getElem?_append_left hlt] at hr'
      rw [hold r (h.nr ▸ hlt)]
      obtain ⟨hl, vs, fr, hh⟩ := h.row r row' hr'
      exact ⟨hl, vs, fr, hh.mono hle (hk _ hh.lt (hf.row r ⟨_, hr'⟩))⟩
    · have : r = σ.rows.length := by
        have := (List.getElem?_eq_some_iff.1 hr').1
        simp [St.pushR] at this; omega
      subst this
      simp [St.pushR] at hr'; subst hr'
      rw [hnew]
      exact ⟨hl, vs, fr, hr.mono hle rfl⟩
  · intro r r' h1 h2 e
    rcases St.live_pushR h1 with ⟨hlt, h1⟩ | rfl <;> rcases St.live_pushR h2 with ⟨hlt', h2⟩ | rfl
    · rw [hold r (h.nr ▸ hlt), hold r' (h.nr ▸ hlt')] at e; exact h.rinj r r' h1 h2 e
    · rw [hold r (h.nr ▸ hlt), hnew] at e; exact absurd e (hf.row r h1)
    · rw [hold r' (h.nr ▸ hlt'), hnew] at e; exact absurd e.symm (hf.row r' h2)
    · rfl
  · intro r b h1 hb
    rcases St.live_pushR h1 with ⟨hlt, h1⟩ | rfl
    · rw [hold r (h.nr ▸ hlt)]; exact h.rv r b h1 hb
    · rw [hnew]; exact fun e => hf.var b hb e.symm
  · intro r o' h1
    rcases St.live_pushR h1 with ⟨hlt, h1⟩ | rfl
    · rw [hold r (h.nr ▸ hlt)]; exact h.rM r o' h1
    · rw [hnew]; exact hf.mem o'
  · intro r h1
    rcases St.live_pushR h1 with ⟨hlt, h1⟩ | rfl
    · rw [hold r (h.nr ▸ hlt)]; exact h.rbase r h1
    · rw [hnew]; exact hf.base

/-- A row in a block that is made. -/
theorem HRel.newR {C : Cz} {σ : St} {w : World} (h : HRel C σ w) (row : Row) (vs : List Value) (fr : Nat × Nat) (hu : ∀ e ∈ row.els, e.length = row.esz) (hr : RepL C row.els.flatten (vs.take (row.els.length * row.esz))) (hl : row.els.length * row.esz ≤ vs.length)
    (hfr : ∀ o, row.fz * row.esz ≤ o → o < vs.length → ¬ (fr.1 ≤ o ∧ o < fr.2)) :
    HRel (C.pushR ⟨w.heap.size, 0, row.esz, vs.length, true⟩) (σ.pushR row) (w.alloc (.cells vs.toArray row.ety fr)) :=
  h.pushR row _ rfl h.free_new (fun k hk _ => Below.heap_alloc w _ k hk) (by have := h.hb; simp; omega) (h.below.alloc h.hb _)
    (vs := vs) (fr := fr) ⟨heap_alloc_at w _, rfl, rfl, hu, by simpa using hl, by simpa using hr, fun o h1 h2 => hfr o (by simpa using h1) h2⟩

/-! ### A row is let go -/
def Cz.kill (C : Cz) (r : Nat) : Cz := { C with row := fun k => if k = r then { C.row k with live := false } else C.row k }
theorem Cz.le_kill (C : Cz) (r : Nat) : C.le (C.kill r) :=
  ⟨fun _ _ _ h => h, Nat.le_refl _, fun _ _ => rfl, Nat.le_refl _, fun k _ hl => by
    simp only [Cz.kill] at hl ⊢
    by_cases e : k = r
    · rw [if_pos e] at hl; cases hl
    · rw [if_neg e], rfl, rfl, fun _ _ _ _ h => h⟩
def St.setR (σ : St) (r : Nat) (x : Option Row) : St := { σ with rows := σ.rows.set r x }
theorem St.live_kill {σ : St} {r k : Nat} (h : (σ.setR r none).live k) : k ≠ r ∧ σ.live k := by
  obtain ⟨row, h⟩ := h
  simp only [St.setR, List.getElem?_set] at h
  split at h
  · split at h <;> cases h
  · exact ⟨fun e => by omega, row, h⟩

theorem HRel.kill {C : Cz} {σ : St} {w : World} (h : HRel C σ w) (r : Nat) : HRel (C.kill r) (σ.setR r none) w := by
  have hne : ∀ k, k ≠ r → (C.kill r).row k = C.row k := fun k hk => by simp only [Cz.kill]; rw [if_neg hk]
  refine { nv := h.nv, nr := by simp [Cz.kill, St.setR, h.nr], mem := h.mem, var := fun b vb hb => (h.var b vb hb).mono (C.le_kill r) rfl, vinj := h.vinj, vM := h.vM, vbase := h.vbase, row := ?_, rinj := ?_, rv := ?_, rM := ?_, rbase := ?_, hb := h.hb, below := h.below }
  · intro k row hk
    have hl := St.live_kill ⟨row, hk⟩
    simp only [St.setR, List.getElem?_set, if_neg (Ne.symm hl.1)] at hk
    rw [hne k hl.1]
    obtain ⟨h1, vs, fr, h2⟩ := h.row k row hk
    exact ⟨h1, vs, fr, h2.mono (C.le_kill r) rfl⟩
  · intro k k' h1 h2 e
    have h1 := St.live_kill h1; have h2 := St.live_kill h2
    rw [hne k h1.1, hne k' h2.1] at e
    exact h.rinj k k' h1.2 h2.2 e
  · intro k b h1 hb
    have h1 := St.live_kill h1
    rw [hne k h1.1]; exact h.rv k b h1.2 hb
  · intro k o h1
    have h1 := St.live_kill h1
    rw [hne k h1.1]; exact h.rM k o h1.2
  · intro k h1
    have h1 := St.live_kill h1
    rw [hne k h1.1]; exact h.rbase k h1.2

theorem HRel.free_kill {C : Cz} {σ : St} {w : World} (h : HRel C σ w) {r : Nat} (hr : σ.live r) : (C.kill r).free (σ.setR r none) (C.row r).blk := {
  mem := fun o => h.rM r o hr
  var := fun b hb e => h.rv r b hr hb e.symm
  row := fun k hk e => by
    have hk := St.live_kill hk
    have : (C.kill r).row k = C.row k := by simp only [Cz.kill]; rw [if_neg hk.1]
    rw [this] at e
    exact hk.1 (h.rinj k r hk.2 hr e)
  base := h.rbase r hr }

/-! ### A row is there for good -/
def Cz.pub (C : Cz) (r : Nat) (vs : List Value) (n : Nat) : Cz :=
  { C.kill r with M := fun b o => if b = (C.row r).blk ∧ (C.row r).base ≤ o ∧ o < (C.row r).base + n then vs[o]? else C.M b o }
theorem HRel.le_pub {C : Cz} {σ : St} {w : World} (h : HRel C σ w) {r : Nat} (hr : σ.live r) (vs : List Value) (n : Nat) : C.le (C.pub r vs n) := by
  have hk := C.le_kill r
  refine ⟨fun b o v hm => ?_, hk.nv, hk.rho, hk.nr, hk.row, rfl, rfl, fun b o v hb hm => ?_⟩
  case refine_2 =>
    simp only [Cz.pub] at hm
    split at hm
    · rename_i e
      have := h.rbase r hr
      omega
    · exact hm
  have : ¬ (b = (C.row r).blk ∧ (C.row r).base ≤ o ∧ o < (C.row r).base + n) := fun e => by rw [e.1, h.rM r o hr] at hm; cases hm
  simp only [Cz.pub]
  rw [if_neg this]
  exact hm
theorem HRel.pub {C : Cz} {σ : St} {w : World} (h : HRel C σ w) {r : Nat} {row : Row} (hr : σ.rows[r]? = some (some row)) {vs : List Value} {fr : Nat × Nat} (hrel : RowRel C row (C.row r) w vs fr) :
    HRel (C.pub r vs (row.els.length * row.esz)) (σ.setR r none) w := by
  have hk := h.kill r
  have hlive : σ.live r := ⟨row, hr⟩
  have hle := h.le_pub hlive vs (row.els.length * row.esz)
  have hkl : (C.kill r).le (C.pub r vs (row.els.length * row.esz)) :=
    ⟨fun b o v hm => hle.mem b o v hm, Nat.le_refl _, fun _ _ => rfl, Nat.le_refl _, fun _ _ _ => rfl, rfl, rfl, fun b o v hb hm => hle.old b o v hb hm⟩
  refine { nv := hk.nv, nr := hk.nr, mem := ?_, var := fun b vb hb => (hk.var b vb hb).mono hkl rfl, vinj := hk.vinj, vM := ?_, vbase := hk.vbase, row := ?_, rinj := hk.rinj, rv := hk.rv, rM := ?_, rbase := hk.rbase, hb := hk.hb, below := hk.below }
  · intro b o v hm
    simp only [Cz.pub] at hm
    split at hm
    · rename_i e
      obtain ⟨rfl, _, _⟩ := e
      unfold World.cell?
      simp only [hrel.heap]
      simpa using hm
    · exact h.mem b o v hm
  · intro b o hb
    simp only [Cz.pub]
    rw [if_neg (fun e => h.rv r b hlive hb e.1.symm)]
    exact h.vM b o hb
  · intro k row' hk'
    obtain ⟨h1, vs, fr, h2⟩ := hk.row k row' hk'
    exact ⟨h1, vs, fr, h2.mono hkl rfl⟩
  · intro k o hl
    simp only [Cz.pub]
    rw [if_neg (fun e => (h.free_kill hlive).row k hl e.1)]
    exact hk.rM k o hl

/-! ### A block is written -/
def St.setV (σ : St) (b : Nat) (vb : VB) : St := { σ with vars := σ.vars.set b vb }
theorem HRel.setV {C : Cz} {σ : St} {w w' : World} (h : HRel C σ w) {b : Nat} (hb : b < C.nv) (vb : VB) (hk : ∀ k, k ≠ C.ρ b → w'.heap[k]? = w.heap[k]?) (hs : w.heap.size ≤ w'.heap.size)
    (hbel : Below C.base C.w0 w') (hv : vb.rel C (C.ρ b) w') : HRel C (σ.setV b vb) w' := by
  refine { nv := by simp [St.setV, h.nv], nr := h.nr, mem := ?_, var := ?_, vinj := h.vinj, vM := h.vM, vbase := h.vbase, row := ?_, rinj := h.rinj, rv := h.rv, rM := h.rM, rbase := h.rbase, hb := Nat.le_trans h.hb hs, below := hbel }
  · exact fun k o v hm => (cell_of_heap (hk k (fun e => by rw [e, h.vM b o hb] at hm; cases hm))).trans (h.mem k o v hm)
  · intro k vb' hk'
    simp only [St.setV, List.getElem?_set] at hk'
    split at hk'
    · rename_i e
      split at hk'
      · cases hk'; rw [← e]; exact hv
      · cases hk'
    · rename_i e
      have hlt : k < C.nv := h.nv ▸ (List.getElem?_eq_some_iff.1 hk').1
      exact (h.var k vb' hk').mono (Cz.le.refl C) (hk _ (fun e' => e (h.vinj k b hlt hb e').symm))
  · intro r row hr
    obtain ⟨h1, vs, fr, h2⟩ := h.row r row hr
    exact ⟨h1, vs, fr, h2.mono (Cz.le.refl C) (hk _ (h.rv r b ⟨row, hr⟩ hb))⟩

theorem HRel.setR {C : Cz} {σ : St} {w w' : World} (h : HRel C σ w) {r : Nat} (hr : σ.live r) (row : Row) (hk : ∀ k, k ≠ (C.row r).blk → w'.heap[k]? = w.heap[k]?) (hs : w.heap.size ≤ w'.heap.size)
    (hbel : Below C.base C.w0 w') {vs : List Value} {fr : Nat × Nat} (hv : RowRel C row (C.row r) w' vs fr) : HRel C (σ.setR r (some row)) w' := by
  have hlv : ∀ k, (σ.setR r (some row)).live k → σ.live k := fun k hk' => by
    obtain ⟨row', hk'⟩ := hk'
    simp only [St.setR, List.getElem?_set] at hk'
    split at hk'
    · rename_i e; rw [← e]; exact hr
    · exact ⟨row', hk'⟩
  refine { nv := h.nv, nr := by simp [St.setR, h.nr], mem := ?_, var := ?_, vinj := h.vinj, vM := h.vM, vbase := h.vbase, row := ?_, rinj := fun a b x y => h.rinj a b (hlv a x) (hlv b y), rv := fun a b x => h.rv a b (hlv a x), rM := fun a b x => h.rM a b (hlv a x), rbase := fun a x => h.rbase a (hlv a x), hb := Nat.le_trans h.hb hs, below := hbel }
  · exact fun k o v hm => (cell_of_heap (hk k (fun e => by rw [e, h.rM r o hr] at hm; cases hm))).trans (h.mem k o v hm)
  · intro b vb hb
    have hlt : b < C.nv := h.nv ▸ (List.getElem?_eq_some_iff.1 hb).1
    exact (h.var b vb hb).mono (Cz.le.refl C) (hk _ (fun e => h.rv r b hr hlt e.symm))
  · intro k row' hk'
    by_cases e : k = r
    · subst e
      simp only [St.setR, List.getElem?_set] at hk'
      simp at hk'
      obtain ⟨_, rfl⟩ := hk'
      obtain ⟨row0, hr0⟩ := hr
      exact ⟨(h.row k row0 hr0).1, vs, fr, hv⟩
    · simp only [St.setR, List.getElem?_set] at hk'
      rw [if_neg (Ne.symm e)] at hk'
      obtain ⟨h1, vs, fr, h2⟩ := h.row k row' hk'
      exact ⟨h1, vs, fr, h2.mono (Cz.le.refl C) (hk _ (fun e' => e (h.rinj k r ⟨_, hk'⟩ hr e')))⟩

/-! ### Cells are written in the middle of a list -/
def setL {α : Type} : List α → Nat → List α → List α
  | l, _, [] => l
  | l, o, c :: cs => setL (l.set o c) (o + 1) cs
theorem length_setL {α : Type} : ∀ (cs : List α) (l : List α) (o : Nat), (setL l o cs).length = l.length
  | [], _, _ => rfl
  | c :: cs, l, o => by simp [setL, length_setL cs]
theorem RepL.setL {C : Cz} : ∀ {cs : List AV} {us : List Value} {l : List AV} {vs : List Value} (o : Nat), RepL C l vs → RepL C cs us → RepL C (Go.Ab.setL l o cs) (Go.Ab.setL vs o us)
  | _, _, _, _, _, h, .nil => h
  | _, _, _, _, o, h, .cons _ _ _ _ hc t => RepL.setL (o + 1) (h.set o hc) t
theorem setL_eq {α : Type} : ∀ (cs : List α) (l : List α) (o : Nat), o + cs.length ≤ l.length → setL l o cs = l.take o ++ cs ++ l.drop (o + cs.length)
  | [], l, o, _ => by simp [setL]
  | c :: cs, l, o, h => by
    simp at h
    rw [setL, setL_eq cs _ _ (by simp; omega)]
    have h1 : (l.set o c).take (o + 1) = l.take o ++ [c] := by
      rw [List.take_set, List.take_succ_eq_append_getElem (by omega), List.set_append_right _ _ (by simp; omega)]
      simp; congr 1; simp [Nat.min_eq_left (by omega : o ≤ l.length)]
    have h2 : (l.set o c).drop (o + 1 + cs.length) = l.drop (o + 1 + cs.length) := by rw [List.drop_set_of_lt (by omega)]
    rw [h1, h2]
    simp [Nat.add_assoc, Nat.add_comm 1]

theorem heap_setCell {w : World} {b o : Nat} {l : List Value} {e : TypeId} {fr : Nat × Nat} (v : Value) (h : w.heap[b]? = some (.cells l.toArray e fr)) :
    (w.setCell ⟨b, o, none⟩ v).heap[b]? = some (.cells (l.set o v).toArray e fr) := by
  simp [World.setCell, Array.getElem?_modify, h]
theorem heap_setCells {b : Nat} {e : TypeId} {fr : Nat × Nat} : ∀ (vs : List Value) (o : Nat) (w : World) (l : List Value), w.heap[b]? = some (.cells l.toArray e fr) →
    (w.setCells b o vs).heap[b]? = some (.cells (setL l o vs).toArray e fr)
  | [], _, _, _, h => by simpa [World.setCells, setL] using h
  | v :: vs, o, w, l, h => by
    rw [World.setCells, setL]
    exact heap_setCells vs (o + 1) _ _ (heap_setCell v h)
theorem heap_setCells_other {b k : Nat} (hk : k ≠ b) : ∀ (vs : List Value) (o : Nat) (w : World), (w.setCells b o vs).heap[k]? = w.heap[k]?
  | [], _, _ => by simp [World.setCells]
  | v :: vs, o, w => by
    rw [World.setCells, heap_setCells_other hk vs]
    exact Below.heap_setCell w _ v k hk
theorem size_setCells {b : Nat} : ∀ (vs : List Value) (o : Nat) (w : World), (w.setCells b o vs).heap.size = w.heap.size
  | [], _, _ => by simp [World.setCells]
  | v :: vs, o, w => by rw [World.setCells, size_setCells vs]; simp
theorem below_setCells {B b : Nat} {w0 : World} (hb : B ≤ b) : ∀ (vs : List Value) (o : Nat) (w : World), Below B w0 w → Below B w0 (w.setCells b o vs)
  | [], _, _, h => by simpa [World.setCells] using h
  | v :: vs, o, w, h => by
    rw [World.setCells]
    exact below_setCells hb vs (o + 1) _ (h.setCell hb v)
end Go.Ab
