/-
  The abstract machine of this work, part 2: what an operation does to abstract values and the abstract heap, and that the machine does just that.
-/
import Derived.Test.YtpejbkckppnamaaDoorAbCore
import Derived.Laws.Entries
import Derived.ChangeKeysEq
import Derived.Lib.Strings
set_option linter.all false
set_option linter.unusedVariables false
set_option linter.unusedSimpArgs false
namespace Go.Ab
open Go Go.RowKit

/-! ### Types -/
inductive Kd where
  | int (k : IntKind)
  | bool
  | str
  | slice (e : TypeId)
  | arr (n : Nat) (e : TypeId)
  | struct (fs : List (Nat × TypeId))
  | ptr (e : TypeId)
  | iface
  | func
  | other
structure TI where
  size : Nat
  bytes : Nat
  kd : Kd
  zero : List AV
abbrev TT := TypeId → Option TI

/-- The value of an abstract value that needs no memory. -/
def AV.toV : AV → Value
  | .int k n => .int k n
  | .bool b => .bool b
  | .str s => .string ⟨s.toArray⟩
  | .nilp => .pointer none
  | .nils => .slice none 0 0
  | .niln => .nilFunc
  | .nili => .nilIface
  | _ => undef
def AV.plain : AV → Bool
  | .int _ _ | .bool _ | .str _ | .nilp | .nils | .niln | .nili => true
  | _ => false
theorem Rep.plain {C : Cz} {c : AV} (h : c.plain = true) : Rep C c c.toV := by
  cases c <;> first | (simp [AV.plain] at h; done) | constructor
theorem RepL.plain {C : Cz} : ∀ {cs : List AV}, cs.all AV.plain = true → RepL C cs (cs.map AV.toV)
  | [], _ => .nil
  | c :: cs, h => by
    simp only [List.all_cons, Bool.and_eq_true] at h
    exact .cons _ _ _ _ (Rep.plain h.1) (RepL.plain h.2)
theorem AV.plain_one {c : AV} (h : c.plain = true) : c.one = true := by cases c <;> simp_all [AV.plain, AV.one]

def Kd.agg : Kd → Bool
  | .arr _ _ | .struct _ => true
  | _ => false
def Kd.ok (k : Kd) (d : TypeDesc) : Prop :=
  match k with
  | .int k => d = .int k
  | .bool => d = .bool
  | .str => d = .string
  | .slice e => d = .slice e
  | .arr n e => d = .array n e
  | .struct fs => ∃ a : Array Field, d = .struct a ∧ a.toList.map (fun f => (f.offset, f.type)) = fs
  | .ptr e => d = .pointer e
  | .iface => ∃ m, d = .interface m
  | .func => ∃ a b c, d = .func a b c
  | .other => d.isRow = false ∧ ∀ m, d ≠ .interface m
structure TIok (P : Program) (t : TypeId) (ti : TI) : Prop where
  info : ∃ i z, P.info? t = some i ∧ i.size = ti.size ∧ i.bytes = ti.bytes ∧ i.zero = some z ∧ z.cells.toList = ti.zero.map AV.toV
  plain : ti.zero.all AV.plain = true
  len : ti.zero.length = ti.size
  kd : ∃ d, P.underlying t = some d ∧ ti.kd.ok d
def TOK (P : Program) (T : TT) : Prop := ∀ t ti, T t = some ti → TIok P t ti

def lookT (t : TypeId) : List (Nat × TI) → Option TI
  | [] => none
  | (k, ti) :: r => if k == t then some ti else lookT t r
def AllOk (P : Program) : List (Nat × TI) → Prop
  | [] => True
  | (k, ti) :: r => TIok P k ti ∧ AllOk P r
theorem tok_of_all {P : Program} : ∀ {l : List (Nat × TI)}, AllOk P l → TOK P (fun t => lookT t l)
  | [], _, t, ti, h => by cases h
  | (k, ti') :: r, hh, t, ti, h => by
    simp only [lookT] at h
    split at h
    · rename_i e
      cases h
      have : k = t := by simpa using e
      subst this; exact hh.1
    · exact tok_of_all hh.2 t ti h

section types
variable {P : Program} {t : TypeId} {ti : TI} (h : TIok P t ti) (w : World)
include h
theorem TIok.sizeOf : (sizeOf t).run P w = .ok ti.size w := by
  obtain ⟨i, z, hi, hs, _⟩ := h.info
  unfold Go.sizeOf typeInfo
  simp [hi, hs]
theorem TIok.tinfo : ∃ i : TypeInfo, (typeInfo t).run P w = .ok i w ∧ i.bytes = ti.bytes := by
  obtain ⟨i, z, hi, hs, hb, _⟩ := h.info
  exact ⟨i, run_typeInfo w hi, hb⟩
theorem TIok.zeroValue : ∃ z : Value, (zeroValue t).run P w = .ok z w ∧ z.cells.toList = ti.zero.map AV.toV := by
  obtain ⟨i, z, hi, hs, _, hz, hc⟩ := h.info
  exact ⟨z, by unfold Go.zeroValue; rw [Sem.run_bind, run_typeInfo w hi]; simp only [Result.andThen_ok, hz]; rfl, hc⟩
theorem TIok.under : ∃ d, (underlying t).run P w = .ok d w ∧ ti.kd.ok d ∧ P.underlying t = some d := by
  obtain ⟨d, hd, hk⟩ := h.kd
  exact ⟨d, run_underlying hd w, hk, hd⟩
omit h in
theorem TIok.row {d : TypeDesc} (hk : ti.kd.ok d) : d.isRow = ti.kd.agg := by
  cases hq : ti.kd <;> rw [hq] at hk <;> simp only [Kd.ok] at hk <;> simp only [Kd.agg]
  case other => exact hk.1
  case struct fs => obtain ⟨a, rfl, _⟩ := hk; rfl
  case iface => obtain ⟨a, rfl⟩ := hk; rfl
  case func => obtain ⟨a, b, c, rfl⟩ := hk; rfl
  all_goals (subst hk; rfl)
theorem TIok.isAgg : (isAgg t).run P w = .ok ti.kd.agg w := by
  obtain ⟨d, hd, hk, _⟩ := h.under w
  have := TIok.row hk
  unfold Go.isAgg
  rw [Sem.run_bind, hd]
  simp only [Result.andThen_ok]
  rw [← this]
  cases d <;> rfl
end types

/-! ### Reading and writing the abstract heap -/
def ldAt (σ : St) (a : AV) (n : Nat) : Option (List AV) :=
  match a with
  | .vp b off => match σ.vars[b]? with
    | some (.cells _ l) => if off + n ≤ l.length then some ((l.drop off).take n) else none
    | _ => none
  | .rp cs => if n ≤ cs.length then some (cs.take n) else none
  | .op r i k => match σ.rows[r]? with
    | some (some row) => match row.els[i]? with
      | some e => if k + n ≤ e.length then some ((e.drop k).take n) else none
      | none => none
    | _ => none
  | _ => none
def stAt (σ : St) (a : AV) (cs : List AV) : Option St :=
  match a with
  | .vp b off => match σ.vars[b]? with
    | some (.cells e l) => if off + cs.length ≤ l.length then some (σ.setV b (.cells e (setL l off cs))) else none
    | _ => none
  | .op r i k => match σ.rows[r]? with
    | some (some row) => match row.els[i]? with
      | some e => if k + cs.length ≤ e.length ∧ row.fz ≤ i then some (σ.setR r (some { row with els := row.els.set i (setL e k cs) })) else none
      | none => none
    | _ => none
  | _ => none

theorem take_drop_get {α : Type} {l : List α} {a n j : Nat} {v : α} (h : ((l.drop a).take n)[j]? = some v) : l[a + j]? = some v := by
  rw [List.getElem?_take] at h
  split at h
  · simpa using h
  · cases h

theorem cell_heap {w : World} {b o : Nat} {vs : List Value} {e : TypeId} {fr : Nat × Nat} (h : w.heap[b]? = some (.cells vs.toArray e fr)) : w.cell? ⟨b, o, none⟩ = vs[o]? := by
  unfold World.cell?
  simp only [h]
  simp
theorem frozen_heap {w : World} {b o : Nat} {vs : List Value} {e : TypeId} {fr : Nat × Nat} (h : w.heap[b]? = some (.cells vs.toArray e fr)) : w.frozen? ⟨b, o, none⟩ = (decide (fr.1 ≤ o) && decide (o < fr.2)) := by
  unfold World.frozen?
  simp only [h]

theorem ldAt_sound {C : Cz} {σ : St} {w : World} (h : HRel C σ w) {a : AV} {V : Value} (ha : Rep C a V) {n : Nat} {cs : List AV} (hl : ldAt σ a n = some cs) :
    ∃ b o vs, V = .pointer (some ⟨b, o, none⟩) ∧ w.rangeAt b o vs ∧ RepL C cs vs ∧ cs.length = n := by
  cases a <;> simp only [ldAt] at hl <;> try (cases hl; done)
  case vp b off =>
    split at hl
    · rename_i e l hv
      split at hl
      · cases hl
        rename_i hle
        cases ha with
        | vp _ _ hb =>
          obtain ⟨vs, hw, hr⟩ := h.var b _ hv
          refine ⟨_, _, (vs.drop off).take n, rfl, fun j v hj => ?_, (hr.drop off).take n, by simp; omega⟩
          rw [cell_heap hw]
          exact take_drop_get hj
      · cases hl
    · cases hl
  case rp ds =>
    split at hl
    · cases hl
      cases ha with
      | rp _ vs b o hr hm =>
        refine ⟨b, o, vs.take n, rfl, fun j v hj => h.mem _ _ _ (hm j v ?_), hr.take n, by simp; omega⟩
        rw [List.getElem?_take] at hj
        split at hj
        · exact hj
        · cases hj
    · cases hl
  case op r i k =>
    split at hl
    · rename_i row hv
      split at hl
      · rename_i e he
        split at hl
        · cases hl
          rename_i hle
          cases ha with
          | op _ _ _ a hr hp =>
            obtain ⟨hlive, vs, fr, hh⟩ := h.row r row hv
            have := hp hlive
            subst this
            have hee : ((row.els.flatten.drop (i * row.esz)).take row.esz) = e := flat_get hh.uni he
            have hre : RepL C e ((((vs.drop (C.row r).base).take (row.els.length * row.esz)).drop (i * row.esz)).take row.esz) := by
              rw [← hee]; exact (hh.rep.drop _).take _
            refine ⟨_, _, ((((((vs.drop (C.row r).base).take (row.els.length * row.esz)).drop (i * row.esz)).take row.esz)).drop k).take n, rfl, fun j v hj => ?_, (hre.drop k).take n, by simp; omega⟩
            rw [cell_heap hh.heap, hh.esz]
            have h1 := take_drop_get hj
            have h2 := take_drop_get h1
            rw [List.getElem?_take] at h2
            split at h2
            · rw [List.getElem?_drop] at h2
              rw [← h2]; congr 1; omega
            · cases h2
        · cases hl
      · cases hl
    · cases hl

theorem setL_get_out {α : Type} : ∀ (cs : List α) (l : List α) (o j : Nat), j < o ∨ o + cs.length ≤ j → (setL l o cs)[j]? = l[j]?
  | [], _, _, _, _ => rfl
  | c :: cs, l, o, j, h => by
    simp at h
    rw [setL, setL_get_out cs _ _ _ (by omega), List.getElem?_set_ne (by omega)]

theorem take_drop_setL {α : Type} (l : List α) (base off n : Nat) (cs : List α) (h1 : off + cs.length ≤ n) (h2 : base + n ≤ l.length) :
    ((setL l (base + off) cs).drop base).take n = setL ((l.drop base).take n) off cs := by
  rw [setL_eq _ _ _ (by omega), setL_eq _ _ _ (by simp; omega)]
  apply List.ext_getElem?
  intro j
  by_cases hj : j < n
  · rw [List.getElem?_take, if_pos hj, List.getElem?_drop]
    simp only [List.getElem?_append, List.length_append, List.length_take, List.length_drop, List.getElem?_take, List.getElem?_drop]
    have e1 : min (base + off) l.length = base + off := by omega
    have e2 : min off (min n (l.length - base)) = off := by omega
    rw [e1, e2]
    by_cases a1 : j < off
    · rw [if_pos (by omega), if_pos (by omega), if_pos (by omega), if_pos (by omega), if_pos a1, if_pos hj, if_pos (by omega)]
    · by_cases a2 : j < off + cs.length
      · rw [if_pos (by omega), if_neg (by omega), if_pos (by omega), if_neg a1]
        congr 1; omega
      · rw [if_neg (by omega), if_neg (by omega), if_pos (by omega)]
        congr 1; omega
  · rw [List.getElem?_eq_none (by simp; omega), List.getElem?_eq_none (by simp; omega)]

theorem flat_set {α : Type} {z i k : Nat} {l : List (List α)} {e cs : List α} (h : ∀ e ∈ l, e.length = z) (hi : l[i]? = some e) (hk : k + cs.length ≤ z) :
    (l.set i (setL e k cs)).flatten = setL l.flatten (i * z + k) cs := by
  have hlt := (List.getElem?_eq_some_iff.1 hi).1
  have hm : e ∈ l := List.mem_of_getElem? hi
  have hz := h e hm
  have hmul : (i + 1) * z ≤ l.length * z := Nat.mul_le_mul_right _ hlt
  rw [Nat.add_mul, Nat.one_mul] at hmul
  have hfl := flat_len h
  rw [setL_eq _ _ _ (by omega), setL_eq _ _ _ (by omega)]
  have h1 : l = l.take i ++ e :: l.drop (i + 1) := by
    have : l[i] = e := by simpa [List.getElem?_eq_getElem hlt] using hi
    rw [← this, ← List.drop_eq_getElem_cons hlt, List.take_append_drop]
  have hl1 : (l.take i).flatten.length = i * z := by
    rw [flat_len (fun x hx => h x (mem_take' hx)), List.length_take, Nat.min_eq_left (by omega)]
  have h2 : l.flatten = (l.take i).flatten ++ (e ++ (l.drop (i + 1)).flatten) := by
    conv => lhs; rw [h1]
    simp
  rw [List.set_eq_take_append_cons_drop, if_pos hlt]
  simp only [List.flatten_append, List.flatten_cons]
  generalize (l.take i).flatten = A at hl1 h2 ⊢
  generalize (l.drop (i + 1)).flatten = B at h2 ⊢
  rw [h2]
  have e1 : (A ++ (e ++ B)).take (i * z + k) = A ++ e.take k := by
    rw [List.take_append, List.take_of_length_le (by omega), List.take_append, show i * z + k - A.length = k by omega, show k - e.length = 0 by omega]; simp
  have e2 : (A ++ (e ++ B)).drop (i * z + k + cs.length) = e.drop (k + cs.length) ++ B := by
    rw [List.drop_append, List.drop_of_length_le (by omega), List.drop_append, show i * z + k + cs.length - A.length = k + cs.length by omega, show k + cs.length - e.length = 0 by omega]; simp
  rw [e1, e2]
  simp

theorem stAt_sound {C : Cz} {σ σ' : St} {w : World} (h : HRel C σ w) {a : AV} {V : Value} (ha : Rep C a V) {cs : List AV} {vs : List Value} (hc : RepL C cs vs) (hl : stAt σ a cs = some σ') :
    ∃ b o, V = .pointer (some ⟨b, o, none⟩) ∧ w.there b o vs.length ∧ HRel C σ' (w.setCells b o vs) := by
  have hlen := hc.length
  cases a <;> simp only [stAt] at hl <;> try (cases hl; done)
  case vp b off =>
    split at hl
    · rename_i e l hv
      split at hl
      · cases hl
        rename_i hle
        cases ha with
        | vp _ _ hb =>
          obtain ⟨us, hw, hr⟩ := h.var b _ hv
          have hul := hr.length
          refine ⟨_, _, rfl, fun j hj => ?_, h.setV hb _ (fun k hk => heap_setCells_other hk _ _ _) (by rw [size_setCells]; omega) (below_setCells (h.vbase b hb) _ _ _ h.below) ?_⟩
          · rw [cell_heap hw, frozen_heap hw]
            refine ⟨?_, by simp⟩
            rw [List.getElem?_eq_getElem (by omega)]; rfl
          · exact ⟨_, heap_setCells vs off w us hw, hr.setL off hc⟩
      · cases hl
    · cases hl
  case op r i k =>
    split at hl
    · rename_i row hv
      split at hl
      · rename_i e he
        split at hl
        · cases hl
          rename_i hle
          cases ha with
          | op _ _ _ a hr hp =>
            obtain ⟨hlive, us, fr, hh⟩ := h.row r row hv
            have := hp hlive
            subst this
            have hlv : σ.live r := ⟨row, hv⟩
            have hfit := hh.fits
            have hsz := hh.size
            have hi : i < row.els.length := (List.getElem?_eq_some_iff.1 he).1
            have hez : e.length = row.esz := hh.uni e (List.mem_of_getElem? he)
            have hmul : (i + 1) * row.esz ≤ row.els.length * row.esz := Nat.mul_le_mul_right _ hi
            rw [Nat.add_mul, Nat.one_mul] at hmul
            have huni : ∀ x ∈ row.els.set i (setL e k cs), x.length = row.esz := fun x hx => by
              rcases List.mem_or_eq_of_mem_set hx with hx | rfl
              · exact hh.uni x hx
              · rw [length_setL]; exact hez
            refine ⟨_, _, rfl, fun j hj => ?_, h.setR hlv _ (fun k hk => heap_setCells_other hk _ _ _) (by rw [size_setCells]; omega) (below_setCells (h.rbase r hlv) _ _ _ h.below)
              (vs := setL us ((C.row r).base + i * (C.row r).esz + k) vs) (fr := fr) ⟨heap_setCells vs _ w us hh.heap, by rw [length_setL]; exact hh.size, hh.esz, huni, ?_, ?_, ?_⟩⟩
            · rw [cell_heap hh.heap, frozen_heap hh.heap, hh.esz]
              refine ⟨?_, ?_⟩
              · rw [List.getElem?_eq_getElem (by omega)]; rfl
              · have hfz : row.fz * row.esz ≤ i * row.esz := Nat.mul_le_mul_right _ hle.2
                have := hh.free ((C.row r).base + i * row.esz + k + j) (by omega) (by omega)
                rw [← Bool.not_eq_true, Bool.and_eq_true, decide_eq_true_eq, decide_eq_true_eq]; exact this
            · show _ + (row.els.set i (setL e k cs)).length * _ ≤ _
              rw [List.length_set]; exact hfit
            · show RepL C (row.els.set i (setL e k cs)).flatten ((List.drop _ _).take ((row.els.set i (setL e k cs)).length * row.esz))
              rw [List.length_set, hh.esz, Nat.add_assoc, take_drop_setL us _ _ _ _ (by omega) (by omega), flat_set hh.uni he (by omega)]
              exact hh.rep.setL _ hc
            · exact hh.free
        · cases hl
      · cases hl
    · cases hl
end Go.Ab
