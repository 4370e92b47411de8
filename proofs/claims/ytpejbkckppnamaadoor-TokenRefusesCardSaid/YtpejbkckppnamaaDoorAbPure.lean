/-
  The abstract machine of this work, part 3: operations that turn no memory.
-/
import Derived.Test.YtpejbkckppnamaaDoorAbOps
set_option linter.all false
set_option linter.unusedVariables false
set_option linter.unusedSimpArgs false
namespace Go.Ab
open Go Go.RowKit

/-! ### Operands -/
abbrev GT := Nat → Option (List AV)
def GOK (G : GT) (C : Cz) : Prop := ∀ g cs, G g = some cs → ∃ vs, RepL C cs vs ∧ ∀ j v, vs[j]? = some v → C.M g j = some v
theorem GOK.mono {G : GT} {C D : Cz} (l : C.le D) (h : GOK G C) : GOK G D := fun g cs e => by
  obtain ⟨vs, hr, hm⟩ := h g cs e
  exact ⟨vs, hr.mono l, fun j v hj => l.mem _ _ _ (hm j v hj)⟩

def ofV1 : Value → Option AV
  | .int k n => some (.int k n)
  | .bool b => some (.bool b)
  | .string s => some (.str s.data.toList)
  | .pointer none => some .nilp
  | .slice none 0 0 => some .nils
  | .nilFunc => some .niln
  | .nilIface => some .nili
  | _ => none
def ofVs : List Value → Option (List AV)
  | [] => some []
  | v :: vs => match ofV1 v, ofVs vs with
    | some c, some cs => some (c :: cs)
    | _, _ => none
def ofV : Value → Option AV
  | .agg cs => (ofVs cs.toList).map .agg
  | .tuple ⟨[]⟩ => some (.tup [])
  | v => ofV1 v
theorem ofV1_rep {C : Cz} {v : Value} {c : AV} (h : ofV1 v = some c) : Rep C c v := by
  unfold ofV1 at h
  split at h <;> first | (cases h; done) | (cases h; first | constructor | skip)
theorem ofVs_rep {C : Cz} : ∀ {vs : List Value} {cs : List AV}, ofVs vs = some cs → RepL C cs vs
  | [], cs, h => by cases h; exact .nil
  | v :: vs, cs, h => by
    simp only [ofVs] at h
    split at h
    · rename_i c ds h1 h2
      cases h
      exact .cons _ _ _ _ (ofV1_rep h1) (ofVs_rep h2)
    · cases h
theorem ofV_rep {C : Cz} {v : Value} {c : AV} (h : ofV v = some c) : Rep C c v := by
  unfold ofV at h
  split at h
  · rename_i cs
    cases hq : ofVs cs.toList with
    | none => rw [hq] at h; cases h
    | some ds =>
      rw [hq] at h; cases h
      exact .agg ds cs.toList (ofVs_rep hq)
  · cases h; exact .tup [] [] .nil
  · exact ofV1_rep h

def ev (G : GT) (t : List AV) : Operand → Option AV
  | .tmp n => t[n]?
  | .const v => ofV v
  | .global g => (G g).map .rp
  | .func f => some (.fn (.func f) [] [])
def evs (G : GT) (t : List AV) : List Operand → Option (List AV)
  | [] => some []
  | x :: xs => match ev G t x, evs G t xs with
    | some c, some cs => some (c :: cs)
    | _, _ => none

section
variable {C : Cz} {G : GT} {t : List AV} {a : Act}
theorem ev_rep (hg : GOK G C) (ht : RepL C t a.tmps.toList) {x : Operand} {c : AV} (h : ev G t x = some c) : Rep C c (a.eval x) := by
  cases x with
  | tmp n =>
    obtain ⟨v, hv, hr⟩ := ht.get n c h
    have : a.tmps.getD n undef = v := by
      rw [Array.getElem?_toList] at hv
      simp [Array.getD_eq_getD_getElem?, hv]
    simp only [Act.eval, this]; exact hr
  | const v => exact ofV_rep h
  | global g =>
    simp only [ev] at h
    cases hq : G g with
    | none => rw [hq] at h; cases h
    | some cs =>
      rw [hq] at h; cases h
      obtain ⟨vs, hr, hm⟩ := hg g cs hq
      exact .rp cs vs g 0 hr (fun j v hj => by rw [Nat.zero_add]; exact hm j v hj)
  | func f => cases h; exact .fn _ [] [] [] [] .nil .nil
theorem evs_rep (hg : GOK G C) (ht : RepL C t a.tmps.toList) : ∀ {xs : List Operand} {cs : List AV}, evs G t xs = some cs → RepL C cs (xs.map a.eval)
  | [], cs, h => by cases h; exact .nil
  | x :: xs, cs, h => by
    simp only [evs] at h
    split at h
    · rename_i c ds h1 h2
      cases h
      exact .cons _ _ _ _ (ev_rep hg ht h1) (evs_rep hg ht h2)
    · cases h
end

/-! ### Cells of a value -/
def cellsA : AV → List AV
  | .agg cs => cs
  | c => [c]
theorem cellsA_rep {C : Cz} {c : AV} {v : Value} (h : Rep C c v) : RepL C (cellsA c) v.cells.toList := by
  cases h
  case agg cs vs h => simpa [cellsA, Value.cells] using h
  all_goals (simp only [cellsA, Value.cells]; refine .cons _ _ _ _ ?_ .nil)
  all_goals first | constructor <;> assumption | skip

/-! ### load, store -/
def loadA (T : TT) (σ : St) (ty : TypeId) (a : AV) : Option AV :=
  match T ty with
  | some ti => if ti.kd.agg then (ldAt σ a ti.size).map .agg else
    match ldAt σ a 1 with
    | some [c] => some c
    | _ => none
  | none => none
def storeA (T : TT) (σ : St) (ty : TypeId) (a v : AV) : Option St :=
  match T ty with
  | some ti => if (cellsA v).length = ti.size ∧ (cellsA v).all AV.one = true then stAt σ a (cellsA v) else none
  | none => none

section
variable {P : Program} {C : Cz} {σ : St} {w : World} {T : TT}
theorem loadA_sound (hT : TOK P T) (h : HRel C σ w) {ty : TypeId} {a r : AV} {V : Value} (ha : Rep C a V) (hl : loadA T σ ty a = some r) :
    ∃ v, (Instr.loadAt ty V).run P w = .ok v w ∧ Rep C r v := by
  unfold loadA at hl
  split at hl
  · rename_i ti hti
    have ok := hT ty ti hti
    split at hl
    · rename_i hagg
      cases hq : ldAt σ a ti.size with
      | none => rw [hq] at hl; cases hl
      | some cs =>
        rw [hq] at hl; cases hl
        obtain ⟨b, o, vs, rfl, hr, hrep, hlen⟩ := ldAt_sound h ha hq
        obtain ⟨d, _, hk, hd⟩ := ok.under w
        obtain ⟨i, z, hi, hs, _⟩ := ok.info
        exact ⟨_, run_loadAt_mid w b o ty vs d hr hd (by rw [TIok.row hk]; exact hagg) (by rw [hi]; simp [hs, hrep.length, hlen]), .agg cs vs hrep⟩
    · rename_i hagg
      split at hl
      · rename_i c hq
        cases hl
        obtain ⟨b, o, vs, rfl, hr, hrep, hlen⟩ := ldAt_sound h ha hq
        cases hrep with
        | cons _ v _ vs h1 h2 =>
          have hc := hr 0 v (by simp)
          refine ⟨v, ?_, h1⟩
          have hna : ti.kd.agg = false := by simpa using hagg
          simp only [Instr.loadAt, Instr.sureAddr, Sem.run_bind, Sem.run_pure, Result.andThen_ok, loadVar, ok.isAgg w, hna]
          simp only [Nat.add_zero] at hc
          simp [hc]
      · cases hl
  · cases hl

theorem run_storeAt_any (b o : Nat) (ty : TypeId) (V : Value) (ht : w.there b o V.cells.size) (hs : (sizeOf ty).run P w = .ok V.cells.size w) (h1 : ∀ v ∈ V.cells.toList, v.oneCell' = true) :
    (Instr.storeAt ty (.pointer (some ⟨b, o, none⟩)) V).run P w = .ok () (w.setCells b o V.cells.toList) := by
  have := run_storeCells_cells (P := P) b o V.cells.toList 0 w (fun j hj => by simpa using (ht j (by simpa using hj)).1) (fun j hj => by simpa using (ht j (by simpa using hj)).2) h1
  simp only [Nat.add_zero] at this
  simp only [Instr.storeAt, Instr.sureAddr, Sem.run_bind, Sem.run_pure, Result.andThen_ok, storeVar, hs]
  simp [this]

theorem storeA_sound (hT : TOK P T) (h : HRel C σ w) {ty : TypeId} {a c : AV} {A V : Value} (ha : Rep C a A) (hc : Rep C c V) {σ' : St} (hl : storeA T σ ty a c = some σ') :
    ∃ w', (Instr.storeAt ty A V).run P w = .ok () w' ∧ HRel C σ' w' := by
  unfold storeA at hl
  split at hl
  · rename_i ti hti
    have ok := hT ty ti hti
    split at hl
    · rename_i hcond
      have hcr := cellsA_rep hc
      obtain ⟨b, o, rfl, hth, hrel⟩ := stAt_sound h ha hcr hl
      have hlen : V.cells.size = ti.size := by have := hcr.length; simp at this; omega
      refine ⟨_, run_storeAt_any b o ty V (by simpa using hth) (by rw [hlen]; exact ok.sizeOf w) (hcr.one hcond.2), hrel⟩
    · cases hl
  · cases hl
end

/-! ### nilCheck -/
def nilA (σ : St) (x : AV) : Option AV :=
  match x with
  | .vp _ _ | .rp _ | .fn (.func _) _ _ | .ifc _ _ => some x
  | .op r _ _ => match σ.rows[r]? with
    | some (some _) => some x
    | _ => none
  | _ => none
theorem nilA_sound {C : Cz} {σ : St} {w : World} (h : HRel C σ w) {x r : AV} {V : Value} (hx : Rep C x V) (hn : nilA σ x = some r) :
    r = x ∧ (∀ P : Program, ∀ (o : Oper) (ρ : Operand → Value) (y : Operand), o.op = .nilCheck y → ρ y = V → (execOp ρ o).run P w = .ok (.value V) w) := by
  have key : ∀ V' : Value, (∀ a, V' = .pointer a → a ≠ none) → V' ≠ .nilIface → V' ≠ .nilFunc → (∀ n f c, V' ≠ .func (.method n) f c) →
      ∀ P : Program, ∀ (o : Oper) (ρ : Operand → Value) (y : Operand), o.op = .nilCheck y → ρ y = V' → (execOp ρ o).run P w = .ok (.value V') w := by
    intro V' h1 h2 h3 h4 P o ρ y ho hy
    unfold execOp
    simp only [ho, hy]
    split
    · rename_i e; exact absurd rfl (h1 none rfl)
    · exact absurd rfl h2
    · exact absurd rfl h3
    · rename_i e; exact absurd rfl (h4 _ _ _)
    · rfl
  cases x <;> simp only [nilA] at hn <;> try (cases hn; done)
  case vp b off => cases hn; cases hx; exact ⟨rfl, key _ (by simp) (by simp) (by simp) (by simp)⟩
  case rp cs => cases hn; cases hx; exact ⟨rfl, key _ (by simp) (by simp) (by simp) (by simp)⟩
  case ifc t v => cases hn; cases hx; exact ⟨rfl, key _ (by simp) (by simp) (by simp) (by simp)⟩
  case op r i k =>
    split at hn
    · rename_i row hv
      cases hn
      cases hx with
      | op _ _ _ a hr hp =>
        have := hp (h.row r row hv).1
        subst this
        exact ⟨rfl, key _ (by simp) (by simp) (by simp) (by simp)⟩
    · cases hn
  case fn f a b =>
    cases f <;> simp only at hn <;> try (cases hn; done)
    cases hn; cases hx; exact ⟨rfl, key _ (by simp) (by simp) (by simp) (by simp)⟩
end Go.Ab
