/-
  The abstract machine of this work, part 17: a contract of the kit's shelf, in the abstract machine's words.
-/
import Derived.Test.YtpejbkckppnamaaDoorAbRules
import Derived.Deep.Draws
set_option linter.all false
set_option linter.unusedVariables false
set_option linter.unusedSimpArgs false
namespace Go.Ab
open Go Go.RowKit

/-- A world that has only grown stands for the same state. -/
theorem HRel.grown {C : Cz} {σ : St} {w w' : World} (h : HRel C σ w) (hb : Below w.heap.size w w') : HRel C σ w' := by
  refine { h with mem := ?_, var := ?_, row := ?_, hb := Nat.le_trans h.hb hb.size, below := h.below.trans (hb.mono h.hb) }
  · exact fun b o v hm => (cell_of_heap (hb.block b (h.mem_lt hm))).trans (h.mem b o v hm)
  · exact fun b vb hv => (h.var b vb hv).mono (Cz.le.refl C) (hb.block _ (h.var b vb hv).lt)
  · intro r row hr
    obtain ⟨hl, vs, fr, hh⟩ := h.row r row hr
    exact ⟨hl, vs, fr, hh.mono (Cz.le.refl C) (hb.block _ hh.lt)⟩

theorem ACalls.of_calls {P : Program} {G : GT} {f : FuncId} {fn : Func} (hf : P.funcs[f]? = some fn) (hb : fn.body.isSome = true) (hn : (fn.name == "runtime.NumGoroutine") = false) {args : List AV} {σ : St} {r : AV} {Q : AV → St → Prop}
    (h : ∀ (C : Cz) (w : World) (vs : List Value), (∀ b o v, C.M b o = some v → w.cell? ⟨b, o, none⟩ = some v) → GOK G C → RepL C args vs → Calls P f vs.toArray w (fun e w' => ∃ v, e = .returned v ∧ Rep C r v ∧ Below w.heap.size w w'))
    (hq : Q r σ) : ACalls P G f args σ Q := by
  intro C w vs h0 hg ha
  have hrun : (callFunc f vs.toArray).run P w = .ok (.enter f vs.toArray) w := by
    unfold callFunc
    rw [Sem.run_bind, run_program, Result.andThen_ok]
    have hb' : fn.body.isNone = false := by cases hq : fn.body <;> simp_all
    simp only [hf, hb', hn, Bool.false_eq_true, if_false, Sem.run_pure]
  unfold CallsX
  rw [hrun]
  refine (h C w vs h0.mem hg ha).mono ?_
  rintro e w' ⟨v, he, hr, hbel⟩
  exact ⟨v, he, r, σ, C, Cz.le.refl C, h0.grown hbel, hr, hq⟩

theorem ACalls.of_heap {P : Program} {G : GT} {f : FuncId} {fn : Func} (hf : P.funcs[f]? = some fn) (hb : fn.body.isSome = true) (hn : (fn.name == "runtime.NumGoroutine") = false) {args : List AV} {σ σ' : St} {r : AV} {Q : AV → St → Prop}
    (h : ∀ (C : Cz) (w : World) (vs : List Value), HRel C σ w → GOK G C → RepL C args vs → Calls P f vs.toArray w (fun e w' => ∃ v C', e = .returned v ∧ C.le C' ∧ HRel C' σ' w' ∧ Rep C' r v))
    (hq : Q r σ') : ACalls P G f args σ Q := by
  intro C w vs h0 hg ha
  have hrun : (callFunc f vs.toArray).run P w = .ok (.enter f vs.toArray) w := by
    unfold callFunc
    rw [Sem.run_bind, run_program, Result.andThen_ok]
    have hb' : fn.body.isNone = false := by cases hq : fn.body <;> simp_all
    simp only [hf, hb', hn, Bool.false_eq_true, if_false, Sem.run_pure]
  unfold CallsX
  rw [hrun]
  refine (h C w vs h0 hg ha).mono ?_
  rintro e w' ⟨v, C', he, hle, hrel, hr⟩
  exact ⟨v, he, r, σ', C', hle, hrel, hr, hq⟩

/-- A contract of data alone, at the machine itself. -/
theorem ACalls.to_calls {P : Program} {G : GT} {f : FuncId} {fn : Func} (hf : P.funcs[f]? = some fn) (hb : fn.body.isSome = true) (hn : (fn.name == "runtime.NumGoroutine") = false) {args : List AV} (hd : DataL args) (hG : ∀ g cs, G g = some cs → DataL cs)
    {Q : AV → Prop} (h : ACalls P G f args ⟨[], []⟩ (fun r _ => Q r)) {C : Cz} {W : World} (hm : ∀ b o v, C.M b o = some v → W.cell? ⟨b, o, none⟩ = some v) (hg : GOK G C) {vs : List Value} (ha : RepL C args vs) :
    Calls P f vs.toArray W (fun e w' => ∃ v r D, e = .returned v ∧ Rep D r v ∧ Q r ∧ Below W.heap.size W w') := by
  let B : Cz := { C with nv := 0, nr := 0, base := W.heap.size, w0 := W }
  have hB : HRel B ⟨[], []⟩ W := {
    nv := rfl, nr := rfl, mem := hm,
    var := fun b vb hb => by simp at hb
    vinj := fun b _ hb => by cases hb
    vM := fun b _ hb => by cases hb
    vbase := fun b hb => by cases hb
    row := fun r row hr => by simp at hr
    rinj := fun r _ hr => by obtain ⟨x, hx⟩ := hr; simp at hx
    rv := fun r _ hr => by obtain ⟨x, hx⟩ := hr; simp at hx
    rM := fun r _ hr => by obtain ⟨x, hx⟩ := hr; simp at hx
    rbase := fun r hr => by obtain ⟨x, hx⟩ := hr; simp at hx
    hb := Nat.le_refl _
    below := Below.refl _ _ }
  have hCB : ∀ b o v, C.M b o = some v → B.M b o = some v := fun _ _ _ e => e
  have hgB : GOK G B := fun g cs e => by
    obtain ⟨us, h1, h2⟩ := hg g cs e
    exact ⟨us, RepL.data hCB h1 (hG g cs e), h2⟩
  have hx := h B W vs hB hgB (RepL.data hCB ha hd)
  have hrun : (callFunc f vs.toArray).run P W = .ok (.enter f vs.toArray) W := by
    unfold callFunc
    rw [Sem.run_bind, run_program, Result.andThen_ok]
    have hb' : fn.body.isNone = false := by cases hq : fn.body <;> simp_all
    simp only [hf, hb', hn, Bool.false_eq_true, if_false, Sem.run_pure]
  unfold CallsX at hx
  rw [hrun] at hx
  refine hx.mono ?_
  rintro e w' ⟨v, he, r, σ', D, hle, hrel, hr, hQ⟩
  refine ⟨v, r, D, he, hr, hQ, ?_⟩
  have := hrel.below
  rw [show D.base = W.heap.size from hle.base, show D.w0 = W from hle.w0] at this
  exact this

theorem below_drewN {B : Nat} {w : World} (n : Nat) : Below B w (w.drewN n) := ⟨rfl, rfl, rfl, Nat.le_refl _, fun _ _ => rfl⟩

/-! ### What stands for arguments -/
theorem RepL.nil_inv {C : Cz} {vs : List Value} (h : RepL C [] vs) : vs = [] := by cases h; rfl
theorem RepL.str_inv {C : Cz} {s : List UInt8} {l : List AV} {vs : List Value} (h : RepL C (.str s :: l) vs) : ∃ us, vs = .string ⟨s.toArray⟩ :: us ∧ RepL C l us := by
  cases h with | cons _ _ _ _ h t => cases h; exact ⟨_, rfl, t⟩
theorem RepL.int_inv {C : Cz} {k : IntKind} {n : Int} {l : List AV} {vs : List Value} (h : RepL C (.int k n :: l) vs) : ∃ us, vs = .int k n :: us ∧ RepL C l us := by
  cases h with | cons _ _ _ _ h t => cases h; exact ⟨_, rfl, t⟩
theorem RepL.vp_inv {C : Cz} {b off : Nat} {l : List AV} {vs : List Value} (h : RepL C (.vp b off :: l) vs) : ∃ us, vs = .pointer (some ⟨C.ρ b, off, none⟩) :: us ∧ b < C.nv ∧ RepL C l us := by
  cases h with | cons _ _ _ _ h t => cases h with | vp _ _ hb => exact ⟨_, rfl, hb, t⟩
theorem RepL.s_inv {C : Cz} {s : List UInt8} {vs : List Value} (h : RepL C [.str s] vs) : vs = [.string ⟨s.toArray⟩] := by
  obtain ⟨us, rfl, k⟩ := h.str_inv; rw [k.nil_inv]
theorem RepL.i_inv {C : Cz} {k : IntKind} {n : Int} {vs : List Value} (h : RepL C [.int k n] vs) : vs = [.int k n] := by
  obtain ⟨us, rfl, k⟩ := h.int_inv; rw [k.nil_inv]
theorem RepL.ss_inv {C : Cz} {s p : List UInt8} {vs : List Value} (h : RepL C [.str s, .str p] vs) : vs = [.string ⟨s.toArray⟩, .string ⟨p.toArray⟩] := by
  obtain ⟨us, rfl, k⟩ := h.str_inv; rw [k.s_inv]
theorem RepL.si_inv {C : Cz} {s : List UInt8} {k : IntKind} {n : Int} {vs : List Value} (h : RepL C [.str s, .int k n] vs) : vs = [.string ⟨s.toArray⟩, .int k n] := by
  obtain ⟨us, rfl, k⟩ := h.str_inv; rw [k.i_inv]
/-- What the tables hold, the world holds. -/
theorem GOK.cell {G : GT} {C : Cz} {w : World} (h : GOK G C) (hm : ∀ b o v, C.M b o = some v → w.cell? ⟨b, o, none⟩ = some v) {g : Nat} {cs : List AV} (hg : G g = some cs) : ∃ vs, RepL C cs vs ∧ ∀ j v, vs[j]? = some v → w.cell? ⟨g, j, none⟩ = some v := by
  obtain ⟨vs, h1, h2⟩ := h g cs hg
  exact ⟨vs, h1, fun j v e => hm _ _ _ (h2 j v e)⟩
theorem setV_same {σ : St} {b : Nat} {v : VB} (h : getV σ b = some v) : σ.setV b v = σ := by
  cases σ with
  | mk vs rs =>
    simp only [getV, St.setV] at *
    congr 1
    obtain ⟨hlt, he⟩ := List.getElem?_eq_some_iff.1 h
    rw [← he]; exact List.set_getElem_self hlt
end Go.Ab
