/-
  The abstract machine of this work, part 9: one operation; a list of operations; code; a call.
-/
import Derived.Test.YtpejbkckppnamaaDoorAbMem
set_option linter.all false
set_option linter.unusedVariables false
set_option linter.unusedSimpArgs false
namespace Go.Ab
open Go Go.RowKit

def liveA (σ : St) (x : AV) : Bool :=
  match x with
  | .op r _ _ | .os r _ _ => match σ.rows[r]? with
    | some (some _) => true
    | _ => false
  | _ => true
def evo (G : GT) (t : List AV) : Option Operand → Option (Option AV)
  | none => some none
  | some x => (ev G t x).map some

/-- An operation that turns no memory. -/
def opP (T : TT) (G : GT) (t : List AV) (σ : St) (op : Op) : Option AV :=
  match op with
  | .move x => ev G t x
  | .assign x => ev G t x
  | .pick c a b => match ev G t c with
    | some (.bool true) => ev G t a
    | some (.bool false) => ev G t b
    | _ => none
  | .build ty parts => match evps G t parts.toList with
    | some ps => buildA T ty ps
    | none => none
  | .load ty a => match ev G t a with
    | some c => loadA T σ ty c
    | none => none
  | .nilCheck x => match ev G t x with
    | some c => nilA σ c
    | none => none
  | .binOp op xt x y _ => match ev G t x, ev G t y with
    | some a, some b => binA T op xt (isC x) (isC y) a b
    | _, _ => none
  | .unOp op _ x => match ev G t x with
    | some a => unA op a
    | none => none
  | .convert s d x => match ev G t x with
    | some a => cvtA T s d a
    | none => none
  | .makeInterface ty x => match ev G t x with
    | some a => ifcA T ty a
    | none => none
  | .makeFunc f first cap => match evs G t first.toList, evs G t cap.toList with
    | some a, some b => some (.fn f a b)
    | _, _ => none
  | .slice ty x lo hi mx => match ev G t x, evo G t lo, evo G t hi, evo G t mx with
    | some a, some l, some h, some m => if liveA σ a then sliceA T ty a l h m else none
    | _, _, _, _ => none
  | .fieldAddr ty x f => match ev G t x with
    | some a => if liveA σ a then fieldAddrA T ty a f else none
    | none => none
  | .field ty x f => match ev G t x with
    | some a => fieldA T ty a f
    | none => none
  | .indexAddr ty x i => match ev G t x, ev G t i with
    | some a, some b => indexAddrA T ty σ a b
    | _, _ => none
  | .index ty x i => match ev G t x, ev G t i with
    | some a, some b => indexA T ty a b
    | _, _ => none
  | .extract x i => match ev G t x with
    | some a => extrA a i
    | none => none
  | .call c => match c.callee, c.args.toList, c.argTypes.toList with
    | .builtin .len, [x], ty :: _ => match ev G t x with
      | some a => lenA T ty a
      | none => none
    | _, _, _ => none
  | _ => none
/-- An operation that makes or writes memory. -/
def opM (T : TT) (G : GT) (t : List AV) (σ : St) (op : Op) : Option (AV × St) :=
  match op with
  | .alloc ty => allocA T σ ty
  | .box ty x => match ev G t x with
    | some a => boxA σ ty a
    | none => none
  | .buildSlice ty len parts => match evps G t parts.toList with
    | some ps => buildSliceA T σ ty len ps
    | none => none
  | .store ty a x => match ev G t a, ev G t x with
    | some p, some c => match storeA T σ ty p c with
      | some σ' => some (.tup [], σ')
      | none => none
    | _, _ => none
  | .call c => match c.callee, c.args.toList, c.argTypes.toList with
    | .builtin .append, [s, x], [ts, tx] => match ev G t s, ev G t x with
      | some a, some b => appendA T σ ts tx a b
      | _, _ => none
    | _, _, _ => none
  | _ => none

section
variable {P : Program} {C : Cz} {σ : St} {w : World} {T : TT} {G : GT} {t : List AV} {a : Act}

theorem evo_rep (hg : GOK G C) (ht : RepL C t a.tmps.toList) {x : Option Operand} {c : Option AV} (h : evo G t x = some c) : RepO C c (x.map a.eval) := by
  cases x with
  | none => cases h; exact .none
  | some x =>
    simp only [evo] at h
    cases hq : ev G t x with
    | none => rw [hq] at h; cases h
    | some c' => rw [hq] at h; cases h; exact .some _ _ (ev_rep hg ht hq)
theorem liveA_op {x : AV} (h : liveA σ x = true) : (∀ rr i k, x = AV.op rr i k → σ.live rr) ∧ (∀ rr off n, x = AV.os rr off n → σ.live rr) := by
  constructor
  · rintro rr i k rfl
    simp only [liveA] at h
    split at h
    · rename_i row hr; exact ⟨row, hr⟩
    · cases h
  · rintro rr i k rfl
    simp only [liveA] at h
    split at h
    · rename_i row hr; exact ⟨row, hr⟩
    · cases h

theorem opP_sound (hT : TOK P T) (h0 : HRel C σ w) (hg : GOK G C) (ht : RepL C t a.tmps.toList) {o : Oper} {r : AV} (h : opP T G t σ o.op = some r) :
    ∃ v, (execOp a.eval o).run P w = .ok (.value v) w ∧ Rep C r v := by
  have lift : ∀ s : Sem Value, Yields P C w s r → execOp a.eval o = (do pure (.value (← s))) → ∃ v, (execOp a.eval o).run P w = .ok (.value v) w ∧ Rep C r v := by
    rintro s ⟨v, hv, hr⟩ e
    exact ⟨v, by rw [e, Sem.run_bind, hv]; rfl, hr⟩
  unfold opP at h
  split at h
  · rename_i x hop
    exact ⟨_, by unfold execOp; rw [hop]; rfl, ev_rep hg ht h⟩
  · rename_i x hop
    exact ⟨_, by unfold execOp; rw [hop]; rfl, ev_rep hg ht h⟩
  · rename_i c x y hop
    split at h
    · rename_i hc
      have hcr := ev_rep hg ht hc
      have hce : a.eval c = .bool true := by generalize a.eval c = V at hcr; cases hcr; rfl
      exact ⟨_, by unfold execOp; rw [hop]; simp only [hce]; rfl, ev_rep hg ht h⟩
    · rename_i hc
      have hcr := ev_rep hg ht hc
      have hce : a.eval c = .bool false := by generalize a.eval c = V at hcr; cases hcr; rfl
      exact ⟨_, by unfold execOp; rw [hop]; simp only [hce]; rfl, ev_rep hg ht h⟩
    · cases h
  · rename_i ty parts hop
    split at h
    · rename_i ps hps
      refine lift _ (buildA_sound (qs := parts.map fun (i, x) => (i, a.eval x)) hT ?_ h) (by unfold execOp; rw [hop])
      have := evps_rep hg ht hps
      simpa using this
    · cases h
  · rename_i ty x hop
    split at h
    · rename_i c hc
      obtain ⟨v, hv, hr⟩ := loadA_sound hT h0 (ev_rep hg ht hc) h
      exact lift _ ⟨v, hv, hr⟩ (by unfold execOp; rw [hop])
    · cases h
  · rename_i x hop
    split at h
    · rename_i c hc
      obtain ⟨rfl, hrun⟩ := nilA_sound h0 (ev_rep hg ht hc) h
      exact ⟨_, hrun P o a.eval x hop rfl, ev_rep hg ht hc⟩
    · cases h
  · rename_i op xt x y yt hop
    split at h
    · rename_i c d hc hd
      exact lift _ (binA_sound hT (ev_rep hg ht hc) (ev_rep hg ht hd) h) (by unfold execOp; rw [hop])
    · cases h
  · rename_i op xt x hop
    split at h
    · rename_i c hc
      exact lift _ (unA_sound (ev_rep hg ht hc) h) (by unfold execOp; rw [hop])
    · cases h
  · rename_i s d x hop
    split at h
    · rename_i c hc
      exact lift _ (cvtA_sound hT (ev_rep hg ht hc) h) (by unfold execOp; rw [hop])
    · cases h
  · rename_i ty x hop
    split at h
    · rename_i c hc
      exact lift _ (ifcA_sound hT (ev_rep hg ht hc) h) (by unfold execOp; rw [hop])
    · cases h
  · rename_i f first cap hop
    split at h
    · rename_i c d hc hd
      cases h
      refine lift _ ⟨_, rfl, ?_⟩ (by unfold execOp; rw [hop])
      have h1 := evs_rep hg ht hc
      have h2 := evs_rep hg ht hd
      have := Rep.fn f _ _ _ _ h1 h2
      have e1 : (first.toList.map a.eval).toArray = first.map a.eval := by apply Array.ext'; simp
      have e2 : (cap.toList.map a.eval).toArray = cap.map a.eval := by apply Array.ext'; simp
      rwa [e1, e2] at this
    · cases h
  · rename_i ty x lo hi mx hop
    split at h
    · rename_i c l hh m hc hl hhh hm
      split at h
      · rename_i hlive
        exact lift _ (sliceA_sound hT h0 (liveA_op hlive).2 (ev_rep hg ht hc) (evo_rep hg ht hl) (evo_rep hg ht hhh) (evo_rep hg ht hm) h) (by unfold execOp; rw [hop])
      · cases h
    · cases h
  · rename_i ty x f hop
    split at h
    · rename_i c hc
      split at h
      · rename_i hlive
        exact lift _ (fieldAddrA_sound hT h0 (liveA_op hlive).1 (ev_rep hg ht hc) h) (by unfold execOp; rw [hop])
      · cases h
    · cases h
  · rename_i ty x f hop
    split at h
    · rename_i c hc
      exact lift _ (fieldA_sound hT (ev_rep hg ht hc) h) (by unfold execOp; rw [hop])
    · cases h
  · rename_i ty x i hop
    split at h
    · rename_i c d hc hd
      exact lift _ (indexAddrA_sound hT h0 (ev_rep hg ht hc) (ev_rep hg ht hd) h) (by unfold execOp; rw [hop])
    · cases h
  · rename_i ty x i hop
    split at h
    · rename_i c d hc hd
      exact lift _ (indexA_sound hT (ev_rep hg ht hc) (ev_rep hg ht hd) h) (by unfold execOp; rw [hop])
    · cases h
  · rename_i x i hop
    split at h
    · rename_i c hc
      exact lift _ (extrA_sound (ev_rep hg ht hc) h) (by unfold execOp; rw [hop])
    · cases h
  · rename_i c hop
    split at h
    · rename_i x ty tys hcal hargs htys
      split at h
      · rename_i d hd
        have ha : c.args = #[x] := by apply Array.ext'; simpa using hargs
        have hts : c.argTypes[0]? = some ty := by rw [← Array.getElem?_toList, htys]; rfl
        obtain ⟨v, hv, hr⟩ := lenA_sound (P := P) (w := w) hT (ty := o.type) hts (ev_rep hg ht hd) h
        refine ⟨v, ?_, hr⟩
        unfold execOp
        rw [hop]
        simp only [resolve, hcal, ha, invoke, Sem.run_bind, Sem.run_pure, Result.andThen_ok, builtin]
        simp only [List.map_toArray, List.map_cons, List.map_nil]
        have hv' : (Builtin.len_ c.argTypes o.type #[a.eval x]).run P w = .ok v w := hv
        simp [hv']
      · cases h
    · cases h
  · cases h

theorem opM_sound (hT : TOK P T) (h0 : HRel C σ w) (hg : GOK G C) (ht : RepL C t a.tmps.toList) {o : Oper} {r : AV} {σ' : St} (h : opM T G t σ o.op = some (r, σ')) :
    ∃ n v w' C', (execOp a.eval o).run P w = .ok n w' ∧ (n = .value v ∨ n = .skip ∧ v = undef) ∧ C.le C' ∧ HRel C' σ' w' ∧ Rep C' r v := by
  have lift : ∀ s : Sem Value, Steps' P C w s r σ' → execOp a.eval o = (do pure (.value (← s))) → ∃ n v w' C', (execOp a.eval o).run P w = .ok n w' ∧ (n = .value v ∨ n = .skip ∧ v = undef) ∧ C.le C' ∧ HRel C' σ' w' ∧ Rep C' r v := by
    rintro s ⟨v, w', C', hv, hle, hrel, hr⟩ e
    exact ⟨_, v, w', C', by rw [e, Sem.run_bind, hv]; rfl, .inl rfl, hle, hrel, hr⟩
  unfold opM at h
  split at h
  · rename_i ty hop
    exact lift _ (allocA_sound hT h0 h) (by unfold execOp; rw [hop])
  · rename_i ty x hop
    split at h
    · rename_i c hc
      exact lift _ (boxA_sound h0 (ev_rep hg ht hc) h) (by unfold execOp; rw [hop])
    · cases h
  · rename_i ty len parts hop
    split at h
    · rename_i ps hps
      refine lift _ (buildSliceA_sound (qs := parts.map fun (i, x) => (i, a.eval x)) hT h0 ?_ h) (by unfold execOp; rw [hop])
      have := evps_rep hg ht hps
      simpa using this
    · cases h
  · rename_i ty p x hop
    split at h
    · rename_i c d hc hd
      split at h
      · rename_i σ1 hs
        cases h
        obtain ⟨w', hw, hrel⟩ := storeA_sound hT h0 (ev_rep hg ht hc) (ev_rep hg ht hd) hs
        exact ⟨_, undef, w', C, by unfold execOp; rw [hop]; simp only [Sem.run_bind, hw]; rfl, .inr ⟨rfl, rfl⟩, Cz.le.refl C, hrel, .tup [] [] .nil⟩
      · cases h
    · cases h
  · rename_i c hop
    split at h
    · rename_i s x ts tx hcal hargs htys
      split at h
      · rename_i d e hd he
        have ha : c.args = #[s, x] := by apply Array.ext'; simpa using hargs
        have hts : c.argTypes = #[ts, tx] := by apply Array.ext'; simpa using htys
        obtain ⟨v, w', C', hv, hle, hrel, hr⟩ := appendA_sound (P := P) (w := w) hT h0 (ty := o.type) (ev_rep hg ht hd) (ev_rep hg ht he) h
        refine ⟨_, v, w', C', ?_, .inl rfl, hle, hrel, hr⟩
        unfold execOp
        rw [hop]
        simp only [resolve, hcal, ha, hts, invoke, Sem.run_bind, Sem.run_pure, Result.andThen_ok, builtin]
        simp only [List.map_toArray, List.map_cons, List.map_nil]
        have hv' : (Builtin.append_ #[ts, tx] o.type #[a.eval s, a.eval x]).run P w = .ok v w' := hv
        simp [hv']
      · cases h
    · cases h
  · cases h
end
end Go.Ab
