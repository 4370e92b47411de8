/-
  The abstract machine of this work, part 10: lists of operations, code, calls.
-/
import Derived.Test.YtpejbkckppnamaaDoorAbMore
import Derived.Still
import Derived.Orders
set_option linter.all false
set_option linter.unusedVariables false
set_option linter.unusedSimpArgs false
namespace Go.Ab
open Go Go.RowKit

def undefA : AV := .tup []
def putA (t : List AV) (dst : Option Tmp) (c : AV) : List AV :=
  match dst with
  | some d => t.set d c
  | none => t
def yieldedA (ops : Array Oper) (t : List AV) (j : Nat) : Option Bool :=
  match ((ops[j]?).bind (·.dst)).bind (t[·]?) with
  | some (.bool b) => some b
  | _ => none
def wantedA (ops : Array Oper) (o : Oper) (t : List AV) : Bool :=
  match o.guard with
  | none => true
  | some (j, want) => yieldedA ops t j == some want

/-- What stands for the frame and the world, from a beginning on. -/
def Has (G : GT) (C0 : Cz) (t : List AV) (σ : St) (a : Act) (w : World) : Prop :=
  ∃ C, C0.le C ∧ HRel C σ w ∧ RepL C t a.tmps.toList ∧ GOK G C ∧ a.defers = []

/-- A call of function f: whatever stands for these arguments and this heap. -/
def CallsX (P : Program) (f : FuncId) (args : Array Value) (w : World) (R : Value → World → Prop) : Prop :=
  match (callFunc f args).run P w with
  | .ok (.value v) w' => R v w'
  | .ok (.enter g as) w' => Calls P g as w' (fun e w'' => ∃ v, e = .returned v ∧ R v w'')
  | _ => False
def ACalls (P : Program) (G : GT) (f : FuncId) (args : List AV) (σ : St) (Q : AV → St → Prop) : Prop :=
  ∀ C w vs, HRel C σ w → GOK G C → RepL C args vs → CallsX P f vs.toArray w (fun v w' => ∃ r σ' C', C.le C' ∧ HRel C' σ' w' ∧ Rep C' r v ∧ Q r σ')

theorem CallsX.mono {P : Program} {f : FuncId} {args : Array Value} {w : World} {R R' : Value → World → Prop} (h : CallsX P f args w R) (hr : ∀ v w', R v w' → R' v w') : CallsX P f args w R' := by
  unfold CallsX at *
  split at h
  · exact hr _ _ h
  · exact h.mono (fun e w'' ⟨v, he, hv⟩ => ⟨v, he, hr _ _ hv⟩)
  · exact h.elim
theorem ACalls.mono {P : Program} {G : GT} {f : FuncId} {args : List AV} {σ : St} {Q Q' : AV → St → Prop} (h : ACalls P G f args σ Q) (hq : ∀ r σ', Q r σ' → Q' r σ') : ACalls P G f args σ Q' :=
  fun C w vs h0 hg ha => (h C w vs h0 hg ha).mono (fun _ _ ⟨r, σ', C', hle, hrel, hr, hQ⟩ => ⟨r, σ', C', hle, hrel, hr, hq _ _ hQ⟩)

/-- The function value that is called, and its arguments. -/
def callOf (G : GT) (t : List AV) (op : Op) : Option (FuncId × List AV) :=
  match op with
  | .call c => match c.callee with
    | .value f => match ev G t f, evs G t c.args.toList with
      | some (.fn (.func g) first cap), some args => some (g, first ++ args ++ cap)
      | _, _ => none
    | _ => none
  | _ => none
def isCall (op : Op) : Bool :=
  match op with
  | .call c => match c.callee with
    | .value _ => true
    | _ => false
  | _ => false

/-- One operation, and what follows. -/
def aOp (P : Program) (T : TT) (G : GT) (o : Oper) (K : List AV → St → Prop) (t : List AV) (σ : St) : Prop :=
  if isCall o.op then
    match callOf G t o.op with
    | some (f, args) => ACalls P G f args σ (fun r σ' => K (putA t o.dst r) σ')
    | none => False
  else match opP T G t σ o.op with
    | some r => K (putA t o.dst r) σ
    | none => match opN T G t σ o.op with
      | some (r, σ') => K (putA t o.dst r) σ'
      | none => False
def aOps (P : Program) (T : TT) (G : GT) (ops : Array Oper) (K : List AV → St → Prop) : List Oper → List AV → St → Prop
  | [], t, σ => K t σ
  | o :: rest, t, σ => if wantedA ops o t then aOp P T G o (aOps P T G ops K rest) t σ else aOps P T G ops K rest (putA t o.dst undefA) σ

section
variable {P : Program} {T : TT} {G : GT} {C0 : Cz} {t : List AV} {σ : St} {a : Act} {w : World}

theorem putA_rep {C : Cz} {dst : Option Tmp} {r : AV} {v : Value} (ht : RepL C t a.tmps.toList) (hr : Rep C r v) : RepL C (putA t dst r) (a.put dst v).tmps.toList := by
  cases dst with
  | none => exact ht
  | some d =>
    show RepL C (t.set d r) (a.tmps.setIfInBounds d v).toList
    rw [Array.toList_setIfInBounds]
    exact ht.set d hr
theorem put_defers {dst : Option Tmp} {v : Value} : (a.put dst v).defers = a.defers := by cases dst <;> rfl
theorem Rep.undef {C : Cz} : Rep C undefA undef := .tup [] [] .nil

theorem yieldedA_eq {C : Cz} (ht : RepL C t a.tmps.toList) (ops : Array Oper) (j : Nat) : yielded ops a.tmps j = yieldedA ops t j := by
  unfold yielded yieldedA
  cases hq : (ops[j]?).bind (·.dst) with
  | none => rfl
  | some d =>
    simp only [Option.bind_some]
    have hl := ht.length
    cases hd : t[d]? with
    | none =>
      have : a.tmps[d]? = none := by
        rw [List.getElem?_eq_none_iff] at hd
        rw [Array.getElem?_eq_none_iff]
        simp at hl; omega
      rw [this]
    | some c =>
      obtain ⟨v, hv, hr⟩ := ht.get d c hd
      rw [Array.getElem?_toList] at hv
      rw [hv]
      cases hr <;> rfl
theorem wantedA_eq {C : Cz} (ht : RepL C t a.tmps.toList) (ops : Array Oper) (o : Oper) : Region.wanted o (yielded ops a.tmps) = wantedA ops o t := by
  unfold Region.wanted wantedA
  cases o.guard with
  | none => rfl
  | some p => obtain ⟨j, want⟩ := p; simp only [yieldedA_eq ht]

theorem isCall_spec {op : Op} (h : isCall op = true) : ∃ c f, op = .call c ∧ c.callee = .value f := by
  unfold isCall at h
  split at h
  · rename_i c
    split at h
    · rename_i f hf; exact ⟨c, f, rfl, hf⟩
    · cases h
  · cases h

theorem aOp_sound (hT : TOK P T) {o : Oper} {K : List AV → St → Prop} (h : aOp P T G o K t σ) (h0 : Has G C0 t σ a w) {next : Act → World → Prop} {Q : Exit → Act → World → Prop}
    (hk : ∀ t' σ' a' w', Has G C0 t' σ' a' w' → K t' σ' → next a' w') : o.wp P a w next Q := by
  obtain ⟨C, hle, hrel, ht, hg, hdf⟩ := h0
  unfold aOp at h
  split at h
  · rename_i hc
    obtain ⟨c, f, hop, hcal⟩ := isCall_spec hc
    split at h
    · rename_i g args hcall
      rw [hop] at hcall
      simp only [callOf, hcal] at hcall
      split at hcall
      · rename_i g' first cap args' hf ha
        cases hcall
        have hfr := ev_rep hg ht hf
        have har := evs_rep hg ht ha
        obtain ⟨vf, vc, hfe, h1, h2⟩ : ∃ vf vc, a.eval f = .func (.func g) vf.toArray vc.toArray ∧ RepL C first vf ∧ RepL C cap vc := by
          generalize a.eval f = V at hfr
          cases hfr with
          | fn _ _ _ vf vc h1 h2 => exact ⟨vf, vc, rfl, h1, h2⟩
        have hargs := (h1.append har).append h2
        have hx := h C w _ hrel hg hargs
        have hcl : (vf ++ List.map a.eval c.args.toList ++ vc).toArray = vf.toArray ++ c.args.map a.eval ++ vc.toArray := by
          apply Array.ext'; simp
        rw [hcl] at hx
        have hrun : (execOp a.eval o).run P w = (callFunc g (vf.toArray ++ c.args.map a.eval ++ vc.toArray)).run P w := by
          unfold execOp
          rw [hop]
          simp only [resolve, hcal, hfe, Deferred.ofValue, Sem.run_bind, Sem.run_pure, Result.andThen_ok, invoke]
        unfold Oper.wp
        rw [hrun]
        unfold CallsX at hx
        split at hx
        · rename_i v w' hr
          obtain ⟨r, σ', C', hle', hrel', hr', hK⟩ := hx
          rw [hr]
          exact hk _ _ _ _ ⟨C', hle.trans hle', hrel', putA_rep (ht.mono hle') hr', hg.mono hle', by rw [put_defers]; exact hdf⟩ hK
        · rename_i g2 as w' hr
          rw [hr]
          refine hx.mono fun e w'' ⟨v, he, r, σ', C', hle', hrel', hr', hK⟩ => ?_
          subst he
          exact hk _ _ _ _ ⟨C', hle.trans hle', hrel', putA_rep (ht.mono hle') hr', hg.mono hle', by rw [put_defers]; exact hdf⟩ hK
        · exact hx.elim
      · cases hcall
    · exact h.elim
  · split at h
    · rename_i r hr
      obtain ⟨v, hv, hrep⟩ := opP_sound hT hrel hg ht hr
      unfold Oper.wp
      rw [hv]
      exact hk _ _ _ _ ⟨C, hle, hrel, putA_rep ht hrep, hg, by rw [put_defers]; exact hdf⟩ h
    · split at h
      · rename_i r σ' hr
        obtain ⟨n, v, w', C', hv, hn, hle', hrel', hrep⟩ := opN_sound hT hrel hg ht hr
        unfold Oper.wp
        rw [hv]
        have hfin := hk _ _ _ _ ⟨C', hle.trans hle', hrel', putA_rep (ht.mono hle') hrep, hg.mono hle', by rw [put_defers]; exact hdf⟩ h
        rcases hn with rfl | ⟨rfl, rfl⟩
        · exact hfin
        · exact hfin
      · exact h.elim

theorem aOps_sound (hT : TOK P T) {ops : Array Oper} {K : List AV → St → Prop} {Q : Exit → Act → World → Prop} (hQ : ∀ t' σ' a' w', Has G C0 t' σ' a' w' → K t' σ' → Q .normal a' w') :
    ∀ (l : List Oper) (t : List AV) (σ : St) (a : Act) (w : World), aOps P T G ops K l t σ → Has G C0 t σ a w → wpList P ops Q l a w
  | [], t, σ, a, w, h, h0 => hQ _ _ _ _ h0 h
  | o :: rest, t, σ, a, w, h, h0 => by
    obtain ⟨C, hle, hrel, ht, hg, hdf⟩ := h0
    unfold wpList
    rw [wantedA_eq ht]
    simp only [aOps] at h
    split
    · rename_i hw
      rw [if_pos hw] at h
      exact .inl (aOp_sound hT h ⟨C, hle, hrel, ht, hg, hdf⟩ (fun t' σ' a' w' h1 h2 => aOps_sound hT hQ rest t' σ' a' w' h2 h1))
    · rename_i hw
      rw [if_neg hw] at h
      exact aOps_sound hT hQ rest _ _ _ _ h ⟨C, hle, hrel, putA_rep ht Rep.undef, hg, by rw [put_defers]; exact hdf⟩
end

/-! ### Code -/
abbrev AQ := Exit → List AV → St → Prop
/-- From abstract state to machine. -/
def toQ (G : GT) (C0 : Cz) (Q : AQ) : Exit → Act → World → Prop := fun e a' w' => ∃ t' σ', Has G C0 t' σ' a' w' ∧ Q e t' σ'
/-- At the head of a round. -/
def AWPL (P : Program) (G : GT) (c : Code) (Q : AQ) (t : List AV) (σ : St) : Prop :=
  ∀ C0 a w, Has G C0 t σ a w → ∀ (b : Frame) (k : List Item) (cs : List Frame),
    ∃ e a' w', toQ G C0 Q e a' w' ∧ Arrives P (lone (b.at a (.code c :: .inLoop c :: k)) cs w) b k cs e a' w'
def thenQ (R : List AV → St → Prop) (Q : AQ) : AQ := fun e t σ => match e with
  | .normal => R t σ
  | e => Q e t σ
def blockQ (id : Nat) (Q : AQ) : AQ := fun e t σ => match e with
  | .exit id' => if id' = id then Q .normal t σ else Q (.exit id') t σ
  | e => Q e t σ
/-- A region whose order is drawn: operations that turn nothing. -/
def aStill (T : TT) (G : GT) (ops : Array Oper) (K : List AV → St → Prop) : List Oper → List AV → St → Prop
  | [], t, σ => K t σ
  | o :: rest, t, σ => if wantedA ops o t then (match opP T G t σ o.op with
      | some r => aStill T G ops K rest (putA t o.dst r) σ
      | none => False) else aStill T G ops K rest (putA t o.dst undefA) σ
def aDraw (P : Program) (T : TT) (G : GT) (ops : Array Oper) (K : List AV → St → Prop) (t : List AV) (σ : St) : Prop :=
  (P.follows .mixedOrders = true ∧ Region.lexB .any ops = true) ∧ aStill T G ops K ops.toList t σ
/-- One of a region whose order is drawn, and what follows. -/
def aWpOp (P : Program) (T : TT) (G : GT) (ops : Array Oper) (K : List AV → St → Prop) (i : Nat) (t : List AV) (σ : St) : Prop :=
  match ops[i]? with
  | none => K t σ
  | some o => if wantedA ops o t then aOp P T G o K t σ else K (putA t o.dst undefA) σ
/-- Whatever order is picked from here on. -/
def aAny (P : Program) (T : TT) (G : GT) (ops : Array Oper) (K : List AV → St → Prop) : Nat → Array Bool → List AV → St → Prop
  | 0, listed, t, σ => Region.ready .any ops listed = [] ∧ K t σ
  | fuel + 1, listed, t, σ => (Region.ready .any ops listed = [] → K t σ) ∧ ∀ i ∈ Region.ready .any ops listed, aWpOp P T G ops (aAny P T G ops K fuel (listed.setIfInBounds i true)) i t σ
def aMix (P : Program) (T : TT) (G : GT) (ops : Array Oper) (K : List AV → St → Prop) (t : List AV) (σ : St) : Prop :=
  P.follows .mixedOrders = true ∧ aAny P T G ops K ops.size (Array.replicate ops.size false) t σ
def awp (P : Program) (T : TT) (G : GT) : Code → AQ → List AV → St → Prop
  | .skip, Q => Q .normal
  | .region _ ops draw, Q => if draw then (fun t σ => aDraw P T G ops (Q .normal) t σ ∨ aMix P T G ops (Q .normal) t σ) else aOps P T G ops (Q .normal) ops.toList
  | .seq x y, Q => awp P T G x (thenQ (awp P T G y Q) Q)
  | .cond c x y, Q => fun t σ => match ev G t c with
    | some (.bool b) => if b then awp P T G x Q t σ else awp P T G y Q t σ
    | _ => False
  | .block id c, Q => awp P T G c (blockQ id Q)
  | .loop c, Q => AWPL P G c Q
  | .exit id, Q => Q (.exit id)
  | .ret, Q => Q .ret
  | _, _ => fun _ _ => False

section
variable {P : Program} {T : TT} {G : GT}
theorem aStill_sound (hT : TOK P T) {ops : Array Oper} {K : List AV → St → Prop} {C : Cz} {σ : St} {w : World} (hrel : HRel C σ w) (hg : GOK G C) {Q' : Act → Prop} (hQ : ∀ t' a', RepL C t' a'.tmps.toList → a'.defers = [] → K t' σ → Q' a') :
    ∀ (l : List Oper) (t : List AV) (a : Act), aStill T G ops K l t σ → RepL C t a.tmps.toList → a.defers = [] → wpStill P ops w Q' l a
  | [], t, a, h, ht, hd => hQ t a ht hd h
  | o :: rest, t, a, h, ht, hd => by
    unfold wpStill
    rw [wantedA_eq ht]
    simp only [aStill] at h
    split
    · rename_i hw
      rw [if_pos hw] at h
      split at h
      · rename_i r hr
        obtain ⟨v, hv, hrep⟩ := opP_sound hT hrel hg ht hr
        unfold Oper.still
        rw [hv, Oper.stillUpon_value]
        exact aStill_sound hT hrel hg hQ rest _ _ h (putA_rep ht hrep) (by rw [put_defers]; exact hd)
      · exact h.elim
    · rename_i hw
      rw [if_neg hw] at h
      exact aStill_sound hT hrel hg hQ rest _ _ h (putA_rep ht Rep.undef) (by rw [put_defers]; exact hd)

theorem aAny_sound (hT : TOK P T) {ops : Array Oper} {K : List AV → St → Prop} {C0 : Cz} {Q : Exit → Act → World → Prop} (hQ : ∀ t' σ' a' w', Has G C0 t' σ' a' w' → K t' σ' → Q .normal a' w') :
    ∀ (fuel : Nat) (listed : Array Bool) (t : List AV) (σ : St) (a : Act) (w : World), aAny P T G ops K fuel listed t σ → Has G C0 t σ a w → wpAny P .any ops Q fuel listed a w
  | 0, listed, t, σ, a, w, h, h0 => ⟨h.1, hQ _ _ _ _ h0 h.2⟩
  | fuel + 1, listed, t, σ, a, w, h, h0 => ⟨fun e => hQ _ _ _ _ h0 (h.1 e), fun i hi => by
      have hx := h.2 i hi
      unfold aWpOp at hx
      unfold wpOp
      split at hx
      · rename_i he
        simp only [he]
        exact aAny_sound hT hQ fuel _ _ _ _ _ hx h0
      · rename_i o he
        simp only [he]
        obtain ⟨C, hle, hrel, ht, hg, hdf⟩ := h0
        rw [wantedA_eq ht]
        split at hx
        · rename_i hw
          rw [if_pos hw]
          exact .inl (aOp_sound hT hx ⟨C, hle, hrel, ht, hg, hdf⟩ (fun t' σ' a' w' h1 h2 => aAny_sound hT hQ fuel _ _ _ _ _ h2 h1))
        · rename_i hw
          rw [if_neg hw]
          exact aAny_sound hT hQ fuel _ _ _ _ _ hx ⟨C, hle, hrel, putA_rep ht Rep.undef, hg, by rw [put_defers]; exact hdf⟩⟩
theorem awp_sound (hT : TOK P T) : ∀ (c : Code) (Q : AQ) (t : List AV) (σ : St) (C0 : Cz) (a : Act) (w : World), awp P T G c Q t σ → Has G C0 t σ a w → c.wp P (toQ G C0 Q) a w
  | .skip, Q, t, σ, C0, a, w, h, h0 => wp_skip ⟨t, σ, h0, h⟩
  | .region id ops draw, Q, t, σ, C0, a, w, h, h0 => by
    cases draw with
    | false => exact wp_region_list (aOps_sound hT (fun t' σ' a' w' h1 h2 => ⟨t', σ', h1, h2⟩) ops.toList t σ a w h h0)
    | true =>
      rcases h with h | h
      · obtain ⟨⟨hm, hB⟩, hs⟩ := h
        obtain ⟨C, hle, hrel, ht, hg, hdf⟩ := h0
        refine wp_region_still hm hB ?_
        have hrel' : HRel C σ w.drew := hrel.drew
        exact aStill_sound hT hrel' hg (fun t' a' ht' hd' hK => ⟨t', σ, ⟨C, hle, hrel', ht', hg, hd'⟩, hK⟩) ops.toList t a hs ht hdf
      · obtain ⟨hm, hs⟩ := h
        obtain ⟨C, hle, hrel, ht, hg, hdf⟩ := h0
        refine wp_region_any hm ?_
        have hrel' : HRel C σ w.drew := hrel.drew
        exact aAny_sound hT (fun t' σ' a' w' h1 h2 => ⟨t', σ', h1, h2⟩) ops.size _ t σ a w.drew hs ⟨C, hle, hrel', ht, hg, hdf⟩
  | .seq x y, Q, t, σ, C0, a, w, h, h0 => by
    refine wp_seq (wp_mono (awp_sound hT x _ t σ C0 a w h h0) fun e a' w' hq => ?_)
    obtain ⟨t', σ', h1, h2⟩ := hq
    cases e with
    | normal => exact awp_sound hT y Q t' σ' C0 a' w' h2 h1
    | _ => exact ⟨t', σ', h1, h2⟩
  | .cond c x y, Q, t, σ, C0, a, w, h, h0 => by
    simp only [awp] at h
    split at h
    · rename_i b hc
      have hcr := h0
      obtain ⟨C, hle, hrel, ht, hg, hdf⟩ := hcr
      have hr := ev_rep hg ht hc
      have hce : a.eval c = .bool b := by generalize a.eval c = V at hr; cases hr; rfl
      cases b with
      | true => exact wp_cond_true hce (awp_sound hT x Q t σ C0 a w h h0)
      | false => exact wp_cond_false hce (awp_sound hT y Q t σ C0 a w h h0)
    · exact h.elim
  | .block id c, Q, t, σ, C0, a, w, h, h0 => by
    refine wp_block (wp_mono (awp_sound hT c _ t σ C0 a w h h0) fun e a' w' hq => ?_)
    obtain ⟨t', σ', h1, h2⟩ := hq
    cases e with
    | exit id' =>
      simp only [blockQ] at h2
      simp only [Exit.inBlock]
      split
      · rename_i hid; rw [if_pos hid] at h2; exact ⟨t', σ', h1, h2⟩
      · rename_i hid; rw [if_neg hid] at h2; exact ⟨t', σ', h1, h2⟩
    | _ => exact ⟨t', σ', h1, h2⟩
  | .loop c, Q, t, σ, C0, a, w, h, h0 => fun b k cs => by
    obtain ⟨e, a', w', hq, harr⟩ := h C0 a w h0 b k cs
    exact ⟨e, a', w', hq, .of_steps (.one step_loop) harr⟩
  | .exit id, Q, t, σ, C0, a, w, h, h0 => wp_exit ⟨t, σ, h0, h⟩
  | .ret, Q, t, σ, C0, a, w, h, h0 => wp_ret ⟨t, σ, h0, h⟩
  | .rangeFunc .., _, _, _, _, _, _, h, _ => h.elim
  | .scope .., _, _, _, _, _, _, h, _ => h.elim
  | .label .., _, _, _, _, _, _, h, _ => h.elim
  | .goto .., _, _, _, _, _, _, h, _ => h.elim
  | .refuse .., _, _, _, _, _, _, h, _ => h.elim

/-- A round, and the rest. -/
theorem AWPL_unfold (hT : TOK P T) {c : Code} {Q : AQ} {t : List AV} {σ : St} (h : awp P T G c (thenQ (AWPL P G c Q) Q) t σ) : AWPL P G c Q t σ := by
  intro C0 a w h0 b k cs
  obtain ⟨e, a₁, w₁, hq, harr⟩ := awp_sound hT c _ t σ C0 a w h h0 b (.inLoop c :: k) cs
  obtain ⟨t', σ', h1, h2⟩ := hq
  cases e with
  | normal =>
    obtain ⟨e₂, a₂, w₂, hq₂, harr₂⟩ := h2 C0 a₁ w₁ h1 b k cs
    exact ⟨e₂, a₂, w₂, hq₂, .of_steps (Steps.trans harr (.one step_inLoop)) harr₂⟩
  | exit id => exact ⟨_, a₁, w₁, ⟨t', σ', h1, h2⟩, .pass (x := .inLoop c) rfl (fun _ _ => .inl (by simp)) harr⟩
  | goto l => exact ⟨_, a₁, w₁, ⟨t', σ', h1, h2⟩, .pass (x := .inLoop c) rfl (fun _ _ => .inl (by simp)) harr⟩
  | ret => exact ⟨_, a₁, w₁, ⟨t', σ', h1, h2⟩, .pass (x := .inLoop c) rfl (fun _ _ => .inl (by simp)) harr⟩
  | panic ch => exact ⟨_, a₁, w₁, ⟨t', σ', h1, h2⟩, .pass (x := .inLoop c) rfl (fun _ _ => .inl (by simp)) harr⟩
  | outgrown => exact ⟨_, a₁, w₁, ⟨t', σ', h1, h2⟩, .pass (x := .inLoop c) rfl (fun _ _ => .inl (by simp)) harr⟩
end
end Go.Ab
