/-
  The abstract machine of this work, part 10: lists of operations, code, calls.
-/
import Derived.Test.YtpejbkckppnamaaGreatDoorAbA
import Derived.Still
import Derived.Orders
import Derived.Deep.Draws
import Derived.Lib.UnsafeStr
set_option linter.all false
set_option linter.unusedVariables false
set_option linter.unusedSimpArgs false
namespace Go.Ab
open Go Go.RowKit

def undefA : AV := .tup []
def putA (t : List AV) (dst : Option Tmp) (c : AV) : List AV :=
  match dst with
  | some d => t.set d c
  | none => t
def yieldedA (ops : Array Oper) (t : List AV) (j : Nat) : Option Bool :=
  match ((ops[j]?).bind (·.dst)).bind (t[·]?) with
  | some (.bool b) => some b
  | _ => none
def wantedA (ops : Array Oper) (o : Oper) (t : List AV) : Bool :=
  match o.guard with
  | none => true
  | some (j, want) => yieldedA ops t j == some want

/-- What stands for the frame and the world, from a beginning on. -/
def Has (G : GT) (C0 : Cz) (t : List AV) (σ : St) (a : Act) (w : World) : Prop :=
  ∃ C, C0.le C ∧ HRel C σ w ∧ RepL C t a.tmps.toList ∧ GOK G C ∧ a.defers = []

/-- A call of function f: whatever stands for these arguments and this heap. -/
def CallsX (P : Program) (f : FuncId) (args : Array Value) (w : World) (R : Value → World → Prop) : Prop :=
  match (callFunc f args).run P w with
  | .ok (.value v) w' => R v w'
  | .ok (.enter g as) w' => Calls P g as w' (fun e w'' => ∃ v, e = .returned v ∧ R v w'')
  | _ => False
def ACalls (P : Program) (G : GT) (f : FuncId) (args : List AV) (σ : St) (Q : AV → St → Prop) : Prop :=
  ∀ C w vs, HRel C σ w → GOK G C → RepL C args vs → CallsX P f vs.toArray w (fun v w' => ∃ r σ' C', C.le C' ∧ HRel C' σ' w' ∧ Rep C' r v ∧ Q r σ')

theorem CallsX.mono {P : Program} {f : FuncId} {args : Array Value} {w : World} {R R' : Value → World → Prop} (h : CallsX P f args w R) (hr : ∀ v w', R v w' → R' v w') : CallsX P f args w R' := by
  unfold CallsX at *
  split at h
  · exact hr _ _ h
  · exact h.mono (fun e w'' ⟨v, he, hv⟩ => ⟨v, he, hr _ _ hv⟩)
  · exact h.elim
theorem ACalls.mono {P : Program} {G : GT} {f : FuncId} {args : List AV} {σ : St} {Q Q' : AV → St → Prop} (h : ACalls P G f args σ Q) (hq : ∀ r σ', Q r σ' → Q' r σ') : ACalls P G f args σ Q' :=
  fun C w vs h0 hg ha => (h C w vs h0 hg ha).mono (fun _ _ ⟨r, σ', C', hle, hrel, hr, hQ⟩ => ⟨r, σ', C', hle, hrel, hr, hq _ _ hQ⟩)

/-- The function value that is called, and its arguments. -/
def callOf (G : GT) (t : List AV) (op : Op) : Option (FuncId × List AV) :=
  match op with
  | .call c => match c.callee with
    | .value f => match ev G t f, evs G t c.args.toList with
      | some (.fn (.func g) first cap), some args => some (g, first ++ args ++ cap)
      | _, _ => none
    | _ => none
  | _ => none
def isCall (op : Op) : Bool :=
  match op with
  | .call c => match c.callee with
    | .value _ => true
    | _ => false
  | _ => false

/-- One operation, and what follows. -/
def aOp (P : Program) (T : TT) (G : GT) (o : Oper) (K : List AV → St → Prop) (t : List AV) (σ : St) : Prop :=
  if isCall o.op then
    match callOf G t o.op with
    | some (f, args) => ACalls P G f args σ (fun r σ' => K (putA t o.dst r) σ')
    | none => False
  else match opP T G t σ o.op with
    | some r => K (putA t o.dst r) σ
    | none => match opN T G t σ o.op with
      | some (r, σ') => K (putA t o.dst r) σ'
      | none => False
def aOps (P : Program) (T : TT) (G : GT) (ops : Array Oper) (K : List AV → St → Prop) : List Oper → List AV → St → Prop
  | [], t, σ => K t σ
  | o :: rest, t, σ => if wantedA ops o t then aOp P T G o (aOps P T G ops K rest) t σ else aOps P T G ops K rest (putA t o.dst undefA) σ

section
variable {P : Program} {T : TT} {G : GT} {C0 : Cz} {t : List AV} {σ : St} {a : Act} {w : World}

theorem putA_rep {C : Cz} {dst : Option Tmp} {r : AV} {v : Value} (ht : RepL C t a.tmps.toList) (hr : Rep C r v) : RepL C (putA t dst r) (a.put dst v).tmps.toList := by
  cases dst with
  | none => exact ht
  | some d =>
    show RepL C (t.set d r) (a.tmps.setIfInBounds d v).toList
    rw [Array.toList_setIfInBounds]
    exact ht.set d hr
theorem put_defers {dst : Option Tmp} {v : Value} : (a.put dst v).defers = a.defers := by cases dst <;> rfl
theorem Rep.undef {C : Cz} : Rep C undefA undef := .tup [] [] .nil

theorem yieldedA_eq {C : Cz} (ht : RepL C t a.tmps.toList) (ops : Array Oper) (j : Nat) : yielded ops a.tmps j = yieldedA ops t j := by
  unfold yielded yieldedA
  cases hq : (ops[j]?).bind (·.dst) with
  | none => rfl
  | some d =>
    simp only [Option.bind_some]
    have hl := ht.length
    cases hd : t[d]? with
    | none =>
      have : a.tmps[d]? = none := by
        rw [List.getElem?_eq_none_iff] at hd
        rw [Array.getElem?_eq_none_iff]
        simp at hl; omega
      rw [this]
    | some c =>
      obtain ⟨v, hv, hr⟩ := ht.get d c hd
      rw [Array.getElem?_toList] at hv
      rw [hv]
      cases hr <;> rfl
theorem wantedA_eq {C : Cz} (ht : RepL C t a.tmps.toList) (ops : Array Oper) (o : Oper) : Region.wanted o (yielded ops a.tmps) = wantedA ops o t := by
  unfold Region.wanted wantedA
  cases o.guard with
  | none => rfl
  | some p => obtain ⟨j, want⟩ := p; simp only [yieldedA_eq ht]

theorem isCall_spec {op : Op} (h : isCall op = true) : ∃ c f, op = .call c ∧ c.callee = .value f := by
  unfold isCall at h
  split at h
  · rename_i c
    split at h
    · rename_i f hf; exact ⟨c, f, rfl, hf⟩
    · cases h
  · cases h

theorem aOp_sound (hT : TOK P T) {o : Oper} {K : List AV → St → Prop} (h : aOp P T G o K t σ) (h0 : Has G C0 t σ a w) {next : Act → World → Prop} {Q : Exit → Act → World → Prop}
    (hk : ∀ t' σ' a' w', Has G C0 t' σ' a' w' → K t' σ' → next a' w') : o.wp P a w next Q := by
  obtain ⟨C, hle, hrel, ht, hg, hdf⟩ := h0
  unfold aOp at h
  split at h
  · rename_i hc
    obtain ⟨c, f, hop, hcal⟩ := isCall_spec hc
    split at h
    · rename_i g args hcall
      rw [hop] at hcall
      simp only [callOf, hcal] at hcall
      split at hcall
      · rename_i g' first cap args' hf ha
        cases hcall
        have hfr := ev_rep hg ht hf
        have har := evs_rep hg ht ha
        obtain ⟨vf, vc, hfe, h1, h2⟩ : ∃ vf vc, a.eval f = .func (.func g) vf.toArray vc.toArray ∧ RepL C first vf ∧ RepL C cap vc := by
          generalize a.eval f = V at hfr
          cases hfr with
          | fn _ _ _ vf vc h1 h2 => exact ⟨vf, vc, rfl, h1, h2⟩
        have hargs := (h1.append har).append h2
        have hx := h C w _ hrel hg hargs
        have hcl : (vf ++ List.map a.eval c.args.toList ++ vc).toArray = vf.toArray ++ c.args.map a.eval ++ vc.toArray := by
          apply Array.ext'; simp
        rw [hcl] at hx
        have hrun : (execOp a.eval o).run P w = (callFunc g (vf.toArray ++ c.args.map a.eval ++ vc.toArray)).run P w := by
          unfold execOp
          rw [hop]
          simp only [resolve, hcal, hfe, Deferred.ofValue, Sem.run_bind, Sem.run_pure, Result.andThen_ok, invoke]
        unfold Oper.wp
        rw [hrun]
        unfold CallsX at hx
        split at hx
        · rename_i v w' hr
          obtain ⟨r, σ', C', hle', hrel', hr', hK⟩ := hx
          rw [hr]
          exact hk _ _ _ _ ⟨C', hle.trans hle', hrel', putA_rep (ht.mono hle') hr', hg.mono hle', by rw [put_defers]; exact hdf⟩ hK
        · rename_i g2 as w' hr
          rw [hr]
          refine hx.mono fun e w'' ⟨v, he, r, σ', C', hle', hrel', hr', hK⟩ => ?_
          subst he
          exact hk _ _ _ _ ⟨C', hle.trans hle', hrel', putA_rep (ht.mono hle') hr', hg.mono hle', by rw [put_defers]; exact hdf⟩ hK
        · exact hx.elim
      · cases hcall
    · exact h.elim
  · split at h
    · rename_i r hr
      obtain ⟨v, hv, hrep⟩ := opP_sound hT hrel hg ht hr
      unfold Oper.wp
      rw [hv]
      exact hk _ _ _ _ ⟨C, hle, hrel, putA_rep ht hrep, hg, by rw [put_defers]; exact hdf⟩ h
    · split at h
      · rename_i r σ' hr
        obtain ⟨n, v, w', C', hv, hn, hle', hrel', hrep⟩ := opN_sound hT hrel hg ht hr
        unfold Oper.wp
        rw [hv]
        have hfin := hk _ _ _ _ ⟨C', hle.trans hle', hrel', putA_rep (ht.mono hle') hrep, hg.mono hle', by rw [put_defers]; exact hdf⟩ h
        rcases hn with rfl | ⟨rfl, rfl⟩
        · exact hfin
        · exact hfin
      · exact h.elim

theorem aOps_sound (hT : TOK P T) {ops : Array Oper} {K : List AV → St → Prop} {Q : Exit → Act → World → Prop} (hQ : ∀ t' σ' a' w', Has G C0 t' σ' a' w' → K t' σ' → Q .normal a' w') :
    ∀ (l : List Oper) (t : List AV) (σ : St) (a : Act) (w : World), aOps P T G ops K l t σ → Has G C0 t σ a w → wpList P ops Q l a w
  | [], t, σ, a, w, h, h0 => hQ _ _ _ _ h0 h
  | o :: rest, t, σ, a, w, h, h0 => by
    obtain ⟨C, hle, hrel, ht, hg, hdf⟩ := h0
    unfold wpList
    rw [wantedA_eq ht]
    simp only [aOps] at h
    split
    · rename_i hw
      rw [if_pos hw] at h
      exact .inl (aOp_sound hT h ⟨C, hle, hrel, ht, hg, hdf⟩ (fun t' σ' a' w' h1 h2 => aOps_sound hT hQ rest t' σ' a' w' h2 h1))
    · rename_i hw
      rw [if_neg hw] at h
      exact aOps_sound hT hQ rest _ _ _ _ h ⟨C, hle, hrel, putA_rep ht Rep.undef, hg, by rw [put_defers]; exact hdf⟩
end

/-! ### Code -/
abbrev AQ := Exit → List AV → St → Prop
/-- From abstract state to machine. -/
def toQ (G : GT) (C0 : Cz) (Q : AQ) : Exit → Act → World → Prop := fun e a' w' => ∃ t' σ', Has G C0 t' σ' a' w' ∧ Q e t' σ'
/-- At the head of a round. -/
def AWPL (P : Program) (G : GT) (c : Code) (Q : AQ) (t : List AV) (σ : St) : Prop :=
  ∀ C0 a w, Has G C0 t σ a w → ∀ (b : Frame) (k : List Item) (cs : List Frame),
    ∃ e a' w', toQ G C0 Q e a' w' ∧ Arrives P (lone (b.at a (.code c :: .inLoop c :: k)) cs w) b k cs e a' w'
def thenQ (R : List AV → St → Prop) (Q : AQ) : AQ := fun e t σ => match e with
  | .normal => R t σ
  | e => Q e t σ
def blockQ (id : Nat) (Q : AQ) : AQ := fun e t σ => match e with
  | .exit id' => if id' = id then Q .normal t σ else Q (.exit id') t σ
  | e => Q e t σ
/-- A region whose order is drawn: operations that turn nothing. -/
def aStill (T : TT) (G : GT) (ops : Array Oper) (K : List AV → St → Prop) : List Oper → List AV → St → Prop
  | [], t, σ => K t σ
  | o :: rest, t, σ => if wantedA ops o t then (match opP T G t σ o.op with
      | some r => aStill T G ops K rest (putA t o.dst r) σ
      | none => False) else aStill T G ops K rest (putA t o.dst undefA) σ
def aDraw (P : Program) (T : TT) (G : GT) (ops : Array Oper) (K : List AV → St → Prop) (t : List AV) (σ : St) : Prop :=
  (P.follows .mixedOrders = true ∧ Region.lexB .any ops = true) ∧ aStill T G ops K ops.toList t σ
/-- One of a region whose order is drawn, and what follows. -/
def aWpOp (P : Program) (T : TT) (G : GT) (ops : Array Oper) (K : List AV → St → Prop) (i : Nat) (t : List AV) (σ : St) : Prop :=
  match ops[i]? with
  | none => K t σ
  | some o => if wantedA ops o t then aOp P T G o K t σ else K (putA t o.dst undefA) σ
/-- Whatever order is picked from here on. -/
def aAny (P : Program) (T : TT) (G : GT) (ops : Array Oper) (K : List AV → St → Prop) : Nat → Array Bool → List AV → St → Prop
  | 0, listed, t, σ => Region.ready .any ops listed = [] ∧ K t σ
  | fuel + 1, listed, t, σ => (Region.ready .any ops listed = [] → K t σ) ∧ ∀ i ∈ Region.ready .any ops listed, aWpOp P T G ops (aAny P T G ops K fuel (listed.setIfInBounds i true)) i t σ
def aMix (P : Program) (T : TT) (G : GT) (ops : Array Oper) (K : List AV → St → Prop) (t : List AV) (σ : St) : Prop :=
  P.follows .mixedOrders = true ∧ aAny P T G ops K ops.size (Array.replicate ops.size false) t σ
def awp (P : Program) (T : TT) (G : GT) : Code → AQ → List AV → St → Prop
  | .skip, Q => Q .normal
  | .region _ ops draw, Q => if draw then (fun t σ => aDraw P T G ops (Q .normal) t σ ∨ aMix P T G ops (Q .normal) t σ) else aOps P T G ops (Q .normal) ops.toList
  | .seq x y, Q => awp P T G x (thenQ (awp P T G y Q) Q)
  | .cond c x y, Q => fun t σ => match ev G t c with
    | some (.bool b) => if b then awp P T G x Q t σ else awp P T G y Q t σ
    | _ => False
  | .block id c, Q => awp P T G c (blockQ id Q)
  | .loop c, Q => AWPL P G c Q
  | .exit id, Q => Q (.exit id)
  | .ret, Q => Q .ret
  | _, _ => fun _ _ => False

section
variable {P : Program} {T : TT} {G : GT}
theorem aStill_sound (hT : TOK P T) {ops : Array Oper} {K : List AV → St → Prop} {C : Cz} {σ : St} {w : World} (hrel : HRel C σ w) (hg : GOK G C) {Q' : Act → Prop} (hQ : ∀ t' a', RepL C t' a'.tmps.toList → a'.defers = [] → K t' σ → Q' a') :
    ∀ (l : List Oper) (t : List AV) (a : Act), aStill T G ops K l t σ → RepL C t a.tmps.toList → a.defers = [] → wpStill P ops w Q' l a
  | [], t, a, h, ht, hd => hQ t a ht hd h
  | o :: rest, t, a, h, ht, hd => by
    unfold wpStill
    rw [wantedA_eq ht]
    simp only [aStill] at h
    split
    · rename_i hw
      rw [if_pos hw] at h
      split at h
      · rename_i r hr
        obtain ⟨v, hv, hrep⟩ := opP_sound hT hrel hg ht hr
        unfold Oper.still
        rw [hv, Oper.stillUpon_value]
        exact aStill_sound hT hrel hg hQ rest _ _ h (putA_rep ht hrep) (by rw [put_defers]; exact hd)
      · exact h.elim
    · rename_i hw
      rw [if_neg hw] at h
      exact aStill_sound hT hrel hg hQ rest _ _ h (putA_rep ht Rep.undef) (by rw [put_defers]; exact hd)

theorem aAny_sound (hT : TOK P T) {ops : Array Oper} {K : List AV → St → Prop} {C0 : Cz} {Q : Exit → Act → World → Prop} (hQ : ∀ t' σ' a' w', Has G C0 t' σ' a' w' → K t' σ' → Q .normal a' w') :
    ∀ (fuel : Nat) (listed : Array Bool) (t : List AV) (σ : St) (a : Act) (w : World), aAny P T G ops K fuel listed t σ → Has G C0 t σ a w → wpAny P .any ops Q fuel listed a w
  | 0, listed, t, σ, a, w, h, h0 => ⟨h.1, hQ _ _ _ _ h0 h.2⟩
  | fuel + 1, listed, t, σ, a, w, h, h0 => ⟨fun e => hQ _ _ _ _ h0 (h.1 e), fun i hi => by
      have hx := h.2 i hi
      unfold aWpOp at hx
      unfold wpOp
      split at hx
      · rename_i he
        simp only [he]
        exact aAny_sound hT hQ fuel _ _ _ _ _ hx h0
      · rename_i o he
        simp only [he]
        obtain ⟨C, hle, hrel, ht, hg, hdf⟩ := h0
        rw [wantedA_eq ht]
        split at hx
        · rename_i hw
          rw [if_pos hw]
          exact .inl (aOp_sound hT hx ⟨C, hle, hrel, ht, hg, hdf⟩ (fun t' σ' a' w' h1 h2 => aAny_sound hT hQ fuel _ _ _ _ _ h2 h1))
        · rename_i hw
          rw [if_neg hw]
          exact aAny_sound hT hQ fuel _ _ _ _ _ hx ⟨C, hle, hrel, putA_rep ht Rep.undef, hg, by rw [put_defers]; exact hdf⟩⟩
theorem awp_sound (hT : TOK P T) : ∀ (c : Code) (Q : AQ) (t : List AV) (σ : St) (C0 : Cz) (a : Act) (w : World), awp P T G c Q t σ → Has G C0 t σ a w → c.wp P (toQ G C0 Q) a w
  | .skip, Q, t, σ, C0, a, w, h, h0 => wp_skip ⟨t, σ, h0, h⟩
  | .region id ops draw, Q, t, σ, C0, a, w, h, h0 => by
    cases draw with
    | false => exact wp_region_list (aOps_sound hT (fun t' σ' a' w' h1 h2 => ⟨t', σ', h1, h2⟩) ops.toList t σ a w h h0)
    | true =>
      rcases h with h | h
      · obtain ⟨⟨hm, hB⟩, hs⟩ := h
        obtain ⟨C, hle, hrel, ht, hg, hdf⟩ := h0
        refine wp_region_still hm hB ?_
        have hrel' : HRel C σ w.drew := hrel.drew
        exact aStill_sound hT hrel' hg (fun t' a' ht' hd' hK => ⟨t', σ, ⟨C, hle, hrel', ht', hg, hd'⟩, hK⟩) ops.toList t a hs ht hdf
      · obtain ⟨hm, hs⟩ := h
        obtain ⟨C, hle, hrel, ht, hg, hdf⟩ := h0
        refine wp_region_any hm ?_
        have hrel' : HRel C σ w.drew := hrel.drew
        exact aAny_sound hT (fun t' σ' a' w' h1 h2 => ⟨t', σ', h1, h2⟩) ops.size _ t σ a w.drew hs ⟨C, hle, hrel', ht, hg, hdf⟩
  | .seq x y, Q, t, σ, C0, a, w, h, h0 => by
    refine wp_seq (wp_mono (awp_sound hT x _ t σ C0 a w h h0) fun e a' w' hq => ?_)
    obtain ⟨t', σ', h1, h2⟩ := hq
    cases e with
    | normal => exact awp_sound hT y Q t' σ' C0 a' w' h2 h1
    | _ => exact ⟨t', σ', h1, h2⟩
  | .cond c x y, Q, t, σ, C0, a, w, h, h0 => by
    simp only [awp] at h
    split at h
    · rename_i b hc
      have hcr := h0
      obtain ⟨C, hle, hrel, ht, hg, hdf⟩ := hcr
      have hr := ev_rep hg ht hc
      have hce : a.eval c = .bool b := by generalize a.eval c = V at hr; cases hr; rfl
      cases b with
      | true => exact wp_cond_true hce (awp_sound hT x Q t σ C0 a w h h0)
      | false => exact wp_cond_false hce (awp_sound hT y Q t σ C0 a w h h0)
    · exact h.elim
  | .block id c, Q, t, σ, C0, a, w, h, h0 => by
    refine wp_block (wp_mono (awp_sound hT c _ t σ C0 a w h h0) fun e a' w' hq => ?_)
    obtain ⟨t', σ', h1, h2⟩ := hq
    cases e with
    | exit id' =>
      simp only [blockQ] at h2
      simp only [Exit.inBlock]
      split
      · rename_i hid; rw [if_pos hid] at h2; exact ⟨t', σ', h1, h2⟩
      · rename_i hid; rw [if_neg hid] at h2; exact ⟨t', σ', h1, h2⟩
    | _ => exact ⟨t', σ', h1, h2⟩
  | .loop c, Q, t, σ, C0, a, w, h, h0 => fun b k cs => by
    obtain ⟨e, a', w', hq, harr⟩ := h C0 a w h0 b k cs
    exact ⟨e, a', w', hq, .of_steps (.one step_loop) harr⟩
  | .exit id, Q, t, σ, C0, a, w, h, h0 => wp_exit ⟨t, σ, h0, h⟩
  | .ret, Q, t, σ, C0, a, w, h, h0 => wp_ret ⟨t, σ, h0, h⟩
  | .rangeFunc .., _, _, _, _, _, _, h, _ => h.elim
  | .scope .., _, _, _, _, _, _, h, _ => h.elim
  | .label .., _, _, _, _, _, _, h, _ => h.elim
  | .goto .., _, _, _, _, _, _, h, _ => h.elim
  | .refuse .., _, _, _, _, _, _, h, _ => h.elim

/-- A round, and the rest. -/
theorem AWPL_unfold (hT : TOK P T) {c : Code} {Q : AQ} {t : List AV} {σ : St} (h : awp P T G c (thenQ (AWPL P G c Q) Q) t σ) : AWPL P G c Q t σ := by
  intro C0 a w h0 b k cs
  obtain ⟨e, a₁, w₁, hq, harr⟩ := awp_sound hT c _ t σ C0 a w h h0 b (.inLoop c :: k) cs
  obtain ⟨t', σ', h1, h2⟩ := hq
  cases e with
  | normal =>
    obtain ⟨e₂, a₂, w₂, hq₂, harr₂⟩ := h2 C0 a₁ w₁ h1 b k cs
    exact ⟨e₂, a₂, w₂, hq₂, .of_steps (Steps.trans harr (.one step_inLoop)) harr₂⟩
  | exit id => exact ⟨_, a₁, w₁, ⟨t', σ', h1, h2⟩, .pass (x := .inLoop c) rfl (fun _ _ => .inl (by simp)) harr⟩
  | goto l => exact ⟨_, a₁, w₁, ⟨t', σ', h1, h2⟩, .pass (x := .inLoop c) rfl (fun _ _ => .inl (by simp)) harr⟩
  | ret => exact ⟨_, a₁, w₁, ⟨t', σ', h1, h2⟩, .pass (x := .inLoop c) rfl (fun _ _ => .inl (by simp)) harr⟩
  | panic ch => exact ⟨_, a₁, w₁, ⟨t', σ', h1, h2⟩, .pass (x := .inLoop c) rfl (fun _ _ => .inl (by simp)) harr⟩
  | outgrown => exact ⟨_, a₁, w₁, ⟨t', σ', h1, h2⟩, .pass (x := .inLoop c) rfl (fun _ _ => .inl (by simp)) harr⟩
end
end Go.Ab
namespace Go.Ab
open Go Go.RowKit

def resOne (T : TT) (t : List AV) (σ : St) : ResultVar → Option AV
  | .tmp n => t[n]?
  | .cell a ty => match t[a]? with
    | some c => loadA T σ ty c
    | none => none
def resAll (T : TT) (t : List AV) (σ : St) : List ResultVar → Option (List AV)
  | [] => some []
  | x :: xs => match resOne T t σ x, resAll T t σ xs with
    | some c, some cs => some (c :: cs)
    | _, _ => none
def oneOr (l : List AV) : AV :=
  match l with
  | [c] => c
  | l => .tup l
def resA (T : TT) (rs : List ResultVar) (t : List AV) (σ : St) : Option AV := (resAll T t σ rs).map oneOr
def bodyQ (T : TT) (fn : Func) (Q : AV → St → Prop) : AQ := fun e t σ => match e with
  | .normal => ∃ r, resA T fn.results.toList t σ = some r ∧ Q r σ
  | .ret => ∃ r, resA T fn.results.toList t σ = some r ∧ Q r σ
  | _ => False

section
variable {P : Program} {T : TT} {G : GT} {C : Cz} {σ : St} {w : World} {t : List AV} {a : Act}
theorem resOne_sound (hT : TOK P T) (h0 : HRel C σ w) (ht : RepL C t a.tmps.toList) {x : ResultVar} {c : AV} (h : resOne T t σ x = some c) :
    ∃ v, ((match x with | .tmp n => pure (a.tmps.getD n undef) | .cell b ty => do loadVar ty (← asAddr (a.tmps.getD b undef)) : Sem Value)).run P w = .ok v w ∧ Rep C c v := by
  cases x with
  | tmp n =>
    obtain ⟨v, hv, hr⟩ := ht.get n c h
    refine ⟨v, ?_, hr⟩
    rw [Array.getElem?_toList] at hv
    simp [Array.getD_eq_getD_getElem?, hv]
  | cell b ty =>
    simp only [resOne] at h
    split at h
    · rename_i d hd
      obtain ⟨v, hv, hr⟩ := ht.get b d hd
      rw [Array.getElem?_toList] at hv
      obtain ⟨u, hu, hru⟩ := loadA_sound (P := P) hT h0 hr h
      refine ⟨u, ?_, hru⟩
      have e : a.tmps.getD b undef = v := by simp [Array.getD_eq_getD_getElem?, hv]
      simp only [e]
      cases v with
      | pointer p =>
        cases p with
        | some p => simpa [Instr.loadAt, Instr.sureAddr, asAddr] using hu
        | none => simp [Instr.loadAt, Instr.sureAddr] at hu
      | _ => simp [Instr.loadAt, Instr.sureAddr] at hu
    · cases h
theorem resAll_sound (hT : TOK P T) (h0 : HRel C σ w) (ht : RepL C t a.tmps.toList) : ∀ {xs : List ResultVar} {cs : List AV}, resAll T t σ xs = some cs →
    ∃ vs : List Value, (xs.mapM (fun (x : ResultVar) => (match x with | .tmp n => pure (a.tmps.getD n undef) | .cell b ty => do loadVar ty (← asAddr (a.tmps.getD b undef)) : Sem Value))).run P w = .ok vs w ∧ RepL C cs vs
  | [], cs, h => by cases h; exact ⟨[], rfl, .nil⟩
  | x :: xs, cs, h => by
    simp only [resAll] at h
    split at h
    · rename_i c ds hc hd
      cases h
      obtain ⟨v, hv, hr⟩ := resOne_sound (P := P) hT h0 ht hc
      obtain ⟨vs, hvs, hrs⟩ := resAll_sound hT h0 ht hd
      refine ⟨v :: vs, ?_, .cons _ _ _ _ hr hrs⟩
      rw [List.mapM_cons, Sem.run_bind, hv, Result.andThen_ok, Sem.run_bind, hvs]
      rfl
    · cases h
theorem oneOr_rep {cs : List AV} {vs : List Value} (h : RepL C cs vs) : Rep C (oneOr cs) (if h : vs.toArray.size = 1 then vs.toArray[0] else .tuple vs.toArray) := by
  cases h with
  | nil => simpa [oneOr] using Rep.tup [] [] .nil
  | cons c v cs vs h t =>
    cases t with
    | nil => simpa [oneOr] using h
    | cons d u ds us h2 t2 =>
      have : ¬ ((v :: u :: us).toArray.size = 1) := by simp
      rw [dif_neg this]
      exact .tup _ _ (.cons _ _ _ _ h (.cons _ _ _ _ h2 t2))
theorem resA_sound (hT : TOK P T) (h0 : HRel C σ w) (ht : RepL C t a.tmps.toList) {fn : Func} {r : AV} (h : resA T fn.results.toList t σ = some r) :
    ∃ v, (results fn a.tmps).run P w = .ok v w ∧ Rep C r v := by
  unfold resA at h
  cases hq : resAll T t σ fn.results.toList with
  | none => rw [hq] at h; cases h
  | some cs =>
    rw [hq] at h; cases h
    obtain ⟨vs, hvs, hrs⟩ := resAll_sound (P := P) hT h0 ht hq
    refine ⟨_, ?_, oneOr_rep hrs⟩
    unfold results
    rw [Array.mapM_eq_mapM_toList]
    simp only [Sem.run_bind, Sem.run_map]
    generalize hz : Sem.run P (List.mapM _ fn.results.toList) w = z
    obtain rfl : z = _ := hz.symm.trans hvs
    simp only [Result.andThen_ok, Sem.run_pure]
end

section
variable {P : Program} {T : TT} {G : GT}
theorem RepL.undefs (C : Cz) (n : Nat) : RepL C (List.replicate n undefA) (List.replicate n undef) := RepL.replicate Rep.undef n
/-- A function with a body. -/
theorem ACalls_body (hT : TOK P T) {f : FuncId} {fn : Func} {c : Code} (hf : P.funcs[f]? = some fn) (hb : fn.body = some c) (hn : (fn.name == "runtime.NumGoroutine") = false) {args : List AV} {σ : St} {Q : AV → St → Prop}
    (h : awp P T G c (bodyQ T fn Q) (args ++ List.replicate (fn.ntmps - args.length) undefA) σ) : ACalls P G f args σ Q := by
  intro C w vs h0 hg ha
  have hrun : (callFunc f vs.toArray).run P w = .ok (.enter f vs.toArray) w := by
    unfold callFunc
    rw [Sem.run_bind, run_program, Result.andThen_ok]
    simp only [hf, hb, hn, Option.isNone_some, Bool.false_eq_true, if_false, Sem.run_pure]
  unfold CallsX
  rw [hrun]
  refine calls_of_wp hf hb (wp_mono (awp_sound hT c _ _ σ C _ w h ⟨C, Cz.le.refl C, h0, ?_, hg, rfl⟩) ?_)
  · have hl := ha.length
    have := ha.append (RepL.undefs C (fn.ntmps - args.length))
    have e : (vs.toArray ++ Array.replicate (fn.ntmps - vs.toArray.size) undef).toList = vs ++ List.replicate (fn.ntmps - args.length) undef := by simp [hl]
    rw [e]; exact this
  · rintro e a' w' ⟨t', σ', ⟨C', hle, hrel, ht, hg', hd⟩, hq⟩
    have fin : (∃ r, resA T fn.results.toList t' σ' = some r ∧ Q r σ') → a'.defers = [] ∧ ∃ v, (results fn a'.tmps).run P w' = .ok v w' ∧ ∃ v_1, Ending.returned v = .returned v_1 ∧ ∃ r σ' C', C.le C' ∧ HRel C' σ' w' ∧ Rep C' r v_1 ∧ Q r σ' := by
      rintro ⟨r, hr, hQ⟩
      obtain ⟨v, hv, hrep⟩ := resA_sound (P := P) hT hrel ht hr
      exact ⟨hd, v, hv, v, rfl, r, σ', C', hle, hrel, hrep, hQ⟩
    cases e with
    | normal => exact fin hq
    | ret => exact fin hq
    | _ => exact hq.elim

/-- The same value and world in other words. -/
def Conv (r : AV) (σ : St) (r' : AV) (σ' : St) : Prop := ∀ C w v, HRel C σ w → Rep C r v → ∃ C', C.le C' ∧ HRel C' σ' w ∧ Rep C' r' v
theorem ACalls.conv {f : FuncId} {args : List AV} {σ : St} {Q : AV → St → Prop} (h : ACalls P G f args σ (fun r σ' => ∃ r2 σ2, Conv r σ' r2 σ2 ∧ Q r2 σ2)) : ACalls P G f args σ Q :=
  fun C w vs h0 hg ha => (h C w vs h0 hg ha).mono (fun v w' ⟨r, σ', C', hle, hrel, hr, r2, σ2, hc, hQ⟩ => by
    obtain ⟨C2, hle2, hrel2, hr2⟩ := hc C' w' v hrel hr
    exact ⟨r2, σ2, C2, hle.trans hle2, hrel2, hr2, hQ⟩)
end

/-! ### What a call made for itself is forgotten -/
mutual
/-- Data: no number of the abstract heap in it. -/
inductive Data : AV → Prop
  | int (k : IntKind) (n : Int) : Data (.int k n)
  | bool (b : Bool) : Data (.bool b)
  | str (s : List UInt8) : Data (.str s)
  | nilp : Data .nilp
  | nils : Data .nils
  | ez : Data .ez
  | niln : Data .niln
  | nili : Data .nili
  | rp (cs : List AV) (h : DataL cs) : Data (.rp cs)
  | sl (els : List (List AV)) (h : DataL els.flatten) : Data (.sl els)
  | fn (f : Fn) (a b : List AV) (h1 : DataL a) (h2 : DataL b) : Data (.fn f a b)
  | ifc (t : TypeId) (v : AV) (h : Data v) : Data (.ifc t v)
  | agg (cs : List AV) (h : DataL cs) : Data (.agg cs)
  | tup (cs : List AV) (h : DataL cs) : Data (.tup cs)
inductive DataL : List AV → Prop
  | nil : DataL []
  | cons (c : AV) (cs : List AV) (h : Data c) (t : DataL cs) : DataL (c :: cs)
end
theorem DataL.append {a b : List AV} (h : DataL a) (k : DataL b) : DataL (a ++ b) := by
  induction a with
  | nil => exact k
  | cons c cs ih => cases h with | cons _ _ h t => exact .cons _ _ h (ih t)
theorem DataL.of_mem {l : List AV} (h : ∀ c ∈ l, Data c) : DataL l := by
  induction l with
  | nil => exact .nil
  | cons c l ih => exact .cons _ _ (h c (by simp)) (ih (fun x hx => h x (by simp [hx])))

mutual
/-- Data stands for the same wherever memory that stays is the same. -/
theorem Rep.data {C D : Cz} (hm : ∀ b o v, C.M b o = some v → D.M b o = some v) : ∀ {c : AV} {v : Value}, Rep C c v → Data c → Rep D c v
  | _, _, .int k n, _ => .int k n
  | _, _, .bool b, _ => .bool b
  | _, _, .str s, _ => .str s
  | _, _, .nilp, _ => .nilp
  | _, _, .rp cs vs b o h hm', .rp _ hd => .rp cs vs b o (RepL.data hm h hd) (fun j v e => hm _ _ _ (hm' j v e))
  | _, _, .nils, _ => .nils
  | _, _, .ez a, _ => .ez a
  | _, _, .sl0 a cap, _ => .sl0 a cap
  | _, _, .sl els z vs b o cap hz hc h hm', .sl _ hd => .sl els z vs b o cap hz hc (RepL.data hm h hd) (fun j v e => hm _ _ _ (hm' j v e))
  | _, _, .fn f a b va vb h1 h2, .fn _ _ _ d1 d2 => .fn f a b va vb (RepL.data hm h1 d1) (RepL.data hm h2 d2)
  | _, _, .niln, _ => .niln
  | _, _, .ifc t c v h, .ifc _ _ hd => .ifc t c v (Rep.data hm h hd)
  | _, _, .nili, _ => .nili
  | _, _, .agg cs vs h, .agg _ hd => .agg cs vs (RepL.data hm h hd)
  | _, _, .tup cs vs h, .tup _ hd => .tup cs vs (RepL.data hm h hd)
theorem RepL.data {C D : Cz} (hm : ∀ b o v, C.M b o = some v → D.M b o = some v) : ∀ {cs : List AV} {vs : List Value}, RepL C cs vs → DataL cs → RepL D cs vs
  | _, _, .nil, _ => .nil
  | _, _, .cons c v cs vs h t, .cons _ _ hd ht => .cons c v cs vs (Rep.data hm h hd) (RepL.data hm t ht)
end

mutual
/-- What stood for something before a call and stands for something behind it, stands for it without what the call made. -/
theorem Rep.back {C D E : Cz} (hm : ∀ b o v, D.M b o = some v → E.M b o = some v) (hv : E.nv = C.nv) (hrho : ∀ b, b < C.nv → E.ρ b = D.ρ b) (hr : E.nr = C.nr) (hrow : ∀ r, r < C.nr → E.row r = D.row r) : ∀ {c : AV} {v0 v : Value}, Rep D c v → Rep C c v0 → Rep E c v
  | _, _, _, .int k n, _ => .int k n
  | _, _, _, .bool b, _ => .bool b
  | _, _, _, .str s, _ => .str s
  | _, _, _, .nilp, _ => .nilp
  | _, _, _, .vp b off h, h0 => by
    cases h0 with
    | vp _ _ hb => rw [← hrho b hb]; exact .vp b off (hv ▸ hb)
  | _, _, _, .rp cs vs b o h hm', .rp _ vs0 _ _ h0 _ => .rp cs vs b o (RepL.back hm hv hrho hr hrow h h0) (fun j v e => hm _ _ _ (hm' j v e))
  | _, _, _, .nils, _ => .nils
  | _, _, _, .ez a, _ => .ez a
  | _, _, _, .sl0 a cap, _ => .sl0 a cap
  | _, _, _, .sl els z vs b o cap hz hc h hm', h0 => by
    cases h0 with
    | sl0 a cap0 => cases h; exact .sl [] z [] b o cap hz hc .nil (fun j v e => by simp at e)
    | sl _ _ _ _ _ _ _ _ h0 _ => exact .sl els z vs b o cap hz hc (RepL.back hm hv hrho hr hrow h h0) (fun j v e => hm _ _ _ (hm' j v e))
  | _, _, _, .os r off n a cap h hv' hs, .os _ _ _ _ _ h0 _ _ => .os r off n a cap (hr ▸ h0) (fun e => by rw [hrow r h0] at e ⊢; exact hv' e) hs
  | _, _, _, .op r i k a h hv', .op _ _ _ _ h0 _ => .op r i k a (hr ▸ h0) (fun e => by rw [hrow r h0] at e ⊢; exact hv' e)
  | _, _, _, .fn f a b va vb k1 k2, .fn _ _ _ _ _ h1 h2 => .fn f a b va vb (RepL.back hm hv hrho hr hrow k1 h1) (RepL.back hm hv hrho hr hrow k2 h2)
  | _, _, _, .niln, _ => .niln
  | _, _, _, .ifc t c v h, .ifc _ _ _ h0 => .ifc t c v (Rep.back hm hv hrho hr hrow h h0)
  | _, _, _, .nili, _ => .nili
  | _, _, _, .agg cs vs h, .agg _ _ h0 => .agg cs vs (RepL.back hm hv hrho hr hrow h h0)
  | _, _, _, .tup cs vs h, .tup _ _ h0 => .tup cs vs (RepL.back hm hv hrho hr hrow h h0)
theorem RepL.back {C D E : Cz} (hm : ∀ b o v, D.M b o = some v → E.M b o = some v) (hv : E.nv = C.nv) (hrho : ∀ b, b < C.nv → E.ρ b = D.ρ b) (hr : E.nr = C.nr) (hrow : ∀ r, r < C.nr → E.row r = D.row r) : ∀ {cs : List AV} {vs0 vs : List Value}, RepL D cs vs → RepL C cs vs0 → RepL E cs vs
  | _, _, _, .nil, _ => .nil
  | _, _, _, .cons c v cs vs h t, .cons _ _ _ _ h0 t0 => .cons c v cs vs (Rep.back hm hv hrho hr hrow h h0) (RepL.back hm hv hrho hr hrow t t0)
end

def VB.data : VB → Prop
  | .cells _ l => DataL l
  | .siter _ _ => True
structure Keeps (σ σ' σ2 : St) : Prop where
  nv : σ2.vars.length = σ.vars.length
  nr : σ2.rows.length = σ.rows.length
  var : ∀ (b : Nat) (vb : VB), σ2.vars[b]? = some vb → σ'.vars[b]? = some vb ∧ (σ.vars[b]? = some vb ∨ vb.data)
  row : ∀ (r : Nat) (x : Row), σ2.rows[r]? = some (some x) → σ'.rows[r]? = some (some x) ∧ (σ.rows[r]? = some (some x) ∨ DataL x.els.flatten)
theorem ACalls.forget {P : Program} {G : GT} {f : FuncId} {args : List AV} {σ : St} {Q : AV → St → Prop} (h : ACalls P G f args σ (fun r σ' => ∃ σ2, Keeps σ σ' σ2 ∧ Data r ∧ Q r σ2)) : ACalls P G f args σ Q := by
  intro C w vs h0 hg ha
  refine (h C w vs h0 hg ha).mono ?_
  rintro v w' ⟨r, σ', D, hle, hrel, hr, σ2, hk, hd, hQ⟩
  let E : Cz := { D with nv := C.nv, nr := C.nr }
  have hm : ∀ b o v, D.M b o = some v → E.M b o = some v := fun _ _ _ h => h
  have hCE : C.le E := ⟨hle.mem, Nat.le_refl _, hle.rho, Nat.le_refl _, hle.row, hle.base, hle.w0, hle.old⟩
  have back : ∀ {cs : List AV} {us0 us : List Value}, RepL D cs us → RepL C cs us0 → RepL E cs us := fun h1 h2 => RepL.back (C := C) (D := D) (E := E) hm rfl (fun _ _ => rfl) rfl (fun _ _ => rfl) h1 h2
  have hlive : ∀ k, σ2.live k → σ'.live k := fun k ⟨x, hx⟩ => ⟨x, (hk.row k x hx).1⟩
  refine ⟨r, σ2, E, hCE, ?_, Rep.data hm hr hd, hQ⟩
  refine { nv := ?_, nr := ?_, mem := hrel.mem, var := ?_, vinj := ?_, vM := ?_, vbase := ?_, row := ?_, rinj := ?_, rv := ?_, rM := ?_, rbase := ?_, hb := hrel.hb, below := hrel.below }
  · show C.nv = _; rw [h0.nv, hk.nv]
  · show C.nr = _; rw [h0.nr, hk.nr]
  · intro b vb hb
    obtain ⟨h1, h2⟩ := hk.var b vb hb
    have h3 := hrel.var b vb h1
    cases vb with
    | siter s pos => exact h3
    | cells e l =>
      obtain ⟨us, hu, hur⟩ := h3
      refine ⟨us, hu, ?_⟩
      rcases h2 with h2 | h2
      · obtain ⟨us0, _, hr0⟩ := h0.var b _ h2
        exact back hur hr0
      · exact RepL.data hm hur h2
  · exact fun b b' h1 h2 e => hrel.vinj b b' (Nat.lt_of_lt_of_le h1 hle.nv) (Nat.lt_of_lt_of_le h2 hle.nv) e
  · exact fun b o h1 => hrel.vM b o (Nat.lt_of_lt_of_le h1 hle.nv)
  · exact fun b h1 => hrel.vbase b (Nat.lt_of_lt_of_le h1 hle.nv)
  · intro k x hx
    obtain ⟨h1, h2⟩ := hk.row k x hx
    obtain ⟨hl, us, fr, hh⟩ := hrel.row k x h1
    refine ⟨hl, us, fr, ⟨hh.heap, hh.size, hh.esz, hh.uni, hh.fits, ?_, hh.free⟩⟩
    rcases h2 with h2 | h2
    · obtain ⟨_, us0, fr0, hh0⟩ := h0.row k x h2
      exact back hh.rep hh0.rep
    · exact RepL.data hm hh.rep h2
  · exact fun k k' h1 h2 e => hrel.rinj k k' (hlive k h1) (hlive k' h2) e
  · exact fun k b h1 h2 => hrel.rv k b (hlive k h1) (Nat.lt_of_lt_of_le h2 hle.nv)
  · exact fun k o h1 => hrel.rM k o (hlive k h1)
  · exact fun k h1 => hrel.rbase k (hlive k h1)
/-- A call that hands back data and leaves the heap alone, whatever it made for itself. -/
theorem Keeps.grown (σ : St) (g : List VB) (h : List (Option Row)) : Keeps σ ⟨σ.vars ++ g, σ.rows ++ h⟩ σ := {
  nv := rfl
  nr := rfl
  var := fun b vb hb => ⟨by rw [List.getElem?_append_left (List.getElem?_eq_some_iff.1 hb).1]; exact hb, .inl hb⟩
  row := fun r x hx => ⟨by rw [List.getElem?_append_left (List.getElem?_eq_some_iff.1 hx).1]; exact hx, .inl hx⟩ }

/-- A call with data alone: what it does alone it does anywhere, and hands back data. -/
theorem ACalls.frame {P : Program} {G : GT} {f : FuncId} (hG : ∀ g cs, G g = some cs → DataL cs) {args : List AV} (hd : DataL args) {Q : AV → Prop} (h : ACalls P G f args ⟨[], []⟩ (fun r _ => Data r ∧ Q r)) (σ : St) : ACalls P G f args σ (fun r σ' => σ' = σ ∧ Q r) := by
  intro C w vs h0 hg ha
  let B : Cz := { C with nv := 0, nr := 0, base := w.heap.size, w0 := w }
  have hB : HRel B ⟨[], []⟩ w := {
    nv := rfl, nr := rfl, mem := h0.mem,
    var := fun b vb hb => by simp at hb
    vinj := fun b _ hb => by cases hb
    vM := fun b _ hb => by cases hb
    vbase := fun b hb => by cases hb
    row := fun r row hr => by simp at hr
    rinj := fun r _ hr => by obtain ⟨x, hx⟩ := hr; simp at hx
    rv := fun r _ hr => by obtain ⟨x, hx⟩ := hr; simp at hx
    rM := fun r _ hr => by obtain ⟨x, hx⟩ := hr; simp at hx
    rbase := fun r hr => by obtain ⟨x, hx⟩ := hr; simp at hx
    hb := Nat.le_refl _
    below := Below.refl _ _ }
  have hCB : ∀ b o v, C.M b o = some v → B.M b o = some v := fun _ _ _ e => e
  have hgB : GOK G B := fun g cs e => by
    obtain ⟨us, h1, h2⟩ := hg g cs e
    exact ⟨us, RepL.data hCB h1 (hG g cs e), h2⟩
  refine (h B w vs hB hgB (RepL.data hCB ha hd)).mono ?_
  rintro v w' ⟨r, σ', D, hle, hrel, hr, hdr, hQ⟩
  have hb0 : D.base = w.heap.size := hle.base
  have hw0 : D.w0 = w := hle.w0
  have hbel : Below w.heap.size w w' := by have := hrel.below; rw [hb0, hw0] at this; exact this
  let E : Cz := { C with M := D.M }
  have hCE : C.le E := ⟨hle.mem, Nat.le_refl _, fun _ _ => rfl, Nat.le_refl _, fun _ _ _ => rfl, rfl, rfl, fun b o v hb hm => hle.old b o v (Nat.lt_of_lt_of_le hb h0.hb) hm⟩
  have hsame : ∀ k, k < w.heap.size → w'.heap[k]? = w.heap[k]? := hbel.block
  have hDE : ∀ b o v, D.M b o = some v → E.M b o = some v := fun _ _ _ e => e
  refine ⟨r, σ, E, hCE, ?_, Rep.data hDE hr hdr, rfl, hQ⟩
  refine { nv := h0.nv, nr := h0.nr, mem := hrel.mem, var := ?_, vinj := h0.vinj, vM := ?_, vbase := h0.vbase, row := ?_, rinj := h0.rinj, rv := h0.rv, rM := ?_, rbase := h0.rbase, hb := Nat.le_trans h0.hb hbel.size, below := h0.below.trans (hbel.mono h0.hb) }
  · intro b vb hb
    have := h0.var b vb hb
    exact this.mono hCE (hsame _ this.lt)
  · intro b o hb
    show D.M (C.ρ b) o = none
    cases e : D.M (C.ρ b) o with
    | none => rfl
    | some u => have := hle.old _ _ _ (h0.rho_lt hb) e; rw [show B.M = C.M from rfl, h0.vM b o hb] at this; cases this
  · intro k x hx
    obtain ⟨hl, us, fr, hh⟩ := h0.row k x hx
    exact ⟨hl, us, fr, hh.mono hCE (hsame _ hh.lt)⟩
  · intro k o hl
    show D.M (C.row k).blk o = none
    cases e : D.M (C.row k).blk o with
    | none => rfl
    | some u => have := hle.old _ _ _ (h0.blk_lt hl) e; rw [show B.M = C.M from rfl, h0.rM k o hl] at this; cases this
end Go.Ab
namespace Go.Ab
open Go Go.RowKit

section
variable {P : Program} {T : TT} {G : GT} {t t' : List AV} {σ : St}
theorem evs_congr : ∀ {xs : List Operand}, (∀ x ∈ xs, ev G t x = ev G t' x) → evs G t xs = evs G t' xs
  | [], _ => rfl
  | x :: xs, h => by
    simp only [evs]
    rw [h x (by simp), evs_congr (fun y hy => h y (by simp [hy]))]
theorem evps_congr : ∀ {xs : List (Nat × Operand)}, (∀ p ∈ xs, ev G t p.2 = ev G t' p.2) → evps G t xs = evps G t' xs
  | [], _ => rfl
  | (i, x) :: xs, h => by
    simp only [evps]
    rw [h (i, x) (by simp), evps_congr (fun y hy => h y (by simp [hy]))]
theorem evo_congr {x : Option Operand} (h : ∀ y, x = some y → ev G t y = ev G t' y) : evo G t x = evo G t' x := by
  cases x with
  | none => rfl
  | some y => simp only [evo]; rw [h y rfl]
theorem opP_congr {op : Op} (h : ∀ x ∈ op.operands, ev G t x = ev G t' x) : opP T G t σ op = opP T G t' σ op := by
  cases op <;> simp only [Op.operands] at h <;> simp only [opP]
  case build ty ps => rw [evps_congr fun p hp => h p.2 (by simpa using ⟨p.1, Array.mem_toList_iff.1 hp⟩)]
  case makeFunc f a b => rw [evs_congr fun x hx => h x (by simp at hx ⊢; exact .inl hx), evs_congr fun x hx => h x (by simp at hx ⊢; exact .inr hx)]
  case slice ty x lo hi mx => rw [h x (by simp), evo_congr fun y hy => h y (by simp [hy]), evo_congr fun y hy => h y (by simp [hy]), evo_congr fun y hy => h y (by simp [hy])]
  case pick c a b => rw [h c (by simp), h a (by simp), h b (by simp)]
  case binOp op xt x y _ => rw [h x (by simp), h y (by simp)]
  case indexAddr ty x i => rw [h x (by simp), h i (by simp)]
  case index ty x i => rw [h x (by simp), h i (by simp)]
  case call c =>
    simp only [Call.operands] at h
    split
    · rename_i x ty tys h1 h2 h3
      have hx : x ∈ c.args := by
        have : x ∈ c.args.toList := by rw [h2]; simp
        simpa using this
      rw [h x (by simp [hx])]
    · rfl
  all_goals first | rfl | (rename_i x; rw [h x (by simp)]) | (rename_i x _; rw [h x (by simp)]) | (rename_i x _ _; rw [h x (by simp)])
theorem opM_congr {op : Op} (h : ∀ x ∈ op.operands, ev G t x = ev G t' x) : opM T G t σ op = opM T G t' σ op := by
  cases op <;> simp only [Op.operands] at h <;> simp only [opM]
  case box ty x => rw [h x (by simp)]
  case buildSlice ty len ps => rw [evps_congr fun p hp => h p.2 (by simpa using ⟨p.1, Array.mem_toList_iff.1 hp⟩)]
  case store ty a x => rw [h a (by simp), h x (by simp)]
  case call c =>
    simp only [Call.operands] at h
    split
    · rename_i s x ts tx h1 h2 h3
      have hs : s ∈ c.args := by
        have : s ∈ c.args.toList := by rw [h2]; simp
        simpa using this
      have hx : x ∈ c.args := by
        have : x ∈ c.args.toList := by rw [h2]; simp
        simpa using this
      rw [h s (by simp [hs]), h x (by simp [hx])]
    · rfl
theorem moreOf_operands {op : Op} {m : MO} {xs : List Operand} (h : moreOf T op = some (m, xs)) : ∀ x ∈ xs, x ∈ op.operands := by
  unfold moreOf at h
  split at h
  · split at h
    · split at h
      · cases h; intro x hx; simpa [Op.operands] using hx
      · cases h
    · cases h
  · split at h
    · cases h; intro x hx; simpa [Op.operands] using hx
    · cases h
  · repeat' (split at h)
    all_goals first | (cases h; done) | (cases h; intro x hx; simpa [Op.operands] using hx)
  · split at h
    · cases h; intro x hx; simp only [Op.operands, Call.operands]; simp at hx ⊢; exact .inr hx
    · cases h; intro x hx; simp only [Op.operands, Call.operands]; simp at hx ⊢; exact .inr hx
    · repeat' (split at h)
      all_goals first | (cases h; done) | (cases h; intro x hx; simp only [Op.operands, Call.operands]; simp at hx ⊢; exact .inr hx)
    · repeat' (split at h)
      all_goals first | (cases h; done) | (cases h; intro x hx; simp only [Op.operands, Call.operands]; simp at hx ⊢; exact .inr hx)
    · cases h
  · repeat' (split at h)
    all_goals first | (cases h; done) | (cases h; intro x hx; simpa [Op.operands] using hx)
  · cases h; intro x hx; cases hx
  · cases h
theorem opN_congr {op : Op} (h : ∀ x ∈ op.operands, ev G t x = ev G t' x) : opN T G t σ op = opN T G t' σ op := by
  unfold opN
  rw [opM_congr h]
  cases hm : moreOf T op with
  | none => rfl
  | some p =>
    obtain ⟨m, xs⟩ := p
    simp only []
    rw [evs_congr fun x hx => h x (moreOf_operands hm x hx)]
theorem callOf_congr {op : Op} (h : ∀ x ∈ op.operands, ev G t x = ev G t' x) : callOf G t op = callOf G t' op := by
  cases op <;> try rfl
  rename_i c
  simp only [callOf]
  cases hc : c.callee <;> try rfl
  rename_i f
  simp only [Op.operands, Call.operands, hc] at h
  simp only []
  rw [h f (by simp), evs_congr fun x hx => h x (by simp at hx ⊢; exact .inr hx)]

theorem ev_putA {dst : Option Tmp} {v : AV} {x : Operand} (h : ∀ d, dst = some d → x ≠ .tmp d) : ev G (putA t dst v) x = ev G t x := by
  cases dst with
  | none => rfl
  | some d =>
    cases x with
    | tmp n =>
      have hne : d ≠ n := fun e => h d rfl (e ▸ rfl)
      simp only [ev, putA]
      rw [List.getElem?_set_ne hne]
    | _ => rfl
theorem putA_comm {x y : Option Tmp} (v u : AV) (h : ∀ d, x = some d → y ≠ some d) : putA (putA t x v) y u = putA (putA t y u) x v := by
  cases x with
  | none => rfl
  | some d =>
    cases y with
    | none => rfl
    | some e =>
      have hne : d ≠ e := fun he => h d rfl (he ▸ rfl)
      simp only [putA]
      exact List.set_comm _ _ hne
theorem ev_look {ops : Array Oper} {o : Oper} {dst : Option Tmp} {v : AV} (h : ∀ d, dst = some d → d ∉ o.looksAt ops) : ∀ x ∈ o.op.operands, ev G (putA t dst v) x = ev G t x := fun x hx => ev_putA fun d hd hxd => h d hd (by
    subst hxd
    exact List.mem_append_left _ (List.mem_filterMap.2 ⟨.tmp d, by simpa using hx, rfl⟩))
theorem wantedA_put {ops : Array Oper} {o : Oper} {dst : Option Tmp} {v : AV} (h : ∀ d, dst = some d → d ∉ o.looksAt ops) : wantedA ops o (putA t dst v) = wantedA ops o t := by
  cases dst with
  | none => rfl
  | some d =>
    unfold wantedA
    cases hg : o.guard with
    | none => rfl
    | some gw =>
      obtain ⟨g, want⟩ := gw
      have hy : yieldedA ops (putA t (some d) v) g = yieldedA ops t g := by
        unfold yieldedA
        cases ht : (ops[g]?).bind (·.dst) with
        | none => rfl
        | some n =>
          have hne : d ≠ n := fun e => h d rfl (by subst e; simp [Oper.looksAt, hg, ht])
          simp only [Option.bind_some, putA]
          rw [List.getElem?_set_ne hne]
      simp only [hy]

/-- In every state that meets S the operation gives v and turns nothing. -/
def YieldsA (T : TT) (G : GT) (ops : Array Oper) (S : St → Prop) (o : Oper) (v : AV) (t : List AV) : Prop :=
  (wantedA ops o t = true ∧ isCall o.op = false ∧ ∀ σ, S σ → opP T G t σ o.op = some v) ∨ (wantedA ops o t = false ∧ v = undefA)
theorem YieldsA.put {ops : Array Oper} {S : St → Prop} {o : Oper} {v : AV} (hy : YieldsA T G ops S o v t) {dst : Option Tmp} {u : AV} (h : ∀ d, dst = some d → d ∉ o.looksAt ops) : YieldsA T G ops S o v (putA t dst u) := by
  unfold YieldsA at *
  rw [wantedA_put h]
  refine hy.imp (fun ⟨h1, h2, h3⟩ => ⟨h1, h2, fun σ hS => ?_⟩) id
  rw [opP_congr (ev_look h)]
  exact h3 σ hS
theorem aOp_mono {o : Oper} {K K' : List AV → St → Prop} (hk : ∀ t σ, K t σ → K' t σ) (h : aOp P T G o K t σ) : aOp P T G o K' t σ := by
  unfold aOp at *
  split
  · rename_i hc
    rw [if_pos hc] at h
    split
    · rename_i hcall; rw [hcall] at h; exact h.mono fun r σ' hq => hk _ _ hq
    · rename_i hcall; rw [hcall] at h; exact h
  · rename_i hc
    rw [if_neg hc] at h
    split
    · rename_i hr; rw [hr] at h; exact hk _ _ h
    · rename_i hr
      rw [hr] at h
      split
      · rename_i hn; rw [hn] at h; exact hk _ _ h
      · rename_i hn; rw [hn] at h; exact h
theorem aWpOp_mono {ops : Array Oper} {i : Nat} {K K' : List AV → St → Prop} (hk : ∀ t σ, K t σ → K' t σ) (h : aWpOp P T G ops K i t σ) : aWpOp P T G ops K' i t σ := by
  unfold aWpOp at *
  split
  · rename_i he; rw [he] at h; exact hk _ _ h
  · rename_i o he
    rw [he] at h
    simp only at h
    split
    · rename_i hw; rw [if_pos hw] at h; exact aOp_mono hk h
    · rename_i hw; rw [if_neg hw] at h; exact hk _ _ h
theorem aAny_mono {ops : Array Oper} {K K' : List AV → St → Prop} (hk : ∀ t σ, K t σ → K' t σ) : ∀ (fuel : Nat) {listed : Array Bool} {t : List AV} {σ : St}, aAny P T G ops K fuel listed t σ → aAny P T G ops K' fuel listed t σ
  | 0, _, _, _, h => ⟨h.1, hk _ _ h.2⟩
  | fuel + 1, _, _, _, h => ⟨fun e => hk _ _ (h.1 e), fun i hi => aWpOp_mono (fun _ _ => aAny_mono hk fuel) (h.2 i hi)⟩

theorem aWpOp_put {ops : Array Oper} {S : St → Prop} {j : Nat} {oi oj : Oper} {v : AV} (hj : ops[j]? = some oj) (hap : oi.apart ops oj = true) {K : List AV → St → Prop} (hy : YieldsA T G ops S oi v t)
    (h : aWpOp P T G ops K j (putA t oi.dst v) σ) : aWpOp P T G ops (fun t' σ' => YieldsA T G ops S oi v t' ∧ K (putA t' oi.dst v) σ') j t σ := by
  obtain ⟨h1, h2, h3⟩ := Oper.apart_spec hap
  have fin : ∀ u σ', K (putA (putA t oi.dst v) oj.dst u) σ' → YieldsA T G ops S oi v (putA t oj.dst u) ∧ K (putA (putA t oj.dst u) oi.dst v) σ' := fun u σ' hk => ⟨hy.put h3, by rw [← putA_comm v u h2]; exact hk⟩
  unfold aWpOp at *
  simp only [hj] at h ⊢
  rw [wantedA_put h1] at h
  split
  · rename_i hw
    rw [if_pos hw] at h
    unfold aOp at *
    rw [callOf_congr (ev_look h1), opP_congr (ev_look h1), opN_congr (ev_look h1)] at h
    split
    · rename_i hc
      rw [if_pos hc] at h
      split
      · rename_i hcall; rw [hcall] at h; exact h.mono fun r σ' hq => fin _ _ hq
      · rename_i hcall; rw [hcall] at h; exact h
    · rename_i hc
      rw [if_neg hc] at h
      split
      · rename_i hr; rw [hr] at h; exact fin _ _ h
      · rename_i hr
        rw [hr] at h
        split
        · rename_i hn; rw [hn] at h; exact fin _ _ h
        · rename_i hn; rw [hn] at h; exact h
  · rename_i hw
    rw [if_neg hw] at h
    exact fin _ _ h
theorem YieldsA.wpOp {ops : Array Oper} {S : St → Prop} {i : Nat} {o : Oper} {v : AV} (hi : ops[i]? = some o) (hy : YieldsA T G ops S o v t) {K : List AV → St → Prop} (hS : S σ) (h : K (putA t o.dst v) σ) : aWpOp P T G ops K i t σ := by
  unfold aWpOp
  simp only [hi]
  rcases hy with ⟨hw, hc, hv⟩ | ⟨hw, rfl⟩
  · rw [if_pos hw]
    unfold aOp
    rw [if_neg (by rw [hc]; decide), hv σ hS]
    exact h
  · rw [if_neg (by rw [hw]; decide)]
    exact h

end
end Go.Ab
namespace Go.Ab
open Go Go.RowKit
section
variable {P : Program} {T : TT} {G : GT} {t t' : List AV} {σ : St}
/-- Closed: what an operation waits for has come up ahead of it. -/
def Shut (ops : Array Oper) (L : Array Bool) : Prop := ∀ k ok, ops[k]? = some ok → L.getD k true = true → ∀ e ∈ ok.after, Region.binds .any e = true → L.getD e.on true = true
theorem getD_set_same (L : Array Bool) (i : Nat) : (L.setIfInBounds i true).getD i true = true := by
  by_cases h : i < L.size
  · simp [h]
  · simp [Array.getD, h]
theorem getD_set_up {L : Array Bool} {i k : Nat} (h : L.getD k true = true) : (L.setIfInBounds i true).getD k true = true := by
  by_cases hk : i = k
  · subst hk; exact getD_set_same L i
  · rw [getD_set_ne true hk]; exact h
theorem Shut.set {ops : Array Oper} {L : Array Bool} {i : Nat} (h : Shut ops L) (hr : i ∈ Region.ready .any ops L) : Shut ops (L.setIfInBounds i true) := by
  intro k ok hk hl e he hb
  obtain ⟨hun, oi, hoi, hall⟩ := mem_ready.1 hr
  by_cases hik : i = k
  · subst hik
    rw [hk] at hoi; cases hoi
    have h1 := hall e he hb
    apply getD_set_up
    by_cases hz : e.on < L.size
    · simp [hz] at h1 ⊢; exact h1
    · simp [Array.getD, hz] at h1
  · rw [getD_set_ne true hik] at hl
    exact getD_set_up (h k ok hk hl e he hb)
/-- Whatever order is picked, and R holds behind each one, of what has come up. -/
def aAnyR (P : Program) (T : TT) (G : GT) (ops : Array Oper) (K : List AV → St → Prop) (R : Array Bool → St → Prop) : Nat → Array Bool → List AV → St → Prop
  | 0, listed, t, σ => Region.ready .any ops listed = [] ∧ K t σ
  | fuel + 1, listed, t, σ => (Region.ready .any ops listed = [] → K t σ) ∧ ∀ i ∈ Region.ready .any ops listed, aWpOp P T G ops (fun t' σ' => R (listed.setIfInBounds i true) σ' ∧ aAnyR P T G ops K R fuel (listed.setIfInBounds i true) t' σ') i t σ
theorem aAnyR_weak {ops : Array Oper} {K : List AV → St → Prop} {R R' : Array Bool → St → Prop} (hs : ∀ L σ, R L σ → R' L σ) : ∀ (fuel : Nat) {listed : Array Bool} {t : List AV} {σ : St}, aAnyR P T G ops K R fuel listed t σ → aAnyR P T G ops K R' fuel listed t σ
  | 0, _, _, _, h => h
  | fuel + 1, _, _, _, h => ⟨h.1, fun i hi => aWpOp_mono (fun _ _ hh => ⟨hs _ _ hh.1, aAnyR_weak hs fuel hh.2⟩) (h.2 i hi)⟩
theorem aAny_of_R {ops : Array Oper} {K : List AV → St → Prop} {R : Array Bool → St → Prop} : ∀ (fuel : Nat) {listed : Array Bool} {t : List AV} {σ : St}, aAnyR P T G ops K R fuel listed t σ → aAny P T G ops K fuel listed t σ
  | 0, _, _, _, h => h
  | fuel + 1, _, _, _, h => ⟨h.1, fun i hi => aWpOp_mono (fun _ _ hh => aAny_of_R fuel hh.2) (h.2 i hi)⟩
/-- Where the operation i may not have been run yet. -/
def Yet (ops : Array Oper) (R : Array Bool → St → Prop) (i : Nat) (σ : St) : Prop := ∃ L, Shut ops L ∧ L.getD i true = false ∧ R (L.setIfInBounds i true) σ
theorem aAnyR_first {ops : Array Oper} {K : List AV → St → Prop} {R : Array Bool → St → Prop} {i : Nat} {oi : Oper} {v : AV} (hi : ops[i]? = some oi) (hB : ∀ L σ, L.getD i true = false → R (L.setIfInBounds i true) σ → R L σ) :
    ∀ (fuel : Nat) (listed : Array Bool) (t : List AV) (σ : St),
      (∀ j oj, ops[j]? = some oj → j ≠ i → listed.getD j true = false → (∀ e ∈ oj.after, Region.binds .any e = true → e.on ≠ i) → oi.apart ops oj = true) →
      i ∈ Region.ready .any ops listed → Shut ops listed → YieldsA T G ops (Yet ops R i) oi v t → R (listed.setIfInBounds i true) σ →
      aAnyR P T G ops K R fuel (listed.setIfInBounds i true) (putA t oi.dst v) σ → aAnyR P T G ops K R (fuel + 1) listed t σ := by
  intro fuel
  induction fuel with
  | zero =>
    intro listed t σ _ hr hsh hy hS H
    have hun : listed.getD i true = false := (mem_ready.1 hr).1
    refine ⟨fun h => (by rw [h] at hr; cases hr), fun j hj => ?_⟩
    by_cases hji : j = i
    · subst hji; exact hy.wpOp hi ⟨listed, hsh, hun, hS⟩ ⟨hS, H⟩
    · have := ready_mono hj hji
      rw [H.1] at this
      cases this
  | succ fuel ih =>
    intro listed t σ hfree hr hsh hy hS H
    have hun : listed.getD i true = false := (mem_ready.1 hr).1
    refine ⟨fun h => (by rw [h] at hr; cases hr), fun j hj => ?_⟩
    by_cases hji : j = i
    · subst hji; exact hy.wpOp hi ⟨listed, hsh, hun, hS⟩ ⟨hS, H⟩
    · have h1 := H.2 j (ready_mono hj hji)
      obtain ⟨hjun, oj, hoj, hall⟩ := mem_ready.1 hj
      have hnot : ∀ e ∈ oj.after, Region.binds .any e = true → e.on ≠ i := fun e he hb heq => by
        have h1 := hall e he hb
        have h0 := (mem_ready.1 hr).1
        rw [heq] at h1
        rcases Nat.lt_or_ge i listed.size with h' | h'
        · simp [h'] at h0 h1; rw [h0] at h1; cases h1
        · simp [Array.getElem?_eq_none h'] at h1
      have h2 := aWpOp_put hoj (hfree j oj hoj hji hjun hnot) hy h1
      have hfree' : ∀ k ok, ops[k]? = some ok → k ≠ i → (listed.setIfInBounds j true).getD k true = false →
          (∀ e ∈ ok.after, Region.binds .any e = true → e.on ≠ i) → oi.apart ops ok = true := fun k ok hk hki hun hno => by
        refine hfree k ok hk hki ?_ hno
        by_cases hjk : j = k
        · subst hjk; exact hjun
        · rw [getD_set_ne true hjk] at hun; exact hun
      have hun' : (listed.setIfInBounds j true).getD i true = false := by rw [getD_set_ne true hji]; exact hun
      refine aWpOp_mono (fun t' σ' h3 => ?_) h2
      obtain ⟨h3y, h3r, h3a⟩ := h3
      rw [Array.setIfInBounds_comm _ _ (Ne.symm hji)] at h3r h3a
      exact ⟨hB _ _ hun' h3r, ih (listed.setIfInBounds j true) t' σ' hfree' (ready_mono hr (Ne.symm hji)) (hsh.set hj) h3y h3r h3a⟩
theorem aAnyR_take {ops : Array Oper} {K : List AV → St → Prop} {R : Array Bool → St → Prop} {i : Nat} {oi : Oper} {v : AV} {fuel : Nat} {listed : Array Bool} (hi : ops[i]? = some oi) (hf : Region.free .any ops listed i = true) (hr : (Region.ready .any ops listed).contains i = true)
    (hB : ∀ L σ, L.getD i true = false → R (L.setIfInBounds i true) σ → R L σ) (hsh : Shut ops listed) (hy : YieldsA T G ops (Yet ops R i) oi v t) (hS : R (listed.setIfInBounds i true) σ) (h : aAnyR P T G ops K R fuel (listed.setIfInBounds i true) (putA t oi.dst v) σ) : aAnyR P T G ops K R (fuel + 1) listed t σ :=
  aAnyR_first hi hB fuel listed t σ (Region.free_spec hi hf) (by simpa using hr) hsh hy hS h
end
end Go.Ab
namespace Go.Ab
open Go Go.RowKit

inductive XV where
  | t (n : Nat)
  | k (c : AV)
inductive X where
  | mv (x : XV)
  | pick (c a b : XV)
  | mk (zero : List AV) (ps : List (Nat × Nat × XV))
  | ld (n : Option Nat) (a : XV)
  | st (n : Nat) (a x : XV)
  | nilc (x : XV)
  | bin (op : BinOp) (kd : Kd) (c : Bool) (x y : XV)
  | un (op : UnOp) (x : XV)
  | cvi (k : IntKind) (x : XV)
  | cvs (x : XV)
  | ifc (t : TypeId) (x : XV)
  | mkf (f : Fn) (a b : List XV)
  | sls (z : Nat) (x : XV) (lo hi mx : Option XV)
  | slstr (x : XV) (lo hi : Option XV)
  | fa (off : Nat) (x : XV)
  | fl (off : Nat) (n : Option Nat) (x : XV)
  | ixa (len z : Nat) (x i : XV)
  | ixs (z : Nat) (x i : XV)
  | ixstr (x i : XV)
  | ixarr (len z : Nat) (n : Option Nat) (x i : XV)
  | ex (x : XV) (i : Nat)
  | lens (x : XV)
  | lenl (x : XV)
  | lenarr (n : Nat) (x : XV)
  | strs (x : XV)
  | alloc (ty : TypeId) (zero : List AV)
  | box (ty : TypeId) (x : XV)
  | mks (e : TypeId) (z : Nat) (zero : List AV) (len : Nat) (ps : List (Nat × XV))
  | app (e : TypeId) (z bytes : Nat) (s x : XV)
  | call (f : XV) (args : List XV)
  | more (m : MO) (args : List XV)
structure CO where
  dst : Option Nat
  g : Option (Nat × Bool)
  x : X
/-- A region whose order is drawn: what turns nothing, what turns memory, two orders. -/
inductive CM where
  | done
  | q (m : Nat) (c : CO) (r : CM)
  | e (c : CO) (r : CM)
  | f (c : CO) (r : CM)
  | alt (a b : CM)
inductive CC where
  | skip
  | ops (l : List CO)
  | draw (l : List CO)
  | mix (m : CM)
  | seq (a b : CC)
  | cond (c : XV) (a b : CC)
  | block (id : Nat) (c : CC)
  | loop (c : CC)
  | exit (id : Nat)
  | ret

/-! ### Compiling -/
def cV (G : GT) : Operand → Option XV
  | .tmp n => some (.t n)
  | .const v => (ofV v).map .k
  | .global g => (G g).map fun cs => .k (.rp cs)
  | .func f => some (.k (.fn (.func f) [] []))
def cVs (G : GT) : List Operand → Option (List XV)
  | [] => some []
  | x :: xs => match cV G x, cVs G xs with
    | some c, some cs => some (c :: cs)
    | _, _ => none
def cPs (G : GT) : List (Nat × Operand) → Option (List (Nat × XV))
  | [] => some []
  | (i, x) :: xs => match cV G x, cPs G xs with
    | some c, some cs => some ((i, c) :: cs)
    | _, _ => none
def placed (place : Nat → Option (Nat × Nat)) : List (Nat × XV) → Option (List (Nat × Nat × XV))
  | [] => some []
  | (i, x) :: r => match place i, placed place r with
    | some (off, z), some cs => some ((off, z, x) :: cs)
    | _, _ => none
def cVo (G : GT) : Option Operand → Option (Option XV)
  | none => some none
  | some x => (cV G x).map some
def partN (T : TT) (t : TypeId) : Option (Option Nat) :=
  match T t with
  | some ti => if ti.kd.agg then some (some ti.size) else some none
  | none => none
def cOp0 (T : TT) (G : GT) (op : Op) : Option X :=
  match op with
  | .move x | .assign x => (cV G x).map .mv
  | .pick c a b => match cV G c, cV G a, cV G b with
    | some c, some a, some b => some (.pick c a b)
    | _, _, _ => none
  | .build ty parts => match cPs G parts.toList with
    | some ps => match T ty with
      | some ti => match ti.kd with
        | .struct fs => match placesA T fs with
          | some pl => (placed (pl[·]?) ps).map (.mk ti.zero)
          | none => none
        | .arr _ e => match szOf T e with
          | some z => (placed (fun i => some (i * z, z)) ps).map (.mk ti.zero)
          | none => none
        | _ => none
      | none => none
    | none => none
  | .load ty a => match cV G a, partN T ty with
    | some c, some n => some (.ld n c)
    | _, _ => none
  | .nilCheck x => (cV G x).map .nilc
  | .binOp op xt x y _ => match cV G x, cV G y, T xt with
    | some a, some b, some ti => some (.bin op ti.kd (isC x || isC y) a b)
    | _, _, _ => none
  | .unOp op _ x => (cV G x).map (.un op)
  | .convert s d x => match cV G x, kdOf T s, kdOf T d with
    | some c, some (.int _), some (.int k) => some (.cvi k c)
    | some c, some (.int _), some .str => some (.cvs c)
    | some c, some .str, some .str => some (.strs c)
    | _, _, _ => none
  | .makeInterface ty x => match cV G x, kdOf T ty with
    | some _, some .iface => none
    | some c, some _ => some (.ifc ty c)
    | _, _ => none
  | .makeFunc f first cap => match cVs G first.toList, cVs G cap.toList with
    | some a, some b => some (.mkf f a b)
    | _, _ => none
  | .slice ty x lo hi mx => match cV G x, cVo G lo, cVo G hi, cVo G mx with
    | some c, some l, some h, some m => match kdOf T ty with
      | some .str => match m with
        | none => some (.slstr c l h)
        | some _ => none
      | some (.slice e) => (szOf T e).map fun z => .sls z c l h m
      | _ => none
    | _, _, _, _ => none
  | .fieldAddr ty x f => match cV G x, kdOf T ty with
    | some c, some (.struct fs) => match fs[f]? with
      | some (off, ft) => match szOf T ft with
        | some (_ + 1) => some (.fa off c)
        | _ => none
      | none => none
    | _, _ => none
  | .field ty x f => match cV G x, kdOf T ty with
    | some c, some (.struct fs) => match fs[f]? with
      | some (off, ft) => (partN T ft).map fun n => .fl off n c
      | none => none
    | _, _ => none
  | .indexAddr ty x i => match cV G x, cV G i, kdOf T ty with
    | some c, some d, some (.arr len e) => (szOf T e).map fun z => .ixa len z c d
    | some c, some d, some (.slice e) => (szOf T e).map fun z => .ixs z c d
    | _, _, _ => none
  | .index ty x i => match cV G x, cV G i, kdOf T ty with
    | some c, some d, some .str => some (.ixstr c d)
    | some c, some d, some (.arr len e) => match szOf T e, partN T e with
      | some z, some n => some (.ixarr len z n c d)
      | _, _ => none
    | _, _, _ => none
  | .extract x i => (cV G x).map fun c => .ex c i
  | .alloc ty => (T ty).map fun ti => .alloc ty ti.zero
  | .box ty x => (cV G x).map (.box ty)
  | .buildSlice ty len parts => match cPs G parts.toList, kdOf T ty with
    | some ps, some (.slice e) => match T e with
      | some ti => if len * ti.size ≤ 16777216 ∧ 0 < ti.size ∧ ti.zero.all AV.one = true then some (.mks e ti.size ti.zero len ps) else none
      | none => none
    | _, _ => none
  | .store ty a x => match cV G a, cV G x, szOf T ty with
    | some c, some d, some n => some (.st n c d)
    | _, _, _ => none
  | .call c => match c.callee with
    | .value f => match cV G f, cVs G c.args.toList with
      | some f, some as => some (.call f as)
      | _, _ => none
    | .builtin .len => match c.args.toList, c.argTypes.toList with
      | [x], ty :: _ => match cV G x, kdOf T ty with
        | some c, some .str => some (.lens c)
        | some c, some (.slice _) => some (.lenl c)
        | some c, some (.arr n _) => some (.lenarr n c)
        | _, _ => none
      | _, _ => none
    | .builtin .append => match c.args.toList, c.argTypes.toList with
      | [s, x], [ts, tx] => match cV G s, cV G x, kdOf T ts, kdOf T tx with
        | some a, some b, some (.slice e), some k => if k.src then match T e with
          | some ti => if 0 < ti.size ∧ 0 < ti.bytes then some (.app e ti.size ti.bytes a b) else none
          | none => none else none
        | _, _, _, _ => none
      | _, _ => none
    | _ => none
  | _ => none
def cOp (T : TT) (G : GT) (op : Op) : Option X :=
  match moreOf T op with
  | some (m, xs) => (cVs G xs).map (.more m)
  | none => cOp0 T G op
def cGuard (ops : Array Oper) : Option (Nat × Bool) → Option (Option (Nat × Bool))
  | none => some none
  | some (j, want) => match (ops[j]?).bind (·.dst) with
    | some d => some (some (d, want))
    | none => none
def dstIn (N : Nat) : Option Nat → Bool
  | none => true
  | some d => decide (d < N)
def cOps (T : TT) (G : GT) (N : Nat) (ops : Array Oper) : List Oper → Option (List CO)
  | [] => some []
  | o :: r => match cOp T G o.op, cGuard ops o.guard, cOps T G N ops r with
    | some x, some g, some cs => if dstIn N o.dst then some (⟨o.dst, g, x⟩ :: cs) else none
    | _, _, _ => none
/-- The short form of an operation that turns no memory. -/
def X.pure : X → Bool
  | .call _ _ | .more _ _ | .st _ _ _ | .alloc _ _ | .box _ _ | .mks _ _ _ _ _ | .app _ _ _ _ _ => false
  | _ => true
/-- One that gives the same in each state. -/
def X.fixed : X → Bool
  | .ld _ _ | .nilc _ | .sls _ _ _ _ _ | .fa _ _ | .ixs _ _ _ => false
  | x => x.pure
def coAt (T : TT) (G : GT) (N : Nat) (ops : Array Oper) (i : Nat) : Option CO :=
  match ops[i]? with
  | some o => match cOp T G o.op, cGuard ops o.guard with
    | some x, some g => if dstIn N o.dst then some ⟨o.dst, g, x⟩ else none
    | _, _ => none
  | none => none
def quietAt (T : TT) (G : GT) (N : Nat) (ops : Array Oper) (listed : Array Bool) (i : Nat) : Bool :=
  (match coAt T G N ops i with
  | some c => c.x.pure
  | none => false) && Region.free .any ops listed i
/-- What an operation waits for, through others, too. -/
def ancs (ops : Array Oper) : Nat → List Nat → List Nat
  | 0, s => s
  | k + 1, s => ancs ops k (if s.contains k then (match ops[k]? with
    | some o => (o.after.toList.filter (Region.binds .any)).map (·.on)
    | none => []) ++ s else s)
/-- One that gives the same whenever it is asked. -/
def fixedAt (T : TT) (G : GT) (N : Nat) (ops : Array Oper) (p : Nat) : Bool := match coAt T G N ops p with
  | some c => c.x.fixed
  | none => false
/-- One that turns memory and waits for all that has come up, but for what gives the same whenever it is asked. -/
def lastB (T : TT) (G : GT) (N : Nat) (ops : Array Oper) (listed : Array Bool) (i : Nat) : Bool :=
  (match coAt T G N ops i with
  | some c => !c.x.pure
  | none => false) && ((fun s => (List.range ops.size).all fun p => !(listed.getD p true) || s.contains p || fixedAt T G N ops p) (ancs ops ops.size [i]))
def efX (b : Bool) (c : CO) (r : CM) : CM := if b then .f c r else .e c r
/-- These, each first. -/
def altAll (T : TT) (G : GT) (N : Nat) (ops : Array Oper) (f : Array Bool → Option CM) (listed : Array Bool) : List Nat → Option CM
  | [] => none
  | i :: is => match coAt T G N ops i, f (listed.setIfInBounds i true) with
    | some c, some r => match is with
      | [] => some (efX (lastB T G N ops listed i) c r)
      | _ => match altAll T G N ops f listed is with
        | some b => some (.alt (efX (lastB T G N ops listed i) c r) b)
        | none => none
    | _, _ => none
/-- A region whose order is drawn: what turns nothing as early as may be, the others in each order. -/
def cMix (T : TT) (G : GT) (N : Nat) (ops : Array Oper) : Nat → Array Bool → Option CM
  | 0, listed => match Region.ready .any ops listed with
    | [] => some .done
    | _ => none
  | fuel + 1, listed => match Region.ready .any ops listed with
    | [] => some .done
    | r :: rs => match (r :: rs).find? (quietAt T G N ops listed) with
      | some i => match coAt T G N ops i, cMix T G N ops fuel (listed.setIfInBounds i true) with
        | some c, some l => some (.q (if c.x.fixed then 0 else 1) c l)
        | _, _ => none
      | none => altAll T G N ops (cMix T G N ops fuel) listed (r :: rs)
def cDraw (T : TT) (G : GT) (N : Nat) (ops : Array Oper) : Option CC :=
  match cOps T G N ops ops.toList with
  | some l => if Region.lexB .any ops && l.all (fun c => c.x.pure) then some (.draw l) else (cMix T G N ops ops.size (Array.replicate ops.size false)).map .mix
  | none => none
def cCode (T : TT) (G : GT) (N : Nat) : Code → Option CC
  | .skip => some .skip
  | .region _ ops draw => if draw then cDraw T G N ops else (cOps T G N ops ops.toList).map .ops
  | .seq a b => match cCode T G N a, cCode T G N b with
    | some x, some y => some (.seq x y)
    | _, _ => none
  | .cond c a b => match cV G c, cCode T G N a, cCode T G N b with
    | some v, some x, some y => some (.cond v x y)
    | _, _, _ => none
  | .block id c => (cCode T G N c).map (.block id)
  | .loop c => (cCode T G N c).map .loop
  | .exit id => some (.exit id)
  | .ret => some .ret
  | _ => none

/-! ### Running the short form -/
abbrev Env := Nat → Option AV
/-- What a list of temporaries holds. -/
def E (t : List AV) : Env := fun n => t[n]?
def put (e : Env) (d : Nat) (c : AV) : Env := fun n => if n = d then some c else e n
def putE (e : Env) : Option Nat → AV → Env
  | some d, c => put e d c
  | none, _ => e
abbrev EQ := Exit → Env → St → Prop
def thenE (R : Env → St → Prop) (Q : EQ) : EQ := fun e t σ => match e with
  | .normal => R t σ
  | e => Q e t σ
def blockE (id : Nat) (Q : EQ) : EQ := fun e t σ => match e with
  | .exit id' => if id' = id then Q .normal t σ else Q (.exit id') t σ
  | e => Q e t σ
def Env.le (e f : Env) : Prop := ∀ n c, e n = some c → f n = some c
def liftK (N : Nat) (K : Env → St → Prop) (t : List AV) (σ : St) : Prop := ∃ e, Env.le e (E t) ∧ N ≤ t.length ∧ K e σ
def liftQ (N : Nat) (Q : EQ) : AQ := fun x => liftK N (Q x)
def xv (t : Env) : XV → Option AV
  | .t n => t n
  | .k c => some c
def xvs (t : Env) : List XV → Option (List AV)
  | [] => some []
  | x :: xs => match xv t x, xvs t xs with
    | some c, some cs => some (c :: cs)
    | _, _ => none
def xvo (t : Env) : Option XV → Option (Option AV)
  | none => some none
  | some x => (xv t x).map some
def xps (t : Env) : List (Nat × XV) → Option (List (Nat × AV))
  | [] => some []
  | (i, x) :: xs => match xv t x, xps t xs with
    | some c, some cs => some ((i, c) :: cs)
    | _, _ => none
def fillX (t : Env) : List AV → List (Nat × Nat × XV) → Option (List AV)
  | cells, [] => some cells
  | cells, (off, z, x) :: r => match xv t x with
    | some c => if (cellsA c).length = z ∧ off + z ≤ cells.length then fillX t (setL cells off (cellsA c)) r else none
    | none => none
def ldX (n : Option Nat) (σ : St) (p : AV) : Option AV :=
  match n with
  | some n => (ldAt σ p n).map .agg
  | none => match ldAt σ p 1 with
    | some [c] => some c
    | _ => none
def stX (n : Nat) (σ : St) (p c : AV) : Option St := if (cellsA c).length = n ∧ (cellsA c).all AV.one = true then stAt σ p (cellsA c) else none
def partX (n : Option Nat) (cs : List AV) (off : Nat) : Option AV :=
  match n with
  | some n => if off + n ≤ cs.length then some (.agg ((cs.drop off).take n)) else none
  | none => cs[off]?
def binX (op : BinOp) (kd : Kd) (c : Bool) (x y : AV) : Option AV :=
  match x, y with
  | .int k a, .int k' b => if shOp op then shiftI op k a b else if k = k' then binI op k a b else none
  | .str a, .str b => binS op a b
  | .bool a, .bool b => match kd with
    | .bool => binB op a b
    | _ => none
  | x, y => binN op x y kd c
def cviX (k : IntKind) : AV → Option AV
  | .int _ n => some (.int k (k.wrap n))
  | _ => none
def cvsX : AV → Option AV
  | .int _ n => some (.str (Utf8.encode n).data.toList)
  | _ => none
def slstrX (x : AV) (lo hi : Option AV) : Option AV :=
  match x with
  | .str s => match bnd hi s.length s.length with
    | some h => match bnd lo h 0 with
      | some l => some (.str ((s.drop l).take (h - l)))
      | none => none
    | none => none
  | _ => none
def slsX (z : Nat) (σ : St) (x : AV) (lo hi mx : Option AV) : Option AV :=
  match x, mx with
  | .sl els, none => match bnd hi els.length els.length with
    | some h => match bnd lo h 0 with
      | some l => if els.all (fun c => c.length == z) then some (.sl ((els.drop l).take (h - l))) else none
      | none => none
    | none => none
  | .sl _, some (.int _ 0) => match bnd hi 0 0, bnd lo 0 0 with
    | some 0, some 0 => if hi.isSome then some .ez else none
    | _, _ => none
  | .os r off n, none => if liveA σ (.os r off n) then match bnd hi n n with
    | some h => match bnd lo h 0 with
      | some l => if l = 0 then some (.os r off h) else if l < n ∧ rowEsz σ r = some z then some (.os r (off + l) (h - l)) else if l = n ∧ h = n then some (.sl []) else none
      | none => none
    | none => none else none
  | .nils, _ => match bnd hi 0 0, bnd lo 0 0, bnd mx 0 0 with
    | some 0, some 0, some 0 => if mx.isSome && !hi.isSome then none else some .nils
    | _, _, _ => none
  | _, _ => none
def faX (off : Nat) (σ : St) (x : AV) : Option AV :=
  match x with
  | .vp b o => some (.vp b (o + off))
  | .rp cs => some (.rp (cs.drop off))
  | .op r i k => if liveA σ (.op r i k) then some (.op r i (k + off)) else none
  | _ => none
def flX (off : Nat) (n : Option Nat) (x : AV) : Option AV :=
  match x with
  | .agg cs => partX n cs off
  | _ => none
def ixaX (len z : Nat) (x i : AV) : Option AV :=
  match x, i with
  | .vp b o, .int _ n => if 0 ≤ n ∧ n < len then some (.vp b (o + n.toNat * z)) else none
  | _, _ => none
def ixsX (z : Nat) (σ : St) (x i : AV) : Option AV :=
  match x, i with
  | .sl els, .int _ n => if 0 ≤ n then match els[n.toNat]? with
    | some c => if c.length = z then some (.rp c) else none
    | none => none else none
  | .os r off m, .int _ n => if 0 ≤ n ∧ n < m then
    match σ.rows[r]? with
    | some (some row) => if row.esz = z then some (.op r (off + n.toNat) 0) else none
    | _ => none else none
  | _, _ => none
def ixstrX (x i : AV) : Option AV :=
  match x, i with
  | .str s, .int _ n => if 0 ≤ n then (s[n.toNat]?).map fun b => .int .u8 b.toNat else none
  | _, _ => none
def ixarrX (len z : Nat) (n : Option Nat) (x i : AV) : Option AV :=
  match x, i with
  | .agg cs, .int _ j => if 0 ≤ j ∧ j < len then partX n cs (j.toNat * z) else none
  | _, _ => none
def lensX : AV → Option AV
  | .str s => some (.int .i64 s.length)
  | _ => none
def strsX : AV → Option AV
  | .str s => some (.str s)
  | _ => none
def lenlX : AV → Option AV
  | .sl els => some (.int .i64 els.length)
  | .nils => some (.int .i64 0)
  | .ez => some (.int .i64 0)
  | .os _ _ n => some (.int .i64 n)
  | _ => none
def mksX (e : TypeId) (z : Nat) (zero : List AV) (len : Nat) (σ : St) (ps : List (Nat × AV)) : Option (AV × St) :=
  match fillE z (List.replicate len zero) ps with
  | some els => some (.os σ.rows.length 0 len, σ.pushR ⟨e, z, 0, els⟩)
  | none => none
def appX (e : TypeId) (z bytes : Nat) (σ : St) (s x : AV) : Option (AV × St) :=
  match elsA σ x with
  | some ys => if ys.all (fun c => c.length == z) && ys.all (fun c => c.all AV.one) then
      match s with
      | .nils => if ys = [] then some (.nils, σ) else
        if ys.length * bytes ≤ 140737488355328 then some (.os σ.rows.length 0 ys.length, σ.pushR ⟨e, z, 0, ys⟩) else none
      | .ez => if ys = [] then some (.ez, σ) else
        if ys.length * bytes ≤ 140737488355328 then some (.os σ.rows.length 0 ys.length, σ.pushR ⟨e, z, 0, ys⟩) else none
      | .sl els => if ys = [] then some (.sl els, σ) else none
      | .os r off n => match σ.rows[r]? with
        | some (some row) => if off + n ≤ row.els.length ∧ row.fz ≤ off + n ∧ row.esz = z ∧ row.ety = e ∧ (n + ys.length) * bytes ≤ 140737488355328 then
            some (.os σ.rows.length 0 (n + ys.length), (σ.setR r none).pushR ⟨e, z, row.fz - off, (row.els.drop off).take n ++ ys⟩) else none
        | _ => none
      | _ => none
    else none
  | none => none

/-- The value, and what follows; nothing follows of none. -/
def optK {α : Type} (x : Option α) (K : α → Prop) : Prop :=
  match x with
  | some r => K r
  | none => False
def pairK (x : Option (AV × St)) (K : AV → St → Prop) : Prop :=
  match x with
  | some (r, σ') => K r σ'
  | none => False
/-- A fork: the walk looks at its question first, and at a way only when that is answered. -/
def brk (b : Bool) (A B : Prop) : Prop := if b = true then A else B
theorem pairK_if {c : Prop} [Decidable c] (x : Option (AV × St)) (K : AV → St → Prop) : pairK (if c then x else none) K = (c ∧ pairK x K) := by
  by_cases h : c
  · rw [if_pos h]; simp [h]
  · rw [if_neg h]; simp [h, pairK]
/-- An operation that turns nothing. -/
def xP (t : Env) (σ : St) : X → Option AV
  | .mv x => xv t x
  | .pick c a b => (xv t c).bind fun v => match v with
    | .bool true => xv t a
    | .bool false => xv t b
    | _ => none
  | .mk zero ps => (fillX t zero ps).map .agg
  | .ld n a => (xv t a).bind (ldX n σ)
  | .nilc x => (xv t x).bind (nilA σ)
  | .bin op kd c x y => (xv t x).bind fun a => (xv t y).bind fun b => binX op kd c a b
  | .un op x => (xv t x).bind (unA op)
  | .cvi k x => (xv t x).bind (cviX k)
  | .cvs x => (xv t x).bind cvsX
  | .ifc ty x => (xv t x).map (.ifc ty)
  | .mkf f a b => (xvs t a).bind fun c => (xvs t b).map fun d => .fn f c d
  | .sls z x lo hi mx => (xv t x).bind fun c => (xvo t lo).bind fun l => (xvo t hi).bind fun h => (xvo t mx).bind fun m => slsX z σ c l h m
  | .slstr x lo hi => (xv t x).bind fun c => (xvo t lo).bind fun l => (xvo t hi).bind fun h => slstrX c l h
  | .fa off x => (xv t x).bind (faX off σ)
  | .fl off n x => (xv t x).bind (flX off n)
  | .ixa len z x i => (xv t x).bind fun a => (xv t i).bind fun b => ixaX len z a b
  | .ixs z x i => (xv t x).bind fun a => (xv t i).bind fun b => ixsX z σ a b
  | .ixstr x i => (xv t x).bind fun a => (xv t i).bind fun b => ixstrX a b
  | .ixarr len z n x i => (xv t x).bind fun a => (xv t i).bind fun b => ixarrX len z n a b
  | .ex x i => (xv t x).bind fun a => extrA a i
  | .lens x => (xv t x).bind lensX
  | .lenl x => (xv t x).bind lenlX
  | .lenarr n x => (xv t x).map fun _ => .int .i64 n
  | .strs x => (xv t x).bind strsX
  | _ => none
/-- An operation, and what follows. -/
def aX (P : Program) (G : GT) (t : Env) (σ : St) (K : AV → St → Prop) : X → Prop
  | .call f args => optK (xv t f) fun v => optK (xvs t args) fun as => match v with
    | .fn (.func g) first cap => ACalls P G g (first ++ as ++ cap) σ K
    | _ => False
  | .st n a x => optK (xv t a) fun p => optK (xv t x) fun c => optK (stX n σ p c) fun σ' => K undefA σ'
  | .more m args => optK (xvs t args) fun as => pairK (moreX m σ as) K
  | .alloc ty zero => K (.vp σ.vars.length 0) (σ.pushV (.cells ty zero))
  | .box ty x => optK (xv t x) fun c => K (.vp σ.vars.length 0) (σ.pushV (.cells ty (cellsA c)))
  | .mks e z zero len ps => optK (xps t ps) fun qs => pairK (mksX e z zero len σ qs) K
  | .app e z bytes s x => optK (xv t s) fun a => optK (xv t x) fun b => pairK (appX e z bytes σ a b) K
  | .pick c a b => optK (xv t c) fun v => match v with
    | .bool q => brk q (optK (xv t a) fun r => K r σ) (optK (xv t b) fun r => K r σ)
    | _ => False
  | x => optK (xP t σ x) fun r => K r σ
/-- Under a guard the walk needs its answer. -/
def guardX (e : Env) (g : Option (Nat × Bool)) (A B : Prop) : Prop :=
  match g with
  | none => A
  | some (d, w) => match e d with
    | some (.bool b) => brk (b == w) A B
    | some _ => B
    | none => False
def aL (P : Program) (G : GT) (K : Env → St → Prop) : List CO → Env → St → Prop
  | [], t, σ => K t σ
  | o :: r, t, σ => guardX t o.g (aX P G t σ (fun c σ' => aL P G K r (putE t o.dst c) σ') o.x) (aL P G K r (putE t o.dst undefA) σ)
def aS (K : Env → St → Prop) (σ : St) : List CO → Env → Prop
  | [], t => K t σ
  | o :: r, t => guardX t o.g (optK (xP t σ o.x) (fun c => aS K σ r (putE t o.dst c))) (aS K σ r (putE t o.dst undefA))
/-- S, and this gives that. -/
def pin (S : St → Prop) (t : Env) (x : X) (c : AV) (σ : St) : Prop := S σ ∧ xP t σ x = some c
def topS (_ : St) : Prop := True
def aH (P : Program) (G : GT) (K : Env → St → Prop) : CM → (St → Prop) → Env → St → Prop
  | .done, _ => K
  | .q 0 o r, S => fun t σ => guardX t o.g (optK (xP t σ o.x) (fun c => aH P G K r S (putE t o.dst c) σ)) (aH P G K r S (putE t o.dst undefA) σ)
  | .q (_ + 1) o r, S => fun t σ => guardX t o.g (optK (xP t σ o.x) (fun c => aH P G K r (pin S t o.x c) (putE t o.dst c) σ)) (aH P G K r S (putE t o.dst undefA) σ)
  | .e o r, S => fun t σ => guardX t o.g (aX P G t σ (fun c σ' => S σ' ∧ aH P G K r S (putE t o.dst c) σ') o.x) (aH P G K r S (putE t o.dst undefA) σ)
  | .f o r, S => fun t σ => guardX t o.g (aX P G t σ (fun c σ' => aH P G K r topS (putE t o.dst c) σ') o.x) (aH P G K r S (putE t o.dst undefA) σ)
  | .alt a b, S => fun t σ => aH P G K a S t σ ∧ aH P G K b S t σ
/-- At the head of a round. -/
def LoopC (P : Program) (T : TT) (G : GT) (c : CC) (Q : EQ) (e : Env) (σ : St) : Prop := ∀ N code, cCode T G N code = some c → ∀ t, Env.le e (E t) → N ≤ t.length → AWPL P G code (liftQ N Q) t σ
def aC (P : Program) (T : TT) (G : GT) : CC → EQ → Env → St → Prop
  | .skip, Q => Q .normal
  | .ops l, Q => aL P G (Q .normal) l
  | .draw l, Q => fun t σ => aS (Q .normal) σ l t
  | .mix m, Q => aH P G (Q .normal) m topS
  | .seq x y, Q => aC P T G x (thenE (aC P T G y Q) Q)
  | .cond c x y, Q => fun t σ => optK (xv t c) fun v => match v with
    | .bool b => brk b (aC P T G x Q t σ) (aC P T G y Q t σ)
    | _ => False
  | .block id c, Q => aC P T G c (blockE id Q)
  | .loop c, Q => LoopC P T G c Q
  | .exit id, Q => Q (.exit id)
  | .ret, Q => Q .ret

end Go.Ab
namespace Go.Ab
open Go Go.RowKit

section
variable {P : Program} {T : TT} {G : GT} {t : List AV} {σ : St}
theorem cV_ev {x : Operand} {c : XV} (h : cV G x = some c) : ev G t x = xv (E t) c := by
  cases x with
  | tmp n => cases h; rfl
  | const v =>
    simp only [cV] at h
    cases hq : ofV v with
    | none => rw [hq] at h; cases h
    | some d => rw [hq] at h; cases h; simp only [ev, hq, xv]
  | global g =>
    simp only [cV] at h
    cases hq : G g with
    | none => rw [hq] at h; cases h
    | some d => rw [hq] at h; cases h; simp only [ev, hq, xv, Option.map_some]
  | func f => cases h; rfl
theorem cVs_evs : ∀ {xs : List Operand} {cs : List XV}, cVs G xs = some cs → evs G t xs = xvs (E t) cs
  | [], cs, h => by cases h; rfl
  | x :: xs, cs, h => by
    simp only [cVs] at h
    split at h
    · rename_i c ds h1 h2
      cases h
      simp only [evs, xvs, cV_ev h1, cVs_evs h2]
      cases xv (E t) c <;> cases xvs (E t) ds <;> rfl
    · cases h
theorem cPs_evps : ∀ {xs : List (Nat × Operand)} {cs : List (Nat × XV)}, cPs G xs = some cs → evps G t xs = xps (E t) cs
  | [], cs, h => by cases h; rfl
  | (i, x) :: xs, cs, h => by
    simp only [cPs] at h
    split at h
    · rename_i c ds h1 h2
      cases h
      simp only [evps, xps, cV_ev h1, cPs_evps h2]
      cases xv (E t) c <;> cases xps (E t) ds <;> rfl
    · cases h
theorem cVo_evo {x : Option Operand} {c : Option XV} (h : cVo G x = some c) : evo G t x = xvo (E t) c := by
  cases x with
  | none => cases h; rfl
  | some x =>
    simp only [cVo] at h
    cases hq : cV G x with
    | none => rw [hq] at h; cases h
    | some d => rw [hq] at h; cases h; simp only [evo, xvo, cV_ev hq]

theorem partN_ld {ty : TypeId} {n : Option Nat} {p : AV} (h : partN T ty = some n) : loadA T σ ty p = ldX n σ p := by
  unfold partN at h
  unfold loadA ldX
  split at h
  · rename_i ti hti
    rw [hti]
    split at h <;> cases h <;> simp only [*] <;> simp
    rfl
  · cases h
theorem partN_part {ty : TypeId} {n : Option Nat} {cs : List AV} {off : Nat} (h : partN T ty = some n) : partA T ty cs off = partX n cs off := by
  unfold partN at h
  unfold partA partX
  split at h
  · rename_i ti hti
    rw [hti]
    split at h <;> cases h <;> simp only [*] <;> simp
  · cases h
theorem fill_placed {place : Nat → Option (Nat × Nat)} : ∀ {ps : List (Nat × XV)} {qs : List (Nat × Nat × XV)} {vs : List (Nat × AV)} {zero : List AV}, placed place ps = some qs → xps (E t) ps = some vs → fillA place zero vs = fillX (E t) zero qs
  | [], qs, vs, zero, h, hv => by cases h; cases hv; rfl
  | (i, x) :: ps, qs, vs, zero, h, hv => by
    simp only [placed] at h
    split at h
    · rename_i off z ds h1 h2
      cases h
      simp only [xps] at hv
      split at hv
      · rename_i c us h3 h4
        cases hv
        simp only [fillA, h1, fillX, h3]
        split
        · exact fill_placed h2 h4
        · rfl
      · cases hv
    · cases h
theorem fillX_xps : ∀ {place : Nat → Option (Nat × Nat)} {ps : List (Nat × XV)} {qs : List (Nat × Nat × XV)} {zero r : List AV}, placed place ps = some qs → fillX (E t) zero qs = some r → ∃ vs, xps (E t) ps = some vs
  | _, [], qs, zero, r, h, hv => ⟨[], rfl⟩
  | place, (i, x) :: ps, qs, zero, r, h, hv => by
    simp only [placed] at h
    split at h
    · rename_i off z ds h1 h2
      cases h
      simp only [fillX] at hv
      split at hv
      · rename_i c h3
        split at hv
        · obtain ⟨vs, hvs⟩ := fillX_xps h2 hv
          exact ⟨_, by simp only [xps, h3, hvs]; rfl⟩
        · cases hv
      · cases hv
    · cases h

theorem binA_binX {op : BinOp} {xt : TypeId} {ti : TI} {cx cy : Bool} {x y : AV} (h : T xt = some ti) : binA T op xt cx cy x y = binX op ti.kd (cx || cy) x y := by
  unfold binA binX
  rw [h]
  cases x <;> cases y <;> rfl
theorem map_some {α β : Type} {x : Option α} {f : α → β} {y : β} (h : x.map f = some y) : ∃ z, x = some z ∧ f z = y := by
  cases x with
  | none => cases h
  | some z => cases h; exact ⟨z, rfl, rfl⟩
theorem bind_some {α β : Type} {x : Option α} {f : α → Option β} {y : β} (h : x.bind f = some y) : ∃ z, x = some z ∧ f z = some y := by
  cases x with
  | none => cases h
  | some z => exact ⟨z, rfl, h⟩

theorem opP_of_xP {op : Op} {x : X} {r : AV} (h : cOp T G op = some x) (hr : xP (E t) σ x = some r) : opP T G t σ op = some r := by
  unfold cOp at h
  split at h
  · obtain ⟨_, _, rfl⟩ := map_some h; cases hr
  unfold cOp0 at h
  split at h
  case h_1 => -- move
    obtain ⟨c, hc, rfl⟩ := map_some h
    simp only [opP, cV_ev hc]; exact hr
  case h_2 =>
    obtain ⟨c, hc, rfl⟩ := map_some h
    simp only [opP, cV_ev hc]; exact hr
  case h_3 => -- pick
    split at h
    · rename_i h1 h2 h3
      cases h
      obtain ⟨v, hv, hr⟩ := bind_some hr
      simp only [opP, cV_ev h1, cV_ev h2, cV_ev h3, hv]
      split at hr
      · exact hr
      · exact hr
      · cases hr
    · cases h
  case h_4 => -- build
    split at h
    · rename_i ps hps
      split at h
      · rename_i ti hti
        split at h
        · rename_i fs hk
          split at h
          · rename_i pl hpl
            obtain ⟨qs, hq, rfl⟩ := map_some h
            obtain ⟨cs, hcs, rfl⟩ := map_some hr
            obtain ⟨vs, hvs⟩ := fillX_xps hq hcs
            simp only [opP, cPs_evps hps, hvs, buildA, hti, hk, hpl, fill_placed hq hvs, hcs, Option.map_some]
          · cases h
        · rename_i n e hk
          split at h
          · rename_i z hz
            obtain ⟨qs, hq, rfl⟩ := map_some h
            obtain ⟨cs, hcs, rfl⟩ := map_some hr
            obtain ⟨vs, hvs⟩ := fillX_xps hq hcs
            simp only [opP, cPs_evps hps, hvs, buildA, hti, hk, hz, fill_placed hq hvs, hcs, Option.map_some]
          · cases h
        · cases h
      · cases h
    · cases h
  case h_5 => -- load
    split at h
    · rename_i c n hc hn
      cases h
      obtain ⟨v, hv, hr⟩ := bind_some hr
      simp only [opP, cV_ev hc, hv, partN_ld hn]; exact hr
    · cases h
  case h_6 => -- nilCheck
    obtain ⟨c, hc, rfl⟩ := map_some h
    obtain ⟨v, hv, hr⟩ := bind_some hr
    simp only [opP, cV_ev hc, hv]; exact hr
  case h_7 => -- binOp
    split at h
    · rename_i a b ti ha hb hti
      cases h
      obtain ⟨v, hv, hr⟩ := bind_some hr
      obtain ⟨u, hu, hr⟩ := bind_some hr
      simp only [opP, cV_ev ha, cV_ev hb, hv, hu]
      rw [binA_binX hti]; exact hr
    · cases h
  case h_8 => -- unOp
    obtain ⟨c, hc, rfl⟩ := map_some h
    obtain ⟨v, hv, hr⟩ := bind_some hr
    simp only [opP, cV_ev hc, hv]; exact hr
  case h_9 => -- convert
    split at h
    · rename_i c k0 k hc h1 h2
      cases h
      obtain ⟨v, hv, hr⟩ := bind_some hr
      simp only [opP, cV_ev hc, hv, cvtA, h1, h2]
      unfold cviX at hr
      split at hr
      · exact hr
      · cases hr
    · rename_i c k0 hc h1 h2
      cases h
      obtain ⟨v, hv, hr⟩ := bind_some hr
      simp only [opP, cV_ev hc, hv, cvtA, h1, h2]
      unfold cvsX at hr
      split at hr
      · exact hr
      · cases hr
    · rename_i c hc h1 h2
      cases h
      obtain ⟨v, hv, hr⟩ := bind_some hr
      simp only [opP, cV_ev hc, hv, cvtA, h1, h2]
      unfold strsX at hr
      split at hr
      · exact hr
      · cases hr
    · cases h
  case h_10 => -- makeInterface
    split at h
    · cases h
    · rename_i c k hne hc hk
      cases h
      obtain ⟨v, hv, rfl⟩ := map_some hr
      simp only [opP, cV_ev hc, hv, ifcA, hk]
    · cases h
  case h_11 => -- makeFunc
    split at h
    · rename_i a b ha hb
      cases h
      obtain ⟨v, hv, hr⟩ := bind_some hr
      obtain ⟨u, hu, rfl⟩ := map_some hr
      simp only [opP, cVs_evs ha, cVs_evs hb, hv, hu]
    · cases h
  case h_12 => -- slice
    split at h
    · rename_i c l hh m hc hl hhh hm
      split at h
      · rename_i hk
        split at h
        · cases h
          obtain ⟨v, hv, hr⟩ := bind_some hr
          obtain ⟨lv, hlv, hr⟩ := bind_some hr
          obtain ⟨hv', hhv, hr⟩ := bind_some hr
          have hmx := cVo_evo (t := t) hm
          simp only [xvo] at hmx
          simp only [opP, cV_ev hc, cVo_evo hl, cVo_evo hhh, hmx, hv, hlv, hhv]
          unfold slstrX at hr
          split at hr
          · rename_i s
            simp only [liveA, if_true, sliceA, hk]; exact hr
          · cases hr
        · cases h
      · rename_i e hk
        obtain ⟨z, hz, rfl⟩ := map_some h
        obtain ⟨v, hv, hr⟩ := bind_some hr
        obtain ⟨lv, hlv, hr⟩ := bind_some hr
        obtain ⟨hv', hhv, hr⟩ := bind_some hr
        obtain ⟨mv, hmv, hr⟩ := bind_some hr
        simp only [opP, cV_ev hc, cVo_evo hl, cVo_evo hhh, cVo_evo hm, hv, hlv, hhv, hmv]
        unfold slsX at hr
        split at hr
        · simp only [liveA, if_true, sliceA, hk, hz]; exact hr
        · simp only [liveA, if_true, sliceA, hk, hz]; exact hr
        · split at hr
          · rename_i hlive
            rw [if_pos hlive]
            simp only [sliceA, hk, hz]; exact hr
          · cases hr
        · simp only [liveA, if_true, sliceA, hk, hz]; exact hr
        · cases hr
      · cases h
    · cases h
  case h_13 => -- fieldAddr
    split at h
    · rename_i c fs hc hk
      split at h
      · rename_i off ft hf
        split at h
        · rename_i n hz
          cases h
          obtain ⟨v, hv, hr⟩ := bind_some hr
          simp only [opP, cV_ev hc, hv]
          unfold faX at hr
          split at hr
          · simp only [liveA, if_true, fieldAddrA, hk, hf, hz]; exact hr
          · simp only [liveA, if_true, fieldAddrA, hk, hf, hz]; exact hr
          · split at hr
            · rename_i hlive
              rw [if_pos hlive]
              simp only [fieldAddrA, hk, hf, hz]; exact hr
            · cases hr
          · cases hr
        · cases h
      · cases h
    · cases h
  case h_14 => -- field
    split at h
    · rename_i c fs hc hk
      split at h
      · rename_i off ft hf
        obtain ⟨n, hn, rfl⟩ := map_some h
        obtain ⟨v, hv, hr⟩ := bind_some hr
        simp only [opP, cV_ev hc, hv]
        unfold flX at hr
        split at hr
        · simp only [fieldA, hk, hf, partN_part hn]; exact hr
        · cases hr
      · cases h
    · cases h
  case h_15 => -- indexAddr
    split at h
    · rename_i c d len e hc hd hk
      obtain ⟨z, hz, rfl⟩ := map_some h
      obtain ⟨v, hv, hr⟩ := bind_some hr
      obtain ⟨u, hu, hr⟩ := bind_some hr
      simp only [opP, cV_ev hc, cV_ev hd, hv, hu]
      unfold ixaX at hr
      split at hr
      · simp only [indexAddrA, hk, hz]; exact hr
      · cases hr
    · rename_i c d e hc hd hk
      obtain ⟨z, hz, rfl⟩ := map_some h
      obtain ⟨v, hv, hr⟩ := bind_some hr
      obtain ⟨u, hu, hr⟩ := bind_some hr
      simp only [opP, cV_ev hc, cV_ev hd, hv, hu]
      unfold ixsX at hr
      split at hr
      · simp only [indexAddrA, hk, hz]; exact hr
      · simp only [indexAddrA, hk, hz]; exact hr
      · cases hr
    · cases h
  case h_16 => -- index
    split at h
    · rename_i c d hc hd hk
      cases h
      obtain ⟨v, hv, hr⟩ := bind_some hr
      obtain ⟨u, hu, hr⟩ := bind_some hr
      simp only [opP, cV_ev hc, cV_ev hd, hv, hu]
      unfold ixstrX at hr
      split at hr
      · simp only [indexA, hk]; exact hr
      · cases hr
    · rename_i c d len e hc hd hk
      split at h
      · rename_i z n hz hn
        cases h
        obtain ⟨v, hv, hr⟩ := bind_some hr
        obtain ⟨u, hu, hr⟩ := bind_some hr
        simp only [opP, cV_ev hc, cV_ev hd, hv, hu]
        unfold ixarrX at hr
        split at hr
        · simp only [indexA, hk, hz, partN_part hn]; exact hr
        · cases hr
      · cases h
    · cases h
  case h_17 => -- extract
    obtain ⟨c, hc, rfl⟩ := map_some h
    obtain ⟨v, hv, hr⟩ := bind_some hr
    simp only [opP, cV_ev hc, hv]; exact hr
  case h_18 => obtain ⟨c, hc, rfl⟩ := map_some h; cases hr
  case h_19 => obtain ⟨c, hc, rfl⟩ := map_some h; cases hr
  case h_20 =>
    split at h
    · split at h
      · split at h
        · cases h; cases hr
        · cases h
      · cases h
    · cases h
  case h_21 =>
    split at h
    · cases h; cases hr
    · cases h
  case h_22 => -- call
    rename_i c
    split at h
    · split at h
      · cases h; cases hr
      · cases h
    · rename_i hcal
      split at h
      · rename_i y ty tys hargs htys
        split at h
        · rename_i d hd hk
          cases h
          obtain ⟨v, hv, hr⟩ := bind_some hr
          simp only [opP, hcal, hargs, htys, cV_ev hd, hv]
          unfold lensX at hr
          split at hr
          · simp only [lenA, hk]; exact hr
          · cases hr
        · rename_i d e hd hk
          cases h
          obtain ⟨v, hv, hr⟩ := bind_some hr
          simp only [opP, hcal, hargs, htys, cV_ev hd, hv]
          unfold lenlX at hr
          split at hr <;> first | (simp only [lenA, hk]; exact hr) | cases hr
        · rename_i d n e hd hk
          cases h
          obtain ⟨v, hv, rfl⟩ := map_some hr
          simp only [opP, hcal, hargs, htys, cV_ev hd, hv]
          cases v <;> simp only [lenA, hk]
        · cases h
      · cases h
    · split at h
      · split at h
        · split at h
          · split at h
            · split at h
              · cases h; cases hr
              · cases h
            · cases h
          · cases h
        · cases h
      · cases h
    · cases h
  case h_23 => cases h
end
end Go.Ab
namespace Go.Ab
open Go Go.RowKit

section
variable {P : Program} {T : TT} {G : GT} {t : List AV} {σ : St}
theorem optK_some {α : Type} {x : Option α} {K : α → Prop} (h : optK x K) : ∃ r, x = some r ∧ K r := by
  cases x with
  | none => exact h.elim
  | some r => exact ⟨r, rfl, h⟩
theorem pairK_some {x : Option (AV × St)} {K : AV → St → Prop} (h : pairK x K) : ∃ r σ', x = some (r, σ') ∧ K r σ' := by
  cases x with
  | none => exact h.elim
  | some p => exact ⟨p.1, p.2, rfl, h⟩
theorem aOp_pure {o : Oper} {K : List AV → St → Prop} {r : AV} (hc : isCall o.op = false) (h : opP T G t σ o.op = some r) (hk : K (putA t o.dst r) σ) : aOp P T G o K t σ := by
  unfold aOp
  rw [if_neg (by rw [hc]; decide), h]
  exact hk
theorem opN_M {op : Op} {r : AV × St} (h : opM T G t σ op = some r) : opN T G t σ op = some r := by
  unfold opN; rw [h]
theorem aOp_mem {o : Oper} {K : List AV → St → Prop} {r : AV} {σ' : St} (hc : isCall o.op = false) (hn : opP T G t σ o.op = none) (h : opN T G t σ o.op = some (r, σ')) (hk : K (putA t o.dst r) σ') : aOp P T G o K t σ := by
  unfold aOp
  rw [if_neg (by rw [hc]; decide), hn, h]
  exact hk

theorem xP_fixed {e : Env} {x : X} (h : x.fixed = true) (σ σ' : St) : xP e σ x = xP e σ' x := by
  cases x <;> first | rfl | (cases h; done)
theorem aX_pure {e : Env} {x : X} (hp : x.pure = true) {K : AV → St → Prop} (h : aX P G e σ K x) : ∃ r, xP e σ x = some r ∧ K r σ := by
  cases x <;> first | (cases hp; done) | exact optK_some h | skip
  rename_i c a b
  obtain ⟨v, hv, h⟩ := optK_some h
  cases v <;> first | exact h.elim | skip
  rename_i q
  cases q with
  | true =>
    obtain ⟨r, hr, hk⟩ := optK_some h
    exact ⟨r, by simp only [xP, hv, Option.bind_some]; exact hr, hk⟩
  | false =>
    obtain ⟨r, hr, hk⟩ := optK_some h
    exact ⟨r, by simp only [xP, hv, Option.bind_some]; exact hr, hk⟩

theorem cOp_pure {op : Op} {x : X} (h : cOp T G op = some x) (hp : x.pure = true) : isCall op = false := by
  unfold cOp at h
  split at h
  · obtain ⟨_, _, rfl⟩ := map_some h; cases hp
  unfold cOp0 at h
  split at h <;> first | rfl | (cases h; done) | skip
  rename_i c
  split at h
  · split at h
    · cases h; cases hp
    · cases h
  · rename_i hcal; simp only [isCall, hcal]
  · rename_i hcal; simp only [isCall, hcal]
  · cases h

theorem aOp_of_aX {o : Oper} {x : X} {K : List AV → St → Prop} (hx : cOp T G o.op = some x) (h : aX P G (E t) σ (fun c σ' => K (putA t o.dst c) σ') x) : aOp P T G o K t σ := by
  cases hp : x.pure with
  | true =>
    obtain ⟨r, hr, hk⟩ := aX_pure hp h
    exact aOp_pure (cOp_pure hx hp) (opP_of_xP hx hr) hk
  | false =>
    have hx0 := hx
    unfold cOp at hx
    split at hx
    · rename_i m xs hmo
      obtain ⟨cs, hcs, rfl⟩ := map_some hx
      obtain ⟨as, has, h⟩ := optK_some h
      obtain ⟨r, σ', hr, hK⟩ := pairK_some h
      have hnone : isCall o.op = false ∧ opP T G t σ o.op = none ∧ opM T G t σ o.op = none := by
        unfold moreOf at hmo
        split at hmo
        · rename_i hop; rw [hop]; exact ⟨rfl, rfl, rfl⟩
        · rename_i hop; rw [hop]; exact ⟨rfl, rfl, rfl⟩
        · rename_i ts td x hop
          rw [hop]
          refine ⟨rfl, ?_, rfl⟩
          have hev : evs G t xs = some as := (cVs_evs hcs).trans has
          have key : ∀ c, xs = [x] → ev G t x = some c → as = [c] := by
            rintro c rfl hc
            simp only [evs, hc] at hev
            cases hev; rfl
          simp only [opP]
          split
          · rename_i c hc
            split at hmo
            · rename_i ks kd hks hkd
              unfold cvtA
              rw [hks, hkd]
              split at hmo
              · split at hmo
                · rename_i e hel
                  split at hmo
                  · split at hmo
                    · cases hmo
                      have := key c rfl hc
                      subst this
                      cases kd <;> first | cases hel | skip
                      rfl
                    · cases hmo
                  · cases hmo
                · cases hmo
              · split at hmo
                · rename_i hstr
                  split at hmo
                  · split at hmo
                    · split at hmo
                      · cases hmo
                        have := key c rfl hc
                        subst this
                        cases kd <;> first | cases hstr | skip
                        cases c <;> first | rfl | cases hr
                      · cases hmo
                    · cases hmo
                  · cases hmo
                · cases hmo
            · cases hmo
          · rfl
        · rename_i c hop
          rw [hop]
          split at hmo
          · rename_i hcal; simp only [isCall, opP, opM, hcal]; exact ⟨trivial, trivial, trivial⟩
          · rename_i hcal; simp only [isCall, opP, opM, hcal]; exact ⟨trivial, trivial, trivial⟩
          · rename_i hcal; simp only [isCall, opP, opM, hcal]; exact ⟨trivial, trivial, trivial⟩
          · rename_i hcal; simp only [isCall, opP, opM, hcal]; exact ⟨trivial, trivial, trivial⟩
          · cases hmo
        · rename_i hop; rw [hop]; exact ⟨rfl, rfl, rfl⟩
        · rename_i hop; rw [hop]; exact ⟨rfl, rfl, rfl⟩
        · cases hmo
      refine aOp_mem hnone.1 hnone.2.1 ?_ hK
      unfold opN
      simp only [hnone.2.2, hmo, cVs_evs hcs, has]
      exact hr
    unfold cOp0 at hx
    split at hx
    case h_18 =>
      rename_i ty hop
      obtain ⟨ti, hti, rfl⟩ := map_some hx
      exact aOp_mem (by rw [hop]; rfl) (by rw [hop]; rfl) (opN_M (by rw [hop]; simp only [opM, allocA, hti])) h
    case h_19 =>
      rename_i ty y hop
      obtain ⟨c, hc, rfl⟩ := map_some hx
      obtain ⟨v, hv, hk⟩ := optK_some h
      exact aOp_mem (by rw [hop]; rfl) (by rw [hop]; rfl) (opN_M (by rw [hop]; simp only [opM, cV_ev hc, hv, boxA])) hk
    case h_20 =>
      rename_i ty len parts hop
      split at hx
      · rename_i ps e hps hk
        split at hx
        · rename_i ti hti
          split at hx
          · rename_i hb
            cases hx
            obtain ⟨qs, hq, hk2⟩ := optK_some h
            obtain ⟨r, σ', hr, hK⟩ := pairK_some hk2
            refine aOp_mem (by rw [hop]; rfl) (by rw [hop]; rfl) (opN_M ?_) hK
            rw [hop]
            simp only [opM, cPs_evps hps, hq, buildSliceA, hk, hti, if_pos hb]
            exact hr
          · cases hx
        · cases hx
      · cases hx
    case h_21 =>
      rename_i ty p y hop
      split at hx
      · rename_i c d n hc hd hn
        cases hx
        obtain ⟨pv, hp1, h⟩ := optK_some h
        obtain ⟨cv, hc1, h⟩ := optK_some h
        obtain ⟨σ', hs, h⟩ := optK_some h
        refine aOp_mem (r := undefA) (σ' := σ') (by rw [hop]; rfl) (by rw [hop]; rfl) (opN_M ?_) h
        rw [hop]
        simp only [opM, cV_ev hc, cV_ev hd, hp1, hc1]
        have : storeA T σ ty pv cv = some σ' := by
          unfold szOf at hn
          obtain ⟨ti, hti, rfl⟩ := map_some hn
          unfold storeA
          rw [hti]
          exact hs
        rw [this]
        rfl
      · cases hx
    case h_22 =>
      rename_i c hop
      split at hx
      · rename_i f hcal
        split at hx
        · rename_i fv as hf ha
          cases hx
          obtain ⟨v, hv, h⟩ := optK_some h
          obtain ⟨avs, hav, h⟩ := optK_some h
          unfold aOp
          have hic : isCall o.op = true := by rw [hop]; simp only [isCall, hcal]
          rw [if_pos hic, hop]
          simp only [callOf, hcal, cV_ev hf, cVs_evs ha, hv, hav]
          split at h
          · exact h
          · exact h.elim
        · cases hx
      · split at hx
        · split at hx
          · cases hx; cases hp
          · cases hx; cases hp
          · cases hx; cases hp
          · cases hx
        · cases hx
      · rename_i hcal
        split at hx
        · rename_i s y ts tx hargs htys
          split at hx
          · rename_i a b e k ha hb hk hkx
            split at hx
            · rename_i hsrc
              split at hx
              · rename_i ti hti
                split at hx
                · rename_i hsz
                  cases hx
                  obtain ⟨sv, hsv, h⟩ := optK_some h
                  obtain ⟨xv', hxv, h⟩ := optK_some h
                  obtain ⟨r, σ', hr, hK⟩ := pairK_some h
                  have hnc : isCall o.op = false := by rw [hop]; simp only [isCall, hcal]
                  refine aOp_mem hnc (by rw [hop]; simp only [opP, hcal]) (opN_M ?_) hK
                  rw [hop]
                  simp only [opM, hcal, hargs, htys, cV_ev ha, cV_ev hb, hsv, hxv]
                  unfold appendA
                  unfold appX at hr
                  split at hr
                  · rename_i ys hys
                    split at hr
                    · rename_i hall
                      have hc2 : (ys.all (fun c => c.length == ti.size) && ys.all (fun c => c.all AV.one) && decide (0 < ti.size) && decide (0 < ti.bytes)) = true := by
                        simp only [Bool.and_eq_true, decide_eq_true_eq] at hall ⊢
                        exact ⟨⟨hall, hsz.1⟩, hsz.2⟩
                      simp only [hk, hkx, hsrc, if_true, hti, hys]
                      rw [if_pos hc2]
                      exact hr
                    · cases hr
                  · cases hr
                · cases hx
              · cases hx
            · cases hx
          · cases hx
        · cases hx
      · cases hx
    all_goals first
      | (cases hx; done)
      | (obtain ⟨_, _, rfl⟩ := map_some hx; cases hp; done)
      | (exfalso
         revert hp
         clear h hx0
         repeat' (first | (cases hx; done) | (split at hx))
         all_goals first
           | (cases hx; intro hp; cases hp; done)
           | (obtain ⟨_, _, rfl⟩ := map_some hx; intro hp; cases hp; done))

theorem optK_mono {α : Type} {o : Option α} {A B : α → Prop} (hab : ∀ a, A a → B a) (ho : optK o A) : optK o B := by
  cases o with
  | none => exact ho
  | some a => exact hab a ho
theorem pairK_mono {o : Option (AV × St)} {K K' : AV → St → Prop} (hk : ∀ c σ', K c σ' → K' c σ') (ho : pairK o K) : pairK o K' := by
  cases o with
  | none => exact ho
  | some p => exact hk _ _ ho
theorem aX_mono {t : Env} {x : X} {K K' : AV → St → Prop} (hk : ∀ c σ', K c σ' → K' c σ') (h : aX P G t σ K x) : aX P G t σ K' x := by
  cases x
  case call f args =>
    refine optK_mono (fun v => optK_mono (fun as hv => ?_)) h
    cases v <;> first | exact hv | skip
    rename_i fn fs cs
    cases fn <;> first | exact hv | exact hv.mono hk
  case st n a x => exact optK_mono (fun p => optK_mono (fun c => optK_mono (fun σ' hh => hk _ _ hh))) h
  case alloc ty z => exact hk _ _ h
  case pick c a b =>
    refine optK_mono (fun v hv => ?_) h
    cases v <;> first | exact hv | skip
    rename_i q
    cases q with
    | true => exact optK_mono (fun r hh => hk _ _ hh) hv
    | false => exact optK_mono (fun r hh => hk _ _ hh) hv
  case box ty x => exact optK_mono (fun c hh => hk _ _ hh) h
  case more m xs => exact optK_mono (fun _ hh => pairK_mono hk hh) h
  case mks e z zero len ps => exact optK_mono (fun qs hh => pairK_mono hk hh) h
  case app e z b s x => exact optK_mono (fun _ => optK_mono (fun _ hh => pairK_mono hk hh)) h
  all_goals exact optK_mono (fun r hh => hk _ _ hh) h

/-! ### What holds of some temporaries holds of more -/
def Ole {α : Type} (x y : Option α) : Prop := ∀ r, x = some r → y = some r
theorem Ole.refl {α : Type} (x : Option α) : Ole x x := fun _ h => h
theorem Ole.bind {α β : Type} {x y : Option α} {f g : α → Option β} (h : Ole x y) (k : ∀ a, Ole (f a) (g a)) : Ole (x.bind f) (y.bind g) := fun r hr => by
  obtain ⟨a, ha, hr⟩ := bind_some hr
  rw [h a ha]
  exact k a r hr
theorem Ole.map {α β : Type} {x y : Option α} {f : α → β} (h : Ole x y) : Ole (x.map f) (y.map f) := fun r hr => by
  obtain ⟨a, ha, rfl⟩ := map_some hr
  rw [h a ha]; rfl
theorem optK_le {α : Type} {x y : Option α} {K K' : α → Prop} (h : Ole x y) (hk : ∀ a, K a → K' a) (hx : optK x K) : optK y K' := by
  obtain ⟨r, hr, hK⟩ := optK_some hx
  rw [h r hr]; exact hk _ hK
section
variable {e f : Env} (hle : Env.le e f)
include hle
theorem xv_le (x : XV) : Ole (xv e x) (xv f x) := by
  cases x with
  | t n => exact fun r h => hle n r h
  | k c => exact Ole.refl _
theorem xvs_le : ∀ (l : List XV), Ole (xvs e l) (xvs f l)
  | [] => Ole.refl _
  | x :: xs => fun r h => by
    simp only [xvs] at h ⊢
    split at h
    · rename_i c cs h1 h2
      rw [xv_le hle x _ h1, xvs_le xs _ h2]; exact h
    · cases h
theorem xps_le : ∀ (l : List (Nat × XV)), Ole (xps e l) (xps f l)
  | [] => Ole.refl _
  | (i, x) :: xs => fun r h => by
    simp only [xps] at h ⊢
    split at h
    · rename_i c cs h1 h2
      rw [xv_le hle x _ h1, xps_le xs _ h2]; exact h
    · cases h
theorem xvo_le (x : Option XV) : Ole (xvo e x) (xvo f x) := by
  cases x with
  | none => exact Ole.refl _
  | some x => exact Ole.map (xv_le hle x)
theorem fillX_le : ∀ (l : List (Nat × Nat × XV)) (zero : List AV), Ole (fillX e zero l) (fillX f zero l)
  | [], _ => Ole.refl _
  | (off, z, x) :: l, zero => fun r h => by
    simp only [fillX] at h ⊢
    split at h
    · rename_i c h1
      rw [xv_le hle x _ h1]
      simp only
      split at h
      · rename_i hc
        rw [if_pos hc]
        exact fillX_le l _ r h
      · cases h
    · cases h
theorem xP_le (σ : St) (x : X) : Ole (xP e σ x) (xP f σ x) := by
  have v := xv_le hle
  cases x with
  | pick c a b =>
    refine Ole.bind (v c) (fun u => ?_)
    cases u <;> first | exact Ole.refl _ | skip
    rename_i q
    cases q
    · exact v b
    · exact v a
  | mk z ps => exact Ole.map (fillX_le hle ps z)
  | mkf g a b => exact Ole.bind (xvs_le hle a) (fun _ => Ole.map (xvs_le hle b))
  | sls z x lo hi mx => exact Ole.bind (v x) (fun _ => Ole.bind (xvo_le hle lo) (fun _ => Ole.bind (xvo_le hle hi) (fun _ => Ole.bind (xvo_le hle mx) (fun _ => Ole.refl _))))
  | slstr x lo hi => exact Ole.bind (v x) (fun _ => Ole.bind (xvo_le hle lo) (fun _ => Ole.bind (xvo_le hle hi) (fun _ => Ole.refl _)))
  | mv x => exact v x
  | ifc t x => exact Ole.map (v x)
  | lenarr n x => exact Ole.map (v x)
  | bin op kd c x y => exact Ole.bind (v x) (fun _ => Ole.bind (v y) (fun _ => Ole.refl _))
  | ixa len z x y => exact Ole.bind (v x) (fun _ => Ole.bind (v y) (fun _ => Ole.refl _))
  | ixs z x y => exact Ole.bind (v x) (fun _ => Ole.bind (v y) (fun _ => Ole.refl _))
  | ixstr x y => exact Ole.bind (v x) (fun _ => Ole.bind (v y) (fun _ => Ole.refl _))
  | ixarr len z n x y => exact Ole.bind (v x) (fun _ => Ole.bind (v y) (fun _ => Ole.refl _))
  | ld n a => exact Ole.bind (v a) (fun _ => Ole.refl _)
  | nilc x => exact Ole.bind (v x) (fun _ => Ole.refl _)
  | un op x => exact Ole.bind (v x) (fun _ => Ole.refl _)
  | cvi k x => exact Ole.bind (v x) (fun _ => Ole.refl _)
  | cvs x => exact Ole.bind (v x) (fun _ => Ole.refl _)
  | fa off x => exact Ole.bind (v x) (fun _ => Ole.refl _)
  | fl off n x => exact Ole.bind (v x) (fun _ => Ole.refl _)
  | ex x i => exact Ole.bind (v x) (fun _ => Ole.refl _)
  | lens x => exact Ole.bind (v x) (fun _ => Ole.refl _)
  | lenl x => exact Ole.bind (v x) (fun _ => Ole.refl _)
  | strs x => exact Ole.bind (v x) (fun _ => Ole.refl _)
  | st _ _ _ => exact Ole.refl _
  | alloc _ _ => exact Ole.refl _
  | box _ _ => exact Ole.refl _
  | mks _ _ _ _ _ => exact Ole.refl _
  | app _ _ _ _ _ => exact Ole.refl _
  | call _ _ => exact Ole.refl _
  | more _ _ => exact Ole.refl _
theorem aX_le {x : X} {K : AV → St → Prop} (h : aX P G e σ K x) : aX P G f σ K x := by
  have v := xv_le hle
  cases hp : x.pure with
  | true =>
    obtain ⟨r, hr, hK⟩ := aX_pure hp h
    have hr' := xP_le hle σ x r hr
    cases x <;> first | (cases hp; done) | (show optK (xP f σ _) (fun r => K r σ); rw [hr']; exact hK) | skip
    rename_i c a b
    obtain ⟨u, hu, hh⟩ := optK_some h
    show optK (xv f c) _
    rw [v c u hu]
    cases u <;> first | exact hh.elim | skip
    rename_i q
    cases q
    · exact (optK_le (v b) (fun _ x => x) hh : optK (xv f b) (fun r => K r σ))
    · exact (optK_le (v a) (fun _ x => x) hh : optK (xv f a) (fun r => K r σ))
  | false =>
    cases x <;> first | (cases hp; done) | skip
    case call g args => exact optK_le (v g) (fun _ h => optK_le (xvs_le hle args) (fun _ x => x) h) h
    case st n a x => exact optK_le (v a) (fun _ h => optK_le (v x) (fun _ x => x) h) h
    case alloc => exact h
    case more m xs => exact optK_le (xvs_le hle xs) (fun _ x => x) h
    case box t x => exact optK_le (v x) (fun _ x => x) h
    case mks t z l n ps => exact optK_le (xps_le hle ps) (fun _ x => x) h
    case app t z b s x => exact optK_le (v s) (fun _ h => optK_le (v x) (fun _ x => x) h) h
end

theorem Env.le_refl (e : Env) : Env.le e e := fun _ _ h => h
/-- What is put may be put. -/
theorem le_putE {N : Nat} {d : Option Nat} (hd : dstIn N d = true) {e : Env} {t : List AV} (hle : Env.le e (E t)) (hN : N ≤ t.length) (c : AV) : Env.le (putE e d c) (E (putA t d c)) := by
  cases d with
  | none => exact hle
  | some d =>
    simp only [dstIn, decide_eq_true_eq] at hd
    intro n r hr
    simp only [putE, put] at hr
    simp only [putA, E]
    split at hr
    · rename_i hn
      cases hr
      rw [hn, List.getElem?_set_self (by omega)]
    · rename_i hn
      rw [List.getElem?_set_ne (fun h => hn h.symm)]
      exact hle n r hr
theorem length_putA (t : List AV) (d : Option Nat) (c : AV) : (putA t d c).length = t.length := by
  cases d <;> simp [putA]

theorem guard_cases {ops : Array Oper} {o : Oper} {g : Option (Nat × Bool)} (h : cGuard ops o.guard = some g) {e : Env} {A B : Prop} (hle : Env.le e (E t)) (hg : guardX e g A B) : (wantedA ops o t = true ∧ A) ∨ (wantedA ops o t = false ∧ B) := by
  unfold wantedA
  cases ho : o.guard with
  | none => rw [ho] at h; cases h; exact .inl ⟨rfl, hg⟩
  | some p =>
    obtain ⟨j, want⟩ := p
    rw [ho] at h
    simp only [cGuard] at h
    split at h
    · rename_i d hd
      cases h
      simp only [guardX] at hg
      split at hg
      · rename_i b hb
        have := hle d _ hb
        simp only [yieldedA, hd, Option.bind_some, show t[d]? = some (.bool b) from this]
        unfold brk at hg
        split at hg
        · rename_i hq; exact .inl ⟨hq, hg⟩
        · rename_i hq; exact .inr ⟨by simpa using hq, hg⟩
      · rename_i c hn hb
        have := hle d _ hb
        simp only [yieldedA, hd, Option.bind_some, show t[d]? = some c from this]
        refine .inr ⟨?_, hg⟩
        cases c <;> first | rfl | exact absurd rfl (hn _)
      · exact hg.elim
    · cases h

theorem aOps_of_aL {N : Nat} {ops : Array Oper} {K : Env → St → Prop} : ∀ {l : List Oper} {cs : List CO} {e : Env} {t : List AV} {σ : St}, cOps T G N ops l = some cs → Env.le e (E t) → N ≤ t.length → aL P G K cs e σ → aOps P T G ops (liftK N K) l t σ
  | [], cs, e, t, σ, h, hle, hN, hk => by cases h; exact ⟨e, hle, hN, hk⟩
  | o :: r, cs, e, t, σ, h, hle, hN, hk => by
    simp only [cOps] at h
    split at h
    · rename_i x g ds hx hg hds
      split at h
      · rename_i hd
        cases h
        simp only [aL] at hk
        simp only [aOps]
        rcases guard_cases hg hle hk with ⟨hw, hk⟩ | ⟨hw, hk⟩
        · rw [if_pos hw]
          have h1 := aX_le hle hk
          have h2 : aX P G (E t) σ (fun c σ' => aOps P T G ops (liftK N K) r (putA t o.dst c) σ') x :=
            aX_mono (fun c σ' h => aOps_of_aL hds (le_putE hd hle hN c) (by rw [length_putA]; exact hN) h) h1
          exact aOp_of_aX hx h2
        · rw [if_neg (by rw [hw]; decide)]
          exact aOps_of_aL hds (le_putE hd hle hN undefA) (by rw [length_putA]; exact hN) hk
      · cases h
    · cases h
theorem aStill_of_aS {N : Nat} {ops : Array Oper} {K : Env → St → Prop} : ∀ {l : List Oper} {cs : List CO} {e : Env} {t : List AV}, cOps T G N ops l = some cs → Env.le e (E t) → N ≤ t.length → aS K σ cs e → aStill T G ops (liftK N K) l t σ
  | [], cs, e, t, h, hle, hN, hk => by cases h; exact ⟨e, hle, hN, hk⟩
  | o :: r, cs, e, t, h, hle, hN, hk => by
    simp only [cOps] at h
    split at h
    · rename_i x g ds hx hg hds
      split at h
      · rename_i hd
        cases h
        simp only [aS] at hk
        simp only [aStill]
        rcases guard_cases hg hle hk with ⟨hw, hk⟩ | ⟨hw, hk⟩
        · rw [if_pos hw]
          obtain ⟨c, hc, hk⟩ := optK_some hk
          rw [opP_of_xP hx (xP_le hle σ x c hc)]
          exact aStill_of_aS hds (le_putE hd hle hN c) (by rw [length_putA]; exact hN) hk
        · rw [if_neg (by rw [hw]; decide)]
          exact aStill_of_aS hds (le_putE hd hle hN undefA) (by rw [length_putA]; exact hN) hk
      · cases h
    · cases h

theorem coAt_some {N : Nat} {ops : Array Oper} {i : Nat} {c : CO} (h : coAt T G N ops i = some c) : ∃ o, ops[i]? = some o ∧ cOp T G o.op = some c.x ∧ cGuard ops o.guard = some c.g ∧ dstIn N o.dst = true ∧ c.dst = o.dst := by
  unfold coAt at h
  split at h
  · rename_i o ho
    split at h
    · rename_i x g hx hg
      split at h
      · rename_i hd; cases h; exact ⟨o, ho, hx, hg, hd, rfl⟩
      · cases h
    · cases h
  · cases h
theorem altAll_mem {N : Nat} {ops : Array Oper} {K : Env → St → Prop} {S : St → Prop} {f : Array Bool → Option CM} {listed : Array Bool} {e : Env} {σ : St} : ∀ {is : List Nat} {m : CM}, altAll T G N ops f listed is = some m → aH P G K m S e σ →
    ∀ i ∈ is, ∃ c r, coAt T G N ops i = some c ∧ f (listed.setIfInBounds i true) = some r ∧ aH P G K (efX (lastB T G N ops listed i) c r) S e σ
  | [], m, h, hk, i, hi => by cases hi
  | j :: is, m, h, hk, i, hi => by
    unfold altAll at h
    split at h
    · rename_i c r hc hr
      split at h
      · cases h
        have : i = j := by simpa using hi
        subst this
        exact ⟨c, r, hc, hr, hk⟩
      · split at h
        · rename_i b hb
          cases h
          rcases List.mem_cons.1 hi with rfl | hi
          · exact ⟨c, r, hc, hr, hk.1⟩
          · exact altAll_mem hb hk.2 i hi
        · cases h
    · cases h
theorem ancs_sound {ops : Array Oper} {L : Array Bool} (hs : Shut ops L) : ∀ (k : Nat) (s : List Nat), (∀ x ∈ s, L.getD x true = true) → ∀ x ∈ ancs ops k s, L.getD x true = true
  | 0, s, h, x, hx => h x hx
  | k + 1, s, h, x, hx => by
    unfold ancs at hx
    refine ancs_sound hs k _ ?_ x hx
    split
    · rename_i hk
      have hLk := h k (by simpa using hk)
      intro y hy
      rcases List.mem_append.1 hy with hy | hy
      · split at hy
        · rename_i o ho
          obtain ⟨e, he, rfl⟩ := List.mem_map.1 hy
          obtain ⟨he1, he2⟩ := List.mem_filter.1 he
          exact hs k o ho hLk e (by simpa using he1) he2
        · cases hy
      · exact h y hy
    · exact h
/-- May it be that the operation p has not been run yet, by what turns memory and has come up? -/
def Alive (T : TT) (G : GT) (N : Nat) (ops : Array Oper) (p : Nat) (L : Array Bool) : Prop :=
  ∃ L0, Shut ops L0 ∧ L0.getD p true = false ∧ ∀ k c, coAt T G N ops k = some c → c.x.pure = false → L0.getD k true = L.getD k true
theorem lastB_dead {N : Nat} {ops : Array Oper} {listed L : Array Bool} {i p : Nat} (h : lastB T G N ops listed i = true) (hL : L.getD i true = true) (hp : p < ops.size) (hlp : listed.getD p true = true) (hnf : fixedAt T G N ops p = false) : ¬ Alive T G N ops p L := by
  rintro ⟨L0, hs, h0, he⟩
  unfold lastB at h
  obtain ⟨h1, h2⟩ := Bool.and_eq_true_iff.1 h
  split at h1
  · rename_i c hc
    have h3 := he i c hc (by simpa using h1)
    rw [hL] at h3
    have h4 := List.all_eq_true.1 h2 p (List.mem_range.2 hp)
    rw [hlp] at h4
    simp only [Bool.not_true, Bool.false_or, hnf, Bool.or_false] at h4
    have := ancs_sound hs ops.size [i] (fun x hx => by
      have : x = i := by simpa using hx
      rw [this]; exact h3) p (by simpa using h4)
    rw [h0] at this; cases this
  · cases h1
theorem aAnyR_of_aH {N : Nat} {ops : Array Oper} {K : Env → St → Prop} : ∀ (fuel : Nat) {listed : Array Bool} {m : CM} {S : St → Prop} {R : Array Bool → St → Prop} (ps : List Nat) {e : Env} {t : List AV} {σ : St}, cMix T G N ops fuel listed = some m → Env.le e (E t) → N ≤ t.length → Shut ops listed → S σ →
    (∀ L σ, (∀ k, listed.getD k true = true → L.getD k true = true) → S σ → R L σ) → (∀ p ∈ ps, listed.getD p true = true ∧ p < ops.size ∧ fixedAt T G N ops p = false) → (∀ L σ, (∀ p ∈ ps, ¬ Alive T G N ops p L) → R L σ) →
    (∀ i c, coAt T G N ops i = some c → c.x.pure = true → ∀ L σ, L.getD i true = false → R (L.setIfInBounds i true) σ → R L σ) → aH P G K m S e σ → aAnyR P T G ops (liftK N K) R fuel listed t σ
  | 0, listed, m, S, R, ps, e, t, σ, h, hle, hN, hsh, hS, hSR, hps, hV, hB, hk => by
    simp only [cMix] at h
    split at h
    · rename_i hr; cases h; exact ⟨hr, e, hle, hN, hk⟩
    · cases h
  | fuel + 1, listed, m, S, R, ps, e, t, σ, h, hle, hN, hsh, hS, hSR, hps, hV, hB, hk => by
    have up : ∀ (i : Nat) (L : Array Bool), (∀ k, (listed.setIfInBounds i true).getD k true = true → L.getD k true = true) → ∀ k, listed.getD k true = true → L.getD k true = true := fun i L hL k hk => hL k (getD_set_up hk)
    have ups : ∀ i, ∀ p ∈ ps, (listed.setIfInBounds i true).getD p true = true ∧ p < ops.size ∧ fixedAt T G N ops p = false := fun i p hp => ⟨getD_set_up (hps p hp).1, (hps p hp).2⟩
    simp only [cMix] at h
    split at h
    · rename_i hr
      cases h
      exact ⟨fun _ => ⟨e, hle, hN, hk⟩, by rw [hr]; simp⟩
    · rename_i r rs hr
      split at h
      · rename_i i hi
        split at h
        · rename_i c l' hc hl'
          cases h
          obtain ⟨o, ho, hx, hg, hd, hdst⟩ := coAt_some hc
          have hq := List.find?_some hi
          have hmem := List.mem_of_find?_eq_some hi
          simp only [quietAt, hc, Bool.and_eq_true] at hq
          have hrdy : i ∈ Region.ready .any ops listed := by rw [hr]; exact hmem
          have hcont : (Region.ready .any ops listed).contains i = true := by simpa using hrdy
          have hsh' := hsh.set hrdy
          have hlt : i < ops.size := (Array.getElem?_eq_some_iff.1 ho).1
          have hno : wantedA ops o t = false → aH P G K l' S (putE e o.dst undefA) σ → aAnyR P T G ops (liftK N K) R (fuel + 1) listed t σ := fun hw hk' =>
            aAnyR_take ho hq.2 hcont (hB i c hc hq.1) hsh (.inr ⟨hw, rfl⟩) (hSR _ _ (fun k hk => getD_set_up hk) hS)
              (aAnyR_of_aH fuel ps hl' (le_putE hd hle hN undefA) (by rw [length_putA]; exact hN) hsh' hS (fun L σ hL => hSR L σ (up i L hL)) (ups i) hV hB hk')
          split at hk
          · rename_i hfix
            simp only [aH] at hk
            rw [hdst] at hk
            rcases guard_cases hg hle hk with ⟨hw, hk⟩ | ⟨hw, hk⟩
            · obtain ⟨v, hv, hk⟩ := optK_some hk
              exact aAnyR_take ho hq.2 hcont (hB i c hc hq.1) hsh (.inl ⟨hw, cOp_pure hx hq.1, fun σ' _ => opP_of_xP hx (xP_le hle σ' c.x _ (by rw [xP_fixed hfix σ' σ]; exact hv))⟩) (hSR _ _ (fun k hk => getD_set_up hk) hS)
                (aAnyR_of_aH fuel ps hl' (le_putE hd hle hN _) (by rw [length_putA]; exact hN) hsh' hS (fun L σ hL => hSR L σ (up i L hL)) (ups i) hV hB hk)
            · exact hno hw hk
          · rename_i hfix
            simp only [aH] at hk
            rw [hdst] at hk
            rcases guard_cases hg hle hk with ⟨hw, hk⟩ | ⟨hw, hk⟩
            · obtain ⟨v, hv, hk⟩ := optK_some hk
              refine aAnyR_weak (R := fun L σ' => R L σ' ∧ (Alive T G N ops i L → xP e σ' c.x = some v)) (fun L σ' h => h.1) _ ?_
              refine aAnyR_take ho hq.2 hcont ?_ hsh (.inl ⟨hw, cOp_pure hx hq.1, ?_⟩) ⟨hSR _ _ (fun k hk => getD_set_up hk) hS, fun _ => hv⟩
                (aAnyR_of_aH fuel (S := pin S e c.x v) (i :: ps) hl' (le_putE hd hle hN _) (by rw [length_putA]; exact hN) hsh' ⟨hS, hv⟩ ?_ ?_ ?_ ?_ hk)
              · intro L σ' hLi ⟨hR, hA⟩
                refine ⟨hB i c hc hq.1 L σ' hLi hR, fun ⟨L0, a1, a2, a3⟩ => hA ⟨L0, a1, a2, fun k ck hck hpk => ?_⟩⟩
                have hne : i ≠ k := fun h => by rw [h] at hc; rw [hc] at hck; cases hck; rw [hq.1] at hpk; cases hpk
                rw [getD_set_ne true hne]; exact a3 k ck hck hpk
              · rintro σ' ⟨L, b1, b2, b3, b4⟩
                refine opP_of_xP hx (xP_le hle σ' c.x _ (b4 ⟨L, b1, b2, fun k ck hck hpk => ?_⟩))
                have hne : i ≠ k := fun h => by rw [h] at hc; rw [hc] at hck; cases hck; rw [hq.1] at hpk; cases hpk
                rw [getD_set_ne true hne]
              · exact fun L σ' hL hp => ⟨hSR L σ' (up i L hL) hp.1, fun _ => hp.2⟩
              · intro p hp
                rcases List.mem_cons.1 hp with rfl | hp
                · exact ⟨getD_set_same _ _, hlt, by unfold fixedAt; rw [hc]; simpa using hfix⟩
                · exact ups i p hp
              · exact fun L σ' hA => ⟨hV L σ' fun p hp => hA p (by simp [hp]), fun ha => absurd ha (hA i (by simp))⟩
              · intro j cj hcj hpj L σ' hLj ⟨hR, hA⟩
                refine ⟨hB j cj hcj hpj L σ' hLj hR, fun ⟨L0, a1, a2, a3⟩ => hA ⟨L0, a1, a2, fun k ck hck hpk => ?_⟩⟩
                have hne : j ≠ k := fun h => by rw [h] at hcj; rw [hcj] at hck; cases hck; rw [hpj] at hpk; cases hpk
                rw [getD_set_ne true hne]; exact a3 k ck hck hpk
            · exact hno hw hk
        · cases h
      · refine ⟨fun h0 => absurd (hr.symm.trans h0) (by simp), fun i hi => ?_⟩
        have hrdy := hi
        rw [hr] at hi
        obtain ⟨c, l', hc, hl', hk⟩ := altAll_mem h hk i hi
        obtain ⟨o, ho, hx, hg, hd, hdst⟩ := coAt_some hc
        have hsh' := hsh.set hrdy
        unfold efX at hk
        unfold aWpOp
        simp only [ho]
        split at hk
        · rename_i hlast
          have dead : ∀ L σ', L.getD i true = true → R L σ' := fun L σ' hL => hV L σ' fun p hp => lastB_dead hlast hL (hps p hp).2.1 (hps p hp).1 (hps p hp).2.2
          simp only [aH] at hk
          rw [hdst] at hk
          rcases guard_cases hg hle hk with ⟨hw, hk⟩ | ⟨hw, hk⟩
          · rw [if_pos hw]
            have h1 := aX_le hle hk
            have h2 : aX P G (E t) σ (fun c σ' => R (listed.setIfInBounds i true) σ' ∧ aAnyR P T G ops (liftK N K) R fuel (listed.setIfInBounds i true) (putA t o.dst c) σ') c.x :=
              aX_mono (fun c σ' h => ⟨dead _ _ (getD_set_same _ _), aAnyR_of_aH fuel (S := topS) ps hl' (le_putE hd hle hN c) (by rw [length_putA]; exact hN) hsh' trivial (fun L σ'' hL _ => dead L σ'' (hL i (getD_set_same _ _))) (ups i) hV hB h⟩) h1
            exact aOp_of_aX (K := fun t' σ' => R (listed.setIfInBounds i true) σ' ∧ aAnyR P T G ops (liftK N K) R fuel (listed.setIfInBounds i true) t' σ') hx h2
          · rw [if_neg (by rw [hw]; decide)]
            exact ⟨hSR _ _ (fun k hk => getD_set_up hk) hS, aAnyR_of_aH fuel ps hl' (le_putE hd hle hN undefA) (by rw [length_putA]; exact hN) hsh' hS (fun L σ hL => hSR L σ (up i L hL)) (ups i) hV hB hk⟩
        · simp only [aH] at hk
          rw [hdst] at hk
          rcases guard_cases hg hle hk with ⟨hw, hk⟩ | ⟨hw, hk⟩
          · rw [if_pos hw]
            have h1 := aX_le hle hk
            have h2 : aX P G (E t) σ (fun c σ' => R (listed.setIfInBounds i true) σ' ∧ aAnyR P T G ops (liftK N K) R fuel (listed.setIfInBounds i true) (putA t o.dst c) σ') c.x :=
              aX_mono (fun c σ' h => ⟨hSR _ _ (fun k hk => getD_set_up hk) h.1, aAnyR_of_aH fuel ps hl' (le_putE hd hle hN c) (by rw [length_putA]; exact hN) hsh' h.1 (fun L σ hL => hSR L σ (up i L hL)) (ups i) hV hB h.2⟩) h1
            exact aOp_of_aX (K := fun t' σ' => R (listed.setIfInBounds i true) σ' ∧ aAnyR P T G ops (liftK N K) R fuel (listed.setIfInBounds i true) t' σ') hx h2
          · rw [if_neg (by rw [hw]; decide)]
            exact ⟨hSR _ _ (fun k hk => getD_set_up hk) hS, aAnyR_of_aH fuel ps hl' (le_putE hd hle hN undefA) (by rw [length_putA]; exact hN) hsh' hS (fun L σ hL => hSR L σ (up i L hL)) (ups i) hV hB hk⟩
theorem shut_none (ops : Array Oper) : Shut ops (Array.replicate ops.size false) := fun k ok hk hl => by
  have := (Array.getElem?_eq_some_iff.1 hk).1
  simp [this] at hl

theorem awp_mono (_hT : True) : ∀ (c : Code) {Q Q' : AQ} {t : List AV} {σ : St}, (∀ e t σ, Q e t σ → Q' e t σ) → awp P T G c Q t σ → awp P T G c Q' t σ := by
  intro c
  induction c with
  | skip => exact fun h hh => h _ _ _ hh
  | region id ops draw =>
    intro Q Q' t σ h hh
    have hl : ∀ (l : List Oper) (t : List AV) (σ : St), aOps P T G ops (Q .normal) l t σ → aOps P T G ops (Q' .normal) l t σ := by
      intro l
      induction l with
      | nil => exact fun t σ hh => h _ _ _ hh
      | cons o r ih =>
        intro t σ hh
        simp only [aOps] at hh ⊢
        split
        · rename_i hw
          rw [if_pos hw] at hh
          unfold aOp at hh ⊢
          split
          · rename_i hc
            rw [if_pos hc] at hh
            split
            · rename_i f args hcall
              rw [hcall] at hh
              exact hh.mono (fun r σ' hq => ih _ _ hq)
            · rename_i hcall; rw [hcall] at hh; exact hh
          · rename_i hc
            rw [if_neg hc] at hh
            split
            · rename_i r' hr; rw [hr] at hh; exact ih _ _ hh
            · rename_i hr
              rw [hr] at hh
              split
              · rename_i r' σ' hm; rw [hm] at hh; exact ih _ _ hh
              · rename_i hm; rw [hm] at hh; exact hh
        · rename_i hw
          rw [if_neg hw] at hh
          exact ih _ _ hh
    have hs : ∀ (l : List Oper) (t : List AV) (σ : St), aStill T G ops (Q .normal) l t σ → aStill T G ops (Q' .normal) l t σ := by
      intro l
      induction l with
      | nil => exact fun t σ hh => h _ _ _ hh
      | cons o r ih =>
        intro t σ hh
        simp only [aStill] at hh ⊢
        split
        · rename_i hw
          rw [if_pos hw] at hh
          split
          · rename_i r' hr; rw [hr] at hh; exact ih _ _ hh
          · rename_i hr; rw [hr] at hh; exact hh
        · rename_i hw
          rw [if_neg hw] at hh
          exact ih _ _ hh
    cases draw with
    | false => exact hl _ _ _ hh
    | true => exact hh.imp (fun hh => ⟨hh.1, hs _ _ _ hh.2⟩) (fun hh => ⟨hh.1, aAny_mono (fun t σ hq => h _ _ _ hq) _ hh.2⟩)
  | seq a b iha ihb =>
    intro Q Q' t σ h hh
    refine iha (fun e t σ hq => ?_) hh
    cases e with
    | normal => exact ihb h hq
    | _ => exact h _ _ _ hq
  | cond c a b iha ihb =>
    intro Q Q' t σ h hh
    simp only [awp] at hh ⊢
    split
    · rename_i b hc
      rw [hc] at hh
      cases b with
      | true => exact iha h hh
      | false => exact ihb h hh
    · rename_i hc
      split at hh
      · rename_i b hb; exact absurd hb (hc b)
      · exact hh
  | block id c ih =>
    intro Q Q' t σ h hh
    refine ih (fun e t σ hq => ?_) hh
    cases e with
    | exit id' =>
      simp only [blockQ] at hq ⊢
      split
      · rename_i hid; rw [if_pos hid] at hq; exact h _ _ _ hq
      · rename_i hid; rw [if_neg hid] at hq; exact h _ _ _ hq
    | _ => exact h _ _ _ hq
  | loop c ih =>
    intro Q Q' t σ h hh C0 a w h0 b k cs
    obtain ⟨e, a', w', ⟨t', σ', h1, h2⟩, harr⟩ := hh C0 a w h0 b k cs
    exact ⟨e, a', w', ⟨t', σ', h1, h _ _ _ h2⟩, harr⟩
  | exit id => exact fun h hh => h _ _ _ hh
  | ret => exact fun h hh => h _ _ _ hh
  | _ => exact fun h hh => hh

theorem awp_of_aC (hm : P.follows .mixedOrders = true) {N : Nat} : ∀ {c : Code} {cc : CC} {Q : EQ} {e : Env} {t : List AV} {σ : St}, cCode T G N c = some cc → Env.le e (E t) → N ≤ t.length → aC P T G cc Q e σ → awp P T G c (liftQ N Q) t σ := by
  intro c
  induction c with
  | skip => intro cc Q e t σ h hle hN hh; cases h; exact ⟨e, hle, hN, hh⟩
  | region id ops draw =>
    intro cc Q e t σ h hle hN hh
    simp only [cCode] at h
    cases draw with
    | false =>
      obtain ⟨cs, hcs, rfl⟩ := map_some h
      exact aOps_of_aL hcs hle hN hh
    | true =>
      simp only [if_true] at h
      unfold cDraw at h
      split at h
      · rename_i cs hcs
        split at h
        · rename_i hB
          cases h
          simp only [Bool.and_eq_true] at hB
          exact .inl ⟨⟨hm, hB.1⟩, aStill_of_aS hcs hle hN hh⟩
        · obtain ⟨l, hl, rfl⟩ := map_some h
          exact .inr ⟨hm, aAny_of_R _ (aAnyR_of_aH (R := fun _ _ => True) _ [] hl hle hN (shut_none ops) trivial (fun _ _ _ _ => trivial) (fun p hp => by cases hp) (fun _ _ _ => trivial) (fun _ _ _ _ _ _ _ _ => trivial) hh)⟩
      · cases h
  | seq a b iha ihb =>
    intro cc Q e t σ h hle hN hh
    simp only [cCode] at h
    split at h
    · rename_i x y hx hy
      cases h
      have h1 := iha hx hle hN hh
      refine awp_mono trivial a (fun x t σ hq => ?_) h1
      cases x with
      | normal =>
        obtain ⟨e', h1, h2, h3⟩ := hq
        exact ihb hy h1 h2 h3
      | exit id => exact hq
      | ret => exact hq
      | _ => exact hq
    · cases h
  | cond c a b iha ihb =>
    intro cc Q e t σ h hle hN hh
    simp only [cCode] at h
    split at h
    · rename_i v x y hv hx hy
      cases h
      obtain ⟨u, hu, hh⟩ := optK_some hh
      have hu' := xv_le hle v u hu
      simp only [awp, cV_ev hv, hu']
      cases u <;> simp only at hh ⊢
      rename_i b
      cases b with
      | true => exact iha hx hle hN hh
      | false => exact ihb hy hle hN hh
    · cases h
  | block id c ih =>
    intro cc Q e t σ h hle hN hh
    obtain ⟨x, hx, rfl⟩ := map_some h
    refine awp_mono trivial c (fun x t σ hq => ?_) (ih hx hle hN hh)
    cases x with
    | exit id' =>
      obtain ⟨e', h1, h2, h3⟩ := hq
      simp only [blockE] at h3
      simp only [blockQ]
      split
      · rename_i hid; rw [if_pos hid] at h3; exact ⟨e', h1, h2, h3⟩
      · rename_i hid; rw [if_neg hid] at h3; exact ⟨e', h1, h2, h3⟩
    | normal => exact hq
    | ret => exact hq
    | _ => exact hq
  | loop c ih =>
    intro cc Q e t σ h hle hN hh
    obtain ⟨x, hx, rfl⟩ := map_some h
    exact hh N c hx t hle hN
  | exit id => intro cc Q e t σ h hle hN hh; cases h; exact ⟨e, hle, hN, hh⟩
  | ret => intro cc Q e t σ h hle hN hh; cases h; exact ⟨e, hle, hN, hh⟩
  | _ => intro cc Q e t σ h hle hN hh; cases h

/-- A round, and the rest. -/
theorem LoopC_unfold (hT : TOK P T) (hm : P.follows .mixedOrders = true) {c : CC} {Q : EQ} {e : Env} {σ : St} (h : aC P T G c (thenE (LoopC P T G c Q) Q) e σ) : LoopC P T G c Q e σ := by
  intro N code hcode t hle hN
  refine AWPL_unfold hT ?_
  have h1 := awp_of_aC hm hcode hle hN h
  refine awp_mono trivial code (fun x t σ hq => ?_) h1
  cases x with
  | normal =>
    obtain ⟨e', h1, h2, h3⟩ := hq
    exact h3 N code hcode t h1 h2
  | exit id => exact hq
  | ret => exact hq
  | _ => exact hq
end

/-! ### Functions in short form -/
inductive XR where
  | t (n : Nat)
  | c (a : Nat) (n : Option Nat)
structure CF where
  ntmps : Nat
  res : List XR
  code : CC
def cRes (T : TT) : List ResultVar → Option (List XR)
  | [] => some []
  | .tmp n :: r => (cRes T r).map (.t n :: ·)
  | .cell a ty :: r => match partN T ty, cRes T r with
    | some n, some rs => some (.c a n :: rs)
    | _, _ => none
def resX (e : Env) (σ : St) : List XR → Option (List AV)
  | [] => some []
  | .t n :: r => (e n).bind fun c => (resX e σ r).map (c :: ·)
  | .c a n :: r => (e a).bind fun p => (ldX n σ p).bind fun c => (resX e σ r).map (c :: ·)
def cFunc (T : TT) (G : GT) (fn : Func) : Option CF :=
  match fn.body with
  | some c => match cCode T G fn.ntmps c, cRes T fn.results.toList with
    | some cc, some rs => if fn.name == "runtime.NumGoroutine" then none else some ⟨fn.ntmps, rs, cc⟩
    | _, _ => none
  | none => none
/-- Function f of the program is this. -/
def FOk (P : Program) (T : TT) (G : GT) (f : FuncId) (cf : CF) : Prop := ∃ fn, P.funcs[f]? = some fn ∧ cFunc T G fn = some cf
def retQ (rs : List XR) (Q : AV → St → Prop) : EQ := fun x t σ => match x with
  | .normal => optK (resX t σ rs) fun l => Q (oneOr l) σ
  | .ret => optK (resX t σ rs) fun l => Q (oneOr l) σ
  | _ => False
theorem resX_eq {T : TT} {t : List AV} {σ : St} : ∀ {rs : List ResultVar} {xs : List XR}, cRes T rs = some xs → resAll T t σ rs = resX (E t) σ xs
  | [], xs, h => by cases h; rfl
  | .tmp n :: r, xs, h => by
    obtain ⟨ys, hy, rfl⟩ := map_some h
    simp only [resAll, resOne, resX, resX_eq hy]
    show _ = (t[n]?).bind _
    generalize resX (E t) σ ys = z
    cases t[n]? <;> cases z <;> rfl
  | .cell a ty :: r, xs, h => by
    simp only [cRes] at h
    split at h
    · rename_i n ys hn hy
      cases h
      simp only [resAll, resOne, resX, resX_eq hy]
      show _ = (t[a]?).bind _
      generalize resX (E t) σ ys = z
      cases hq : t[a]? with
      | none => rfl
      | some p =>
        simp only [partN_ld hn, Option.bind_some]
        cases ldX n σ p <;> cases z <;> rfl
    · cases h
theorem resX_le {e f : Env} (hle : Env.le e f) (σ : St) : ∀ (rs : List XR), Ole (resX e σ rs) (resX f σ rs)
  | [] => Ole.refl _
  | .t n :: r => Ole.bind (fun c h => hle n c h) (fun _ => Ole.map (resX_le hle σ r))
  | .c a n :: r => Ole.bind (fun c h => hle a c h) (fun _ => Ole.bind (Ole.refl _) (fun _ => Ole.map (resX_le hle σ r)))
theorem ACalls_fn {P : Program} {T : TT} {G : GT} (hT : TOK P T) (hm : P.follows .mixedOrders = true) {f : FuncId} {cf : CF} (hf : FOk P T G f cf) {args : List AV} {σ : St} {Q : AV → St → Prop}
    (h : aC P T G cf.code (retQ cf.res Q) (E args) σ) : ACalls P G f args σ Q := by
  obtain ⟨fn, hfn, hc⟩ := hf
  unfold cFunc at hc
  split at hc
  · rename_i c hb
    split at hc
    · rename_i cc rs hcc hrs
      split at hc
      · cases hc
      · rename_i hn
        cases hc
        refine ACalls_body hT hfn hb (by simpa using hn) ?_
        have hle : Env.le (E args) (E (args ++ List.replicate (fn.ntmps - args.length) undefA)) := by
          intro n r hr
          simp only [E] at hr ⊢
          rw [List.getElem?_append_left (List.getElem?_eq_some_iff.1 hr).1]; exact hr
        have hN : fn.ntmps ≤ (args ++ List.replicate (fn.ntmps - args.length) undefA).length := by simp; omega
        have fin : ∀ {t : List AV} {σ : St}, liftK fn.ntmps (fun e σ => optK (resX e σ rs) fun l => Q (oneOr l) σ) t σ → ∃ r, resA T fn.results.toList t σ = some r ∧ Q r σ := by
          rintro t σ ⟨e, h1, h2, h3⟩
          obtain ⟨l, hl, hQ⟩ := optK_some h3
          exact ⟨_, by unfold resA; rw [resX_eq hrs, resX_le h1 σ rs l hl]; rfl, hQ⟩
        refine awp_mono trivial c (fun x t σ hq => ?_) (awp_of_aC hm hcc hle hN h)
        cases x with
        | normal => exact fin hq
        | ret => exact fin hq
        | _ => exact (let ⟨_, _, _, h⟩ := hq; h).elim
    · cases hc
  · cases hc
end Go.Ab
namespace Go.Ab
open Go Go.RowKit

/-! ### What waits -/
def kL (P : Program) (G : GT) (K : Env → St → Prop) (r : List CO) (t : Env) (d : Option Nat) (c : AV) (σ : St) : Prop := aL P G K r (putE t d c) σ
def kS (K : Env → St → Prop) (r : List CO) (t : Env) (d : Option Nat) (c : AV) (σ : St) : Prop := aS K σ r (putE t d c)
def o1 (x : Option AV) (σ : St) (K : AV → St → Prop) : Prop := optK x fun r => K r σ
def oPk (q : Bool) (a b : XV) (t : Env) (σ : St) (K : AV → St → Prop) : Prop := o1 (if q then xv t a else xv t b) σ K
def oPick (v : Option AV) (a b : XV) (t : Env) (σ : St) (K : AV → St → Prop) : Prop := optK v fun v => match v with
    | .bool q => oPk q a b t σ K
    | _ => False
def oSt (x : Option St) (K : AV → St → Prop) : Prop := optK x fun σ => K undefA σ
def oStore (n : Nat) (p c : Option AV) (σ : St) (K : AV → St → Prop) : Prop := optK p fun p => optK c fun c => oSt (stX n σ p c) K
def oBox (ty : TypeId) (c : Option AV) (σ : St) (K : AV → St → Prop) : Prop := optK c fun c => K (.vp σ.vars.length 0) (σ.pushV (.cells ty (cellsA c)))
def oMks (e : TypeId) (z : Nat) (zero : List AV) (len : Nat) (qs : Option (List (Nat × AV))) (σ : St) (K : AV → St → Prop) : Prop := optK qs fun qs => pairK (mksX e z zero len σ qs) K
def oApp (e : TypeId) (z b : Nat) (s x : Option AV) (σ : St) (K : AV → St → Prop) : Prop := optK s fun s => optK x fun x => pairK (appX e z b σ s x) K
def oMore (m : MO) (as : Option (List AV)) (σ : St) (K : AV → St → Prop) : Prop := optK as fun as => pairK (moreX m σ as) K
def oCall (P : Program) (G : GT) (f : Option AV) (as : Option (List AV)) (σ : St) (K : AV → St → Prop) : Prop := optK f fun v => optK as fun as => match v with
    | .fn (.func g) first cap => ACalls P G g (first ++ as ++ cap) σ K
    | _ => False
def brG (b : Bool) (P : Program) (G : GT) (K : Env → St → Prop) (d : Option Nat) (x : X) (r : List CO) (t : Env) (σ : St) : Prop :=
  if b then aX P G t σ (kL P G K r t d) x else aL P G K r (putE t d undefA) σ
def brH (b : Bool) (K : Env → St → Prop) (d : Option Nat) (x : X) (r : List CO) (t : Env) (σ : St) : Prop :=
  if b then o1 (xP t σ x) σ (kS K r t d) else aS K σ r (putE t d undefA)
def oG (v : Option AV) (w : Bool) (P : Program) (G : GT) (K : Env → St → Prop) (d : Option Nat) (x : X) (r : List CO) (t : Env) (σ : St) : Prop :=
  match v with
  | some (.bool b) => brG (b == w) P G K d x r t σ
  | some _ => aL P G K r (putE t d undefA) σ
  | none => False
def oH (v : Option AV) (w : Bool) (K : Env → St → Prop) (d : Option Nat) (x : X) (r : List CO) (t : Env) (σ : St) : Prop :=
  match v with
  | some (.bool b) => brH (b == w) K d x r t σ
  | some _ => aS K σ r (putE t d undefA)
  | none => False
def kHq (P : Program) (G : GT) (K : Env → St → Prop) (S : St → Prop) (r : CM) (t : Env) (d : Option Nat) (c : AV) (σ : St) : Prop := aH P G K r S (putE t d c) σ
def kHr (P : Program) (G : GT) (K : Env → St → Prop) (S : St → Prop) (x : X) (r : CM) (t : Env) (d : Option Nat) (c : AV) (σ : St) : Prop := aH P G K r (pin S t x c) (putE t d c) σ
def kHe (P : Program) (G : GT) (K : Env → St → Prop) (S : St → Prop) (r : CM) (t : Env) (d : Option Nat) (c : AV) (σ : St) : Prop := S σ ∧ aH P G K r S (putE t d c) σ
def kHf (P : Program) (G : GT) (K : Env → St → Prop) (r : CM) (t : Env) (d : Option Nat) (c : AV) (σ : St) : Prop := aH P G K r topS (putE t d c) σ
def brD (b : Bool) (P : Program) (G : GT) (K : Env → St → Prop) (S : St → Prop) (n : CM) (d : Option Nat) (r : CM) (t : Env) (σ : St) : Prop :=
  if b then aH P G K n S t σ else aH P G K r S (putE t d undefA) σ
def oD (v : Option AV) (w : Bool) (P : Program) (G : GT) (K : Env → St → Prop) (S : St → Prop) (n : CM) (d : Option Nat) (r : CM) (t : Env) (σ : St) : Prop :=
  match v with
  | some (.bool b) => brD (b == w) P G K S n d r t σ
  | some _ => aH P G K r S (putE t d undefA) σ
  | none => False
def brC (b : Bool) (P : Program) (T : TT) (G : GT) (x y : CC) (Q : EQ) (t : Env) (σ : St) : Prop := if b then aC P T G x Q t σ else aC P T G y Q t σ
def oCond (v : Option AV) (P : Program) (T : TT) (G : GT) (x y : CC) (Q : EQ) (t : Env) (σ : St) : Prop := optK v fun v => match v with
    | .bool b => brC b P T G x y Q t σ
    | _ => False
def oRes (l : Option (List AV)) (σ : St) (Q : AV → St → Prop) : Prop := optK l fun l => Q (oneOr l) σ

theorem brG_split {b : Bool} {P : Program} {G : GT} {K : Env → St → Prop} {d : Option Nat} {x : X} {r : List CO} {t : Env} {σ : St}
    (h1 : b = true → aX P G t σ (kL P G K r t d) x) (h2 : b = false → aL P G K r (putE t d undefA) σ) : brG b P G K d x r t σ := by
  cases b
  · exact h2 rfl
  · exact h1 rfl
theorem brC_split {b : Bool} {P : Program} {T : TT} {G : GT} {x y : CC} {Q : EQ} {t : Env} {σ : St}
    (h1 : b = true → aC P T G x Q t σ) (h2 : b = false → aC P T G y Q t σ) : brC b P T G x y Q t σ := by
  cases b
  · exact h2 rfl
  · exact h1 rfl

section
variable {P : Program} {T : TT} {G : GT}
/-- Steering, and sequences of operations. -/
theorem walkC :
    (∀ (P : Program) (T : TT) (G : GT) (Q : EQ) (t : Env) (σ : St), aC P T G .skip Q t σ = Q .normal t σ) ∧
    (∀ (P : Program) (T : TT) (G : GT) (Q : EQ) (l : List CO) (t : Env) (σ : St), aC P T G (.ops l) Q t σ = aL P G (Q .normal) l t σ) ∧
    (∀ (P : Program) (T : TT) (G : GT) (Q : EQ) (l : List CO) (t : Env) (σ : St), aC P T G (.draw l) Q t σ = aS (Q .normal) σ l t) ∧
    (∀ (P : Program) (T : TT) (G : GT) (Q : EQ) (x y : CC) (t : Env) (σ : St), aC P T G (.seq x y) Q t σ = aC P T G x (thenE (aC P T G y Q) Q) t σ) ∧
    (∀ (P : Program) (T : TT) (G : GT) (Q : EQ) (c : XV) (x y : CC) (t : Env) (σ : St), aC P T G (.cond c x y) Q t σ = oCond (xv t c) P T G x y Q t σ) ∧
    (∀ (P : Program) (T : TT) (G : GT) (Q : EQ) (id : Nat) (c : CC) (t : Env) (σ : St), aC P T G (.block id c) Q t σ = aC P T G c (blockE id Q) t σ) ∧
    (∀ (P : Program) (T : TT) (G : GT) (Q : EQ) (c : CC) (t : Env) (σ : St), aC P T G (.loop c) Q t σ = LoopC P T G c Q t σ) ∧
    (∀ (P : Program) (T : TT) (G : GT) (Q : EQ) (id : Nat) (t : Env) (σ : St), aC P T G (.exit id) Q t σ = Q (.exit id) t σ) ∧
    (∀ (P : Program) (T : TT) (G : GT) (Q : EQ) (t : Env) (σ : St), aC P T G .ret Q t σ = Q .ret t σ) ∧
    (∀ (R : Env → St → Prop) (Q : EQ) (t : Env) (σ : St), thenE R Q .normal t σ = R t σ) ∧
    (∀ (R : Env → St → Prop) (Q : EQ) (id : Nat) (t : Env) (σ : St), thenE R Q (.exit id) t σ = Q (.exit id) t σ) ∧
    (∀ (R : Env → St → Prop) (Q : EQ) (t : Env) (σ : St), thenE R Q .ret t σ = Q .ret t σ) ∧
    (∀ (id : Nat) (Q : EQ) (t : Env) (σ : St), blockE id Q .normal t σ = Q .normal t σ) ∧
    (∀ (id : Nat) (Q : EQ) (t : Env) (σ : St), blockE id Q .ret t σ = Q .ret t σ) ∧
    (∀ (id j : Nat) (Q : EQ) (t : Env) (σ : St), blockE id Q (.exit j) t σ = if j = id then Q .normal t σ else Q (.exit j) t σ) ∧
    (∀ (rs : List XR) (Q : AV → St → Prop) (t : Env) (σ : St), retQ rs Q .ret t σ = oRes (resX t σ rs) σ Q) ∧
    (∀ (rs : List XR) (Q : AV → St → Prop) (t : Env) (σ : St), retQ rs Q .normal t σ = oRes (resX t σ rs) σ Q) ∧
    (∀ (l : List AV) (Q : AV → St → Prop) (σ : St), oRes (some l) σ Q = Q (oneOr l) σ) ∧
    (∀ (P : Program) (T : TT) (G : GT) (b : Bool) (x y : CC) (Q : EQ) (t : Env) (σ : St), oCond (some (.bool b)) P T G x y Q t σ = brC b P T G x y Q t σ) ∧
    (∀ (P : Program) (T : TT) (G : GT) (x y : CC) (Q : EQ) (t : Env) (σ : St), brC true P T G x y Q t σ = aC P T G x Q t σ) ∧
    (∀ (P : Program) (T : TT) (G : GT) (x y : CC) (Q : EQ) (t : Env) (σ : St), brC false P T G x y Q t σ = aC P T G y Q t σ) ∧
    (∀ (P : Program) (G : GT) (K : Env → St → Prop) (t : Env) (σ : St), aL P G K [] t σ = K t σ) ∧
    (∀ (P : Program) (G : GT) (K : Env → St → Prop) (d : Option Nat) (x : X) (r : List CO) (t : Env) (σ : St), aL P G K (⟨d, none, x⟩ :: r) t σ = aX P G t σ (kL P G K r t d) x) ∧
    (∀ (P : Program) (G : GT) (K : Env → St → Prop) (d : Option Nat) (g : Nat) (w : Bool) (x : X) (r : List CO) (t : Env) (σ : St), aL P G K (⟨d, some (g, w), x⟩ :: r) t σ = oG (t g) w P G K d x r t σ) ∧
    (∀ (P : Program) (G : GT) (K : Env → St → Prop) (d : Option Nat) (x : X) (r : List CO) (t : Env) (σ : St), brG true P G K d x r t σ = aX P G t σ (kL P G K r t d) x) ∧
    (∀ (P : Program) (G : GT) (K : Env → St → Prop) (d : Option Nat) (x : X) (r : List CO) (t : Env) (σ : St), brG false P G K d x r t σ = aL P G K r (putE t d undefA) σ) ∧
    (∀ (P : Program) (G : GT) (K : Env → St → Prop) (r : List CO) (t : Env) (d : Option Nat) (c : AV) (σ : St), kL P G K r t d c σ = aL P G K r (putE t d c) σ) ∧
    (∀ (P : Program) (G : GT) (K : Env → St → Prop) (b w : Bool) (d : Option Nat) (x : X) (r : List CO) (t : Env) (σ : St), oG (some (.bool b)) w P G K d x r t σ = brG (b == w) P G K d x r t σ) ∧
    (∀ (P : Program) (G : GT) (K : Env → St → Prop) (w : Bool) (d : Option Nat) (x : X) (r : List CO) (t : Env) (σ : St), oG (some undefA) w P G K d x r t σ = aL P G K r (putE t d undefA) σ) ∧
    (∀ (t : Env) (d n : Nat) (c : AV), put t d c n = if n = d then some c else t n) ∧
    (∀ (t : List AV) (n : Nat), E t n = t[n]?) ∧
    (∀ (t : Env) (d : Nat) (c : AV), putE t (some d) c = put t d c) ∧
    (∀ (t : Env) (c : AV), putE t none c = t) :=
  by refine ⟨?_, ?_, ?_, ?_, ?_, ?_, ?_, ?_, ?_, ?_, ?_, ?_, ?_, ?_, ?_, ?_, ?_, ?_, ?_, ?_, ?_, ?_, ?_, ?_, ?_, ?_, ?_, ?_, ?_, ?_, ?_, ?_, ?_⟩ <;> intros <;> rfl
/-- Regions that only draw. -/
theorem walkS :
    (∀ (K : Env → St → Prop) (t : Env) (σ : St), aS K σ [] t = K t σ) ∧
    (∀ (K : Env → St → Prop) (d : Option Nat) (x : X) (r : List CO) (t : Env) (σ : St), aS K σ (⟨d, none, x⟩ :: r) t = o1 (xP t σ x) σ (kS K r t d)) ∧
    (∀ (K : Env → St → Prop) (d : Option Nat) (g : Nat) (w : Bool) (x : X) (r : List CO) (t : Env) (σ : St), aS K σ (⟨d, some (g, w), x⟩ :: r) t = oH (t g) w K d x r t σ) ∧
    (∀ (K : Env → St → Prop) (d : Option Nat) (x : X) (r : List CO) (t : Env) (σ : St), brH true K d x r t σ = o1 (xP t σ x) σ (kS K r t d)) ∧
    (∀ (K : Env → St → Prop) (d : Option Nat) (x : X) (r : List CO) (t : Env) (σ : St), brH false K d x r t σ = aS K σ r (putE t d undefA)) ∧
    (∀ (K : Env → St → Prop) (b w : Bool) (d : Option Nat) (x : X) (r : List CO) (t : Env) (σ : St), oH (some (.bool b)) w K d x r t σ = brH (b == w) K d x r t σ) ∧
    (∀ (K : Env → St → Prop) (w : Bool) (d : Option Nat) (x : X) (r : List CO) (t : Env) (σ : St), oH (some undefA) w K d x r t σ = aS K σ r (putE t d undefA)) ∧
    (∀ (K : Env → St → Prop) (r : List CO) (t : Env) (d : Option Nat) (c : AV) (σ : St), kS K r t d c σ = aS K σ r (putE t d c)) :=
  by refine ⟨?_, ?_, ?_, ?_, ?_, ?_, ?_, ?_⟩ <;> intros <;> rfl
/-- Regions that draw and turn memory. -/
theorem walkD :
    (∀ (P : Program) (T : TT) (G : GT) (Q : EQ) (m : CM) (t : Env) (σ : St), aC P T G (.mix m) Q t σ = aH P G (Q .normal) m topS t σ) ∧
    (∀ (P : Program) (G : GT) (K : Env → St → Prop) (S : St → Prop) (t : Env) (σ : St), aH P G K .done S t σ = K t σ) ∧
    (∀ (P : Program) (G : GT) (K : Env → St → Prop) (S : St → Prop) (d : Option Nat) (x : X) (r : CM) (t : Env) (σ : St), aH P G K (.q 0 ⟨d, none, x⟩ r) S t σ = o1 (xP t σ x) σ (kHq P G K S r t d)) ∧
    (∀ (P : Program) (G : GT) (K : Env → St → Prop) (S : St → Prop) (d : Option Nat) (x : X) (r : CM) (t : Env) (σ : St), aH P G K (.q 1 ⟨d, none, x⟩ r) S t σ = o1 (xP t σ x) σ (kHr P G K S x r t d)) ∧
    (∀ (P : Program) (G : GT) (K : Env → St → Prop) (S : St → Prop) (d : Option Nat) (x : X) (r : CM) (t : Env) (σ : St), aH P G K (.e ⟨d, none, x⟩ r) S t σ = aX P G t σ (kHe P G K S r t d) x) ∧
    (∀ (P : Program) (G : GT) (K : Env → St → Prop) (S : St → Prop) (a b : CM) (t : Env) (σ : St), aH P G K (.alt a b) S t σ = (aH P G K a S t σ ∧ aH P G K b S t σ)) ∧
    (∀ (P : Program) (G : GT) (K : Env → St → Prop) (S : St → Prop) (m : Nat) (d : Option Nat) (g : Nat) (w : Bool) (x : X) (r : CM) (t : Env) (σ : St), aH P G K (.q m ⟨d, some (g, w), x⟩ r) S t σ = oD (t g) w P G K S (.q m ⟨d, none, x⟩ r) d r t σ) ∧
    (∀ (P : Program) (G : GT) (K : Env → St → Prop) (S : St → Prop) (d : Option Nat) (g : Nat) (w : Bool) (x : X) (r : CM) (t : Env) (σ : St), aH P G K (.e ⟨d, some (g, w), x⟩ r) S t σ = oD (t g) w P G K S (.e ⟨d, none, x⟩ r) d r t σ) ∧
    (∀ (P : Program) (G : GT) (K : Env → St → Prop) (S : St → Prop) (n : CM) (d : Option Nat) (r : CM) (t : Env) (σ : St), brD true P G K S n d r t σ = aH P G K n S t σ) ∧
    (∀ (P : Program) (G : GT) (K : Env → St → Prop) (S : St → Prop) (n : CM) (d : Option Nat) (r : CM) (t : Env) (σ : St), brD false P G K S n d r t σ = aH P G K r S (putE t d undefA) σ) ∧
    (∀ (P : Program) (G : GT) (K : Env → St → Prop) (S : St → Prop) (b w : Bool) (n : CM) (d : Option Nat) (r : CM) (t : Env) (σ : St), oD (some (.bool b)) w P G K S n d r t σ = brD (b == w) P G K S n d r t σ) ∧
    (∀ (P : Program) (G : GT) (K : Env → St → Prop) (S : St → Prop) (w : Bool) (n : CM) (d : Option Nat) (r : CM) (t : Env) (σ : St), oD (some undefA) w P G K S n d r t σ = aH P G K r S (putE t d undefA) σ) ∧
    (∀ (P : Program) (G : GT) (K : Env → St → Prop) (S : St → Prop) (r : CM) (t : Env) (d : Option Nat) (c : AV) (σ : St), kHq P G K S r t d c σ = aH P G K r S (putE t d c) σ) ∧
    (∀ (P : Program) (G : GT) (K : Env → St → Prop) (S : St → Prop) (x : X) (r : CM) (t : Env) (d : Option Nat) (c : AV) (σ : St), kHr P G K S x r t d c σ = aH P G K r (pin S t x c) (putE t d c) σ) ∧
    (∀ (P : Program) (G : GT) (K : Env → St → Prop) (S : St → Prop) (r : CM) (t : Env) (d : Option Nat) (c : AV) (σ : St), kHe P G K S r t d c σ = (S σ ∧ aH P G K r S (putE t d c) σ)) ∧
    (∀ (P : Program) (G : GT) (K : Env → St → Prop) (S : St → Prop) (d : Option Nat) (x : X) (r : CM) (t : Env) (σ : St), aH P G K (.f ⟨d, none, x⟩ r) S t σ = aX P G t σ (kHf P G K r t d) x) ∧
    (∀ (P : Program) (G : GT) (K : Env → St → Prop) (S : St → Prop) (d : Option Nat) (g : Nat) (w : Bool) (x : X) (r : CM) (t : Env) (σ : St), aH P G K (.f ⟨d, some (g, w), x⟩ r) S t σ = oD (t g) w P G K S (.f ⟨d, none, x⟩ r) d r t σ) ∧
    (∀ (P : Program) (G : GT) (K : Env → St → Prop) (r : CM) (t : Env) (d : Option Nat) (c : AV) (σ : St), kHf P G K r t d c σ = aH P G K r topS (putE t d c) σ) ∧
    (∀ (S : St → Prop) (t : Env) (x : X) (c : AV) (σ : St), pin S t x c σ = (S σ ∧ xP t σ x = some c)) ∧
    (∀ (σ : St), topS σ = True) ∧ (∀ (v : AV), (some v = some v) = True) ∧ (∀ (p : Prop), (p ∧ True) = p) := by
  refine ⟨?_, ?_, ?_, ?_, ?_, ?_, ?_, ?_, ?_, ?_, ?_, ?_, ?_, ?_, ?_, ?_, ?_, ?_, ?_, ?_, ?_, ?_⟩ <;> intros <;> first | rfl | (simp; done) | skip
  · rename_i P G K S m d g w x r t σ
    rcases m with _ | m <;>
    · show guardX t (some (g, w)) _ _ = _
      unfold guardX oD
      simp only []
      cases t g with
      | none => rfl
      | some v => cases v <;> rfl
/-- Values, and what an operation leaves. -/
theorem walkV :
    (∀ (t : Env) (n : Nat), xv t (.t n) = t n) ∧
    (∀ (t : Env) (c : AV), xv t (.k c) = some c) ∧
    (∀ (t : Env), xvs t [] = some []) ∧
    (∀ (t : Env) (x : XV) (xs : List XV), xvs t (x :: xs) = (xv t x).bind fun c => (xvs t xs).map (c :: ·)) ∧
    (∀ (t : Env), xps t [] = some []) ∧
    (∀ (t : Env) (i : Nat) (x : XV) (xs : List (Nat × XV)), xps t ((i, x) :: xs) = (xv t x).bind fun c => (xps t xs).map ((i, c) :: ·)) ∧
    (∀ (t : Env), xvo t none = some none) ∧
    (∀ (t : Env) (x : XV), xvo t (some x) = (xv t x).map some) ∧
    (∀ (t : Env) (σ : St), resX t σ [] = some []) ∧
    (∀ (t : Env) (σ : St) (n : Nat) (r : List XR), resX t σ (.t n :: r) = (t n).bind fun c => (resX t σ r).map (c :: ·)) ∧
    (∀ (t : Env) (σ : St) (a : Nat) (n : Option Nat) (r : List XR), resX t σ (.c a n :: r) = (t a).bind fun p => (ldX n σ p).bind fun c => (resX t σ r).map (c :: ·)) ∧
    (∀ (c : AV), oneOr [c] = c) ∧ (oneOr [] = .tup []) ∧ (∀ (c d : AV) (l : List AV), oneOr (c :: d :: l) = .tup (c :: d :: l)) ∧
    (∀ (t : Env) (zero : List AV), fillX t zero [] = some zero) ∧
    (∀ (t : Env) (zero : List AV) (off z : Nat) (x : XV) (r : List (Nat × Nat × XV)), fillX t zero ((off, z, x) :: r) = (xv t x).bind fun c => if (cellsA c).length = z ∧ off + z ≤ zero.length then fillX t (setL zero off (cellsA c)) r else none) := by
  refine ⟨fun _ _ => rfl, fun _ _ => rfl, fun _ => rfl, fun t x xs => ?_, fun _ => rfl, fun t i x xs => ?_, fun _ => rfl, fun _ _ => rfl, fun _ _ => rfl, fun _ _ _ _ => rfl, fun _ _ _ _ _ => rfl, fun _ => rfl, rfl, fun _ _ _ => rfl, fun _ _ => rfl, fun t zero off z x r => ?_⟩
  · simp only [xvs]
    cases xv t x <;> cases xvs t xs <;> rfl
  · simp only [xps]
    cases xv t x <;> cases xps t xs <;> rfl
  · simp only [fillX]
    cases xv t x <;> rfl
/-- An operation each. -/
theorem walkX :
    (∀ (P : Program) (G : GT) (t : Env) (σ : St) (K : AV → St → Prop) (x : XV), aX P G t σ K (.mv x) = o1 (xv t x) σ K) ∧
    (∀ (P : Program) (G : GT) (t : Env) (σ : St) (K : AV → St → Prop) (zero : List AV) (ps : List (Nat × Nat × XV)), aX P G t σ K (.mk zero ps) = o1 ((fillX t zero ps).map .agg) σ K) ∧
    (∀ (P : Program) (G : GT) (t : Env) (σ : St) (K : AV → St → Prop) (n : Option Nat) (a : XV), aX P G t σ K (.ld n a) = o1 ((xv t a).bind (ldX n σ)) σ K) ∧
    (∀ (P : Program) (G : GT) (t : Env) (σ : St) (K : AV → St → Prop) (x : XV), aX P G t σ K (.nilc x) = o1 ((xv t x).bind (nilA σ)) σ K) ∧
    (∀ (P : Program) (G : GT) (t : Env) (σ : St) (K : AV → St → Prop) (op : BinOp) (kd : Kd) (c : Bool) (x y : XV), aX P G t σ K (.bin op kd c x y) = o1 ((xv t x).bind fun a => (xv t y).bind fun b => binX op kd c a b) σ K) ∧
    (∀ (P : Program) (G : GT) (t : Env) (σ : St) (K : AV → St → Prop) (op : UnOp) (x : XV), aX P G t σ K (.un op x) = o1 ((xv t x).bind (unA op)) σ K) ∧
    (∀ (P : Program) (G : GT) (t : Env) (σ : St) (K : AV → St → Prop) (k : IntKind) (x : XV), aX P G t σ K (.cvi k x) = o1 ((xv t x).bind (cviX k)) σ K) ∧
    (∀ (P : Program) (G : GT) (t : Env) (σ : St) (K : AV → St → Prop) (x : XV), aX P G t σ K (.cvs x) = o1 ((xv t x).bind cvsX) σ K) ∧
    (∀ (P : Program) (G : GT) (t : Env) (σ : St) (K : AV → St → Prop) (x : XV), aX P G t σ K (.strs x) = o1 ((xv t x).bind strsX) σ K) ∧
    (∀ (P : Program) (G : GT) (t : Env) (σ : St) (K : AV → St → Prop) (ty : TypeId) (x : XV), aX P G t σ K (.ifc ty x) = o1 ((xv t x).map (.ifc ty)) σ K) ∧
    (∀ (P : Program) (G : GT) (t : Env) (σ : St) (K : AV → St → Prop) (f : Fn) (a b : List XV), aX P G t σ K (.mkf f a b) = o1 ((xvs t a).bind fun c => (xvs t b).map fun d => .fn f c d) σ K) ∧
    (∀ (P : Program) (G : GT) (t : Env) (σ : St) (K : AV → St → Prop) (z : Nat) (x : XV) (lo hi mx : Option XV), aX P G t σ K (.sls z x lo hi mx) = o1 ((xv t x).bind fun c => (xvo t lo).bind fun l => (xvo t hi).bind fun h => (xvo t mx).bind fun m => slsX z σ c l h m) σ K) ∧
    (∀ (P : Program) (G : GT) (t : Env) (σ : St) (K : AV → St → Prop) (x : XV) (lo hi : Option XV), aX P G t σ K (.slstr x lo hi) = o1 ((xv t x).bind fun c => (xvo t lo).bind fun l => (xvo t hi).bind fun h => slstrX c l h) σ K) ∧
    (∀ (P : Program) (G : GT) (t : Env) (σ : St) (K : AV → St → Prop) (off : Nat) (x : XV), aX P G t σ K (.fa off x) = o1 ((xv t x).bind (faX off σ)) σ K) ∧
    (∀ (P : Program) (G : GT) (t : Env) (σ : St) (K : AV → St → Prop) (off : Nat) (n : Option Nat) (x : XV), aX P G t σ K (.fl off n x) = o1 ((xv t x).bind (flX off n)) σ K) ∧
    (∀ (P : Program) (G : GT) (t : Env) (σ : St) (K : AV → St → Prop) (len z : Nat) (x i : XV), aX P G t σ K (.ixa len z x i) = o1 ((xv t x).bind fun a => (xv t i).bind fun b => ixaX len z a b) σ K) ∧
    (∀ (P : Program) (G : GT) (t : Env) (σ : St) (K : AV → St → Prop) (z : Nat) (x i : XV), aX P G t σ K (.ixs z x i) = o1 ((xv t x).bind fun a => (xv t i).bind fun b => ixsX z σ a b) σ K) ∧
    (∀ (P : Program) (G : GT) (t : Env) (σ : St) (K : AV → St → Prop) (x i : XV), aX P G t σ K (.ixstr x i) = o1 ((xv t x).bind fun a => (xv t i).bind fun b => ixstrX a b) σ K) ∧
    (∀ (P : Program) (G : GT) (t : Env) (σ : St) (K : AV → St → Prop) (len z : Nat) (n : Option Nat) (x i : XV), aX P G t σ K (.ixarr len z n x i) = o1 ((xv t x).bind fun a => (xv t i).bind fun b => ixarrX len z n a b) σ K) ∧
    (∀ (P : Program) (G : GT) (t : Env) (σ : St) (K : AV → St → Prop) (x : XV) (i : Nat), aX P G t σ K (.ex x i) = o1 ((xv t x).bind fun a => extrA a i) σ K) ∧
    (∀ (P : Program) (G : GT) (t : Env) (σ : St) (K : AV → St → Prop) (x : XV), aX P G t σ K (.lens x) = o1 ((xv t x).bind lensX) σ K) ∧
    (∀ (P : Program) (G : GT) (t : Env) (σ : St) (K : AV → St → Prop) (x : XV), aX P G t σ K (.lenl x) = o1 ((xv t x).bind lenlX) σ K) ∧
    (∀ (P : Program) (G : GT) (t : Env) (σ : St) (K : AV → St → Prop) (n : Nat) (x : XV), aX P G t σ K (.lenarr n x) = o1 ((xv t x).map fun _ => .int .i64 n) σ K) ∧
    (∀ (r : AV) (σ : St) (K : AV → St → Prop), o1 (some r) σ K = K r σ) ∧
    (∀ (c : Prop) [Decidable c] (x : Option AV) (σ : St) (K : AV → St → Prop), o1 (if c then x else none) σ K = (c ∧ o1 x σ K)) := by
  refine ⟨?_, ?_, ?_, ?_, ?_, ?_, ?_, ?_, ?_, ?_, ?_, ?_, ?_, ?_, ?_, ?_, ?_, ?_, ?_, ?_, ?_, ?_, ?_, ?_, ?_⟩ <;> intros <;> first | rfl | skip
  rename_i c _ x σ K
  by_cases h : c
  · rw [if_pos h]; simp [h]
  · rw [if_neg h]; simp [h, o1, optK]
/-- An operation each, in a region that only draws. -/
theorem walkP :
    (∀ (t : Env) (σ : St) (x : XV), xP t σ (.mv x) = (xv t x)) ∧
    (∀ (t : Env) (σ : St) (zero : List AV) (ps : List (Nat × Nat × XV)), xP t σ (.mk zero ps) = ((fillX t zero ps).map .agg)) ∧
    (∀ (t : Env) (σ : St) (n : Option Nat) (a : XV), xP t σ (.ld n a) = ((xv t a).bind (ldX n σ))) ∧
    (∀ (t : Env) (σ : St) (x : XV), xP t σ (.nilc x) = ((xv t x).bind (nilA σ))) ∧
    (∀ (t : Env) (σ : St) (op : BinOp) (kd : Kd) (c : Bool) (x y : XV), xP t σ (.bin op kd c x y) = ((xv t x).bind fun a => (xv t y).bind fun b => binX op kd c a b)) ∧
    (∀ (t : Env) (σ : St) (op : UnOp) (x : XV), xP t σ (.un op x) = ((xv t x).bind (unA op))) ∧
    (∀ (t : Env) (σ : St) (k : IntKind) (x : XV), xP t σ (.cvi k x) = ((xv t x).bind (cviX k))) ∧
    (∀ (t : Env) (σ : St) (x : XV), xP t σ (.cvs x) = ((xv t x).bind cvsX)) ∧
    (∀ (t : Env) (σ : St) (x : XV), xP t σ (.strs x) = ((xv t x).bind strsX)) ∧
    (∀ (t : Env) (σ : St) (ty : TypeId) (x : XV), xP t σ (.ifc ty x) = ((xv t x).map (.ifc ty))) ∧
    (∀ (t : Env) (σ : St) (f : Fn) (a b : List XV), xP t σ (.mkf f a b) = ((xvs t a).bind fun c => (xvs t b).map fun d => .fn f c d)) ∧
    (∀ (t : Env) (σ : St) (z : Nat) (x : XV) (lo hi mx : Option XV), xP t σ (.sls z x lo hi mx) = ((xv t x).bind fun c => (xvo t lo).bind fun l => (xvo t hi).bind fun h => (xvo t mx).bind fun m => slsX z σ c l h m)) ∧
    (∀ (t : Env) (σ : St) (x : XV) (lo hi : Option XV), xP t σ (.slstr x lo hi) = ((xv t x).bind fun c => (xvo t lo).bind fun l => (xvo t hi).bind fun h => slstrX c l h)) ∧
    (∀ (t : Env) (σ : St) (off : Nat) (x : XV), xP t σ (.fa off x) = ((xv t x).bind (faX off σ))) ∧
    (∀ (t : Env) (σ : St) (off : Nat) (n : Option Nat) (x : XV), xP t σ (.fl off n x) = ((xv t x).bind (flX off n))) ∧
    (∀ (t : Env) (σ : St) (len z : Nat) (x i : XV), xP t σ (.ixa len z x i) = ((xv t x).bind fun a => (xv t i).bind fun b => ixaX len z a b)) ∧
    (∀ (t : Env) (σ : St) (z : Nat) (x i : XV), xP t σ (.ixs z x i) = ((xv t x).bind fun a => (xv t i).bind fun b => ixsX z σ a b)) ∧
    (∀ (t : Env) (σ : St) (x i : XV), xP t σ (.ixstr x i) = ((xv t x).bind fun a => (xv t i).bind fun b => ixstrX a b)) ∧
    (∀ (t : Env) (σ : St) (len z : Nat) (n : Option Nat) (x i : XV), xP t σ (.ixarr len z n x i) = ((xv t x).bind fun a => (xv t i).bind fun b => ixarrX len z n a b)) ∧
    (∀ (t : Env) (σ : St) (x : XV) (i : Nat), xP t σ (.ex x i) = ((xv t x).bind fun a => extrA a i)) ∧
    (∀ (t : Env) (σ : St) (x : XV), xP t σ (.lens x) = ((xv t x).bind lensX)) ∧
    (∀ (t : Env) (σ : St) (x : XV), xP t σ (.lenl x) = ((xv t x).bind lenlX)) ∧
    (∀ (t : Env) (σ : St) (n : Nat) (x : XV), xP t σ (.lenarr n x) = ((xv t x).map fun _ => .int .i64 n)) := by
  refine ⟨?_, ?_, ?_, ?_, ?_, ?_, ?_, ?_, ?_, ?_, ?_, ?_, ?_, ?_, ?_, ?_, ?_, ?_, ?_, ?_, ?_, ?_, ?_⟩ <;> intros <;> rfl
/-- Operations that turn memory, picks and calls. -/
theorem walkM :
    (∀ (P : Program) (G : GT) (t : Env) (σ : St) (K : AV → St → Prop) (c a b : XV), aX P G t σ K (.pick c a b) = oPick (xv t c) a b t σ K) ∧
    (∀ (t : Env) (σ : St) (K : AV → St → Prop) (q : Bool) (a b : XV), oPick (some (.bool q)) a b t σ K = oPk q a b t σ K) ∧
    (∀ (t : Env) (σ : St) (K : AV → St → Prop) (a b : XV), oPk true a b t σ K = o1 (xv t a) σ K) ∧
    (∀ (t : Env) (σ : St) (K : AV → St → Prop) (a b : XV), oPk false a b t σ K = o1 (xv t b) σ K) ∧
    (∀ (P : Program) (G : GT) (t : Env) (σ : St) (K : AV → St → Prop) (n : Nat) (a x : XV), aX P G t σ K (.st n a x) = oStore n (xv t a) (xv t x) σ K) ∧
    (∀ (σ : St) (K : AV → St → Prop) (n : Nat) (p c : AV), oStore n (some p) (some c) σ K = oSt (stX n σ p c) K) ∧
    (∀ (σ : St) (K : AV → St → Prop), oSt (some σ) K = K undefA σ) ∧
    (∀ (c : Prop) [Decidable c] (x : Option St) (K : AV → St → Prop), oSt (if c then x else none) K = (c ∧ oSt x K)) ∧
    (∀ (P : Program) (G : GT) (t : Env) (σ : St) (K : AV → St → Prop) (ty : TypeId) (zero : List AV), aX P G t σ K (.alloc ty zero) = K (.vp σ.vars.length 0) (σ.pushV (.cells ty zero))) ∧
    (∀ (P : Program) (G : GT) (t : Env) (σ : St) (K : AV → St → Prop) (ty : TypeId) (x : XV), aX P G t σ K (.box ty x) = oBox ty (xv t x) σ K) ∧
    (∀ (σ : St) (K : AV → St → Prop) (ty : TypeId) (c : AV), oBox ty (some c) σ K = K (.vp σ.vars.length 0) (σ.pushV (.cells ty (cellsA c)))) ∧
    (∀ (P : Program) (G : GT) (t : Env) (σ : St) (K : AV → St → Prop) (e : TypeId) (z : Nat) (zero : List AV) (len : Nat) (ps : List (Nat × XV)), aX P G t σ K (.mks e z zero len ps) = oMks e z zero len (xps t ps) σ K) ∧
    (∀ (σ : St) (K : AV → St → Prop) (e : TypeId) (z : Nat) (zero : List AV) (len : Nat) (qs : List (Nat × AV)), oMks e z zero len (some qs) σ K = pairK (mksX e z zero len σ qs) K) ∧
    (∀ (P : Program) (G : GT) (t : Env) (σ : St) (K : AV → St → Prop) (e : TypeId) (z b : Nat) (s x : XV), aX P G t σ K (.app e z b s x) = oApp e z b (xv t s) (xv t x) σ K) ∧
    (∀ (σ : St) (K : AV → St → Prop) (e : TypeId) (z b : Nat) (s x : AV), oApp e z b (some s) (some x) σ K = pairK (appX e z b σ s x) K) ∧
    (∀ (r : AV) (σ : St) (K : AV → St → Prop), pairK (some (r, σ)) K = K r σ) ∧
    (∀ (c : Prop) [Decidable c] (x : Option (AV × St)) (K : AV → St → Prop), pairK (if c then x else none) K = (c ∧ pairK x K)) ∧
    (∀ (P : Program) (G : GT) (t : Env) (σ : St) (K : AV → St → Prop) (m : MO) (args : List XV), aX P G t σ K (.more m args) = oMore m (xvs t args) σ K) ∧
    (∀ (σ : St) (K : AV → St → Prop) (m : MO) (as : List AV), oMore m (some as) σ K = pairK (moreX m σ as) K) ∧
    (∀ (P : Program) (G : GT) (t : Env) (σ : St) (K : AV → St → Prop) (f : XV) (args : List XV), aX P G t σ K (.call f args) = oCall P G (xv t f) (xvs t args) σ K) ∧
    (∀ (P : Program) (G : GT) (σ : St) (K : AV → St → Prop) (g : FuncId) (first cap as : List AV), oCall P G (some (.fn (.func g) first cap)) (some as) σ K = ACalls P G g (first ++ as ++ cap) σ K) := by
  refine ⟨?_, ?_, ?_, ?_, ?_, ?_, ?_, ?_, ?_, ?_, ?_, ?_, ?_, ?_, ?_, ?_, ?_, ?_, ?_, ?_, ?_⟩ <;> intros <;> first | rfl | skip
  · rename_i P G t σ K c a b
    simp only [aX, oPick]
    congr 1
    funext v
    cases v <;> try rfl
    rename_i q
    cases q <;> rfl
  · rename_i c _ x K
    by_cases h : c
    · rw [if_pos h]; simp [h]
    · rw [if_neg h]; simp [h, oSt, optK]
  · exact pairK_if _ _
end
end Go.Ab
namespace Go.Ab
open Go Go.RowKit

/-- Values of two operands. -/
theorem walkB :
    (∀ (kd : Kd) (c : Bool) (k : IntKind) (a b : Int), binX .add kd c (.int k a) (.int k b) = some (.int k (k.wrap (a + b)))) ∧
    (∀ (kd : Kd) (c : Bool) (k : IntKind) (a b : Int), binX .sub kd c (.int k a) (.int k b) = some (.int k (k.wrap (a - b)))) ∧
    (∀ (kd : Kd) (c : Bool) (k : IntKind) (a b : Int), binX .mul kd c (.int k a) (.int k b) = some (.int k (k.wrap (a * b)))) ∧
    (∀ (kd : Kd) (c : Bool) (k : IntKind) (a b : Int), b ≠ 0 → binX .quo kd c (.int k a) (.int k b) = some (.int k (k.wrap (a.tdiv b)))) ∧
    (∀ (kd : Kd) (c : Bool) (k : IntKind) (a b : Int), b ≠ 0 → binX .rem kd c (.int k a) (.int k b) = some (.int k (a.tmod b))) ∧
    (∀ (kd : Kd) (c : Bool) (k : IntKind) (a b : Int), binX .and kd c (.int k a) (.int k b) = some (.int k (k.wrap (BitVec.ofInt k.bits a &&& BitVec.ofInt k.bits b).toNat))) ∧
    (∀ (kd : Kd) (c : Bool) (k : IntKind) (a b : Int), binX .or kd c (.int k a) (.int k b) = some (.int k (k.wrap (BitVec.ofInt k.bits a ||| BitVec.ofInt k.bits b).toNat))) ∧
    (∀ (kd : Kd) (c : Bool) (k : IntKind) (a b : Int), binX .xor kd c (.int k a) (.int k b) = some (.int k (k.wrap (BitVec.ofInt k.bits a ^^^ BitVec.ofInt k.bits b).toNat))) ∧
    (∀ (kd : Kd) (c : Bool) (k : IntKind) (a b : Int), binX .andNot kd c (.int k a) (.int k b) = some (.int k (k.wrap (BitVec.ofInt k.bits a &&& ~~~(BitVec.ofInt k.bits b)).toNat))) ∧
    (∀ (kd : Kd) (c : Bool) (k : IntKind) (a b : Int), binX .eql kd c (.int k a) (.int k b) = some (.bool (a == b))) ∧
    (∀ (kd : Kd) (c : Bool) (k : IntKind) (a b : Int), binX .neq kd c (.int k a) (.int k b) = some (.bool (a != b))) ∧
    (∀ (kd : Kd) (c : Bool) (k : IntKind) (a b : Int), binX .lss kd c (.int k a) (.int k b) = some (.bool (decide (a < b)))) ∧
    (∀ (kd : Kd) (c : Bool) (k : IntKind) (a b : Int), binX .leq kd c (.int k a) (.int k b) = some (.bool (decide (a ≤ b)))) ∧
    (∀ (kd : Kd) (c : Bool) (k : IntKind) (a b : Int), binX .gtr kd c (.int k a) (.int k b) = some (.bool (decide (b < a)))) ∧
    (∀ (kd : Kd) (c : Bool) (k : IntKind) (a b : Int), binX .geq kd c (.int k a) (.int k b) = some (.bool (decide (b ≤ a)))) ∧
    (∀ (kd : Kd) (c : Bool) (k k' : IntKind) (a b : Int), 0 ≤ b → binX .shl kd c (.int k a) (.int k' b) = some (.int k (k.wrap (a * 2 ^ (min b.toNat k.bits))))) ∧
    (∀ (kd : Kd) (c : Bool) (k k' : IntKind) (a b : Int), 0 ≤ b → binX .shr kd c (.int k a) (.int k' b) = some (.int k (a.fdiv (2 ^ (min b.toNat k.bits))))) ∧
    (∀ (kd : Kd) (c : Bool) (a b : List UInt8), a.length + b.length ≤ 9223372036854775807 → binX .add kd c (.str a) (.str b) = some (.str (a ++ b))) ∧
    (∀ (kd : Kd) (c : Bool) (a b : List UInt8), binX .eql kd c (.str a) (.str b) = some (.bool (a == b))) ∧
    (∀ (kd : Kd) (c : Bool) (a b : List UInt8), binX .neq kd c (.str a) (.str b) = some (.bool (!(a == b)))) ∧
    (∀ (c : Bool) (a b : Bool), binX .eql .bool c (.bool a) (.bool b) = some (.bool (a == b))) ∧
    (∀ (c : Bool) (a b : Bool), binX .neq .bool c (.bool a) (.bool b) = some (.bool (!(a == b)))) := by
  refine ⟨?_, ?_, ?_, ?_, ?_, ?_, ?_, ?_, ?_, ?_, ?_, ?_, ?_, ?_, ?_, ?_, ?_, ?_, ?_, ?_, ?_, ?_⟩ <;> intros <;>
    first
    | rfl
    | (simp only [binX, shOp, binI, shiftI, binS, if_true, if_false, Bool.false_eq_true]; done)
    | (simp only [binX, shOp, binI, shiftI, binS, if_true, if_false, Bool.false_eq_true]; first | rfl | (rw [if_neg (by assumption)]) | (rw [if_pos (by assumption)]) | (rw [if_neg (by omega)]))
/-- Against nil. -/
theorem walkN :
    (∀ (e : TypeId), binX .eql (.slice e) true .nils .nils = some (.bool true)) ∧
    (∀ (e : TypeId) (c : Bool) (l : List (List AV)), binX .eql (.slice e) c (.sl l) .nils = some (.bool false)) ∧
    (∀ (e : TypeId), binX .neq (.slice e) true .nils .nils = some (.bool false)) ∧
    (∀ (e : TypeId) (c : Bool) (l : List (List AV)), binX .neq (.slice e) c (.sl l) .nils = some (.bool true)) ∧
    (binX .eql .iface true .nili .nili = some (.bool true)) ∧
    (∀ (c : Bool) (t : TypeId) (v : AV), binX .eql .iface c (.ifc t v) .nili = some (.bool false)) ∧
    (binX .neq .iface true .nili .nili = some (.bool false)) ∧
    (∀ (c : Bool) (t : TypeId) (v : AV), binX .neq .iface c (.ifc t v) .nili = some (.bool true)) ∧
    (∀ (e : TypeId), binX .eql (.ptr e) true .nilp .nilp = some (.bool true)) ∧
    (∀ (e : TypeId) (c : Bool) (b o : Nat), binX .eql (.ptr e) c (.vp b o) .nilp = some (.bool false)) ∧
    (∀ (e : TypeId) (c : Bool) (l : List AV), binX .eql (.ptr e) c (.rp l) .nilp = some (.bool false)) ∧
    (∀ (e : TypeId), binX .neq (.ptr e) true .nilp .nilp = some (.bool false)) ∧
    (∀ (e : TypeId) (c : Bool) (b o : Nat), binX .neq (.ptr e) c (.vp b o) .nilp = some (.bool true)) ∧
    (∀ (e : TypeId) (c : Bool) (l : List AV), binX .neq (.ptr e) c (.rp l) .nilp = some (.bool true)) := by
  refine ⟨?_, ?_, ?_, ?_, ?_, ?_, ?_, ?_, ?_, ?_, ?_, ?_, ?_, ?_⟩ <;> intros <;> rfl
/-- Other values. -/
theorem walkU :
    (∀ (k : IntKind) (n : Int), unA .neg (.int k n) = some (.int k (k.wrap (0 - n)))) ∧
    (∀ (b : Bool), unA .not (.bool b) = some (.bool (!b))) ∧
    (∀ (k k' : IntKind) (n : Int), cviX k (.int k' n) = some (.int k (k.wrap n))) ∧
    (∀ (k : IntKind) (n : Int), cvsX (.int k n) = some (.str (Utf8.encode n).data.toList)) ∧
    (∀ (s : List UInt8), strsX (.str s) = some (.str s)) ∧
    (∀ (s : List UInt8), lensX (.str s) = some (.int .i64 s.length)) ∧
    (∀ (l : List (List AV)), lenlX (.sl l) = some (.int .i64 l.length)) ∧
    (lenlX .nils = some (.int .i64 0)) ∧ (lenlX .ez = some (.int .i64 0)) ∧
    (∀ (r o n : Nat), lenlX (.os r o n) = some (.int .i64 n)) ∧
    (∀ (l : List AV) (i : Nat), extrA (.tup l) i = l[i]?) ∧
    (∀ (l : List AV) (off : Nat), flX off none (.agg l) = l[off]?) ∧
    (∀ (l : List AV) (off n : Nat), flX off (some n) (.agg l) = if off + n ≤ l.length then some (.agg ((l.drop off).take n)) else none) ∧
    (∀ (s : List UInt8) (k : IntKind) (n : Int), 0 ≤ n → ixstrX (.str s) (.int k n) = (s[n.toNat]?).map fun b => .int .u8 b.toNat) ∧
    (∀ (lo hi : Option AV) (s : List UInt8), slstrX (.str s) lo hi = (bnd hi s.length s.length).bind fun h => (bnd lo h 0).bind fun l => some (.str ((s.drop l).take (h - l)))) ∧
    (∀ (top d : Nat), bnd none top d = some d) ∧
    (∀ (top d : Nat) (k : IntKind) (i : Int), 0 ≤ i → i ≤ top → bnd (some (.int k i)) top d = some i.toNat) ∧
    (∀ (l : List AV), cellsA (.agg l) = l) ∧ (∀ (k : IntKind) (n : Int), cellsA (.int k n) = [.int k n]) ∧ (∀ (s : List UInt8), cellsA (.str s) = [.str s]) ∧ (∀ (b : Bool), cellsA (.bool b) = [.bool b]) ∧
    (cellsA .nils = [.nils]) ∧ (cellsA .nilp = [.nilp]) ∧ (cellsA .nili = [.nili]) ∧ (cellsA .niln = [.niln]) ∧ (cellsA .ez = [.ez]) ∧
    (∀ (l : List (List AV)), cellsA (.sl l) = [.sl l]) ∧ (∀ (r o n : Nat), cellsA (.os r o n) = [.os r o n]) ∧ (∀ (t : TypeId) (v : AV), cellsA (.ifc t v) = [.ifc t v]) ∧ (∀ (b o : Nat), cellsA (.vp b o) = [.vp b o]) ∧
    (∀ (f : Fn) (a b : List AV), cellsA (.fn f a b) = [.fn f a b]) ∧ (∀ (l : List AV), cellsA (.rp l) = [.rp l]) ∧
    (∀ {α : Type} (l : List α) (o : Nat), setL l o [] = l) ∧ (∀ {α : Type} (l cs : List α) (o : Nat) (c : α), setL l o (c :: cs) = setL (l.set o c) (o + 1) cs) := by
  refine ⟨?_, ?_, ?_, ?_, ?_, ?_, ?_, ?_, ?_, ?_, ?_, ?_, ?_, ?_, ?_, ?_, ?_, ?_, ?_, ?_, ?_, ?_, ?_, ?_, ?_, ?_, ?_, ?_, ?_, ?_, ?_, ?_, ?_, ?_⟩ <;> intros <;> first | rfl | skip
  · rename_i h; simp only [ixstrX, if_pos h]
  · rename_i lo hi s
    simp only [slstrX]
    cases bnd hi s.length s.length with
    | none => rfl
    | some h => simp only [Option.bind_some]; cases bnd lo h 0 <;> rfl
  · rename_i h1 h2; simp only [bnd, if_pos (And.intro h1 h2)]

/-! ### States -/
def nvs (σ : St) : Nat := σ.vars.length
def nrs (σ : St) : Nat := σ.rows.length
def getV (σ : St) (b : Nat) : Option VB := σ.vars[b]?
def getR (σ : St) (r : Nat) : Option (Option Row) := σ.rows[r]?
def ldV (v : Option VB) (off n : Nat) : Option (List AV) :=
  match v with
  | some (.cells _ l) => if off + n ≤ l.length then some ((l.drop off).take n) else none
  | _ => none
def stV (σ : St) (b : Nat) (v : Option VB) (off : Nat) (cs : List AV) : Option St :=
  match v with
  | some (.cells e l) => if off + cs.length ≤ l.length then some (σ.setV b (.cells e (setL l off cs))) else none
  | _ => none
def one1 (l : List AV) : Option AV :=
  match l with
  | [c] => some c
  | _ => none
def onesN : Nat → List AV → Bool
  | 0, [] => true
  | n + 1, a :: l => a.one && onesN n l
  | _, _ => false
theorem onesN_eq : ∀ (n : Nat) (l : List AV), (onesN n l = true) = (l.length = n ∧ l.all AV.one = true)
  | 0, [] => by simp [onesN]
  | 0, a :: l => by simp [onesN]
  | n + 1, [] => by simp [onesN]
  | n + 1, a :: l => by
    simp only [onesN, Bool.and_eq_true, List.length_cons, List.all_cons, onesN_eq n l, Nat.add_right_cancel_iff]
    exact propext ⟨fun ⟨a, b, c⟩ => ⟨b, a, c⟩, fun ⟨a, b, c⟩ => ⟨b, a, c⟩⟩
theorem walkO : onesN 0 [] = true ∧ (∀ (n : Nat) (a : AV) (l : List AV), onesN (n + 1) (a :: l) = (a.one && onesN n l)) ∧ (∀ (b : Bool), (true && b) = b) ∧
    (∀ (k : IntKind) (n : Int), (AV.int k n).one = true) ∧ (∀ (s : List UInt8), (AV.str s).one = true) ∧ (∀ (b : Bool), (AV.bool b).one = true) ∧
    (AV.nils.one = true) ∧ (AV.nilp.one = true) ∧ (AV.nili.one = true) ∧ (AV.niln.one = true) ∧ (AV.ez.one = true) ∧
    (∀ (l : List (List AV)), (AV.sl l).one = true) ∧ (∀ (r o n : Nat), (AV.os r o n).one = true) ∧ (∀ (t : TypeId) (v : AV), (AV.ifc t v).one = true) ∧ (∀ (b o : Nat), (AV.vp b o).one = true) ∧
    (∀ (f : Fn) (a b : List AV), (AV.fn f a b).one = true) ∧ (∀ (l : List AV), (AV.rp l).one = true) ∧ (∀ (r i k : Nat), (AV.op r i k).one = true) := by
  refine ⟨?_, ?_, ?_, ?_, ?_, ?_, ?_, ?_, ?_, ?_, ?_, ?_, ?_, ?_, ?_, ?_, ?_, ?_⟩ <;> intros <;> rfl
def nxtV (σ : St) (b : Nat) (v : Option VB) : Option (AV × St) :=
  match v with
  | some (.siter s pos) => if pos < s.length then
      some (.tup [.bool true, .int .i64 pos, .int .i32 (Utf8.decode ⟨s.toArray⟩ pos).1], σ.setV b (.siter s (pos + (Utf8.decode ⟨s.toArray⟩ pos).2)))
    else some (.tup [.bool false], σ)
  | _ => none
theorem getV_lt {σ : St} {b : Nat} {v : VB} (h : getV σ b = some v) : b < nvs σ := (List.getElem?_eq_some_iff.1 h).1
theorem getR_lt {σ : St} {b : Nat} {v : Option Row} (h : getR σ b = some v) : b < nrs σ := (List.getElem?_eq_some_iff.1 h).1
theorem walkH :
    (∀ (σ : St), σ.vars.length = nvs σ) ∧ (∀ (σ : St), σ.rows.length = nrs σ) ∧
    (∀ (σ : St) (p : AV) (n : Nat), ldX (some n) σ p = (ldAt σ p n).map .agg) ∧
    (∀ (σ : St) (p : AV), ldX none σ p = (ldAt σ p 1).bind one1) ∧
    (∀ (σ : St) (b off n : Nat), ldAt σ (.vp b off) n = ldV (getV σ b) off n) ∧
    (∀ (σ : St) (l : List AV) (n : Nat), ldAt σ (.rp l) n = if n ≤ l.length then some (l.take n) else none) ∧
    (∀ (e : TypeId) (l : List AV) (off n : Nat), ldV (some (.cells e l)) off n = if off + n ≤ l.length then some ((l.drop off).take n) else none) ∧
    (∀ (n : Nat) (σ : St) (p c : AV), stX n σ p c = if onesN n (cellsA c) = true then stAt σ p (cellsA c) else none) ∧
    (∀ (σ : St) (b off : Nat) (cs : List AV), stAt σ (.vp b off) cs = stV σ b (getV σ b) off cs) ∧
    (∀ (σ : St) (b off : Nat) (e : TypeId) (l cs : List AV), stV σ b (some (.cells e l)) off cs = if off + cs.length ≤ l.length then some (σ.setV b (.cells e (setL l off cs))) else none) ∧
    (∀ (σ : St) (v : VB), nvs (σ.pushV v) = nvs σ + 1) ∧ (∀ (σ : St) (b : Nat) (v : VB), nvs (σ.setV b v) = nvs σ) ∧ (∀ (σ : St) (r : Row), nvs (σ.pushR r) = nvs σ) ∧ (∀ (σ : St) (r : Nat) (x : Option Row), nvs (σ.setR r x) = nvs σ) ∧
    (∀ (σ : St) (v : VB), nrs (σ.pushV v) = nrs σ) ∧ (∀ (σ : St) (b : Nat) (v : VB), nrs (σ.setV b v) = nrs σ) ∧ (∀ (σ : St) (r : Row), nrs (σ.pushR r) = nrs σ + 1) ∧ (∀ (σ : St) (r : Nat) (x : Option Row), nrs (σ.setR r x) = nrs σ) ∧
    (∀ (σ : St) (v : VB) (b : Nat), b = nvs σ → getV (σ.pushV v) b = some v) ∧
    (∀ (σ : St) (b : Nat) (v : VB), b < nvs σ → getV (σ.pushV v) b = getV σ b) ∧
    (∀ (σ : St) (b : Nat) (v : VB), b < nvs σ → getV (σ.setV b v) b = some v) ∧
    (∀ (σ : St) (b b' : Nat) (v : VB), b' ≠ b → getV (σ.setV b v) b' = getV σ b') ∧
    (∀ (σ : St) (r : Row) (b : Nat), getV (σ.pushR r) b = getV σ b) ∧ (∀ (σ : St) (r : Nat) (x : Option Row) (b : Nat), getV (σ.setR r x) b = getV σ b) ∧
    (∀ (σ : St) (v v' : VB) (b : Nat), b = nvs σ → (σ.pushV v).setV b v' = σ.pushV v') ∧
    (∀ (σ : St) (b : Nat) (v v' : VB), b < nvs σ → (σ.pushV v).setV b v' = (σ.setV b v').pushV v) ∧
    (∀ (σ : St) (b : Nat) (v v' : VB), (σ.setV b v).setV b v' = σ.setV b v') ∧
    (∀ (σ : St) (r : Row) (b : Nat) (v : VB), (σ.pushR r).setV b v = (σ.setV b v).pushR r) ∧ (∀ (σ : St) (r : Nat) (x : Option Row) (b : Nat) (v : VB), (σ.setR r x).setV b v = (σ.setV b v).setR r x) ∧
    (∀ (σ : St) (r : Row) (b : Nat), b = nrs σ → getR (σ.pushR r) b = some (some r)) ∧
    (∀ (σ : St) (r : Row) (b : Nat), b < nrs σ → getR (σ.pushR r) b = getR σ b) ∧
    (∀ (σ : St) (b : Nat) (x : Option Row), b < nrs σ → getR (σ.setR b x) b = some x) ∧
    (∀ (σ : St) (b b' : Nat) (x : Option Row), b' ≠ b → getR (σ.setR b x) b' = getR σ b') ∧
    (∀ (σ : St) (v : VB) (b : Nat), getR (σ.pushV v) b = getR σ b) ∧ (∀ (σ : St) (b : Nat) (v : VB) (r : Nat), getR (σ.setV b v) r = getR σ r) := by
  refine ⟨?_, ?_, ?_, ?_, ?_, ?_, ?_, ?_, ?_, ?_, ?_, ?_, ?_, ?_, ?_, ?_, ?_, ?_, ?_, ?_, ?_, ?_, ?_, ?_, ?_, ?_, ?_, ?_, ?_, ?_, ?_, ?_, ?_, ?_, ?_⟩ <;> intros <;> first | rfl | skip
  · rename_i σ p; simp only [ldX]; cases ldAt σ p 1 with
    | none => rfl
    | some l => cases l with
      | nil => rfl
      | cons a l => cases l <;> rfl
  · rename_i n σ p c; simp only [stX, onesN_eq]
  · simp [nvs, St.pushV]
  · simp [nvs, St.setV]
  · simp [nrs, St.pushR]
  · simp [nrs, St.setR]
  · rename_i h; subst h; simp [getV, nvs, St.pushV]
  · rename_i h; simp only [getV, nvs, St.pushV] at *; rw [List.getElem?_append_left h]
  · rename_i h; simp only [getV, nvs, St.setV] at *; simp [h]
  · rename_i h; simp only [getV, St.setV]; rw [List.getElem?_set_ne (Ne.symm h)]
  · rename_i h; subst h; simp [nvs, St.pushV, St.setV]
  · rename_i h; simp only [nvs, St.pushV, St.setV] at *; rw [List.set_append_left _ _ h]
  · simp [St.setV]
  · rename_i h; subst h; simp [getR, nrs, St.pushR]
  · rename_i h; simp only [getR, nrs, St.pushR] at *; rw [List.getElem?_append_left h]
  · rename_i h; simp only [getR, nrs, St.setR] at *; simp [h]
  · rename_i h; simp only [getR, St.setR]; rw [List.getElem?_set_ne (Ne.symm h)]
/-- Ranges over texts, the greatest and the least. -/
theorem walkR :
    (∀ (σ : St) (s : List UInt8), moreX .rng σ [.str s] = some (.vp (nvs σ) 0, σ.pushV (.siter s 0))) ∧
    (∀ (σ : St) (b : Nat), moreX .nxt σ [.vp b 0] = nxtV σ b (getV σ b)) ∧
    (∀ (σ : St) (b : Nat) (s : List UInt8) (pos : Nat), pos < s.length → nxtV σ b (some (.siter s pos)) = some (.tup [.bool true, .int .i64 pos, .int .i32 (Utf8.decode ⟨s.toArray⟩ pos).1], σ.setV b (.siter s (pos + (Utf8.decode ⟨s.toArray⟩ pos).2)))) ∧
    (∀ (σ : St) (b : Nat) (s : List UInt8) (pos : Nat), s.length ≤ pos → nxtV σ b (some (.siter s pos)) = some (.tup [.bool false], σ)) ∧
    (∀ (σ : St) (k k' : IntKind) (x y : Int), moreX .mx σ [.int k x, .int k' y] = some (.int k (if y > x then y else x), σ)) ∧
    (∀ (σ : St) (k k' : IntKind) (x y : Int), moreX .mn σ [.int k x, .int k' y] = some (.int k (if y < x then y else x), σ)) ∧
    (∀ (σ : St) (e : TypeId) (s : List UInt8), moreX (.s2b e) σ [.str s] = some (.os (nrs σ) 0 s.length, σ.pushR ⟨e, 1, 0, s.map fun b => [.int .u8 b.toNat]⟩)) ∧
    (∀ (σ : St) (t : TypeId) (x : AV), moreX (.b2s t) σ [x] = (b2sX σ x).map fun r => (r, σ)) ∧
    (∀ (σ : St) (e : TypeId) (z b : Nat) (zero : List AV) (n n' : Int), n ≤ n' → 0 ≤ n → n'.toNat * b ≤ 140737488355328 → moreX (.mksl e z b zero) σ [.int .i64 n, .int .i64 n'] = some (.os (nrs σ) 0 n.toNat, σ.pushR ⟨e, z, 0, List.replicate n.toNat zero⟩)) ∧
    (∀ (σ : St), moreX .capn σ [.nils] = some (.int .i64 0, σ)) ∧
    (∀ (σ : St) (r off n : Nat) (ys : List (List AV)), moreX .cpy σ [.os r off n, .sl ys] = cpyG σ r off n ys) := by
  refine ⟨?_, ?_, ?_, ?_, ?_, ?_, ?_, ?_, ?_, ?_, ?_⟩ <;> intros <;> first | rfl | skip
  · rename_i h; simp only [nxtV, if_pos h]
  · rename_i h; simp only [nxtV]; rw [if_neg (by omega)]
  · rename_i h1 h2 h3; simp only [moreX]; rw [if_pos ⟨h1, h2, h3⟩]; rfl
/-- States that are written out. -/
theorem walkG :
    (∀ (vs : List VB) (rs : List (Option Row)), nvs ⟨vs, rs⟩ = vs.length) ∧ (∀ (vs : List VB) (rs : List (Option Row)), nrs ⟨vs, rs⟩ = rs.length) ∧
    (∀ (vs : List VB) (rs : List (Option Row)) (b : Nat), getV ⟨vs, rs⟩ b = vs[b]?) ∧ (∀ (vs : List VB) (rs : List (Option Row)) (b : Nat), getR ⟨vs, rs⟩ b = rs[b]?) ∧
    (∀ (vs : List VB) (rs : List (Option Row)) (v : VB), St.pushV ⟨vs, rs⟩ v = ⟨vs ++ [v], rs⟩) ∧ (∀ (vs : List VB) (rs : List (Option Row)) (r : Row), St.pushR ⟨vs, rs⟩ r = ⟨vs, rs ++ [some r]⟩) ∧
    (∀ (vs : List VB) (rs : List (Option Row)) (b : Nat) (v : VB), St.setV ⟨vs, rs⟩ b v = ⟨vs.set b v, rs⟩) ∧ (∀ (vs : List VB) (rs : List (Option Row)) (r : Nat) (x : Option Row), St.setR ⟨vs, rs⟩ r x = ⟨vs, rs.set r x⟩) := by
  refine ⟨?_, ?_, ?_, ?_, ?_, ?_, ?_, ?_⟩ <;> intros <;> rfl

theorem wrap_i64 (n : Int) (h : -9223372036854775808 ≤ n) (k : n < 9223372036854775808) : IntKind.i64.wrap n = n := by
  simp only [IntKind.wrap, IntKind.bits, IntKind.signed]
  simp
  split <;> omega
theorem wrap_i32 (n : Int) (h : -2147483648 ≤ n) (k : n < 2147483648) : IntKind.i32.wrap n = n := by
  simp only [IntKind.wrap, IntKind.bits, IntKind.signed]
  simp
  split <;> omega
theorem wrap_u8 (n : Int) (h : 0 ≤ n) (k : n < 256) : IntKind.u8.wrap n = n := by
  simp only [IntKind.wrap, IntKind.bits, IntKind.signed]
  simp
  omega
theorem wrap_u32 (n : Int) (h : 0 ≤ n) (k : n < 4294967296) : IntKind.u32.wrap n = n := by
  simp only [IntKind.wrap, IntKind.bits, IntKind.signed]
  simp
  omega
theorem wrap_u64 (n : Int) (h : 0 ≤ n) (k : n < 18446744073709551616) : IntKind.u64.wrap n = n := by
  simp only [IntKind.wrap, IntKind.bits, IntKind.signed]
  simp
  omega
def rowP (z r : Nat) (x : Option (Option Row)) (i : Nat) : Option AV :=
  match x with
  | some (some row) => if row.esz = z then some (.op r i 0) else none
  | _ => none
def rowL (x : Option (Option Row)) (i k n : Nat) : Option (List AV) :=
  match x with
  | some (some row) => match row.els[i]? with
    | some e => if k + n ≤ e.length then some ((e.drop k).take n) else none
    | none => none
  | _ => none
def rowN (x : Option (Option Row)) (v : AV) : Option AV :=
  match x with
  | some (some _) => some v
  | _ => none
/-- Rows and slices. -/
theorem walkQ :
    (∀ (z : Nat) (σ : St) (r off m : Nat) (k : IntKind) (n : Int), 0 ≤ n → n < m → ixsX z σ (.os r off m) (.int k n) = rowP z r (getR σ r) (off + n.toNat)) ∧
    (∀ (z r : Nat) (row : Row) (i : Nat), rowP z r (some (some row)) i = if row.esz = z then some (.op r i 0) else none) ∧
    (∀ (σ : St) (r i k n : Nat), ldAt σ (.op r i k) n = rowL (getR σ r) i k n) ∧
    (∀ (row : Row) (i k n : Nat), rowL (some (some row)) i k n = (row.els[i]?).bind fun e => if k + n ≤ e.length then some ((e.drop k).take n) else none) ∧
    (∀ (z : Nat) (σ : St) (els : List (List AV)) (k : IntKind) (n : Int), 0 ≤ n → ixsX z σ (.sl els) (.int k n) = (els[n.toNat]?).bind fun c => if c.length = z then some (.rp c) else none) ∧
    (∀ (σ : St) (r i k : Nat), nilA σ (.op r i k) = rowN (getR σ r) (.op r i k)) ∧
    (∀ (σ : St) (b o : Nat), nilA σ (.vp b o) = some (.vp b o)) ∧ (∀ (σ : St) (l : List AV), nilA σ (.rp l) = some (.rp l)) ∧
    (∀ (x : Row) (v : AV), rowN (some (some x)) v = some v) ∧
    (∀ (off : Nat) (σ : St) (b o : Nat), faX off σ (.vp b o) = some (.vp b (o + off))) ∧ (∀ (off : Nat) (σ : St) (l : List AV), faX off σ (.rp l) = some (.rp (l.drop off))) ∧
    (∀ (off : Nat) (σ : St) (r i k : Nat), faX off σ (.op r i k) = rowN (getR σ r) (.op r i (k + off))) := by
  refine ⟨?_, ?_, ?_, ?_, ?_, ?_, ?_, ?_, ?_, ?_, ?_, ?_⟩ <;> intros <;> first | rfl | skip
  · rename_i h1 h2
    simp only [ixsX, if_pos (And.intro h1 h2), rowP, getR]
    try rfl
  · rename_i row i k n
    simp only [rowL]
    cases row.els[i]? <;> rfl
  · rename_i h; simp only [ixsX, if_pos h]
    rename_i els k n
    cases els[n.toNat]? <;> rfl
  · rename_i off σ r i k
    show (if liveA σ (.op r i k) = true then some (AV.op r i (k + off)) else none) = rowN (σ.rows[r]?) _
    by_cases h : liveA σ (.op r i k) = true
    · rw [if_pos h]
      obtain ⟨row, hr⟩ := (liveA_op h).1 r i k rfl
      rw [hr]; rfl
    · rw [if_neg h]
      unfold rowN
      split
      · rename_i x hx
        exact absurd (by simp only [liveA, hx]) h
      · rfl
/-- All rules. -/
def walkAll := And.intro walkD <| And.intro walkQ <| And.intro walkP <| And.intro walkC (And.intro walkS (And.intro walkV (And.intro walkX (And.intro walkM (And.intro walkB (And.intro walkN (And.intro walkU (And.intro walkH (And.intro walkG (And.intro walkO walkR))))))))))
/-- Small change: what a walk needs of Lean's own lists and numbers. -/
theorem walkL :
    (∀ {α : Type} (a : α) (l : List α), (a :: l)[0]? = some a) ∧ (∀ {α : Type} (a : α) (l : List α) (n : Nat), (a :: l)[n + 1]? = l[n]?) ∧
    (∀ {α β : Type} (a : α) (f : α → Option β), (some a).bind f = f a) ∧ (∀ {α β : Type} (a : α) (f : α → β), (some a).map f = some (f a)) ∧
    (∀ (b : Bool), (b == true) = b) ∧ (∀ (b : Bool), (b == false) = !b) ∧ ((!true) = false) ∧ ((!false) = true) ∧
    (∀ {α : Type} (a : α) (l m : List α), (a :: l) ++ m = a :: (l ++ m)) ∧ (∀ {α : Type} (l : List α), [] ++ l = l) ∧
    (∀ {α : Type} (l : List α), l.drop 0 = l) ∧ (∀ {α : Type} (a : α) (l : List α) (n : Nat), (a :: l).drop (n + 1) = l.drop n) ∧
    (∀ {α : Type} (l : List α), l.take 0 = []) ∧ (∀ {α : Type} (a : α) (l : List α) (n : Nat), (a :: l).take (n + 1) = a :: l.take n) ∧
    (∀ {α : Type} (a b : α) (l : List α), (a :: l).set 0 b = b :: l) ∧ (∀ {α : Type} (a b : α) (l : List α) (n : Nat), (a :: l).set (n + 1) b = a :: l.set n b) ∧
    (∀ {α : Type}, ([] : List α).length = 0) ∧ (∀ {α : Type} (a : α) (l : List α), (a :: l).length = l.length + 1) ∧
    (∀ (n : Nat), (n : Int).toNat = n) ∧ (∀ (c : AV), one1 [c] = some c) ∧
    (∀ {α β : Type} (c : Prop) [Decidable c] (a : α) (f : α → Option β), (if c then some a else none).bind f = if c then f a else none) ∧
    (∀ {α β : Type} (c : Prop) [Decidable c] (a : α) (f : α → β), (if c then some a else none).map f = if c then some (f a) else none) ∧
    (∀ (n : Nat) {α : Type} (l : List α), n = l.length → l.take n = l) ∧ (∀ (p : Prop), (True ∧ p) = p) := by
  refine ⟨?_, ?_, ?_, ?_, ?_, ?_, ?_, ?_, ?_, ?_, ?_, ?_, ?_, ?_, ?_, ?_, ?_, ?_, ?_, ?_, ?_, ?_, ?_, ?_⟩ <;> intros <;> first | rfl | (simp; done) | (split <;> rfl) | (rename_i h; rw [h]; simp)
end Go.Ab
namespace Go.Ab
open Go Go.RowKit

/-- A world that has only grown stands for the same state. -/
theorem HRel.grown {C : Cz} {σ : St} {w w' : World} (h : HRel C σ w) (hb : Below w.heap.size w w') : HRel C σ w' := by
  refine { h with mem := ?_, var := ?_, row := ?_, hb := Nat.le_trans h.hb hb.size, below := h.below.trans (hb.mono h.hb) }
  · exact fun b o v hm => (cell_of_heap (hb.block b (h.mem_lt hm))).trans (h.mem b o v hm)
  · exact fun b vb hv => (h.var b vb hv).mono (Cz.le.refl C) (hb.block _ (h.var b vb hv).lt)
  · intro r row hr
    obtain ⟨hl, vs, fr, hh⟩ := h.row r row hr
    exact ⟨hl, vs, fr, hh.mono (Cz.le.refl C) (hb.block _ hh.lt)⟩

theorem ACalls.of_calls {P : Program} {G : GT} {f : FuncId} {fn : Func} (hf : P.funcs[f]? = some fn) (hb : fn.body.isSome = true) (hn : (fn.name == "runtime.NumGoroutine") = false) {args : List AV} {σ : St} {r : AV} {Q : AV → St → Prop}
    (h : ∀ (C : Cz) (w : World) (vs : List Value), (∀ b o v, C.M b o = some v → w.cell? ⟨b, o, none⟩ = some v) → GOK G C → RepL C args vs → Calls P f vs.toArray w (fun e w' => ∃ v, e = .returned v ∧ Rep C r v ∧ Below w.heap.size w w'))
    (hq : Q r σ) : ACalls P G f args σ Q := by
  intro C w vs h0 hg ha
  have hrun : (callFunc f vs.toArray).run P w = .ok (.enter f vs.toArray) w := by
    unfold callFunc
    rw [Sem.run_bind, run_program, Result.andThen_ok]
    have hb' : fn.body.isNone = false := by cases hq : fn.body <;> simp_all
    simp only [hf, hb', hn, Bool.false_eq_true, if_false, Sem.run_pure]
  unfold CallsX
  rw [hrun]
  refine (h C w vs h0.mem hg ha).mono ?_
  rintro e w' ⟨v, he, hr, hbel⟩
  exact ⟨v, he, r, σ, C, Cz.le.refl C, h0.grown hbel, hr, hq⟩

theorem ACalls.of_heap {P : Program} {G : GT} {f : FuncId} {fn : Func} (hf : P.funcs[f]? = some fn) (hb : fn.body.isSome = true) (hn : (fn.name == "runtime.NumGoroutine") = false) {args : List AV} {σ σ' : St} {r : AV} {Q : AV → St → Prop}
    (h : ∀ (C : Cz) (w : World) (vs : List Value), HRel C σ w → GOK G C → RepL C args vs → Calls P f vs.toArray w (fun e w' => ∃ v C', e = .returned v ∧ C.le C' ∧ HRel C' σ' w' ∧ Rep C' r v))
    (hq : Q r σ') : ACalls P G f args σ Q := by
  intro C w vs h0 hg ha
  have hrun : (callFunc f vs.toArray).run P w = .ok (.enter f vs.toArray) w := by
    unfold callFunc
    rw [Sem.run_bind, run_program, Result.andThen_ok]
    have hb' : fn.body.isNone = false := by cases hq : fn.body <;> simp_all
    simp only [hf, hb', hn, Bool.false_eq_true, if_false, Sem.run_pure]
  unfold CallsX
  rw [hrun]
  refine (h C w vs h0 hg ha).mono ?_
  rintro e w' ⟨v, C', he, hle, hrel, hr⟩
  exact ⟨v, he, r, σ', C', hle, hrel, hr, hq⟩

/-- A contract of data alone, at the machine itself. -/
theorem ACalls.to_calls {P : Program} {G : GT} {f : FuncId} {fn : Func} (hf : P.funcs[f]? = some fn) (hb : fn.body.isSome = true) (hn : (fn.name == "runtime.NumGoroutine") = false) {args : List AV} (hd : DataL args) (hG : ∀ g cs, G g = some cs → DataL cs)
    {Q : AV → Prop} (h : ACalls P G f args ⟨[], []⟩ (fun r _ => Q r)) {C : Cz} {W : World} (hm : ∀ b o v, C.M b o = some v → W.cell? ⟨b, o, none⟩ = some v) (hg : GOK G C) {vs : List Value} (ha : RepL C args vs) :
    Calls P f vs.toArray W (fun e w' => ∃ v r D, e = .returned v ∧ Rep D r v ∧ Q r ∧ Below W.heap.size W w') := by
  let B : Cz := { C with nv := 0, nr := 0, base := W.heap.size, w0 := W }
  have hB : HRel B ⟨[], []⟩ W := {
    nv := rfl, nr := rfl, mem := hm,
    var := fun b vb hb => by simp at hb
    vinj := fun b _ hb => by cases hb
    vM := fun b _ hb => by cases hb
    vbase := fun b hb => by cases hb
    row := fun r row hr => by simp at hr
    rinj := fun r _ hr => by obtain ⟨x, hx⟩ := hr; simp at hx
    rv := fun r _ hr => by obtain ⟨x, hx⟩ := hr; simp at hx
    rM := fun r _ hr => by obtain ⟨x, hx⟩ := hr; simp at hx
    rbase := fun r hr => by obtain ⟨x, hx⟩ := hr; simp at hx
    hb := Nat.le_refl _
    below := Below.refl _ _ }
  have hCB : ∀ b o v, C.M b o = some v → B.M b o = some v := fun _ _ _ e => e
  have hgB : GOK G B := fun g cs e => by
    obtain ⟨us, h1, h2⟩ := hg g cs e
    exact ⟨us, RepL.data hCB h1 (hG g cs e), h2⟩
  have hx := h B W vs hB hgB (RepL.data hCB ha hd)
  have hrun : (callFunc f vs.toArray).run P W = .ok (.enter f vs.toArray) W := by
    unfold callFunc
    rw [Sem.run_bind, run_program, Result.andThen_ok]
    have hb' : fn.body.isNone = false := by cases hq : fn.body <;> simp_all
    simp only [hf, hb', hn, Bool.false_eq_true, if_false, Sem.run_pure]
  unfold CallsX at hx
  rw [hrun] at hx
  refine hx.mono ?_
  rintro e w' ⟨v, he, r, σ', D, hle, hrel, hr, hQ⟩
  refine ⟨v, r, D, he, hr, hQ, ?_⟩
  have := hrel.below
  rw [show D.base = W.heap.size from hle.base, show D.w0 = W from hle.w0] at this
  exact this

theorem below_drewN {B : Nat} {w : World} (n : Nat) : Below B w (w.drewN n) := ⟨rfl, rfl, rfl, Nat.le_refl _, fun _ _ => rfl⟩

/-! ### What stands for arguments -/
theorem RepL.nil_inv {C : Cz} {vs : List Value} (h : RepL C [] vs) : vs = [] := by cases h; rfl
theorem RepL.str_inv {C : Cz} {s : List UInt8} {l : List AV} {vs : List Value} (h : RepL C (.str s :: l) vs) : ∃ us, vs = .string ⟨s.toArray⟩ :: us ∧ RepL C l us := by
  cases h with | cons _ _ _ _ h t => cases h; exact ⟨_, rfl, t⟩
theorem RepL.int_inv {C : Cz} {k : IntKind} {n : Int} {l : List AV} {vs : List Value} (h : RepL C (.int k n :: l) vs) : ∃ us, vs = .int k n :: us ∧ RepL C l us := by
  cases h with | cons _ _ _ _ h t => cases h; exact ⟨_, rfl, t⟩
theorem RepL.vp_inv {C : Cz} {b off : Nat} {l : List AV} {vs : List Value} (h : RepL C (.vp b off :: l) vs) : ∃ us, vs = .pointer (some ⟨C.ρ b, off, none⟩) :: us ∧ b < C.nv ∧ RepL C l us := by
  cases h with | cons _ _ _ _ h t => cases h with | vp _ _ hb => exact ⟨_, rfl, hb, t⟩
theorem RepL.s_inv {C : Cz} {s : List UInt8} {vs : List Value} (h : RepL C [.str s] vs) : vs = [.string ⟨s.toArray⟩] := by
  obtain ⟨us, rfl, k⟩ := h.str_inv; rw [k.nil_inv]
theorem RepL.i_inv {C : Cz} {k : IntKind} {n : Int} {vs : List Value} (h : RepL C [.int k n] vs) : vs = [.int k n] := by
  obtain ⟨us, rfl, k⟩ := h.int_inv; rw [k.nil_inv]
theorem RepL.ss_inv {C : Cz} {s p : List UInt8} {vs : List Value} (h : RepL C [.str s, .str p] vs) : vs = [.string ⟨s.toArray⟩, .string ⟨p.toArray⟩] := by
  obtain ⟨us, rfl, k⟩ := h.str_inv; rw [k.s_inv]
theorem RepL.si_inv {C : Cz} {s : List UInt8} {k : IntKind} {n : Int} {vs : List Value} (h : RepL C [.str s, .int k n] vs) : vs = [.string ⟨s.toArray⟩, .int k n] := by
  obtain ⟨us, rfl, k⟩ := h.str_inv; rw [k.i_inv]
/-- What the tables hold, the world holds. -/
theorem GOK.cell {G : GT} {C : Cz} {w : World} (h : GOK G C) (hm : ∀ b o v, C.M b o = some v → w.cell? ⟨b, o, none⟩ = some v) {g : Nat} {cs : List AV} (hg : G g = some cs) : ∃ vs, RepL C cs vs ∧ ∀ j v, vs[j]? = some v → w.cell? ⟨g, j, none⟩ = some v := by
  obtain ⟨vs, h1, h2⟩ := h g cs hg
  exact ⟨vs, h1, fun j v e => hm _ _ _ (h2 j v e)⟩
theorem setV_same {σ : St} {b : Nat} {v : VB} (h : getV σ b = some v) : σ.setV b v = σ := by
  cases σ with
  | mk vs rs =>
    simp only [getV, St.setV] at *
    congr 1
    obtain ⟨hlt, he⟩ := List.getElem?_eq_some_iff.1 h
    rw [← he]; exact List.set_getElem_self hlt
end Go.Ab
namespace Go.Ab
open Go Go.RowKit

def bytesE (l : List UInt8) : List (List AV) := l.map fun b => [.int .u8 b.toNat]
theorem bytesE_length (l : List UInt8) : (bytesE l).length = l.length := by simp [bytesE]
theorem bytesE_append (l k : List UInt8) : bytesE (l ++ k) = bytesE l ++ bytesE k := by simp [bytesE]
theorem bytesE_flatten : ∀ (l : List UInt8), (bytesE l).flatten = l.map fun b => AV.int .u8 b.toNat
  | [] => rfl
  | a :: l => by
    show [AV.int .u8 a.toNat] ++ (bytesE l).flatten = _
    rw [bytesE_flatten l]; rfl
theorem bytesE_len1 (l : List UInt8) : ((bytesE l).all fun c => c.length == 1) = true := by simp [bytesE]
theorem bytesE_one (l : List UInt8) : ((bytesE l).all fun c => c.all AV.one) = true := by simp [bytesE, AV.one]
/-- This value is these bytes, under append; in this row, if in one. -/
def BufIs (e : TypeId) (σ : St) (buf : AV) (l : List UInt8) (ρ : Option Nat) : Prop :=
  (buf = .nils ∧ l = [] ∧ ρ = none) ∨ l ≠ [] ∧ ∃ r row, ρ = some r ∧ buf = .os r 0 l.length ∧ getR σ r = some (some row) ∧ row.els = bytesE l ∧ row.esz = 1 ∧ row.ety = e ∧ row.fz ≤ l.length
/-- Rows other than this one are as they were. -/
structure RowsBut (σ σ' : St) (ρ ρ' : Option Nat) : Prop where
  vars : σ'.vars = σ.vars
  grow : nrs σ ≤ nrs σ'
  row : ∀ r, some r ≠ ρ → r < nrs σ → getR σ' r = getR σ r
  new : ρ' = ρ ∨ ∃ r, ρ' = some r ∧ nrs σ ≤ r
theorem app_buf {e : TypeId} {σ : St} {buf : AV} {l s : List UInt8} {ρ : Option Nat} (h : BufIs e σ buf l ρ) (hle : l.length + s.length ≤ 140737488355328) :
    ∃ buf' σ' ρ', appX e 1 1 σ buf (.str s) = some (buf', σ') ∧ BufIs e σ' buf' (l ++ s) ρ' ∧ RowsBut σ σ' ρ ρ' ∧ (cellsA buf' = [buf'] ∧ buf'.one = true) := by
  have hx : elsA σ (.str s) = some (bytesE s) := rfl
  have hall : ((bytesE s).all (fun c => c.length == 1) && (bytesE s).all (fun c => c.all AV.one)) = true := by rw [bytesE_len1, bytesE_one]; rfl
  rcases h with ⟨rfl, rfl, rfl⟩ | ⟨hl0, r, row, rfl, rfl, hr, he, hz, ht, hf⟩
  · by_cases hs : s = []
    · subst hs
      exact ⟨.nils, σ, none, by simp [appX, hx, bytesE], .inl ⟨rfl, rfl, rfl⟩, ⟨rfl, Nat.le_refl _, fun _ _ _ => rfl, .inl rfl⟩, rfl, rfl⟩
    · have hne : bytesE s ≠ [] := by simpa [bytesE] using hs
      refine ⟨.os (nrs σ) 0 s.length, σ.pushR ⟨e, 1, 0, bytesE s⟩, some (nrs σ), ?_, .inr ⟨by simpa using hs, _, ⟨e, 1, 0, bytesE s⟩, rfl, by simp, ?_, by simp, rfl, rfl, Nat.zero_le _⟩, ⟨rfl, ?_, ?_, .inr ⟨_, rfl, Nat.le_refl _⟩⟩, rfl, rfl⟩
      · simp only [appX, hx, hall, if_true, if_neg hne, bytesE_length]
        rw [if_pos (by simp at hle; omega)]; rfl
      · simp [getR, nrs, St.pushR]
      · simp [nrs, St.pushR]
      · intro r _ hr
        simp only [getR, nrs, St.pushR] at *
        rw [List.getElem?_append_left hr]
  · have hlt : r < nrs σ := getR_lt hr
    refine ⟨.os (nrs σ) 0 (l.length + s.length), (σ.setR r none).pushR ⟨e, 1, row.fz, bytesE l ++ bytesE s⟩, some (nrs σ), ?_, .inr ⟨by simp [hl0], _, ⟨e, 1, row.fz, bytesE l ++ bytesE s⟩, rfl, by simp, ?_, by simp [bytesE_append], rfl, rfl, ?_⟩, ⟨rfl, ?_, ?_, .inr ⟨_, rfl, Nat.le_refl _⟩⟩, rfl, rfl⟩
    · simp only [getR] at hr
      simp only [appX, hx, hall, if_true, hr, hz, ht, he, bytesE_length, Nat.zero_add, Nat.sub_zero, List.drop_zero, Nat.mul_one]
      rw [if_pos ⟨Nat.le_refl _, hf, trivial, trivial, hle⟩]
      rw [List.take_of_length_le (by rw [bytesE_length]; exact Nat.le_refl _)]
      rfl
    · simp [getR, nrs, St.pushR, St.setR]
    · simp; omega
    · simp [nrs, St.pushR, St.setR]
    · intro r' hne hr'
      have hne' : r' ≠ r := fun e => hne (by rw [e])
      simp only [getR, nrs, St.pushR, St.setR] at *
      rw [List.getElem?_append_left (by simpa using hr'), List.getElem?_set_ne (Ne.symm hne')]
/-- A Builder: its own address or none, and its bytes. -/
def Bld (T e : TypeId) (σ : St) (b : Nat) (l : List UInt8) (ρ : Option Nat) : Prop :=
  ∃ a buf, getV σ b = some (.cells T [a, buf]) ∧ (a = .nilp ∨ a = .vp b 0) ∧ BufIs e σ buf l ρ
/-- But for this variable and this row all is as it was. -/
structure But (σ σ' : St) (b : Nat) (ρ ρ' : Option Nat) : Prop where
  nv : nvs σ' = nvs σ
  var : ∀ k, k ≠ b → getV σ' k = getV σ k
  grow : nrs σ ≤ nrs σ'
  row : ∀ r, some r ≠ ρ → r < nrs σ → getR σ' r = getR σ r
  new : ρ' = ρ ∨ ∃ r, ρ' = some r ∧ nrs σ ≤ r
theorem BufIs.setV {e : TypeId} {σ : St} {buf : AV} {l : List UInt8} {ρ : Option Nat} (h : BufIs e σ buf l ρ) (b : Nat) (v : VB) : BufIs e (σ.setV b v) buf l ρ := h
theorem RowsBut.but {σ σ' : St} {ρ ρ' : Option Nat} (h : RowsBut σ σ' ρ ρ') (b : Nat) (v : VB) : But σ (σ'.setV b v) b ρ ρ' := {
  nv := by simp [nvs, St.setV, h.vars]
  var := fun k hk => by simp only [getV, St.setV]; rw [List.getElem?_set_ne (Ne.symm hk), h.vars]
  grow := h.grow
  row := h.row
  new := h.new }
/-! ### A Builder's text -/
/-- A block that nobody knows may turn. -/
theorem HRel.at_free {C : Cz} {σ : St} {w w' : World} (h : HRel C σ w) {g : Nat} (hf : C.free σ g) (hk : ∀ k, k ≠ g → w'.heap[k]? = w.heap[k]?) (hs : w.heap.size ≤ w'.heap.size) (hb : Below C.base C.w0 w') : HRel C σ w' := by
  refine { h with mem := ?_, var := ?_, row := ?_, hb := Nat.le_trans h.hb hs, below := hb }
  · intro b o v hm
    exact (cell_of_heap (hk b (fun e => by rw [e, hf.mem] at hm; cases hm))).trans (h.mem b o v hm)
  · intro b vb hv
    have hlt : b < C.nv := h.nv ▸ (List.getElem?_eq_some_iff.1 hv).1
    exact (h.var b vb hv).mono (Cz.le.refl C) (hk _ (hf.var b hlt))
  · intro r row hr
    obtain ⟨hl, vs, fr, hh⟩ := h.row r row hr
    exact ⟨hl, vs, fr, hh.mono (Cz.le.refl C) (hk _ (hf.row r ⟨_, hr⟩))⟩
section
variable {P : Program}
theorem lies_bytes {e : TypeId} (hc : P.cellsOf e = 1) (count o n : Nat) (hn : o + n ≤ count) : liesAt P P.depth e count o e n = true := by
  have hd : P.depth = (2 * (P.types.size + Made.depth) + 1) + 1 := rfl
  rw [hd]
  simp only [liesAt, Bool.or_eq_true]
  left
  rw [hd]
  simp [rowAt, hc, hn, sameLayout, Nat.mod_one]
theorem run_unsafeString_at (w : World) (pt it ty e : TypeId) (hp : P.underlying pt = some (.pointer e)) (hc : P.cellsOf e = 1) (g o cells : Nat) (hsh : w.shape? g = some (e, cells)) (l : List UInt8) (h0 : l ≠ []) (hn : o + l.length ≤ cells) (h63 : l.length ≤ 9223372036854775807)
    (hcell : ∀ j x, l[j]? = some x → w.cell? ((⟨g, o, none⟩ : Addr).add j) = some (.int .u8 x.toNat)) :
    (Builtin.unsafeString_ #[pt, it] ty #[.pointer (some ⟨g, o, none⟩), .int .i64 l.length]).run P w = .ok (.string ⟨l.toArray⟩) (w.freeze ⟨g, o, none⟩ l.length) := by
  have hl : l.length ≠ 0 := by simpa using h0
  have hlb := Lib.run_loadBytes (P := P) w l ⟨g, o, none⟩ .empty hcell
  have hlies := lies_bytes (P := P) hc (cells / P.cellsOf e) o l.length (by rw [hc]; simpa using hn)
  have h63' : ¬ (9223372036854775807 : Int) < (l.length : Int) := by omega
  have hdef : Builtin.unsafeString_ #[pt, it] ty #[.pointer (some ⟨g, o, none⟩), .int .i64 l.length] =
      (do
        let n ← asInt (.int .i64 l.length)
        if n < 0 then runtimePanic (.error "unsafe.String: len out of range")
        if n > IntKind.i64.max then unsupported (.unsafePointer "String: a length above the largest int")
        if n = 0 then pure (.string .empty)
        else if ← variablesAt ⟨g, o, none⟩ (← elemOf pt) n.toNat then do
          let s ← loadBytes ⟨g, o, none⟩ .empty n.toNat
          freeze ⟨g, o, none⟩ n.toNat
          pure (.string s)
        else unsupported (.unsafePointer "String: not so many bytes at ptr")) := rfl
  rw [hdef]
  have hmax : IntKind.i64.max = 9223372036854775807 := rfl
  have hneg : ¬ (l.length : Int) < 0 := by omega
  simp [asInt, asIntOf, hmax, h63', hneg, hl, variablesAt, hsh, elemOf, run_underlying hp, hlies, hlb]
end
end Go.Ab
namespace Go.Ab
open Go Go.RowKit
theorem Keeps.set {σ : St} {b : Nat} {v : VB} (hv : v.data) (g : List VB) (h : List (Option Row)) : Keeps σ ⟨σ.vars.set b v ++ g, σ.rows ++ h⟩ (σ.setV b v) := {
  nv := by simp [St.setV]
  nr := rfl
  var := fun k vb hk => by
    simp only [St.setV] at hk
    refine ⟨by rw [List.getElem?_append_left (List.getElem?_eq_some_iff.1 hk).1]; exact hk, ?_⟩
    rw [List.getElem?_set] at hk
    split at hk
    · split at hk
      · cases hk; exact .inr hv
      · cases hk
    · exact .inl hk
  row := fun r x hx => by
    have hx' : σ.rows[r]? = some (some x) := hx
    exact ⟨by rw [List.getElem?_append_left (List.getElem?_eq_some_iff.1 hx').1]; exact hx', .inl hx'⟩ }
theorem ACalls.forget_set {P : Program} {G : GT} {f : FuncId} {args : List AV} {σ : St} {K : AV → St → Prop} {b : Nat} {v : VB} {r0 : AV} (hv : v.data) (hr : Data r0)
    (h : ACalls P G f args σ (fun r σ' => r = r0 ∧ ∃ g h, σ' = ⟨σ.vars.set b v ++ g, σ.rows ++ h⟩)) (hK : K r0 (σ.setV b v)) : ACalls P G f args σ K :=
  ACalls.forget (h.mono (fun r σ' ⟨h1, g, k, h2⟩ => ⟨σ.setV b v, by rw [h2]; exact Keeps.set hv g k, by rw [h1]; exact hr, by rw [h1]; exact hK⟩))
end Go.Ab
namespace Go.Ab
open Go Go.RowKit

mutual
/-- The same value, where this row is read alone from here on. -/
def frz (r : Nat) (els : List (List AV)) : AV → AV
  | .os r' off n => if r' = r ∧ off + n ≤ els.length then .sl ((els.drop off).take n) else .os r' off n
  | .agg cs => .agg (frzL r els cs)
  | .tup cs => .tup (frzL r els cs)
  | .ifc t v => .ifc t (frz r els v)
  | c => c
def frzL (r : Nat) (els : List (List AV)) : List AV → List AV
  | [] => []
  | c :: cs => frz r els c :: frzL r els cs
end
theorem frz_all {r : Nat} {els : List (List AV)} {n : Nat} (h : n = els.length) : frz r els (.os r 0 n) = .sl els := by
  simp only [frz]
  rw [if_pos ⟨trivial, by omega⟩, List.drop_zero, h, List.take_length]
theorem frzR : (∀ (r : Nat) (els : List (List AV)) (cs : List AV), frz r els (.agg cs) = .agg (frzL r els cs)) ∧ (∀ (r : Nat) (els : List (List AV)) (cs : List AV), frz r els (.tup cs) = .tup (frzL r els cs)) ∧
    (∀ (r : Nat) (els : List (List AV)), frzL r els [] = []) ∧ (∀ (r : Nat) (els : List (List AV)) (c : AV) (cs : List AV), frzL r els (c :: cs) = frz r els c :: frzL r els cs) ∧
    (∀ (r : Nat) (els : List (List AV)) (k : IntKind) (n : Int), frz r els (.int k n) = .int k n) ∧ (∀ (r : Nat) (els : List (List AV)) (b : Bool), frz r els (.bool b) = .bool b) ∧ (∀ (r : Nat) (els : List (List AV)) (s : List UInt8), frz r els (.str s) = .str s) ∧
    (∀ (r : Nat) (els : List (List AV)), frz r els .nils = .nils) ∧ (∀ (r : Nat) (els : List (List AV)), frz r els .nilp = .nilp) ∧ (∀ (r : Nat) (els : List (List AV)), frz r els .nili = .nili) ∧ (∀ (r : Nat) (els : List (List AV)), frz r els .ez = .ez) ∧
    (∀ (r : Nat) (els l : List (List AV)), frz r els (.sl l) = .sl l) ∧
    (∀ (r : Nat) (els : List (List AV)) (n : Nat), n = els.length → frz r els (.os r 0 n) = .sl els) := by
  refine ⟨?_, ?_, ?_, ?_, ?_, ?_, ?_, ?_, ?_, ?_, ?_, ?_, ?_⟩ <;> intros <;> first | (simp only [frz, frzL]; done) | exact frz_all (by assumption)

mutual
theorem Rep.frz {C D : Cz} (l : C.le D) {r : Nat} {els : List (List AV)} (hs : ∀ off n v, off + n ≤ els.length → Rep C (.os r off n) v → Rep D (.sl ((els.drop off).take n)) v) : ∀ {c : AV} {v : Value}, Rep C c v → Rep D (Go.Ab.frz r els c) v
  | .os r' off n, v, h => by
    simp only [Go.Ab.frz]
    split
    · rename_i he
      obtain ⟨rfl, hb⟩ := he
      exact hs off n v hb h
    · exact h.mono l
  | .agg cs, v, h => by
    simp only [Go.Ab.frz]
    cases h with | agg _ vs h => exact .agg _ vs (RepL.frz l hs h)
  | .tup cs, v, h => by
    simp only [Go.Ab.frz]
    cases h with | tup _ vs h => exact .tup _ vs (RepL.frz l hs h)
  | .ifc t c, v, h => by
    simp only [Go.Ab.frz]
    cases h with | ifc _ _ u h => exact .ifc t _ u (Rep.frz l hs h)
  | .int _ _, _, h => h.mono l
  | .bool _, _, h => h.mono l
  | .str _, _, h => h.mono l
  | .nilp, _, h => h.mono l
  | .vp _ _, _, h => h.mono l
  | .rp _, _, h => h.mono l
  | .nils, _, h => h.mono l
  | .ez, _, h => h.mono l
  | .sl _, _, h => h.mono l
  | .op _ _ _, _, h => h.mono l
  | .fn _ _ _, _, h => h.mono l
  | .niln, _, h => h.mono l
  | .nili, _, h => h.mono l
theorem RepL.frz {C D : Cz} (l : C.le D) {r : Nat} {els : List (List AV)} (hs : ∀ off n v, off + n ≤ els.length → Rep C (.os r off n) v → Rep D (.sl ((els.drop off).take n)) v) : ∀ {cs : List AV} {vs : List Value}, RepL C cs vs → RepL D (frzL r els cs) vs
  | [], _, h => by cases h; simp only [frzL]; exact .nil
  | c :: cs, _, h => by
    cases h with | cons _ v _ vs h t => simp only [frzL]; exact .cons _ _ _ _ (Rep.frz l hs h) (RepL.frz l hs t)
end

theorem conv_frz {σ : St} {r : Nat} {row : Row} {a : AV} (hr : σ.rows[r]? = some (some row)) : Conv a σ (frz r row.els a) (σ.setR r none) := by
  intro C w v h ha
  obtain ⟨hl, vs, fr, hh⟩ := h.row r row hr
  have hlive : σ.live r := ⟨row, hr⟩
  have hrlt : r < C.nr := by rw [h.nr]; exact (List.getElem?_eq_some_iff.1 hr).1
  let us := (vs.drop (C.row r).base).take (row.els.length * row.esz)
  let D : Cz := { C with M := fun b o => if b = (C.row r).blk then (if (C.row r).base ≤ o then us[o - (C.row r).base]? else none) else C.M b o }
  have hne : ∀ b o u, C.M b o = some u → b ≠ (C.row r).blk := fun b o u hm e => by
    subst e; rw [h.rM r o hlive] at hm; cases hm
  have hDM : ∀ b o, b ≠ (C.row r).blk → D.M b o = C.M b o := fun b o hb => if_neg hb
  have hle : C.le D := ⟨fun b o u hm => by rw [hDM b o (hne b o u hm)]; exact hm, Nat.le_refl _, fun _ _ => rfl, Nat.le_refl _, fun _ _ _ => rfl, rfl, rfl, fun b o u hb hm => by
    by_cases e : b = (C.row r).blk
    · have := h.rbase r hlive; omega
    · rw [hDM b o e] at hm; exact hm⟩
  have hlv : ∀ r', (σ.setR r none).live r' → σ.live r' ∧ r' ≠ r := by
    rintro r' ⟨x, hx⟩
    simp only [St.setR] at hx
    by_cases e : r' = r
    · subst e
      rw [List.getElem?_set_self (List.getElem?_eq_some_iff.1 hr).1] at hx; cases hx
    · rw [List.getElem?_set_ne (Ne.symm e)] at hx
      exact ⟨⟨x, hx⟩, e⟩
  have hblk : ∀ r', σ.live r' → r' ≠ r → (C.row r').blk ≠ (C.row r).blk := fun r' hl' hn e => hn (h.rinj r' r hl' hlive e)
  have hul : ∀ j u, us[j]? = some u → vs[(C.row r).base + j]? = some u := fun j u hu => by
    have : us[j]? = if j < row.els.length * row.esz then (vs.drop (C.row r).base)[j]? else none := List.getElem?_take
    rw [this] at hu
    split at hu
    · rw [List.getElem?_drop] at hu; exact hu
    · cases hu
  refine ⟨D, hle, ?_, ?_⟩
  · refine { nv := h.nv, nr := by rw [show D.nr = C.nr from rfl, h.nr]; simp [St.setR], mem := ?_, var := ?_, vinj := h.vinj, vM := ?_, vbase := h.vbase, row := ?_, rinj := ?_, rv := ?_, rM := ?_, rbase := ?_, hb := h.hb, below := h.below }
    · intro b o u hm
      by_cases e : b = (C.row r).blk
      · subst e
        simp only [D, if_true] at hm
        split at hm
        · rename_i hbo
          have := hul _ _ hm
          rw [show (C.row r).base + (o - (C.row r).base) = o by omega] at this
          simp [World.cell?, hh.heap, this]
        · cases hm
      · rw [hDM b o e] at hm; exact h.mem b o u hm
    · exact fun b vb hb => (h.var b vb hb).mono hle rfl
    · intro b o hb
      rw [hDM _ _ (fun e => h.rv r b hlive hb e.symm)]; exact h.vM b o hb
    · intro k x hx
      have hk := hlv k ⟨x, hx⟩
      simp only [St.setR] at hx
      rw [List.getElem?_set_ne (Ne.symm hk.2)] at hx
      obtain ⟨hl', us', fr', hh'⟩ := h.row k x hx
      exact ⟨hl', us', fr', hh'.mono hle rfl⟩
    · exact fun k k' h1 h2 e => h.rinj k k' (hlv k h1).1 (hlv k' h2).1 e
    · exact fun k b h1 h2 => h.rv k b (hlv k h1).1 h2
    · intro k o h1
      rw [hDM _ _ (hblk k (hlv k h1).1 (hlv k h1).2)]
      exact h.rM k o (hlv k h1).1
    · exact fun k h1 => h.rbase k (hlv k h1).1
  · refine ha.frz hle ?_
    intro off n u hb hu
    cases hu with
    | os _ _ _ a cap h1 h2 =>
      obtain ⟨rfl, hsz, hcap⟩ := h2 hl
      have hlen : ((row.els.drop off).take n).length = n := by simp; omega
      have huni : ∀ e ∈ (row.els.drop off).take n, e.length = row.esz := fun e he => hh.uni e (mem_drop' (mem_take' he))
      have hfl : ((row.els.drop off).take n).flatten = (row.els.flatten.drop (off * row.esz)).take (n * row.esz) := by
        rw [flat_drop off hh.uni, flat_take n (fun e he => hh.uni e (mem_drop' he))]
      have key := Rep.sl (C := D) ((row.els.drop off).take n) row.esz ((us.drop (off * row.esz)).take (n * row.esz)) (C.row r).blk ((C.row r).base + off * (C.row r).esz) cap huni (by rw [hlen]; exact hcap)
        (by rw [hfl]; exact (((hh.rep.mono hle).drop (off * row.esz)).take (n * row.esz)))
        (fun j x hj => by
          rw [List.getElem?_take] at hj
          split at hj
          · rw [List.getElem?_drop] at hj
            rw [hh.esz]
            simp only [D, if_true]
            rw [if_pos (by omega), show (C.row r).base + off * row.esz + j - (C.row r).base = off * row.esz + j by omega]
            exact hj
          · cases hj)
      rw [hlen] at key
      exact key

/-- A result is this, or is it when a row is read alone from here on. -/
def Frz (σ : St) (r r0 : AV) : Prop := r = r0 ∨ ∃ k row, getR σ k = some (some row) ∧ r0 = frz k row.els r
theorem ACalls.frame_frz {P : Program} {G : GT} {f : FuncId} (hG : ∀ g cs, G g = some cs → DataL cs) {args : List AV} (hd : DataL args) {Q : AV → Prop} (h : ACalls P G f args ⟨[], []⟩ (fun r σ' => ∃ r0, Frz σ' r r0 ∧ Data r0 ∧ Q r0)) (σ : St) : ACalls P G f args σ (fun r σ' => σ' = σ ∧ Q r) := by
  refine ACalls.frame hG hd (ACalls.conv (h.mono ?_)) σ
  rintro r σ' ⟨r0, hf, hd, hq⟩
  rcases hf with rfl | ⟨k, row, hk, rfl⟩
  · exact ⟨r, σ', fun C w v h0 hr => ⟨C, Cz.le.refl C, h0, hr⟩, hd, hq⟩
  · exact ⟨_, _, conv_frz hk, hd, hq⟩
/-- This state, and more behind it. -/
def Grown (σ σ' : St) : Prop := ∃ g h, σ' = ⟨σ.vars ++ g, σ.rows ++ h⟩
theorem Grown.refl (σ : St) : Grown σ σ := ⟨[], [], by simp⟩
theorem Grown.pushV {σ σ' : St} (h : Grown σ σ') {v : VB} : Grown σ (σ'.pushV v) := by
  obtain ⟨g, k, rfl⟩ := h; exact ⟨g ++ [v], k, by simp [St.pushV]⟩
theorem Grown.pushR {σ σ' : St} (h : Grown σ σ') {x : Row} : Grown σ (σ'.pushR x) := by
  obtain ⟨g, k, rfl⟩ := h; exact ⟨g, k ++ [some x], by simp [St.pushR]⟩
theorem Grown.setV {σ σ' : St} (h : Grown σ σ') {b : Nat} (hb : nvs σ ≤ b) {v : VB} : Grown σ (σ'.setV b v) := by
  obtain ⟨g, k, rfl⟩ := h
  exact ⟨g.set (b - σ.vars.length) v, k, by simp only [St.setV]; rw [List.set_append_right _ _ hb]⟩
theorem Grown.setR {σ σ' : St} (h : Grown σ σ') {r : Nat} (hb : nrs σ ≤ r) {x : Option Row} : Grown σ (σ'.setR r x) := by
  obtain ⟨g, k, rfl⟩ := h
  exact ⟨g, k.set (r - σ.rows.length) x, by simp only [St.setR]; rw [List.set_append_right _ _ hb]⟩
theorem Grown.trans {σ σ' σ2 : St} (h : Grown σ σ') (k : Grown σ' σ2) : Grown σ σ2 := by
  obtain ⟨g, r, rfl⟩ := h
  obtain ⟨g2, r2, rfl⟩ := k
  exact ⟨g ++ g2, r ++ r2, by simp⟩
/-- What a state is, but for cells that are data. -/
structure Near (σ σ1 : St) : Prop where
  nv : nvs σ1 = nvs σ
  var : ∀ (b : Nat) (vb : VB), getV σ1 b = some vb → getV σ b = some vb ∨ vb.data
  rows : σ1.rows = σ.rows
theorem Near.refl (σ : St) : Near σ σ := ⟨rfl, fun _ _ h => .inl h, rfl⟩
theorem Near.setV {σ σ1 : St} (h : Near σ σ1) {b : Nat} {v : VB} (hv : v.data) : Near σ (σ1.setV b v) := {
  nv := by simp only [nvs, St.setV, List.length_set]; exact h.nv
  var := fun k vb hk => by
    simp only [getV, St.setV] at hk
    rw [List.getElem?_set] at hk
    split at hk
    · split at hk
      · cases hk; exact .inr hv
      · cases hk
    · exact h.var k vb hk
  rows := h.rows }
/-- A method's own garbage is forgotten; what it hands back is data. -/
def Close (σ σ1 : St) (r0 r : AV) (σ' : St) : Prop := Grown σ1 σ' ∧ (r = r0 ∨ ∃ k row, nrs σ ≤ k ∧ getR σ' k = some (some row) ∧ r0 = frz k row.els r)
theorem ACalls.close {P : Program} {G : GT} {f : FuncId} {args : List AV} {σ : St} {K : AV → St → Prop} (σ1 : St) (r0 : AV) (hn : Near σ σ1) (hr : Data r0)
    (h : ACalls P G f args σ (Close σ σ1 r0)) (hK : K r0 σ1) : ACalls P G f args σ K := by
  refine ACalls.forget (ACalls.conv (h.mono ?_))
  have keep : ∀ g h, Keeps σ ⟨σ1.vars ++ g, σ1.rows ++ h⟩ σ1 := fun g h => {
    nv := hn.nv, nr := by rw [hn.rows]
    var := fun b vb hb => ⟨by rw [List.getElem?_append_left (List.getElem?_eq_some_iff.1 hb).1]; exact hb, hn.var b vb hb⟩
    row := fun r x hx => ⟨by rw [List.getElem?_append_left (List.getElem?_eq_some_iff.1 hx).1]; exact hx, .inl (by rw [← hn.rows]; exact hx)⟩ }
  rintro r σ' ⟨⟨g, kk, rfl⟩, rfl | ⟨k, row, hle, hk, rfl⟩⟩
  · exact ⟨r, _, fun C w v h0 hr => ⟨C, Cz.le.refl C, h0, hr⟩, σ1, keep g kk, hr, hK⟩
  · refine ⟨_, _, conv_frz hk, σ1, ?_, hr, hK⟩
    have : (⟨σ1.vars ++ g, σ1.rows ++ kk⟩ : St).setR k none = ⟨σ1.vars ++ g, σ1.rows ++ kk.set (k - σ1.rows.length) none⟩ := by
      simp only [St.setR]
      rw [List.set_append_right _ _ (by rw [hn.rows]; exact hle)]
    rw [this]
    exact keep g _
/-- What is data. -/
theorem dataR : (∀ (k : IntKind) (n : Int), Data (.int k n) = True) ∧ (∀ (b : Bool), Data (.bool b) = True) ∧ (∀ (s : List UInt8), Data (.str s) = True) ∧ (Data .nilp = True) ∧ (Data .nils = True) ∧ (Data .ez = True) ∧ (Data .niln = True) ∧ (Data .nili = True) ∧
    (∀ (l : List AV), Data (.rp l) = DataL l) ∧ (∀ (l : List AV), Data (.agg l) = DataL l) ∧ (∀ (l : List AV), Data (.tup l) = DataL l) ∧ (∀ (l : List (List AV)), Data (.sl l) = DataL l.flatten) ∧ (∀ (t : TypeId) (v : AV), Data (.ifc t v) = Data v) ∧
    (∀ (f : Fn) (a b : List AV), Data (.fn f a b) = (DataL a ∧ DataL b)) ∧ (DataL [] = True) ∧ (∀ (c : AV) (l : List AV), DataL (c :: l) = (Data c ∧ DataL l)) ∧ (∀ (t : TypeId) (l : List AV), (VB.cells t l).data = DataL l) ∧ (∀ (p : Prop), (True ∧ p) = p) := by
  refine ⟨?_, ?_, ?_, ?_, ?_, ?_, ?_, ?_, ?_, ?_, ?_, ?_, ?_, ?_, ?_, ?_, ?_, ?_⟩ <;> intros <;> first | rfl | (refine propext ⟨fun h => ?_, fun h => ?_⟩)
  all_goals first
    | trivial
    | (constructor; done)
    | (cases h; assumption)
    | (constructor; assumption)
    | (cases h; constructor <;> assumption)
    | (obtain ⟨h1, h2⟩ := h; constructor <;> assumption)
    | (exact h.2)
    | exact ⟨trivial, h⟩
theorem data_flat {α : Type} {f : α → List AV} {l : List α} (h : ∀ x ∈ l, DataL (f x)) : DataL (l.map f).flatten := by
  induction l with
  | nil => exact .nil
  | cons a l ih => simp only [List.map_cons, List.flatten_cons]; exact (h a (by simp)).append (ih fun x hx => h x (by simp [hx]))
end Go.Ab
namespace Go.Ab
open Go Go.RowKit

/-- This points to these cells. -/
structure PtrTo (σ : St) (p : AV) (c : List AV) : Prop where
  nil : nilA σ p = some p
  ld : ∀ n, n ≤ c.length → ldAt σ p n = some (c.take n)
  fa : ∀ off, off ≤ c.length → ∃ p', faX off σ p = some p' ∧ ∀ n, off + n ≤ c.length → ldAt σ p' n = some ((c.drop off).take n)
theorem PtrTo.all {σ : St} {p : AV} {c : List AV} (h : PtrTo σ p c) {n : Nat} (hn : c.length = n) : ldX (some n) σ p = some (.agg c) := by
  simp only [ldX]; rw [h.ld n (by omega), ← hn, List.take_length]; rfl
theorem PtrTo.one {σ : St} {p v : AV} (h : PtrTo σ p [v]) : ldX none σ p = some v := by
  have := h.ld 1 (by simp)
  simp only [ldX, this]; rfl
theorem PtrTo.fld {σ : St} {p : AV} {c : List AV} (h : PtrTo σ p c) (off : Nat) (v : AV) (hv : c[off]? = some v) : ∃ p', faX off σ p = some p' ∧ ldX none σ p' = some v := by
  have hlt := (List.getElem?_eq_some_iff.1 hv).1
  obtain ⟨p', h1, h2⟩ := h.fa off (by omega)
  refine ⟨p', h1, ?_⟩
  have e : (c.drop off).take 1 = [v] := by
    rw [List.drop_eq_getElem_cons hlt]
    have : c[off] = v := by simpa [List.getElem?_eq_getElem hlt] using hv
    rw [this]; rfl
  simp only [ldX, h2 1 (by omega), e]
theorem ptr_rp (σ : St) (c : List AV) : PtrTo σ (.rp c) c := {
  nil := rfl
  ld := fun n hn => by show (if n ≤ c.length then _ else _) = _; rw [if_pos hn]
  fa := fun off hoff => ⟨.rp (c.drop off), rfl, fun n hn => by show (if n ≤ (c.drop off).length then _ else _) = _; rw [if_pos (by simp; omega)]⟩ }
theorem ptr_op {σ : St} {r i : Nat} {row : Row} {c : List AV} (hr : getR σ r = some (some row)) (hi : row.els[i]? = some c) : PtrTo σ (.op r i 0) c := {
  nil := by
    have : nilA σ (.op r i 0) = rowN (getR σ r) (.op r i 0) := rfl
    rw [this, hr]; rfl
  ld := fun n hn => by
    have : ldAt σ (.op r i 0) n = rowL (getR σ r) i 0 n := rfl
    rw [this, hr]
    simp only [rowL, hi]
    rw [if_pos (by omega), List.drop_zero]
  fa := fun off hoff => by
    refine ⟨.op r i off, ?_, fun n hn => ?_⟩
    · show (if liveA σ (.op r i 0) = true then some (AV.op r i (0 + off)) else none) = _
      rw [if_pos (by simp only [getR] at hr; simp only [liveA, hr]), Nat.zero_add]
    · have : ldAt σ (.op r i off) n = rowL (getR σ r) i off n := rfl
      rw [this, hr]
      simp only [rowL, hi]
      rw [if_pos hn] }

/-- This reads as that list, elements of so many cells. -/
def Rd (z : Nat) (σ : St) (v : AV) (l : List (List AV)) : Prop :=
  (∀ e ∈ l, e.length = z) ∧ ((v = .nils ∧ l = []) ∨ (v = .ez ∧ l = []) ∨ v = .sl l ∨ ∃ r off row, v = .os r off l.length ∧ getR σ r = some (some row) ∧ row.esz = z ∧ l = (row.els.drop off).take l.length)
theorem Rd.len {z : Nat} {σ : St} {v : AV} {l : List (List AV)} (h : Rd z σ v l) : lenlX v = some (.int .i64 l.length) := by
  rcases h.2 with ⟨rfl, rfl⟩ | ⟨rfl, rfl⟩ | rfl | ⟨r, off, row, rfl, _⟩ <;> rfl
theorem Rd.at {z : Nat} {σ : St} {v : AV} {l : List (List AV)} (h : Rd z σ v l) {i : Nat} {c : List AV} (hi : l[i]? = some c) (k : IntKind) : ∃ p, ixsX z σ v (.int k i) = some p ∧ PtrTo σ p c := by
  have hlt := (List.getElem?_eq_some_iff.1 hi).1
  rcases h.2 with ⟨rfl, rfl⟩ | ⟨rfl, rfl⟩ | rfl | ⟨r, off, row, rfl, hr, hz, hl⟩
  · simp at hi
  · simp at hi
  · refine ⟨.rp c, ?_, ptr_rp σ c⟩
    simp only [ixsX]
    rw [if_pos (by omega), Int.toNat_natCast, hi]
    simp only []
    rw [if_pos (h.1 c (List.mem_of_getElem? hi))]
  · refine ⟨.op r (off + i) 0, ?_, ptr_op hr ?_⟩
    · simp only [getR] at hr
      simp only [ixsX, hr]
      rw [if_pos (by omega), if_pos hz, Int.toNat_natCast]
    · have hi2 : ((row.els.drop off).take l.length)[i]? = some c := by rw [← hl]; exact hi
      rw [List.getElem?_take, if_pos hlt, List.getElem?_drop] at hi2
      exact hi2
theorem Rd.pushV {z : Nat} {σ : St} {v : AV} {l : List (List AV)} (h : Rd z σ v l) (b : VB) : Rd z (σ.pushV b) v l := h
theorem Rd.setV {z : Nat} {σ : St} {v : AV} {l : List (List AV)} (h : Rd z σ v l) (b : Nat) (x : VB) : Rd z (σ.setV b x) v l := h
theorem getR_push {σ : St} {r : Nat} {x : Option Row} (h : getR σ r = some x) (y : Row) : getR (σ.pushR y) r = some x := by
  simp only [getR, St.pushR] at *
  rw [List.getElem?_append_left (List.getElem?_eq_some_iff.1 h).1]; exact h
theorem Rd.pushR {z : Nat} {σ : St} {v : AV} {l : List (List AV)} (h : Rd z σ v l) (y : Row) : Rd z (σ.pushR y) v l :=
  ⟨h.1, h.2.imp id (fun h => h.imp id (fun h => h.imp id (fun ⟨r, off, row, h1, h2, h3⟩ => ⟨r, off, row, h1, getR_push h2 y, h3⟩)))⟩
/-- The list as a value that is data. -/
def lsv (l : List (List AV)) : AV := if l = [] then .nils else .sl l
theorem lsv_nil : lsv [] = .nils := rfl
theorem lsv_data {l : List (List AV)} (h : DataL l.flatten) : Data (lsv l) := by
  unfold lsv; split
  · exact .nils
  · exact .sl l h
theorem rd_lsv {z : Nat} {l : List (List AV)} (h : ∀ e ∈ l, e.length = z) (σ : St) : Rd z σ (lsv l) l := by
  refine ⟨h, ?_⟩
  unfold lsv
  split
  · exact .inl ⟨rfl, by assumption⟩
  · exact .inr (.inr (.inl rfl))
theorem lsv_cells (l : List (List AV)) : cellsA (lsv l) = [lsv l] := by unfold lsv; split <;> rfl
theorem lsv_one (l : List (List AV)) : (lsv l).one = true := by unfold lsv; split <;> rfl

/-- A list under append: nil, or a row. -/
def Lst (e z : Nat) (σ : St) (v : AV) (l : List (List AV)) (ρ : Option Nat) : Prop :=
  (∀ x ∈ l, x.length = z) ∧ ((v = .nils ∧ l = [] ∧ ρ = none) ∨ l ≠ [] ∧ ∃ r row, ρ = some r ∧ v = .os r 0 l.length ∧ getR σ r = some (some row) ∧ row.els = l ∧ row.esz = z ∧ row.ety = e ∧ row.fz ≤ l.length)
theorem Lst.nil (e z : Nat) (σ : St) : Lst e z σ .nils [] none := ⟨by simp, .inl ⟨rfl, rfl, rfl⟩⟩
theorem Lst.rd {e z : Nat} {σ : St} {v : AV} {l : List (List AV)} {ρ : Option Nat} (h : Lst e z σ v l ρ) : Rd z σ v l := by
  refine ⟨h.1, ?_⟩
  rcases h.2 with ⟨rfl, rfl, _⟩ | ⟨_, r, row, _, rfl, hr, rfl, hz, _, _⟩
  · exact .inl ⟨rfl, rfl⟩
  · exact .inr (.inr (.inr ⟨r, 0, row, rfl, hr, hz, by simp⟩))
theorem Lst.cells {e z : Nat} {σ : St} {v : AV} {l : List (List AV)} {ρ : Option Nat} (h : Lst e z σ v l ρ) : cellsA v = [v] ∧ v.one = true := by
  rcases h.2 with ⟨rfl, _⟩ | ⟨_, r, row, _, rfl, _⟩ <;> exact ⟨rfl, rfl⟩
theorem Lst.len {e z : Nat} {σ : St} {v : AV} {l : List (List AV)} {ρ : Option Nat} (h : Lst e z σ v l ρ) : lenlX v = some (.int .i64 l.length) := h.rd.len
theorem Lst.setV {e z : Nat} {σ : St} {v : AV} {l : List (List AV)} {ρ : Option Nat} (h : Lst e z σ v l ρ) (b : Nat) (x : VB) : Lst e z (σ.setV b x) v l ρ := h
theorem Lst.pushV {e z : Nat} {σ : St} {v : AV} {l : List (List AV)} {ρ : Option Nat} (h : Lst e z σ v l ρ) (x : VB) : Lst e z (σ.pushV x) v l ρ := h
theorem Lst.pushR {e z : Nat} {σ : St} {v : AV} {l : List (List AV)} {ρ : Option Nat} (h : Lst e z σ v l ρ) (y : Row) : Lst e z (σ.pushR y) v l ρ :=
  ⟨h.1, h.2.imp id (fun ⟨h0, r, row, h1, h2, h3, h4⟩ => ⟨h0, r, row, h1, h2, getR_push h3 y, h4⟩)⟩
theorem Lst.lt {e z : Nat} {σ : St} {v : AV} {l : List (List AV)} {r : Nat} (h : Lst e z σ v l (some r)) : r < nrs σ := by
  rcases h.2 with ⟨_, _, h⟩ | ⟨_, r', row, h1, _, hr, _⟩
  · cases h
  · cases h1; exact getR_lt hr
theorem Lst.but {e z : Nat} {σ σ' : St} {v : AV} {l : List (List AV)} {ρ ρ1 ρ2 : Option Nat} (h : Lst e z σ v l ρ) (hb : RowsBut σ σ' ρ1 ρ2) (hne : ρ = none ∨ ρ ≠ ρ1) : Lst e z σ' v l ρ := by
  refine ⟨h.1, ?_⟩
  rcases h.2 with h | ⟨h0, r, row, rfl, h2, hr, h3⟩
  · exact .inl h
  · refine .inr ⟨h0, r, row, rfl, h2, ?_, h3⟩
    rw [hb.row r (by rcases hne with h | h; · cases h
                     · exact h) (getR_lt hr)]
    exact hr
theorem RowsBut.grown {σ1 σ σ' : St} {ρ ρ' : Option Nat} (h : RowsBut σ σ' ρ ρ') (hg : Grown σ1 σ) (hk : ∀ k, ρ = some k → nrs σ1 ≤ k) : Grown σ1 σ' := by
  obtain ⟨g, rs, rfl⟩ := hg
  refine ⟨g, σ'.rows.drop (nrs σ1), ?_⟩
  have hv : σ'.vars = σ1.vars ++ g := h.vars
  have hr : σ'.rows.take (nrs σ1) = σ1.rows := by
    apply List.ext_getElem?
    intro i
    rw [List.getElem?_take]
    split
    · rename_i hi
      have h1 := h.row i (fun e => by have := hk i e.symm; omega) (by simp only [nrs, List.length_append] at hi ⊢; omega)
      simp only [getR] at h1
      rw [h1, List.getElem?_append_left hi]
    · rename_i hi
      rw [List.getElem?_eq_none (by simp only [nrs] at hi; omega)]
  cases σ' with
  | mk vs rs' =>
    simp only at hv hr ⊢
    rw [hv]
    congr 1
    have := List.take_append_drop (nrs σ1) rs'
    rw [hr] at this
    exact this.symm
theorem RowsBut.trans {σ σ1 σ2 : St} {ρ ρ1 ρ2 : Option Nat} (h : RowsBut σ σ1 ρ ρ1) (k : RowsBut σ1 σ2 ρ1 ρ2) : RowsBut σ σ2 ρ ρ2 := {
  vars := k.vars.trans h.vars
  grow := Nat.le_trans h.grow k.grow
  row := fun r hr hlt => by
    by_cases he : some r = ρ1
    · rcases h.new with e | ⟨r', e, hle⟩
      · exact absurd (he.trans e) hr
      · rw [e] at he; cases he; omega
    · rw [k.row r he (Nat.lt_of_lt_of_le hlt h.grow), h.row r hr hlt]
  new := by
    rcases k.new with e | ⟨r, e, hle⟩
    · rw [e]; exact h.new
    · exact .inr ⟨r, e, Nat.le_trans h.grow hle⟩ }
theorem RowsBut.getV {σ σ' : St} {ρ ρ' : Option Nat} (h : RowsBut σ σ' ρ ρ') (b : Nat) : Go.Ab.getV σ' b = Go.Ab.getV σ b := by simp only [Go.Ab.getV, h.vars]
theorem RowsBut.nvs {σ σ' : St} {ρ ρ' : Option Nat} (h : RowsBut σ σ' ρ ρ') : Go.Ab.nvs σ' = Go.Ab.nvs σ := by simp only [Go.Ab.nvs, h.vars]

/-- What is appended: some elements. -/
theorem app_lst {e z b : Nat} {σ : St} {v x : AV} {l ys : List (List AV)} {ρ : Option Nat} (h : Lst e z σ v l ρ) (hx : elsA σ x = some ys) (hz : ∀ y ∈ ys, y.length = z) (h1 : ys.all (fun c => c.all AV.one) = true) (hne : ys ≠ [])
    (hle : (l.length + ys.length) * b ≤ 140737488355328) : ∃ v' σ' ρ', appX e z b σ v x = some (v', σ') ∧ Lst e z σ' v' (l ++ ys) ρ' ∧ RowsBut σ σ' ρ ρ' := by
  have hall : (ys.all (fun c => c.length == z) && ys.all (fun c => c.all AV.one)) = true := by
    rw [h1, Bool.and_true, List.all_eq_true]; intro c hc; simpa using hz c hc
  have hall2 : ∀ x ∈ l ++ ys, x.length = z := fun x hx => by
    rcases List.mem_append.1 hx with hx | hx
    · exact h.1 x hx
    · exact hz x hx
  rcases h.2 with ⟨rfl, rfl, rfl⟩ | ⟨hl0, r, row, rfl, rfl, hr, rfl, hz', ht, hf⟩
  · refine ⟨.os (nrs σ) 0 ys.length, σ.pushR ⟨e, z, 0, ys⟩, some (nrs σ), ?_, ⟨hall2, .inr ⟨by simpa using hne, _, ⟨e, z, 0, ys⟩, rfl, by simp, ?_, by simp, rfl, rfl, Nat.zero_le _⟩⟩, ⟨rfl, ?_, ?_, .inr ⟨_, rfl, Nat.le_refl _⟩⟩⟩
    · simp only [appX, hx, hall, if_true, if_neg hne]
      rw [if_pos (by simpa using hle)]; rfl
    · simp [getR, nrs, St.pushR]
    · simp [nrs, St.pushR]
    · intro r _ hr
      simp only [getR, nrs, St.pushR] at *
      rw [List.getElem?_append_left hr]
  · refine ⟨.os (nrs σ) 0 (row.els.length + ys.length), (σ.setR r none).pushR ⟨e, z, row.fz, row.els ++ ys⟩, some (nrs σ), ?_, ⟨hall2, .inr ⟨by simp [hl0], _, ⟨e, z, row.fz, row.els ++ ys⟩, rfl, by simp, ?_, by simp, rfl, rfl, ?_⟩⟩, ⟨rfl, ?_, ?_, .inr ⟨_, rfl, Nat.le_refl _⟩⟩⟩
    · simp only [getR] at hr
      simp only [appX, hx, hall, if_true, hr, hz', ht, Nat.zero_add, Nat.sub_zero, List.drop_zero]
      rw [if_pos ⟨Nat.le_refl _, hf, trivial, trivial, hle⟩, List.take_length]
      rfl
    · simp [getR, nrs, St.pushR, St.setR]
    · simp; omega
    · simp [nrs, St.pushR, St.setR]
    · intro r' hne hr'
      have hne' : r' ≠ r := fun e => hne (by rw [e])
      simp only [getR, nrs, St.pushR, St.setR] at *
      rw [List.getElem?_append_left (by simpa using hr'), List.getElem?_set_ne (Ne.symm hne')]
/-- append(l, c), c one element just made. -/
theorem app_one {e z b : Nat} {σ : St} {v : AV} {l : List (List AV)} {ρ : Option Nat} {c : List AV} {K : AV → St → Prop} (h : Lst e z σ v l ρ) (hz : c.length = z) (h1 : c.all AV.one = true)
    (hle : (l.length + 1) * b ≤ 140737488355328) (hk : ∀ v' σ' ρ', Lst e z σ' v' (l ++ [c]) ρ' → RowsBut σ σ' ρ ρ' → K v' σ') :
    pairK (appX e z b (σ.pushR ⟨e, z, 0, [c]⟩) v (.os (nrs σ) 0 1)) K := by
  have hr : getR (σ.pushR ⟨e, z, 0, [c]⟩) (nrs σ) = some (some ⟨e, z, 0, [c]⟩) := by simp [getR, nrs, St.pushR]
  have hx : elsA (σ.pushR ⟨e, z, 0, [c]⟩) (.os (nrs σ) 0 1) = some [c] := by
    simp only [getR] at hr
    simp [elsA, hr]
  obtain ⟨v', σ', ρ', h2, h3, h4⟩ := app_lst (h.pushR ⟨e, z, 0, [c]⟩) hx (by simpa using hz) (by simpa using h1) (by simp) (by simpa using hle)
  rw [h2]
  refine hk v' σ' ρ' h3 ⟨h4.vars, ?_, ?_, ?_⟩
  · have := h4.grow; simp only [nrs, St.pushR, List.length_append] at this ⊢; simp at this; omega
  · intro r hne hlt
    rw [h4.row r hne (by simp only [nrs, St.pushR, List.length_append] at hlt ⊢; omega)]
    simp only [getR, nrs, St.pushR] at *
    rw [List.getElem?_append_left hlt]
  · rcases h4.new with e | ⟨r, e, hle⟩
    · exact .inl e
    · refine .inr ⟨r, e, ?_⟩
      simp only [nrs, St.pushR, List.length_append] at hle ⊢; omega
theorem Grown.setOld {σ τ : St} {b : Nat} {y : VB} (h : Grown (σ.setV b y) τ) (hb : b < nvs σ) (x : VB) : Grown (σ.setV b x) (τ.setV b x) := by
  obtain ⟨g, k, rfl⟩ := h
  exact ⟨g, k, by simp only [St.setV]; rw [List.set_append_left _ _ (by simpa [nvs] using hb), List.set_set]⟩
theorem Grown.setOld0 {σ τ : St} {b : Nat} (h : Grown σ τ) (hb : b < nvs σ) (x : VB) : Grown (σ.setV b x) (τ.setV b x) := by
  obtain ⟨g, k, rfl⟩ := h
  exact ⟨g, k, by simp only [St.setV]; rw [List.set_append_left _ _ (by simpa [nvs] using hb)]⟩
theorem Grown.nvs {σ τ : St} (h : Grown σ τ) : Go.Ab.nvs σ ≤ Go.Ab.nvs τ := by obtain ⟨g, k, rfl⟩ := h; simp [Go.Ab.nvs]
theorem Grown.nrs {σ τ : St} (h : Grown σ τ) : Go.Ab.nrs σ ≤ Go.Ab.nrs τ := by obtain ⟨g, k, rfl⟩ := h; simp [Go.Ab.nrs]
/-- How many variables and rows there are. -/
theorem nvsR : (∀ (σ : St) (v : VB), nvs (σ.pushV v) = nvs σ + 1) ∧ (∀ (σ : St) (b : Nat) (v : VB), nvs (σ.setV b v) = nvs σ) ∧ (∀ (σ : St) (r : Row), nvs (σ.pushR r) = nvs σ) ∧ (∀ (σ : St) (r : Nat) (x : Option Row), nvs (σ.setR r x) = nvs σ) ∧
    (∀ (σ : St) (v : VB), nrs (σ.pushV v) = nrs σ) ∧ (∀ (σ : St) (b : Nat) (v : VB), nrs (σ.setV b v) = nrs σ) ∧ (∀ (σ : St) (r : Row), nrs (σ.pushR r) = nrs σ + 1) ∧ (∀ (σ : St) (r : Nat) (x : Option Row), nrs (σ.setR r x) = nrs σ) := by
  refine ⟨?_, ?_, ?_, ?_, ?_, ?_, ?_, ?_⟩ <;> intros <;> simp [nvs, nrs, St.pushV, St.pushR, St.setV, St.setR]
def pickP (v : Option AV) (a b : XV) (t : Env) : Option AV := v.bind fun v => match v with
    | .bool true => xv t a
    | .bool false => xv t b
    | _ => none
/-- These are all elements, in order, of so many cells each. -/
def fullN (z len : Nat) : Nat → List (Nat × AV) → Bool
  | i, [] => i == len
  | i, (j, x) :: r => j == i && ((cellsA x).length == z && fullN z len (i + 1) r)
theorem fillE_full {z len : Nat} : ∀ (ps : List (Nat × AV)) (i : Nat) (els : List (List AV)), fullN z len i ps = true → els.length = len → fillE z els ps = some (els.take i ++ ps.map fun p => cellsA p.2)
  | [], i, els, h, hl => by
    simp only [fullN, beq_iff_eq] at h
    subst h
    simp only [fillE, List.map_nil, List.append_nil]
    rw [List.take_of_length_le (by omega)]
  | (j, x) :: r, i, els, h, hl => by
    simp only [fullN, Bool.and_eq_true, beq_iff_eq] at h
    obtain ⟨rfl, hx, hr⟩ := h
    have hlt : ∀ (r : List (Nat × AV)) (k : Nat), fullN z len k r = true → k ≤ len := by
      intro r
      induction r with
      | nil => intro k h; simp [fullN] at h; omega
      | cons p r ih => intro k h; obtain ⟨j', x'⟩ := p; simp only [fullN, Bool.and_eq_true] at h; have := ih _ h.2.2; omega
    have hi := hlt r _ hr
    simp only [fillE]
    rw [if_pos ⟨by omega, hx⟩, fillE_full r (j + 1) _ hr (by simpa using hl)]
    congr 1
    rw [List.take_add_one, List.take_set_of_le (Nat.le_refl _), List.getElem?_set_self (by omega)]
    simp
def mksF (ok : Bool) (e z len : Nat) (zero : List AV) (σ : St) (ps : List (Nat × AV)) : Option (AV × St) :=
  if ok then some (.os (nrs σ) 0 len, σ.pushR ⟨e, z, 0, ps.map fun p => cellsA p.2⟩) else mksX e z zero len σ ps
/-- A slice that is made of its elements; a choice in a region that draws. -/
theorem walkK : (∀ (t : Env) (σ : St) (c a b : XV), xP t σ (.pick c a b) = pickP (xv t c) a b t) ∧ (∀ (t : Env) (a b : XV), pickP (some (.bool true)) a b t = xv t a) ∧ (∀ (t : Env) (a b : XV), pickP (some (.bool false)) a b t = xv t b) ∧
    (∀ (e : TypeId) (z : Nat) (zero : List AV) (len : Nat) (σ : St) (ps : List (Nat × AV)), mksX e z zero len σ ps = mksF (fullN z len 0 ps) e z len zero σ ps) ∧
    (∀ (e z len : Nat) (zero : List AV) (σ : St) (ps : List (Nat × AV)), mksF true e z len zero σ ps = some (.os (nrs σ) 0 len, σ.pushR ⟨e, z, 0, ps.map fun p => cellsA p.2⟩)) ∧
    (∀ (z len i : Nat), fullN z len i [] = (i == len)) ∧ (∀ (z len i j : Nat) (x : AV) (r : List (Nat × AV)), fullN z len i ((j, x) :: r) = (j == i && ((cellsA x).length == z && fullN z len (i + 1) r))) ∧
    (∀ (f : Nat × AV → List AV), ([] : List (Nat × AV)).map f = []) ∧ (∀ (f : Nat × AV → List AV) (p : Nat × AV) (r : List (Nat × AV)), (p :: r).map f = f p :: r.map f) ∧ (∀ (n : Nat), (n == n) = true) := by
  refine ⟨?_, ?_, ?_, ?_, ?_, ?_, ?_, ?_, ?_, ?_⟩ <;> intros <;> first | rfl | (simp; done) | skip
  rename_i e z zero len σ ps
  unfold mksF
  split
  · rename_i h
    simp only [mksX]
    rw [fillE_full ps 0 _ h (by simp)]
    simp [nrs]
  · rfl
/-- At the end: the list is read alone. -/
theorem close_lst {e z : Nat} {σ σ1 σ' : St} {v : AV} {l : List (List AV)} {ρ : Option Nat} (h : Lst e z σ' v l ρ) (hg : Grown σ1 σ') (hk : ∀ k, ρ = some k → nrs σ ≤ k) (f : AV → AV)
    (hf : ∀ k els, frz k els (f v) = f (frz k els v)) : Close σ σ1 (f (lsv l)) (f v) σ' := by
  refine ⟨hg, ?_⟩
  rcases h.2 with ⟨rfl, rfl, _⟩ | ⟨h0, r, row, rfl, rfl, hr, he, _⟩
  · exact .inl rfl
  · refine .inr ⟨r, row, hk r rfl, hr, ?_⟩
    rw [hf, he]
    rw [frz_all rfl]
    unfold lsv
    rw [if_neg h0]
theorem frz_lst {e z : Nat} {σ' : St} {v : AV} {l : List (List AV)} {ρ : Option Nat} (h : Lst e z σ' v l ρ) (f : AV → AV) (hf : ∀ k els, frz k els (f v) = f (frz k els v)) : Frz σ' (f v) (f (lsv l)) := by
  rcases h.2 with ⟨rfl, rfl, _⟩ | ⟨h0, r, row, rfl, rfl, hr, he, _⟩
  · exact .inl rfl
  · refine .inr ⟨r, row, hr, ?_⟩
    rw [hf, he, frz_all rfl]
    unfold lsv
    rw [if_neg h0]
end Go.Ab
namespace Go.Ab
open Go
end Go.Ab
namespace Go.Ab
open Go
/-- A list of one's own: nil, or a row of which it is the head. -/
def Own (e z : Nat) (σ : St) (v : AV) (l : List (List AV)) (ρ : Option Nat) : Prop :=
  (∀ x ∈ l, x.length = z) ∧ ((v = .nils ∧ l = [] ∧ ρ = none) ∨ ∃ r row, ρ = some r ∧ v = .os r 0 l.length ∧ getR σ r = some (some row) ∧ l.length ≤ row.els.length ∧ row.els.take l.length = l ∧ row.esz = z ∧ row.ety = e ∧ row.fz = 0)
theorem Own.nil (e z : Nat) (σ : St) : Own e z σ .nils [] none := ⟨by simp, .inl ⟨rfl, rfl, rfl⟩⟩
theorem Own.rd {e z : Nat} {σ : St} {v : AV} {l : List (List AV)} {ρ : Option Nat} (h : Own e z σ v l ρ) : Rd z σ v l := by
  refine ⟨h.1, ?_⟩
  rcases h.2 with ⟨rfl, rfl, _⟩ | ⟨r, row, _, rfl, hr, hle, ht, hz, _, _⟩
  · exact .inl ⟨rfl, rfl⟩
  · exact .inr (.inr (.inr ⟨r, 0, row, rfl, hr, hz, by rw [List.drop_zero, ht]⟩))
theorem Own.cells {e z : Nat} {σ : St} {v : AV} {l : List (List AV)} {ρ : Option Nat} (h : Own e z σ v l ρ) : cellsA v = [v] ∧ v.one = true := by
  rcases h.2 with ⟨rfl, _, _⟩ | ⟨r, row, _, rfl, _⟩ <;> exact ⟨rfl, rfl⟩
theorem Own.len {e z : Nat} {σ : St} {v : AV} {l : List (List AV)} {ρ : Option Nat} (h : Own e z σ v l ρ) : lenlX v = some (.int .i64 l.length) := h.rd.len
theorem Own.setV {e z : Nat} {σ : St} {v : AV} {l : List (List AV)} {ρ : Option Nat} (h : Own e z σ v l ρ) (b : Nat) (x : VB) : Own e z (σ.setV b x) v l ρ := h
theorem Own.pushV {e z : Nat} {σ : St} {v : AV} {l : List (List AV)} {ρ : Option Nat} (h : Own e z σ v l ρ) (x : VB) : Own e z (σ.pushV x) v l ρ := h
theorem Own.pushR {e z : Nat} {σ : St} {v : AV} {l : List (List AV)} {ρ : Option Nat} (h : Own e z σ v l ρ) (y : Row) : Own e z (σ.pushR y) v l ρ :=
  ⟨h.1, h.2.imp id (fun ⟨r, row, h1, h2, h3, h4⟩ => ⟨r, row, h1, h2, getR_push h3 y, h4⟩)⟩
theorem Own.lt {e z : Nat} {σ : St} {v : AV} {l : List (List AV)} {r : Nat} (h : Own e z σ v l (some r)) : r < nrs σ := by
  rcases h.2 with ⟨_, _, h⟩ | ⟨r', row, h1, _, hr, _⟩
  · cases h
  · cases h1; exact getR_lt hr
theorem Own.but {e z : Nat} {σ σ' : St} {v : AV} {l : List (List AV)} {ρ ρ1 ρ2 : Option Nat} (h : Own e z σ v l ρ) (hb : RowsBut σ σ' ρ1 ρ2) (hne : ρ = none ∨ ρ ≠ ρ1) : Own e z σ' v l ρ := by
  refine ⟨h.1, ?_⟩
  rcases h.2 with h | ⟨r, row, rfl, h2, hr, h3⟩
  · exact .inl h
  · refine .inr ⟨r, row, rfl, h2, ?_, h3⟩
    rw [hb.row r (by rcases hne with h | h; · cases h
                     · exact h) (getR_lt hr)]
    exact hr
/-- append(l, c), c one element just made. -/
theorem own_app {e z b : Nat} {σ : St} {v : AV} {l : List (List AV)} {ρ : Option Nat} {c : List AV} {K : AV → St → Prop} (h : Own e z σ v l ρ) (hz : c.length = z) (h1 : c.all AV.one = true)
    (hle : (l.length + 1) * b ≤ 140737488355328) (hk : ∀ v' σ' ρ', Own e z σ' v' (l ++ [c]) ρ' → RowsBut σ σ' ρ ρ' → K v' σ') :
    pairK (appX e z b (σ.pushR ⟨e, z, 0, [c]⟩) v (.os (nrs σ) 0 1)) K := by
  have hx : elsA (σ.pushR ⟨e, z, 0, [c]⟩) (.os (nrs σ) 0 1) = some [c] := by
    have hr : (σ.pushR ⟨e, z, 0, [c]⟩).rows[nrs σ]? = some (some ⟨e, z, 0, [c]⟩) := by simp [nrs, St.pushR]
    simp [elsA, hr]
  have hall : ([c].all (fun c => c.length == z) && [c].all (fun c => c.all AV.one)) = true := by simp [hz, h1]
  have hall2 : ∀ x ∈ l ++ [c], x.length = z := fun x hx => by
    rcases List.mem_append.1 hx with hx | hx
    · exact h.1 x hx
    · simp at hx; subst hx; exact hz
  rcases h.2 with ⟨rfl, rfl, rfl⟩ | ⟨r, row, rfl, rfl, hr, hln, ht, hz', hty, hf⟩
  · simp only [appX, hx, hall, if_true]
    rw [if_neg (by simp), if_pos (by simpa using hle)]
    refine hk _ _ (some (nrs σ + 1)) ⟨hall2, .inr ⟨nrs σ + 1, ⟨e, z, 0, [c]⟩, rfl, ?_, ?_, by simp, by simp, rfl, rfl, rfl⟩⟩ ⟨rfl, ?_, ?_, .inr ⟨_, rfl, by omega⟩⟩
    · simp [nrs, St.pushR]
    · simp [getR, nrs, St.pushR]
    · simp [nrs, St.pushR]
    · intro r _ hr
      simp only [getR, nrs, St.pushR] at *
      rw [List.getElem?_append_left (by simp; omega), List.getElem?_append_left hr]
  · have hr' : (σ.pushR ⟨e, z, 0, [c]⟩).rows[r]? = some (some row) := by
      simp only [getR] at hr
      simp only [St.pushR]
      rw [List.getElem?_append_left (by simpa [nrs] using getR_lt (by simpa only [getR] using hr))]
      exact hr
    simp only [appX, hx, hall, if_true, hr']
    rw [if_pos ⟨by omega, by omega, hz', hty, by simpa using hle⟩]
    refine hk _ _ (some (nrs σ + 1)) ⟨hall2, .inr ⟨nrs σ + 1, ⟨e, z, row.fz - 0, (row.els.drop 0).take l.length ++ [c]⟩, rfl, ?_, ?_, ?_, ?_, rfl, rfl, by simp [hf]⟩⟩ ⟨rfl, ?_, ?_, .inr ⟨_, rfl, by omega⟩⟩
    · simp [nrs, St.pushR]
    · simp [getR, nrs, St.pushR, St.setR]
    · simp; omega
    · simp only [List.drop_zero, ht]
      exact List.take_of_length_le (by simp)
    · simp [nrs, St.pushR, St.setR]; omega
    · intro r' hne hr2
      have hne' : r' ≠ r := fun e => hne (by rw [e])
      simp only [getR, nrs, St.pushR, St.setR] at *
      rw [List.getElem?_append_left (by simp; omega), List.getElem?_set_ne (Ne.symm hne'), List.getElem?_append_left hr2]
/-- l[:len(l)-1] -/
theorem own_cut {e z : Nat} {σ : St} {v : AV} {l : List (List AV)} {ρ : Option Nat} (h : Own e z σ v l ρ) (n : Nat) (hn : n ≤ l.length) (h0 : l ≠ []) : ∃ v', slsX z σ v none (some (.int .i64 n)) none = some v' ∧ Own e z σ v' (l.take n) ρ := by
  rcases h.2 with ⟨_, rfl, _⟩ | ⟨r, row, rfl, rfl, hr, hln, ht, hz', hty, hf⟩
  · exact absurd rfl h0
  · refine ⟨.os r 0 n, ?_, fun x hx => h.1 x (List.mem_of_mem_take hx), .inr ⟨r, row, rfl, ?_, hr, ?_, ?_, hz', hty, hf⟩⟩
    · have hl : liveA σ (.os r 0 l.length) = true := by simp only [getR] at hr; simp only [liveA, hr]
      simp only [slsX, hl, if_true, bnd]
      rw [if_pos ⟨by omega, by omega⟩]
      simp
    · rw [List.length_take]; congr 1; omega
    · rw [List.length_take]; omega
    · rw [List.length_take, Nat.min_eq_left hn]
      conv => rhs; rw [← ht]
      rw [List.take_take, Nat.min_eq_left hn]
/-- Where an element lies, and how a part of it is written. -/
theorem own_at {e z : Nat} {σ : St} {v : AV} {l : List (List AV)} {ρ : Option Nat} (h : Own e z σ v l ρ) {i : Nat} {c : List AV} (hi : l[i]? = some c) : ∃ r, ρ = some r ∧ ixsX z σ v (.int .i64 i) = some (.op r i 0) ∧ PtrTo σ (.op r i 0) c := by
  have hlt := (List.getElem?_eq_some_iff.1 hi).1
  rcases h.2 with ⟨_, rfl, _⟩ | ⟨r, row, rfl, rfl, hr, hln, ht, hz', hty, hf⟩
  · simp at hi
  · refine ⟨r, rfl, ?_, ptr_op hr ?_⟩
    · simp only [getR] at hr
      simp only [ixsX]
      rw [if_pos ⟨by omega, by omega⟩, hr]
      simp only [hz', if_true, Nat.zero_add, Int.toNat_natCast]
    · rw [← ht, List.getElem?_take, if_pos hlt] at hi
      exact hi
theorem own_st {e z : Nat} {σ : St} {v x : AV} {l : List (List AV)} {r : Nat} (h : Own e z σ v l (some r)) {i k : Nat} {c : List AV} (hi : l[i]? = some c) (hk : k < z) (hx : cellsA x = [x]) (h1 : x.one = true) :
    ∃ σ', stX 1 σ (.op r i k) x = some σ' ∧ Own e z σ' v (l.set i (c.set k x)) (some r) ∧ RowsBut σ σ' (some r) (some r) := by
  have hlt := (List.getElem?_eq_some_iff.1 hi).1
  have hcl : c.length = z := h.1 c (List.mem_of_getElem? hi)
  rcases h.2 with ⟨_, _, h⟩ | ⟨r', row, he, rfl, hr, hln, ht, hz', hty, hf⟩
  · cases h
  · cases he
    have hi' : row.els[i]? = some c := by
      rw [← ht, List.getElem?_take, if_pos hlt] at hi
      exact hi
    have hset : setL c k [x] = c.set k x := rfl
    refine ⟨σ.setR r (some { row with els := row.els.set i (c.set k x) }), ?_, ⟨?_, .inr ⟨r, { row with els := row.els.set i (c.set k x) }, rfl, by simp, ?_, by simpa using hln, ?_, hz', hty, hf⟩⟩, ⟨rfl, by simp [nrs, St.setR], ?_, .inl rfl⟩⟩
    · simp only [stX, hx, List.length_singleton, List.all_cons, List.all_nil, h1, Bool.and_self, and_self, if_true]
      simp only [getR] at hr
      simp only [stAt, hr, hi', List.length_singleton, hset]
      rw [if_pos ⟨by omega, by omega⟩]
    · intro y hy
      rcases List.mem_or_eq_of_mem_set hy with hy | rfl
      · exact h.1 y hy
      · simpa using hcl
    · have := getR_lt hr
      simp only [getR, St.setR, nrs] at *
      rw [List.getElem?_set_self this]
    · simp only [List.length_set]
      rw [List.take_set, ht]
    · intro r' hne hr2
      have hne' : r' ≠ r := fun e => hne (by rw [e])
      simp only [getR, St.setR]
      rw [List.getElem?_set_ne (Ne.symm hne')]
end Go.Ab
namespace Go.Ab
open Go
def wk := And.intro @wrap_i64 (And.intro @wrap_i32 (And.intro @wrap_u8 (And.intro @wrap_u32 (And.intro @wrap_u64 (And.intro @Nat.le_refl (And.intro @Nat.zero_lt_one (And.intro @Int.toNat_natCast (And.intro @Int.cast_ofNat_Int (And.intro @decide_true (And.intro @decide_false (And.intro @and_true @true_and)))))))))))
def ln := And.intro nvsR (And.intro @List.length_cons.{0} (And.intro @List.length_nil.{0} @List.length_append.{0}))
end Go.Ab
namespace Go.Ab
open Go Go.RowKit
theorem ACalls.give1 {P : Program} {G : GT} {f : FuncId} {a a' : AV} {σ σ' : St} {K : AV → St → Prop} (hc : Conv a σ a' σ') (h : ACalls P G f [a'] σ' K) : ACalls P G f [a] σ K := by
  intro C w vs h0 hg ha
  cases ha with
  | cons _ v _ vs' h1 ht =>
    cases ht
    obtain ⟨C2, hle, hrel, hr⟩ := hc C w v h0 h1
    exact (h C2 w [v] hrel (hg.mono hle) (.cons _ _ _ _ hr .nil)).mono (fun _ _ ⟨r, σ2, C', hle', hrel', hr', hQ⟩ => ⟨r, σ2, C', hle.trans hle', hrel', hr', hQ⟩)
theorem Conv.refl (a : AV) (σ : St) : Conv a σ a σ := fun C w v h0 hr => ⟨C, Cz.le.refl C, h0, hr⟩
end Go.Ab
namespace Go.Ab
open Go Go.RowKit
theorem Conv.trans {a a' a2 : AV} {σ σ' σ2 : St} (h : Conv a σ a' σ') (k : Conv a' σ' a2 σ2) : Conv a σ a2 σ2 := fun C w v h0 hr => by
  obtain ⟨D, l1, h1, r1⟩ := h C w v h0 hr
  obtain ⟨E, l2, h2, r2⟩ := k D w v h1 r1
  exact ⟨E, l1.trans l2, h2, r2⟩
end Go.Ab
namespace Go.Ab
open Go Go.RowKit
/-- Rows: all as they were but one's own, which may be another now. -/
structure RB (σ σ' : St) (ρ ρ' : Option Nat) : Prop where
  vars : σ'.vars = σ.vars
  grow : nrs σ ≤ nrs σ'
  row : ∀ r, some r ≠ ρ → r < nrs σ → getR σ' r = getR σ r
  new : ∀ r, ρ' = some r → ρ = some r ∨ nrs σ ≤ r
theorem RowsBut.rb {σ σ' : St} {ρ ρ' : Option Nat} (h : RowsBut σ σ' ρ ρ') : RB σ σ' ρ ρ' := ⟨h.vars, h.grow, h.row, fun r hr => by
  rcases h.new with e | ⟨r', e, hle⟩
  · exact .inl (by rw [← e]; exact hr)
  · rw [e] at hr; cases hr; exact .inr hle⟩
structure Comp where
  e : Nat
  z : Nat
  v : AV
  l : List (List AV)
  ρ : Option Nat
def Comp.ok (σ : St) (c : Comp) : Prop := Own c.e c.z σ c.v c.l c.ρ
def Comp.far (a b : Comp) : Prop := ∀ r, a.ρ = some r → b.ρ ≠ some r
theorem Comp.far.symm {a b : Comp} (h : Comp.far a b) : Comp.far b a := fun r h1 h2 => h r h2 h1
structure Owns (σ : St) (cs : List Comp) : Prop where
  ok : ∀ c ∈ cs, c.ok σ
  far : cs.Pairwise Comp.far
theorem Comp.ok.lt {σ : St} {c : Comp} (h : c.ok σ) {r : Nat} (hr : c.ρ = some r) : r < nrs σ := by
  unfold Comp.ok at h; rw [hr] at h; exact h.lt
theorem Comp.ok.rb {σ σ' : St} {c : Comp} {ρ ρ' : Option Nat} (h : c.ok σ) (hb : RB σ σ' ρ ρ') (hne : ∀ r, c.ρ = some r → ρ ≠ some r) : c.ok σ' := by
  refine ⟨h.1, ?_⟩
  rcases h.2 with h' | ⟨r, row, h1, h2, hr, h3⟩
  · exact .inl h'
  · refine .inr ⟨r, row, h1, h2, ?_, h3⟩
    rw [hb.row r (fun e => hne r h1 e.symm) (getR_lt hr)]
    exact hr
theorem Owns.setV {σ : St} {cs : List Comp} (h : Owns σ cs) (b : Nat) (x : VB) : Owns (σ.setV b x) cs := ⟨h.ok, h.far⟩
theorem Owns.pushV {σ : St} {cs : List Comp} (h : Owns σ cs) (x : VB) : Owns (σ.pushV x) cs := ⟨h.ok, h.far⟩
/-- One more. -/
theorem Owns.add {σ σ' : St} {cs : List Comp} (h : Owns σ cs) (c : Comp) (hc : c.ok σ') (hb : RB σ σ' none c.ρ) : Owns σ' (c :: cs) := by
  refine ⟨fun d hd => ?_, List.pairwise_cons.2 ⟨fun d hd r h1 h2 => ?_, h.far⟩⟩
  · rcases List.mem_cons.1 hd with rfl | hd
    · exact hc
    · exact (h.ok d hd).rb hb (fun r _ h => by cases h)
  · rcases hb.new r h1 with h3 | h3
    · cases h3
    · have := (h.ok d hd).lt h2; omega
/-- append(nil, x...), x data. -/
theorem data_copy {e z b : Nat} {σ : St} {x : AV} {l : List (List AV)} {K : AV → St → Prop} (hx : elsA σ x = some l) (hz : ∀ c ∈ l, c.length = z) (h1 : l.all (fun c => c.all AV.one) = true) (hle : l.length * b ≤ 140737488355328)
    (hk : ∀ v' σ' ρ', Own e z σ' v' l ρ' → RB σ σ' none ρ' → (l = [] → v' = .nils) → (l ≠ [] → ∃ r, ρ' = some r ∧ v' = .os r 0 l.length ∧ getR σ' r = some (some ⟨e, z, 0, l⟩)) → K v' σ') : pairK (appX e z b σ .nils x) K := by
  have hall : l.all (fun c => c.length == z) = true := by rw [List.all_eq_true]; intro c hc; simpa using hz c hc
  simp only [appX, hx, hall, h1, Bool.and_self, if_true]
  by_cases h0 : l = []
  · rw [if_pos h0]
    subst h0
    exact hk _ _ none (Own.nil _ _ _) ⟨rfl, Nat.le_refl _, fun _ _ _ => rfl, fun r h => by cases h⟩ (fun _ => rfl) (fun h => absurd rfl h)
  · rw [if_neg h0, if_pos hle]
    refine hk _ _ (some (nrs σ)) ⟨hz, .inr ⟨nrs σ, ⟨e, z, 0, l⟩, rfl, rfl, by simp [getR, nrs, St.pushR], by simp, by simp, rfl, rfl, rfl⟩⟩ ⟨rfl, by simp [nrs, St.pushR], fun r _ hr => ?_, fun r h => .inr (by cases h; exact Nat.le_refl _)⟩ (fun h => absurd h h0) (fun _ => ⟨nrs σ, rfl, rfl, by simp [getR, nrs, St.pushR]⟩)
    simp only [getR, nrs, St.pushR] at *
    rw [List.getElem?_append_left hr]
theorem RB.getV {σ σ' : St} {ρ ρ' : Option Nat} (h : RB σ σ' ρ ρ') (b : Nat) : Go.Ab.getV σ' b = Go.Ab.getV σ b := by simp only [Go.Ab.getV, h.vars]
theorem RB.nvs {σ σ' : St} {ρ ρ' : Option Nat} (h : RB σ σ' ρ ρ') : Go.Ab.nvs σ' = Go.Ab.nvs σ := by simp only [Go.Ab.nvs, h.vars]
theorem RB.pushR (σ : St) (y : Row) : RB σ (σ.pushR y) none none := ⟨rfl, by simp [nrs, St.pushR], fun r _ hr => by
  simp only [getR, nrs, St.pushR] at *
  rw [List.getElem?_append_left hr], fun r h => by cases h⟩
theorem Owns.rb {σ σ' : St} {cs : List Comp} (h : Owns σ cs) (hb : RB σ σ' none none) : Owns σ' cs := ⟨fun c hc => (h.ok c hc).rb hb (fun _ _ h => by cases h), h.far⟩
theorem Owns.tail {σ : St} {c : Comp} {cs : List Comp} (h : Owns σ (c :: cs)) : Owns σ cs := ⟨fun d hd => h.ok d (by simp [hd]), (List.pairwise_cons.1 h.far).2⟩
end Go.Ab
