/-
  The abstract machine of this work, part 11: a function is entered and left; what it hands back may be told in other words.
-/
import Derived.Test.YtpejbkckppnamaaDoorAbCode
set_option linter.all false
set_option linter.unusedVariables false
set_option linter.unusedSimpArgs false
namespace Go.Ab
open Go Go.RowKit

def resOne (T : TT) (t : List AV) (σ : St) : ResultVar → Option AV
  | .tmp n => t[n]?
  | .cell a ty => match t[a]? with
    | some c => loadA T σ ty c
    | none => none
def resAll (T : TT) (t : List AV) (σ : St) : List ResultVar → Option (List AV)
  | [] => some []
  | x :: xs => match resOne T t σ x, resAll T t σ xs with
    | some c, some cs => some (c :: cs)
    | _, _ => none
def oneOr (l : List AV) : AV :=
  match l with
  | [c] => c
  | l => .tup l
def resA (T : TT) (rs : List ResultVar) (t : List AV) (σ : St) : Option AV := (resAll T t σ rs).map oneOr
def bodyQ (T : TT) (fn : Func) (Q : AV → St → Prop) : AQ := fun e t σ => match e with
  | .normal => ∃ r, resA T fn.results.toList t σ = some r ∧ Q r σ
  | .ret => ∃ r, resA T fn.results.toList t σ = some r ∧ Q r σ
  | _ => False

section
variable {P : Program} {T : TT} {G : GT} {C : Cz} {σ : St} {w : World} {t : List AV} {a : Act}
theorem resOne_sound (hT : TOK P T) (h0 : HRel C σ w) (ht : RepL C t a.tmps.toList) {x : ResultVar} {c : AV} (h : resOne T t σ x = some c) :
    ∃ v, ((match x with | .tmp n => pure (a.tmps.getD n undef) | .cell b ty => do loadVar ty (← asAddr (a.tmps.getD b undef)) : Sem Value)).run P w = .ok v w ∧ Rep C c v := by
  cases x with
  | tmp n =>
    obtain ⟨v, hv, hr⟩ := ht.get n c h
    refine ⟨v, ?_, hr⟩
    rw [Array.getElem?_toList] at hv
    simp [Array.getD_eq_getD_getElem?, hv]
  | cell b ty =>
    simp only [resOne] at h
    split at h
    · rename_i d hd
      obtain ⟨v, hv, hr⟩ := ht.get b d hd
      rw [Array.getElem?_toList] at hv
      obtain ⟨u, hu, hru⟩ := loadA_sound (P := P) hT h0 hr h
      refine ⟨u, ?_, hru⟩
      have e : a.tmps.getD b undef = v := by simp [Array.getD_eq_getD_getElem?, hv]
      simp only [e]
      cases v with
      | pointer p =>
        cases p with
        | some p => simpa [Instr.loadAt, Instr.sureAddr, asAddr] using hu
        | none => simp [Instr.loadAt, Instr.sureAddr] at hu
      | _ => simp [Instr.loadAt, Instr.sureAddr] at hu
    · cases h
theorem resAll_sound (hT : TOK P T) (h0 : HRel C σ w) (ht : RepL C t a.tmps.toList) : ∀ {xs : List ResultVar} {cs : List AV}, resAll T t σ xs = some cs →
    ∃ vs : List Value, (xs.mapM (fun (x : ResultVar) => (match x with | .tmp n => pure (a.tmps.getD n undef) | .cell b ty => do loadVar ty (← asAddr (a.tmps.getD b undef)) : Sem Value))).run P w = .ok vs w ∧ RepL C cs vs
  | [], cs, h => by cases h; exact ⟨[], rfl, .nil⟩
  | x :: xs, cs, h => by
    simp only [resAll] at h
    split at h
    · rename_i c ds hc hd
      cases h
      obtain ⟨v, hv, hr⟩ := resOne_sound (P := P) hT h0 ht hc
      obtain ⟨vs, hvs, hrs⟩ := resAll_sound hT h0 ht hd
      refine ⟨v :: vs, ?_, .cons _ _ _ _ hr hrs⟩
      rw [List.mapM_cons, Sem.run_bind, hv, Result.andThen_ok, Sem.run_bind, hvs]
      rfl
    · cases h
theorem oneOr_rep {cs : List AV} {vs : List Value} (h : RepL C cs vs) : Rep C (oneOr cs) (if h : vs.toArray.size = 1 then vs.toArray[0] else .tuple vs.toArray) := by
  cases h with
  | nil => simpa [oneOr] using Rep.tup [] [] .nil
  | cons c v cs vs h t =>
    cases t with
    | nil => simpa [oneOr] using h
    | cons d u ds us h2 t2 =>
      have : ¬ ((v :: u :: us).toArray.size = 1) := by simp
      rw [dif_neg this]
      exact .tup _ _ (.cons _ _ _ _ h (.cons _ _ _ _ h2 t2))
theorem resA_sound (hT : TOK P T) (h0 : HRel C σ w) (ht : RepL C t a.tmps.toList) {fn : Func} {r : AV} (h : resA T fn.results.toList t σ = some r) :
    ∃ v, (results fn a.tmps).run P w = .ok v w ∧ Rep C r v := by
  unfold resA at h
  cases hq : resAll T t σ fn.results.toList with
  | none => rw [hq] at h; cases h
  | some cs =>
    rw [hq] at h; cases h
    obtain ⟨vs, hvs, hrs⟩ := resAll_sound (P := P) hT h0 ht hq
    refine ⟨_, ?_, oneOr_rep hrs⟩
    unfold results
    rw [Array.mapM_eq_mapM_toList]
    simp only [Sem.run_bind, Sem.run_map]
    generalize hz : Sem.run P (List.mapM _ fn.results.toList) w = z
    obtain rfl : z = _ := hz.symm.trans hvs
    simp only [Result.andThen_ok, Sem.run_pure]
end

section
variable {P : Program} {T : TT} {G : GT}
theorem RepL.undefs (C : Cz) (n : Nat) : RepL C (List.replicate n undefA) (List.replicate n undef) := RepL.replicate Rep.undef n
/-- A function with a body. -/
theorem ACalls_body (hT : TOK P T) {f : FuncId} {fn : Func} {c : Code} (hf : P.funcs[f]? = some fn) (hb : fn.body = some c) (hn : (fn.name == "runtime.NumGoroutine") = false) {args : List AV} {σ : St} {Q : AV → St → Prop}
    (h : awp P T G c (bodyQ T fn Q) (args ++ List.replicate (fn.ntmps - args.length) undefA) σ) : ACalls P G f args σ Q := by
  intro C w vs h0 hg ha
  have hrun : (callFunc f vs.toArray).run P w = .ok (.enter f vs.toArray) w := by
    unfold callFunc
    rw [Sem.run_bind, run_program, Result.andThen_ok]
    simp only [hf, hb, hn, Option.isNone_some, Bool.false_eq_true, if_false, Sem.run_pure]
  unfold CallsX
  rw [hrun]
  refine calls_of_wp hf hb (wp_mono (awp_sound hT c _ _ σ C _ w h ⟨C, Cz.le.refl C, h0, ?_, hg, rfl⟩) ?_)
  · have hl := ha.length
    have := ha.append (RepL.undefs C (fn.ntmps - args.length))
    have e : (vs.toArray ++ Array.replicate (fn.ntmps - vs.toArray.size) undef).toList = vs ++ List.replicate (fn.ntmps - args.length) undef := by simp [hl]
    rw [e]; exact this
  · rintro e a' w' ⟨t', σ', ⟨C', hle, hrel, ht, hg', hd⟩, hq⟩
    have fin : (∃ r, resA T fn.results.toList t' σ' = some r ∧ Q r σ') → a'.defers = [] ∧ ∃ v, (results fn a'.tmps).run P w' = .ok v w' ∧ ∃ v_1, Ending.returned v = .returned v_1 ∧ ∃ r σ' C', C.le C' ∧ HRel C' σ' w' ∧ Rep C' r v_1 ∧ Q r σ' := by
      rintro ⟨r, hr, hQ⟩
      obtain ⟨v, hv, hrep⟩ := resA_sound (P := P) hT hrel ht hr
      exact ⟨hd, v, hv, v, rfl, r, σ', C', hle, hrel, hrep, hQ⟩
    cases e with
    | normal => exact fin hq
    | ret => exact fin hq
    | _ => exact hq.elim

/-- The same value and world in other words. -/
def Conv (r : AV) (σ : St) (r' : AV) (σ' : St) : Prop := ∀ C w v, HRel C σ w → Rep C r v → ∃ C', C.le C' ∧ HRel C' σ' w ∧ Rep C' r' v
theorem ACalls.conv {f : FuncId} {args : List AV} {σ : St} {Q : AV → St → Prop} (h : ACalls P G f args σ (fun r σ' => ∃ r2 σ2, Conv r σ' r2 σ2 ∧ Q r2 σ2)) : ACalls P G f args σ Q :=
  fun C w vs h0 hg ha => (h C w vs h0 hg ha).mono (fun v w' ⟨r, σ', C', hle, hrel, hr, r2, σ2, hc, hQ⟩ => by
    obtain ⟨C2, hle2, hrel2, hr2⟩ := hc C' w' v hrel hr
    exact ⟨r2, σ2, C2, hle.trans hle2, hrel2, hr2, hQ⟩)
end

/-! ### What a call made for itself is forgotten -/
mutual
/-- Data: no number of the abstract heap in it. -/
inductive Data : AV → Prop
  | int (k : IntKind) (n : Int) : Data (.int k n)
  | bool (b : Bool) : Data (.bool b)
  | str (s : List UInt8) : Data (.str s)
  | nilp : Data .nilp
  | nils : Data .nils
  | ez : Data .ez
  | niln : Data .niln
  | nili : Data .nili
  | rp (cs : List AV) (h : DataL cs) : Data (.rp cs)
  | sl (els : List (List AV)) (h : DataL els.flatten) : Data (.sl els)
  | fn (f : Fn) (a b : List AV) (h1 : DataL a) (h2 : DataL b) : Data (.fn f a b)
  | ifc (t : TypeId) (v : AV) (h : Data v) : Data (.ifc t v)
  | agg (cs : List AV) (h : DataL cs) : Data (.agg cs)
  | tup (cs : List AV) (h : DataL cs) : Data (.tup cs)
inductive DataL : List AV → Prop
  | nil : DataL []
  | cons (c : AV) (cs : List AV) (h : Data c) (t : DataL cs) : DataL (c :: cs)
end
theorem DataL.append {a b : List AV} (h : DataL a) (k : DataL b) : DataL (a ++ b) := by
  induction a with
  | nil => exact k
  | cons c cs ih => cases h with | cons _ _ h t => exact .cons _ _ h (ih t)
theorem DataL.of_mem {l : List AV} (h : ∀ c ∈ l, Data c) : DataL l := by
  induction l with
  | nil => exact .nil
  | cons c l ih => exact .cons _ _ (h c (by simp)) (ih (fun x hx => h x (by simp [hx])))

mutual
/-- Data stands for the same wherever memory that stays is the same. -/
theorem Rep.data {C D : Cz} (hm : ∀ b o v, C.M b o = some v → D.M b o = some v) : ∀ {c : AV} {v : Value}, Rep C c v → Data c → Rep D c v
  | _, _, .int k n, _ => .int k n
  | _, _, .bool b, _ => .bool b
  | _, _, .str s, _ => .str s
  | _, _, .nilp, _ => .nilp
  | _, _, .rp cs vs b o h hm', .rp _ hd => .rp cs vs b o (RepL.data hm h hd) (fun j v e => hm _ _ _ (hm' j v e))
  | _, _, .nils, _ => .nils
  | _, _, .ez a, _ => .ez a
  | _, _, .sl0 a cap, _ => .sl0 a cap
  | _, _, .sl els z vs b o cap hz hc h hm', .sl _ hd => .sl els z vs b o cap hz hc (RepL.data hm h hd) (fun j v e => hm _ _ _ (hm' j v e))
  | _, _, .fn f a b va vb h1 h2, .fn _ _ _ d1 d2 => .fn f a b va vb (RepL.data hm h1 d1) (RepL.data hm h2 d2)
  | _, _, .niln, _ => .niln
  | _, _, .ifc t c v h, .ifc _ _ hd => .ifc t c v (Rep.data hm h hd)
  | _, _, .nili, _ => .nili
  | _, _, .agg cs vs h, .agg _ hd => .agg cs vs (RepL.data hm h hd)
  | _, _, .tup cs vs h, .tup _ hd => .tup cs vs (RepL.data hm h hd)
theorem RepL.data {C D : Cz} (hm : ∀ b o v, C.M b o = some v → D.M b o = some v) : ∀ {cs : List AV} {vs : List Value}, RepL C cs vs → DataL cs → RepL D cs vs
  | _, _, .nil, _ => .nil
  | _, _, .cons c v cs vs h t, .cons _ _ hd ht => .cons c v cs vs (Rep.data hm h hd) (RepL.data hm t ht)
end

mutual
/-- What stood for something before a call and stands for something behind it, stands for it without what the call made. -/
theorem Rep.back {C D E : Cz} (hm : ∀ b o v, D.M b o = some v → E.M b o = some v) (hv : E.nv = C.nv) (hrho : ∀ b, b < C.nv → E.ρ b = D.ρ b) (hr : E.nr = C.nr) (hrow : ∀ r, r < C.nr → E.row r = D.row r) : ∀ {c : AV} {v0 v : Value}, Rep D c v → Rep C c v0 → Rep E c v
  | _, _, _, .int k n, _ => .int k n
  | _, _, _, .bool b, _ => .bool b
  | _, _, _, .str s, _ => .str s
  | _, _, _, .nilp, _ => .nilp
  | _, _, _, .vp b off h, h0 => by
    cases h0 with
    | vp _ _ hb => rw [← hrho b hb]; exact .vp b off (hv ▸ hb)
  | _, _, _, .rp cs vs b o h hm', .rp _ vs0 _ _ h0 _ => .rp cs vs b o (RepL.back hm hv hrho hr hrow h h0) (fun j v e => hm _ _ _ (hm' j v e))
  | _, _, _, .nils, _ => .nils
  | _, _, _, .ez a, _ => .ez a
  | _, _, _, .sl0 a cap, _ => .sl0 a cap
  | _, _, _, .sl els z vs b o cap hz hc h hm', h0 => by
    cases h0 with
    | sl0 a cap0 => cases h; exact .sl [] z [] b o cap hz hc .nil (fun j v e => by simp at e)
    | sl _ _ _ _ _ _ _ _ h0 _ => exact .sl els z vs b o cap hz hc (RepL.back hm hv hrho hr hrow h h0) (fun j v e => hm _ _ _ (hm' j v e))
  | _, _, _, .os r off n a cap h hv', .os _ _ _ _ _ h0 _ => .os r off n a cap (hr ▸ h0) (fun e => by rw [hrow r h0] at e ⊢; exact hv' e)
  | _, _, _, .op r i k a h hv', .op _ _ _ _ h0 _ => .op r i k a (hr ▸ h0) (fun e => by rw [hrow r h0] at e ⊢; exact hv' e)
  | _, _, _, .fn f a b va vb k1 k2, .fn _ _ _ _ _ h1 h2 => .fn f a b va vb (RepL.back hm hv hrho hr hrow k1 h1) (RepL.back hm hv hrho hr hrow k2 h2)
  | _, _, _, .niln, _ => .niln
  | _, _, _, .ifc t c v h, .ifc _ _ _ h0 => .ifc t c v (Rep.back hm hv hrho hr hrow h h0)
  | _, _, _, .nili, _ => .nili
  | _, _, _, .agg cs vs h, .agg _ _ h0 => .agg cs vs (RepL.back hm hv hrho hr hrow h h0)
  | _, _, _, .tup cs vs h, .tup _ _ h0 => .tup cs vs (RepL.back hm hv hrho hr hrow h h0)
theorem RepL.back {C D E : Cz} (hm : ∀ b o v, D.M b o = some v → E.M b o = some v) (hv : E.nv = C.nv) (hrho : ∀ b, b < C.nv → E.ρ b = D.ρ b) (hr : E.nr = C.nr) (hrow : ∀ r, r < C.nr → E.row r = D.row r) : ∀ {cs : List AV} {vs0 vs : List Value}, RepL D cs vs → RepL C cs vs0 → RepL E cs vs
  | _, _, _, .nil, _ => .nil
  | _, _, _, .cons c v cs vs h t, .cons _ _ _ _ h0 t0 => .cons c v cs vs (Rep.back hm hv hrho hr hrow h h0) (RepL.back hm hv hrho hr hrow t t0)
end

def VB.data : VB → Prop
  | .cells _ l => DataL l
  | .siter _ _ => True
structure Keeps (σ σ' σ2 : St) : Prop where
  nv : σ2.vars.length = σ.vars.length
  nr : σ2.rows.length = σ.rows.length
  var : ∀ (b : Nat) (vb : VB), σ2.vars[b]? = some vb → σ'.vars[b]? = some vb ∧ (σ.vars[b]? = some vb ∨ vb.data)
  row : ∀ (r : Nat) (x : Row), σ2.rows[r]? = some (some x) → σ'.rows[r]? = some (some x) ∧ (σ.rows[r]? = some (some x) ∨ DataL x.els.flatten)
theorem ACalls.forget {P : Program} {G : GT} {f : FuncId} {args : List AV} {σ : St} {Q : AV → St → Prop} (h : ACalls P G f args σ (fun r σ' => ∃ σ2, Keeps σ σ' σ2 ∧ Data r ∧ Q r σ2)) : ACalls P G f args σ Q := by
  intro C w vs h0 hg ha
  refine (h C w vs h0 hg ha).mono ?_
  rintro v w' ⟨r, σ', D, hle, hrel, hr, σ2, hk, hd, hQ⟩
  let E : Cz := { D with nv := C.nv, nr := C.nr }
  have hm : ∀ b o v, D.M b o = some v → E.M b o = some v := fun _ _ _ h => h
  have hCE : C.le E := ⟨hle.mem, Nat.le_refl _, hle.rho, Nat.le_refl _, hle.row, hle.base, hle.w0, hle.old⟩
  have back : ∀ {cs : List AV} {us0 us : List Value}, RepL D cs us → RepL C cs us0 → RepL E cs us := fun h1 h2 => RepL.back (C := C) (D := D) (E := E) hm rfl (fun _ _ => rfl) rfl (fun _ _ => rfl) h1 h2
  have hlive : ∀ k, σ2.live k → σ'.live k := fun k ⟨x, hx⟩ => ⟨x, (hk.row k x hx).1⟩
  refine ⟨r, σ2, E, hCE, ?_, Rep.data hm hr hd, hQ⟩
  refine { nv := ?_, nr := ?_, mem := hrel.mem, var := ?_, vinj := ?_, vM := ?_, vbase := ?_, row := ?_, rinj := ?_, rv := ?_, rM := ?_, rbase := ?_, hb := hrel.hb, below := hrel.below }
  · show C.nv = _; rw [h0.nv, hk.nv]
  · show C.nr = _; rw [h0.nr, hk.nr]
  · intro b vb hb
    obtain ⟨h1, h2⟩ := hk.var b vb hb
    have h3 := hrel.var b vb h1
    cases vb with
    | siter s pos => exact h3
    | cells e l =>
      obtain ⟨us, hu, hur⟩ := h3
      refine ⟨us, hu, ?_⟩
      rcases h2 with h2 | h2
      · obtain ⟨us0, _, hr0⟩ := h0.var b _ h2
        exact back hur hr0
      · exact RepL.data hm hur h2
  · exact fun b b' h1 h2 e => hrel.vinj b b' (Nat.lt_of_lt_of_le h1 hle.nv) (Nat.lt_of_lt_of_le h2 hle.nv) e
  · exact fun b o h1 => hrel.vM b o (Nat.lt_of_lt_of_le h1 hle.nv)
  · exact fun b h1 => hrel.vbase b (Nat.lt_of_lt_of_le h1 hle.nv)
  · intro k x hx
    obtain ⟨h1, h2⟩ := hk.row k x hx
    obtain ⟨hl, us, fr, hh⟩ := hrel.row k x h1
    refine ⟨hl, us, fr, ⟨hh.heap, hh.size, hh.esz, hh.uni, hh.fits, ?_, hh.free⟩⟩
    rcases h2 with h2 | h2
    · obtain ⟨_, us0, fr0, hh0⟩ := h0.row k x h2
      exact back hh.rep hh0.rep
    · exact RepL.data hm hh.rep h2
  · exact fun k k' h1 h2 e => hrel.rinj k k' (hlive k h1) (hlive k' h2) e
  · exact fun k b h1 h2 => hrel.rv k b (hlive k h1) (Nat.lt_of_lt_of_le h2 hle.nv)
  · exact fun k o h1 => hrel.rM k o (hlive k h1)
  · exact fun k h1 => hrel.rbase k (hlive k h1)
/-- A call that hands back data and leaves the heap alone, whatever it made for itself. -/
theorem Keeps.grown (σ : St) (g : List VB) (h : List (Option Row)) : Keeps σ ⟨σ.vars ++ g, σ.rows ++ h⟩ σ := {
  nv := rfl
  nr := rfl
  var := fun b vb hb => ⟨by rw [List.getElem?_append_left (List.getElem?_eq_some_iff.1 hb).1]; exact hb, .inl hb⟩
  row := fun r x hx => ⟨by rw [List.getElem?_append_left (List.getElem?_eq_some_iff.1 hx).1]; exact hx, .inl hx⟩ }

/-- A call with data alone: what it does alone it does anywhere, and hands back data. -/
theorem ACalls.frame {P : Program} {G : GT} {f : FuncId} (hG : ∀ g cs, G g = some cs → DataL cs) {args : List AV} (hd : DataL args) {Q : AV → Prop} (h : ACalls P G f args ⟨[], []⟩ (fun r _ => Data r ∧ Q r)) (σ : St) : ACalls P G f args σ (fun r σ' => σ' = σ ∧ Q r) := by
  intro C w vs h0 hg ha
  let B : Cz := { C with nv := 0, nr := 0, base := w.heap.size, w0 := w }
  have hB : HRel B ⟨[], []⟩ w := {
    nv := rfl, nr := rfl, mem := h0.mem,
    var := fun b vb hb => by simp at hb
    vinj := fun b _ hb => by cases hb
    vM := fun b _ hb => by cases hb
    vbase := fun b hb => by cases hb
    row := fun r row hr => by simp at hr
    rinj := fun r _ hr => by obtain ⟨x, hx⟩ := hr; simp at hx
    rv := fun r _ hr => by obtain ⟨x, hx⟩ := hr; simp at hx
    rM := fun r _ hr => by obtain ⟨x, hx⟩ := hr; simp at hx
    rbase := fun r hr => by obtain ⟨x, hx⟩ := hr; simp at hx
    hb := Nat.le_refl _
    below := Below.refl _ _ }
  have hCB : ∀ b o v, C.M b o = some v → B.M b o = some v := fun _ _ _ e => e
  have hgB : GOK G B := fun g cs e => by
    obtain ⟨us, h1, h2⟩ := hg g cs e
    exact ⟨us, RepL.data hCB h1 (hG g cs e), h2⟩
  refine (h B w vs hB hgB (RepL.data hCB ha hd)).mono ?_
  rintro v w' ⟨r, σ', D, hle, hrel, hr, hdr, hQ⟩
  have hb0 : D.base = w.heap.size := hle.base
  have hw0 : D.w0 = w := hle.w0
  have hbel : Below w.heap.size w w' := by have := hrel.below; rw [hb0, hw0] at this; exact this
  let E : Cz := { C with M := D.M }
  have hCE : C.le E := ⟨hle.mem, Nat.le_refl _, fun _ _ => rfl, Nat.le_refl _, fun _ _ _ => rfl, rfl, rfl, fun b o v hb hm => hle.old b o v (Nat.lt_of_lt_of_le hb h0.hb) hm⟩
  have hsame : ∀ k, k < w.heap.size → w'.heap[k]? = w.heap[k]? := hbel.block
  have hDE : ∀ b o v, D.M b o = some v → E.M b o = some v := fun _ _ _ e => e
  refine ⟨r, σ, E, hCE, ?_, Rep.data hDE hr hdr, rfl, hQ⟩
  refine { nv := h0.nv, nr := h0.nr, mem := hrel.mem, var := ?_, vinj := h0.vinj, vM := ?_, vbase := h0.vbase, row := ?_, rinj := h0.rinj, rv := h0.rv, rM := ?_, rbase := h0.rbase, hb := Nat.le_trans h0.hb hbel.size, below := h0.below.trans (hbel.mono h0.hb) }
  · intro b vb hb
    have := h0.var b vb hb
    exact this.mono hCE (hsame _ this.lt)
  · intro b o hb
    show D.M (C.ρ b) o = none
    cases e : D.M (C.ρ b) o with
    | none => rfl
    | some u => have := hle.old _ _ _ (h0.rho_lt hb) e; rw [show B.M = C.M from rfl, h0.vM b o hb] at this; cases this
  · intro k x hx
    obtain ⟨hl, us, fr, hh⟩ := h0.row k x hx
    exact ⟨hl, us, fr, hh.mono hCE (hsame _ hh.lt)⟩
  · intro k o hl
    show D.M (C.row k).blk o = none
    cases e : D.M (C.row k).blk o with
    | none => rfl
    | some u => have := hle.old _ _ _ (h0.blk_lt hl) e; rw [show B.M = C.M from rfl, h0.rM k o hl] at this; cases this
end Go.Ab
