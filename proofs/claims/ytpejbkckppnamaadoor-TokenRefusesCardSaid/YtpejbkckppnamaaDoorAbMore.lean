/-
  The abstract machine of this work, part 9b: more operations: ranges over texts, the greatest and the least.
-/
import Derived.Test.YtpejbkckppnamaaDoorAbLogic
import Derived.Lib.ConvBytes
import Derived.Lib.UnsafeStr
import Derived.Laws.BytesString
set_option linter.all false
set_option linter.unusedVariables false
set_option linter.unusedSimpArgs false
namespace Go.Ab
open Go Go.RowKit

inductive MO where
  | rng
  | nxt
  | mx
  | mn
  | s2b (e : TypeId)
  | b2s (t : TypeId)
def Kd.isU8 : Kd → Bool
  | .int .u8 => true
  | _ => false
def Kd.elem : Kd → Option TypeId
  | .slice e => some e
  | _ => none
def Kd.isStr : Kd → Bool
  | .str => true
  | _ => false
/-- Which one it is, and of what. -/
def moreOf (T : TT) (op : Op) : Option (MO × List Operand) :=
  match op with
  | .range t x => match kdOf T t with
    | some k => if k.isStr then some (.rng, [x]) else none
    | none => none
  | .next it s => if s then some (.nxt, [it]) else none
  | .convert s d x => match kdOf T s, kdOf T d with
    | some ks, some kd => if ks.isStr then (match kd.elem with
        | some e => match kdOf T e with
          | some ke => if ke.isU8 then some (.s2b e, [x]) else none
          | none => none
        | none => none)
      else if kd.isStr then (match ks.elem with
        | some e => match kdOf T e with
          | some ke => if ke.isU8 then some (.b2s s, [x]) else none
          | none => none
        | none => none) else none
    | _, _ => none
  | .call c => match c.callee with
    | .builtin .max => some (.mx, c.args.toList)
    | .builtin .min => some (.mn, c.args.toList)
    | _ => none
  | _ => none
def maxI : List AV → Option AV
  | [.int k x] => some (.int k x)
  | [.int k x, .int _ y] => some (.int k (if y > x then y else x))
  | _ => none
def minI : List AV → Option AV
  | [.int k x] => some (.int k x)
  | [.int k x, .int _ y] => some (.int k (if y < x then y else x))
  | _ => none
def unB : List (List AV) → Option (List UInt8)
  | [] => some []
  | [.int .u8 n] :: r => (unB r).map (UInt8.ofNat n.toNat :: ·)
  | _ => none
def b2sX (σ : St) (x : AV) : Option AV :=
  match x with
  | .str _ => none
  | x => match elsA σ x with
    | some ys => (unB ys).map .str
    | none => none
def moreX (m : MO) (σ : St) (as : List AV) : Option (AV × St) :=
  match m with
  | .rng => match as with
    | [.str s] => some (.vp σ.vars.length 0, σ.pushV (.siter s 0))
    | _ => none
  | .nxt => match as with
    | [.vp b 0] => match σ.vars[b]? with
      | some (.siter s pos) => if pos < s.length then
          some (.tup [.bool true, .int .i64 pos, .int .i32 (Utf8.decode ⟨s.toArray⟩ pos).1], σ.setV b (.siter s (pos + (Utf8.decode ⟨s.toArray⟩ pos).2)))
        else some (.tup [.bool false], σ)
      | _ => none
    | _ => none
  | .mx => (maxI as).map fun r => (r, σ)
  | .mn => (minI as).map fun r => (r, σ)
  | .s2b e => match as with
    | [.str s] => some (.os σ.rows.length 0 s.length, σ.pushR ⟨e, 1, 0, s.map fun b => [.int .u8 b.toNat]⟩)
    | _ => none
  | .b2s _ => match as with
    | [x] => (b2sX σ x).map fun r => (r, σ)
    | _ => none
def opN (T : TT) (G : GT) (t : List AV) (σ : St) (op : Op) : Option (AV × St) :=
  match opM T G t σ op with
  | some r => some r
  | none => match moreOf T op with
    | some (m, xs) => match evs G t xs with
      | some as => moreX m σ as
      | none => none
    | none => none

section
variable {P : Program} {C : Cz} {σ : St} {w : World} {T : TT} {G : GT} {t : List AV} {a : Act}

theorem rng_sound (hT : TOK P T) (h0 : HRel C σ w) {ty : TypeId} {k : Kd} (hk : kdOf T ty = some k) (hs : k.isStr = true) {s : List UInt8} :
    Steps' P C w (Instr.range ty (.string ⟨s.toArray⟩)) (.vp σ.vars.length 0) (σ.pushV (.siter s 0)) := by
  obtain ⟨_, d, _, _, _, hd, hok⟩ := kdOf_ok hT hk
  cases k <;> first | cases hs | skip
  simp only [Kd.ok] at hok; subst hok
  have hrel := h0.pushV (.siter s 0) (.stringIter ⟨s.toArray⟩ 0) (fun w' hw' => hw')
  refine ⟨.pointer (some ⟨w.heap.size, 0, none⟩), _, _, ?_, C.le_pushV _, hrel, ?_⟩
  · unfold Instr.range
    rw [Sem.run_bind, run_underlying hd]
    rfl
  · have := Rep.vp (C := C.pushV w.heap.size) σ.vars.length 0 (by simp [Cz.pushV, h0.nv])
    simpa [Cz.pushV, h0.nv] using this
theorem nxt_sound (h0 : HRel C σ w) {ty : TypeId} {b : Nat} {s : List UInt8} {pos : Nat} (hb : σ.vars[b]? = some (.siter s pos)) {r : AV} {σ' : St}
    (h : (if pos < s.length then some (AV.tup [.bool true, .int .i64 pos, .int .i32 (Utf8.decode ⟨s.toArray⟩ pos).1], σ.setV b (.siter s (pos + (Utf8.decode ⟨s.toArray⟩ pos).2))) else some (.tup [.bool false], σ)) = some (r, σ')) :
    Steps' P C w (Instr.next (.pointer (some ⟨C.ρ b, 0, none⟩)) true ty) r σ' := by
  have hv : w.heap[C.ρ b]? = some (.stringIter ⟨s.toArray⟩ pos) := h0.var b _ hb
  have hlt : b < C.nv := h0.nv ▸ (List.getElem?_eq_some_iff.1 hb).1
  have hget : (getObj (C.ρ b)).run P w = .ok (.stringIter ⟨s.toArray⟩ pos) w := by simp [getObj, Sem.run, hv]
  split at h
  · rename_i hp
    cases h
    let w' : World := { w with heap := w.heap.setIfInBounds (C.ρ b) (.stringIter ⟨s.toArray⟩ (pos + (Utf8.decode ⟨s.toArray⟩ pos).2)) }
    have hset : (setObj (C.ρ b) (.stringIter ⟨s.toArray⟩ (pos + (Utf8.decode ⟨s.toArray⟩ pos).2))).run P w = .ok () w' := by simp [setObj, Sem.run, hv, w']
    have hbel : Below C.base C.w0 w' := h0.below.trans ⟨rfl, rfl, rfl, by simp [w'], fun k hk => by
      have := h0.vbase b hlt
      simp only [w', Array.getElem?_setIfInBounds]
      rw [if_neg (by omega)]⟩
    refine ⟨.tuple #[.bool true, goInt pos, .int .i32 (Utf8.decode ⟨s.toArray⟩ pos).1], w', C, ?_, Cz.le.refl C, h0.setV hlt _ ?_ ?_ hbel ?_, ?_⟩
    · unfold Instr.next
      simp only [Sem.run_bind, hget, Result.andThen_ok, str_size, if_pos hp, hset, Sem.run_pure]
    · intro k hk
      simp only [w', Array.getElem?_setIfInBounds]
      rw [if_neg (fun e => hk e.symm)]
    · simp [w']
    · show w'.heap[C.ρ b]? = _
      simp [w', h0.rho_lt hlt]
    · exact .tup _ _ (.cons _ _ _ _ (.bool _) (.cons _ _ _ _ (.int _ _) (.cons _ _ _ _ (.int _ _) .nil)))
  · rename_i hp
    cases h
    refine ⟨.tuple #[.bool false], w, C, ?_, Cz.le.refl C, h0, .tup _ _ (.cons _ _ _ _ (.bool _) .nil)⟩
    unfold Instr.next
    simp only [Sem.run_bind, hget, Result.andThen_ok, str_size, if_neg hp, Sem.run_pure]

theorem mx_sound {as : List AV} {vs : List Value} (ha : RepL C as vs) {ts : Array TypeId} {ty : TypeId} {r : AV} (h : maxI as = some r) : Yields P C w (Builtin.max_ ts ty vs.toArray) r := by
  unfold maxI at h
  split at h
  · cases h
    cases ha with | cons _ _ _ _ h1 t1 => cases h1; cases t1; exact ⟨_, rfl, .int _ _⟩
  · cases h
    cases ha with | cons _ _ _ _ h1 t1 => cases h1; cases t1 with | cons _ _ _ _ h2 t2 => cases h2; cases t2; exact ⟨_, rfl, .int _ _⟩
  · cases h
theorem mn_sound {as : List AV} {vs : List Value} (ha : RepL C as vs) {ts : Array TypeId} {ty : TypeId} {r : AV} (h : minI as = some r) : Yields P C w (Builtin.min_ ts ty vs.toArray) r := by
  unfold minI at h
  split at h
  · cases h
    cases ha with | cons _ _ _ _ h1 t1 => cases h1; cases t1; exact ⟨_, rfl, .int _ _⟩
  · cases h
    cases ha with | cons _ _ _ _ h1 t1 => cases h1; cases t1 with | cons _ _ _ _ h2 t2 => cases h2; cases t2; exact ⟨_, rfl, .int _ _⟩
  · cases h

theorem flat_bytes : ∀ (s : List UInt8), (s.map fun b => [AV.int .u8 b.toNat]).flatten = s.map fun b => AV.int .u8 b.toNat
  | [] => rfl
  | a :: s => by
    show [AV.int .u8 a.toNat] ++ (s.map fun b => [AV.int .u8 b.toNat]).flatten = _
    rw [flat_bytes s]; rfl
theorem rep_bytes : ∀ (s : List UInt8), RepL C (s.map fun b => AV.int .u8 b.toNat) (s.map fun b => Value.int .u8 b.toNat)
  | [] => .nil
  | _ :: s => .cons _ _ _ _ (.int _ _) (rep_bytes s)
theorem s2b_sound (hT : TOK P T) (h0 : HRel C σ w) {ts td e : TypeId} {ks kd ke : Kd} (hs : kdOf T ts = some ks) (hd : kdOf T td = some kd) (h1 : ks.isStr = true) (h2 : kd.elem = some e) (he : kdOf T e = some ke) (h3 : ke.isU8 = true) (s : List UInt8) :
    Steps' P C w (convert ts td (.string ⟨s.toArray⟩)) (.os σ.rows.length 0 s.length) (σ.pushR ⟨e, 1, 0, s.map fun b => [.int .u8 b.toNat]⟩) := by
  obtain ⟨_, d1, _, _, _, hd1, ok1⟩ := kdOf_ok hT hs
  obtain ⟨_, d2, _, _, _, hd2, ok2⟩ := kdOf_ok hT hd
  obtain ⟨_, d3, _, _, _, hd3, ok3⟩ := kdOf_ok hT he
  cases ks <;> first | cases h1 | skip
  cases kd <;> first | cases h2 | skip
  unfold Kd.isU8 at h3
  split at h3
  · simp only [Kd.ok] at ok1 ok2 ok3
    subst ok1; subst ok2; subst ok3
    have hge := grownCap_ge w (⟨s.toArray⟩ : ByteArray).size 0 e
    rw [str_size] at hge
    have hcl : (Lib.bytesCells w e ⟨s.toArray⟩).size = grownCap w s.length 0 e := by
      simp only [Lib.bytesCells, str_size]
      simp
      omega
    let vs := (Lib.bytesCells w e ⟨s.toArray⟩).toList
    have hvl : vs.length = grownCap w s.length 0 e := by rw [← hcl]; simp [vs]
    let rc : RowC := ⟨w.heap.size, 0, 1, vs.length, true⟩
    have hbel : Below C.base C.w0 (Lib.bytesWorld w e ⟨s.toArray⟩) := Lib.below_freeze ((h0.below.drew).alloc h0.hb _) h0.hb 1
    have hrow : RowRel C ⟨e, 1, 0, s.map fun b => [.int .u8 b.toNat]⟩ rc (Lib.bytesWorld w e ⟨s.toArray⟩) vs ((Lib.bytesCells w e ⟨s.toArray⟩).size, (Lib.bytesCells w e ⟨s.toArray⟩).size + 1) := by
      refine ⟨?_, rfl, rfl, ?_, ?_, ?_, ?_⟩
      · have := Lib.bytesWorld_at_new w e ⟨s.toArray⟩
        simpa [vs, rc] using this
      · intro x hx
        obtain ⟨b, _, rfl⟩ := List.mem_map.1 hx
        rfl
      · show 0 + (List.map _ s).length * 1 ≤ vs.length
        rw [hvl, List.length_map]; omega
      · show RepL C (List.flatten _) ((vs.drop 0).take ((List.map _ s).length * 1))
        rw [flat_bytes, List.length_map, Nat.mul_one, List.drop_zero]
        have : vs.take s.length = s.map fun b => Value.int .u8 b.toNat := by
          simp only [vs, Lib.bytesCells]
          simp
        rw [this]; exact rep_bytes s
      · intro o _ ho
        have : vs.length = (Lib.bytesCells w e ⟨s.toArray⟩).size := by simp [vs]
        have ho' : o < vs.length := ho
        omega
    have hrel := h0.pushR ⟨e, 1, 0, s.map fun b => [.int .u8 b.toNat]⟩ rc rfl h0.free_new (fun k hk _ => Lib.bytesWorld_at_old w e _ k hk) (by rw [Lib.bytesWorld_size]; have := h0.hb; omega) hbel hrow
    refine ⟨_, _, _, Lib.run_convert_string_bytes w ts td e ⟨s.toArray⟩ hd1 hd2 hd3, C.le_pushR rc, hrel, ?_⟩
    have e1 : (⟨s.toArray⟩ : ByteArray).size = s.length := str_size s
    have hlast : (C.pushR rc).row σ.rows.length = rc := by simp only [Cz.pushR]; rw [if_pos h0.nr.symm]
    have := Rep.os (C := C.pushR rc) σ.rows.length 0 s.length (some ⟨w.heap.size, 0, none⟩) (grownCap w s.length 0 e) (by simp [Cz.pushR, h0.nr]) (fun _ => by
      rw [hlast]
      exact ⟨by simp [rc], by simp [rc, hvl], hge⟩)
    rw [e1]
    exact this
  · cases h3
theorem unB_len : ∀ {ys : List (List AV)} {l : List UInt8}, unB ys = some l → (∀ c ∈ ys, c.length = 1) ∧ (∀ c ∈ ys, c.all AV.one = true)
  | [], l, h => ⟨by simp, by simp⟩
  | c :: ys, l, h => by
    unfold unB at h
    split at h
    · rename_i he; cases he
    · rename_i n r he
      cases he
      cases hq : unB ys with
      | none => rw [hq] at h; cases h
      | some l' =>
        obtain ⟨a, b⟩ := unB_len hq
        refine ⟨?_, ?_⟩
        · intro c hc; rcases List.mem_cons.1 hc with rfl | hc
          · rfl
          · exact a c hc
        · intro c hc; rcases List.mem_cons.1 hc with rfl | hc
          · rfl
          · exact b c hc
    · cases h
theorem unB_rep : ∀ {ys : List (List AV)} {l : List UInt8} {vs : List Value}, unB ys = some l → RepL C ys.flatten vs → (∀ c ∈ ys, c.length = 1) ∧ (∀ c ∈ ys, c.all AV.one = true) ∧ ∃ ns : List Int, vs = ns.map (Value.int .u8) ∧ l = ns.map fun n => UInt8.ofNat n.toNat
  | [], l, vs, h, hr => by cases h; cases hr; exact ⟨by simp, by simp, [], rfl, rfl⟩
  | c :: ys, l, vs, h, hr => by
    unfold unB at h
    split at h
    · rename_i he; cases he
    · rename_i n r he
      cases he
      cases hq : unB ys with
      | none => rw [hq] at h; cases h
      | some l' =>
        rw [hq] at h; cases h
        rw [List.flatten_cons] at hr
        cases hr with
        | cons _ _ _ _ h1 t =>
          cases h1
          obtain ⟨a, b, ns, rfl, rfl⟩ := unB_rep hq t
          refine ⟨?_, ?_, n :: ns, rfl, rfl⟩
          · intro c hc; rcases List.mem_cons.1 hc with rfl | hc
            · rfl
            · exact a c hc
          · intro c hc; rcases List.mem_cons.1 hc with rfl | hc
            · rfl
            · exact b c hc
    · cases h
theorem fold_push : ∀ (ns : List Int) (a : ByteArray), ns.foldl (fun r n => r.push (UInt8.ofNat n.toNat)) a = ⟨a.data ++ (ns.map fun n => UInt8.ofNat n.toNat).toArray⟩
  | [], a => by simp
  | n :: ns, a => by
    rw [List.foldl_cons, fold_push ns]
    congr 1
    simp [ByteArray.push]

theorem b2s_sound (hT : TOK P T) (h0 : HRel C σ w) {ts td e : TypeId} {ks kd ke : Kd} (hs : kdOf T ts = some ks) (hd : kdOf T td = some kd) (h1 : kd.isStr = true) (h2 : ks.elem = some e) (he : kdOf T e = some ke) (h3 : ke.isU8 = true) {x r : AV} {X : Value} (hx : Rep C x X) (h : b2sX σ x = some r) :
    Yields P C w (convert ts td X) r := by
  have hk : ks = .slice e := by cases ks <;> simp only [Kd.elem, Option.some.injEq, reduceCtorEq] at h2; rw [h2]
  subst hk
  obtain ⟨_, d1, _, _, _, hd1, ok1⟩ := kdOf_ok hT hs
  obtain ⟨_, d2, _, _, _, hd2, ok2⟩ := kdOf_ok hT hd
  obtain ⟨_, d3, _, _, _, hd3, ok3⟩ := kdOf_ok hT he
  cases kd <;> first | cases h1 | skip
  unfold Kd.isU8 at h3
  split at h3
  · simp only [Kd.ok] at ok1 ok2 ok3
    subst ok1; subst ok2; subst ok3
    have main : ∀ ys, elsA σ x = some ys → (unB ys).map AV.str = some r → (∀ s, x ≠ .str s) → Yields P C w (convert ts td X) r := by
      intro ys hys hu hns
      obtain ⟨l, hl, rfl⟩ : ∃ l, unB ys = some l ∧ AV.str l = r := by
        cases hq : unB ys with
        | none => rw [hq] at hu; cases hu
        | some l => rw [hq] at hu; cases hu; exact ⟨l, rfl, rfl⟩
      have hz := unB_len hl
      obtain ⟨vs, hvr, hsrc⟩ := elsA_sound hT h0 hx hys hs rfl 1 hz.1 hz.2
      obtain ⟨_, _, ns, rfl, rfl⟩ := unB_rep hl hvr
      obtain ⟨_, hlen, hcells, _⟩ := hsrc
      obtain ⟨a, n, cap, rfl⟩ : ∃ a n cap, X = .slice a n cap := by
        unfold elsA at hys
        split at hys
        · cases hx <;> exact ⟨_, _, _, rfl⟩
        · cases hx; exact ⟨_, _, _, rfl⟩
        · cases hx; exact ⟨_, _, _, rfl⟩
        · exact absurd rfl (hns _)
        · cases hx; exact ⟨_, _, _, rfl⟩
        · cases hys
      have hn : n = ys.length := by
        have : (Builtin.lenOf (.slice a n cap)).run P w = .ok n w := rfl
        have h4 := hlen w
        rw [this] at h4
        cases h4; rfl
      cases a with
      | none =>
        have hcz : (Builtin.firstCells 1 ys.length (.slice none n cap)).run P w = .ok #[] w := rfl
        rw [hcz] at hcells
        have : ns = [] := by
          have h5 : (#[] : Array Value) = (List.map (Value.int .u8) ns).toArray := by injection hcells
          have := congrArg Array.toList h5
          cases ns with
          | nil => rfl
          | cons a l => simp at this
        subst this
        refine ⟨.string .empty, ?_, .str []⟩
        simp [convert, run_underlying hd1, run_underlying hd2, run_underlying hd3, Conv.bytesToString]
      | some a =>
        have hl : (loadCells a n).run P w = .ok (ns.map (Value.int .u8)).toArray w := by
          have : (Builtin.firstCells 1 ys.length (.slice (some a) n cap)) = loadCells a (ys.length * 1) := rfl
          rw [this, Nat.mul_one, ← hn] at hcells
          exact hcells
        have hrun := run_bytesToString (P := P) w a n cap ns hl
        rw [fold_push] at hrun
        refine ⟨_, ?_, .str _⟩
        have e1 : ((ByteArray.empty.data ++ (ns.map fun n => UInt8.ofNat n.toNat).toArray) : Array UInt8) = (ns.map fun n => UInt8.ofNat n.toNat).toArray := by simp
        rw [e1] at hrun
        simp [convert, run_underlying hd1, run_underlying hd2, run_underlying hd3, hrun]
    unfold b2sX at h
    split at h
    · cases h
    · rename_i hns
      split at h
      · rename_i ys hys
        exact main ys hys h hns
      · cases h
  · cases h3

theorem opN_sound (hT : TOK P T) (h0 : HRel C σ w) (hg : GOK G C) (ht : RepL C t a.tmps.toList) {o : Oper} {r : AV} {σ' : St} (h : opN T G t σ o.op = some (r, σ')) :
    ∃ n v w' C', (execOp a.eval o).run P w = .ok n w' ∧ (n = .value v ∨ n = .skip ∧ v = undef) ∧ C.le C' ∧ HRel C' σ' w' ∧ Rep C' r v := by
  have lift : ∀ s : Sem Value, Steps' P C w s r σ' → execOp a.eval o = (do pure (.value (← s))) → ∃ n v w' C', (execOp a.eval o).run P w = .ok n w' ∧ (n = .value v ∨ n = .skip ∧ v = undef) ∧ C.le C' ∧ HRel C' σ' w' ∧ Rep C' r v := by
    rintro s ⟨v, w', C', hv, hle, hrel, hr⟩ e
    exact ⟨_, v, w', C', by rw [e, Sem.run_bind, hv]; rfl, .inl rfl, hle, hrel, hr⟩
  unfold opN at h
  split at h
  · rename_i r' hm
    cases h
    exact opM_sound hT h0 hg ht hm
  · split at h
    · rename_i m xs hmo
      split at h
      · rename_i as has
        have hreps := evs_rep hg ht has
        unfold moreOf at hmo
        split at hmo
        · rename_i ty x hop
          split at hmo
          · rename_i k hk
            split at hmo
            · rename_i hs
              cases hmo
              simp only [moreX] at h
              split at h
              · rename_i s
                cases h
                have hx : a.eval x = .string ⟨s.toArray⟩ := by
                  simp only [List.map_cons, List.map_nil] at hreps
                  cases hreps with | cons _ _ _ _ h1 _ => generalize a.eval x = V at h1; cases h1; rfl
                refine lift (Instr.range ty (a.eval x)) ?_ (by unfold execOp; rw [hop])
                rw [hx]
                exact rng_sound hT h0 hk hs
              · cases h
            · cases hmo
          · cases hmo
        · rename_i it s hop
          split at hmo
          · rename_i hs
            cases hmo
            simp only [moreX] at h
            split at h
            · rename_i b
              split at h
              · rename_i s' pos hb
                have hx : a.eval it = .pointer (some ⟨C.ρ b, 0, none⟩) := by
                  simp only [List.map_cons, List.map_nil] at hreps
                  cases hreps with | cons _ _ _ _ h1 _ => generalize a.eval it = V at h1; cases h1; rfl
                refine lift (Instr.next (a.eval it) true o.type) ?_ (by unfold execOp; rw [hop, hs])
                rw [hx]
                exact nxt_sound h0 hb h
              · cases h
            · cases h
          · cases hmo
        · rename_i ts td x hop
          split at hmo
          · rename_i ks kd hks hkd
            split at hmo
            · rename_i hstr
              split at hmo
              · rename_i e hel
                split at hmo
                · rename_i ke hke
                  split at hmo
                  · rename_i hu8
                    cases hmo
                    simp only [moreX] at h
                    split at h
                    · rename_i s
                      cases h
                      have hx : a.eval x = .string ⟨s.toArray⟩ := by
                        simp only [List.map_cons, List.map_nil] at hreps
                        cases hreps with | cons _ _ _ _ h1 _ => generalize a.eval x = V at h1; cases h1; rfl
                      refine lift (convert ts td (a.eval x)) ?_ (by unfold execOp; rw [hop])
                      rw [hx]
                      exact s2b_sound hT h0 hks hkd hstr hel hke hu8 s
                    · cases h
                  · cases hmo
                · cases hmo
              · cases hmo
            · split at hmo
              · rename_i hns hstr
                split at hmo
                · rename_i e hel
                  split at hmo
                  · rename_i ke hke
                    split at hmo
                    · rename_i hu8
                      cases hmo
                      simp only [moreX] at h
                      split at h
                      · rename_i c
                        cases hq : b2sX σ c with
                        | none => rw [hq] at h; cases h
                        | some r' =>
                          rw [hq] at h; cases h
                          have hx : Rep C c (a.eval x) := by
                            simp only [List.map_cons, List.map_nil] at hreps
                            cases hreps with | cons _ _ _ _ h1 _ => exact h1
                          obtain ⟨v, hv, hr⟩ := b2s_sound hT h0 hks hkd hstr hel hke hu8 hx hq
                          refine lift (convert ts td (a.eval x)) ⟨v, w, C, hv, Cz.le.refl C, h0, hr⟩ (by unfold execOp; rw [hop])
                      · cases h
                    · cases hmo
                  · cases hmo
                · cases hmo
              · cases hmo
          · cases hmo
        · rename_i c hop
          split at hmo
          · rename_i hcal
            cases hmo
            obtain ⟨r', hr', he⟩ : ∃ r', maxI as = some r' ∧ (r', σ) = (r, σ') := by
              simp only [moreX] at h
              cases hq : maxI as with
              | none => rw [hq] at h; cases h
              | some r' => rw [hq] at h; cases h; exact ⟨_, rfl, rfl⟩
            cases he
            obtain ⟨v, hv, hr⟩ := mx_sound (P := P) (w := w) (ts := c.argTypes) (ty := o.type) hreps hr'
            refine ⟨_, v, w, C, ?_, .inl rfl, Cz.le.refl C, h0, hr⟩
            unfold execOp
            rw [hop]
            have e : (c.args.map a.eval) = (List.map a.eval c.args.toList).toArray := by apply Array.ext'; simp
            simp only [resolve, hcal, invoke, Sem.run_bind, Sem.run_pure, Result.andThen_ok, builtin, e]
            simp [hv]
          · rename_i hcal
            cases hmo
            obtain ⟨r', hr', he⟩ : ∃ r', minI as = some r' ∧ (r', σ) = (r, σ') := by
              simp only [moreX] at h
              cases hq : minI as with
              | none => rw [hq] at h; cases h
              | some r' => rw [hq] at h; cases h; exact ⟨_, rfl, rfl⟩
            cases he
            obtain ⟨v, hv, hr⟩ := mn_sound (P := P) (w := w) (ts := c.argTypes) (ty := o.type) hreps hr'
            refine ⟨_, v, w, C, ?_, .inl rfl, Cz.le.refl C, h0, hr⟩
            unfold execOp
            rw [hop]
            have e : (c.args.map a.eval) = (List.map a.eval c.args.toList).toArray := by apply Array.ext'; simp
            simp only [resolve, hcal, invoke, Sem.run_bind, Sem.run_pure, Result.andThen_ok, builtin, e]
            simp [hv]
          · cases hmo
        · cases hmo
      · cases h
    · cases h
end
end Go.Ab
