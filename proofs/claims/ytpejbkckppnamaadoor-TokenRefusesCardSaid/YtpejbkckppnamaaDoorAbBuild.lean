/-
  The abstract machine of this work, part 7: structs, arrays and slices that are built.
-/
import Derived.Test.YtpejbkckppnamaaDoorAbPure4
set_option linter.all false
set_option linter.unusedVariables false
set_option linter.unusedSimpArgs false
namespace Go.Ab
open Go Go.RowKit

def placesA (T : TT) : List (Nat × TypeId) → Option (List (Nat × Nat))
  | [] => some []
  | (off, t) :: r => match szOf T t, placesA T r with
    | some z, some ps => some ((off, z) :: ps)
    | _, _ => none
def fillA (place : Nat → Option (Nat × Nat)) : List AV → List (Nat × AV) → Option (List AV)
  | cells, [] => some cells
  | cells, (i, c) :: rest => match place i with
    | some (off, z) => if (cellsA c).length = z ∧ off + z ≤ cells.length then fillA place (setL cells off (cellsA c)) rest else none
    | none => none
def fillE (z : Nat) : List (List AV) → List (Nat × AV) → Option (List (List AV))
  | els, [] => some els
  | els, (i, c) :: rest => if i < els.length ∧ (cellsA c).length = z then fillE z (els.set i (cellsA c)) rest else none
def evps (G : GT) (t : List AV) : List (Nat × Operand) → Option (List (Nat × AV))
  | [] => some []
  | (i, x) :: r => match ev G t x, evps G t r with
    | some c, some cs => some ((i, c) :: cs)
    | _, _ => none
def buildA (T : TT) (t : TypeId) (ps : List (Nat × AV)) : Option AV :=
  match T t with
  | some ti => match ti.kd with
    | .struct fs => match placesA T fs with
      | some pl => (fillA (pl[·]?) ti.zero ps).map .agg
      | none => none
    | .arr _ e => match szOf T e with
      | some z => (fillA (fun i => some (i * z, z)) ti.zero ps).map .agg
      | none => none
    | _ => none
  | none => none
def buildSliceA (T : TT) (σ : St) (t : TypeId) (len : Nat) (ps : List (Nat × AV)) : Option (AV × St) :=
  match kdOf T t with
  | some (.slice e) => match T e with
    | some ti => if len * ti.size ≤ 16777216 ∧ 0 < ti.size ∧ ti.zero.all AV.one = true then
        match fillE ti.size (List.replicate len ti.zero) ps with
        | some els => some (.os σ.rows.length 0 len, σ.pushR ⟨e, ti.size, 0, els⟩)
        | none => none
      else none
    | none => none
  | _ => none

inductive RepP (C : Cz) : List (Nat × AV) → List (Nat × Value) → Prop
  | nil : RepP C [] []
  | cons (i : Nat) (c : AV) (v : Value) (cs : List (Nat × AV)) (vs : List (Nat × Value)) (h : Rep C c v) (t : RepP C cs vs) : RepP C ((i, c) :: cs) ((i, v) :: vs)
theorem evps_rep {C : Cz} {G : GT} {t : List AV} {a : Act} (hg : GOK G C) (ht : RepL C t a.tmps.toList) : ∀ {xs : List (Nat × Operand)} {cs : List (Nat × AV)}, evps G t xs = some cs → RepP C cs (xs.map fun (i, x) => (i, a.eval x))
  | [], cs, h => by cases h; exact .nil
  | (i, x) :: xs, cs, h => by
    simp only [evps] at h
    split at h
    · rename_i c ds h1 h2
      cases h
      exact .cons _ _ _ _ _ (ev_rep hg ht h1) (evps_rep hg ht h2)
    · cases h

theorem zip_setL (off : Nat) : ∀ (vs : List Value) (k : Nat) (cs : Array Value), ((vs.zipIdx k).foldl (fun cs (p : Value × Nat) => cs.setIfInBounds (off + p.2) p.1) cs).toList = setL cs.toList (off + k) vs
  | [], _, _ => rfl
  | v :: vs, k, cs => by
    rw [List.zipIdx_cons, List.foldl_cons, zip_setL off vs (k + 1)]
    simp [setL, Nat.add_assoc]
theorem zip_setL_arr (off : Nat) (vs cs : Array Value) : (vs.zipIdx.foldl (fun cs (x : Value × Nat) => match x with | (c, j) => cs.setIfInBounds (off + j) c) cs).toList = setL cs.toList off vs.toList := by
  rw [← Array.foldl_toList, Array.toList_zipIdx]
  exact zip_setL off vs.toList 0 cs

theorem fillA_sound {C : Cz} {place : Nat → Option (Nat × Nat)} : ∀ {ps : List (Nat × AV)} {qs : List (Nat × Value)} {cells r : List AV} {vs : Array Value}, RepP C ps qs → RepL C cells vs.toList → fillA place cells ps = some r →
    ∃ us : Array Value, Instr.fill place vs qs = some us ∧ RepL C r us.toList
  | _, _, _, _, vs, .nil, hr, h => by cases h; exact ⟨vs, rfl, hr⟩
  | _, _, cells, r, vs, .cons i c v cs qs hc t, hr, h => by
    simp only [fillA] at h
    split at h
    · rename_i off z hp
      split at h
      · rename_i hb
        have hcr := cellsA_rep hc
        have hl1 := hcr.length
        have hl2 := hr.length
        simp at hl1 hl2
        obtain ⟨us, hu, hru⟩ := fillA_sound (vs := v.cells.zipIdx.foldl (fun cs (x : Value × Nat) => match x with | (c, j) => cs.setIfInBounds (off + j) c) vs) t (by rw [zip_setL_arr]; exact hr.setL off hcr) h
        refine ⟨us, ?_, hru⟩
        unfold Instr.fill
        simp only [hp]
        rw [if_neg (by simp; omega)]
        exact hu
      · cases h
    · cases h

theorem fillE_sound {C : Cz} {z : Nat} : ∀ {ps : List (Nat × AV)} {qs : List (Nat × Value)} {els r : List (List AV)} {vs : Array Value}, RepP C ps qs → (∀ e ∈ els, e.length = z) → RepL C els.flatten vs.toList → fillE z els ps = some r →
    ∃ us : Array Value, Instr.fill (fun i => some (i * z, z)) vs qs = some us ∧ RepL C r.flatten us.toList ∧ (∀ e ∈ r, e.length = z) ∧ r.length = els.length
  | _, _, _, _, vs, .nil, hz, hr, h => by cases h; exact ⟨vs, rfl, hr, hz, rfl⟩
  | _, _, els, r, vs, .cons i c v cs qs hc t, hz, hr, h => by
    simp only [fillE] at h
    split at h
    · rename_i hb
      have hcr := cellsA_rep hc
      have hl1 := hcr.length
      have hl2 := hr.length
      have hfl := flat_len hz
      simp only [Array.length_toList] at hl1 hl2
      have hi : els[i]? = some els[i] := List.getElem?_eq_getElem hb.1
      have hez : els[i].length = z := hz _ (List.getElem_mem hb.1)
      have hset : (els.set i (cellsA c)).flatten = setL els.flatten (i * z) (cellsA c) := by
        have := flat_set hz hi (k := 0) (cs := cellsA c) (by omega)
        rw [setL_eq _ _ _ (by omega)] at this
        rw [List.take_zero, List.drop_of_length_le (by omega)] at this
        simpa using this
      have hmul : (i + 1) * z ≤ els.length * z := Nat.mul_le_mul_right _ hb.1
      rw [Nat.add_mul, Nat.one_mul] at hmul
      obtain ⟨us, hu, hru, hz', hl⟩ := fillE_sound (vs := v.cells.zipIdx.foldl (fun cs (x : Value × Nat) => match x with | (c, j) => cs.setIfInBounds (i * z + j) c) vs) t
        (fun e he => by
          rcases List.mem_or_eq_of_mem_set he with he | rfl
          · exact hz e he
          · exact hb.2) (by rw [zip_setL_arr, hset]; exact hr.setL _ hcr) h
      refine ⟨us, ?_, hru, hz', by simpa using hl⟩
      unfold Instr.fill
      simp only []
      rw [if_neg (by simp; omega)]
      exact hu
    · cases h

theorem zero_flat {α : Type} [Inhabited α] (zs : Array α) (n : Nat) : ((Array.range (n * zs.size)).map (zs[· % zs.size]!)).toList = (List.replicate n zs.toList).flatten := by
  have hu : ∀ e ∈ List.replicate n zs.toList, e.length = zs.size := fun e he => by rw [(List.mem_replicate.1 he).2]; simp
  apply List.ext_getElem?
  intro j
  have hfl := flat_len hu
  rw [List.length_replicate] at hfl
  by_cases hj : j < n * zs.size
  · have hz : 0 < zs.size := Nat.pos_of_ne_zero (fun h => by rw [h] at hj; omega)
    have hdiv : j / zs.size < n := Nat.div_lt_of_lt_mul (by rw [Nat.mul_comm]; exact hj)
    have hmod : j % zs.size < zs.size := Nat.mod_lt _ hz
    have hg : (List.replicate n zs.toList)[j / zs.size]? = some zs.toList := by rw [List.getElem?_replicate, if_pos hdiv]
    have h1 := flat_get hu hg
    have h2 : ((List.replicate n zs.toList).flatten.drop (j / zs.size * zs.size)).take zs.size = zs.toList := h1
    have h3 : (((List.replicate n zs.toList).flatten.drop (j / zs.size * zs.size)).take zs.size)[j % zs.size]? = zs.toList[j % zs.size]? := by rw [h2]
    rw [List.getElem?_take, if_pos hmod, List.getElem?_drop, Nat.mul_comm, Nat.div_add_mod] at h3
    rw [h3]
    simp only [Array.getElem?_toList, Array.getElem?_map]
    rw [Array.getElem?_range, if_pos hj]
    simp only [Option.map_some]
    rw [getElem!_pos zs _ hmod, Array.getElem?_eq_getElem hmod]
  · rw [List.getElem?_eq_none (by simp; omega), List.getElem?_eq_none (by omega)]

section
variable {P : Program} {C : Cz} {σ : St} {w : World} {T : TT}
theorem placesA_run (hT : TOK P T) : ∀ {fs : List (Nat × TypeId)} {ps : List (Nat × Nat)} {l : List Field}, placesA T fs = some ps → l.map (fun f => (f.offset, f.type)) = fs →
    (l.mapM fun f => (do pure (f.offset, ← sizeOf f.type) : Sem (Nat × Nat))).run P w = .ok ps w
  | [], ps, l, h, hl => by
    cases h
    have : l = [] := by simpa using hl
    subst this; rfl
  | (off, t) :: fs, ps, [], h, hl => by simp at hl
  | (off, t) :: fs, ps, f :: l, h, hl => by
    simp only [List.map_cons, List.cons.injEq, Prod.mk.injEq] at hl
    obtain ⟨⟨rfl, rfl⟩, hl⟩ := hl
    simp only [placesA] at h
    split at h
    · rename_i z qs hz hq
      cases h
      obtain ⟨ti, _, hsz, ok⟩ := szOf_ok hT hz
      have ih := placesA_run hT hq hl
      rw [List.mapM_cons]
      simp only [Sem.run_bind, ok.sizeOf w, Result.andThen_ok, Sem.run_pure, hsz, ih]
    · cases h

theorem buildA_sound (hT : TOK P T) {t : TypeId} {ps : List (Nat × AV)} {qs : Array (Nat × Value)} {r : AV} (hp : RepP C ps qs.toList) (h : buildA T t ps = some r) : Yields P C w (Instr.build t qs) r := by
  unfold buildA at h
  split at h
  · rename_i ti hti
    have ok := hT t ti hti
    obtain ⟨z, hz, hzc⟩ := ok.zeroValue w
    obtain ⟨d, hd, hok, hd'⟩ := ok.under w
    have hzr : RepL C ti.zero z.cells.toList := by rw [hzc]; exact RepL.plain ok.plain
    unfold Instr.build
    split at h
    · rename_i fs hk
      rw [hk] at hok
      obtain ⟨a, rfl, ha⟩ := hok
      split at h
      · rename_i pl hpl
        cases hq : fillA (pl[·]?) ti.zero ps with
        | none => rw [hq] at h; cases h
        | some cs =>
          rw [hq] at h; cases h
          obtain ⟨us, hu, hr⟩ := fillA_sound hp hzr hq
          refine ⟨.agg us, ?_, by simpa using Rep.agg cs us.toList hr⟩
          have hm : (a.mapM fun f => (do pure (f.offset, ← sizeOf f.type) : Sem (Nat × Nat))).run P w = .ok pl.toArray w := by
            rw [Array.mapM_eq_mapM_toList]
            simp only [Sem.run_map, placesA_run hT hpl ha, Result.andThen_ok]
          have hfun : (fun (i : Nat) => pl.toArray[i]?) = (fun (i : Nat) => pl[i]?) := by funext i; simp
          simp only [Sem.run_bind, hz, Result.andThen_ok, hd, hm, hfun, hu, Sem.run_pure]
      · cases h
    · rename_i n e hk
      rw [hk] at hok
      simp only [Kd.ok] at hok; subst hok
      split at h
      · rename_i zz hzz
        obtain ⟨ti', _, hsz, ok'⟩ := szOf_ok hT hzz
        cases hq : fillA (fun i => some (i * zz, zz)) ti.zero ps with
        | none => rw [hq] at h; cases h
        | some cs =>
          rw [hq] at h; cases h
          obtain ⟨us, hu, hr⟩ := fillA_sound hp hzr hq
          refine ⟨.agg us, ?_, by simpa using Rep.agg cs us.toList hr⟩
          simp only [Sem.run_bind, hz, Result.andThen_ok, hd, ok'.sizeOf w, hsz, hu, Sem.run_pure]
      · cases h
    · cases h
  · cases h

/-- What a step that may turn the heap does. -/
def Steps' (P : Program) (C : Cz) (w : World) (s : Sem Value) (r : AV) (σ' : St) : Prop := ∃ v w' C', s.run P w = .ok v w' ∧ C.le C' ∧ HRel C' σ' w' ∧ Rep C' r v

theorem buildSliceA_sound (hT : TOK P T) (h0 : HRel C σ w) {t : TypeId} {len : Nat} {ps : List (Nat × AV)} {qs : Array (Nat × Value)} {r : AV} {σ' : St} (hp : RepP C ps qs.toList) (h : buildSliceA T σ t len ps = some (r, σ')) :
    Steps' P C w (Instr.buildSlice t len qs) r σ' := by
  unfold buildSliceA at h
  split at h
  · rename_i e hk
    obtain ⟨_, d, _, _, _, hd, hok⟩ := kdOf_ok hT hk
    simp only [Kd.ok] at hok; subst hok
    split at h
    · rename_i ti hti
      have ok := hT e ti hti
      split at h
      · rename_i hb
        split at h
        · rename_i els hf
          cases h
          obtain ⟨z, hz, hzc⟩ := ok.zeroValue w
          have hzs : z.cells.size = ti.size := by rw [← Array.length_toList, hzc]; simp [ok.len]
          have hz0 : ∀ x ∈ List.replicate len ti.zero, x.length = ti.size := fun x hx => by rw [(List.mem_replicate.1 hx).2]; exact ok.len
          have hflat : RepL C (List.replicate len ti.zero).flatten ((Array.range (len * ti.size)).map (z.cells[· % z.cells.size]!)).toList := by
            rw [← hzs, zero_flat, hzc]
            have hp := RepL.plain (C := C) ok.plain
            clear hf hb hz0
            induction len with
            | zero => exact .nil
            | succ n ih => rw [List.replicate_succ, List.replicate_succ]; exact hp.append ih
          obtain ⟨us, hu, hru, hze, hle⟩ := fillE_sound hp hz0 hflat hf
          simp at hle
          have hul := hru.length
          rw [flat_len hze, hle] at hul
          have hrel := h0.newR ⟨e, ti.size, 0, els⟩ us.toList (0, 0) hze (by simp only [hle]; rw [List.take_of_length_le (by omega)]; exact hru) (by simp only [hle]; omega) (by simp)
          refine ⟨_, _, _, ?_, C.le_pushR _, hrel, .os _ _ _ (some ⟨w.heap.size, 0, none⟩) len (by simp [Cz.pushR, h0.nr]) (fun _ => ?_)⟩
          · unfold Instr.buildSlice
            simp only [Sem.run_bind, run_underlying hd, Result.andThen_ok, ok.sizeOf w]
            rw [if_neg (by omega)]
            by_cases hl0 : len * ti.size = 0
            · have hl00 : len = 0 := by
                rcases Nat.mul_eq_zero.1 hl0 with h | h
                · exact h
                · omega
              subst hl00
              have e2 : ∀ f : Nat → Value, (Array.range (0 * ti.size)).map f = #[] := fun f => by
                exact Array.eq_empty_of_size_eq_zero (by simp)
              have hu' : Instr.fill (fun i => some (i * ti.size, ti.size)) #[] qs.toList = some us := by rw [e2] at hu; exact hu
              simp only [e2]
              rw [if_pos hl0]
              simp only [Sem.run_pure, Result.andThen_ok, Sem.run_bind, hu', newRow, run_newObj]
              simp
            · rw [if_neg hl0]
              simp only [Sem.run_pure, Result.andThen_ok, Sem.run_bind, hz, hu, newRow, run_newObj]
              simp
          · have e1 : (C.pushR { blk := w.heap.size, base := 0, esz := ti.size, size := us.toList.length, live := true }).row σ.rows.length = { blk := w.heap.size, base := 0, esz := ti.size, size := us.toList.length, live := true } := by
              simp only [Cz.pushR]; rw [if_pos h0.nr.symm]
            rw [e1]
            simp
            simp at hul; omega
        · cases h
      · cases h
    · cases h
  · cases h
end
end Go.Ab
