/-
  The abstract machine of this work, part 8: operations that make memory: variables, boxes, append.
-/
import Derived.Test.YtpejbkckppnamaaDoorAbBuild
import Derived.Deep.AppendSrc
import Derived.Deep.Upon
set_option linter.all false
set_option linter.unusedVariables false
set_option linter.unusedSimpArgs false
namespace Go.Ab
open Go Go.RowKit

def allocA (T : TT) (σ : St) (t : TypeId) : Option (AV × St) :=
  match T t with
  | some ti => some (.vp σ.vars.length 0, σ.pushV (.cells t ti.zero))
  | none => none
def boxA (σ : St) (t : TypeId) (x : AV) : Option (AV × St) := some (.vp σ.vars.length 0, σ.pushV (.cells t (cellsA x)))

/-- The elements of what is appended. -/
def elsA (σ : St) (x : AV) : Option (List (List AV)) :=
  match x with
  | .sl els => some els
  | .nils | .ez => some []
  | .str s => some (s.map fun b => [.int .u8 b.toNat])
  | .os r off n => match σ.rows[r]? with
    | some (some row) => if off + n ≤ row.els.length then some ((row.els.drop off).take n) else none
    | _ => none
  | _ => none
def Kd.src : Kd → Bool
  | .slice _ | .str => true
  | _ => false
def appendA (T : TT) (σ : St) (st xt : TypeId) (s x : AV) : Option (AV × St) :=
  match kdOf T st, kdOf T xt with
  | some (.slice e), some k => if k.src then match T e with
    | some ti => match elsA σ x with
      | some ys => if ys.all (fun c => c.length == ti.size) && ys.all (fun c => c.all AV.one) && decide (0 < ti.size) && decide (0 < ti.bytes) then
          match s with
          | .nils => if ys = [] then some (.nils, σ) else
            if ys.length * ti.bytes ≤ 140737488355328 then some (.os σ.rows.length 0 ys.length, σ.pushR ⟨e, ti.size, 0, ys⟩) else none
          | .ez => if ys = [] then some (.ez, σ) else
            if ys.length * ti.bytes ≤ 140737488355328 then some (.os σ.rows.length 0 ys.length, σ.pushR ⟨e, ti.size, 0, ys⟩) else none
          | .sl els => if ys = [] then some (.sl els, σ) else none
          | .os r off n => match σ.rows[r]? with
            | some (some row) => if off + n ≤ row.els.length ∧ row.fz ≤ off + n ∧ row.esz = ti.size ∧ row.ety = e ∧ (n + ys.length) * ti.bytes ≤ 140737488355328 then
                some (.os σ.rows.length 0 (n + ys.length), (σ.setR r none).pushR ⟨e, ti.size, row.fz - off, (row.els.drop off).take n ++ ys⟩) else none
            | _ => none
          | _ => none
        else none
      | none => none
    | none => none else none
  | _, _ => none
def lenA (T : TT) (t : TypeId) (x : AV) : Option AV :=
  match kdOf T t, x with
  | some .str, .str s => some (.int .i64 s.length)
  | some (.slice _), .sl els => some (.int .i64 els.length)
  | some (.slice _), .nils => some (.int .i64 0)
  | some (.slice _), .ez => some (.int .i64 0)
  | some (.slice _), .os _ _ n => some (.int .i64 n)
  | some (.arr n _), _ => some (.int .i64 n)
  | _, _ => none

section
variable {P : Program} {C : Cz} {σ : St} {w : World} {T : TT}
theorem allocA_sound (hT : TOK P T) (h0 : HRel C σ w) {t : TypeId} {r : AV} {σ' : St} (h : allocA T σ t = some (r, σ')) : Steps' P C w (Instr.alloc t true (.tuple #[])) r σ' := by
  unfold allocA at h
  split at h
  · rename_i ti hti
    cases h
    have ok := hT t ti hti
    obtain ⟨z, hz, hzc⟩ := ok.zeroValue w
    have hrel := h0.pushV (.cells t ti.zero) (.cells z.cells t (0, 0)) (fun w' hw' => ⟨z.cells.toList, by simpa using hw', by rw [hzc]; exact RepL.plain ok.plain⟩)
    refine ⟨.pointer (some ⟨w.heap.size, 0, none⟩), _, _, ?_, C.le_pushV _, hrel, ?_⟩
    · unfold Instr.alloc
      simp only [Sem.run_bind, hz, Result.andThen_ok, newVar, newRow, run_newObj, Sem.run_pure]
      rfl
    · have := Rep.vp (C := C.pushV w.heap.size) σ.vars.length 0 (by simp [Cz.pushV, h0.nv])
      simpa [Cz.pushV, h0.nv] using this
  · cases h
theorem boxA_sound (h0 : HRel C σ w) {t : TypeId} {x r : AV} {X : Value} {σ' : St} (hx : Rep C x X) (h : boxA σ t x = some (r, σ')) : Steps' P C w (Instr.box t X) r σ' := by
  cases h
  have hrel := h0.pushV (.cells t (cellsA x)) (.cells X.cells t (0, 0)) (fun w' hw' => ⟨X.cells.toList, by simpa using hw', (cellsA_rep hx).mono (C.le_pushV _)⟩)
  refine ⟨.pointer (some ⟨w.heap.size, 0, none⟩), _, _, ?_, C.le_pushV _, hrel, ?_⟩
  · unfold Instr.box
    simp only [Sem.run_bind, Result.andThen_ok, newVar, newRow, run_newObj, Sem.run_pure]
    rfl
  · have := Rep.vp (C := C.pushV w.heap.size) σ.vars.length 0 (by simp [Cz.pushV, h0.nv])
    simpa [Cz.pushV, h0.nv] using this
theorem lenA_sound (hT : TOK P T) {t : TypeId} {x r : AV} {X : Value} {ts : Array TypeId} {ty : TypeId} (ht : ts[0]? = some t) (hx : Rep C x X) (h : lenA T t x = some r) : Yields P C w (Builtin.len_ ts ty #[X]) r := by
  unfold lenA at h
  have key : ∀ d n, P.underlying t = some d → (match d, X with
      | .string, .string s => n = (s.size : Int)
      | .array m _, _ => n = m
      | .slice _, .slice _ m _ => n = m
      | _, _ => False) → (Builtin.len_ ts ty #[X]).run P w = .ok (.int .i64 n) w := by
    intro d n hd hm
    unfold Builtin.len_
    have hx0 : (#[X] : Array Value)[0]? = some X := rfl
    simp only [ht, hx0]
    rw [Sem.run_bind, run_underlying hd, Result.andThen_ok]
    split at hm
    · subst hm; rfl
    · subst hm; rfl
    · subst hm; rfl
    · exact hm.elim
  split at h
  · rename_i s hk
    cases h; cases hx
    obtain ⟨_, d, _, _, _, hd, hok⟩ := kdOf_ok hT hk
    simp only [Kd.ok] at hok; subst hok
    exact ⟨_, key _ _ hd (by simp [str_size]), .int _ _⟩
  · rename_i e els hk
    cases h
    obtain ⟨_, d, _, _, _, hd, hok⟩ := kdOf_ok hT hk
    simp only [Kd.ok] at hok; subst hok
    cases hx with
    | sl0 a cap => exact ⟨_, key _ _ hd rfl, .int _ _⟩
    | sl _ z vs b o cap hz hc hr hm => exact ⟨_, key _ _ hd rfl, .int _ _⟩
  · rename_i e hk
    cases h; cases hx
    obtain ⟨_, d, _, _, _, hd, hok⟩ := kdOf_ok hT hk
    simp only [Kd.ok] at hok; subst hok
    exact ⟨_, key _ _ hd rfl, .int _ _⟩
  · rename_i e hk
    cases h; cases hx
    obtain ⟨_, d, _, _, _, hd, hok⟩ := kdOf_ok hT hk
    simp only [Kd.ok] at hok; subst hok
    exact ⟨_, key _ _ hd rfl, .int _ _⟩
  · rename_i e r off n hk
    cases h; cases hx
    obtain ⟨_, d, _, _, _, hd, hok⟩ := kdOf_ok hT hk
    simp only [Kd.ok] at hok; subst hok
    exact ⟨_, key _ _ hd rfl, .int _ _⟩
  · rename_i n e hk
    cases h
    obtain ⟨_, d, _, _, _, hd, hok⟩ := kdOf_ok hT hk
    simp only [Kd.ok] at hok; subst hok
    exact ⟨_, key _ _ hd (by cases X <;> rfl), .int _ _⟩
  · cases h

/-- What the appended elements are in the machine. -/
theorem elsA_sound (hT : TOK P T) (h0 : HRel C σ w) {x : AV} {X : Value} {ys : List (List AV)} (hx : Rep C x X) (h : elsA σ x = some ys) {xt : TypeId} {k : Kd} (hk : kdOf T xt = some k) (hks : k.src = true) (z : Nat) (hz : ∀ c ∈ ys, c.length = z) (h1 : ∀ c ∈ ys, c.all AV.one = true) :
    ∃ vs : List Value, RepL C ys.flatten vs ∧ Src P z xt X ys.length vs w := by
  obtain ⟨_, d, _, _, _, hd, hok⟩ := kdOf_ok hT hk
  have kind : (∃ e', P.underlying xt = some (.slice e')) ∨ P.underlying xt = some .string := by
    cases k <;> simp only [Kd.src] at hks <;> (try (cases hks; done)) <;> simp only [Kd.ok] at hok <;> subst hok
    · exact .inr hd
    · exact .inl ⟨_, hd⟩
  have hall : ys.flatten.all AV.one = true := by
    rw [List.all_eq_true]
    intro c hc
    obtain ⟨l, hl, hc⟩ := List.mem_flatten.1 hc
    exact List.all_eq_true.1 (h1 l hl) c hc
  have mk : ∀ vs : List Value, RepL C ys.flatten vs → (∀ w' : World, (Builtin.lenOf X).run P w' = .ok ys.length w') → (∀ w' : World, (∀ b o v, w.cell? ⟨b, o, none⟩ = some v → w'.cell? ⟨b, o, none⟩ = some v) → (Builtin.firstCells z ys.length X).run P w' = .ok vs.toArray w') →
      ∃ vs : List Value, RepL C ys.flatten vs ∧ Src P z xt X ys.length vs w := fun vs hr hl hc =>
    ⟨vs, hr, kind, hl, hc w (fun _ _ _ h => h), hc w.drew (fun _ _ _ h => h), by rw [hr.length, flat_len hz], hr.one hall⟩
  unfold elsA at h
  split at h
  · rename_i els
    cases h
    cases hx with
    | sl0 a cap =>
      refine mk [] .nil (fun _ => rfl) (fun w' _ => ?_)
      cases a with
      | none => rfl
      | some a => simp [Builtin.firstCells, loadCells, loadCellsFrom]
    | sl _ z' vs b o cap hz' hcap hr hm =>
      refine mk vs hr (fun _ => rfl) (fun w' hw' => ?_)
      have hl := hr.length
      rw [flat_len hz] at hl
      show (loadCells ⟨b, o, none⟩ (ys.length * z)).run P w' = _
      rw [← hl]
      exact run_loadCells_list (P := P) w' ⟨b, o, none⟩ vs (fun j v hj => by rw [Addr.add_mid]; exact hw' _ _ _ (h0.mem _ _ _ (hm j v hj)))
  · cases h; cases hx
    exact mk [] .nil (fun _ => rfl) (fun w' _ => rfl)
  · cases h
    cases hx with
    | ez a =>
      refine mk [] .nil (fun _ => rfl) (fun w' _ => ?_)
      cases a with
      | none => rfl
      | some a => simp [Builtin.firstCells, loadCells, loadCellsFrom]
  · rename_i s
    cases h; cases hx
    refine mk (s.map fun b => .int .u8 b.toNat) ?_ (fun _ => by simp [Builtin.lenOf, str_size]) (fun w' _ => ?_)
    · clear hz h1 hall mk
      induction s with
      | nil => exact .nil
      | cons b s ih => exact .cons _ _ _ _ (.int _ _) ih
    · simp only [Builtin.firstCells, List.length_map]
      have : (⟨s.toArray⟩ : ByteArray).extract 0 s.length = ⟨s.toArray⟩ := by rw [str_extract]; simp
      rw [this]
      simp
  · rename_i r off n
    split at h
    · rename_i row hrow
      split at h
      · rename_i hle
        cases h
        obtain ⟨hlive, vs, fr, hh⟩ := h0.row r row hrow
        cases hx with
        | os _ _ _ a cap hr hv =>
          obtain ⟨rfl, h2, h3⟩ := hv hlive
          have hlen : ((row.els.drop off).take n).length = n := by simp; omega
          have hrep := (hh.rep.drop (off * row.esz)).take (n * row.esz)
          rw [flat_drop off hh.uni, flat_take n (fun c hc => hh.uni c (mem_drop' hc))] at hrep
          refine mk _ hrep (fun _ => by rw [hlen]; rfl) (fun w' hw' => ?_)
          have hl := hrep.length
          rw [flat_len hz, hlen] at hl
          rw [hlen]
          show (loadCells _ (n * z)).run P w' = _
          rw [← hl]
          refine run_loadCells_list (P := P) w' _ _ (fun j v hj => ?_)
          rw [Addr.add_mid]
          apply hw'
          rw [cell_heap hh.heap, hh.esz]
          have h1 := take_drop_get hj
          rw [List.getElem?_take] at h1
          split at h1
          · rw [List.getElem?_drop] at h1
            rw [← h1]; congr 1; omega
          · cases h1
      · cases h
    · cases h
  · cases h

theorem row_after (us vs : List Value) (b k m : Nat) (h : b + k + vs.length ≤ us.length) (hm : m = vs.length) : ((setL us (b + k) vs).drop b).take (k + m) = (us.drop b).take k ++ vs := by
  subst hm
  rw [take_drop_setL us b k (k + vs.length) vs (Nat.le_refl _) (by omega), setL_eq _ _ _ (by simp; omega), List.take_take, Nat.min_eq_left (by omega)]
  have e : ((us.drop b).take (k + vs.length)).drop (k + vs.length) = [] := List.drop_of_length_le (by simp; omega)
  rw [e, List.append_nil]

theorem repl_toList {n : Nat} {zs : List AV} {vs : List Value} (h : RepL C zs vs) : RepL C (List.replicate n zs).flatten (List.replicate n vs).flatten := by
  induction n with
  | zero => exact .nil
  | succ n ih => rw [List.replicate_succ, List.replicate_succ]; exact h.append ih

/-- A row of what there was and what comes, in a block that is made. -/
theorem grow_rel (h0 : HRel C σ w) {e : TypeId} {z : Nat} {ys : List (List AV)} {vs : List Value} {rest : Array Value} {fz : Nat} (hz : ∀ c ∈ ys, c.length = z) (hr : RepL C ys.flatten vs) (hm : ∃ m, vs.length + rest.size = m * z ∧ ys.length ≤ m) :
    ∃ C' m, C.le C' ∧ HRel C' (σ.pushR ⟨e, z, fz, ys⟩) (w.drew.alloc (.cells (vs.toArray ++ rest) e)) ∧ vs.length + rest.size = m * z ∧ ys.length ≤ m ∧
      ∀ cap, cap = m → ys.length ≤ cap → Rep C' (.os σ.rows.length 0 ys.length) (.slice (some ⟨w.heap.size, 0, none⟩) ys.length cap) := by
  obtain ⟨m, hm1, hm2⟩ := hm
  have hvl := hr.length
  rw [flat_len hz] at hvl
  have e1 : (vs.toArray ++ rest) = (vs ++ rest.toList).toArray := by apply Array.ext'; simp
  have hrel := h0.drew.newR ⟨e, z, fz, ys⟩ (vs ++ rest.toList) (0, 0) hz (by simp only [← hvl]; rw [List.take_left]; exact hr) (by simp; omega) (by simp)
  rw [← e1] at hrel
  refine ⟨_, m, C.le_pushR _, hrel, hm1, hm2, fun cap hcap hle => .os _ _ _ _ cap (by simp [Cz.pushR, h0.nr]) (fun _ => ?_)⟩
  have e2 : ∀ rc, (C.pushR rc).row σ.rows.length = rc := fun rc => by simp only [Cz.pushR]; rw [if_pos h0.nr.symm]
  rw [e2]
  subst hcap
  simp
  omega

theorem appendA_sound (hT : TOK P T) (h0 : HRel C σ w) {st xt ty : TypeId} {s x r : AV} {S X : Value} {σ' : St} (hs : Rep C s S) (hx : Rep C x X) (h : appendA T σ st xt s x = some (r, σ')) :
    Steps' P C w (Builtin.append_ #[st, xt] ty #[S, X]) r σ' := by
  unfold appendA at h
  split at h
  · rename_i e k hk hkx
    split at h
    · rename_i hsrc
      split at h
      · rename_i ti hti
        split at h
        · rename_i ys hys
          split at h
          · rename_i hchk
            simp only [Bool.and_eq_true, decide_eq_true_eq] at hchk
            obtain ⟨⟨⟨hz', h1'⟩, hsz0⟩, hb0⟩ := hchk
            have hz : ∀ c ∈ ys, c.length = ti.size := fun c hc => by simpa using List.all_eq_true.1 hz' c hc
            have h1 : ∀ c ∈ ys, c.all AV.one = true := fun c hc => List.all_eq_true.1 h1' c hc
            obtain ⟨_, d, _, _, _, hd, hok⟩ := kdOf_ok hT hk
            simp only [Kd.ok] at hok; subst hok
            have ok := hT e ti hti
            obtain ⟨i, zv, hi, his, hib, hiz, hzc⟩ := ok.info
            have hzs : zv.cells.size = ti.size := by rw [← Array.length_toList, hzc]; simp [ok.len]
            obtain ⟨vs, hvr, hsrcV⟩ := elsA_sound hT h0 hx hys hkx hsrc ti.size hz h1
            rw [← his] at hsrcV
            have hvl := hvr.length
            rw [flat_len hz] at hvl
            have empty : ys = [] → ∀ (a : Option Addr) (n cap : Nat), n ≤ cap → (Builtin.append_ #[st, xt] ty #[.slice a n cap, X]).run P w = .ok (.slice a n cap) w := by
              intro hy a n cap hle
              subst hy
              cases hvr
              exact run_append_nothing w st xt ty e i hd hi a n cap hle X hsrcV
            have fresh : ys ≠ [] → ys.length * ti.bytes ≤ 140737488355328 → ∀ a : Option Addr, S = .slice a 0 0 →
                Steps' P C w (Builtin.append_ #[st, xt] ty #[S, X]) (.os σ.rows.length 0 ys.length) (σ.pushR ⟨e, ti.size, 0, ys⟩) := by
              intro hne hle a hS
              subst hS
              have hpos : 0 < ys.length := by
                rcases Nat.eq_zero_or_pos ys.length with h | h
                · exact absurd (List.eq_nil_of_length_eq_zero h) hne
                · exact h
              have hlen63 : ys.length ≤ 140737488355328 := Nat.le_trans (Nat.le_mul_of_pos_right _ hb0) hle
              have hold : (Builtin.firstCells i.size 0 (.slice a 0 0)).run P w.drew = .ok ([] : List Value).toArray w.drew := by
                cases a with
                | none => rfl
                | some a => simp [Builtin.firstCells, loadCells, loadCellsFrom]
              have hrun := run_append_grow_src w st xt ty e i zv hd hi hiz a 0 0 [] hold X ys.length vs hsrcV (by omega) (by omega) (growslice_fits (by omega) (by rw [hib]; simpa using hle))
              simp only [Nat.zero_add, List.nil_append] at hrun
              have hg := grownCap_ge w ys.length 0 e
              have hzcs : (Builtin.zeroCells zv.cells (grownCap w ys.length 0 e - ys.length)).size = (grownCap w ys.length 0 e - ys.length) * ti.size := by simp [Builtin.zeroCells, hzs]
              obtain ⟨C', m, hle', hrel, hm1, hm2, hrep⟩ := grow_rel h0 (e := e) (rest := Builtin.zeroCells zv.cells (grownCap w ys.length 0 e - ys.length)) (fz := 0) hz hvr ⟨grownCap w ys.length 0 e, by rw [hzcs, hvl, ← Nat.add_mul]; congr 1; omega, hg⟩
              have hmc : m = grownCap w ys.length 0 e := by
                rw [hzcs, hvl, ← Nat.add_mul] at hm1
                have := Nat.eq_of_mul_eq_mul_right hsz0 hm1
                omega
              exact ⟨_, _, C', hrun, hle', hrel, hrep _ hmc.symm (by omega)⟩
            split at h
            · cases hs
              split at h
              · rename_i hy
                cases h
                exact ⟨_, _, C, empty hy _ _ _ (Nat.le_refl _), Cz.le.refl C, h0, .nils⟩
              · rename_i hy
                split at h
                · rename_i hle
                  cases h
                  exact fresh hy hle none rfl
                · cases h
            · split at h
              · rename_i hy
                cases h
                cases hs with
                | ez a => exact ⟨_, _, C, empty hy _ _ _ (Nat.le_refl _), Cz.le.refl C, h0, .ez a⟩
              · rename_i hy
                split at h
                · rename_i hle
                  cases h
                  cases hs with
                  | ez a => exact fresh hy hle a rfl
                · cases h
            · rename_i els
              split at h
              · rename_i hy
                cases h
                cases hs with
                | sl0 a cap => exact ⟨_, _, C, empty hy _ _ _ (Nat.zero_le _), Cz.le.refl C, h0, .sl0 a cap⟩
                | sl _ z vs' b o cap hz2 hcap hr hm => exact ⟨_, _, C, empty hy _ _ _ hcap, Cz.le.refl C, h0, .sl _ z vs' b o cap hz2 hcap hr hm⟩
              · cases h
            · rename_i r0 off n
              split at h
              · rename_i row hrow
                split at h
                · rename_i hc
                  cases h
                  obtain ⟨hc1, hc2, hc3, hc4, hc5⟩ := hc
                  obtain ⟨hlive, us, fr, hh⟩ := h0.row r0 row hrow
                  have hlv : σ.live r0 := ⟨row, hrow⟩
                  cases hs with
                  | os _ _ _ a cap hr hv =>
                    obtain ⟨rfl, h2, h3⟩ := hv hlive
                    have hesz := hh.esz
                    rw [hesz, hc3] at h2
                    have hfit := hh.fits
                    have hsize := hh.size
                    have huni : ∀ c ∈ (row.els.drop off).take n ++ ys, c.length = ti.size := fun c hcm => by
                      rcases List.mem_append.1 hcm with hcm | hcm
                      · rw [← hc3]; exact hh.uni c (mem_drop' (mem_take' hcm))
                      · exact hz c hcm
                    have holdlen : ((row.els.drop off).take n).length = n := by simp; omega
                    have hnewlen : ((row.els.drop off).take n ++ ys).length = n + ys.length := by rw [List.length_append, holdlen]
                    have hlen63 : n + ys.length ≤ 140737488355328 := Nat.le_trans (Nat.le_mul_of_pos_right _ hb0) hc5
                    have hkill := h0.kill r0
                    have hkle := C.le_kill r0
                    have hoffn : off * ti.size + n * ti.size ≤ row.els.length * ti.size := by rw [← Nat.add_mul]; exact Nat.mul_le_mul_right _ hc1
                    rw [hc3] at hfit
                    by_cases hroom : n + ys.length ≤ cap
                    · have hcapm : (n + ys.length) * ti.size ≤ cap * ti.size := Nat.mul_le_mul_right _ hroom
                      rw [Nat.add_mul] at hcapm
                      have hfree : ∀ j, j < vs.length → w.frozen? ⟨(C.row r0).blk, (C.row r0).base + off * (C.row r0).esz + n * i.size + j, none⟩ = false := fun j hj => by
                        rw [frozen_heap hh.heap, hesz, hc3, his]
                        have hfz : row.fz * row.esz ≤ (off + n) * row.esz := Nat.mul_le_mul_right _ hc2
                        rw [hc3, Nat.add_mul] at hfz
                        have := hh.free ((C.row r0).base + off * ti.size + n * ti.size + j) (by rw [hc3]; omega) (by omega)
                        rw [← Bool.not_eq_true, Bool.and_eq_true, decide_eq_true_eq, decide_eq_true_eq]; exact this
                      have hrun := run_append_room_src w st xt ty e i hd hi (C.row r0).blk ((C.row r0).base + off * (C.row r0).esz) n cap X ys.length vs hsrcV hroom
                        (fun j hj => by rw [cell_heap hh.heap, hesz, hc3, his, List.getElem?_eq_getElem (by omega)]; rfl) hfree
                      have hbk := h0.free_kill hlv
                      let rc : RowC := ⟨(C.row r0).blk, (C.row r0).base + off * ti.size, ti.size, (C.row r0).size, true⟩
                      have hpos : (C.row r0).base + off * (C.row r0).esz + n * i.size = (C.row r0).base + off * ti.size + n * ti.size := by rw [hesz, hc3, his]
                      have hrel := hkill.pushR ⟨e, ti.size, row.fz - off, (row.els.drop off).take n ++ ys⟩ rc rfl hbk (w' := w.setCells (C.row r0).blk ((C.row r0).base + off * (C.row r0).esz + n * i.size) vs)
                        (fun k _ hk => heap_setCells_other hk _ _ _) (by rw [size_setCells]; exact h0.hb) (below_setCells (h0.rbase r0 hlv) _ _ _ h0.below)
                        (vs := setL us ((C.row r0).base + off * ti.size + n * ti.size) vs) (fr := fr)
                        ⟨by rw [hpos, ← hc4]; exact heap_setCells vs _ w us hh.heap, by rw [length_setL]; exact hsize, rfl, huni, by
                          simp only [hnewlen, rc]; rw [Nat.add_mul]; omega, by
                          simp only [hnewlen, rc]
                          rw [Nat.add_mul, row_after us vs _ _ _ (by omega) hvl.symm, List.flatten_append]
                          refine RepL.mono hkle (RepL.append ?_ hvr)
                          have hrep := (hh.rep.drop (off * row.esz)).take (n * row.esz)
                          rw [flat_drop off hh.uni, flat_take n (fun c hc => hh.uni c (mem_drop' hc))] at hrep
                          rw [hc3] at hrep
                          have e3 : ((us.drop (C.row r0).base).take (row.els.length * ti.size)).drop (off * ti.size) = (us.drop ((C.row r0).base + off * ti.size)).take (row.els.length * ti.size - off * ti.size) := by
                            rw [List.drop_take, List.drop_drop]
                          rw [e3, List.take_take, Nat.min_eq_left (by omega)] at hrep
                          exact hrep, by
                          intro o h5 h6
                          simp only [rc] at h5 h6
                          refine hh.free o ?_ h6
                          rw [hc3]
                          have : row.fz * ti.size ≤ off * ti.size + (row.fz - off) * ti.size := by rw [← Nat.add_mul]; exact Nat.mul_le_mul_right _ (by omega)
                          omega⟩
                      refine ⟨_, _, _, hrun, hkle.trans (Cz.le_pushR _ rc), hrel, .os _ _ _ _ cap (by simp [Cz.pushR, Cz.kill, h0.nr]) (fun _ => ?_)⟩
                      have e2 : ((C.kill r0).pushR rc).row σ.rows.length = rc := by simp only [Cz.pushR]; rw [if_pos (by simp [Cz.kill, h0.nr])]
                      rw [e2]
                      simp only [rc, hesz, hc3, Nat.zero_mul, Nat.add_zero]
                      exact ⟨trivial, by omega, hroom⟩
                    · have hfc : (Builtin.firstCells i.size n (.slice (some ⟨(C.row r0).blk, (C.row r0).base + off * (C.row r0).esz, none⟩) n cap)).run P w.drew = .ok ((us.drop ((C.row r0).base + off * ti.size)).take (n * ti.size)).toArray w.drew := by
                        refine run_firstCells_some w.drew i.size n _ n cap _ (by rw [his]; simp; omega) (fun j v hj => ?_)
                        rw [Addr.add_mid]
                        show w.cell? _ = _
                        rw [cell_heap hh.heap, hesz, hc3]
                        exact take_drop_get hj
                      have hrun := run_append_grow_src w st xt ty e i zv hd hi hiz _ n cap _ hfc X ys.length vs hsrcV (by omega) (by omega) (growslice_fits (by omega) (by rw [hib]; exact hc5))
                      have hg := grownCap_ge w (n + ys.length) cap e
                      have hrepo : RepL C ((row.els.drop off).take n).flatten ((us.drop ((C.row r0).base + off * ti.size)).take (n * ti.size)) := by
                        have hrep := (hh.rep.drop (off * row.esz)).take (n * row.esz)
                        rw [flat_drop off hh.uni, flat_take n (fun c hc => hh.uni c (mem_drop' hc))] at hrep
                        rw [hc3] at hrep
                        have e3 : ((us.drop (C.row r0).base).take (row.els.length * ti.size)).drop (off * ti.size) = (us.drop ((C.row r0).base + off * ti.size)).take (row.els.length * ti.size - off * ti.size) := by
                          rw [List.drop_take, List.drop_drop]
                        rw [e3, List.take_take, Nat.min_eq_left (by omega)] at hrep
                        exact hrep
                      have hzcs : (Builtin.zeroCells zv.cells (grownCap w (n + ys.length) cap e - (n + ys.length))).size = (grownCap w (n + ys.length) cap e - (n + ys.length)) * ti.size := by simp [Builtin.zeroCells, hzs]
                      have hol : ((us.drop ((C.row r0).base + off * ti.size)).take (n * ti.size)).length = n * ti.size := by simp; omega
                      obtain ⟨C', m, hle', hrel, hm1, hm2, hrep⟩ := grow_rel hkill (e := e) (rest := Builtin.zeroCells zv.cells (grownCap w (n + ys.length) cap e - (n + ys.length))) (fz := row.fz - off) huni
                        (by rw [List.flatten_append]; exact RepL.mono hkle (hrepo.append hvr)) ⟨grownCap w (n + ys.length) cap e, by rw [List.length_append, hol, hvl, hzcs, ← Nat.add_mul, ← Nat.add_mul]; congr 1; omega, by rw [hnewlen]; exact hg⟩
                      have hmc : m = grownCap w (n + ys.length) cap e := by
                        rw [List.length_append, hol, hvl, hzcs, ← Nat.add_mul, ← Nat.add_mul] at hm1
                        have := Nat.eq_of_mul_eq_mul_right hsz0 hm1
                        omega
                      have hfin := hrep _ hmc.symm (by rw [hnewlen]; exact hg)
                      rw [hnewlen] at hfin
                      have hrl : (σ.setR r0 none).rows.length = σ.rows.length := by simp [St.setR]
                      rw [hrl] at hfin
                      exact ⟨_, _, C', hrun, hkle.trans hle', hrel, hfin⟩
                · cases h
              · cases h
            · cases h
          · cases h
        · cases h
      · cases h
    · cases h
  · cases h
end
end Go.Ab
