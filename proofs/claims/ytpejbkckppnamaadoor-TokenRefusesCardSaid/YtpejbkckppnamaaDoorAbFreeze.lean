/-
  The abstract machine of this work, part 20: a row that nobody will append to any more is a slice that nobody writes.
-/
import Derived.Test.YtpejbkckppnamaaDoorAbForget
set_option linter.all false
set_option linter.unusedVariables false
set_option linter.unusedSimpArgs false
namespace Go.Ab
open Go Go.RowKit

mutual
/-- The same value, where this row is read alone from here on. -/
def frz (r : Nat) (els : List (List AV)) : AV → AV
  | .os r' off n => if r' = r ∧ off + n ≤ els.length then .sl ((els.drop off).take n) else .os r' off n
  | .agg cs => .agg (frzL r els cs)
  | .tup cs => .tup (frzL r els cs)
  | .ifc t v => .ifc t (frz r els v)
  | c => c
def frzL (r : Nat) (els : List (List AV)) : List AV → List AV
  | [] => []
  | c :: cs => frz r els c :: frzL r els cs
end
theorem frz_all {r : Nat} {els : List (List AV)} {n : Nat} (h : n = els.length) : frz r els (.os r 0 n) = .sl els := by
  simp only [frz]
  rw [if_pos ⟨trivial, by omega⟩, List.drop_zero, h, List.take_length]
theorem frzR : (∀ (r : Nat) (els : List (List AV)) (cs : List AV), frz r els (.agg cs) = .agg (frzL r els cs)) ∧ (∀ (r : Nat) (els : List (List AV)) (cs : List AV), frz r els (.tup cs) = .tup (frzL r els cs)) ∧
    (∀ (r : Nat) (els : List (List AV)), frzL r els [] = []) ∧ (∀ (r : Nat) (els : List (List AV)) (c : AV) (cs : List AV), frzL r els (c :: cs) = frz r els c :: frzL r els cs) ∧
    (∀ (r : Nat) (els : List (List AV)) (k : IntKind) (n : Int), frz r els (.int k n) = .int k n) ∧ (∀ (r : Nat) (els : List (List AV)) (b : Bool), frz r els (.bool b) = .bool b) ∧ (∀ (r : Nat) (els : List (List AV)) (s : List UInt8), frz r els (.str s) = .str s) ∧
    (∀ (r : Nat) (els : List (List AV)), frz r els .nils = .nils) ∧ (∀ (r : Nat) (els : List (List AV)), frz r els .nilp = .nilp) ∧ (∀ (r : Nat) (els : List (List AV)), frz r els .nili = .nili) ∧ (∀ (r : Nat) (els : List (List AV)), frz r els .ez = .ez) ∧
    (∀ (r : Nat) (els l : List (List AV)), frz r els (.sl l) = .sl l) ∧
    (∀ (r : Nat) (els : List (List AV)) (n : Nat), n = els.length → frz r els (.os r 0 n) = .sl els) := by
  refine ⟨?_, ?_, ?_, ?_, ?_, ?_, ?_, ?_, ?_, ?_, ?_, ?_, ?_⟩ <;> intros <;> first | (simp only [frz, frzL]; done) | exact frz_all (by assumption)

mutual
theorem Rep.frz {C D : Cz} (l : C.le D) {r : Nat} {els : List (List AV)} (hs : ∀ off n v, off + n ≤ els.length → Rep C (.os r off n) v → Rep D (.sl ((els.drop off).take n)) v) : ∀ {c : AV} {v : Value}, Rep C c v → Rep D (Go.Ab.frz r els c) v
  | .os r' off n, v, h => by
    simp only [Go.Ab.frz]
    split
    · rename_i he
      obtain ⟨rfl, hb⟩ := he
      exact hs off n v hb h
    · exact h.mono l
  | .agg cs, v, h => by
    simp only [Go.Ab.frz]
    cases h with | agg _ vs h => exact .agg _ vs (RepL.frz l hs h)
  | .tup cs, v, h => by
    simp only [Go.Ab.frz]
    cases h with | tup _ vs h => exact .tup _ vs (RepL.frz l hs h)
  | .ifc t c, v, h => by
    simp only [Go.Ab.frz]
    cases h with | ifc _ _ u h => exact .ifc t _ u (Rep.frz l hs h)
  | .int _ _, _, h => h.mono l
  | .bool _, _, h => h.mono l
  | .str _, _, h => h.mono l
  | .nilp, _, h => h.mono l
  | .vp _ _, _, h => h.mono l
  | .rp _, _, h => h.mono l
  | .nils, _, h => h.mono l
  | .ez, _, h => h.mono l
  | .sl _, _, h => h.mono l
  | .op _ _ _, _, h => h.mono l
  | .fn _ _ _, _, h => h.mono l
  | .niln, _, h => h.mono l
  | .nili, _, h => h.mono l
theorem RepL.frz {C D : Cz} (l : C.le D) {r : Nat} {els : List (List AV)} (hs : ∀ off n v, off + n ≤ els.length → Rep C (.os r off n) v → Rep D (.sl ((els.drop off).take n)) v) : ∀ {cs : List AV} {vs : List Value}, RepL C cs vs → RepL D (frzL r els cs) vs
  | [], _, h => by cases h; simp only [frzL]; exact .nil
  | c :: cs, _, h => by
    cases h with | cons _ v _ vs h t => simp only [frzL]; exact .cons _ _ _ _ (Rep.frz l hs h) (RepL.frz l hs t)
end

theorem conv_frz {σ : St} {r : Nat} {row : Row} {a : AV} (hr : σ.rows[r]? = some (some row)) : Conv a σ (frz r row.els a) (σ.setR r none) := by
  intro C w v h ha
  obtain ⟨hl, vs, fr, hh⟩ := h.row r row hr
  have hlive : σ.live r := ⟨row, hr⟩
  have hrlt : r < C.nr := by rw [h.nr]; exact (List.getElem?_eq_some_iff.1 hr).1
  let us := (vs.drop (C.row r).base).take (row.els.length * row.esz)
  let D : Cz := { C with M := fun b o => if b = (C.row r).blk then (if (C.row r).base ≤ o then us[o - (C.row r).base]? else none) else C.M b o }
  have hne : ∀ b o u, C.M b o = some u → b ≠ (C.row r).blk := fun b o u hm e => by
    subst e; rw [h.rM r o hlive] at hm; cases hm
  have hDM : ∀ b o, b ≠ (C.row r).blk → D.M b o = C.M b o := fun b o hb => if_neg hb
  have hle : C.le D := ⟨fun b o u hm => by rw [hDM b o (hne b o u hm)]; exact hm, Nat.le_refl _, fun _ _ => rfl, Nat.le_refl _, fun _ _ _ => rfl, rfl, rfl, fun b o u hb hm => by
    by_cases e : b = (C.row r).blk
    · have := h.rbase r hlive; omega
    · rw [hDM b o e] at hm; exact hm⟩
  have hlv : ∀ r', (σ.setR r none).live r' → σ.live r' ∧ r' ≠ r := by
    rintro r' ⟨x, hx⟩
    simp only [St.setR] at hx
    by_cases e : r' = r
    · subst e
      rw [List.getElem?_set_self (List.getElem?_eq_some_iff.1 hr).1] at hx; cases hx
    · rw [List.getElem?_set_ne (Ne.symm e)] at hx
      exact ⟨⟨x, hx⟩, e⟩
  have hblk : ∀ r', σ.live r' → r' ≠ r → (C.row r').blk ≠ (C.row r).blk := fun r' hl' hn e => hn (h.rinj r' r hl' hlive e)
  have hul : ∀ j u, us[j]? = some u → vs[(C.row r).base + j]? = some u := fun j u hu => by
    have : us[j]? = if j < row.els.length * row.esz then (vs.drop (C.row r).base)[j]? else none := List.getElem?_take
    rw [this] at hu
    split at hu
    · rw [List.getElem?_drop] at hu; exact hu
    · cases hu
  refine ⟨D, hle, ?_, ?_⟩
  · refine { nv := h.nv, nr := by rw [show D.nr = C.nr from rfl, h.nr]; simp [St.setR], mem := ?_, var := ?_, vinj := h.vinj, vM := ?_, vbase := h.vbase, row := ?_, rinj := ?_, rv := ?_, rM := ?_, rbase := ?_, hb := h.hb, below := h.below }
    · intro b o u hm
      by_cases e : b = (C.row r).blk
      · subst e
        simp only [D, if_true] at hm
        split at hm
        · rename_i hbo
          have := hul _ _ hm
          rw [show (C.row r).base + (o - (C.row r).base) = o by omega] at this
          simp [World.cell?, hh.heap, this]
        · cases hm
      · rw [hDM b o e] at hm; exact h.mem b o u hm
    · exact fun b vb hb => (h.var b vb hb).mono hle rfl
    · intro b o hb
      rw [hDM _ _ (fun e => h.rv r b hlive hb e.symm)]; exact h.vM b o hb
    · intro k x hx
      have hk := hlv k ⟨x, hx⟩
      simp only [St.setR] at hx
      rw [List.getElem?_set_ne (Ne.symm hk.2)] at hx
      obtain ⟨hl', us', fr', hh'⟩ := h.row k x hx
      exact ⟨hl', us', fr', hh'.mono hle rfl⟩
    · exact fun k k' h1 h2 e => h.rinj k k' (hlv k h1).1 (hlv k' h2).1 e
    · exact fun k b h1 h2 => h.rv k b (hlv k h1).1 h2
    · intro k o h1
      rw [hDM _ _ (hblk k (hlv k h1).1 (hlv k h1).2)]
      exact h.rM k o (hlv k h1).1
    · exact fun k h1 => h.rbase k (hlv k h1).1
  · refine ha.frz hle ?_
    intro off n u hb hu
    cases hu with
    | os _ _ _ a cap h1 h2 =>
      obtain ⟨rfl, hsz, hcap⟩ := h2 hl
      have hlen : ((row.els.drop off).take n).length = n := by simp; omega
      have huni : ∀ e ∈ (row.els.drop off).take n, e.length = row.esz := fun e he => hh.uni e (mem_drop' (mem_take' he))
      have hfl : ((row.els.drop off).take n).flatten = (row.els.flatten.drop (off * row.esz)).take (n * row.esz) := by
        rw [flat_drop off hh.uni, flat_take n (fun e he => hh.uni e (mem_drop' he))]
      have key := Rep.sl (C := D) ((row.els.drop off).take n) row.esz ((us.drop (off * row.esz)).take (n * row.esz)) (C.row r).blk ((C.row r).base + off * (C.row r).esz) cap huni (by rw [hlen]; exact hcap)
        (by rw [hfl]; exact (((hh.rep.mono hle).drop (off * row.esz)).take (n * row.esz)))
        (fun j x hj => by
          rw [List.getElem?_take] at hj
          split at hj
          · rw [List.getElem?_drop] at hj
            rw [hh.esz]
            simp only [D, if_true]
            rw [if_pos (by omega), show (C.row r).base + off * row.esz + j - (C.row r).base = off * row.esz + j by omega]
            exact hj
          · cases hj)
      rw [hlen] at key
      exact key

/-- A result is this, or is it when a row is read alone from here on. -/
def Frz (σ : St) (r r0 : AV) : Prop := r = r0 ∨ ∃ k row, getR σ k = some (some row) ∧ r0 = frz k row.els r
theorem ACalls.frame_frz {P : Program} {G : GT} {f : FuncId} (hG : ∀ g cs, G g = some cs → DataL cs) {args : List AV} (hd : DataL args) {Q : AV → Prop} (h : ACalls P G f args ⟨[], []⟩ (fun r σ' => ∃ r0, Frz σ' r r0 ∧ Data r0 ∧ Q r0)) (σ : St) : ACalls P G f args σ (fun r σ' => σ' = σ ∧ Q r) := by
  refine ACalls.frame hG hd (ACalls.conv (h.mono ?_)) σ
  rintro r σ' ⟨r0, hf, hd, hq⟩
  rcases hf with rfl | ⟨k, row, hk, rfl⟩
  · exact ⟨r, σ', fun C w v h0 hr => ⟨C, Cz.le.refl C, h0, hr⟩, hd, hq⟩
  · exact ⟨_, _, conv_frz hk, hd, hq⟩
/-- This state, and more behind it. -/
def Grown (σ σ' : St) : Prop := ∃ g h, σ' = ⟨σ.vars ++ g, σ.rows ++ h⟩
theorem Grown.refl (σ : St) : Grown σ σ := ⟨[], [], by simp⟩
theorem Grown.pushV {σ σ' : St} (h : Grown σ σ') {v : VB} : Grown σ (σ'.pushV v) := by
  obtain ⟨g, k, rfl⟩ := h; exact ⟨g ++ [v], k, by simp [St.pushV]⟩
theorem Grown.pushR {σ σ' : St} (h : Grown σ σ') {x : Row} : Grown σ (σ'.pushR x) := by
  obtain ⟨g, k, rfl⟩ := h; exact ⟨g, k ++ [some x], by simp [St.pushR]⟩
theorem Grown.setV {σ σ' : St} (h : Grown σ σ') {b : Nat} (hb : nvs σ ≤ b) {v : VB} : Grown σ (σ'.setV b v) := by
  obtain ⟨g, k, rfl⟩ := h
  exact ⟨g.set (b - σ.vars.length) v, k, by simp only [St.setV]; rw [List.set_append_right _ _ hb]⟩
theorem Grown.setR {σ σ' : St} (h : Grown σ σ') {r : Nat} (hb : nrs σ ≤ r) {x : Option Row} : Grown σ (σ'.setR r x) := by
  obtain ⟨g, k, rfl⟩ := h
  exact ⟨g, k.set (r - σ.rows.length) x, by simp only [St.setR]; rw [List.set_append_right _ _ hb]⟩
theorem Grown.trans {σ σ' σ2 : St} (h : Grown σ σ') (k : Grown σ' σ2) : Grown σ σ2 := by
  obtain ⟨g, r, rfl⟩ := h
  obtain ⟨g2, r2, rfl⟩ := k
  exact ⟨g ++ g2, r ++ r2, by simp⟩
/-- What a state is, but for cells that are data. -/
structure Near (σ σ1 : St) : Prop where
  nv : nvs σ1 = nvs σ
  var : ∀ (b : Nat) (vb : VB), getV σ1 b = some vb → getV σ b = some vb ∨ vb.data
  rows : σ1.rows = σ.rows
theorem Near.refl (σ : St) : Near σ σ := ⟨rfl, fun _ _ h => .inl h, rfl⟩
theorem Near.setV {σ σ1 : St} (h : Near σ σ1) {b : Nat} {v : VB} (hv : v.data) : Near σ (σ1.setV b v) := {
  nv := by simp only [nvs, St.setV, List.length_set]; exact h.nv
  var := fun k vb hk => by
    simp only [getV, St.setV] at hk
    rw [List.getElem?_set] at hk
    split at hk
    · split at hk
      · cases hk; exact .inr hv
      · cases hk
    · exact h.var k vb hk
  rows := h.rows }
/-- A method's own garbage is forgotten; what it hands back is data. -/
def Close (σ σ1 : St) (r0 r : AV) (σ' : St) : Prop := Grown σ1 σ' ∧ (r = r0 ∨ ∃ k row, nrs σ ≤ k ∧ getR σ' k = some (some row) ∧ r0 = frz k row.els r)
theorem ACalls.close {P : Program} {G : GT} {f : FuncId} {args : List AV} {σ : St} {K : AV → St → Prop} (σ1 : St) (r0 : AV) (hn : Near σ σ1) (hr : Data r0)
    (h : ACalls P G f args σ (Close σ σ1 r0)) (hK : K r0 σ1) : ACalls P G f args σ K := by
  refine ACalls.forget (ACalls.conv (h.mono ?_))
  have keep : ∀ g h, Keeps σ ⟨σ1.vars ++ g, σ1.rows ++ h⟩ σ1 := fun g h => {
    nv := hn.nv, nr := by rw [hn.rows]
    var := fun b vb hb => ⟨by rw [List.getElem?_append_left (List.getElem?_eq_some_iff.1 hb).1]; exact hb, hn.var b vb hb⟩
    row := fun r x hx => ⟨by rw [List.getElem?_append_left (List.getElem?_eq_some_iff.1 hx).1]; exact hx, .inl (by rw [← hn.rows]; exact hx)⟩ }
  rintro r σ' ⟨⟨g, kk, rfl⟩, rfl | ⟨k, row, hle, hk, rfl⟩⟩
  · exact ⟨r, _, fun C w v h0 hr => ⟨C, Cz.le.refl C, h0, hr⟩, σ1, keep g kk, hr, hK⟩
  · refine ⟨_, _, conv_frz hk, σ1, ?_, hr, hK⟩
    have : (⟨σ1.vars ++ g, σ1.rows ++ kk⟩ : St).setR k none = ⟨σ1.vars ++ g, σ1.rows ++ kk.set (k - σ1.rows.length) none⟩ := by
      simp only [St.setR]
      rw [List.set_append_right _ _ (by rw [hn.rows]; exact hle)]
    rw [this]
    exact keep g _
/-- What is data. -/
theorem dataR : (∀ (k : IntKind) (n : Int), Data (.int k n) = True) ∧ (∀ (b : Bool), Data (.bool b) = True) ∧ (∀ (s : List UInt8), Data (.str s) = True) ∧ (Data .nilp = True) ∧ (Data .nils = True) ∧ (Data .ez = True) ∧ (Data .niln = True) ∧ (Data .nili = True) ∧
    (∀ (l : List AV), Data (.rp l) = DataL l) ∧ (∀ (l : List AV), Data (.agg l) = DataL l) ∧ (∀ (l : List AV), Data (.tup l) = DataL l) ∧ (∀ (l : List (List AV)), Data (.sl l) = DataL l.flatten) ∧ (∀ (t : TypeId) (v : AV), Data (.ifc t v) = Data v) ∧
    (∀ (f : Fn) (a b : List AV), Data (.fn f a b) = (DataL a ∧ DataL b)) ∧ (DataL [] = True) ∧ (∀ (c : AV) (l : List AV), DataL (c :: l) = (Data c ∧ DataL l)) ∧ (∀ (t : TypeId) (l : List AV), (VB.cells t l).data = DataL l) ∧ (∀ (p : Prop), (True ∧ p) = p) := by
  refine ⟨?_, ?_, ?_, ?_, ?_, ?_, ?_, ?_, ?_, ?_, ?_, ?_, ?_, ?_, ?_, ?_, ?_, ?_⟩ <;> intros <;> first | rfl | (refine propext ⟨fun h => ?_, fun h => ?_⟩)
  all_goals first
    | trivial
    | (constructor; done)
    | (cases h; assumption)
    | (constructor; assumption)
    | (cases h; constructor <;> assumption)
    | (obtain ⟨h1, h2⟩ := h; constructor <;> assumption)
    | (exact h.2)
    | exact ⟨trivial, h⟩
theorem data_flat {α : Type} {f : α → List AV} {l : List α} (h : ∀ x ∈ l, DataL (f x)) : DataL (l.map f).flatten := by
  induction l with
  | nil => exact .nil
  | cons a l ih => simp only [List.map_cons, List.flatten_cons]; exact (h a (by simp)).append (ih fun x hx => h x (by simp [hx]))
end Go.Ab
