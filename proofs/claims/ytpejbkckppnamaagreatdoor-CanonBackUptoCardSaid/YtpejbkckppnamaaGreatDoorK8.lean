/- Part of this work: see the text that closes the claim. -/
import Derived.Test.YtpejbkckppnamaaGreatDoorT8
import Derived.Test.YtpejbkckppnamaaGreatDoorAbB
set_option linter.all false
set_option linter.unusedVariables false
set_option linter.unusedSimpArgs false
namespace Go.Ab.Sz.K
open Go Go.Ab Go.Proofs Go.RowKit
set_option maxRecDepth 40000
set_option linter.unusedSimpArgs false
/-- A list that is data: nil, or not. -/
def lsq (nn : Bool) (l : List (List AV)) : AV := if l = [] then (if nn then .sl [] else .nils) else .sl l
theorem lsq_false (l : List (List AV)) : lsq false l = lsv l := by unfold lsq lsv; split <;> rfl
theorem lsq_sl (l : List (List AV)) : lsq true l = .sl l := by
  unfold lsq; split
  · rename_i h; rw [h]; rfl
  · rfl
theorem lsq_cells (nn : Bool) (l : List (List AV)) : cellsA (lsq nn l) = [lsq nn l] := by unfold lsq; split <;> (try split) <;> rfl
theorem lsq_one (nn : Bool) (l : List (List AV)) : (lsq nn l).one = true := by unfold lsq; split <;> (try split) <;> rfl
theorem lsq_data (nn : Bool) {l : List (List AV)} (h : DataL l.flatten) : Data (lsq nn l) := by
  cases nn with
  | false => rw [lsq_false]; exact lsv_data h
  | true => rw [lsq_sl]; exact .sl l h
theorem rd_lsq {z : Nat} (nn : Bool) {l : List (List AV)} (h : ∀ e ∈ l, e.length = z) (σ : St) : Rd z σ (lsq nn l) l := by
  cases nn with
  | false => rw [lsq_false]; exact rd_lsv h σ
  | true => rw [lsq_sl]; exact ⟨h, .inr (.inr (.inl rfl))⟩
/-- A token that comes from without. -/
structure Tok where
  kind : Int
  name : List UInt8
  text : List UInt8
  attrs : List (List UInt8 × List UInt8)
  empty : Bool
  nn : Bool
def Tok.c (t : Tok) : List AV := [.int .i64 t.kind, .str t.name, .str t.text, lsq t.nn (t.attrs.map atc), .bool t.empty]
theorem tok_len (l : List Tok) : ∀ e ∈ l.map Tok.c, e.length = 5 := fun e he => by
  obtain ⟨a, _, rfl⟩ := List.mem_map.1 he; rfl
theorem tok_data (t : Tok) : DataL t.c := by
  simp only [Tok.c, dataR]
  exact ⟨lsq_data _ (atc_data _), trivial⟩
/-- A node. -/
structure Nd where
  parent : Int
  name : List UInt8
  text : List UInt8
  attrs : List (List UInt8 × List UInt8)
  nn : Bool
  deriving DecidableEq
def Nd.c (n : Nd) : List AV := [.int .i64 n.parent, .str n.name, .str n.text, lsq n.nn (n.attrs.map atc)]
def ixc (i : Nat) : List AV := [.int .i64 i]
def blc (b : Bool) : List AV := [.bool b]
/-- Nodes, which are open, and whether they have kids. -/
structure TB where
  l : List Nd
  op : List Nat
  kids : List Bool
def TB.top (b : TB) : Int := match b.op.getLast? with
  | none => -1
  | some i => i
structure TBs (b : Nat) (σ : St) (B : TB) (vl vo vk : AV) (ρl ρo ρk : Option Nat) : Prop where
  var : getV σ b = some (.cells 68 [vl, vo, vk])
  l : Own 40 4 σ vl (B.l.map Nd.c) ρl
  o : Own 3 1 σ vo (B.op.map ixc) ρo
  k : Own 4 1 σ vk (B.kids.map blc) ρk
  d1 : ∀ r, ρl = some r → ρo ≠ some r ∧ ρk ≠ some r
  d2 : ∀ r, ρo = some r → ρk ≠ some r
section
variable {m : Int} {σ : St} {K : AV → St → Prop}
theorem top_c (b : Nat) (B : TB) (vl vo vk : AV) (ρl ρo ρk : Option Nat) (hB : TBs b σ B vl vo vk ρl ρo ρk) (hl : B.op.length < 1000000) (h : K (.int .i64 B.top) σ) : ACalls Tryz.prog (gD m) 85 [.vp b 0] σ K := by
  have hv := hB.var
  have hlt := getV_lt hv
  have hlen := hB.o.len
  rw [List.length_map] at hlen
  refine ACalls_fn tok fm (fk85 _) ?_
  simp (disch := first | omega | (simp only [ln]; first | done | omega)) only [walkAll, walkL, walkK, wk, E, Nat.reduceEqDiff, Nat.reduceAdd, Nat.reduceSub, Nat.reduceLeDiff, Int.reduceLT, Int.reduceLE, Int.reduceAdd, Int.reduceSub, Int.reduceToNat, ↓reduceIte, c85, hv, hlen]
  cases ho : B.op.getLast? with
  | none =>
    have h0 : B.op = [] := by simpa using ho
    have q : ((B.op.length : Int) == 0) = true := by rw [h0]; rfl
    have ht : B.top = -1 := by unfold TB.top; rw [ho]
    rw [ht] at h
    simp (disch := first | omega | (simp only [ln]; first | done | omega)) only [walkAll, walkL, walkK, wk, E, Nat.reduceEqDiff, Nat.reduceAdd, Nat.reduceSub, Nat.reduceLeDiff, Int.reduceLT, Int.reduceLE, Int.reduceAdd, Int.reduceSub, Int.reduceToNat, ↓reduceIte, q]
    exact h
  | some i =>
    have hne : B.op ≠ [] := by intro e; rw [e] at ho; cases ho
    have hpos := List.length_pos_iff.2 hne
    have q : ((B.op.length : Int) == 0) = false := by rw [beq_eq_false_iff_ne]; omega
    have ht : B.top = i := by unfold TB.top; rw [ho]
    rw [ht] at h
    have w : IntKind.i64.wrap ((B.op.length : Int) - 1) = ((B.op.length - 1 : Nat) : Int) := by rw [wrap_i64 _ (by omega) (by omega)]; omega
    have hi : (B.op.map ixc)[B.op.length - 1]? = some (ixc i) := by
      rw [List.getElem?_map]
      rw [List.getLast?_eq_getElem?] at ho
      rw [ho]; rfl
    obtain ⟨r, hr, hix, hpt⟩ := own_at hB.o hi
    have hld := hpt.one
    simp (disch := first | omega | (simp only [ln]; first | done | omega)) only [walkAll, walkL, walkK, wk, E, Nat.reduceEqDiff, Nat.reduceAdd, Nat.reduceSub, Nat.reduceLeDiff, Int.reduceLT, Int.reduceLE, Int.reduceAdd, Int.reduceSub, Int.reduceToNat, ↓reduceIte, q, hv, hlen, w, hix, hld]
    exact h
theorem Clone_c (nn : Bool) (al : List (List UInt8 × List UInt8)) (hl : al.length ≤ 4398046511104) (h : K (lsq nn (al.map atc)) σ) : ACalls Tryz.prog (gD m) 86 [lsq nn (al.map atc)] σ K := by
  refine (ACalls.frame_frz gD_data (.cons _ _ (lsq_data nn (atc_data _)) .nil) (Q := fun r => r = lsq nn (al.map atc)) ?_ σ).mono (fun r σ' hr => by rw [hr.1, hr.2]; exact h)
  refine ACalls_fn tok fm (fk86 _) ?_
  have go : ∀ v : AV, v = .sl (al.map atc) → ∃ r0 : AV, True := fun v _ => ⟨v, trivial⟩
  have happ : appX 64 2 32 { vars := [], rows := [some { ety := 64, esz := 2, fz := 0, els := [] }] } (AV.os 0 0 0) (AV.sl (al.map atc)) =
      some (.os 1 0 al.length, { vars := [], rows := [none, some ⟨64, 2, 0, al.map atc⟩] }) := by
    have hall : (al.map atc).all (fun c => c.length == 2) = true := by rw [List.all_eq_true]; intro c hc; obtain ⟨a, _, rfl⟩ := List.mem_map.1 hc; rfl
    have hone : (al.map atc).all (fun c => c.all AV.one) = true := by rw [List.all_eq_true]; intro c hc; obtain ⟨a, _, rfl⟩ := List.mem_map.1 hc; rfl
    simp only [appX, elsA, hall, hone, Bool.and_self, if_true, List.getElem?_cons_zero]
    rw [if_pos ⟨by simp, by simp, trivial, trivial, by simp at hl ⊢; omega⟩]
    simp [St.setR, St.pushR]
  have fin : ∃ r0, Frz { vars := [], rows := [none, some ⟨64, 2, 0, al.map atc⟩] } (.os 1 0 al.length) r0 ∧ Data r0 ∧ r0 = .sl (al.map atc) := by
    refine ⟨.sl (al.map atc), .inr ⟨1, ⟨64, 2, 0, al.map atc⟩, rfl, ?_⟩, .sl _ (atc_data al), rfl⟩
    rw [frz_all (by simp)]
  have long : ∀ nn', (nn' = true ∨ al ≠ []) → lsq nn' (al.map atc) = .sl (al.map atc) := fun nn' h => by
    rcases h with rfl | h
    · exact lsq_sl _
    · unfold lsq; rw [if_neg (by simpa using h)]
  by_cases hc : nn = true ∨ al ≠ []
  · have e := long nn hc
    rw [e]
    simp (disch := first | omega | (simp only [ln]; first | done | omega)) only [walkAll, walkL, walkK, wk, E, Nat.reduceEqDiff, Nat.reduceAdd, Nat.reduceSub, Nat.reduceLeDiff, Int.reduceLT, Int.reduceLE, Int.reduceAdd, Int.reduceSub, Int.reduceToNat, ↓reduceIte, c86]
    rw [happ]
    simp (disch := first | omega | (simp only [ln]; first | done | omega)) only [walkAll, walkL, walkK, wk, E, Nat.reduceEqDiff, Nat.reduceAdd, Nat.reduceSub, Nat.reduceLeDiff, Int.reduceLT, Int.reduceLE, Int.reduceAdd, Int.reduceSub, Int.reduceToNat, ↓reduceIte]
    exact fin
  · have h1 : nn = false := by cases nn <;> simp_all
    have h2 : al = [] := by simpa using fun h => hc (.inr h)
    subst h1; subst h2
    rw [lsq_false, List.map_nil, lsv_nil]
    simp (disch := first | omega | (simp only [ln]; first | done | omega)) only [walkAll, walkL, walkK, wk, E, Nat.reduceEqDiff, Nat.reduceAdd, Nat.reduceSub, Nat.reduceLeDiff, Int.reduceLT, Int.reduceLE, Int.reduceAdd, Int.reduceSub, Int.reduceToNat, ↓reduceIte, c86]
    exact ⟨_, .inl rfl, .nils, rfl⟩
end
end Go.Ab.Sz.K
namespace Go.Ab.Sz.K
open Go Go.Ab Go.Proofs Go.RowKit
set_option maxRecDepth 40000
set_option linter.unusedSimpArgs false
def TB.raise (b : TB) : List Bool := match b.op.getLast? with
  | none => b.kids
  | some i => b.kids.set i true
def TB.begin (b : TB) (t : Tok) : TB × Int :=
  if t.name == [] then (b, 9) else if b.op == [] && !(b.l == []) then (b, 10) else if 32 ≤ b.op.length then (b, 11) else if 500 ≤ b.l.length then (b, 4)
  else (⟨b.l ++ [⟨b.top, t.name, [], t.attrs, t.nn⟩], if t.empty then b.op else b.op ++ [b.l.length], b.raise ++ [false]⟩, 0)
/-- What stands between: each open one is one of the nodes. -/
structure TB.Ok (b : TB) : Prop where
  op : ∀ i ∈ b.op, i < b.l.length
  kids : b.kids.length = b.l.length
  deep : b.op.length ≤ 32
  many : b.l.length ≤ 500
theorem TB.top_pos {b : TB} (h : b.op ≠ []) : ∃ i : Nat, b.top = i ∧ b.op.getLast? = some i ∧ i ∈ b.op := by
  cases ho : b.op.getLast? with
  | none => exact absurd (by simpa using ho) h
  | some i => exact ⟨i, by unfold TB.top; rw [ho], rfl, List.mem_of_getLast? ho⟩
section
variable {m : Int} {σ : St} {K : AV → St → Prop}
/-- Behind a call: the variables that were there are as they were, but for the builder's own. -/
structure Past (b : Nat) (σ σ' : St) : Prop where
  nv : nvs σ ≤ nvs σ'
  var : ∀ j, j < nvs σ → j ≠ b → getV σ' j = getV σ j
theorem TBs.pushV {b : Nat} {B : TB} {vl vo vk : AV} {ρl ρo ρk : Option Nat} (h : TBs b σ B vl vo vk ρl ρo ρk) (x : VB) : TBs b (σ.pushV x) B vl vo vk ρl ρo ρk := {
  var := by
    have hv := h.var
    have hlt := getV_lt hv
    simp (disch := first | omega | (simp only [ln]; first | done | omega)) only [walkAll, walkL, walkK, wk, E, Nat.reduceEqDiff, Nat.reduceAdd, Nat.reduceSub, Nat.reduceLeDiff, Int.reduceLT, Int.reduceLE, Int.reduceAdd, Int.reduceSub, Int.reduceToNat, ↓reduceIte]
    exact hv
  l := h.l
  o := h.o
  k := h.k
  d1 := h.d1
  d2 := h.d2 }
theorem own_ne {e1 z1 : Nat} {σ σ' : St} {v1 : AV} {l1 : List (List AV)} {ρ1 ρ2 ρ2' : Option Nat} (h1 : Own e1 z1 σ v1 l1 ρ1) (hb : RowsBut σ σ' ρ2 ρ2') (hd : ∀ r, ρ1 = some r → ρ2 ≠ some r) : (ρ1 = none ∨ ρ1 ≠ ρ2) ∧ ∀ r, ρ1 = some r → ρ2' ≠ some r := by
  refine ⟨?_, fun r hr h => ?_⟩
  · cases ρ1 with
    | none => exact .inl rfl
    | some r => exact .inr fun h => hd r rfl h.symm
  · subst hr
    have hlt := h1.lt
    rcases hb.new with h' | ⟨r', h', hle⟩
    · exact hd r rfl (by rw [← h', h])
    · rw [h] at h'; cases h'; omega
theorem sym_ne {a b : Option Nat} (h : ∀ r, a = some r → b ≠ some r) : ∀ r, b = some r → a ≠ some r := fun r h1 h2 => h r h2 h1
theorem TBs.setO {b : Nat} {B : TB} {vl vo vk vo' : AV} {ρl ρo ρk ρo' : Option Nat} {σ' : St} {op' : List Nat} (h : TBs b σ B vl vo vk ρl ρo ρk) (ho : Own 3 1 σ' vo' (op'.map ixc) ρo') (hb : RowsBut σ σ' ρo ρo') :
    TBs b (σ'.setV b (.cells 68 [vl, vo', vk])) ⟨B.l, op', B.kids⟩ vl vo' vk ρl ρo' ρk := by
  obtain ⟨a1, a2⟩ := own_ne h.l hb fun r hr => (h.d1 r hr).1
  obtain ⟨b1, b2⟩ := own_ne h.k hb (sym_ne h.d2)
  have hlt := getV_lt h.var
  have hn := hb.nvs
  exact ⟨by simp (disch := first | omega | (simp only [ln]; first | done | omega)) only [walkAll, walkL, walkK, wk, E, Nat.reduceEqDiff, Nat.reduceAdd, Nat.reduceSub, Nat.reduceLeDiff, Int.reduceLT, Int.reduceLE, Int.reduceAdd, Int.reduceSub, Int.reduceToNat, ↓reduceIte], (h.l.but hb a1).setV _ _, ho.setV _ _, (h.k.but hb b1).setV _ _, fun r hr => ⟨a2 r hr, (h.d1 r hr).2⟩, sym_ne b2⟩
theorem TBs.setN {b : Nat} {B : TB} {vl vo vk vl' : AV} {ρl ρo ρk ρl' : Option Nat} {σ' : St} {l' : List Nd} (h : TBs b σ B vl vo vk ρl ρo ρk) (hl : Own 40 4 σ' vl' (l'.map Nd.c) ρl') (hb : RowsBut σ σ' ρl ρl') :
    TBs b (σ'.setV b (.cells 68 [vl', vo, vk])) ⟨l', B.op, B.kids⟩ vl' vo vk ρl' ρo ρk := by
  obtain ⟨a1, a2⟩ := own_ne h.o hb (sym_ne fun r hr => (h.d1 r hr).1)
  obtain ⟨b1, b2⟩ := own_ne h.k hb (sym_ne fun r hr => (h.d1 r hr).2)
  have hlt := getV_lt h.var
  have hn := hb.nvs
  exact ⟨by simp (disch := first | omega | (simp only [ln]; first | done | omega)) only [walkAll, walkL, walkK, wk, E, Nat.reduceEqDiff, Nat.reduceAdd, Nat.reduceSub, Nat.reduceLeDiff, Int.reduceLT, Int.reduceLE, Int.reduceAdd, Int.reduceSub, Int.reduceToNat, ↓reduceIte], hl.setV _ _, (h.o.but hb a1).setV _ _, (h.k.but hb b1).setV _ _, fun r hr => ⟨sym_ne a2 r hr, sym_ne b2 r hr⟩, h.d2⟩
theorem TBs.setK {b : Nat} {B : TB} {vl vo vk vk' : AV} {ρl ρo ρk ρk' : Option Nat} {σ' : St} {k' : List Bool} (h : TBs b σ B vl vo vk ρl ρo ρk) (hk : Own 4 1 σ' vk' (k'.map blc) ρk') (hb : RowsBut σ σ' ρk ρk') :
    TBs b (σ'.setV b (.cells 68 [vl, vo, vk'])) ⟨B.l, B.op, k'⟩ vl vo vk' ρl ρo ρk' := by
  obtain ⟨a1, a2⟩ := own_ne h.l hb fun r hr => (h.d1 r hr).2
  obtain ⟨b1, b2⟩ := own_ne h.o hb h.d2
  have hlt := getV_lt h.var
  have hn := hb.nvs
  exact ⟨by simp (disch := first | omega | (simp only [ln]; first | done | omega)) only [walkAll, walkL, walkK, wk, E, Nat.reduceEqDiff, Nat.reduceAdd, Nat.reduceSub, Nat.reduceLeDiff, Int.reduceLT, Int.reduceLE, Int.reduceAdd, Int.reduceSub, Int.reduceToNat, ↓reduceIte], (h.l.but hb a1).setV _ _, (h.o.but hb b1).setV _ _, hk.setV _ _, fun r hr => ⟨(h.d1 r hr).1, a2 r hr⟩, b2⟩
theorem TBs.stK {b : Nat} {B : TB} {vl vo vk : AV} {ρl ρo ρk : Option Nat} {σ' : St} {k' : List Bool} (h : TBs b σ B vl vo vk ρl ρo ρk) (hk : Own 4 1 σ' vk (k'.map blc) ρk) (hb : RowsBut σ σ' ρk ρk) :
    TBs b σ' ⟨B.l, B.op, k'⟩ vl vo vk ρl ρo ρk := by
  obtain ⟨a1, a2⟩ := own_ne h.l hb fun r hr => (h.d1 r hr).2
  obtain ⟨b1, b2⟩ := own_ne h.o hb h.d2
  exact ⟨by rw [hb.getV]; exact h.var, h.l.but hb a1, h.o.but hb b1, hk, h.d1, h.d2⟩
theorem TBs.stN {b : Nat} {B : TB} {vl vo vk : AV} {ρl ρo ρk : Option Nat} {σ' : St} {l' : List Nd} (h : TBs b σ B vl vo vk ρl ρo ρk) (hl : Own 40 4 σ' vl (l'.map Nd.c) ρl) (hb : RowsBut σ σ' ρl ρl) :
    TBs b σ' ⟨l', B.op, B.kids⟩ vl vo vk ρl ρo ρk := by
  obtain ⟨a1, a2⟩ := own_ne h.o hb (sym_ne fun r hr => (h.d1 r hr).1)
  obtain ⟨b1, b2⟩ := own_ne h.k hb (sym_ne fun r hr => (h.d1 r hr).2)
  exact ⟨by rw [hb.getV]; exact h.var, hl, h.o.but hb a1, h.k.but hb b1, h.d1, h.d2⟩
theorem TBs.cellsL {b : Nat} {B : TB} {vl vo vk : AV} {ρl ρo ρk : Option Nat} (h : TBs b σ B vl vo vk ρl ρo ρk) : (cellsA vl = [vl] ∧ vl.one = true) ∧ (cellsA vo = [vo] ∧ vo.one = true) ∧ (cellsA vk = [vk] ∧ vk.one = true) := ⟨h.l.cells, h.o.cells, h.k.cells⟩
/-- The tail of begin: the node, and that it has no kids yet. -/
theorem TBs.lens {b : Nat} {B : TB} {vl vo vk : AV} {ρl ρo ρk : Option Nat} (h : TBs b σ B vl vo vk ρl ρo ρk) : lenlX vl = some (.int .i64 B.l.length) ∧ lenlX vo = some (.int .i64 B.op.length) ∧ lenlX vk = some (.int .i64 B.kids.length) := by
  have a := h.l.len; have c := h.o.len; have d := h.k.len
  rw [List.length_map] at a c d
  exact ⟨a, c, d⟩
theorem begin_c (b : Nat) (B : TB) (vl vo vk : AV) (ρl ρo ρk : Option Nat) (hB : TBs b σ B vl vo vk ρl ρo ρk) (hO : B.Ok) (t : Tok) (hat : t.attrs.length ≤ 4398046511104)
    (hK : ∀ σ' vl' vo' vk' ρl' ρo' ρk', TBs b σ' (B.begin t).1 vl' vo' vk' ρl' ρo' ρk' → Past b σ σ' → K (.int .i64 (B.begin t).2) σ') : ACalls Tryz.prog (gD m) 60 [.vp b 0, .agg t.c] σ K := by
  have hv := hB.var
  have hlt := getV_lt hv
  have hll := hB.l.len
  have hlo := hB.o.len
  rw [List.length_map] at hll hlo
  have h1 := hO.deep
  have h2 := hO.many
  have hkl := hO.kids
  have hB1 := hB.pushV (.cells 30 [.int .i64 t.kind, .str t.name, .str t.text, lsq t.nn (t.attrs.map atc), .bool t.empty])
  refine ACalls_fn tok fm (fk60 _) ?_
  simp (disch := first | omega | (simp only [ln]; first | done | omega)) only [walkAll, walkL, walkK, wk, E, Nat.reduceEqDiff, Nat.reduceAdd, Nat.reduceSub, Nat.reduceLeDiff, Int.reduceLT, Int.reduceLE, Int.reduceAdd, Int.reduceSub, Int.reduceToNat, ↓reduceIte, c60, hv, Tok.c]
  refine top_c b B vl vo vk ρl ρo ρk hB1 (by omega) ?_
  simp (disch := first | omega | (simp only [ln]; first | done | omega)) only [walkAll, walkL, walkK, wk, E, Nat.reduceEqDiff, Nat.reduceAdd, Nat.reduceSub, Nat.reduceLeDiff, Int.reduceLT, Int.reduceLE, Int.reduceAdd, Int.reduceSub, Int.reduceToNat, ↓reduceIte, hv]
  have past : ∀ σ' : St, nvs σ ≤ nvs σ' → (∀ j, j < nvs σ → j ≠ b → getV σ' j = getV σ j) → Past b σ σ' := fun _ a c => ⟨a, c⟩
  cases g1 : (t.name == []) with
  | true =>
    simp (disch := first | omega | (simp only [ln]; first | done | omega)) only [walkAll, walkL, walkK, wk, E, Nat.reduceEqDiff, Nat.reduceAdd, Nat.reduceSub, Nat.reduceLeDiff, Int.reduceLT, Int.reduceLE, Int.reduceAdd, Int.reduceSub, Int.reduceToNat, ↓reduceIte, g1]
    have e : B.begin t = (B, 9) := by unfold TB.begin; rw [g1]; rfl
    rw [e] at hK
    refine hK _ _ _ _ _ _ _ hB1 (past _ (by simp only [nvsR]; omega) (fun j hj hb => by simp (disch := first | omega | (simp only [ln]; first | done | omega)) only [walkAll, walkL, walkK, wk, E, Nat.reduceEqDiff, Nat.reduceAdd, Nat.reduceSub, Nat.reduceLeDiff, Int.reduceLT, Int.reduceLE, Int.reduceAdd, Int.reduceSub, Int.reduceToNat, ↓reduceIte]))
  | false =>
  simp (disch := first | omega | (simp only [ln]; first | done | omega)) only [walkAll, walkL, walkK, wk, E, Nat.reduceEqDiff, Nat.reduceAdd, Nat.reduceSub, Nat.reduceLeDiff, Int.reduceLT, Int.reduceLE, Int.reduceAdd, Int.reduceSub, Int.reduceToNat, ↓reduceIte, g1]
  by_cases ho : B.op = []
  · have ht : B.top = -1 := by unfold TB.top; rw [ho]; rfl
    have q1 : decide (B.top < 0) = true := by rw [ht]; rfl
    have q5 : decide (0 ≤ B.top) = false := by rw [ht]; rfl
    simp (disch := first | omega | (simp only [ln]; first | done | omega)) only [walkAll, walkL, walkK, wk, E, Nat.reduceEqDiff, Nat.reduceAdd, Nat.reduceSub, Nat.reduceLeDiff, Int.reduceLT, Int.reduceLE, Int.reduceAdd, Int.reduceSub, Int.reduceToNat, ↓reduceIte, q1, hv, hll]
    by_cases hl0 : B.l = []
    · have q2 : decide ((0 : Int) < (B.l.length : Int)) = false := by rw [hl0]; rfl
      have q3 : decide ((32 : Int) ≤ (B.op.length : Int)) = false := by rw [ho]; rfl
      have q4 : decide ((500 : Int) ≤ (B.l.length : Int)) = false := by rw [hl0]; rfl
      simp (disch := first | omega | (simp only [ln]; first | done | omega)) only [walkAll, walkL, walkK, wk, E, Nat.reduceEqDiff, Nat.reduceAdd, Nat.reduceSub, Nat.reduceLeDiff, Int.reduceLT, Int.reduceLE, Int.reduceAdd, Int.reduceSub, Int.reduceToNat, ↓reduceIte, q1, q2, hv, hll, hlo, q3, q4, q5]
      have hS0 : getV (σ.pushV (.cells 30 [.int .i64 t.kind, .str t.name, .str t.text, lsq t.nn (t.attrs.map atc), .bool t.empty])) (nvs σ) = some (.cells 30 [.int .i64 t.kind, .str t.name, .str t.text, lsq t.nn (t.attrs.map atc), .bool t.empty]) := by simp (disch := first | omega | (simp only [ln]; first | done | omega)) only [walkAll, walkL, walkK, wk, E, Nat.reduceEqDiff, Nat.reduceAdd, Nat.reduceSub, Nat.reduceLeDiff, Int.reduceLT, Int.reduceLE, Int.reduceAdd, Int.reduceSub, Int.reduceToNat, ↓reduceIte]
      cases g5 : t.empty with
      | false =>
        rw [g5] at hB1 hS0
        have e : B.begin t = (⟨B.l ++ [⟨B.top, t.name, [], t.attrs, t.nn⟩], B.op ++ [B.l.length], B.kids ++ [false]⟩, 0) := by
          unfold TB.begin; rw [g1]; simp [ho, hl0, g5, TB.raise]
        simp (disch := first | omega | (simp only [ln]; first | done | omega)) only [walkAll, walkL, walkK, wk, E, Nat.reduceEqDiff, Nat.reduceAdd, Nat.reduceSub, Nat.reduceLeDiff, Int.reduceLT, Int.reduceLE, Int.reduceAdd, Int.reduceSub, Int.reduceToNat, ↓reduceIte, g5, q1, q2, q3, q4, q5, hv, hll, hlo]
        refine own_app (e := 3) (z := 1) (b := 8) (c := [.int .i64 B.l.length]) hB1.o rfl rfl (by simp; omega) (fun vo1 σ1 ρo1 ho1 hb1 => ?_)
        have hT := hB1.setO (op' := B.op ++ [B.l.length]) (by rw [List.map_append]; exact ho1) hb1
        have hn1 := hb1.nvs
        obtain ⟨cl0, co0, ck0⟩ := hT.cellsL
        have hv1 : getV σ1 b = some (.cells 68 [vl, vo, vk]) := by rw [hb1.getV]; exact hB1.var
        have ht1 : getV σ1 (nvs σ) = some (.cells 30 [.int .i64 t.kind, .str t.name, .str t.text, lsq t.nn (t.attrs.map atc), .bool false]) := by rw [hb1.getV]; exact hS0
        have hvT := hT.var
        simp only [nvsR] at hn1
        have htT : getV (σ1.setV b (.cells 68 [vl, vo1, vk])) (nvs σ) = some (.cells 30 [.int .i64 t.kind, .str t.name, .str t.text, lsq t.nn (t.attrs.map atc), .bool false]) := by simp (disch := first | omega | (simp only [ln]; first | done | omega)) only [walkAll, walkL, walkK, wk, E, Nat.reduceEqDiff, Nat.reduceAdd, Nat.reduceSub, Nat.reduceLeDiff, Int.reduceLT, Int.reduceLE, Int.reduceAdd, Int.reduceSub, Int.reduceToNat, ↓reduceIte, ht1]
        simp (disch := first | omega | (simp only [ln]; first | done | omega)) only [walkAll, walkL, walkK, wk, E, Nat.reduceEqDiff, Nat.reduceAdd, Nat.reduceSub, Nat.reduceLeDiff, Int.reduceLT, Int.reduceLE, Int.reduceAdd, Int.reduceSub, Int.reduceToNat, ↓reduceIte, hv1, co0.1, co0.2, hvT, htT]
        refine Clone_c t.nn t.attrs hat ?_
        obtain ⟨cl1, co1, ck1⟩ := hT.cellsL
        simp (disch := first | omega | (simp only [ln]; first | done | omega)) only [walkAll, walkL, walkK, wk, E, Nat.reduceEqDiff, Nat.reduceAdd, Nat.reduceSub, Nat.reduceLeDiff, Int.reduceLT, Int.reduceLE, Int.reduceAdd, Int.reduceSub, Int.reduceToNat, ↓reduceIte, hvT, htT, lsv_cells, lsv_one, lsq_cells, lsq_one]
        refine own_app (e := 40) (z := 4) (b := 64) hT.l rfl (by simp only [List.all_cons, List.all_nil, walkO, lsv_one, lsq_one, Bool.and_self]) (by simp; omega) (fun vl2 σ2 ρl2 hl2 hb2 => ?_)
        have hN := hT.setN (l' := B.l ++ [⟨B.top, t.name, [], t.attrs, t.nn⟩]) (by rw [List.map_append]; exact hl2) hb2
        have hn2 := hb2.nvs
        try simp only [nvsR] at hn2
        have ht2 : getV σ2 (nvs σ) = some (.cells 30 [.int .i64 t.kind, .str t.name, .str t.text, lsq t.nn (t.attrs.map atc), .bool false]) := by rw [hb2.getV]; exact htT
        obtain ⟨cl2, co2, ck2⟩ := hN.cellsL
        have hv2 : getV σ2 b = some (.cells 68 [vl, vo1, vk]) := by rw [hb2.getV]; exact hvT
        simp (disch := first | omega | (simp only [ln]; first | done | omega)) only [walkAll, walkL, walkK, wk, E, Nat.reduceEqDiff, Nat.reduceAdd, Nat.reduceSub, Nat.reduceLeDiff, Int.reduceLT, Int.reduceLE, Int.reduceAdd, Int.reduceSub, Int.reduceToNat, ↓reduceIte, hv2, ht2, cl2.1, cl2.2]
        refine own_app (e := 4) (z := 1) (b := 1) (c := [.bool false]) hN.k rfl rfl (by simp; omega) (fun vk3 σ3 ρk3 hk3 hb3 => ?_)
        have hF := hN.setK (k' := B.kids ++ [false]) (by rw [List.map_append]; exact hk3) hb3
        have hn3 := hb3.nvs
        simp only [nvsR] at hn3
        obtain ⟨cl3, co3, ck3⟩ := hF.cellsL
        have hv3 : getV σ3 b = some (.cells 68 [vl2, vo1, vk]) := by rw [hb3.getV]; exact hN.var
        simp (disch := first | omega | (simp only [ln]; first | done | omega)) only [walkAll, walkL, walkK, wk, E, Nat.reduceEqDiff, Nat.reduceAdd, Nat.reduceSub, Nat.reduceLeDiff, Int.reduceLT, Int.reduceLE, Int.reduceAdd, Int.reduceSub, Int.reduceToNat, ↓reduceIte, hv3, ck3.1, ck3.2]
        rw [e] at hK
        refine hK _ _ _ _ _ _ _ hF (past _ (by simp only [nvsR]; omega) (fun j hj hb => ?_))
        simp (disch := first | omega | (simp only [ln]; first | done | omega)) only [walkAll, walkL, walkK, wk, E, Nat.reduceEqDiff, Nat.reduceAdd, Nat.reduceSub, Nat.reduceLeDiff, Int.reduceLT, Int.reduceLE, Int.reduceAdd, Int.reduceSub, Int.reduceToNat, ↓reduceIte, hb3.getV, hb2.getV, hb1.getV]
      | true =>
        rw [g5] at hB1 hS0
        have e : B.begin t = (⟨B.l ++ [⟨B.top, t.name, [], t.attrs, t.nn⟩], B.op, B.kids ++ [false]⟩, 0) := by
          unfold TB.begin; rw [g1]; simp [ho, hl0, g5, TB.raise]
        have hT := hB1
        have hvT := hB1.var
        have htT := hS0
        have hn1 : nvs (σ.pushV (.cells 30 [.int .i64 t.kind, .str t.name, .str t.text, lsq t.nn (t.attrs.map atc), .bool true])) = nvs σ + 1 := by simp only [nvsR]
        simp (disch := first | omega | (simp only [ln]; first | done | omega)) only [walkAll, walkL, walkK, wk, E, Nat.reduceEqDiff, Nat.reduceAdd, Nat.reduceSub, Nat.reduceLeDiff, Int.reduceLT, Int.reduceLE, Int.reduceAdd, Int.reduceSub, Int.reduceToNat, ↓reduceIte, g5, q1, q2, q3, q4, q5, hv, hll, hlo, hvT, htT]
        refine Clone_c t.nn t.attrs hat ?_
        obtain ⟨cl1, co1, ck1⟩ := hT.cellsL
        simp (disch := first | omega | (simp only [ln]; first | done | omega)) only [walkAll, walkL, walkK, wk, E, Nat.reduceEqDiff, Nat.reduceAdd, Nat.reduceSub, Nat.reduceLeDiff, Int.reduceLT, Int.reduceLE, Int.reduceAdd, Int.reduceSub, Int.reduceToNat, ↓reduceIte, hvT, htT, lsv_cells, lsv_one, lsq_cells, lsq_one]
        refine own_app (e := 40) (z := 4) (b := 64) hT.l rfl (by simp only [List.all_cons, List.all_nil, walkO, lsv_one, lsq_one, Bool.and_self]) (by simp; omega) (fun vl2 σ2 ρl2 hl2 hb2 => ?_)
        have hN := hT.setN (l' := B.l ++ [⟨B.top, t.name, [], t.attrs, t.nn⟩]) (by rw [List.map_append]; exact hl2) hb2
        have hn2 := hb2.nvs
        try simp only [nvsR] at hn2
        have ht2 : getV σ2 (nvs σ) = some (.cells 30 [.int .i64 t.kind, .str t.name, .str t.text, lsq t.nn (t.attrs.map atc), .bool true]) := by rw [hb2.getV]; exact htT
        obtain ⟨cl2, co2, ck2⟩ := hN.cellsL
        have hv2 : getV σ2 b = some (.cells 68 [vl, vo, vk]) := by rw [hb2.getV]; exact hvT
        simp (disch := first | omega | (simp only [ln]; first | done | omega)) only [walkAll, walkL, walkK, wk, E, Nat.reduceEqDiff, Nat.reduceAdd, Nat.reduceSub, Nat.reduceLeDiff, Int.reduceLT, Int.reduceLE, Int.reduceAdd, Int.reduceSub, Int.reduceToNat, ↓reduceIte, hv2, ht2, cl2.1, cl2.2]
        refine own_app (e := 4) (z := 1) (b := 1) (c := [.bool false]) hN.k rfl rfl (by simp; omega) (fun vk3 σ3 ρk3 hk3 hb3 => ?_)
        have hF := hN.setK (k' := B.kids ++ [false]) (by rw [List.map_append]; exact hk3) hb3
        have hn3 := hb3.nvs
        simp only [nvsR] at hn3
        obtain ⟨cl3, co3, ck3⟩ := hF.cellsL
        have hv3 : getV σ3 b = some (.cells 68 [vl2, vo, vk]) := by rw [hb3.getV]; exact hN.var
        simp (disch := first | omega | (simp only [ln]; first | done | omega)) only [walkAll, walkL, walkK, wk, E, Nat.reduceEqDiff, Nat.reduceAdd, Nat.reduceSub, Nat.reduceLeDiff, Int.reduceLT, Int.reduceLE, Int.reduceAdd, Int.reduceSub, Int.reduceToNat, ↓reduceIte, hv3, ck3.1, ck3.2]
        rw [e] at hK
        refine hK _ _ _ _ _ _ _ hF (past _ (by simp only [nvsR]; omega) (fun j hj hb => ?_))
        simp (disch := first | omega | (simp only [ln]; first | done | omega)) only [walkAll, walkL, walkK, wk, E, Nat.reduceEqDiff, Nat.reduceAdd, Nat.reduceSub, Nat.reduceLeDiff, Int.reduceLT, Int.reduceLE, Int.reduceAdd, Int.reduceSub, Int.reduceToNat, ↓reduceIte, hb3.getV, hb2.getV]
    · have q2 : decide ((0 : Int) < (B.l.length : Int)) = true := by have := List.length_pos_iff.2 hl0; simp; omega
      simp (disch := first | omega | (simp only [ln]; first | done | omega)) only [walkAll, walkL, walkK, wk, E, Nat.reduceEqDiff, Nat.reduceAdd, Nat.reduceSub, Nat.reduceLeDiff, Int.reduceLT, Int.reduceLE, Int.reduceAdd, Int.reduceSub, Int.reduceToNat, ↓reduceIte, q1, q2, hv, hll]
      have e : B.begin t = (B, 10) := by unfold TB.begin; rw [g1, ho]; simp [hl0]
      rw [e] at hK
      refine hK _ _ _ _ _ _ _ hB1 (past _ (by simp only [nvsR]; omega) (fun j hj hb => by simp (disch := first | omega | (simp only [ln]; first | done | omega)) only [walkAll, walkL, walkK, wk, E, Nat.reduceEqDiff, Nat.reduceAdd, Nat.reduceSub, Nat.reduceLeDiff, Int.reduceLT, Int.reduceLE, Int.reduceAdd, Int.reduceSub, Int.reduceToNat, ↓reduceIte]))
  · obtain ⟨i, ht, hgl, hmem⟩ := TB.top_pos ho
    have hi := hO.op i hmem
    have q1 : decide (B.top < 0) = false := by rw [ht]; simp
    have q5 : decide (0 ≤ B.top) = true := by rw [ht]; simp
    have hS0 : getV (σ.pushV (.cells 30 [.int .i64 t.kind, .str t.name, .str t.text, lsq t.nn (t.attrs.map atc), .bool t.empty])) (nvs σ) = some (.cells 30 [.int .i64 t.kind, .str t.name, .str t.text, lsq t.nn (t.attrs.map atc), .bool t.empty]) := by simp (disch := first | omega | (simp only [ln]; first | done | omega)) only [walkAll, walkL, walkK, wk, E, Nat.reduceEqDiff, Nat.reduceAdd, Nat.reduceSub, Nat.reduceLeDiff, Int.reduceLT, Int.reduceLE, Int.reduceAdd, Int.reduceSub, Int.reduceToNat, ↓reduceIte]
    by_cases g3 : 32 ≤ B.op.length
    · have q3 : decide ((32 : Int) ≤ (B.op.length : Int)) = true := decide_eq_true (by omega)
      simp (disch := first | omega | (simp only [ln]; first | done | omega)) only [walkAll, walkL, walkK, wk, E, Nat.reduceEqDiff, Nat.reduceAdd, Nat.reduceSub, Nat.reduceLeDiff, Int.reduceLT, Int.reduceLE, Int.reduceAdd, Int.reduceSub, Int.reduceToNat, ↓reduceIte, q1, hv, hlo, q3]
      have e : B.begin t = (B, 11) := by unfold TB.begin; rw [g1]; simp [ho, g3]
      rw [e] at hK
      exact hK _ _ _ _ _ _ _ hB1 (past _ (by simp only [nvsR]; omega) (fun j hj hb => by simp (disch := first | omega | (simp only [ln]; first | done | omega)) only [walkAll, walkL, walkK, wk, E, Nat.reduceEqDiff, Nat.reduceAdd, Nat.reduceSub, Nat.reduceLeDiff, Int.reduceLT, Int.reduceLE, Int.reduceAdd, Int.reduceSub, Int.reduceToNat, ↓reduceIte]))
    have q3 : decide ((32 : Int) ≤ (B.op.length : Int)) = false := decide_eq_false (by omega)
    by_cases g4 : 500 ≤ B.l.length
    · have q4 : decide ((500 : Int) ≤ (B.l.length : Int)) = true := decide_eq_true (by omega)
      simp (disch := first | omega | (simp only [ln]; first | done | omega)) only [walkAll, walkL, walkK, wk, E, Nat.reduceEqDiff, Nat.reduceAdd, Nat.reduceSub, Nat.reduceLeDiff, Int.reduceLT, Int.reduceLE, Int.reduceAdd, Int.reduceSub, Int.reduceToNat, ↓reduceIte, q1, hv, hll, hlo, q3, q4]
      have e : B.begin t = (B, 4) := by unfold TB.begin; rw [g1]; simp [ho, g3, g4]
      rw [e] at hK
      exact hK _ _ _ _ _ _ _ hB1 (past _ (by simp only [nvsR]; omega) (fun j hj hb => by simp (disch := first | omega | (simp only [ln]; first | done | omega)) only [walkAll, walkL, walkK, wk, E, Nat.reduceEqDiff, Nat.reduceAdd, Nat.reduceSub, Nat.reduceLeDiff, Int.reduceLT, Int.reduceLE, Int.reduceAdd, Int.reduceSub, Int.reduceToNat, ↓reduceIte]))
    have q4 : decide ((500 : Int) ≤ (B.l.length : Int)) = false := decide_eq_false (by omega)
    have hik : i < B.kids.length := by rw [hO.kids]; exact hi
    obtain ⟨r, hr, hix, hpt⟩ := own_at hB1.k (i := i) (c := blc B.kids[i]) (by rw [List.getElem?_map, List.getElem?_eq_getElem hik]; rfl)
    subst hr
    obtain ⟨σ0, hst, hk0, hb0⟩ := own_st hB1.k (i := i) (k := 0) (c := blc B.kids[i]) (x := .bool true) (by rw [List.getElem?_map, List.getElem?_eq_getElem hik]; rfl) (by decide) rfl rfl
    have hR := hB1.stK (k' := B.kids.set i true) (by rw [List.map_set]; exact hk0) hb0
    have hn0 : nvs σ0 = nvs σ + 1 := by rw [hb0.nvs]; simp only [nvsR]
    have hv0 := hR.var
    have hl0' := hll
    have ht0 : getV σ0 (nvs σ) = some (.cells 30 [.int .i64 t.kind, .str t.name, .str t.text, lsq t.nn (t.attrs.map atc), .bool t.empty]) := by rw [hb0.getV]; exact hS0
    rw [ht] at q1 q5
    have hst' : stAt (σ.pushV (.cells 30 [.int .i64 t.kind, .str t.name, .str t.text, lsq t.nn (t.attrs.map atc), .bool t.empty])) (.op r i 0) [.bool true] = some σ0 := hst
    simp (disch := first | omega | (simp only [ln]; first | done | omega)) only [walkAll, walkL, walkK, wk, E, Nat.reduceEqDiff, Nat.reduceAdd, Nat.reduceSub, Nat.reduceLeDiff, Int.reduceLT, Int.reduceLE, Int.reduceAdd, Int.reduceSub, Int.reduceToNat, ↓reduceIte, q1, hv, hll, hlo, q3, q4, q5, ht, hix, hst', hv0, ht0]
    cases g5 : t.empty with
    | false =>
      rw [g5] at ht0
      have e : B.begin t = (⟨B.l ++ [⟨(i : Int), t.name, [], t.attrs, t.nn⟩], B.op ++ [B.l.length], B.kids.set i true ++ [false]⟩, 0) := by
        unfold TB.begin; rw [g1]; simp [ho, g3, g4, g5, TB.raise, hgl, ht]
      simp (disch := first | omega | (simp only [ln]; first | done | omega)) only [walkAll, walkL, walkK, wk, E, Nat.reduceEqDiff, Nat.reduceAdd, Nat.reduceSub, Nat.reduceLeDiff, Int.reduceLT, Int.reduceLE, Int.reduceAdd, Int.reduceSub, Int.reduceToNat, ↓reduceIte, g5, q1, q3, q4, q5, hv0, hl0', ht0]
      refine own_app (e := 3) (z := 1) (b := 8) (c := [.int .i64 B.l.length]) hR.o rfl rfl (by simp; omega) (fun vo1 σ1 ρo1 ho1 hb1 => ?_)
      have hT := hR.setO (op' := B.op ++ [B.l.length]) (by rw [List.map_append]; exact ho1) hb1
      have hn1 := hb1.nvs
      obtain ⟨cl0, co0, ck0⟩ := hT.cellsL
      have hv1 : getV σ1 b = some (.cells 68 [vl, vo, vk]) := by rw [hb1.getV]; exact hR.var
      have ht1 : getV σ1 (nvs σ) = some (.cells 30 [.int .i64 t.kind, .str t.name, .str t.text, lsq t.nn (t.attrs.map atc), .bool false]) := by rw [hb1.getV]; exact ht0
      have hvT := hT.var
      rw [hn0] at hn1
      have htT : getV (σ1.setV b (.cells 68 [vl, vo1, vk])) (nvs σ) = some (.cells 30 [.int .i64 t.kind, .str t.name, .str t.text, lsq t.nn (t.attrs.map atc), .bool false]) := by simp (disch := first | omega | (simp only [ln]; first | done | omega)) only [walkAll, walkL, walkK, wk, E, Nat.reduceEqDiff, Nat.reduceAdd, Nat.reduceSub, Nat.reduceLeDiff, Int.reduceLT, Int.reduceLE, Int.reduceAdd, Int.reduceSub, Int.reduceToNat, ↓reduceIte, ht1]
      simp (disch := first | omega | (simp only [ln]; first | done | omega)) only [walkAll, walkL, walkK, wk, E, Nat.reduceEqDiff, Nat.reduceAdd, Nat.reduceSub, Nat.reduceLeDiff, Int.reduceLT, Int.reduceLE, Int.reduceAdd, Int.reduceSub, Int.reduceToNat, ↓reduceIte, hv1, co0.1, co0.2, hvT, htT]
      refine Clone_c t.nn t.attrs hat ?_
      obtain ⟨cl1, co1, ck1⟩ := hT.cellsL
      simp (disch := first | omega | (simp only [ln]; first | done | omega)) only [walkAll, walkL, walkK, wk, E, Nat.reduceEqDiff, Nat.reduceAdd, Nat.reduceSub, Nat.reduceLeDiff, Int.reduceLT, Int.reduceLE, Int.reduceAdd, Int.reduceSub, Int.reduceToNat, ↓reduceIte, hvT, htT, lsv_cells, lsv_one, lsq_cells, lsq_one]
      refine own_app (e := 40) (z := 4) (b := 64) hT.l rfl (by simp only [List.all_cons, List.all_nil, walkO, lsv_one, lsq_one, Bool.and_self]) (by simp; omega) (fun vl2 σ2 ρl2 hl2 hb2 => ?_)
      have hN := hT.setN (l' := B.l ++ [⟨(i : Int), t.name, [], t.attrs, t.nn⟩]) (by rw [List.map_append]; exact hl2) hb2
      have hn2 := hb2.nvs
      try simp only [nvsR] at hn2
      have ht2 : getV σ2 (nvs σ) = some (.cells 30 [.int .i64 t.kind, .str t.name, .str t.text, lsq t.nn (t.attrs.map atc), .bool false]) := by rw [hb2.getV]; exact htT
      obtain ⟨cl2, co2, ck2⟩ := hN.cellsL
      have hv2 : getV σ2 b = some (.cells 68 [vl, vo1, vk]) := by rw [hb2.getV]; exact hvT
      simp (disch := first | omega | (simp only [ln]; first | done | omega)) only [walkAll, walkL, walkK, wk, E, Nat.reduceEqDiff, Nat.reduceAdd, Nat.reduceSub, Nat.reduceLeDiff, Int.reduceLT, Int.reduceLE, Int.reduceAdd, Int.reduceSub, Int.reduceToNat, ↓reduceIte, hv2, ht2, cl2.1, cl2.2]
      refine own_app (e := 4) (z := 1) (b := 1) (c := [.bool false]) hN.k rfl rfl (by simp; omega) (fun vk3 σ3 ρk3 hk3 hb3 => ?_)
      have hF := hN.setK (k' := B.kids.set i true ++ [false]) (by rw [List.map_append]; exact hk3) hb3
      have hn3 := hb3.nvs
      simp only [nvsR] at hn3
      obtain ⟨cl3, co3, ck3⟩ := hF.cellsL
      have hv3 : getV σ3 b = some (.cells 68 [vl2, vo1, vk]) := by rw [hb3.getV]; exact hN.var
      simp (disch := first | omega | (simp only [ln]; first | done | omega)) only [walkAll, walkL, walkK, wk, E, Nat.reduceEqDiff, Nat.reduceAdd, Nat.reduceSub, Nat.reduceLeDiff, Int.reduceLT, Int.reduceLE, Int.reduceAdd, Int.reduceSub, Int.reduceToNat, ↓reduceIte, hv3, ck3.1, ck3.2]
      rw [e] at hK
      refine hK _ _ _ _ _ _ _ hF (past _ (by simp only [nvsR]; omega) (fun j hj hb => ?_))
      simp (disch := first | omega | (simp only [ln]; first | done | omega)) only [walkAll, walkL, walkK, wk, E, Nat.reduceEqDiff, Nat.reduceAdd, Nat.reduceSub, Nat.reduceLeDiff, Int.reduceLT, Int.reduceLE, Int.reduceAdd, Int.reduceSub, Int.reduceToNat, ↓reduceIte, hb3.getV, hb2.getV, hb1.getV, hb0.getV]
    | true =>
      rw [g5] at ht0
      have e : B.begin t = (⟨B.l ++ [⟨(i : Int), t.name, [], t.attrs, t.nn⟩], B.op, B.kids.set i true ++ [false]⟩, 0) := by
        unfold TB.begin; rw [g1]; simp [ho, g3, g4, g5, TB.raise, hgl, ht]
      have hT := hR
      have hvT := hR.var
      have htT := ht0
      have hn1 : nvs σ0 = nvs σ + 1 := hn0
      simp (disch := first | omega | (simp only [ln]; first | done | omega)) only [walkAll, walkL, walkK, wk, E, Nat.reduceEqDiff, Nat.reduceAdd, Nat.reduceSub, Nat.reduceLeDiff, Int.reduceLT, Int.reduceLE, Int.reduceAdd, Int.reduceSub, Int.reduceToNat, ↓reduceIte, g5, q1, q3, q4, q5, hv0, hl0', ht0, hvT, htT]
      refine Clone_c t.nn t.attrs hat ?_
      obtain ⟨cl1, co1, ck1⟩ := hT.cellsL
      simp (disch := first | omega | (simp only [ln]; first | done | omega)) only [walkAll, walkL, walkK, wk, E, Nat.reduceEqDiff, Nat.reduceAdd, Nat.reduceSub, Nat.reduceLeDiff, Int.reduceLT, Int.reduceLE, Int.reduceAdd, Int.reduceSub, Int.reduceToNat, ↓reduceIte, hvT, htT, lsv_cells, lsv_one, lsq_cells, lsq_one]
      refine own_app (e := 40) (z := 4) (b := 64) hT.l rfl (by simp only [List.all_cons, List.all_nil, walkO, lsv_one, lsq_one, Bool.and_self]) (by simp; omega) (fun vl2 σ2 ρl2 hl2 hb2 => ?_)
      have hN := hT.setN (l' := B.l ++ [⟨(i : Int), t.name, [], t.attrs, t.nn⟩]) (by rw [List.map_append]; exact hl2) hb2
      have hn2 := hb2.nvs
      try simp only [nvsR] at hn2
      have ht2 : getV σ2 (nvs σ) = some (.cells 30 [.int .i64 t.kind, .str t.name, .str t.text, lsq t.nn (t.attrs.map atc), .bool true]) := by rw [hb2.getV]; exact htT
      obtain ⟨cl2, co2, ck2⟩ := hN.cellsL
      have hv2 : getV σ2 b = some (.cells 68 [vl, vo, vk]) := by rw [hb2.getV]; exact hvT
      simp (disch := first | omega | (simp only [ln]; first | done | omega)) only [walkAll, walkL, walkK, wk, E, Nat.reduceEqDiff, Nat.reduceAdd, Nat.reduceSub, Nat.reduceLeDiff, Int.reduceLT, Int.reduceLE, Int.reduceAdd, Int.reduceSub, Int.reduceToNat, ↓reduceIte, hv2, ht2, cl2.1, cl2.2]
      refine own_app (e := 4) (z := 1) (b := 1) (c := [.bool false]) hN.k rfl rfl (by simp; omega) (fun vk3 σ3 ρk3 hk3 hb3 => ?_)
      have hF := hN.setK (k' := B.kids.set i true ++ [false]) (by rw [List.map_append]; exact hk3) hb3
      have hn3 := hb3.nvs
      simp only [nvsR] at hn3
      obtain ⟨cl3, co3, ck3⟩ := hF.cellsL
      have hv3 : getV σ3 b = some (.cells 68 [vl2, vo, vk]) := by rw [hb3.getV]; exact hN.var
      simp (disch := first | omega | (simp only [ln]; first | done | omega)) only [walkAll, walkL, walkK, wk, E, Nat.reduceEqDiff, Nat.reduceAdd, Nat.reduceSub, Nat.reduceLeDiff, Int.reduceLT, Int.reduceLE, Int.reduceAdd, Int.reduceSub, Int.reduceToNat, ↓reduceIte, hv3, ck3.1, ck3.2]
      rw [e] at hK
      refine hK _ _ _ _ _ _ _ hF (past _ (by simp only [nvsR]; omega) (fun j hj hb => ?_))
      simp (disch := first | omega | (simp only [ln]; first | done | omega)) only [walkAll, walkL, walkK, wk, E, Nat.reduceEqDiff, Nat.reduceAdd, Nat.reduceSub, Nat.reduceLeDiff, Int.reduceLT, Int.reduceLE, Int.reduceAdd, Int.reduceSub, Int.reduceToNat, ↓reduceIte, hb3.getV, hb2.getV, hb0.getV]
end
end Go.Ab.Sz.K
namespace Go.Ab.Sz.K
open Go Go.Ab Go.Proofs Go.RowKit
set_option maxRecDepth 40000
set_option linter.unusedSimpArgs false
theorem own_at2 {e z : Nat} {σ : St} {v : AV} {l : List (List AV)} {ρ : Option Nat} (h : Own e z σ v l ρ) {i : Nat} {c : List AV} (hi : l[i]? = some c) :
    ∃ r, ρ = some r ∧ ixsX z σ v (.int .i64 i) = some (.op r i 0) ∧ (∀ off, off ≤ c.length → faX off σ (.op r i 0) = some (.op r i off)) ∧ (∀ off x, c[off]? = some x → ldX none σ (.op r i off) = some x) := by
  obtain ⟨r, hr, hix, hp⟩ := own_at h hi
  have hf : ∀ off, off ≤ c.length → faX off σ (.op r i 0) = some (.op r i off) := fun off ho => by
    obtain ⟨p', h1, _⟩ := hp.fa off ho
    rw [h1]
    simp only [faX] at h1
    split at h1
    · rw [Nat.zero_add] at h1; rw [← h1]
    · cases h1
  refine ⟨r, hr, hix, hf, fun off x hx => ?_⟩
  obtain ⟨p', h1, h2⟩ := hp.fld off x hx
  rw [hf off (by have := (List.getElem?_eq_some_iff.1 hx).1; omega)] at h1
  cases h1
  exact h2
def TB.fin (b : TB) (t : Tok) : TB × Int := match b.op.getLast? with
  | none => (b, 10)
  | some i => match b.l[i]? with
    | some n => if n.name == t.name then (⟨b.l, b.op.take (b.op.length - 1), b.kids⟩, 0) else (b, 10)
    | none => (b, 10)
def TB.txt (b : TB) (t : Tok) : TB × Int := match b.op.getLast? with
  | none => if blankS t.text then (b, 0) else (b, 10)
  | some i => match b.l[i]? with
    | some n => (⟨b.l.set i { n with text := n.text ++ t.text }, b.op, b.kids⟩, 0)
    | none => (b, 0)
section
variable {m : Int} {σ : St} {K : AV → St → Prop}
theorem bend_c (b : Nat) (B : TB) (vl vo vk : AV) (ρl ρo ρk : Option Nat) (hB : TBs b σ B vl vo vk ρl ρo ρk) (hO : B.Ok) (t : Tok)
    (hK : ∀ σ' vl' vo' vk' ρl' ρo' ρk', TBs b σ' (B.fin t).1 vl' vo' vk' ρl' ρo' ρk' → Past b σ σ' → K (.int .i64 (B.fin t).2) σ') : ACalls Tryz.prog (gD m) 61 [.vp b 0, .agg t.c] σ K := by
  have hv := hB.var
  have hlt := getV_lt hv
  obtain ⟨hll, hlo, hlk⟩ := hB.lens
  have h1 := hO.deep
  have hB1 := hB.pushV (.cells 30 [.int .i64 t.kind, .str t.name, .str t.text, lsq t.nn (t.attrs.map atc), .bool t.empty])
  have past : ∀ σ' : St, nvs σ ≤ nvs σ' → (∀ j, j < nvs σ → j ≠ b → getV σ' j = getV σ j) → Past b σ σ' := fun _ a c => ⟨a, c⟩
  refine ACalls_fn tok fm (fk61 _) ?_
  simp (disch := first | omega | (simp only [ln]; first | done | omega)) only [walkAll, walkL, walkK, wk, E, Nat.reduceEqDiff, Nat.reduceAdd, Nat.reduceSub, Nat.reduceLeDiff, Int.reduceLT, Int.reduceLE, Int.reduceAdd, Int.reduceSub, Int.reduceToNat, ↓reduceIte, c61, hv, Tok.c]
  refine top_c b B vl vo vk ρl ρo ρk hB1 (by omega) ?_
  cases ho : B.op.getLast? with
  | none =>
    have ht : B.top = -1 := by unfold TB.top; rw [ho]
    have q1 : decide (B.top < 0) = true := by rw [ht]; rfl
    simp (disch := first | omega | (simp only [ln]; first | done | omega)) only [walkAll, walkL, walkK, wk, E, Nat.reduceEqDiff, Nat.reduceAdd, Nat.reduceSub, Nat.reduceLeDiff, Int.reduceLT, Int.reduceLE, Int.reduceAdd, Int.reduceSub, Int.reduceToNat, ↓reduceIte, hv, q1]
    have e : B.fin t = (B, 10) := by unfold TB.fin; rw [ho]
    rw [e] at hK
    exact hK _ _ _ _ _ _ _ hB1 (past _ (by simp only [nvsR]; omega) (fun j hj hb => by simp (disch := first | omega | (simp only [ln]; first | done | omega)) only [walkAll, walkL, walkK, wk, E, Nat.reduceEqDiff, Nat.reduceAdd, Nat.reduceSub, Nat.reduceLeDiff, Int.reduceLT, Int.reduceLE, Int.reduceAdd, Int.reduceSub, Int.reduceToNat, ↓reduceIte]))
  | some i =>
    have ht : B.top = i := by unfold TB.top; rw [ho]
    have hne : B.op ≠ [] := by intro e; rw [e] at ho; cases ho
    have hi : i < B.l.length := hO.op i (List.mem_of_getLast? ho)
    have q1 : decide (B.top < 0) = false := by rw [ht]; simp
    have hn : B.l[i]? = some B.l[i] := List.getElem?_eq_getElem hi
    obtain ⟨r, hr, hix, hfa, hld⟩ := own_at2 hB1.l (i := i) (c := B.l[i].c) (by rw [List.getElem?_map, hn]; rfl)
    have hf1 := hfa 1 (by simp [Nd.c])
    have hl1 := hld 1 _ rfl
    rw [ht] at q1
    have h0 : B.op.map ixc ≠ [] := by simpa using hne
    obtain ⟨vo', hcut, ho'⟩ := own_cut hB1.o (B.op.length - 1) (by simp) h0
    rw [← List.map_take] at ho'
    have hT := hB1.setO (op' := B.op.take (B.op.length - 1)) ho' ⟨rfl, Nat.le_refl _, fun _ _ _ => rfl, .inl rfl⟩
    have hsw : (σ.pushV (.cells 30 [.int .i64 t.kind, .str t.name, .str t.text, lsq t.nn (t.attrs.map atc), .bool t.empty])).setV b (.cells 68 [vl, vo', vk]) = (σ.setV b (.cells 68 [vl, vo', vk])).pushV (.cells 30 [.int .i64 t.kind, .str t.name, .str t.text, lsq t.nn (t.attrs.map atc), .bool t.empty]) := by simp (disch := first | omega | (simp only [ln]; first | done | omega)) only [walkAll, walkL, walkK, wk, E, Nat.reduceEqDiff, Nat.reduceAdd, Nat.reduceSub, Nat.reduceLeDiff, Int.reduceLT, Int.reduceLE, Int.reduceAdd, Int.reduceSub, Int.reduceToNat, ↓reduceIte]
    rw [hsw] at hT
    obtain ⟨cl1, co1, ck1⟩ := hT.cellsL
    have hpos := List.length_pos_iff.2 hne
    have w : IntKind.i64.wrap ((B.op.length : Int) - 1) = ((B.op.length - 1 : Nat) : Int) := by rw [wrap_i64 _ (by omega) (by omega)]; omega
    simp (disch := first | omega | (simp only [ln]; first | done | omega)) only [walkAll, walkL, walkK, wk, E, Nat.reduceEqDiff, Nat.reduceAdd, Nat.reduceSub, Nat.reduceLeDiff, Int.reduceLT, Int.reduceLE, Int.reduceAdd, Int.reduceSub, Int.reduceToNat, ↓reduceIte, hv, q1, ht, hix, hf1, hl1, bne]
    cases g : (B.l[i].name == t.name) with
    | false =>
      have e : B.fin t = (B, 10) := by unfold TB.fin; rw [ho]; simp only [hn, g]; rfl
      rw [e] at hK
      simp (disch := first | omega | (simp only [ln]; first | done | omega)) only [walkAll, walkL, walkK, wk, E, Nat.reduceEqDiff, Nat.reduceAdd, Nat.reduceSub, Nat.reduceLeDiff, Int.reduceLT, Int.reduceLE, Int.reduceAdd, Int.reduceSub, Int.reduceToNat, ↓reduceIte, g, Bool.not_false]
      exact hK _ _ _ _ _ _ _ hB1 (past _ (by simp only [nvsR]; omega) (fun j hj hb => by simp (disch := first | omega | (simp only [ln]; first | done | omega)) only [walkAll, walkL, walkK, wk, E, Nat.reduceEqDiff, Nat.reduceAdd, Nat.reduceSub, Nat.reduceLeDiff, Int.reduceLT, Int.reduceLE, Int.reduceAdd, Int.reduceSub, Int.reduceToNat, ↓reduceIte]))
    | true =>
      have e : B.fin t = (⟨B.l, B.op.take (B.op.length - 1), B.kids⟩, 0) := by unfold TB.fin; rw [ho]; simp only [hn, g]; rfl
      rw [e] at hK
      simp (disch := first | omega | (simp only [ln]; first | done | omega)) only [walkAll, walkL, walkK, wk, E, Nat.reduceEqDiff, Nat.reduceAdd, Nat.reduceSub, Nat.reduceLeDiff, Int.reduceLT, Int.reduceLE, Int.reduceAdd, Int.reduceSub, Int.reduceToNat, ↓reduceIte, g, Bool.not_true, hv, hlo, w, hcut, co1.1, co1.2]
      exact hK _ _ _ _ _ _ _ hT (past _ (by simp only [nvsR]; omega) (fun j hj hb => by simp (disch := first | omega | (simp only [ln]; first | done | omega)) only [walkAll, walkL, walkK, wk, E, Nat.reduceEqDiff, Nat.reduceAdd, Nat.reduceSub, Nat.reduceLeDiff, Int.reduceLT, Int.reduceLE, Int.reduceAdd, Int.reduceSub, Int.reduceToNat, ↓reduceIte]))
theorem btext_c (b : Nat) (B : TB) (vl vo vk : AV) (ρl ρo ρk : Option Nat) (hB : TBs b σ B vl vo vk ρl ρo ρk) (hO : B.Ok) (t : Tok) (ht1 : t.text.length ≤ 140737488355328) (htx : ∀ n ∈ B.l, n.text.length ≤ 100000000000000000)
    (hK : ∀ σ' vl' vo' vk' ρl' ρo' ρk', TBs b σ' (B.txt t).1 vl' vo' vk' ρl' ρo' ρk' → Past b σ σ' → K (.int .i64 (B.txt t).2) σ') : ACalls Tryz.prog (gD m) 62 [.vp b 0, .agg t.c] σ K := by
  have hv := hB.var
  have hlt := getV_lt hv
  obtain ⟨hll, hlo, hlk⟩ := hB.lens
  have h1 := hO.deep
  have hB1 := hB.pushV (.cells 30 [.int .i64 t.kind, .str t.name, .str t.text, lsq t.nn (t.attrs.map atc), .bool t.empty])
  have past : ∀ σ' : St, nvs σ ≤ nvs σ' → (∀ j, j < nvs σ → j ≠ b → getV σ' j = getV σ j) → Past b σ σ' := fun _ a c => ⟨a, c⟩
  refine ACalls_fn tok fm (fk62 _) ?_
  simp (disch := first | omega | (simp only [ln]; first | done | omega)) only [walkAll, walkL, walkK, wk, E, Nat.reduceEqDiff, Nat.reduceAdd, Nat.reduceSub, Nat.reduceLeDiff, Int.reduceLT, Int.reduceLE, Int.reduceAdd, Int.reduceSub, Int.reduceToNat, ↓reduceIte, c62, hv, Tok.c]
  refine top_c b B vl vo vk ρl ρo ρk hB1 (by omega) ?_
  cases ho : B.op.getLast? with
  | none =>
    have ht : B.top = -1 := by unfold TB.top; rw [ho]
    have q1 : decide (0 ≤ B.top) = false := by rw [ht]; rfl
    simp (disch := first | omega | (simp only [ln]; first | done | omega)) only [walkAll, walkL, walkK, wk, E, Nat.reduceEqDiff, Nat.reduceAdd, Nat.reduceSub, Nat.reduceLeDiff, Int.reduceLT, Int.reduceLE, Int.reduceAdd, Int.reduceSub, Int.reduceToNat, ↓reduceIte, hv, q1]
    refine tblank_c t.text (by omega) ?_
    cases g : blankS t.text with
    | true =>
      have e : B.txt t = (B, 0) := by unfold TB.txt; rw [ho]; simp only [g]; rfl
      rw [e] at hK
      simp (disch := first | omega | (simp only [ln]; first | done | omega)) only [walkAll, walkL, walkK, wk, E, Nat.reduceEqDiff, Nat.reduceAdd, Nat.reduceSub, Nat.reduceLeDiff, Int.reduceLT, Int.reduceLE, Int.reduceAdd, Int.reduceSub, Int.reduceToNat, ↓reduceIte, g]
      exact hK _ _ _ _ _ _ _ hB1 (past _ (by simp only [nvsR]; omega) (fun j hj hb => by simp (disch := first | omega | (simp only [ln]; first | done | omega)) only [walkAll, walkL, walkK, wk, E, Nat.reduceEqDiff, Nat.reduceAdd, Nat.reduceSub, Nat.reduceLeDiff, Int.reduceLT, Int.reduceLE, Int.reduceAdd, Int.reduceSub, Int.reduceToNat, ↓reduceIte]))
    | false =>
      have e : B.txt t = (B, 10) := by unfold TB.txt; rw [ho]; simp only [g]; rfl
      rw [e] at hK
      simp (disch := first | omega | (simp only [ln]; first | done | omega)) only [walkAll, walkL, walkK, wk, E, Nat.reduceEqDiff, Nat.reduceAdd, Nat.reduceSub, Nat.reduceLeDiff, Int.reduceLT, Int.reduceLE, Int.reduceAdd, Int.reduceSub, Int.reduceToNat, ↓reduceIte, g]
      exact hK _ _ _ _ _ _ _ hB1 (past _ (by simp only [nvsR]; omega) (fun j hj hb => by simp (disch := first | omega | (simp only [ln]; first | done | omega)) only [walkAll, walkL, walkK, wk, E, Nat.reduceEqDiff, Nat.reduceAdd, Nat.reduceSub, Nat.reduceLeDiff, Int.reduceLT, Int.reduceLE, Int.reduceAdd, Int.reduceSub, Int.reduceToNat, ↓reduceIte]))
  | some i =>
    have ht : B.top = i := by unfold TB.top; rw [ho]
    have hi : i < B.l.length := hO.op i (List.mem_of_getLast? ho)
    have q1 : decide (0 ≤ (i : Int)) = true := by simp
    have hn : B.l[i]? = some B.l[i] := List.getElem?_eq_getElem hi
    have hn2 : (B.l.map Nd.c)[i]? = some B.l[i].c := by rw [List.getElem?_map, hn]; rfl
    obtain ⟨r, hr, hix, hfa, hld⟩ := own_at2 hB1.l (i := i) (c := B.l[i].c) hn2
    have hf2 := hfa 2 (by simp [Nd.c])
    have hl2 := hld 2 _ rfl
    subst hr
    obtain ⟨σ0, hst, hl0, hb0⟩ := own_st hB1.l (i := i) (k := 2) (c := B.l[i].c) (x := .str (B.l[i].text ++ t.text)) hn2 (by decide) rfl rfl
    have hN := hB1.stN (l' := B.l.set i { B.l[i] with text := B.l[i].text ++ t.text }) (by rw [List.map_set]; exact hl0) hb0
    have hst' : stAt (σ.pushV (.cells 30 [.int .i64 t.kind, .str t.name, .str t.text, lsq t.nn (t.attrs.map atc), .bool t.empty])) (.op r i 2) [.str (B.l[i].text ++ t.text)] = some σ0 := hst
    have hx := htx B.l[i] (List.getElem_mem hi)
    have e : B.txt t = (⟨B.l.set i { B.l[i] with text := B.l[i].text ++ t.text }, B.op, B.kids⟩, 0) := by unfold TB.txt; rw [ho]; simp only [hn]
    rw [e] at hK
    have hn0 : nvs σ0 = nvs σ + 1 := by rw [hb0.nvs]; simp only [nvsR]
    simp (disch := first | omega | (simp only [ln]; first | done | omega)) only [walkAll, walkL, walkK, wk, E, Nat.reduceEqDiff, Nat.reduceAdd, Nat.reduceSub, Nat.reduceLeDiff, Int.reduceLT, Int.reduceLE, Int.reduceAdd, Int.reduceSub, Int.reduceToNat, ↓reduceIte, hv, q1, ht, hix, hf2, hl2, hst']
    exact hK _ _ _ _ _ _ _ hN (past _ (by omega) (fun j hj hb => by rw [hb0.getV]; simp (disch := first | omega | (simp only [ln]; first | done | omega)) only [walkAll, walkL, walkK, wk, E, Nat.reduceEqDiff, Nat.reduceAdd, Nat.reduceSub, Nat.reduceLeDiff, Int.reduceLT, Int.reduceLE, Int.reduceAdd, Int.reduceSub, Int.reduceToNat, ↓reduceIte]))
end
end Go.Ab.Sz.K
namespace Go.Ab.Sz.K
open Go Go.Ab Go.Proofs Go.RowKit
set_option maxRecDepth 40000
set_option linter.unusedSimpArgs false
def TB.step (b : TB) (t : Tok) : TB × Int := if t.kind == 1 then b.begin t else if t.kind == 2 then b.fin t else if t.kind == 3 then b.txt t else (b, 9)
def doneL : List Nd → List Bool → Option (List Nd)
  | [], _ => some []
  | n :: l, ks => match ks with
    | true :: ks => if blankS n.text then (doneL l ks).map ({ n with text := [] } :: ·) else none
    | _ :: ks => (doneL l ks).map (n :: ·)
    | [] => none
section
variable {m : Int} {σ : St} {K : AV → St → Prop}
theorem Past.refl (b : Nat) (σ : St) : Past b σ σ := ⟨Nat.le_refl _, fun _ _ _ => rfl⟩
theorem Past.trans {b : Nat} {σ σ1 σ2 : St} (h : Past b σ σ1) (k : Past b σ1 σ2) : Past b σ σ2 := ⟨Nat.le_trans h.nv k.nv, fun j hj hb => by rw [k.var j (Nat.lt_of_lt_of_le hj h.nv) hb, h.var j hj hb]⟩
theorem taker_c (b : Nat) (n : Int) (hK : ∀ r, (n == 1 → r = .fn (.func 60) [.vp b 0] []) → (n == 2 → r = .fn (.func 61) [.vp b 0] []) → (n == 3 → r = .fn (.func 62) [.vp b 0] []) → ((n == 1) = false → (n == 2) = false → (n == 3) = false → r = .niln) → K r σ) : ACalls Tryz.prog (gD m) 36 [.vp b 0, .int .i64 n] σ K := by
  refine ACalls_fn tok fm (fk36 _) ?_
  simp (disch := first | omega | (simp only [ln]; first | done | omega)) only [walkAll, walkL, walkK, wk, E, Nat.reduceEqDiff, Nat.reduceAdd, Nat.reduceSub, Nat.reduceLeDiff, Int.reduceLT, Int.reduceLE, Int.reduceAdd, Int.reduceSub, Int.reduceToNat, ↓reduceIte, c36]
  cases g1 : (n == 1) with
  | true =>
    have h : n = 1 := by simpa using g1
    subst h
    simp (disch := first | omega | (simp only [ln]; first | done | omega)) only [walkAll, walkL, walkK, wk, E, Nat.reduceEqDiff, Nat.reduceAdd, Nat.reduceSub, Nat.reduceLeDiff, Int.reduceLT, Int.reduceLE, Int.reduceAdd, Int.reduceSub, Int.reduceToNat, ↓reduceIte, g1]
    refine hK _ (fun _ => rfl) (fun h => by cases h) (fun h => by cases h) (fun h => by cases h)
  | false =>
    cases g2 : (n == 2) with
    | true =>
      have h : n = 2 := by simpa using g2
      subst h
      simp (disch := first | omega | (simp only [ln]; first | done | omega)) only [walkAll, walkL, walkK, wk, E, Nat.reduceEqDiff, Nat.reduceAdd, Nat.reduceSub, Nat.reduceLeDiff, Int.reduceLT, Int.reduceLE, Int.reduceAdd, Int.reduceSub, Int.reduceToNat, ↓reduceIte, g1, g2]
      refine hK _ (fun h => by cases h) (fun _ => rfl) (fun h => by cases h) (fun _ h => by cases h)
    | false =>
      cases g3 : (n == 3) with
      | true =>
        have h : n = 3 := by simpa using g3
        subst h
        simp (disch := first | omega | (simp only [ln]; first | done | omega)) only [walkAll, walkL, walkK, wk, E, Nat.reduceEqDiff, Nat.reduceAdd, Nat.reduceSub, Nat.reduceLeDiff, Int.reduceLT, Int.reduceLE, Int.reduceAdd, Int.reduceSub, Int.reduceToNat, ↓reduceIte, g1, g2, g3]
        refine hK _ (fun h => by cases h) (fun h => by cases h) (fun _ => rfl) (fun _ _ h => by cases h)
      | false =>
        simp (disch := first | omega | (simp only [ln]; first | done | omega)) only [walkAll, walkL, walkK, wk, E, Nat.reduceEqDiff, Nat.reduceAdd, Nat.reduceSub, Nat.reduceLeDiff, Int.reduceLT, Int.reduceLE, Int.reduceAdd, Int.reduceSub, Int.reduceToNat, ↓reduceIte, g1, g2, g3]
        refine hK _ (fun h => by rw [g1] at h; cases h) (fun h => by rw [g2] at h; cases h) (fun h => by rw [g3] at h; cases h) (fun _ _ _ => rfl)
theorem done_loop (b : Nat) (op : List Nat) (kids : List Bool) {Q : EQ} (N : Nat) (hN : N ≤ 500) (hkn : kids.length = N) : ∀ (rest pre : List Nd) (vl vo vk : AV) (ρl ρo ρk : Option Nat) (τ : St) (e : Env), pre.length + rest.length = N → (∀ n ∈ rest, n.text.length ≤ 100000000000000000) → TBs b τ ⟨pre ++ rest, op, kids⟩ vl vo vk ρl ρo ρk → Past b σ τ →
    e 0 = some (.vp b 0) → e 22 = some (.int .i64 N) → e 23 = some (.int .i64 pre.length) →
    (∀ out e' τ' vl' vo' vk' ρl' ρo' ρk', doneL rest (kids.drop pre.length) = some out → TBs b τ' ⟨pre ++ out, op, kids⟩ vl' vo' vk' ρl' ρo' ρk' → Past b σ τ' → Q (.exit 0) e' τ') →
    (∀ e' τ' B' vl' vo' vk' ρl' ρo' ρk', doneL rest (kids.drop pre.length) = none → TBs b τ' B' vl' vo' vk' ρl' ρo' ρk' → Past b σ τ' → e' 2 = some (.int .i64 12) → Q .ret e' τ') → LoopC Tryz.prog tt (gD m) l37_0 Q e τ := by
  intro rest
  induction rest with
  | nil =>
    intro pre vl vo vk ρl ρo ρk τ e hlen htx hB hP h0 h22 h23 hx hr
    have q : decide ((pre.length : Int) < (N : Int)) = false := by simp at hlen; simp; omega
    refine LoopC_unfold tok fm ?_
    simp (disch := first | omega | (simp only [ln]; first | done | omega)) only [walkAll, walkL, walkK, wk, E, Nat.reduceEqDiff, Nat.reduceAdd, Nat.reduceSub, Nat.reduceLeDiff, Int.reduceLT, Int.reduceLE, Int.reduceAdd, Int.reduceSub, Int.reduceToNat, ↓reduceIte, l37_0x, l37_0b, h22, h23, q]
    exact hx [] _ τ vl vo vk ρl ρo ρk rfl hB hP
  | cons n rest ih =>
    intro pre vl vo vk ρl ρo ρk τ e hlen htx hB hP h0 h22 h23 hx hr
    have q : decide ((pre.length : Int) < (N : Int)) = true := by simp at hlen; simp; omega
    have hv := hB.var
    have hlt := getV_lt hv
    have hpk : pre.length < kids.length := by simp at hlen; omega
    have hkd : kids.drop pre.length = kids[pre.length] :: kids.drop (pre.length + 1) := List.drop_eq_getElem_cons hpk
    have hki : (kids.map blc)[pre.length]? = some (blc kids[pre.length]) := by rw [List.getElem?_map, List.getElem?_eq_getElem hpk]; rfl
    have hni : ((pre ++ n :: rest).map Nd.c)[pre.length]? = some n.c := by simp
    obtain ⟨rk, hrk, hixk, _, hldk⟩ := own_at2 hB.k hki
    have hlk := hldk 0 _ rfl
    obtain ⟨rl, hrl, hixl, hfl, hldl⟩ := own_at2 hB.l hni
    have hf2 := hfl 2 (by simp [Nd.c])
    have hl2 := hldl 2 _ rfl
    refine LoopC_unfold tok fm ?_
    simp (disch := first | omega | (simp only [ln]; first | done | omega)) only [walkAll, walkL, walkK, wk, E, Nat.reduceEqDiff, Nat.reduceAdd, Nat.reduceSub, Nat.reduceLeDiff, Int.reduceLT, Int.reduceLE, Int.reduceAdd, Int.reduceSub, Int.reduceToNat, ↓reduceIte, l37_0x, l37_0b, h0, h22, h23, q, hv, hixk, hlk]
    rw [hkd] at hx hr
    generalize kids[pre.length] = kb at *
    cases kb with
    | false =>
      simp (disch := first | omega | (simp only [ln]; first | done | omega)) only [walkAll, walkL, walkK, wk, E, Nat.reduceEqDiff, Nat.reduceAdd, Nat.reduceSub, Nat.reduceLeDiff, Int.reduceLT, Int.reduceLE, Int.reduceAdd, Int.reduceSub, Int.reduceToNat, ↓reduceIte, h0, h22, h23]
      have e1 : doneL (n :: rest) (false :: kids.drop (pre.length + 1)) = (doneL rest (kids.drop (pre.length + 1))).map (n :: ·) := rfl
      rw [e1] at hx hr
      refine ih (pre ++ [n]) vl vo vk ρl ρo ρk τ _ (by simp at *; omega) (fun x hx => htx x (by simp [hx])) (by simpa using hB) hP (by simp [put, h0]) (by simp [put, h22]) (by simp [put]) (fun out e' τ' vl' vo' vk' ρl' ρo' ρk' ho hB' hP' => ?_) (fun e' τ' B' vl' vo' vk' ρl' ρo' ρk' ho hB' hP' h2 => ?_)
      · exact hx (n :: out) e' τ' vl' vo' vk' ρl' ρo' ρk' (by rw [List.length_append, List.length_singleton] at ho; rw [ho]; rfl) (by simpa using hB') hP'
      · exact hr e' τ' B' vl' vo' vk' ρl' ρo' ρk' (by rw [List.length_append, List.length_singleton] at ho; rw [ho]; rfl) hB' hP' h2
    | true =>
      simp (disch := first | omega | (simp only [ln]; first | done | omega)) only [walkAll, walkL, walkK, wk, E, Nat.reduceEqDiff, Nat.reduceAdd, Nat.reduceSub, Nat.reduceLeDiff, Int.reduceLT, Int.reduceLE, Int.reduceAdd, Int.reduceSub, Int.reduceToNat, ↓reduceIte, h0, h22, h23, hv, hixl, hf2, hl2]
      have htn := htx n (by simp)
      refine tblank_c n.text (by omega) ?_
      cases g : blankS n.text with
      | false =>
        simp (disch := first | omega | (simp only [ln]; first | done | omega)) only [walkAll, walkL, walkK, wk, E, Nat.reduceEqDiff, Nat.reduceAdd, Nat.reduceSub, Nat.reduceLeDiff, Int.reduceLT, Int.reduceLE, Int.reduceAdd, Int.reduceSub, Int.reduceToNat, ↓reduceIte, h0, h22, h23, g]
        have e1 : doneL (n :: rest) (true :: kids.drop (pre.length + 1)) = none := by simp only [doneL, g]; rfl
        exact hr _ τ _ vl vo vk ρl ρo ρk e1 hB hP (by simp [put])
      | true =>
        subst hrl
        obtain ⟨σ0, hst, hl0, hb0⟩ := own_st hB.l (i := pre.length) (k := 2) (c := n.c) (x := .str []) hni (by decide) rfl rfl
        have hst' : stAt τ (.op rl pre.length 2) [.str []] = some σ0 := hst
        have hN' := hB.stN (l' := pre ++ { n with text := [] } :: rest) (by
          have : (pre ++ { n with text := [] } :: rest).map Nd.c = ((pre ++ n :: rest).map Nd.c).set pre.length (n.c.set 2 (.str [])) := by
            simp [Nd.c]
          rw [this]; exact hl0) hb0
        have hP0 : Past b σ σ0 := hP.trans ⟨by rw [hb0.nvs]; exact Nat.le_refl _, fun j _ _ => hb0.getV j⟩
        simp (disch := first | omega | (simp only [ln]; first | done | omega)) only [walkAll, walkL, walkK, wk, E, Nat.reduceEqDiff, Nat.reduceAdd, Nat.reduceSub, Nat.reduceLeDiff, Int.reduceLT, Int.reduceLE, Int.reduceAdd, Int.reduceSub, Int.reduceToNat, ↓reduceIte, h0, h22, h23, g, hv, hixl, hf2, hst']
        have e1 : doneL (n :: rest) (true :: kids.drop (pre.length + 1)) = (doneL rest (kids.drop (pre.length + 1))).map ({ n with text := [] } :: ·) := by simp only [doneL, g]; rfl
        rw [e1] at hx hr
        refine ih (pre ++ [{ n with text := [] }]) vl vo vk (some rl) ρo ρk σ0 _ (by simp at *; omega) (fun x hx => htx x (by simp [hx])) (by simpa using hN') hP0 (by simp [put, h0]) (by simp [put, h22]) (by simp [put]) (fun out e' τ' vl' vo' vk' ρl' ρo' ρk' ho hB' hP' => ?_) (fun e' τ' B' vl' vo' vk' ρl' ρo' ρk' ho hB' hP' h2 => ?_)
        · exact hx ({ n with text := [] } :: out) e' τ' vl' vo' vk' ρl' ρo' ρk' (by rw [List.length_append, List.length_singleton] at ho; rw [ho]; rfl) (by simpa using hB') hP'
        · exact hr e' τ' B' vl' vo' vk' ρl' ρo' ρk' (by rw [List.length_append, List.length_singleton] at ho; rw [ho]; rfl) hB' hP' h2
end
end Go.Ab.Sz.K
namespace Go.Ab.Sz.K
open Go Go.Ab Go.Proofs Go.RowKit
set_option maxRecDepth 40000
set_option linter.unusedSimpArgs false
section
variable {m : Int} {σ : St} {K : AV → St → Prop}
theorem done_c (b : Nat) (B : TB) (vl vo vk : AV) (ρl ρo ρk : Option Nat) (hB : TBs b σ B vl vo vk ρl ρo ρk) (hO : B.Ok) (htx : ∀ n ∈ B.l, n.text.length ≤ 100000000000000000)
    (h10 : (B.l = [] ∨ B.op ≠ []) → K (.int .i64 10) σ)
    (hx : ∀ out σ' vl' vo' vk' ρl' ρo' ρk', B.l ≠ [] → B.op = [] → doneL B.l B.kids = some out → TBs b σ' ⟨out, B.op, B.kids⟩ vl' vo' vk' ρl' ρo' ρk' → Past b σ σ' → K (.int .i64 0) σ')
    (hr : ∀ σ' B' vl' vo' vk' ρl' ρo' ρk', B.l ≠ [] → B.op = [] → doneL B.l B.kids = none → TBs b σ' B' vl' vo' vk' ρl' ρo' ρk' → Past b σ σ' → K (.int .i64 12) σ') : ACalls Tryz.prog (gD m) 37 [.vp b 0] σ K := by
  have hv := hB.var
  have hlt := getV_lt hv
  obtain ⟨hll, hlo, hlk⟩ := hB.lens
  refine ACalls_fn tok fm (fk37 _) ?_
  simp (disch := first | omega | (simp only [ln]; first | done | omega)) only [walkAll, walkL, walkK, wk, E, Nat.reduceEqDiff, Nat.reduceAdd, Nat.reduceSub, Nat.reduceLeDiff, Int.reduceLT, Int.reduceLE, Int.reduceAdd, Int.reduceSub, Int.reduceToNat, ↓reduceIte, c37, hv, hll, hlo]
  by_cases hl : B.l = []
  · have q : ((B.l.length : Int) == 0) = true := by rw [hl]; rfl
    simp (disch := first | omega | (simp only [ln]; first | done | omega)) only [walkAll, walkL, walkK, wk, E, Nat.reduceEqDiff, Nat.reduceAdd, Nat.reduceSub, Nat.reduceLeDiff, Int.reduceLT, Int.reduceLE, Int.reduceAdd, Int.reduceSub, Int.reduceToNat, ↓reduceIte, q]
    exact h10 (.inl hl)
  have q : ((B.l.length : Int) == 0) = false := by have := List.length_pos_iff.2 hl; rw [beq_eq_false_iff_ne]; omega
  simp (disch := first | omega | (simp only [ln]; first | done | omega)) only [walkAll, walkL, walkK, wk, E, Nat.reduceEqDiff, Nat.reduceAdd, Nat.reduceSub, Nat.reduceLeDiff, Int.reduceLT, Int.reduceLE, Int.reduceAdd, Int.reduceSub, Int.reduceToNat, ↓reduceIte, q, hv, hlo]
  by_cases ho : B.op = []
  case neg =>
    have q2 : decide ((0 : Int) < (B.op.length : Int)) = true := by have := List.length_pos_iff.2 ho; simp; omega
    simp (disch := first | omega | (simp only [ln]; first | done | omega)) only [walkAll, walkL, walkK, wk, E, Nat.reduceEqDiff, Nat.reduceAdd, Nat.reduceSub, Nat.reduceLeDiff, Int.reduceLT, Int.reduceLE, Int.reduceAdd, Int.reduceSub, Int.reduceToNat, ↓reduceIte, q, q2]
    exact h10 (.inr ho)
  have q2 : decide ((0 : Int) < (B.op.length : Int)) = false := by rw [ho]; rfl
  simp (disch := first | omega | (simp only [ln]; first | done | omega)) only [walkAll, walkL, walkK, wk, E, Nat.reduceEqDiff, Nat.reduceAdd, Nat.reduceSub, Nat.reduceLeDiff, Int.reduceLT, Int.reduceLE, Int.reduceAdd, Int.reduceSub, Int.reduceToNat, ↓reduceIte, q, q2, hv, hll]
  refine done_loop (σ := σ) b B.op B.kids B.l.length hO.many hO.kids B.l [] vl vo vk ρl ρo ρk _ _ (by simp) htx hB (Past.refl b σ) (by simp [put, E]) (by simp [put]) (by simp [put]) (fun out e' τ' vl' vo' vk' ρl' ρo' ρk' hd hB' hP => ?_) (fun e' τ' B' vl' vo' vk' ρl' ρo' ρk' hd hB' hP h2 => ?_)
  · simp (disch := first | omega | (simp only [ln]; first | done | omega)) only [walkAll, walkL, walkK, wk, E, Nat.reduceEqDiff, Nat.reduceAdd, Nat.reduceSub, Nat.reduceLeDiff, Int.reduceLT, Int.reduceLE, Int.reduceAdd, Int.reduceSub, Int.reduceToNat, ↓reduceIte]
    exact hx out τ' vl' vo' vk' ρl' ρo' ρk' hl ho hd hB' hP
  · simp (disch := first | omega | (simp only [ln]; first | done | omega)) only [walkAll, walkL, walkK, wk, E, Nat.reduceEqDiff, Nat.reduceAdd, Nat.reduceSub, Nat.reduceLeDiff, Int.reduceLT, Int.reduceLE, Int.reduceAdd, Int.reduceSub, Int.reduceToNat, ↓reduceIte, h2]
    exact hr τ' B' vl' vo' vk' ρl' ρo' ρk' hl ho hd hB' hP
end
end Go.Ab.Sz.K
namespace Go.Ab.Sz.K
open Go Go.Ab Go.Proofs Go.RowKit
set_option maxRecDepth 40000
set_option linter.unusedSimpArgs false
theorem raise_len (b : TB) : b.raise.length = b.kids.length := by unfold TB.raise; split <;> simp
theorem TB.step_ok {b : TB} (h : b.Ok) (t : Tok) : (b.step t).1.Ok := by
  obtain ⟨h1, h2, h3, h4⟩ := h
  unfold TB.step
  split
  · unfold TB.begin
    repeat' split
    all_goals first | exact ⟨h1, h2, h3, h4⟩ | skip
    · exact ⟨fun i hi => by simp only [List.length_append, List.length_singleton]; have := h1 i hi; omega, by simp [raise_len, h2], h3, by simp only [List.length_append, List.length_singleton]; omega⟩
    · refine ⟨fun i hi => ?_, by simp [raise_len, h2], by simp only [List.length_append, List.length_singleton]; omega, by simp only [List.length_append, List.length_singleton]; omega⟩
      simp only [List.length_append, List.length_singleton]
      rcases List.mem_append.1 hi with hi | hi
      · have := h1 i hi; omega
      · have : i = b.l.length := by simpa using hi
        omega
  · split
    · unfold TB.fin
      repeat' split
      all_goals first | exact ⟨h1, h2, h3, h4⟩ | skip
      exact ⟨fun i hi => h1 i (List.mem_of_mem_take hi), h2, by simp only [List.length_take]; omega, h4⟩
    · split
      · unfold TB.txt
        repeat' split
        all_goals first | exact ⟨h1, h2, h3, h4⟩ | skip
        exact ⟨fun i hi => by simpa using h1 i hi, by simpa using h2, h3, by simpa using h4⟩
      · exact ⟨h1, h2, h3, h4⟩
theorem TB.step_text {b : TB} {X : Nat} (h : ∀ n ∈ b.l, n.text.length ≤ X) (t : Tok) : ∀ n ∈ (b.step t).1.l, n.text.length ≤ X + t.text.length := by
  have h0 : ∀ n ∈ b.l, n.text.length ≤ X + t.text.length := fun n hn => Nat.le_trans (h n hn) (by omega)
  unfold TB.step
  split
  · unfold TB.begin
    repeat' split
    all_goals first | exact h0 | skip
    all_goals
      intro n hn
      rcases List.mem_append.1 hn with hn | hn
      · exact h0 n hn
      · have : n = ⟨b.top, t.name, [], t.attrs, t.nn⟩ := by simpa using hn
        rw [this]; simp
  · split
    · unfold TB.fin
      repeat' split
      all_goals exact h0
    · split
      · unfold TB.txt
        repeat' split
        all_goals first | exact h0 | skip
        rename_i i _ _ n hn
        intro x hx
        rcases List.mem_or_eq_of_mem_set hx with hx | rfl
        · exact h0 x hx
        · have := h n (List.mem_of_getElem? hn)
          simp only [List.length_append]; omega
      · exact h0
/-- Token by token. -/
def runL : TB → List Tok → TB × Int
  | b, [] => (b, 0)
  | b, t :: l => if (b.step t).2 == 0 then runL (b.step t).1 l else (b, (b.step t).2)
def buildS (l : List Tok) : List Nd × Int :=
  if !((runL ⟨[], [], []⟩ l).2 == 0) then ([], (runL ⟨[], [], []⟩ l).2) else
  if (runL ⟨[], [], []⟩ l).1.l == [] || !((runL ⟨[], [], []⟩ l).1.op == []) then ([], 10) else
  match doneL (runL ⟨[], [], []⟩ l).1.l (runL ⟨[], [], []⟩ l).1.kids with
  | some out => (out, 0)
  | none => ([], 12)
end Go.Ab.Sz.K
namespace Go.Ab.Sz.K
open Go Go.Ab Go.Proofs Go.RowKit
set_option maxRecDepth 40000
set_option linter.unusedSimpArgs false
section
variable {m : Int} {σ : St} {K : AV → St → Prop}
theorem build_loop (l : List Tok) (v : AV) (hl : l.length < 100000000) (hRd : ∀ τ, Rd 5 τ v (l.map Tok.c)) (hat : ∀ t ∈ l, t.attrs.length ≤ 4398046511104 ∧ t.text.length ≤ 140737488355328) {Q : EQ} : ∀ (rest : List Tok) (i : Nat) (B : TB) (X : Nat) (vl vo vk : AV) (ρl ρo ρk : Option Nat) (τ : St) (e : Env),
    l.drop i = rest → B.Ok → (∀ n ∈ B.l, n.text.length ≤ X) → X + (rest.map fun t => t.text.length).sum ≤ 100000000000000000 → TBs 0 τ B vl vo vk ρl ρo ρk →
    e 4 = some (.vp 0 0) → e 12 = some v → e 13 = some (.int .i64 l.length) → e 14 = some (.int .i64 i) →
    (∀ e' τ' vl' vo' vk' ρl' ρo' ρk', (runL B rest).2 = 0 → TBs 0 τ' (runL B rest).1 vl' vo' vk' ρl' ρo' ρk' → (runL B rest).1.Ok → (∀ n ∈ (runL B rest).1.l, n.text.length ≤ 100000000000000000) → e' 4 = some (.vp 0 0) → Q (.exit 0) e' τ') →
    (∀ e' τ', ((runL B rest).2 == 0) = false → e' 2 = some .nils → e' 3 = some (.int .i64 (runL B rest).2) → Q .ret e' τ') → LoopC Tryz.prog tt (gD m) l17_0 Q e τ := by
  intro rest
  induction rest with
  | nil =>
    intro i B X vl vo vk ρl ρo ρk τ e hd hO hX hs hB h4 h12 h13 h14 hx hr
    have hi : l.length ≤ i := by simpa using hd
    have hb : decide ((i : Int) < (l.length : Int)) = false := by simp; omega
    refine LoopC_unfold tok fm ?_
    simp (disch := first | omega | (simp only [ln]; first | done | omega)) only [walkAll, walkL, walkK, wk, E, Nat.reduceEqDiff, Nat.reduceAdd, Nat.reduceSub, Nat.reduceLeDiff, Int.reduceLT, Int.reduceLE, Int.reduceAdd, Int.reduceSub, Int.reduceToNat, ↓reduceIte, l17_0x, l17_0b, h13, h14, hb]
    exact hx _ τ vl vo vk ρl ρo ρk rfl hB hO (fun n hn => Nat.le_trans (hX n hn) (by simp at hs; omega)) (by simp [put, h4])
  | cons t rest ih =>
    intro i B X vl vo vk ρl ρo ρk τ e hd hO hX hs hB h4 h12 h13 h14 hx hr
    obtain ⟨hc, hd'⟩ := drop_cons hd
    have hi := (List.getElem?_eq_some_iff.1 hc).1
    have hb : decide ((i : Int) < (l.length : Int)) = true := by simp; omega
    obtain ⟨p, hp, hpt⟩ := (hRd τ).at (i := i) (c := t.c) (by rw [List.getElem?_map, hc]; rfl) .i64
    have hld := hpt.all (n := 5) rfl
    have hv := hB.var
    have hlt := getV_lt hv
    have htm := hat t (List.mem_of_getElem? hc)
    simp only [List.map_cons, List.sum_cons] at hs
    have hB1 := hB.pushV (.cells 30 t.c)
    refine LoopC_unfold tok fm ?_
    simp (disch := first | omega | (simp only [ln]; first | done | omega)) only [walkAll, walkL, walkK, wk, E, Nat.reduceEqDiff, Nat.reduceAdd, Nat.reduceSub, Nat.reduceLeDiff, Int.reduceLT, Int.reduceLE, Int.reduceAdd, Int.reduceSub, Int.reduceToNat, ↓reduceIte, l17_0x, l17_0b, h4, h12, h13, h14, hb, hp, hld, Tok.c, lsv_cells, lsv_one, lsq_cells, lsq_one]
    refine taker_c 0 t.kind (fun r k1 k2 k3 k4 => ?_)
    have hfn : ∀ (f : Fn) (a c : List AV), binX .eql .func true (.fn f a c) .niln = some (.bool false) := fun _ _ _ => rfl
    have hnn : binX .eql .func true .niln .niln = some (.bool true) := rfl
    cases g1 : (t.kind == 1) with
    | true =>
      rw [g1] at k1
      have hB2 : TBs 0 (τ.pushV (.cells 30 [.int .i64 t.kind, .str t.name, .str t.text, lsq t.nn (t.attrs.map atc), .bool t.empty])) B vl vo vk ρl ρo ρk := hB.pushV _
      have e : B.step t = B.begin t := by unfold TB.step; simp only [g1]; rfl
      have ev : runL B (t :: rest) = if (B.begin t).2 == 0 then runL (B.begin t).1 rest else (B, (B.begin t).2) := by simp only [runL, e]
      have hO' : (B.begin t).1.Ok := by rw [← e]; exact TB.step_ok hO t
      have hX' : ∀ n ∈ (B.begin t).1.l, n.text.length ≤ X + t.text.length := by rw [← e]; exact TB.step_text hX t
      have hgt : getV (τ.pushV (.cells 30 [.int .i64 t.kind, .str t.name, .str t.text, lsq t.nn (t.attrs.map atc), .bool t.empty])) (nvs τ) = some (.cells 30 [.int .i64 t.kind, .str t.name, .str t.text, lsq t.nn (t.attrs.map atc), .bool t.empty]) := by simp (disch := first | omega | (simp only [ln]; first | done | omega)) only [walkAll, walkL, walkK, wk, E, Nat.reduceEqDiff, Nat.reduceAdd, Nat.reduceSub, Nat.reduceLeDiff, Int.reduceLT, Int.reduceLE, Int.reduceAdd, Int.reduceSub, Int.reduceToNat, ↓reduceIte]
      rw [k1 rfl]
      simp (disch := first | omega | (simp only [ln]; first | done | omega)) only [walkAll, walkL, walkK, wk, E, Nat.reduceEqDiff, Nat.reduceAdd, Nat.reduceSub, Nat.reduceLeDiff, Int.reduceLT, Int.reduceLE, Int.reduceAdd, Int.reduceSub, Int.reduceToNat, ↓reduceIte, h4, hgt, hfn]
      refine begin_c 0 B vl vo vk ρl ρo ρk hB2 hO t htm.1 (fun σ' vl' vo' vk' ρl' ρo' ρk' hB' hP' => ?_)
      simp (disch := first | omega | (simp only [ln]; first | done | omega)) only [walkAll, walkL, walkK, wk, E, Nat.reduceEqDiff, Nat.reduceAdd, Nat.reduceSub, Nat.reduceLeDiff, Int.reduceLT, Int.reduceLE, Int.reduceAdd, Int.reduceSub, Int.reduceToNat, ↓reduceIte, h4, h12, h13, h14, bne]
      cases g : ((B.begin t).2 == 0) with
      | false =>
        rw [g] at ev
        simp (disch := first | omega | (simp only [ln]; first | done | omega)) only [walkAll, walkL, walkK, wk, E, Nat.reduceEqDiff, Nat.reduceAdd, Nat.reduceSub, Nat.reduceLeDiff, Int.reduceLT, Int.reduceLE, Int.reduceAdd, Int.reduceSub, Int.reduceToNat, ↓reduceIte, g, Bool.not_false]
        refine hr _ _ (by rw [ev]; exact g) (by simp [put]) (by rw [ev]; simp [put])
      | true =>
        rw [g, if_pos rfl] at ev
        rw [ev] at hx hr
        simp (disch := first | omega | (simp only [ln]; first | done | omega)) only [walkAll, walkL, walkK, wk, E, Nat.reduceEqDiff, Nat.reduceAdd, Nat.reduceSub, Nat.reduceLeDiff, Int.reduceLT, Int.reduceLE, Int.reduceAdd, Int.reduceSub, Int.reduceToNat, ↓reduceIte, g, Bool.not_true, h14]
        exact ih (i + 1) (B.begin t).1 (X + t.text.length) vl' vo' vk' ρl' ρo' ρk' σ' _ hd' hO' hX' (by omega) hB' (by simp [put, h4]) (by simp [put, h12]) (by simp [put, h13]) (by simp [put]) hx hr
    | false =>
    cases g2 : (t.kind == 2) with
    | true =>
      rw [g2] at k2
      have hB2 : TBs 0 (τ.pushV (.cells 30 [.int .i64 t.kind, .str t.name, .str t.text, lsq t.nn (t.attrs.map atc), .bool t.empty])) B vl vo vk ρl ρo ρk := hB.pushV _
      have e : B.step t = B.fin t := by unfold TB.step; simp only [g1, g2]; rfl
      have ev : runL B (t :: rest) = if (B.fin t).2 == 0 then runL (B.fin t).1 rest else (B, (B.fin t).2) := by simp only [runL, e]
      have hO' : (B.fin t).1.Ok := by rw [← e]; exact TB.step_ok hO t
      have hX' : ∀ n ∈ (B.fin t).1.l, n.text.length ≤ X + t.text.length := by rw [← e]; exact TB.step_text hX t
      have hgt : getV (τ.pushV (.cells 30 [.int .i64 t.kind, .str t.name, .str t.text, lsq t.nn (t.attrs.map atc), .bool t.empty])) (nvs τ) = some (.cells 30 [.int .i64 t.kind, .str t.name, .str t.text, lsq t.nn (t.attrs.map atc), .bool t.empty]) := by simp (disch := first | omega | (simp only [ln]; first | done | omega)) only [walkAll, walkL, walkK, wk, E, Nat.reduceEqDiff, Nat.reduceAdd, Nat.reduceSub, Nat.reduceLeDiff, Int.reduceLT, Int.reduceLE, Int.reduceAdd, Int.reduceSub, Int.reduceToNat, ↓reduceIte]
      rw [k2 rfl]
      simp (disch := first | omega | (simp only [ln]; first | done | omega)) only [walkAll, walkL, walkK, wk, E, Nat.reduceEqDiff, Nat.reduceAdd, Nat.reduceSub, Nat.reduceLeDiff, Int.reduceLT, Int.reduceLE, Int.reduceAdd, Int.reduceSub, Int.reduceToNat, ↓reduceIte, h4, hgt, hfn]
      refine bend_c 0 B vl vo vk ρl ρo ρk hB2 hO t (fun σ' vl' vo' vk' ρl' ρo' ρk' hB' hP' => ?_)
      simp (disch := first | omega | (simp only [ln]; first | done | omega)) only [walkAll, walkL, walkK, wk, E, Nat.reduceEqDiff, Nat.reduceAdd, Nat.reduceSub, Nat.reduceLeDiff, Int.reduceLT, Int.reduceLE, Int.reduceAdd, Int.reduceSub, Int.reduceToNat, ↓reduceIte, h4, h12, h13, h14, bne]
      cases g : ((B.fin t).2 == 0) with
      | false =>
        rw [g] at ev
        simp (disch := first | omega | (simp only [ln]; first | done | omega)) only [walkAll, walkL, walkK, wk, E, Nat.reduceEqDiff, Nat.reduceAdd, Nat.reduceSub, Nat.reduceLeDiff, Int.reduceLT, Int.reduceLE, Int.reduceAdd, Int.reduceSub, Int.reduceToNat, ↓reduceIte, g, Bool.not_false]
        refine hr _ _ (by rw [ev]; exact g) (by simp [put]) (by rw [ev]; simp [put])
      | true =>
        rw [g, if_pos rfl] at ev
        rw [ev] at hx hr
        simp (disch := first | omega | (simp only [ln]; first | done | omega)) only [walkAll, walkL, walkK, wk, E, Nat.reduceEqDiff, Nat.reduceAdd, Nat.reduceSub, Nat.reduceLeDiff, Int.reduceLT, Int.reduceLE, Int.reduceAdd, Int.reduceSub, Int.reduceToNat, ↓reduceIte, g, Bool.not_true, h14]
        exact ih (i + 1) (B.fin t).1 (X + t.text.length) vl' vo' vk' ρl' ρo' ρk' σ' _ hd' hO' hX' (by omega) hB' (by simp [put, h4]) (by simp [put, h12]) (by simp [put, h13]) (by simp [put]) hx hr
    | false =>
    cases g3 : (t.kind == 3) with
    | true =>
      rw [g3] at k3
      have hB2 : TBs 0 (τ.pushV (.cells 30 [.int .i64 t.kind, .str t.name, .str t.text, lsq t.nn (t.attrs.map atc), .bool t.empty])) B vl vo vk ρl ρo ρk := hB.pushV _
      have e : B.step t = B.txt t := by unfold TB.step; simp only [g1, g2, g3]; rfl
      have ev : runL B (t :: rest) = if (B.txt t).2 == 0 then runL (B.txt t).1 rest else (B, (B.txt t).2) := by simp only [runL, e]
      have hO' : (B.txt t).1.Ok := by rw [← e]; exact TB.step_ok hO t
      have hX' : ∀ n ∈ (B.txt t).1.l, n.text.length ≤ X + t.text.length := by rw [← e]; exact TB.step_text hX t
      have hgt : getV (τ.pushV (.cells 30 [.int .i64 t.kind, .str t.name, .str t.text, lsq t.nn (t.attrs.map atc), .bool t.empty])) (nvs τ) = some (.cells 30 [.int .i64 t.kind, .str t.name, .str t.text, lsq t.nn (t.attrs.map atc), .bool t.empty]) := by simp (disch := first | omega | (simp only [ln]; first | done | omega)) only [walkAll, walkL, walkK, wk, E, Nat.reduceEqDiff, Nat.reduceAdd, Nat.reduceSub, Nat.reduceLeDiff, Int.reduceLT, Int.reduceLE, Int.reduceAdd, Int.reduceSub, Int.reduceToNat, ↓reduceIte]
      rw [k3 rfl]
      simp (disch := first | omega | (simp only [ln]; first | done | omega)) only [walkAll, walkL, walkK, wk, E, Nat.reduceEqDiff, Nat.reduceAdd, Nat.reduceSub, Nat.reduceLeDiff, Int.reduceLT, Int.reduceLE, Int.reduceAdd, Int.reduceSub, Int.reduceToNat, ↓reduceIte, h4, hgt, hfn]
      refine btext_c 0 B vl vo vk ρl ρo ρk hB2 hO t htm.2 (fun n hn => Nat.le_trans (hX n hn) (by omega)) (fun σ' vl' vo' vk' ρl' ρo' ρk' hB' hP' => ?_)
      simp (disch := first | omega | (simp only [ln]; first | done | omega)) only [walkAll, walkL, walkK, wk, E, Nat.reduceEqDiff, Nat.reduceAdd, Nat.reduceSub, Nat.reduceLeDiff, Int.reduceLT, Int.reduceLE, Int.reduceAdd, Int.reduceSub, Int.reduceToNat, ↓reduceIte, h4, h12, h13, h14, bne]
      cases g : ((B.txt t).2 == 0) with
      | false =>
        rw [g] at ev
        simp (disch := first | omega | (simp only [ln]; first | done | omega)) only [walkAll, walkL, walkK, wk, E, Nat.reduceEqDiff, Nat.reduceAdd, Nat.reduceSub, Nat.reduceLeDiff, Int.reduceLT, Int.reduceLE, Int.reduceAdd, Int.reduceSub, Int.reduceToNat, ↓reduceIte, g, Bool.not_false]
        refine hr _ _ (by rw [ev]; exact g) (by simp [put]) (by rw [ev]; simp [put])
      | true =>
        rw [g, if_pos rfl] at ev
        rw [ev] at hx hr
        simp (disch := first | omega | (simp only [ln]; first | done | omega)) only [walkAll, walkL, walkK, wk, E, Nat.reduceEqDiff, Nat.reduceAdd, Nat.reduceSub, Nat.reduceLeDiff, Int.reduceLT, Int.reduceLE, Int.reduceAdd, Int.reduceSub, Int.reduceToNat, ↓reduceIte, g, Bool.not_true, h14]
        exact ih (i + 1) (B.txt t).1 (X + t.text.length) vl' vo' vk' ρl' ρo' ρk' σ' _ hd' hO' hX' (by omega) hB' (by simp [put, h4]) (by simp [put, h12]) (by simp [put, h13]) (by simp [put]) hx hr
    | false =>
      rw [k4 g1 g2 g3]
      have e : B.step t = (B, 9) := by unfold TB.step; simp only [g1, g2, g3]; rfl
      have ev : runL B (t :: rest) = (B, 9) := by simp only [runL, e]; rfl
      simp (disch := first | omega | (simp only [ln]; first | done | omega)) only [walkAll, walkL, walkK, wk, E, Nat.reduceEqDiff, Nat.reduceAdd, Nat.reduceSub, Nat.reduceLeDiff, Int.reduceLT, Int.reduceLE, Int.reduceAdd, Int.reduceSub, Int.reduceToNat, ↓reduceIte, hnn]
      exact hr _ _ (by rw [ev]; rfl) (by simp [put, putE]) (by rw [ev]; simp [put, putE])
end
end Go.Ab.Sz.K
namespace Go.Ab.Sz.K
open Go Go.Ab Go.Proofs Go.RowKit
set_option maxRecDepth 40000
set_option linter.unusedSimpArgs false
theorem nd_data (n : Nd) : DataL n.c := by
  simp only [Nd.c, dataR]
  exact ⟨lsq_data _ (atc_data _), trivial⟩
theorem frz_own {e z : Nat} {σ' : St} {v : AV} {l : List (List AV)} {ρ : Option Nat} (h : Own e z σ' v l ρ) (h0 : l ≠ []) (f : AV → AV) (hf : ∀ k els, frz k els (f v) = f (frz k els v)) : Frz σ' (f v) (f (lsv l)) := by
  rcases h.2 with ⟨_, rfl, _⟩ | ⟨r, row, rfl, rfl, hr, hle, ht, _⟩
  · exact absurd rfl h0
  · refine .inr ⟨r, row, hr, ?_⟩
    have he : frz r row.els (.os r 0 l.length) = .sl l := by
      simp [frz, ht, hle]
    rw [hf, he]
    unfold lsv
    rw [if_neg h0]
section
variable {m : Int} {σ : St} {K : AV → St → Prop}
theorem Build_c (l : List Tok) (v : AV) (hvr : ∀ τ, Rd 5 τ v (l.map Tok.c)) (hvd : Data v) (hl : l.length < 100000000) (hat : ∀ t ∈ l, t.attrs.length ≤ 4398046511104 ∧ t.text.length ≤ 140737488355328) (hs : (l.map fun t => t.text.length).sum ≤ 100000000000000000)
    (h : K (.tup [lsv ((buildS l).1.map Nd.c), .int .i64 (buildS l).2]) σ) : ACalls Tryz.prog (gD m) 17 [v] σ K := by
  refine (ACalls.frame_frz gD_data (.cons _ _ hvd .nil) (Q := fun r => r = .tup [lsv ((buildS l).1.map Nd.c), .int .i64 (buildS l).2]) ?_ σ).mono (fun r σ' hr => by rw [hr.1, hr.2]; exact h)
  have fin0 : ∀ (τ : St) (x : Int), buildS l = ([], x) → ∃ r0, Frz τ (.tup [.nils, .int .i64 x]) r0 ∧ Data r0 ∧ r0 = .tup [lsv ((buildS l).1.map Nd.c), .int .i64 (buildS l).2] := fun τ x he =>
    ⟨.tup [.nils, .int .i64 x], .inl rfl, by simp only [dataR], by rw [he]; rfl⟩
  refine ACalls_fn tok fm (fk17 _) ?_
  have hvl := (hvr ⟨[], []⟩).len
  rw [List.length_map] at hvl
  simp (disch := first | omega | (simp only [ln]; first | done | omega)) only [walkAll, walkL, walkK, wk, E, Nat.reduceEqDiff, Nat.reduceAdd, Nat.reduceSub, Nat.reduceLeDiff, Int.reduceLT, Int.reduceLE, Int.reduceAdd, Int.reduceSub, Int.reduceToNat, ↓reduceIte, c17, hvl]
  refine build_loop l v hl hvr hat l 0 ⟨[], [], []⟩ 0 .nils .nils .nils none none none _ _ rfl ⟨by simp, rfl, by decide, by decide⟩ (by simp) (by simpa using hs) ⟨rfl, Own.nil _ _ _, Own.nil _ _ _, Own.nil _ _ _, by simp, by simp⟩ (by simp [put, E]) (by simp [put, E]) (by simp [put, E]) (by simp [put, E]) (fun e' τ' vl vo vk ρl ρo ρk h2 hB hO ht h4 => ?_) (fun e' τ' h2 h3 h4 => ?_)
  · have g0 : ((runL ⟨[], [], []⟩ l).2 == 0) = true := by rw [h2]; rfl
    simp (disch := first | omega | (simp only [ln]; first | done | omega)) only [walkAll, walkL, walkK, wk, E, Nat.reduceEqDiff, Nat.reduceAdd, Nat.reduceSub, Nat.reduceLeDiff, Int.reduceLT, Int.reduceLE, Int.reduceAdd, Int.reduceSub, Int.reduceToNat, ↓reduceIte, h4]
    refine done_c 0 (runL ⟨[], [], []⟩ l).1 vl vo vk ρl ρo ρk hB hO ht (fun h10 => ?_) (fun out σ' vl' vo' vk' ρl' ρo' ρk' k1 k2 k3 hB' hP => ?_) (fun σ' B' vl' vo' vk' ρl' ρo' ρk' k1 k2 k3 hB' hP => ?_)
    · have e : buildS l = ([], 10) := by
        unfold buildS
        rw [g0, if_neg (by decide), if_pos]
        rcases h10 with h | h
        · rw [h]; rfl
        · simp [h]
      have q : ((10 : Int) == 0) = false := rfl
      simp (disch := first | omega | (simp only [ln]; first | done | omega)) only [walkAll, walkL, walkK, wk, E, Nat.reduceEqDiff, Nat.reduceAdd, Nat.reduceSub, Nat.reduceLeDiff, Int.reduceLT, Int.reduceLE, Int.reduceAdd, Int.reduceSub, Int.reduceToNat, ↓reduceIte, h4, bne, q, Bool.not_false]
      exact fin0 _ 10 e
    · have hne : out ≠ [] := by
        intro h
        subst h
        revert k3 k1
        cases (runL ⟨[], [], []⟩ l).1.l with
        | nil => intro h; exact absurd rfl h
        | cons n l' =>
          intro _ h3
          unfold doneL at h3
          split at h3
          · split at h3
            · cases hd : doneL l' _ with
              | none => rw [hd] at h3; cases h3
              | some x => rw [hd] at h3; cases h3
            · cases h3
          · cases hd : doneL l' _ with
            | none => rw [hd] at h3; cases h3
            | some x => rw [hd] at h3; cases h3
          · cases h3
      have e : buildS l = (out, 0) := by
        unfold buildS
        rw [g0, if_neg (by decide), if_neg (by simp [k1, k2]), k3]
      have hv := hB'.var
      have q : ((0 : Int) == 0) = true := rfl
      obtain ⟨cl1, _, _⟩ := hB'.cellsL
      simp (disch := first | omega | (simp only [ln]; first | done | omega)) only [walkAll, walkL, walkK, wk, E, Nat.reduceEqDiff, Nat.reduceAdd, Nat.reduceSub, Nat.reduceLeDiff, Int.reduceLT, Int.reduceLE, Int.reduceAdd, Int.reduceSub, Int.reduceToNat, ↓reduceIte, h4, bne, q, Bool.not_true, hv]
      refine ⟨.tup [lsv (out.map Nd.c), .int .i64 0], frz_own hB'.l (by simpa using hne) (fun a => .tup [a, .int .i64 0]) (fun k els => by simp only [frzR]), ?_, by rw [e]⟩
      simp only [dataR, and_true]
      exact lsv_data (data_flat fun n _ => nd_data n)
    · have e : buildS l = ([], 12) := by
        unfold buildS
        rw [g0, if_neg (by decide), if_neg (by simp [k1, k2]), k3]
      have q : ((12 : Int) == 0) = false := rfl
      simp (disch := first | omega | (simp only [ln]; first | done | omega)) only [walkAll, walkL, walkK, wk, E, Nat.reduceEqDiff, Nat.reduceAdd, Nat.reduceSub, Nat.reduceLeDiff, Int.reduceLT, Int.reduceLE, Int.reduceAdd, Int.reduceSub, Int.reduceToNat, ↓reduceIte, h4, bne, q, Bool.not_false]
      exact fin0 _ 12 e
  · have e : buildS l = ([], (runL ⟨[], [], []⟩ l).2) := by
      unfold buildS
      rw [h2]; rfl
    simp (disch := first | omega | (simp only [ln]; first | done | omega)) only [walkAll, walkL, walkK, wk, E, Nat.reduceEqDiff, Nat.reduceAdd, Nat.reduceSub, Nat.reduceLeDiff, Int.reduceLT, Int.reduceLE, Int.reduceAdd, Int.reduceSub, Int.reduceToNat, ↓reduceIte, h3, h4]
    exact fin0 _ _ e
end
end Go.Ab.Sz.K
namespace Go.Ab.Sz.K
open Go Go.Ab Go.Proofs Go.RowKit
set_option maxRecDepth 40000
set_option linter.unusedSimpArgs false
def kidsF : Int → Nat → List Nd → List Nat
  | _, _, [] => []
  | i, k, n :: l => (if n.parent == i then [k] else []) ++ kidsF i (k + 1) l
def kidsS (l : List Nd) (i : Int) : List Nat := if 0 ≤ i ∧ i < l.length then kidsF i 0 l else []
section
variable {m : Int} {σ : St} {K : AV → St → Prop}
theorem kids_loop (l : List Nd) (i : Int) (v : AV) (hl : l.length < 100000000) (hRd : ∀ τ, Rd 4 τ v (l.map Nd.c)) {Q : EQ} : ∀ (rest : List Nd) (k : Nat) (acc : List Nat) (u : AV) (ρ : Option Nat) (τ : St) (e : Env),
    l.drop k = rest → acc.length ≤ k → Lst 3 1 τ u (acc.map ixc) ρ → e 0 = some v → e 1 = some (.int .i64 i) → e 5 = some u → e 8 = some v → e 9 = some (.int .i64 l.length) → e 10 = some (.int .i64 k) →
    (∀ e' τ' u' ρ', Lst 3 1 τ' u' ((acc ++ (if 0 ≤ i ∧ i < l.length then kidsF i k rest else [])).map ixc) ρ' → e' 5 = some u' → Q (.exit 0) e' τ') → LoopC Tryz.prog tt (gD m) l24_0 Q e τ := by
  intro rest
  induction rest with
  | nil =>
    intro k acc u ρ τ e hd hk hL h0 h1 h5 h8 h9 h10 hx
    have hi : l.length ≤ k := by simpa using hd
    have hb : decide ((k : Int) < (l.length : Int)) = false := by simp; omega
    refine LoopC_unfold tok fm ?_
    simp (disch := first | omega | (simp only [ln]; first | done | omega)) only [walkAll, walkL, walkK, wk, E, Nat.reduceEqDiff, Nat.reduceAdd, Nat.reduceSub, Nat.reduceLeDiff, Int.reduceLT, Int.reduceLE, Int.reduceAdd, Int.reduceSub, Int.reduceToNat, ↓reduceIte, l24_0x, l24_0b, h9, h10, hb]
    refine hx _ τ u ρ ?_ (by simp [put, h5])
    have : (if 0 ≤ i ∧ i < (l.length : Int) then kidsF i k [] else []) = [] := by split <;> rfl
    rw [this, List.append_nil]; exact hL
  | cons n rest ih =>
    intro k acc u ρ τ e hd hk hL h0 h1 h5 h8 h9 h10 hx
    obtain ⟨hc, hd'⟩ := drop_cons hd
    have hi := (List.getElem?_eq_some_iff.1 hc).1
    have hb : decide ((k : Int) < (l.length : Int)) = true := by simp; omega
    obtain ⟨p, hp, hpt⟩ := (hRd τ).at (i := k) (c := n.c) (by rw [List.getElem?_map, hc]; rfl) .i64
    have hld := hpt.all (n := 4) rfl
    have hlen := (hRd τ).len
    rw [List.length_map] at hlen
    refine LoopC_unfold tok fm ?_
    simp (disch := first | omega | (simp only [ln]; first | done | omega)) only [walkAll, walkL, walkK, wk, E, Nat.reduceEqDiff, Nat.reduceAdd, Nat.reduceSub, Nat.reduceLeDiff, Int.reduceLT, Int.reduceLE, Int.reduceAdd, Int.reduceSub, Int.reduceToNat, ↓reduceIte, l24_0x, l24_0b, h0, h1, h5, h8, h9, h10, hb, hp, hld, Nd.c, lsv_cells, lsv_one, lsq_cells, lsq_one]
    have stay : ∀ (τ' : St) (e' : Env), (if 0 ≤ i ∧ i < (l.length : Int) then kidsF i k (n :: rest) else []) = (if 0 ≤ i ∧ i < (l.length : Int) then kidsF i (k + 1) rest else []) → Lst 3 1 τ' u (acc.map ixc) ρ → e' 0 = some v → e' 1 = some (.int .i64 i) → e' 5 = some u → e' 8 = some v → e' 9 = some (.int .i64 l.length) → e' 10 = some (.int .i64 (k + 1 : Nat)) → LoopC Tryz.prog tt (gD m) l24_0 Q e' τ' := fun τ' e' he hL' a0 a1 a5 a8 a9 a10 => by
      refine ih (k + 1) acc u ρ τ' e' hd' (by omega) hL' a0 a1 a5 a8 a9 a10 ?_
      rw [← he]; exact hx
    cases g1 : (n.parent == i) with
    | false =>
      simp (disch := first | omega | (simp only [ln]; first | done | omega)) only [walkAll, walkL, walkK, wk, E, Nat.reduceEqDiff, Nat.reduceAdd, Nat.reduceSub, Nat.reduceLeDiff, Int.reduceLT, Int.reduceLE, Int.reduceAdd, Int.reduceSub, Int.reduceToNat, ↓reduceIte, g1, h10]
      exact stay _ _ (by simp only [kidsF, g1]; rfl) hL (by simp [put, putE, h0]) (by simp [put, putE, h1]) (by simp [put, putE, h5]) (by simp [put, putE, h8]) (by simp [put, putE, h9]) (by simp [put, putE])
    | true =>
      cases g2 : decide (0 ≤ i) with
      | false =>
        have hg := of_decide_eq_false g2
        simp (disch := first | omega | (simp only [ln]; first | done | omega)) only [walkAll, walkL, walkK, wk, E, Nat.reduceEqDiff, Nat.reduceAdd, Nat.reduceSub, Nat.reduceLeDiff, Int.reduceLT, Int.reduceLE, Int.reduceAdd, Int.reduceSub, Int.reduceToNat, ↓reduceIte, g1, g2, h10, h1]
        exact stay _ _ (by rw [if_neg (by omega), if_neg (by omega)]) hL (by simp [put, putE, h0]) (by simp [put, putE, h1]) (by simp [put, putE, h5]) (by simp [put, putE, h8]) (by simp [put, putE, h9]) (by simp [put, putE])
      | true =>
        have hg := of_decide_eq_true g2
        cases g3 : decide (i < (l.length : Int)) with
        | false =>
          have hg3 := of_decide_eq_false g3
          simp (disch := first | omega | (simp only [ln]; first | done | omega)) only [walkAll, walkL, walkK, wk, E, Nat.reduceEqDiff, Nat.reduceAdd, Nat.reduceSub, Nat.reduceLeDiff, Int.reduceLT, Int.reduceLE, Int.reduceAdd, Int.reduceSub, Int.reduceToNat, ↓reduceIte, g1, g2, g3, h10, h1, h0, hlen]
          exact stay _ _ (by rw [if_neg (by omega), if_neg (by omega)]) hL (by simp [put, putE, h0]) (by simp [put, putE, h1]) (by simp [put, putE, h5]) (by simp [put, putE, h8]) (by simp [put, putE, h9]) (by simp [put, putE])
        | true =>
          have hg3 := of_decide_eq_true g3
          simp (disch := first | omega | (simp only [ln]; first | done | omega)) only [walkAll, walkL, walkK, wk, E, Nat.reduceEqDiff, Nat.reduceAdd, Nat.reduceSub, Nat.reduceLeDiff, Int.reduceLT, Int.reduceLE, Int.reduceAdd, Int.reduceSub, Int.reduceToNat, ↓reduceIte, g1, g2, g3, h10, h1, h0, h5, hlen]
          refine app_one (e := 3) (z := 1) (b := 8) (c := [.int .i64 k]) (hL.pushV _) rfl rfl (by simp; omega) (fun u' σ' ρ' hL' hb' => ?_)
          simp (disch := first | omega | (simp only [ln]; first | done | omega)) only [walkAll, walkL, walkK, wk, E, Nat.reduceEqDiff, Nat.reduceAdd, Nat.reduceSub, Nat.reduceLeDiff, Int.reduceLT, Int.reduceLE, Int.reduceAdd, Int.reduceSub, Int.reduceToNat, ↓reduceIte, h10]
          refine ih (k + 1) (acc ++ [k]) u' ρ' σ' _ hd' (by simp; omega) (by rw [List.map_append]; exact hL') (by simp [put, putE, h0]) (by simp [put, putE, h1]) (by simp [put, putE]) (by simp [put, putE, h8]) (by simp [put, putE, h9]) (by simp [put, putE]) (fun e' τ' u2 ρ2 hL2 h52 => ?_)
          refine hx e' τ' u2 ρ2 ?_ h52
          rw [if_pos ⟨hg, hg3⟩] at hL2 ⊢
          have : acc ++ kidsF i k (n :: rest) = acc ++ [k] ++ kidsF i (k + 1) rest := by simp only [kidsF, g1, if_true, List.append_assoc]
          rw [this]; exact hL2
theorem Kids_c (l : List Nd) (v : AV) (hvr : ∀ τ, Rd 4 τ v (l.map Nd.c)) (hvd : Data v) (i : Int) (hl : l.length < 100000000) (h : K (lsv ((kidsS l i).map ixc)) σ) : ACalls Tryz.prog (gD m) 24 [v, .int .i64 i] σ K := by
  refine (ACalls.frame_frz gD_data (.cons _ _ hvd (.cons _ _ (.int _ _) .nil)) (Q := fun r => r = lsv ((kidsS l i).map ixc)) ?_ σ).mono (fun r σ' hr => by rw [hr.1, hr.2]; exact h)
  have nlen : ∀ e ∈ l.map Nd.c, e.length = 4 := fun e he => by
    obtain ⟨a, _, rfl⟩ := List.mem_map.1 he; rfl
  refine ACalls_fn tok fm (fk24 _) ?_
  have hvl := (hvr ⟨[], []⟩).len
  rw [List.length_map] at hvl
  simp (disch := first | omega | (simp only [ln]; first | done | omega)) only [walkAll, walkL, walkK, wk, E, Nat.reduceEqDiff, Nat.reduceAdd, Nat.reduceSub, Nat.reduceLeDiff, Int.reduceLT, Int.reduceLE, Int.reduceAdd, Int.reduceSub, Int.reduceToNat, ↓reduceIte, c24, hvl]
  refine kids_loop l i v hl hvr l 0 [] .nils none _ _ rfl (by simp) (Lst.nil _ _ _) (by simp [put, E]) (by simp [put, E]) (by simp [put, E]) (by simp [put, E]) (by simp [put, E]) (by simp [put, E]) (fun e' τ' u' ρ' hL h5 => ?_)
  simp (disch := first | omega | (simp only [ln]; first | done | omega)) only [walkAll, walkL, walkK, wk, E, Nat.reduceEqDiff, Nat.reduceAdd, Nat.reduceSub, Nat.reduceLeDiff, Int.reduceLT, Int.reduceLE, Int.reduceAdd, Int.reduceSub, Int.reduceToNat, ↓reduceIte, h5]
  refine ⟨lsv ((kidsS l i).map ixc), ?_, lsv_data (data_flat fun k _ => by simp only [ixc, dataR]), rfl⟩
  exact frz_lst hL (fun a => a) (fun k els => rfl)
end
end Go.Ab.Sz.K
