/-
  The reference's way to a tree: what it has in hand; its kids.
-/
import Derived.Test.YtpejbkckppnamaaGreatDoorK8
import Derived.Test.YtpejbkckppnamaaGreatDoorAbB
import Derived.Test.YtpejbkckppnamaaGreatDoorT8
set_option linter.all false
set_option linter.unusedVariables false
set_option linter.unusedSimpArgs false
namespace Go.Ab.Sz.K
open Go Go.Ab Go.Proofs Go.RowKit
set_option maxRecDepth 40000
set_option linter.unusedSimpArgs false
/-- Which have kids is known. -/
structure TB.Fit (b : TB) : Prop where
  ok : b.Ok
  kid : ∀ (k : Nat) n (i : Nat), b.l[k]? = some n → n.parent = i → b.kids[i]? = some true
  has : ∀ i : Nat, b.kids[i]? = some true → ∃ (k : Nat) (n : Nd), b.l[k]? = some n ∧ n.parent = i
theorem fit_nil : TB.Fit ⟨[], [], []⟩ := ⟨⟨by simp, rfl, by decide, by decide⟩, by simp, by simp⟩
theorem raise_get {b : TB} {i : Nat} (h : b.kids[i]? = some true) : b.raise[i]? = some true := by
  unfold TB.raise
  split
  · exact h
  · rename_i j _
    have hlt := (List.getElem?_eq_some_iff.1 h).1
    by_cases hij : j = i
    · subst hij; rw [List.getElem?_set_self hlt]
    · rw [List.getElem?_set_ne hij]; exact h
theorem fit_begin {b : TB} (h : b.Fit) (t : Tok) (ho : (b.begin t).1.Ok) : (b.begin t).1.Fit := by
  revert ho
  unfold TB.begin
  by_cases g1 : (t.name == []) = true
  · rw [if_pos g1]; exact fun _ => h
  rw [if_neg g1]
  by_cases g2 : (b.op == [] && !(b.l == [])) = true
  · rw [if_pos g2]; exact fun _ => h
  rw [if_neg g2]
  by_cases g3 : 32 ≤ b.op.length
  · rw [if_pos g3]; exact fun _ => h
  rw [if_neg g3]
  by_cases g4 : 500 ≤ b.l.length
  · rw [if_pos g4]; exact fun _ => h
  rw [if_neg g4]
  intro ho
  have hkl := h.ok.kids
  have htop : (b.op = [] ∧ b.top = -1) ∨ ∃ i : Nat, b.top = i ∧ b.op.getLast? = some i ∧ i < b.l.length := by
    by_cases h0 : b.op = []
    · exact .inl ⟨h0, by unfold TB.top; rw [h0]; rfl⟩
    · obtain ⟨i, a, c, d⟩ := TB.top_pos h0
      exact .inr ⟨i, a, c, h.ok.op i d⟩
  have hrl := raise_len b
  refine ⟨ho, fun k n i hn hi => ?_, fun i hi => ?_⟩
  · have hlift : b.raise[i]? = some true → (b.raise ++ [false])[i]? = some true := fun hh => by
      rw [List.getElem?_append_left (List.getElem?_eq_some_iff.1 hh).1]; exact hh
    rcases Nat.lt_or_ge k b.l.length with hlt | hge
    · rw [List.getElem?_append_left hlt] at hn
      exact hlift (raise_get (h.kid k n i hn hi))
    · rw [List.getElem?_append_right hge] at hn
      have hz : k - b.l.length = 0 := by
        have := (List.getElem?_eq_some_iff.1 hn).1
        simp at this; omega
      rw [hz] at hn
      have hn' : n = ⟨b.top, t.name, [], t.attrs, t.nn⟩ := by simpa using hn.symm
      rw [hn'] at hi
      simp only at hi
      rcases htop with ⟨_, h3⟩ | ⟨j, h3, h4, h5⟩
      · omega
      · have : i = j := by omega
        subst this
        apply hlift
        unfold TB.raise
        rw [h4]
        simp only
        rw [List.getElem?_set_self (by omega)]
  · have hlt : i < b.raise.length := by
      rcases Nat.lt_or_ge i b.raise.length with h | hge
      · exact h
      · rw [List.getElem?_append_right hge] at hi
        have h1 := (List.getElem?_eq_some_iff.1 hi).1
        have hz : i - b.raise.length = 0 := by simp at h1; omega
        rw [hz] at hi
        simp at hi
    rw [List.getElem?_append_left hlt] at hi
    have old : b.kids[i]? = some true → ∃ (k : Nat) (n : Nd), (b.l ++ [⟨b.top, t.name, [], t.attrs, t.nn⟩])[k]? = some n ∧ n.parent = i := fun hh => by
      obtain ⟨k, n, h1, h2⟩ := h.has i hh
      exact ⟨k, n, by rw [List.getElem?_append_left (List.getElem?_eq_some_iff.1 h1).1]; exact h1, h2⟩
    rcases htop with ⟨h0, _⟩ | ⟨j, h3, h4, h5⟩
    · apply old
      unfold TB.raise at hi
      rw [h0] at hi
      exact hi
    · by_cases hij : i = j
      · subst hij
        exact ⟨b.l.length, ⟨b.top, t.name, [], t.attrs, t.nn⟩, by simp, h3⟩
      · apply old
        unfold TB.raise at hi
        rw [h4] at hi
        simp only at hi
        rw [List.getElem?_set_ne (Ne.symm hij)] at hi
        exact hi
theorem fit_fin {b : TB} (h : b.Fit) (t : Tok) (ho : (b.fin t).1.Ok) : (b.fin t).1.Fit := by
  revert ho
  unfold TB.fin
  split
  · exact fun _ => h
  · split
    · split
      · exact fun ho => ⟨ho, h.kid, h.has⟩
      · exact fun _ => h
    · exact fun _ => h
theorem fit_txt {b : TB} (h : b.Fit) (t : Tok) (ho : (b.txt t).1.Ok) : (b.txt t).1.Fit := by
  revert ho
  unfold TB.txt
  split
  · split <;> exact fun _ => h
  · rename_i i _
    split
    · rename_i n hn
      intro ho
      have hlt := (List.getElem?_eq_some_iff.1 hn).1
      have old : ∀ (k : Nat) x, (b.l.set i { n with text := n.text ++ t.text })[k]? = some x → ∃ y, b.l[k]? = some y ∧ x.parent = y.parent := fun k x hx => by
        by_cases hik : i = k
        · subst hik
          rw [List.getElem?_set_self hlt] at hx
          cases hx
          exact ⟨n, hn, rfl⟩
        · rw [List.getElem?_set_ne hik] at hx
          exact ⟨x, hx, rfl⟩
      refine ⟨ho, fun k x j hx hj => ?_, fun j hj => ?_⟩
      · obtain ⟨y, h1, h2⟩ := old k x hx
        exact h.kid k y j h1 (by rw [← h2]; exact hj)
      · obtain ⟨k, x, h1, h2⟩ := h.has j hj
        by_cases hik : i = k
        · subst hik
          rw [hn] at h1; cases h1
          exact ⟨i, _, List.getElem?_set_self hlt, h2⟩
        · exact ⟨k, x, by rw [List.getElem?_set_ne hik]; exact h1, h2⟩
    · exact fun _ => h
theorem fit_step {b : TB} (h : b.Fit) (t : Tok) : (b.step t).1.Fit := by
  have ho := TB.step_ok h.ok t
  revert ho
  unfold TB.step
  split
  · exact fit_begin h t
  · split
    · exact fit_fin h t
    · split
      · exact fit_txt h t
      · exact fun _ => h
theorem fit_run : ∀ (l : List Tok) (b : TB), b.Fit → (runL b l).1.Fit
  | [], _, h => h
  | t :: l, b, h => by
    simp only [runL]
    split
    · exact fit_run l _ (fit_step h t)
    · exact h
/-- A node without its text. -/
def bare (n : Nd) : Nd := { n with text := [], nn := false }
def plainN (n : Nd) : Nd := { n with nn := false }
theorem kidsF_same (i : Int) : ∀ (l l' : List Nd) (k : Nat), l.map (·.parent) = l'.map (·.parent) → kidsF i k l = kidsF i k l'
  | [], [], _, _ => rfl
  | [], _ :: _, _, h => by cases h
  | _ :: _, [], _, h => by cases h
  | n :: l, n' :: l', k, h => by
    simp only [List.map_cons, List.cons.injEq] at h
    simp only [kidsF, h.1, kidsF_same i l l' (k + 1) h.2]
theorem kidsF_pos (i : Int) : ∀ (l : List Nd) (k : Nat), kidsF i k l ≠ [] ↔ ∃ (j : Nat) (n : Nd), l[j]? = some n ∧ n.parent = i
  | [], _ => by simp [kidsF]
  | n :: l, k => by
    have ih := kidsF_pos i l (k + 1)
    simp only [kidsF]
    by_cases g : n.parent = i
    · rw [if_pos (by simpa using g)]
      exact ⟨fun _ => ⟨0, n, rfl, g⟩, fun _ => by simp⟩
    · rw [if_neg (by simpa using g), List.nil_append, ih]
      constructor
      · rintro ⟨j, x, h1, h2⟩; exact ⟨j + 1, x, h1, h2⟩
      · rintro ⟨j, x, h1, h2⟩
        cases j with
        | zero => simp at h1; subst h1; exact absurd h2 g
        | succ j => exact ⟨j, x, h1, h2⟩
theorem Fit.kidsS {b : TB} (h : b.Fit) {l' : List Nd} (hp : l'.map (·.parent) = b.l.map (·.parent)) {i : Nat} {q : Bool} (hq : b.kids[i]? = some q) : (kidsS l' i).length = 0 ↔ q = false := by
  have hlen : l'.length = b.l.length := by have := congrArg List.length hp; simpa using this
  have hi : i < l'.length := by rw [hlen, ← h.ok.kids]; exact (List.getElem?_eq_some_iff.1 hq).1
  unfold K.kidsS
  rw [if_pos ⟨by omega, by omega⟩, kidsF_same i l' b.l 0 hp]
  have hk := kidsF_pos i b.l 0
  rw [List.length_eq_zero_iff]
  constructor
  · intro e
    cases q with
    | false => rfl
    | true => exact absurd e (hk.2 (h.has i hq))
  · rintro rfl
    by_cases e : kidsF i 0 b.l = []
    · exact e
    · obtain ⟨k, n, h1, h2⟩ := hk.1 e
      have := h.kid k n i h1 h2
      rw [hq] at this; cases this
section
variable {m : Int} {σ : St} {K : AV → St → Prop}
theorem Rd.grown {z : Nat} {σ τ : St} {v : AV} {l : List (List AV)} (h : Rd z σ v l) (g : Grown σ τ) : Rd z τ v l := by
  obtain ⟨a, b, rfl⟩ := g
  refine ⟨h.1, h.2.imp id (fun h => h.imp id (fun h => h.imp id (fun ⟨r, off, row, h1, h2, h3⟩ => ⟨r, off, row, h1, ?_, h3⟩)))⟩
  simp only [getR] at *
  rw [List.getElem?_append_left (List.getElem?_eq_some_iff.1 h2).1]; exact h2
end
end Go.Ab.Sz.K
namespace Go.Ab.Sz.K
open Go Go.Ab Go.Proofs Go.RowKit
set_option maxRecDepth 40000
set_option linter.unusedSimpArgs false
def txc (n : Nd) : List AV := [.str n.text]
def inc (n : Nd) : List AV := [.bool (!blankS n.text)]
def cL (vl : AV) (B : TB) (ρl : Option Nat) : Comp := ⟨40, 4, vl, (B.l.map bare).map Nd.c, ρl⟩
def cO (vo : AV) (B : TB) (ρo : Option Nat) : Comp := ⟨3, 1, vo, B.op.map ixc, ρo⟩
def cT (vt : AV) (B : TB) (ρt : Option Nat) : Comp := ⟨9, 1, vt, B.l.map txc, ρt⟩
def cI (vi : AV) (B : TB) (ρi : Option Nat) : Comp := ⟨4, 1, vi, B.l.map inc, ρi⟩
/-- What the reference has in hand. -/
structure GBs (b : Nat) (σ : St) (B : TB) (vl vo vt vi : AV) (ρl ρo ρt ρi : Option Nat) : Prop where
  var : getV σ b = some (.cells 74 [vl, vo, vt, vi])
  own : Owns σ [cL vl B ρl, cO vo B ρo, cT vt B ρt, cI vi B ρi]
section
variable {m : Int} {σ : St} {K : AV → St → Prop} {b : Nat} {B : TB} {vl vo vt vi : AV} {ρl ρo ρt ρi : Option Nat}
theorem GBs.l (h : GBs b σ B vl vo vt vi ρl ρo ρt ρi) : Own 40 4 σ vl ((B.l.map bare).map Nd.c) ρl := h.own.ok (cL vl B ρl) (by simp)
theorem GBs.o (h : GBs b σ B vl vo vt vi ρl ρo ρt ρi) : Own 3 1 σ vo (B.op.map ixc) ρo := h.own.ok (cO vo B ρo) (by simp)
theorem GBs.t (h : GBs b σ B vl vo vt vi ρl ρo ρt ρi) : Own 9 1 σ vt (B.l.map txc) ρt := h.own.ok (cT vt B ρt) (by simp)
theorem GBs.i (h : GBs b σ B vl vo vt vi ρl ρo ρt ρi) : Own 4 1 σ vi (B.l.map inc) ρi := h.own.ok (cI vi B ρi) (by simp)
theorem GBs.lens (h : GBs b σ B vl vo vt vi ρl ρo ρt ρi) : lenlX vl = some (.int .i64 B.l.length) ∧ lenlX vo = some (.int .i64 B.op.length) := by
  have a := h.l.len; have c := h.o.len
  simp only [List.length_map] at a c
  exact ⟨a, c⟩
theorem GBs.pushV (h : GBs b σ B vl vo vt vi ρl ρo ρt ρi) (x : VB) : GBs b (σ.pushV x) B vl vo vt vi ρl ρo ρt ρi := by
  have hv := h.var
  have hlt := getV_lt hv
  refine ⟨?_, h.own.pushV x⟩
  simp (disch := first | omega | (simp only [ln]; first | done | omega)) only [walkAll, walkL, walkK, wk, E, Nat.reduceEqDiff, Nat.reduceAdd, Nat.reduceSub, Nat.reduceLeDiff, Int.reduceLT, Int.reduceLE, Int.reduceAdd, Int.reduceSub, Int.reduceToNat, ↓reduceIte]
  exact hv
theorem at_len (al : List (List UInt8 × List UInt8)) : ∀ c ∈ al.map atc, c.length = 2 := fun c hc => by
  obtain ⟨a, _, rfl⟩ := List.mem_map.1 hc; rfl
theorem set_self {α : Type} {l : List α} {i : Nat} {a : α} (h : l[i]? = some a) : l.set i a = l := by
  apply List.ext_getElem?
  intro j
  rw [List.getElem?_set]
  split
  · rename_i e; subst e
    rw [h, if_pos (List.getElem?_eq_some_iff.1 h).1]
  · rfl
end
end Go.Ab.Sz.K
namespace Go.Ab.Sz.K
open Go Go.Ab Go.Proofs Go.RowKit
set_option maxRecDepth 40000
set_option linter.unusedSimpArgs false
section
variable {m : Int} {σ : St} {K : AV → St → Prop}
end
end Go.Ab.Sz.K
namespace Go.Ab.Sz.K
open Go Go.Ab Go.Proofs Go.RowKit
set_option maxRecDepth 40000
set_option linter.unusedSimpArgs false
theorem doneL_len : ∀ (l : List Nd) (ks : List Bool) (out : List Nd), doneL l ks = some out → out.length = l.length
  | [], _, _, h => by cases h; rfl
  | n :: l, [], _, h => by cases h
  | n :: l, true :: ks, out, h => by
    simp only [doneL] at h
    split at h
    · cases hd : doneL l ks with
      | none => rw [hd] at h; cases h
      | some o => rw [hd] at h; cases h; simp [doneL_len l ks o hd]
    · cases h
  | n :: l, false :: ks, out, h => by
    simp only [doneL] at h
    cases hd : doneL l ks with
    | none => rw [hd] at h; cases h
    | some o => rw [hd] at h; cases h; simp [doneL_len l ks o hd]
theorem buildS_len500 (l : List Tok) : (buildS l).1.length ≤ 500 := by
  have hf := (fit_run l ⟨[], [], []⟩ fit_nil).ok.many
  unfold buildS
  split
  · simp
  · split
    · simp
    · split
      · rename_i o ho; rw [doneL_len _ _ o ho]; exact hf
      · simp
section
variable {m : Int} {σ : St} {K : AV → St → Prop}
/-- A token of a text. -/
def toK (t : Go.Ab.Sz.Tok) : Tok := ⟨t.kind, t.name, t.text, t.attrs, t.empty, false⟩
theorem toK_c (l : List Go.Ab.Sz.Tok) : l.map Go.Ab.Sz.Tok.c = (l.map toK).map Tok.c := by
  rw [List.map_map]
  apply List.map_congr_left
  intro t _
  simp only [Function.comp, toK, Tok.c, Go.Ab.Sz.Tok.c, lsq_false]
def parseS (s : List UInt8) : List Nd × Int := if (toksS s).2 == 0 then buildS ((toksS s).1.map toK) else ([], (toksS s).2)
theorem parse_conds (s : List UInt8) (hs : s.length ≤ 5000) : (((toksS s).1.map toK).length < 100000000) ∧ (∀ t ∈ (toksS s).1.map toK, t.attrs.length ≤ 4398046511104 ∧ t.text.length ≤ 140737488355328) ∧ (((toksS s).1.map toK).map fun t => t.text.length).sum ≤ 100000000000000000 := by
  have l1 := toksS_len s
  have l2 := toksS_txt s
  have l3 := sum_le (fun t : Go.Ab.Sz.Tok => t.text.length) (4 * s.length) (toksS s).1 l2
  refine ⟨by rw [List.length_map]; omega, fun t ht => ?_, ?_⟩
  · obtain ⟨x, hx, rfl⟩ := List.mem_map.1 ht
    have a := l1.2 x hx; have b := l2 x hx
    simp only [toK]; omega
  · rw [List.map_map]
    have : (toksS s).1.length * (4 * s.length) ≤ 5000 * 20000 := Nat.mul_le_mul (by omega) (by omega)
    have e : ((fun t : Tok => t.text.length) ∘ toK) = fun t : Go.Ab.Sz.Tok => t.text.length := rfl
    rw [e]; omega
theorem Parse_c (s : List UInt8) (hs : s.length ≤ 5000) (h : K (.tup [lsv ((parseS s).1.map Nd.c), .int .i64 (parseS s).2]) σ) : ACalls Tryz.prog (gD m) 19 [.str s] σ K := by
  obtain ⟨c1, c2, c3⟩ := parse_conds s hs
  refine ACalls_fn tok fm (fk19 _) ?_
  simp (disch := first | omega | (simp only [ln]; first | done | omega)) only [walkAll, walkL, walkK, wk, E, Nat.reduceEqDiff, Nat.reduceAdd, Nat.reduceSub, Nat.reduceLeDiff, Int.reduceLT, Int.reduceLE, Int.reduceAdd, Int.reduceSub, Int.reduceToNat, ↓reduceIte, c19]
  refine Tokens_c s (by omega) ?_
  simp (disch := first | omega | (simp only [ln]; first | done | omega)) only [walkAll, walkL, walkK, wk, E, Nat.reduceEqDiff, Nat.reduceAdd, Nat.reduceSub, Nat.reduceLeDiff, Int.reduceLT, Int.reduceLE, Int.reduceAdd, Int.reduceSub, Int.reduceToNat, ↓reduceIte, bne]
  unfold parseS at h
  cases g : ((toksS s).2 == 0) with
  | false =>
    rw [g] at h
    simp (disch := first | omega | (simp only [ln]; first | done | omega)) only [walkAll, walkL, walkK, wk, E, Nat.reduceEqDiff, Nat.reduceAdd, Nat.reduceSub, Nat.reduceLeDiff, Int.reduceLT, Int.reduceLE, Int.reduceAdd, Int.reduceSub, Int.reduceToNat, ↓reduceIte, bne, g, Bool.not_false]
    exact h
  | true =>
    rw [g] at h
    simp (disch := first | omega | (simp only [ln]; first | done | omega)) only [walkAll, walkL, walkK, wk, E, Nat.reduceEqDiff, Nat.reduceAdd, Nat.reduceSub, Nat.reduceLeDiff, Int.reduceLT, Int.reduceLE, Int.reduceAdd, Int.reduceSub, Int.reduceToNat, ↓reduceIte, bne, g, Bool.not_true]
    rw [toK_c]
    refine Build_c ((toksS s).1.map toK) _ (fun τ => rd_lsv (tok_len _) τ) (lsv_data (data_flat fun t _ => tok_data t)) c1 c2 c3 ?_
    simp (disch := first | omega | (simp only [ln]; first | done | omega)) only [walkAll, walkL, walkK, wk, E, Nat.reduceEqDiff, Nat.reduceAdd, Nat.reduceSub, Nat.reduceLeDiff, Int.reduceLT, Int.reduceLE, Int.reduceAdd, Int.reduceSub, Int.reduceToNat, ↓reduceIte]
    exact h
theorem sameNode_loop (va vb : AV) (la lb : List (List AV)) (g : Nat) (ha : Rd 4 σ va la) (hb : Rd 4 σ vb lb) (hl : la.length = lb.length) (hlt : la.length < 9223372036854775807)
    (hone : ∀ (i : Nat) (c d : List AV), la[i]? = some c → lb[i]? = some d → ∀ K : AV → St → Prop, K (.bool true) σ → ACalls Tryz.prog (gD m) g [.agg c, .agg d] σ K) {Q : EQ} (hq : ∀ e', Q (.exit 0) e' σ) :
    ∀ (rest : List (List AV)) (i : Nat) (e : Env), la.drop i = rest → e 7 = some (.int .i64 i) → e 0 = some va → e 1 = some vb → e 2 = some (.fn (.func g) [] []) → LoopC Tryz.prog tt (gD m) l21_0 Q e σ := by
  intro rest
  induction rest with
  | nil =>
    intro i e hd h7 h0 h1 h2
    have hi : la.length ≤ i := by simpa using hd
    refine LoopC_unfold tok fm ?_
    have hb' : decide ((i : Int) < (la.length : Int)) = false := by simp; omega
    simp (disch := first | omega | (simp only [ln]; first | done | omega)) only [walkAll, walkL, walkK, wk, E, Nat.reduceEqDiff, Nat.reduceAdd, Nat.reduceSub, Nat.reduceLeDiff, Int.reduceLT, Int.reduceLE, Int.reduceAdd, Int.reduceSub, Int.reduceToNat, ↓reduceIte, l21_0x, l21_0b, h7, h0, ha.len, hb']
    exact hq _
  | cons c rest ih =>
    intro i e hd h7 h0 h1 h2
    obtain ⟨hc, hd'⟩ := drop_cons hd
    have hi := (List.getElem?_eq_some_iff.1 hc).1
    obtain ⟨d, hd2⟩ : ∃ d, lb[i]? = some d := ⟨lb[i], List.getElem?_eq_getElem (by omega)⟩
    obtain ⟨p, hp, hpt⟩ := ha.at hc .i64
    obtain ⟨q, hq', hqt⟩ := hb.at hd2 .i64
    have hl1 := hpt.all (ha.1 c (List.mem_of_getElem? hc))
    have hl2 := hqt.all (hb.1 d (List.mem_of_getElem? hd2))
    refine LoopC_unfold tok fm ?_
    have hb' : decide ((i : Int) < (la.length : Int)) = true := by simp; omega
    simp (disch := first | omega | (simp only [ln]; first | done | omega)) only [walkAll, walkL, walkK, wk, E, Nat.reduceEqDiff, Nat.reduceAdd, Nat.reduceSub, Nat.reduceLeDiff, Int.reduceLT, Int.reduceLE, Int.reduceAdd, Int.reduceSub, Int.reduceToNat, ↓reduceIte, l21_0x, l21_0b, h7, h0, h1, h2, ha.len, hb', hp, hq', hl1, hl2]
    refine hone i c d hc hd2 _ ?_
    simp (disch := first | omega | (simp only [ln]; first | done | omega)) only [walkAll, walkL, walkK, wk, E, Nat.reduceEqDiff, Nat.reduceAdd, Nat.reduceSub, Nat.reduceLeDiff, Int.reduceLT, Int.reduceLE, Int.reduceAdd, Int.reduceSub, Int.reduceToNat, ↓reduceIte, h7, h0, h1, h2, hp, hq', hl1, hl2]
    exact ih (i + 1) _ hd' (by simp [put]) (by simp [put, h0]) (by simp [put, h1]) (by simp [put, h2])
/-- Two lists that are alike, one by one. -/
theorem sameNode_c (va vb : AV) (la lb : List (List AV)) (g : Nat) (ha : Rd 4 σ va la) (hb : Rd 4 σ vb lb) (hl : la.length = lb.length) (hlt : la.length < 9223372036854775807)
    (hone : ∀ (i : Nat) (c d : List AV), la[i]? = some c → lb[i]? = some d → ∀ K : AV → St → Prop, K (.bool true) σ → ACalls Tryz.prog (gD m) g [.agg c, .agg d] σ K) (h : K (.bool true) σ) :
    ACalls Tryz.prog (gD m) 21 [va, vb, .fn (.func g) [] []] σ K := by
  refine ACalls_fn tok fm (fk21 _) ?_
  have hne : ((la.length : Int) != (lb.length : Int)) = false := by simp [hl]
  simp (disch := first | omega | (simp only [ln]; first | done | omega)) only [walkAll, walkL, walkK, wk, E, Nat.reduceEqDiff, Nat.reduceAdd, Nat.reduceSub, Nat.reduceLeDiff, Int.reduceLT, Int.reduceLE, Int.reduceAdd, Int.reduceSub, Int.reduceToNat, ↓reduceIte, c21, ha.len, hb.len, hne]
  refine sameNode_loop va vb la lb g ha hb hl hlt hone (fun e' => ?_) la 0 _ rfl (by simp [put]) (by simp [put, E]) (by simp [put, E]) (by simp [put, E])
  simp (disch := first | omega | (simp only [ln]; first | done | omega)) only [walkAll, walkL, walkK, wk, E, Nat.reduceEqDiff, Nat.reduceAdd, Nat.reduceSub, Nat.reduceLeDiff, Int.reduceLT, Int.reduceLE, Int.reduceAdd, Int.reduceSub, Int.reduceToNat, ↓reduceIte]
  exact h

theorem plainAttr_c (l : List (List UInt8 × List UInt8)) (va vb : AV) (ha : Rd 2 σ va (l.map atc)) (hb : Rd 2 σ vb (l.map atc)) (hl : l.length < 9223372036854775807) (h : K (.bool true) σ) : ACalls Tryz.prog (gD m) 35 [va, vb] σ K := by
  refine ACalls_fn tok fm (fk35 _) ?_
  simp (disch := first | omega | (simp only [ln]; first | done | omega)) only [walkAll, walkL, walkK, wk, E, Nat.reduceEqDiff, Nat.reduceAdd, Nat.reduceSub, Nat.reduceLeDiff, Int.reduceLT, Int.reduceLE, Int.reduceAdd, Int.reduceSub, Int.reduceToNat, ↓reduceIte, c35]
  refine sameAttr_c _ _ _ _ _ ha hb rfl (by simpa using hl) (fun i c d hc hd K hK => ?_) ?_
  · rw [hc] at hd; cases hd
    obtain ⟨a, _, rfl⟩ := List.mem_map.1 (List.mem_of_getElem? hc)
    exact plainAttr1_c a.1 a.2 hK
  · simp (disch := first | omega | (simp only [ln]; first | done | omega)) only [walkAll, walkL, walkK, wk, E, Nat.reduceEqDiff, Nat.reduceAdd, Nat.reduceSub, Nat.reduceLeDiff, Int.reduceLT, Int.reduceLE, Int.reduceAdd, Int.reduceSub, Int.reduceToNat, ↓reduceIte]
    exact h
theorem node_c (n : Nd) (hl : n.attrs.length < 9223372036854775807) (h : K (.bool true) σ) : ACalls Tryz.prog (gD m) 22 [.agg n.c, .agg (plainN n).c] σ K := by
  refine ACalls.close σ _ (.refl σ) (by simp only [dataR]) ?_ h
  refine ACalls_fn tok fm (fk22 _) ?_
  have e1 : ∀ a : Int, (a == a) = true := fun a => by simp
  have e2 : ∀ a : List UInt8, (a == a) = true := fun a => by simp
  simp (disch := first | omega | (simp only [ln]; first | done | omega)) only [walkAll, walkL, walkK, wk, E, Nat.reduceEqDiff, Nat.reduceAdd, Nat.reduceSub, Nat.reduceLeDiff, Int.reduceLT, Int.reduceLE, Int.reduceAdd, Int.reduceSub, Int.reduceToNat, ↓reduceIte, c22, Nd.c, plainN, e1, e2, lsq_cells, lsq_one]
  refine plainAttr_c n.attrs _ _ (rd_lsq _ (at_len _) _) (rd_lsq _ (at_len _) _) hl ?_
  simp (disch := first | omega | (simp only [ln]; first | done | omega)) only [walkAll, walkL, walkK, wk, E, Nat.reduceEqDiff, Nat.reduceAdd, Nat.reduceSub, Nat.reduceLeDiff, Int.reduceLT, Int.reduceLE, Int.reduceAdd, Int.reduceSub, Int.reduceToNat, ↓reduceIte]
  exact ⟨by repeat first | exact Grown.refl _ | assumption | apply Grown.pushV | apply Grown.pushR | (refine Grown.setV ?_ (by first | omega | (simp only [nvsR]; first | done | omega))) | (refine Grown.setOld ‹_› (by first | omega | (simp only [nvsR]; first | done | omega)) _) | (refine Grown.setOld0 ?_ (by first | omega | (simp only [nvsR]; first | done | omega)) _), .inl rfl⟩
theorem nd_len (l : List Nd) : ∀ e ∈ l.map Nd.c, e.length = 4 := fun e he => by
  obtain ⟨a, _, rfl⟩ := List.mem_map.1 he; rfl
theorem sameNodes_c (l : List Nd) (hl : l.length < 9223372036854775807) (ha : ∀ n ∈ l, n.attrs.length < 9223372036854775807) (h : K (.bool true) σ) :
    ACalls Tryz.prog (gD m) 21 [lsv (l.map Nd.c), lsv ((l.map plainN).map Nd.c), .fn (.func 22) [] []] σ K := by
  refine sameNode_c _ _ _ _ _ (rd_lsv (nd_len l) σ) (rd_lsv (nd_len _) σ) (by simp) (by simpa using hl) (fun i c d hc hd K hK => ?_) h
  rw [List.getElem?_map] at hc
  rw [List.getElem?_map, List.getElem?_map] at hd
  cases hn : l[i]? with
  | none => rw [hn] at hc; cases hc
  | some n =>
    rw [hn] at hc hd
    cases hc; cases hd
    exact node_c n (ha n (List.mem_of_getElem? hn)) hK
end
end Go.Ab.Sz.K
