/-
  The reference's way to a tree: what it has in hand; its kids.
-/
import Derived.Test.YtpejbkckppnamaaGreatDoorK8
import Derived.Test.YtpejbkckppnamaaGreatDoorAbB
import Derived.Test.YtpejbkckppnamaaGreatDoorT8
set_option linter.all false
set_option linter.unusedVariables false
set_option linter.unusedSimpArgs false
namespace Go.Ab.Sz.K
open Go Go.Ab Go.Proofs Go.RowKit
set_option maxRecDepth 40000
set_option linter.unusedSimpArgs false
/-- Which have kids is known. -/
structure TB.Fit (b : TB) : Prop where
  ok : b.Ok
  kid : ∀ (k : Nat) n (i : Nat), b.l[k]? = some n → n.parent = i → b.kids[i]? = some true
  has : ∀ i : Nat, b.kids[i]? = some true → ∃ (k : Nat) (n : Nd), b.l[k]? = some n ∧ n.parent = i
theorem fit_nil : TB.Fit ⟨[], [], []⟩ := ⟨⟨by simp, rfl, by decide, by decide⟩, by simp, by simp⟩
theorem raise_get {b : TB} {i : Nat} (h : b.kids[i]? = some true) : b.raise[i]? = some true := by
  unfold TB.raise
  split
  · exact h
  · rename_i j _
    have hlt := (List.getElem?_eq_some_iff.1 h).1
    by_cases hij : j = i
    · subst hij; rw [List.getElem?_set_self hlt]
    · rw [List.getElem?_set_ne hij]; exact h
theorem fit_begin {b : TB} (h : b.Fit) (t : Tok) (ho : (b.begin t).1.Ok) : (b.begin t).1.Fit := by
  revert ho
  unfold TB.begin
  by_cases g1 : (t.name == []) = true
  · rw [if_pos g1]; exact fun _ => h
  rw [if_neg g1]
  by_cases g2 : (b.op == [] && !(b.l == [])) = true
  · rw [if_pos g2]; exact fun _ => h
  rw [if_neg g2]
  by_cases g3 : 32 ≤ b.op.length
  · rw [if_pos g3]; exact fun _ => h
  rw [if_neg g3]
  by_cases g4 : 500 ≤ b.l.length
  · rw [if_pos g4]; exact fun _ => h
  rw [if_neg g4]
  intro ho
  have hkl := h.ok.kids
  have htop : (b.op = [] ∧ b.top = -1) ∨ ∃ i : Nat, b.top = i ∧ b.op.getLast? = some i ∧ i < b.l.length := by
    by_cases h0 : b.op = []
    · exact .inl ⟨h0, by unfold TB.top; rw [h0]; rfl⟩
    · obtain ⟨i, a, c, d⟩ := TB.top_pos h0
      exact .inr ⟨i, a, c, h.ok.op i d⟩
  have hrl := raise_len b
  refine ⟨ho, fun k n i hn hi => ?_, fun i hi => ?_⟩
  · have hlift : b.raise[i]? = some true → (b.raise ++ [false])[i]? = some true := fun hh => by
      rw [List.getElem?_append_left (List.getElem?_eq_some_iff.1 hh).1]; exact hh
    rcases Nat.lt_or_ge k b.l.length with hlt | hge
    · rw [List.getElem?_append_left hlt] at hn
      exact hlift (raise_get (h.kid k n i hn hi))
    · rw [List.getElem?_append_right hge] at hn
      have hz : k - b.l.length = 0 := by
        have := (List.getElem?_eq_some_iff.1 hn).1
        simp at this; omega
      rw [hz] at hn
      have hn' : n = ⟨b.top, t.name, [], t.attrs, t.nn⟩ := by simpa using hn.symm
      rw [hn'] at hi
      simp only at hi
      rcases htop with ⟨_, h3⟩ | ⟨j, h3, h4, h5⟩
      · omega
      · have : i = j := by omega
        subst this
        apply hlift
        unfold TB.raise
        rw [h4]
        simp only
        rw [List.getElem?_set_self (by omega)]
  · have hlt : i < b.raise.length := by
      rcases Nat.lt_or_ge i b.raise.length with h | hge
      · exact h
      · rw [List.getElem?_append_right hge] at hi
        have h1 := (List.getElem?_eq_some_iff.1 hi).1
        have hz : i - b.raise.length = 0 := by simp at h1; omega
        rw [hz] at hi
        simp at hi
    rw [List.getElem?_append_left hlt] at hi
    have old : b.kids[i]? = some true → ∃ (k : Nat) (n : Nd), (b.l ++ [⟨b.top, t.name, [], t.attrs, t.nn⟩])[k]? = some n ∧ n.parent = i := fun hh => by
      obtain ⟨k, n, h1, h2⟩ := h.has i hh
      exact ⟨k, n, by rw [List.getElem?_append_left (List.getElem?_eq_some_iff.1 h1).1]; exact h1, h2⟩
    rcases htop with ⟨h0, _⟩ | ⟨j, h3, h4, h5⟩
    · apply old
      unfold TB.raise at hi
      rw [h0] at hi
      exact hi
    · by_cases hij : i = j
      · subst hij
        exact ⟨b.l.length, ⟨b.top, t.name, [], t.attrs, t.nn⟩, by simp, h3⟩
      · apply old
        unfold TB.raise at hi
        rw [h4] at hi
        simp only at hi
        rw [List.getElem?_set_ne (Ne.symm hij)] at hi
        exact hi
theorem fit_fin {b : TB} (h : b.Fit) (t : Tok) (ho : (b.fin t).1.Ok) : (b.fin t).1.Fit := by
  revert ho
  unfold TB.fin
  split
  · exact fun _ => h
  · split
    · split
      · exact fun ho => ⟨ho, h.kid, h.has⟩
      · exact fun _ => h
    · exact fun _ => h
theorem fit_txt {b : TB} (h : b.Fit) (t : Tok) (ho : (b.txt t).1.Ok) : (b.txt t).1.Fit := by
  revert ho
  unfold TB.txt
  split
  · split <;> exact fun _ => h
  · rename_i i _
    split
    · rename_i n hn
      intro ho
      have hlt := (List.getElem?_eq_some_iff.1 hn).1
      have old : ∀ (k : Nat) x, (b.l.set i { n with text := n.text ++ t.text })[k]? = some x → ∃ y, b.l[k]? = some y ∧ x.parent = y.parent := fun k x hx => by
        by_cases hik : i = k
        · subst hik
          rw [List.getElem?_set_self hlt] at hx
          cases hx
          exact ⟨n, hn, rfl⟩
        · rw [List.getElem?_set_ne hik] at hx
          exact ⟨x, hx, rfl⟩
      refine ⟨ho, fun k x j hx hj => ?_, fun j hj => ?_⟩
      · obtain ⟨y, h1, h2⟩ := old k x hx
        exact h.kid k y j h1 (by rw [← h2]; exact hj)
      · obtain ⟨k, x, h1, h2⟩ := h.has j hj
        by_cases hik : i = k
        · subst hik
          rw [hn] at h1; cases h1
          exact ⟨i, _, List.getElem?_set_self hlt, h2⟩
        · exact ⟨k, x, by rw [List.getElem?_set_ne hik]; exact h1, h2⟩
    · exact fun _ => h
theorem fit_step {b : TB} (h : b.Fit) (t : Tok) : (b.step t).1.Fit := by
  have ho := TB.step_ok h.ok t
  revert ho
  unfold TB.step
  split
  · exact fit_begin h t
  · split
    · exact fit_fin h t
    · split
      · exact fit_txt h t
      · exact fun _ => h
theorem fit_run : ∀ (l : List Tok) (b : TB), b.Fit → (runL b l).1.Fit
  | [], _, h => h
  | t :: l, b, h => by
    simp only [runL]
    split
    · exact fit_run l _ (fit_step h t)
    · exact h
/-- A node without its text. -/
def bare (n : Nd) : Nd := { n with text := [], nn := false }
def plainN (n : Nd) : Nd := { n with nn := false }
theorem kidsF_same (i : Int) : ∀ (l l' : List Nd) (k : Nat), l.map (·.parent) = l'.map (·.parent) → kidsF i k l = kidsF i k l'
  | [], [], _, _ => rfl
  | [], _ :: _, _, h => by cases h
  | _ :: _, [], _, h => by cases h
  | n :: l, n' :: l', k, h => by
    simp only [List.map_cons, List.cons.injEq] at h
    simp only [kidsF, h.1, kidsF_same i l l' (k + 1) h.2]
theorem kidsF_pos (i : Int) : ∀ (l : List Nd) (k : Nat), kidsF i k l ≠ [] ↔ ∃ (j : Nat) (n : Nd), l[j]? = some n ∧ n.parent = i
  | [], _ => by simp [kidsF]
  | n :: l, k => by
    have ih := kidsF_pos i l (k + 1)
    simp only [kidsF]
    by_cases g : n.parent = i
    · rw [if_pos (by simpa using g)]
      exact ⟨fun _ => ⟨0, n, rfl, g⟩, fun _ => by simp⟩
    · rw [if_neg (by simpa using g), List.nil_append, ih]
      constructor
      · rintro ⟨j, x, h1, h2⟩; exact ⟨j + 1, x, h1, h2⟩
      · rintro ⟨j, x, h1, h2⟩
        cases j with
        | zero => simp at h1; subst h1; exact absurd h2 g
        | succ j => exact ⟨j, x, h1, h2⟩
theorem Fit.kidsS {b : TB} (h : b.Fit) {l' : List Nd} (hp : l'.map (·.parent) = b.l.map (·.parent)) {i : Nat} {q : Bool} (hq : b.kids[i]? = some q) : (kidsS l' i).length = 0 ↔ q = false := by
  have hlen : l'.length = b.l.length := by have := congrArg List.length hp; simpa using this
  have hi : i < l'.length := by rw [hlen, ← h.ok.kids]; exact (List.getElem?_eq_some_iff.1 hq).1
  unfold K.kidsS
  rw [if_pos ⟨by omega, by omega⟩, kidsF_same i l' b.l 0 hp]
  have hk := kidsF_pos i b.l 0
  rw [List.length_eq_zero_iff]
  constructor
  · intro e
    cases q with
    | false => rfl
    | true => exact absurd e (hk.2 (h.has i hq))
  · rintro rfl
    by_cases e : kidsF i 0 b.l = []
    · exact e
    · obtain ⟨k, n, h1, h2⟩ := hk.1 e
      have := h.kid k n i h1 h2
      rw [hq] at this; cases this
section
variable {m : Int} {σ : St} {K : AV → St → Prop}
theorem Rd.grown {z : Nat} {σ τ : St} {v : AV} {l : List (List AV)} (h : Rd z σ v l) (g : Grown σ τ) : Rd z τ v l := by
  obtain ⟨a, b, rfl⟩ := g
  refine ⟨h.1, h.2.imp id (fun h => h.imp id (fun h => h.imp id (fun ⟨r, off, row, h1, h2, h3⟩ => ⟨r, off, row, h1, ?_, h3⟩)))⟩
  simp only [getR] at *
  rw [List.getElem?_append_left (List.getElem?_eq_some_iff.1 h2).1]; exact h2
theorem rkids_loop (l : List Nd) (i : Int) (v : AV) (hl : l.length < 100000000) (hRd : Rd 4 σ v (l.map Nd.c)) {Q : EQ} : ∀ (rest : List Nd) (k : Nat) (acc : List Nat) (u : AV) (ρ : Option Nat) (τ : St) (e : Env),
    l.drop k = rest → acc.length ≤ k → Lst 3 1 τ u (acc.map ixc) ρ → (∀ r, ρ = some r → nrs σ ≤ r) → Grown σ τ → e 0 = some v → e 1 = some (.int .i64 i) → e 5 = some u → e 6 = some (.int .i64 k) →
    (∀ e' τ' u' ρ', Lst 3 1 τ' u' ((acc ++ (if 0 ≤ i ∧ i < l.length then kidsF i k rest else [])).map ixc) ρ' → (∀ r, ρ' = some r → nrs σ ≤ r) → Grown σ τ' → e' 5 = some u' → Q (.exit 0) e' τ') → LoopC Tryz.prog tt (gD m) l25_0 Q e τ := by
  intro rest
  induction rest with
  | nil =>
    intro k acc u ρ τ e hd hk hL hρ hG h0 h1 h5 h6 hx
    have hi : l.length ≤ k := by simpa using hd
    have hb : decide ((k : Int) < (l.length : Int)) = false := by simp; omega
    have hlen := (Rd.grown hRd hG).len
    rw [List.length_map] at hlen
    refine LoopC_unfold tok fm ?_
    simp (disch := first | omega | (simp only [ln]; first | done | omega)) only [walkAll, walkL, walkK, wk, E, Nat.reduceEqDiff, Nat.reduceAdd, Nat.reduceSub, Nat.reduceLeDiff, Int.reduceLT, Int.reduceLE, Int.reduceAdd, Int.reduceSub, Int.reduceToNat, ↓reduceIte, l25_0x, l25_0b, h0, h6, hlen, hb]
    refine hx _ τ u ρ ?_ hρ hG (by simp [put, h5])
    have : (if 0 ≤ i ∧ i < (l.length : Int) then kidsF i k [] else []) = [] := by split <;> rfl
    rw [this, List.append_nil]; exact hL
  | cons n rest ih =>
    intro k acc u ρ τ e hd hk hL hρ hG h0 h1 h5 h6 hx
    obtain ⟨hc, hd'⟩ := drop_cons hd
    have hi := (List.getElem?_eq_some_iff.1 hc).1
    have hb : decide ((k : Int) < (l.length : Int)) = true := by simp; omega
    have hR2 := Rd.grown hRd hG
    obtain ⟨p, hp, hpt⟩ := hR2.at (i := k) (c := n.c) (by rw [List.getElem?_map, hc]; rfl) .i64
    obtain ⟨p0, hp0, hl0⟩ := hpt.fld 0 _ rfl
    have hlen := hR2.len
    rw [List.length_map] at hlen
    have w1 : IntKind.i64.wrap ((k : Int) + 1) = ((k + 1 : Nat) : Int) := by rw [wrap_i64 _ (by omega) (by omega)]; rfl
    refine LoopC_unfold tok fm ?_
    by_cases g2 : 0 ≤ i
    case neg =>
      have q2 : decide (0 ≤ i) = false := decide_eq_false g2
      simp (disch := first | omega | (simp only [ln]; first | done | omega)) only [walkAll, walkL, walkK, wk, E, Nat.reduceEqDiff, Nat.reduceAdd, Nat.reduceSub, Nat.reduceLeDiff, Int.reduceLT, Int.reduceLE, Int.reduceAdd, Int.reduceSub, Int.reduceToNat, ↓reduceIte, l25_0x, l25_0b, h0, h1, h6, hlen, hb, q2]
      refine hx _ τ u ρ ?_ hρ hG (by simp [put, h5])
      rw [if_neg (by omega), List.append_nil]; exact hL
    have q2 : decide (0 ≤ i) = true := decide_eq_true g2
    by_cases g3 : i < (l.length : Int)
    case neg =>
      have q3 : decide (i < (l.length : Int)) = false := decide_eq_false g3
      simp (disch := first | omega | (simp only [ln]; first | done | omega)) only [walkAll, walkL, walkK, wk, E, Nat.reduceEqDiff, Nat.reduceAdd, Nat.reduceSub, Nat.reduceLeDiff, Int.reduceLT, Int.reduceLE, Int.reduceAdd, Int.reduceSub, Int.reduceToNat, ↓reduceIte, l25_0x, l25_0b, h0, h1, h6, hlen, hb, q2, q3]
      refine hx _ τ u ρ ?_ hρ hG (by simp [put, h5])
      rw [if_neg (by omega), List.append_nil]; exact hL
    have q3 : decide (i < (l.length : Int)) = true := decide_eq_true g3
    cases g1 : (n.parent == i) with
    | false =>
      simp (disch := first | omega | (simp only [ln]; first | done | omega)) only [walkAll, walkL, walkK, wk, E, Nat.reduceEqDiff, Nat.reduceAdd, Nat.reduceSub, Nat.reduceLeDiff, Int.reduceLT, Int.reduceLE, Int.reduceAdd, Int.reduceSub, Int.reduceToNat, ↓reduceIte, l25_0x, l25_0b, h0, h1, h5, h6, hlen, hb, q2, q3, hp, hp0, hl0, g1, w1]
      refine ih (k + 1) acc u ρ τ _ hd' (by omega) hL hρ hG (by simp [put, h0]) (by simp [put, h1]) (by simp [put, h5]) (by simp [put]) ?_
      have e1 : kidsF i k (n :: rest) = kidsF i (k + 1) rest := by simp only [kidsF, g1]; rfl
      rw [e1] at hx
      exact hx
    | true =>
      simp (disch := first | omega | (simp only [ln]; first | done | omega)) only [walkAll, walkL, walkK, wk, E, Nat.reduceEqDiff, Nat.reduceAdd, Nat.reduceSub, Nat.reduceLeDiff, Int.reduceLT, Int.reduceLE, Int.reduceAdd, Int.reduceSub, Int.reduceToNat, ↓reduceIte, l25_0x, l25_0b, h0, h1, h5, h6, hlen, hb, q2, q3, hp, hp0, hl0, g1, w1]
      refine app_one (e := 3) (z := 1) (b := 8) (c := [.int .i64 k]) hL rfl rfl (by simp; omega) (fun u' σ' ρ' hL' hb' => ?_)
      simp (disch := first | omega | (simp only [ln]; first | done | omega)) only [walkAll, walkL, walkK, wk, E, Nat.reduceEqDiff, Nat.reduceAdd, Nat.reduceSub, Nat.reduceLeDiff, Int.reduceLT, Int.reduceLE, Int.reduceAdd, Int.reduceSub, Int.reduceToNat, ↓reduceIte, h6, w1]
      refine ih (k + 1) (acc ++ [k]) u' ρ' σ' _ hd' (by simp; omega) (by rw [List.map_append]; exact hL') (fun r hr => ?_) (hb'.grown hG hρ) (by simp [put, putE, h0]) (by simp [put, putE, h1]) (by simp [put, putE]) (by simp [put, putE]) (fun e' τ' u2 ρ2 hL2 hρ2 hG2 h52 => ?_)
      · rcases hb'.new with h | ⟨r', h, hle⟩
        · exact hρ r (by rw [← h]; exact hr)
        · rw [h] at hr; cases hr
          exact Nat.le_trans hG.nrs hle
      · refine hx e' τ' u2 ρ2 ?_ hρ2 hG2 h52
        rw [if_pos ⟨g2, g3⟩] at hL2 ⊢
        have : acc ++ kidsF i k (n :: rest) = acc ++ [k] ++ kidsF i (k + 1) rest := by simp only [kidsF, g1, if_true, List.append_assoc]
        rw [this]; exact hL2
theorem ix_data (l : List Nat) : DataL (l.map ixc).flatten := data_flat fun k _ => by simp only [ixc, dataR]
theorem rKids_c (l : List Nd) (v : AV) (hRd : Rd 4 σ v (l.map Nd.c)) (i : Int) (hl : l.length < 100000000) (h : K (lsv ((kidsS l i).map ixc)) σ) : ACalls Tryz.prog (gD m) 25 [v, .int .i64 i] σ K := by
  refine ACalls.close σ _ (.refl σ) (lsv_data (ix_data _)) ?_ h
  have hlen := hRd.len
  rw [List.length_map] at hlen
  refine ACalls_fn tok fm (fk25 _) ?_
  simp (disch := first | omega | (simp only [ln]; first | done | omega)) only [walkAll, walkL, walkK, wk, E, Nat.reduceEqDiff, Nat.reduceAdd, Nat.reduceSub, Nat.reduceLeDiff, Int.reduceLT, Int.reduceLE, Int.reduceAdd, Int.reduceSub, Int.reduceToNat, ↓reduceIte, c25]
  refine rkids_loop l i v hl hRd l 0 [] .nils none σ _ rfl (by simp) (Lst.nil _ _ _) (fun r hr => by cases hr) (.refl σ) (by simp [put, E]) (by simp [put, E]) (by simp [put, E]) (by simp [put, E]) (fun e' τ' u' ρ' hL hρ hG h5 => ?_)
  simp (disch := first | omega | (simp only [ln]; first | done | omega)) only [walkAll, walkL, walkK, wk, E, Nat.reduceEqDiff, Nat.reduceAdd, Nat.reduceSub, Nat.reduceLeDiff, Int.reduceLT, Int.reduceLE, Int.reduceAdd, Int.reduceSub, Int.reduceToNat, ↓reduceIte, h5]
  exact close_lst hL hG hρ (fun a => a) (fun k els => rfl)
end
end Go.Ab.Sz.K
namespace Go.Ab.Sz.K
open Go Go.Ab Go.Proofs Go.RowKit
set_option maxRecDepth 40000
set_option linter.unusedSimpArgs false
def txc (n : Nd) : List AV := [.str n.text]
def inc (n : Nd) : List AV := [.bool (!blankS n.text)]
def cL (vl : AV) (B : TB) (ρl : Option Nat) : Comp := ⟨40, 4, vl, (B.l.map bare).map Nd.c, ρl⟩
def cO (vo : AV) (B : TB) (ρo : Option Nat) : Comp := ⟨3, 1, vo, B.op.map ixc, ρo⟩
def cT (vt : AV) (B : TB) (ρt : Option Nat) : Comp := ⟨9, 1, vt, B.l.map txc, ρt⟩
def cI (vi : AV) (B : TB) (ρi : Option Nat) : Comp := ⟨4, 1, vi, B.l.map inc, ρi⟩
/-- What the reference has in hand. -/
structure GBs (b : Nat) (σ : St) (B : TB) (vl vo vt vi : AV) (ρl ρo ρt ρi : Option Nat) : Prop where
  var : getV σ b = some (.cells 74 [vl, vo, vt, vi])
  own : Owns σ [cL vl B ρl, cO vo B ρo, cT vt B ρt, cI vi B ρi]
section
variable {m : Int} {σ : St} {K : AV → St → Prop} {b : Nat} {B : TB} {vl vo vt vi : AV} {ρl ρo ρt ρi : Option Nat}
theorem GBs.l (h : GBs b σ B vl vo vt vi ρl ρo ρt ρi) : Own 40 4 σ vl ((B.l.map bare).map Nd.c) ρl := h.own.ok (cL vl B ρl) (by simp)
theorem GBs.o (h : GBs b σ B vl vo vt vi ρl ρo ρt ρi) : Own 3 1 σ vo (B.op.map ixc) ρo := h.own.ok (cO vo B ρo) (by simp)
theorem GBs.t (h : GBs b σ B vl vo vt vi ρl ρo ρt ρi) : Own 9 1 σ vt (B.l.map txc) ρt := h.own.ok (cT vt B ρt) (by simp)
theorem GBs.i (h : GBs b σ B vl vo vt vi ρl ρo ρt ρi) : Own 4 1 σ vi (B.l.map inc) ρi := h.own.ok (cI vi B ρi) (by simp)
theorem GBs.lens (h : GBs b σ B vl vo vt vi ρl ρo ρt ρi) : lenlX vl = some (.int .i64 B.l.length) ∧ lenlX vo = some (.int .i64 B.op.length) := by
  have a := h.l.len; have c := h.o.len
  simp only [List.length_map] at a c
  exact ⟨a, c⟩
theorem GBs.pushV (h : GBs b σ B vl vo vt vi ρl ρo ρt ρi) (x : VB) : GBs b (σ.pushV x) B vl vo vt vi ρl ρo ρt ρi := by
  have hv := h.var
  have hlt := getV_lt hv
  refine ⟨?_, h.own.pushV x⟩
  simp (disch := first | omega | (simp only [ln]; first | done | omega)) only [walkAll, walkL, walkK, wk, E, Nat.reduceEqDiff, Nat.reduceAdd, Nat.reduceSub, Nat.reduceLeDiff, Int.reduceLT, Int.reduceLE, Int.reduceAdd, Int.reduceSub, Int.reduceToNat, ↓reduceIte]
  exact hv
theorem elsA_lsq (σ : St) (nn : Bool) (l : List (List AV)) : elsA σ (lsq nn l) = some l := by
  unfold lsq
  split
  · rename_i h; subst h; split <;> rfl
  · rfl
theorem at_len (al : List (List UInt8 × List UInt8)) : ∀ c ∈ al.map atc, c.length = 2 := fun c hc => by
  obtain ⟨a, _, rfl⟩ := List.mem_map.1 hc; rfl
theorem at_ones (al : List (List UInt8 × List UInt8)) : (al.map atc).all (fun c => c.all AV.one) = true := by
  rw [List.all_eq_true]; intro c hc; obtain ⟨a, _, rfl⟩ := List.mem_map.1 hc; rfl
theorem bare_frz (l : List Nd) : ∀ c ∈ (l.map bare).map Nd.c, ∀ r els, frzL r els c = c := fun c hc r els => by
  obtain ⟨n, _, rfl⟩ := List.mem_map.1 hc
  unfold Nd.c lsq
  simp only [frzL, frz]
  split
  · split <;> simp only [frz]
  · simp only [frz]
theorem set_self {α : Type} {l : List α} {i : Nat} {a : α} (h : l[i]? = some a) : l.set i a = l := by
  apply List.ext_getElem?
  intro j
  rw [List.getElem?_set]
  split
  · rename_i e; subst e
    rw [h, if_pos (List.getElem?_eq_some_iff.1 h).1]
  · rfl
theorem grow_lists {t : Tok} (vl vo vt vi : AV) (ρl ρo ρt ρi : Option Nat) (op : List Nat) (top : Int) : [cL vl ⟨B.l ++ [⟨top, t.name, [], t.attrs, t.nn⟩], op, B.raise ++ [false]⟩ ρl, cO vo ⟨B.l ++ [⟨top, t.name, [], t.attrs, t.nn⟩], op, B.raise ++ [false]⟩ ρo, cT vt ⟨B.l ++ [⟨top, t.name, [], t.attrs, t.nn⟩], op, B.raise ++ [false]⟩ ρt, cI vi ⟨B.l ++ [⟨top, t.name, [], t.attrs, t.nn⟩], op, B.raise ++ [false]⟩ ρi] =
    [⟨40, 4, vl, (B.l.map bare).map Nd.c ++ [[.int .i64 top, .str t.name, .str []] ++ [lsv (t.attrs.map atc)]], ρl⟩, ⟨3, 1, vo, op.map ixc, ρo⟩, ⟨9, 1, vt, B.l.map txc ++ [[AV.str []]], ρt⟩, ⟨4, 1, vi, B.l.map inc ++ [[AV.bool false]], ρi⟩] := by
  simp [cL, cO, cT, cI, bare, Nd.c, lsq_false, txc, inc]
  rfl
theorem take_c (hB : GBs b σ B vl vo vt vi ρl ρo ρt ρi) (hO : B.Ok) (t : Tok) (hat : t.attrs.length ≤ 4398046511104) (htx : t.text.length ≤ 140737488355328) (hX : ∀ n ∈ B.l, n.text.length ≤ 100000000000000000)
    (hK : ∀ σ' vl' vo' vt' vi' ρl' ρo' ρt' ρi', GBs b σ' (B.step t).1 vl' vo' vt' vi' ρl' ρo' ρt' ρi' → Past b σ σ' → K (.int .i64 (B.step t).2) σ') : ACalls Tryz.prog (gD m) 38 [.vp b 0, .agg t.c] σ K := by
  have hv := hB.var
  have hlt := getV_lt hv
  obtain ⟨hll, hlo⟩ := hB.lens
  have h1 := hO.deep
  have h2 := hO.many
  have past : ∀ σ' : St, nvs σ ≤ nvs σ' → (∀ j, j < nvs σ → j ≠ b → getV σ' j = getV σ j) → Past b σ σ' := fun _ a c => ⟨a, c⟩
  have out : ∀ (x : Int) (σ' : St), K (.int .i64 x) σ' → ∃ r2 σ2, Conv (.int .i64 x) σ' r2 σ2 ∧ K r2 σ2 := fun x σ' h => ⟨_, _, Conv.refl _ _, h⟩
  refine ACalls.conv ?_
  refine ACalls_fn tok fm (fk38 _) ?_
  by_cases ho : B.op = []
  · have ht : B.top = -1 := by unfold TB.top; rw [ho]; rfl
    have q0 : decide ((0 : Int) < (B.op.length : Int)) = false := by rw [ho]; rfl
    have q3 : decide ((32 : Int) ≤ (B.op.length : Int)) = false := by rw [ho]; rfl
    have same : ∀ x : Int, GBs b (σ.pushV (.cells 30 t.c)) B vl vo vt vi ρl ρo ρt ρi ∧ Past b σ (σ.pushV (.cells 30 t.c)) := fun _ => ⟨hB.pushV _, past _ (by simp only [nvsR]; omega) (fun j hj hb => by simp (disch := first | omega | (simp only [ln]; first | done | omega)) only [walkAll, walkL, walkK, wk, E, Nat.reduceEqDiff, Nat.reduceAdd, Nat.reduceSub, Nat.reduceLeDiff, Int.reduceLT, Int.reduceLE, Int.reduceAdd, Int.reduceSub, Int.reduceToNat, ↓reduceIte])⟩
    cases g1 : (t.kind == 1) with
    | true =>
      have e : B.step t = B.begin t := by unfold TB.step; simp only [g1]; rfl
      rw [e] at hK
      cases g2 : (t.name == []) with
      | true =>
        have e2 : B.begin t = (B, 9) := by unfold TB.begin; rw [g2]; rfl
        rw [e2] at hK
        simp (disch := first | omega | (simp only [ln]; first | done | omega)) only [walkAll, walkL, walkK, wk, E, Nat.reduceEqDiff, Nat.reduceAdd, Nat.reduceSub, Nat.reduceLeDiff, Int.reduceLT, Int.reduceLE, Int.reduceAdd, Int.reduceSub, Int.reduceToNat, ↓reduceIte, c38, hv, Tok.c, hlo, q0, g1, g2]
        exact out _ _ (hK _ _ _ _ _ _ _ _ _ (same 0).1 (same 0).2)
      | false =>
        by_cases hl0 : B.l = []
        · have q2 : decide ((0 : Int) < (B.l.length : Int)) = false := by rw [hl0]; rfl
          have q4 : decide ((500 : Int) ≤ (B.l.length : Int)) = false := by rw [hl0]; rfl
          simp (disch := first | omega | (simp only [ln]; first | done | omega)) only [walkAll, walkL, walkK, wk, E, Nat.reduceEqDiff, Nat.reduceAdd, Nat.reduceSub, Nat.reduceLeDiff, Int.reduceLT, Int.reduceLE, Int.reduceAdd, Int.reduceSub, Int.reduceToNat, ↓reduceIte, c38, hv, Tok.c, hlo, hll, q0, g1, g2, q2, q3, q4]
--A--
          refine data_copy (e := 64) (z := 2) (b := 32) (l := t.attrs.map atc) (elsA_lsq _ _ _) (at_len _) (at_ones _) (by simp; omega) (fun va σ2 ρa hA hbA hnil hsome => ?_)
          have hav : va = .nils ∨ t.attrs.map atc ≠ [] := by by_cases h : t.attrs.map atc = [] <;> simp_all
          have hG2 : Owns σ2 [⟨64, 2, va, t.attrs.map atc, ρa⟩, cL vl B ρl, cO vo B ρo, cT vt B ρt, cI vi B ρi] := (hB.own.pushV _).add ⟨64, 2, va, t.attrs.map atc, ρa⟩ hA hbA
          obtain ⟨cva, ova⟩ := hA.cells
          have hn2 : nvs σ2 = nvs σ + 1 := by rw [hbA.nvs]; simp only [nvsR]
          have hv2 : getV σ2 b = some (.cells 74 [vl, vo, vt, vi]) := by rw [hbA.getV]; simp (disch := first | omega | (simp only [ln]; first | done | omega)) only [walkAll, walkL, walkK, wk, E, Nat.reduceEqDiff, Nat.reduceAdd, Nat.reduceSub, Nat.reduceLeDiff, Int.reduceLT, Int.reduceLE, Int.reduceAdd, Int.reduceSub, Int.reduceToNat, ↓reduceIte, hv]
          have ht2 : getV σ2 (nvs σ) = some (.cells 30 [.int .i64 t.kind, .str t.name, .str t.text, lsq t.nn (t.attrs.map atc), .bool t.empty]) := by rw [hbA.getV]; simp (disch := first | omega | (simp only [ln]; first | done | omega)) only [walkAll, walkL, walkK, wk, E, Nat.reduceEqDiff, Nat.reduceAdd, Nat.reduceSub, Nat.reduceLeDiff, Int.reduceLT, Int.reduceLE, Int.reduceAdd, Int.reduceSub, Int.reduceToNat, ↓reduceIte]
          have hb2 : ∀ j, j < nvs σ → getV σ2 j = getV σ j := fun j hj => by rw [hbA.getV]; simp (disch := first | omega | (simp only [ln]; first | done | omega)) only [walkAll, walkL, walkK, wk, E, Nat.reduceEqDiff, Nat.reduceAdd, Nat.reduceSub, Nat.reduceLeDiff, Int.reduceLT, Int.reduceLE, Int.reduceAdd, Int.reduceSub, Int.reduceToNat, ↓reduceIte]
          simp (disch := first | omega | (simp only [ln]; first | done | omega)) only [walkAll, walkL, walkK, wk, E, Nat.reduceEqDiff, Nat.reduceAdd, Nat.reduceSub, Nat.reduceLeDiff, Int.reduceLT, Int.reduceLE, Int.reduceAdd, Int.reduceSub, Int.reduceToNat, ↓reduceIte, hv2, ht2, cva, ova]
          have hG2' := hG2.rb (RB.pushR σ2 ⟨40, 4, 0, [[.int .i64 (-1), .str t.name, .str [], va]]⟩)
          refine own_appx (hG2'.ok (cL vl B ρl) (by simp)) (elsA_one (getR_last _ _)) rfl (by simp only [List.all_cons, List.all_nil, walkO, ova, Bool.and_self]) (by simp [cL]; omega) (fun vl3 σ3 ρl3 hl3 hb3 => ?_)
          have hG3 := hG2'.upd (pre := [⟨64, 2, va, t.attrs.map atc, ρa⟩]) (c := cL vl B ρl) (post := [cO vo B ρo, cT vt B ρt, cI vi B ρi]) ⟨40, 4, vl3, (B.l.map bare).map Nd.c ++ [[.int .i64 (-1), .str t.name, .str [], va]], ρl3⟩ hl3 hb3
          obtain ⟨cl3, ol3⟩ := hl3.cells
          have hll3 := hl3.len
          rw [show ((cL vl B ρl).l ++ [[.int .i64 (-1), .str t.name, .str [], va]]).length = B.l.length + 1 by simp [cL]] at hll3
          have hn3 : nvs σ3 = nvs σ + 1 := by rw [hb3.nvs]; simp only [nvsR]; exact hn2
          have hv3 : getV σ3 b = some (.cells 74 [vl, vo, vt, vi]) := by rw [hb3.getV]; exact hv2
          have ht3 : getV σ3 (nvs σ) = some (.cells 30 [.int .i64 t.kind, .str t.name, .str t.text, lsq t.nn (t.attrs.map atc), .bool t.empty]) := by rw [hb3.getV]; exact ht2
          have wl : IntKind.i64.wrap (((B.l.length + 1 : Nat) : Int) - 1) = (B.l.length : Int) := by rw [wrap_i64 _ (by omega) (by omega)]; omega
          have ltT : ∀ r, ρt = some r → r < nrs σ3 := fun r hr => (hG3.ok (cT vt B ρt) (by simp)).lt hr
          simp (disch := first | omega | (simp only [ln]; first | done | omega)) only [walkAll, walkL, walkK, wk, E, Nat.reduceEqDiff, Nat.reduceAdd, Nat.reduceSub, Nat.reduceLeDiff, Int.reduceLT, Int.reduceLE, Int.reduceAdd, Int.reduceSub, Int.reduceToNat, ↓reduceIte, hv3, ht3, cl3, ol3]
          have hG3s := hG3.setV b (.cells 74 [vl3, vo, vt, vi])
          have tail : ∀ (vt4 : AV) (σ4 : St) (ρt4 : Option Nat) (vi5 : AV) (σ5 : St) (ρi5 : Option Nat), True := fun _ _ _ _ _ _ => trivial
          refine ⟨⟨?_, ?_⟩, ?_⟩
          · have hGa := hG3s.rb (RB.pushR (σ3.setV b (.cells 74 [vl3, vo, vt, vi])) ⟨9, 1, 0, [[.str []]]⟩)
            have hsT := getR_last (σ3.setV b (.cells 74 [vl3, vo, vt, vi])) ⟨9, 1, 0, [[.str []]]⟩
            refine own_appx (b := 16) (hGa.ok (cT vt B ρt) (by simp)) (elsA_one hsT) rfl rfl (by simp [cT]; omega) (fun vt4 σ4 ρt4 ht4 hb4 => ?_)
            have hG4 := hGa.upd (pre := [⟨64, 2, va, t.attrs.map atc, ρa⟩, ⟨40, 4, vl3, (B.l.map bare).map Nd.c ++ [[.int .i64 (-1), .str t.name, .str [], va]], ρl3⟩, cO vo B ρo]) (c := cT vt B ρt) (post := [cI vi B ρi]) ⟨9, 1, vt4, B.l.map txc ++ [[AV.str []]], ρt4⟩ ht4 hb4
            have hn4 : nvs σ4 = nvs σ + 1 := by rw [hb4.nvs]; simp only [nvsR]; exact hn3
            have hv4 : getV σ4 b = some (.cells 74 [vl3, vo, vt, vi]) := by rw [hb4.getV]; simp (disch := first | omega | (simp only [ln]; first | done | omega)) only [walkAll, walkL, walkK, wk, E, Nat.reduceEqDiff, Nat.reduceAdd, Nat.reduceSub, Nat.reduceLeDiff, Int.reduceLT, Int.reduceLE, Int.reduceAdd, Int.reduceSub, Int.reduceToNat, ↓reduceIte]
            have ht4' : getV σ4 (nvs σ) = some (.cells 30 [.int .i64 t.kind, .str t.name, .str t.text, lsq t.nn (t.attrs.map atc), .bool t.empty]) := by rw [hb4.getV]; simp (disch := first | omega | (simp only [ln]; first | done | omega)) only [walkAll, walkL, walkK, wk, E, Nat.reduceEqDiff, Nat.reduceAdd, Nat.reduceSub, Nat.reduceLeDiff, Int.reduceLT, Int.reduceLE, Int.reduceAdd, Int.reduceSub, Int.reduceToNat, ↓reduceIte, ht3]
            have hj4 : ∀ j, j < nvs σ → j ≠ b → getV σ4 j = getV σ j := fun j hj hjb => by rw [hb4.getV]; simp (disch := first | omega | (simp only [ln]; first | done | omega)) only [walkAll, walkL, walkK, wk, E, Nat.reduceEqDiff, Nat.reduceAdd, Nat.reduceSub, Nat.reduceLeDiff, Int.reduceLT, Int.reduceLE, Int.reduceAdd, Int.reduceSub, Int.reduceToNat, ↓reduceIte, hb3.getV, hb2]
            simp (disch := first | omega | (simp only [ln]; first | done | omega)) only [walkAll, walkL, walkK, wk, E, Nat.reduceEqDiff, Nat.reduceAdd, Nat.reduceSub, Nat.reduceLeDiff, Int.reduceLT, Int.reduceLE, Int.reduceAdd, Int.reduceSub, Int.reduceToNat, ↓reduceIte, hv4, ht4']
            have hGb := hG4.rb (RB.pushR σ4 ⟨4, 1, 0, [[.bool false]]⟩)
            have hsI := getR_last σ4 ⟨4, 1, 0, [[.bool false]]⟩
            refine own_appx (b := 1) (hGb.ok (cI vi B ρi) (by simp)) (elsA_one hsI) rfl rfl (by simp [cI]; omega) (fun vi5 σ5 ρi5 hi5 hb5 => ?_)
            have hG5 := hGb.upd (pre := [⟨64, 2, va, t.attrs.map atc, ρa⟩, ⟨40, 4, vl3, (B.l.map bare).map Nd.c ++ [[.int .i64 (-1), .str t.name, .str [], va]], ρl3⟩, cO vo B ρo, ⟨9, 1, vt4, B.l.map txc ++ [[AV.str []]], ρt4⟩]) (c := cI vi B ρi) (post := []) ⟨4, 1, vi5, B.l.map inc ++ [[AV.bool false]], ρi5⟩ hi5 hb5
            have hn5 : nvs σ5 = nvs σ + 1 := by rw [hb5.nvs]; first | exact hn4 | (simp only [nvsR]; exact hn4)
            have hv5 : getV σ5 b = some (.cells 74 [vl3, vo, vt, vi]) := by rw [hb5.getV]; exact hv4
            have ht5 : getV σ5 (nvs σ) = some (.cells 30 [.int .i64 t.kind, .str t.name, .str t.text, lsq t.nn (t.attrs.map atc), .bool t.empty]) := by rw [hb5.getV]; exact ht4'
            have hj5 : ∀ j, j < nvs σ → j ≠ b → getV σ5 j = getV σ j := fun j hj hjb => by rw [hb5.getV]; exact hj4 j hj hjb
            obtain ⟨ct4, ot4⟩ := ht4.cells
            obtain ⟨ci5, oi5⟩ := hi5.cells
            cases g5 : t.empty with
            | true =>
              rw [g5] at ht5
              have e2 : B.begin t = (⟨B.l ++ [⟨(-1), t.name, [], t.attrs, t.nn⟩], B.op, B.raise ++ [false]⟩, 0) := by unfold TB.begin; rw [g2]; simp [ho, hl0, g5, ht]
              rw [e2] at hK
              simp (disch := first | omega | (simp only [ln]; first | done | omega)) only [walkAll, walkL, walkK, wk, E, Nat.reduceEqDiff, Nat.reduceAdd, Nat.reduceSub, Nat.reduceLeDiff, Int.reduceLT, Int.reduceLE, Int.reduceAdd, Int.reduceSub, Int.reduceToNat, ↓reduceIte, hv5, ht5, ct4, ot4, ci5, oi5, q3]
              obtain ⟨σf, hcf, hvf, hGf⟩ := (hG5.setV b (.cells 74 [vl3, vo, vt4, vi5])).give (a := ⟨64, 2, va, t.attrs.map atc, ρa⟩) (lc := ⟨40, 4, vl3, (B.l.map bare).map Nd.c ++ [[.int .i64 (-1), .str t.name, .str [], va]], ρl3⟩) (cs := [cO vo B ρo, ⟨9, 1, vt4, B.l.map txc ++ [[AV.str []]], ρt4⟩, ⟨4, 1, vi5, B.l.map inc ++ [[AV.bool false]], ρi5⟩]) (old := (B.l.map bare).map Nd.c) (p := [.int .i64 (-1), .str t.name, .str []]) rfl (bare_frz _) (fun r els => by simp only [frzL, frz]) hav
              have hgf : ∀ j, getV σf j = getV (σ5.setV b (.cells 74 [vl3, vo, vt4, vi5])) j := fun j => by simp only [getV, hvf]
              have hnf : nvs σf = nvs σ + 1 := by rw [← hn5]; simp only [nvs, hvf, St.setV, List.length_set]
              refine ⟨.int .i64 0, σf, hcf _, hK _ vl3 vo vt4 vi5 ρl3 ρo ρt4 ρi5 ⟨?_, ?_⟩ (past _ (by omega) (fun j hj hjb => ?_))⟩
              · rw [hgf]; simp (disch := first | omega | (simp only [ln]; first | done | omega)) only [walkAll, walkL, walkK, wk, E, Nat.reduceEqDiff, Nat.reduceAdd, Nat.reduceSub, Nat.reduceLeDiff, Int.reduceLT, Int.reduceLE, Int.reduceAdd, Int.reduceSub, Int.reduceToNat, ↓reduceIte]
              · have el : [cL vl3 ⟨B.l ++ [⟨(-1), t.name, [], t.attrs, t.nn⟩], B.op, B.raise ++ [false]⟩ ρl3, cO vo ⟨B.l ++ [⟨(-1), t.name, [], t.attrs, t.nn⟩], B.op, B.raise ++ [false]⟩ ρo, cT vt4 ⟨B.l ++ [⟨(-1), t.name, [], t.attrs, t.nn⟩], B.op, B.raise ++ [false]⟩ ρt4, cI vi5 ⟨B.l ++ [⟨(-1), t.name, [], t.attrs, t.nn⟩], B.op, B.raise ++ [false]⟩ ρi5] = _ := grow_lists vl3 vo vt4 vi5 ρl3 ρo ρt4 ρi5 B.op (-1)
                rw [el]; exact hGf
              · rw [hgf]; simp (disch := first | omega | (simp only [ln]; first | done | omega)) only [walkAll, walkL, walkK, wk, E, Nat.reduceEqDiff, Nat.reduceAdd, Nat.reduceSub, Nat.reduceLeDiff, Int.reduceLT, Int.reduceLE, Int.reduceAdd, Int.reduceSub, Int.reduceToNat, ↓reduceIte, hj5]
            | false =>
              rw [g5] at ht5
              have e2 : B.begin t = (⟨B.l ++ [⟨(-1), t.name, [], t.attrs, t.nn⟩], B.op ++ [B.l.length], B.raise ++ [false]⟩, 0) := by unfold TB.begin; rw [g2]; simp [ho, hl0, g5, ht]
              rw [e2] at hK
              simp (disch := first | omega | (simp only [ln]; first | done | omega)) only [walkAll, walkL, walkK, wk, E, Nat.reduceEqDiff, Nat.reduceAdd, Nat.reduceSub, Nat.reduceLeDiff, Int.reduceLT, Int.reduceLE, Int.reduceAdd, Int.reduceSub, Int.reduceToNat, ↓reduceIte, hv5, ht5, ct4, ot4, ci5, oi5, hll3, wl, q3]
              have hG5s := (hG5.setV b (.cells 74 [vl3, vo, vt4, vi5])).rb (RB.pushR (σ5.setV b (.cells 74 [vl3, vo, vt4, vi5])) ⟨3, 1, 0, [[.int .i64 B.l.length]]⟩)
              refine own_appx (b := 8) (hG5s.ok (cO vo B ρo) (by simp)) (elsA_one (getR_last _ _)) rfl rfl (by simp [cO]; omega) (fun vo6 σ6 ρo6 ho6 hb6 => ?_)
              have hG6 := hG5s.upd (pre := [⟨64, 2, va, t.attrs.map atc, ρa⟩, ⟨40, 4, vl3, (B.l.map bare).map Nd.c ++ [[.int .i64 (-1), .str t.name, .str [], va]], ρl3⟩]) (c := cO vo B ρo) (post := [⟨9, 1, vt4, B.l.map txc ++ [[AV.str []]], ρt4⟩, ⟨4, 1, vi5, B.l.map inc ++ [[AV.bool false]], ρi5⟩]) ⟨3, 1, vo6, B.op.map ixc ++ [[AV.int .i64 B.l.length]], ρo6⟩ ho6 hb6
              have hn6 : nvs σ6 = nvs σ + 1 := by rw [hb6.nvs]; simp only [nvsR]; exact hn5
              have hv6 : getV σ6 b = some (.cells 74 [vl3, vo, vt4, vi5]) := by rw [hb6.getV]; simp (disch := first | omega | (simp only [ln]; first | done | omega)) only [walkAll, walkL, walkK, wk, E, Nat.reduceEqDiff, Nat.reduceAdd, Nat.reduceSub, Nat.reduceLeDiff, Int.reduceLT, Int.reduceLE, Int.reduceAdd, Int.reduceSub, Int.reduceToNat, ↓reduceIte]
              obtain ⟨co6, oo6⟩ := ho6.cells
              simp (disch := first | omega | (simp only [ln]; first | done | omega)) only [walkAll, walkL, walkK, wk, E, Nat.reduceEqDiff, Nat.reduceAdd, Nat.reduceSub, Nat.reduceLeDiff, Int.reduceLT, Int.reduceLE, Int.reduceAdd, Int.reduceSub, Int.reduceToNat, ↓reduceIte, hv6, co6, oo6]
              obtain ⟨σf, hcf, hvf, hGf⟩ := (hG6.setV b (.cells 74 [vl3, vo6, vt4, vi5])).give (a := ⟨64, 2, va, t.attrs.map atc, ρa⟩) (lc := ⟨40, 4, vl3, (B.l.map bare).map Nd.c ++ [[.int .i64 (-1), .str t.name, .str [], va]], ρl3⟩) (cs := [⟨3, 1, vo6, B.op.map ixc ++ [[AV.int .i64 B.l.length]], ρo6⟩, ⟨9, 1, vt4, B.l.map txc ++ [[AV.str []]], ρt4⟩, ⟨4, 1, vi5, B.l.map inc ++ [[AV.bool false]], ρi5⟩]) (old := (B.l.map bare).map Nd.c) (p := [.int .i64 (-1), .str t.name, .str []]) rfl (bare_frz _) (fun r els => by simp only [frzL, frz]) hav
              have hgf : ∀ j, getV σf j = getV (σ6.setV b (.cells 74 [vl3, vo6, vt4, vi5])) j := fun j => by simp only [getV, hvf]
              have hnf : nvs σf = nvs σ + 1 := by rw [← hn6]; simp only [nvs, hvf, St.setV, List.length_set]
              refine ⟨.int .i64 0, σf, hcf _, hK _ vl3 vo6 vt4 vi5 ρl3 ρo6 ρt4 ρi5 ⟨?_, ?_⟩ (past _ (by omega) (fun j hj hjb => ?_))⟩
              · rw [hgf]; simp (disch := first | omega | (simp only [ln]; first | done | omega)) only [walkAll, walkL, walkK, wk, E, Nat.reduceEqDiff, Nat.reduceAdd, Nat.reduceSub, Nat.reduceLeDiff, Int.reduceLT, Int.reduceLE, Int.reduceAdd, Int.reduceSub, Int.reduceToNat, ↓reduceIte]
              · have el := grow_lists (B := B) (t := t) vl3 vo6 vt4 vi5 ρl3 ρo6 ρt4 ρi5 (B.op ++ [B.l.length]) (-1)
                rw [el]; simpa only [List.map_append, List.map_cons, List.map_nil, ixc] using hGf
              · rw [hgf]; simp (disch := first | omega | (simp only [ln]; first | done | omega)) only [walkAll, walkL, walkK, wk, E, Nat.reduceEqDiff, Nat.reduceAdd, Nat.reduceSub, Nat.reduceLeDiff, Int.reduceLT, Int.reduceLE, Int.reduceAdd, Int.reduceSub, Int.reduceToNat, ↓reduceIte, hb6.getV, hj5]
          · have hGa := (hG3s.rb (RB.pushR (σ3.setV b (.cells 74 [vl3, vo, vt, vi])) ⟨9, 1, 0, [[.str []]]⟩)).rb (RB.pushR ((σ3.setV b (.cells 74 [vl3, vo, vt, vi])).pushR ⟨9, 1, 0, [[.str []]]⟩) ⟨4, 1, 0, [[.bool false]]⟩)
            have hsT := getR_push (getR_last (σ3.setV b (.cells 74 [vl3, vo, vt, vi])) ⟨9, 1, 0, [[.str []]]⟩) ⟨4, 1, 0, [[.bool false]]⟩
            have hsI := getR_last ((σ3.setV b (.cells 74 [vl3, vo, vt, vi])).pushR ⟨9, 1, 0, [[.str []]]⟩) ⟨4, 1, 0, [[.bool false]]⟩
            simp only [nvsR] at hsI hsT
            refine own_appx (b := 16) (hGa.ok (cT vt B ρt) (by simp)) (elsA_one hsT) rfl rfl (by simp [cT]; omega) (fun vt4 σ4 ρt4 ht4 hb4 => ?_)
            have hG4 := hGa.upd (pre := [⟨64, 2, va, t.attrs.map atc, ρa⟩, ⟨40, 4, vl3, (B.l.map bare).map Nd.c ++ [[.int .i64 (-1), .str t.name, .str [], va]], ρl3⟩, cO vo B ρo]) (c := cT vt B ρt) (post := [cI vi B ρi]) ⟨9, 1, vt4, B.l.map txc ++ [[AV.str []]], ρt4⟩ ht4 hb4
            have hn4 : nvs σ4 = nvs σ + 1 := by rw [hb4.nvs]; simp only [nvsR]; exact hn3
            have hv4 : getV σ4 b = some (.cells 74 [vl3, vo, vt, vi]) := by rw [hb4.getV]; simp (disch := first | omega | (simp only [ln]; first | done | omega)) only [walkAll, walkL, walkK, wk, E, Nat.reduceEqDiff, Nat.reduceAdd, Nat.reduceSub, Nat.reduceLeDiff, Int.reduceLT, Int.reduceLE, Int.reduceAdd, Int.reduceSub, Int.reduceToNat, ↓reduceIte]
            have ht4' : getV σ4 (nvs σ) = some (.cells 30 [.int .i64 t.kind, .str t.name, .str t.text, lsq t.nn (t.attrs.map atc), .bool t.empty]) := by rw [hb4.getV]; simp (disch := first | omega | (simp only [ln]; first | done | omega)) only [walkAll, walkL, walkK, wk, E, Nat.reduceEqDiff, Nat.reduceAdd, Nat.reduceSub, Nat.reduceLeDiff, Int.reduceLT, Int.reduceLE, Int.reduceAdd, Int.reduceSub, Int.reduceToNat, ↓reduceIte, ht3]
            have hj4 : ∀ j, j < nvs σ → j ≠ b → getV σ4 j = getV σ j := fun j hj hjb => by rw [hb4.getV]; simp (disch := first | omega | (simp only [ln]; first | done | omega)) only [walkAll, walkL, walkK, wk, E, Nat.reduceEqDiff, Nat.reduceAdd, Nat.reduceSub, Nat.reduceLeDiff, Int.reduceLT, Int.reduceLE, Int.reduceAdd, Int.reduceSub, Int.reduceToNat, ↓reduceIte, hb3.getV, hb2]
            simp (disch := first | omega | (simp only [ln]; first | done | omega)) only [walkAll, walkL, walkK, wk, E, Nat.reduceEqDiff, Nat.reduceAdd, Nat.reduceSub, Nat.reduceLeDiff, Int.reduceLT, Int.reduceLE, Int.reduceAdd, Int.reduceSub, Int.reduceToNat, ↓reduceIte, hv4, ht4']
            have hGb := hG4
            have hsI4 := hb4.row _ (fun h => by have := ltT _ h.symm; omega) (getR_lt hsI)
            rw [hsI] at hsI4
            have hsI := hsI4
            refine own_appx (b := 1) (hGb.ok (cI vi B ρi) (by simp)) (elsA_one hsI) rfl rfl (by simp [cI]; omega) (fun vi5 σ5 ρi5 hi5 hb5 => ?_)
            have hG5 := hGb.upd (pre := [⟨64, 2, va, t.attrs.map atc, ρa⟩, ⟨40, 4, vl3, (B.l.map bare).map Nd.c ++ [[.int .i64 (-1), .str t.name, .str [], va]], ρl3⟩, cO vo B ρo, ⟨9, 1, vt4, B.l.map txc ++ [[AV.str []]], ρt4⟩]) (c := cI vi B ρi) (post := []) ⟨4, 1, vi5, B.l.map inc ++ [[AV.bool false]], ρi5⟩ hi5 hb5
            have hn5 : nvs σ5 = nvs σ + 1 := by rw [hb5.nvs]; first | exact hn4 | (simp only [nvsR]; exact hn4)
            have hv5 : getV σ5 b = some (.cells 74 [vl3, vo, vt, vi]) := by rw [hb5.getV]; exact hv4
            have ht5 : getV σ5 (nvs σ) = some (.cells 30 [.int .i64 t.kind, .str t.name, .str t.text, lsq t.nn (t.attrs.map atc), .bool t.empty]) := by rw [hb5.getV]; exact ht4'
            have hj5 : ∀ j, j < nvs σ → j ≠ b → getV σ5 j = getV σ j := fun j hj hjb => by rw [hb5.getV]; exact hj4 j hj hjb
            obtain ⟨ct4, ot4⟩ := ht4.cells
            obtain ⟨ci5, oi5⟩ := hi5.cells
            cases g5 : t.empty with
            | true =>
              rw [g5] at ht5
              have e2 : B.begin t = (⟨B.l ++ [⟨(-1), t.name, [], t.attrs, t.nn⟩], B.op, B.raise ++ [false]⟩, 0) := by unfold TB.begin; rw [g2]; simp [ho, hl0, g5, ht]
              rw [e2] at hK
              simp (disch := first | omega | (simp only [ln]; first | done | omega)) only [walkAll, walkL, walkK, wk, E, Nat.reduceEqDiff, Nat.reduceAdd, Nat.reduceSub, Nat.reduceLeDiff, Int.reduceLT, Int.reduceLE, Int.reduceAdd, Int.reduceSub, Int.reduceToNat, ↓reduceIte, hv5, ht5, ct4, ot4, ci5, oi5, q3]
              obtain ⟨σf, hcf, hvf, hGf⟩ := (hG5.setV b (.cells 74 [vl3, vo, vt4, vi5])).give (a := ⟨64, 2, va, t.attrs.map atc, ρa⟩) (lc := ⟨40, 4, vl3, (B.l.map bare).map Nd.c ++ [[.int .i64 (-1), .str t.name, .str [], va]], ρl3⟩) (cs := [cO vo B ρo, ⟨9, 1, vt4, B.l.map txc ++ [[AV.str []]], ρt4⟩, ⟨4, 1, vi5, B.l.map inc ++ [[AV.bool false]], ρi5⟩]) (old := (B.l.map bare).map Nd.c) (p := [.int .i64 (-1), .str t.name, .str []]) rfl (bare_frz _) (fun r els => by simp only [frzL, frz]) hav
              have hgf : ∀ j, getV σf j = getV (σ5.setV b (.cells 74 [vl3, vo, vt4, vi5])) j := fun j => by simp only [getV, hvf]
              have hnf : nvs σf = nvs σ + 1 := by rw [← hn5]; simp only [nvs, hvf, St.setV, List.length_set]
              refine ⟨.int .i64 0, σf, hcf _, hK _ vl3 vo vt4 vi5 ρl3 ρo ρt4 ρi5 ⟨?_, ?_⟩ (past _ (by omega) (fun j hj hjb => ?_))⟩
              · rw [hgf]; simp (disch := first | omega | (simp only [ln]; first | done | omega)) only [walkAll, walkL, walkK, wk, E, Nat.reduceEqDiff, Nat.reduceAdd, Nat.reduceSub, Nat.reduceLeDiff, Int.reduceLT, Int.reduceLE, Int.reduceAdd, Int.reduceSub, Int.reduceToNat, ↓reduceIte]
              · have el : [cL vl3 ⟨B.l ++ [⟨(-1), t.name, [], t.attrs, t.nn⟩], B.op, B.raise ++ [false]⟩ ρl3, cO vo ⟨B.l ++ [⟨(-1), t.name, [], t.attrs, t.nn⟩], B.op, B.raise ++ [false]⟩ ρo, cT vt4 ⟨B.l ++ [⟨(-1), t.name, [], t.attrs, t.nn⟩], B.op, B.raise ++ [false]⟩ ρt4, cI vi5 ⟨B.l ++ [⟨(-1), t.name, [], t.attrs, t.nn⟩], B.op, B.raise ++ [false]⟩ ρi5] = _ := grow_lists vl3 vo vt4 vi5 ρl3 ρo ρt4 ρi5 B.op (-1)
                rw [el]; exact hGf
              · rw [hgf]; simp (disch := first | omega | (simp only [ln]; first | done | omega)) only [walkAll, walkL, walkK, wk, E, Nat.reduceEqDiff, Nat.reduceAdd, Nat.reduceSub, Nat.reduceLeDiff, Int.reduceLT, Int.reduceLE, Int.reduceAdd, Int.reduceSub, Int.reduceToNat, ↓reduceIte, hj5]
            | false =>
              rw [g5] at ht5
              have e2 : B.begin t = (⟨B.l ++ [⟨(-1), t.name, [], t.attrs, t.nn⟩], B.op ++ [B.l.length], B.raise ++ [false]⟩, 0) := by unfold TB.begin; rw [g2]; simp [ho, hl0, g5, ht]
              rw [e2] at hK
              simp (disch := first | omega | (simp only [ln]; first | done | omega)) only [walkAll, walkL, walkK, wk, E, Nat.reduceEqDiff, Nat.reduceAdd, Nat.reduceSub, Nat.reduceLeDiff, Int.reduceLT, Int.reduceLE, Int.reduceAdd, Int.reduceSub, Int.reduceToNat, ↓reduceIte, hv5, ht5, ct4, ot4, ci5, oi5, hll3, wl, q3]
              have hG5s := (hG5.setV b (.cells 74 [vl3, vo, vt4, vi5])).rb (RB.pushR (σ5.setV b (.cells 74 [vl3, vo, vt4, vi5])) ⟨3, 1, 0, [[.int .i64 B.l.length]]⟩)
              refine own_appx (b := 8) (hG5s.ok (cO vo B ρo) (by simp)) (elsA_one (getR_last _ _)) rfl rfl (by simp [cO]; omega) (fun vo6 σ6 ρo6 ho6 hb6 => ?_)
              have hG6 := hG5s.upd (pre := [⟨64, 2, va, t.attrs.map atc, ρa⟩, ⟨40, 4, vl3, (B.l.map bare).map Nd.c ++ [[.int .i64 (-1), .str t.name, .str [], va]], ρl3⟩]) (c := cO vo B ρo) (post := [⟨9, 1, vt4, B.l.map txc ++ [[AV.str []]], ρt4⟩, ⟨4, 1, vi5, B.l.map inc ++ [[AV.bool false]], ρi5⟩]) ⟨3, 1, vo6, B.op.map ixc ++ [[AV.int .i64 B.l.length]], ρo6⟩ ho6 hb6
              have hn6 : nvs σ6 = nvs σ + 1 := by rw [hb6.nvs]; simp only [nvsR]; exact hn5
              have hv6 : getV σ6 b = some (.cells 74 [vl3, vo, vt4, vi5]) := by rw [hb6.getV]; simp (disch := first | omega | (simp only [ln]; first | done | omega)) only [walkAll, walkL, walkK, wk, E, Nat.reduceEqDiff, Nat.reduceAdd, Nat.reduceSub, Nat.reduceLeDiff, Int.reduceLT, Int.reduceLE, Int.reduceAdd, Int.reduceSub, Int.reduceToNat, ↓reduceIte]
              obtain ⟨co6, oo6⟩ := ho6.cells
              simp (disch := first | omega | (simp only [ln]; first | done | omega)) only [walkAll, walkL, walkK, wk, E, Nat.reduceEqDiff, Nat.reduceAdd, Nat.reduceSub, Nat.reduceLeDiff, Int.reduceLT, Int.reduceLE, Int.reduceAdd, Int.reduceSub, Int.reduceToNat, ↓reduceIte, hv6, co6, oo6]
              obtain ⟨σf, hcf, hvf, hGf⟩ := (hG6.setV b (.cells 74 [vl3, vo6, vt4, vi5])).give (a := ⟨64, 2, va, t.attrs.map atc, ρa⟩) (lc := ⟨40, 4, vl3, (B.l.map bare).map Nd.c ++ [[.int .i64 (-1), .str t.name, .str [], va]], ρl3⟩) (cs := [⟨3, 1, vo6, B.op.map ixc ++ [[AV.int .i64 B.l.length]], ρo6⟩, ⟨9, 1, vt4, B.l.map txc ++ [[AV.str []]], ρt4⟩, ⟨4, 1, vi5, B.l.map inc ++ [[AV.bool false]], ρi5⟩]) (old := (B.l.map bare).map Nd.c) (p := [.int .i64 (-1), .str t.name, .str []]) rfl (bare_frz _) (fun r els => by simp only [frzL, frz]) hav
              have hgf : ∀ j, getV σf j = getV (σ6.setV b (.cells 74 [vl3, vo6, vt4, vi5])) j := fun j => by simp only [getV, hvf]
              have hnf : nvs σf = nvs σ + 1 := by rw [← hn6]; simp only [nvs, hvf, St.setV, List.length_set]
              refine ⟨.int .i64 0, σf, hcf _, hK _ vl3 vo6 vt4 vi5 ρl3 ρo6 ρt4 ρi5 ⟨?_, ?_⟩ (past _ (by omega) (fun j hj hjb => ?_))⟩
              · rw [hgf]; simp (disch := first | omega | (simp only [ln]; first | done | omega)) only [walkAll, walkL, walkK, wk, E, Nat.reduceEqDiff, Nat.reduceAdd, Nat.reduceSub, Nat.reduceLeDiff, Int.reduceLT, Int.reduceLE, Int.reduceAdd, Int.reduceSub, Int.reduceToNat, ↓reduceIte]
              · have el := grow_lists (B := B) (t := t) vl3 vo6 vt4 vi5 ρl3 ρo6 ρt4 ρi5 (B.op ++ [B.l.length]) (-1)
                rw [el]; simpa only [List.map_append, List.map_cons, List.map_nil, ixc] using hGf
              · rw [hgf]; simp (disch := first | omega | (simp only [ln]; first | done | omega)) only [walkAll, walkL, walkK, wk, E, Nat.reduceEqDiff, Nat.reduceAdd, Nat.reduceSub, Nat.reduceLeDiff, Int.reduceLT, Int.reduceLE, Int.reduceAdd, Int.reduceSub, Int.reduceToNat, ↓reduceIte, hb6.getV, hj5]
          · have hGa := (hG3s.rb (RB.pushR (σ3.setV b (.cells 74 [vl3, vo, vt, vi])) ⟨4, 1, 0, [[.bool false]]⟩)).rb (RB.pushR ((σ3.setV b (.cells 74 [vl3, vo, vt, vi])).pushR ⟨4, 1, 0, [[.bool false]]⟩) ⟨9, 1, 0, [[.str []]]⟩)
            have hsI := getR_push (getR_last (σ3.setV b (.cells 74 [vl3, vo, vt, vi])) ⟨4, 1, 0, [[.bool false]]⟩) ⟨9, 1, 0, [[.str []]]⟩
            have hsT := getR_last ((σ3.setV b (.cells 74 [vl3, vo, vt, vi])).pushR ⟨4, 1, 0, [[.bool false]]⟩) ⟨9, 1, 0, [[.str []]]⟩
            simp only [nvsR] at hsI hsT
            refine own_appx (b := 16) (hGa.ok (cT vt B ρt) (by simp)) (elsA_one hsT) rfl rfl (by simp [cT]; omega) (fun vt4 σ4 ρt4 ht4 hb4 => ?_)
            have hG4 := hGa.upd (pre := [⟨64, 2, va, t.attrs.map atc, ρa⟩, ⟨40, 4, vl3, (B.l.map bare).map Nd.c ++ [[.int .i64 (-1), .str t.name, .str [], va]], ρl3⟩, cO vo B ρo]) (c := cT vt B ρt) (post := [cI vi B ρi]) ⟨9, 1, vt4, B.l.map txc ++ [[AV.str []]], ρt4⟩ ht4 hb4
            have hn4 : nvs σ4 = nvs σ + 1 := by rw [hb4.nvs]; simp only [nvsR]; exact hn3
            have hv4 : getV σ4 b = some (.cells 74 [vl3, vo, vt, vi]) := by rw [hb4.getV]; simp (disch := first | omega | (simp only [ln]; first | done | omega)) only [walkAll, walkL, walkK, wk, E, Nat.reduceEqDiff, Nat.reduceAdd, Nat.reduceSub, Nat.reduceLeDiff, Int.reduceLT, Int.reduceLE, Int.reduceAdd, Int.reduceSub, Int.reduceToNat, ↓reduceIte]
            have ht4' : getV σ4 (nvs σ) = some (.cells 30 [.int .i64 t.kind, .str t.name, .str t.text, lsq t.nn (t.attrs.map atc), .bool t.empty]) := by rw [hb4.getV]; simp (disch := first | omega | (simp only [ln]; first | done | omega)) only [walkAll, walkL, walkK, wk, E, Nat.reduceEqDiff, Nat.reduceAdd, Nat.reduceSub, Nat.reduceLeDiff, Int.reduceLT, Int.reduceLE, Int.reduceAdd, Int.reduceSub, Int.reduceToNat, ↓reduceIte, ht3]
            have hj4 : ∀ j, j < nvs σ → j ≠ b → getV σ4 j = getV σ j := fun j hj hjb => by rw [hb4.getV]; simp (disch := first | omega | (simp only [ln]; first | done | omega)) only [walkAll, walkL, walkK, wk, E, Nat.reduceEqDiff, Nat.reduceAdd, Nat.reduceSub, Nat.reduceLeDiff, Int.reduceLT, Int.reduceLE, Int.reduceAdd, Int.reduceSub, Int.reduceToNat, ↓reduceIte, hb3.getV, hb2]
            simp (disch := first | omega | (simp only [ln]; first | done | omega)) only [walkAll, walkL, walkK, wk, E, Nat.reduceEqDiff, Nat.reduceAdd, Nat.reduceSub, Nat.reduceLeDiff, Int.reduceLT, Int.reduceLE, Int.reduceAdd, Int.reduceSub, Int.reduceToNat, ↓reduceIte, hv4, ht4']
            have hGb := hG4
            have hsI4 := hb4.row _ (fun h => by have := ltT _ h.symm; omega) (getR_lt hsI)
            rw [hsI] at hsI4
            have hsI := hsI4
            refine own_appx (b := 1) (hGb.ok (cI vi B ρi) (by simp)) (elsA_one hsI) rfl rfl (by simp [cI]; omega) (fun vi5 σ5 ρi5 hi5 hb5 => ?_)
            have hG5 := hGb.upd (pre := [⟨64, 2, va, t.attrs.map atc, ρa⟩, ⟨40, 4, vl3, (B.l.map bare).map Nd.c ++ [[.int .i64 (-1), .str t.name, .str [], va]], ρl3⟩, cO vo B ρo, ⟨9, 1, vt4, B.l.map txc ++ [[AV.str []]], ρt4⟩]) (c := cI vi B ρi) (post := []) ⟨4, 1, vi5, B.l.map inc ++ [[AV.bool false]], ρi5⟩ hi5 hb5
            have hn5 : nvs σ5 = nvs σ + 1 := by rw [hb5.nvs]; first | exact hn4 | (simp only [nvsR]; exact hn4)
            have hv5 : getV σ5 b = some (.cells 74 [vl3, vo, vt, vi]) := by rw [hb5.getV]; exact hv4
            have ht5 : getV σ5 (nvs σ) = some (.cells 30 [.int .i64 t.kind, .str t.name, .str t.text, lsq t.nn (t.attrs.map atc), .bool t.empty]) := by rw [hb5.getV]; exact ht4'
            have hj5 : ∀ j, j < nvs σ → j ≠ b → getV σ5 j = getV σ j := fun j hj hjb => by rw [hb5.getV]; exact hj4 j hj hjb
            obtain ⟨ct4, ot4⟩ := ht4.cells
            obtain ⟨ci5, oi5⟩ := hi5.cells
            cases g5 : t.empty with
            | true =>
              rw [g5] at ht5
              have e2 : B.begin t = (⟨B.l ++ [⟨(-1), t.name, [], t.attrs, t.nn⟩], B.op, B.raise ++ [false]⟩, 0) := by unfold TB.begin; rw [g2]; simp [ho, hl0, g5, ht]
              rw [e2] at hK
              simp (disch := first | omega | (simp only [ln]; first | done | omega)) only [walkAll, walkL, walkK, wk, E, Nat.reduceEqDiff, Nat.reduceAdd, Nat.reduceSub, Nat.reduceLeDiff, Int.reduceLT, Int.reduceLE, Int.reduceAdd, Int.reduceSub, Int.reduceToNat, ↓reduceIte, hv5, ht5, ct4, ot4, ci5, oi5, q3]
              obtain ⟨σf, hcf, hvf, hGf⟩ := (hG5.setV b (.cells 74 [vl3, vo, vt4, vi5])).give (a := ⟨64, 2, va, t.attrs.map atc, ρa⟩) (lc := ⟨40, 4, vl3, (B.l.map bare).map Nd.c ++ [[.int .i64 (-1), .str t.name, .str [], va]], ρl3⟩) (cs := [cO vo B ρo, ⟨9, 1, vt4, B.l.map txc ++ [[AV.str []]], ρt4⟩, ⟨4, 1, vi5, B.l.map inc ++ [[AV.bool false]], ρi5⟩]) (old := (B.l.map bare).map Nd.c) (p := [.int .i64 (-1), .str t.name, .str []]) rfl (bare_frz _) (fun r els => by simp only [frzL, frz]) hav
              have hgf : ∀ j, getV σf j = getV (σ5.setV b (.cells 74 [vl3, vo, vt4, vi5])) j := fun j => by simp only [getV, hvf]
              have hnf : nvs σf = nvs σ + 1 := by rw [← hn5]; simp only [nvs, hvf, St.setV, List.length_set]
              refine ⟨.int .i64 0, σf, hcf _, hK _ vl3 vo vt4 vi5 ρl3 ρo ρt4 ρi5 ⟨?_, ?_⟩ (past _ (by omega) (fun j hj hjb => ?_))⟩
              · rw [hgf]; simp (disch := first | omega | (simp only [ln]; first | done | omega)) only [walkAll, walkL, walkK, wk, E, Nat.reduceEqDiff, Nat.reduceAdd, Nat.reduceSub, Nat.reduceLeDiff, Int.reduceLT, Int.reduceLE, Int.reduceAdd, Int.reduceSub, Int.reduceToNat, ↓reduceIte]
              · have el : [cL vl3 ⟨B.l ++ [⟨(-1), t.name, [], t.attrs, t.nn⟩], B.op, B.raise ++ [false]⟩ ρl3, cO vo ⟨B.l ++ [⟨(-1), t.name, [], t.attrs, t.nn⟩], B.op, B.raise ++ [false]⟩ ρo, cT vt4 ⟨B.l ++ [⟨(-1), t.name, [], t.attrs, t.nn⟩], B.op, B.raise ++ [false]⟩ ρt4, cI vi5 ⟨B.l ++ [⟨(-1), t.name, [], t.attrs, t.nn⟩], B.op, B.raise ++ [false]⟩ ρi5] = _ := grow_lists vl3 vo vt4 vi5 ρl3 ρo ρt4 ρi5 B.op (-1)
                rw [el]; exact hGf
              · rw [hgf]; simp (disch := first | omega | (simp only [ln]; first | done | omega)) only [walkAll, walkL, walkK, wk, E, Nat.reduceEqDiff, Nat.reduceAdd, Nat.reduceSub, Nat.reduceLeDiff, Int.reduceLT, Int.reduceLE, Int.reduceAdd, Int.reduceSub, Int.reduceToNat, ↓reduceIte, hj5]
            | false =>
              rw [g5] at ht5
              have e2 : B.begin t = (⟨B.l ++ [⟨(-1), t.name, [], t.attrs, t.nn⟩], B.op ++ [B.l.length], B.raise ++ [false]⟩, 0) := by unfold TB.begin; rw [g2]; simp [ho, hl0, g5, ht]
              rw [e2] at hK
              simp (disch := first | omega | (simp only [ln]; first | done | omega)) only [walkAll, walkL, walkK, wk, E, Nat.reduceEqDiff, Nat.reduceAdd, Nat.reduceSub, Nat.reduceLeDiff, Int.reduceLT, Int.reduceLE, Int.reduceAdd, Int.reduceSub, Int.reduceToNat, ↓reduceIte, hv5, ht5, ct4, ot4, ci5, oi5, hll3, wl, q3]
              have hG5s := (hG5.setV b (.cells 74 [vl3, vo, vt4, vi5])).rb (RB.pushR (σ5.setV b (.cells 74 [vl3, vo, vt4, vi5])) ⟨3, 1, 0, [[.int .i64 B.l.length]]⟩)
              refine own_appx (b := 8) (hG5s.ok (cO vo B ρo) (by simp)) (elsA_one (getR_last _ _)) rfl rfl (by simp [cO]; omega) (fun vo6 σ6 ρo6 ho6 hb6 => ?_)
              have hG6 := hG5s.upd (pre := [⟨64, 2, va, t.attrs.map atc, ρa⟩, ⟨40, 4, vl3, (B.l.map bare).map Nd.c ++ [[.int .i64 (-1), .str t.name, .str [], va]], ρl3⟩]) (c := cO vo B ρo) (post := [⟨9, 1, vt4, B.l.map txc ++ [[AV.str []]], ρt4⟩, ⟨4, 1, vi5, B.l.map inc ++ [[AV.bool false]], ρi5⟩]) ⟨3, 1, vo6, B.op.map ixc ++ [[AV.int .i64 B.l.length]], ρo6⟩ ho6 hb6
              have hn6 : nvs σ6 = nvs σ + 1 := by rw [hb6.nvs]; simp only [nvsR]; exact hn5
              have hv6 : getV σ6 b = some (.cells 74 [vl3, vo, vt4, vi5]) := by rw [hb6.getV]; simp (disch := first | omega | (simp only [ln]; first | done | omega)) only [walkAll, walkL, walkK, wk, E, Nat.reduceEqDiff, Nat.reduceAdd, Nat.reduceSub, Nat.reduceLeDiff, Int.reduceLT, Int.reduceLE, Int.reduceAdd, Int.reduceSub, Int.reduceToNat, ↓reduceIte]
              obtain ⟨co6, oo6⟩ := ho6.cells
              simp (disch := first | omega | (simp only [ln]; first | done | omega)) only [walkAll, walkL, walkK, wk, E, Nat.reduceEqDiff, Nat.reduceAdd, Nat.reduceSub, Nat.reduceLeDiff, Int.reduceLT, Int.reduceLE, Int.reduceAdd, Int.reduceSub, Int.reduceToNat, ↓reduceIte, hv6, co6, oo6]
              obtain ⟨σf, hcf, hvf, hGf⟩ := (hG6.setV b (.cells 74 [vl3, vo6, vt4, vi5])).give (a := ⟨64, 2, va, t.attrs.map atc, ρa⟩) (lc := ⟨40, 4, vl3, (B.l.map bare).map Nd.c ++ [[.int .i64 (-1), .str t.name, .str [], va]], ρl3⟩) (cs := [⟨3, 1, vo6, B.op.map ixc ++ [[AV.int .i64 B.l.length]], ρo6⟩, ⟨9, 1, vt4, B.l.map txc ++ [[AV.str []]], ρt4⟩, ⟨4, 1, vi5, B.l.map inc ++ [[AV.bool false]], ρi5⟩]) (old := (B.l.map bare).map Nd.c) (p := [.int .i64 (-1), .str t.name, .str []]) rfl (bare_frz _) (fun r els => by simp only [frzL, frz]) hav
              have hgf : ∀ j, getV σf j = getV (σ6.setV b (.cells 74 [vl3, vo6, vt4, vi5])) j := fun j => by simp only [getV, hvf]
              have hnf : nvs σf = nvs σ + 1 := by rw [← hn6]; simp only [nvs, hvf, St.setV, List.length_set]
              refine ⟨.int .i64 0, σf, hcf _, hK _ vl3 vo6 vt4 vi5 ρl3 ρo6 ρt4 ρi5 ⟨?_, ?_⟩ (past _ (by omega) (fun j hj hjb => ?_))⟩
              · rw [hgf]; simp (disch := first | omega | (simp only [ln]; first | done | omega)) only [walkAll, walkL, walkK, wk, E, Nat.reduceEqDiff, Nat.reduceAdd, Nat.reduceSub, Nat.reduceLeDiff, Int.reduceLT, Int.reduceLE, Int.reduceAdd, Int.reduceSub, Int.reduceToNat, ↓reduceIte]
              · have el := grow_lists (B := B) (t := t) vl3 vo6 vt4 vi5 ρl3 ρo6 ρt4 ρi5 (B.op ++ [B.l.length]) (-1)
                rw [el]; simpa only [List.map_append, List.map_cons, List.map_nil, ixc] using hGf
              · rw [hgf]; simp (disch := first | omega | (simp only [ln]; first | done | omega)) only [walkAll, walkL, walkK, wk, E, Nat.reduceEqDiff, Nat.reduceAdd, Nat.reduceSub, Nat.reduceLeDiff, Int.reduceLT, Int.reduceLE, Int.reduceAdd, Int.reduceSub, Int.reduceToNat, ↓reduceIte, hb6.getV, hj5]
--A--end
        · have q2 : decide ((0 : Int) < (B.l.length : Int)) = true := by have := List.length_pos_iff.2 hl0; simp; omega
          have e2 : B.begin t = (B, 10) := by unfold TB.begin; rw [g2, ho]; simp [hl0]
          rw [e2] at hK
          simp (disch := first | omega | (simp only [ln]; first | done | omega)) only [walkAll, walkL, walkK, wk, E, Nat.reduceEqDiff, Nat.reduceAdd, Nat.reduceSub, Nat.reduceLeDiff, Int.reduceLT, Int.reduceLE, Int.reduceAdd, Int.reduceSub, Int.reduceToNat, ↓reduceIte, c38, hv, Tok.c, hlo, hll, q0, g1, g2, q2]
          exact out _ _ (hK _ _ _ _ _ _ _ _ _ (same 0).1 (same 0).2)
    | false =>
    cases g2 : (t.kind == 2) with
    | true =>
      have e : B.step t = (B, 10) := by unfold TB.step TB.fin; simp only [g1, g2, ho]; rfl
      rw [e] at hK
      simp (disch := first | omega | (simp only [ln]; first | done | omega)) only [walkAll, walkL, walkK, wk, E, Nat.reduceEqDiff, Nat.reduceAdd, Nat.reduceSub, Nat.reduceLeDiff, Int.reduceLT, Int.reduceLE, Int.reduceAdd, Int.reduceSub, Int.reduceToNat, ↓reduceIte, c38, hv, Tok.c, hlo, q0, g1, g2]
      exact out _ _ (hK _ _ _ _ _ _ _ _ _ (same 0).1 (same 0).2)
    | false =>
    cases g3 : (t.kind == 3) with
    | true =>
      have e : B.step t = if blankS t.text then (B, 0) else (B, 10) := by unfold TB.step TB.txt; simp only [g1, g2, g3, ho]; rfl
      rw [e] at hK
      simp (disch := first | omega | (simp only [ln]; first | done | omega)) only [walkAll, walkL, walkK, wk, E, Nat.reduceEqDiff, Nat.reduceAdd, Nat.reduceSub, Nat.reduceLeDiff, Int.reduceLT, Int.reduceLE, Int.reduceAdd, Int.reduceSub, Int.reduceToNat, ↓reduceIte, c38, hv, Tok.c, hlo, q0, g1, g2, g3]
      refine rBlank_c t.text (by omega) ?_
      cases g4 : blankS t.text with
      | true =>
        rw [g4] at hK
        simp (disch := first | omega | (simp only [ln]; first | done | omega)) only [walkAll, walkL, walkK, wk, E, Nat.reduceEqDiff, Nat.reduceAdd, Nat.reduceSub, Nat.reduceLeDiff, Int.reduceLT, Int.reduceLE, Int.reduceAdd, Int.reduceSub, Int.reduceToNat, ↓reduceIte]
        exact out _ _ (hK _ _ _ _ _ _ _ _ _ (same 0).1 (same 0).2)
      | false =>
        rw [g4] at hK
        simp (disch := first | omega | (simp only [ln]; first | done | omega)) only [walkAll, walkL, walkK, wk, E, Nat.reduceEqDiff, Nat.reduceAdd, Nat.reduceSub, Nat.reduceLeDiff, Int.reduceLT, Int.reduceLE, Int.reduceAdd, Int.reduceSub, Int.reduceToNat, ↓reduceIte]
        exact out _ _ (hK _ _ _ _ _ _ _ _ _ (same 0).1 (same 0).2)
    | false =>
      have e : B.step t = (B, 9) := by unfold TB.step; simp only [g1, g2, g3]; rfl
      rw [e] at hK
      simp (disch := first | omega | (simp only [ln]; first | done | omega)) only [walkAll, walkL, walkK, wk, E, Nat.reduceEqDiff, Nat.reduceAdd, Nat.reduceSub, Nat.reduceLeDiff, Int.reduceLT, Int.reduceLE, Int.reduceAdd, Int.reduceSub, Int.reduceToNat, ↓reduceIte, c38, hv, Tok.c, hlo, q0, g1, g2, g3]
      exact out _ _ (hK _ _ _ _ _ _ _ _ _ (same 0).1 (same 0).2)
  · obtain ⟨i, ht, hgl, hmem⟩ := TB.top_pos ho
    have hi := hO.op i hmem
    have hpos := List.length_pos_iff.2 ho
    have q0 : decide ((0 : Int) < (B.op.length : Int)) = true := decide_eq_true (by omega)
    have q1 : decide ((i : Int) < 0) = false := by simp
    have w0 : IntKind.i64.wrap ((B.op.length : Int) - 1) = ((B.op.length - 1 : Nat) : Int) := by rw [wrap_i64 _ (by omega) (by omega)]; omega
    have hP := hB.pushV (.cells 30 [.int .i64 t.kind, .str t.name, .str t.text, lsq t.nn (t.attrs.map atc), .bool t.empty])
    obtain ⟨n, hn⟩ : ∃ n, B.l[i]? = some n := ⟨B.l[i], List.getElem?_eq_getElem hi⟩
    obtain ⟨ro, hro, hixo, hpto⟩ := own_at hP.o (i := B.op.length - 1) (c := ixc i) (by
      rw [List.getElem?_map]
      rw [List.getLast?_eq_getElem?] at hgl
      rw [hgl]; rfl)
    have hldo := hpto.one
    have same : GBs b (σ.pushV (.cells 30 [.int .i64 t.kind, .str t.name, .str t.text, lsq t.nn (t.attrs.map atc), .bool t.empty])) B vl vo vt vi ρl ρo ρt ρi ∧ Past b σ (σ.pushV (.cells 30 [.int .i64 t.kind, .str t.name, .str t.text, lsq t.nn (t.attrs.map atc), .bool t.empty])) := ⟨hP, past _ (by simp only [nvsR]; omega) (fun j hj hb => by simp (disch := first | omega | (simp only [ln]; first | done | omega)) only [walkAll, walkL, walkK, wk, E, Nat.reduceEqDiff, Nat.reduceAdd, Nat.reduceSub, Nat.reduceLeDiff, Int.reduceLT, Int.reduceLE, Int.reduceAdd, Int.reduceSub, Int.reduceToNat, ↓reduceIte])⟩
    cases g1 : (t.kind == 1) with
    | true =>
      have e : B.step t = B.begin t := by unfold TB.step; simp only [g1]; rfl
      rw [e] at hK
      cases g2 : (t.name == []) with
      | true =>
        have e2 : B.begin t = (B, 9) := by unfold TB.begin; rw [g2]; rfl
        rw [e2] at hK
        simp (disch := first | omega | (simp only [ln]; first | done | omega)) only [walkAll, walkL, walkK, wk, E, Nat.reduceEqDiff, Nat.reduceAdd, Nat.reduceSub, Nat.reduceLeDiff, Int.reduceLT, Int.reduceLE, Int.reduceAdd, Int.reduceSub, Int.reduceToNat, ↓reduceIte, c38, hv, Tok.c, hlo, q0, w0, hixo, hldo, g1, g2]
        exact out _ _ (hK _ _ _ _ _ _ _ _ _ same.1 same.2)
      | false =>
      by_cases g3 : 32 ≤ B.op.length
      · have q3 : decide ((32 : Int) ≤ (B.op.length : Int)) = true := decide_eq_true (by omega)
        have e2 : B.begin t = (B, 11) := by unfold TB.begin; rw [g2]; simp [ho, g3]
        rw [e2] at hK
        simp (disch := first | omega | (simp only [ln]; first | done | omega)) only [walkAll, walkL, walkK, wk, E, Nat.reduceEqDiff, Nat.reduceAdd, Nat.reduceSub, Nat.reduceLeDiff, Int.reduceLT, Int.reduceLE, Int.reduceAdd, Int.reduceSub, Int.reduceToNat, ↓reduceIte, c38, hv, Tok.c, hlo, hll, q0, q1, w0, hixo, hldo, g1, g2, q3]
        exact out _ _ (hK _ _ _ _ _ _ _ _ _ same.1 same.2)
      have q3 : decide ((32 : Int) ≤ (B.op.length : Int)) = false := decide_eq_false (by omega)
      by_cases g4 : 500 ≤ B.l.length
      · have q4 : decide ((500 : Int) ≤ (B.l.length : Int)) = true := decide_eq_true (by omega)
        have e2 : B.begin t = (B, 4) := by unfold TB.begin; rw [g2]; simp [ho, g3, g4]
        rw [e2] at hK
        simp (disch := first | omega | (simp only [ln]; first | done | omega)) only [walkAll, walkL, walkK, wk, E, Nat.reduceEqDiff, Nat.reduceAdd, Nat.reduceSub, Nat.reduceLeDiff, Int.reduceLT, Int.reduceLE, Int.reduceAdd, Int.reduceSub, Int.reduceToNat, ↓reduceIte, c38, hv, Tok.c, hlo, hll, q0, q1, w0, hixo, hldo, g1, g2, q3, q4]
        exact out _ _ (hK _ _ _ _ _ _ _ _ _ same.1 same.2)
      have q4 : decide ((500 : Int) ≤ (B.l.length : Int)) = false := decide_eq_false (by omega)
      simp (disch := first | omega | (simp only [ln]; first | done | omega)) only [walkAll, walkL, walkK, wk, E, Nat.reduceEqDiff, Nat.reduceAdd, Nat.reduceSub, Nat.reduceLeDiff, Int.reduceLT, Int.reduceLE, Int.reduceAdd, Int.reduceSub, Int.reduceToNat, ↓reduceIte, c38, hv, Tok.c, hlo, hll, q0, q1, w0, hixo, hldo, g1, g2, q3, q4]
--B--
      refine data_copy (e := 64) (z := 2) (b := 32) (l := t.attrs.map atc) (elsA_lsq _ _ _) (at_len _) (at_ones _) (by simp; omega) (fun va σ2 ρa hA hbA hnil hsome => ?_)
      have hav : va = .nils ∨ t.attrs.map atc ≠ [] := by by_cases h : t.attrs.map atc = [] <;> simp_all
      have hG2 : Owns σ2 [⟨64, 2, va, t.attrs.map atc, ρa⟩, cL vl B ρl, cO vo B ρo, cT vt B ρt, cI vi B ρi] := (hB.own.pushV _).add ⟨64, 2, va, t.attrs.map atc, ρa⟩ hA hbA
      obtain ⟨cva, ova⟩ := hA.cells
      have hn2 : nvs σ2 = nvs σ + 1 := by rw [hbA.nvs]; simp only [nvsR]
      have hv2 : getV σ2 b = some (.cells 74 [vl, vo, vt, vi]) := by rw [hbA.getV]; simp (disch := first | omega | (simp only [ln]; first | done | omega)) only [walkAll, walkL, walkK, wk, E, Nat.reduceEqDiff, Nat.reduceAdd, Nat.reduceSub, Nat.reduceLeDiff, Int.reduceLT, Int.reduceLE, Int.reduceAdd, Int.reduceSub, Int.reduceToNat, ↓reduceIte, hv]
      have ht2 : getV σ2 (nvs σ) = some (.cells 30 [.int .i64 t.kind, .str t.name, .str t.text, lsq t.nn (t.attrs.map atc), .bool t.empty]) := by rw [hbA.getV]; simp (disch := first | omega | (simp only [ln]; first | done | omega)) only [walkAll, walkL, walkK, wk, E, Nat.reduceEqDiff, Nat.reduceAdd, Nat.reduceSub, Nat.reduceLeDiff, Int.reduceLT, Int.reduceLE, Int.reduceAdd, Int.reduceSub, Int.reduceToNat, ↓reduceIte]
      have hb2 : ∀ j, j < nvs σ → getV σ2 j = getV σ j := fun j hj => by rw [hbA.getV]; simp (disch := first | omega | (simp only [ln]; first | done | omega)) only [walkAll, walkL, walkK, wk, E, Nat.reduceEqDiff, Nat.reduceAdd, Nat.reduceSub, Nat.reduceLeDiff, Int.reduceLT, Int.reduceLE, Int.reduceAdd, Int.reduceSub, Int.reduceToNat, ↓reduceIte]
      simp (disch := first | omega | (simp only [ln]; first | done | omega)) only [walkAll, walkL, walkK, wk, E, Nat.reduceEqDiff, Nat.reduceAdd, Nat.reduceSub, Nat.reduceLeDiff, Int.reduceLT, Int.reduceLE, Int.reduceAdd, Int.reduceSub, Int.reduceToNat, ↓reduceIte, hv2, ht2, cva, ova]
      have hG2' := hG2.rb (RB.pushR σ2 ⟨40, 4, 0, [[.int .i64 (i : Int), .str t.name, .str [], va]]⟩)
      refine own_appx (hG2'.ok (cL vl B ρl) (by simp)) (elsA_one (getR_last _ _)) rfl (by simp only [List.all_cons, List.all_nil, walkO, ova, Bool.and_self]) (by simp [cL]; omega) (fun vl3 σ3 ρl3 hl3 hb3 => ?_)
      have hG3 := hG2'.upd (pre := [⟨64, 2, va, t.attrs.map atc, ρa⟩]) (c := cL vl B ρl) (post := [cO vo B ρo, cT vt B ρt, cI vi B ρi]) ⟨40, 4, vl3, (B.l.map bare).map Nd.c ++ [[.int .i64 (i : Int), .str t.name, .str [], va]], ρl3⟩ hl3 hb3
      obtain ⟨cl3, ol3⟩ := hl3.cells
      have hll3 := hl3.len
      rw [show ((cL vl B ρl).l ++ [[.int .i64 (i : Int), .str t.name, .str [], va]]).length = B.l.length + 1 by simp [cL]] at hll3
      have hn3 : nvs σ3 = nvs σ + 1 := by rw [hb3.nvs]; simp only [nvsR]; exact hn2
      have hv3 : getV σ3 b = some (.cells 74 [vl, vo, vt, vi]) := by rw [hb3.getV]; exact hv2
      have ht3 : getV σ3 (nvs σ) = some (.cells 30 [.int .i64 t.kind, .str t.name, .str t.text, lsq t.nn (t.attrs.map atc), .bool t.empty]) := by rw [hb3.getV]; exact ht2
      have wl : IntKind.i64.wrap (((B.l.length + 1 : Nat) : Int) - 1) = (B.l.length : Int) := by rw [wrap_i64 _ (by omega) (by omega)]; omega
      have ltT : ∀ r, ρt = some r → r < nrs σ3 := fun r hr => (hG3.ok (cT vt B ρt) (by simp)).lt hr
      simp (disch := first | omega | (simp only [ln]; first | done | omega)) only [walkAll, walkL, walkK, wk, E, Nat.reduceEqDiff, Nat.reduceAdd, Nat.reduceSub, Nat.reduceLeDiff, Int.reduceLT, Int.reduceLE, Int.reduceAdd, Int.reduceSub, Int.reduceToNat, ↓reduceIte, hv3, ht3, cl3, ol3]
      have hG3s := hG3.setV b (.cells 74 [vl3, vo, vt, vi])
      have tail : ∀ (vt4 : AV) (σ4 : St) (ρt4 : Option Nat) (vi5 : AV) (σ5 : St) (ρi5 : Option Nat), True := fun _ _ _ _ _ _ => trivial
      refine ⟨⟨?_, ?_⟩, ?_⟩
      · have hGa := hG3s.rb (RB.pushR (σ3.setV b (.cells 74 [vl3, vo, vt, vi])) ⟨9, 1, 0, [[.str []]]⟩)
        have hsT := getR_last (σ3.setV b (.cells 74 [vl3, vo, vt, vi])) ⟨9, 1, 0, [[.str []]]⟩
        refine own_appx (b := 16) (hGa.ok (cT vt B ρt) (by simp)) (elsA_one hsT) rfl rfl (by simp [cT]; omega) (fun vt4 σ4 ρt4 ht4 hb4 => ?_)
        have hG4 := hGa.upd (pre := [⟨64, 2, va, t.attrs.map atc, ρa⟩, ⟨40, 4, vl3, (B.l.map bare).map Nd.c ++ [[.int .i64 (i : Int), .str t.name, .str [], va]], ρl3⟩, cO vo B ρo]) (c := cT vt B ρt) (post := [cI vi B ρi]) ⟨9, 1, vt4, B.l.map txc ++ [[AV.str []]], ρt4⟩ ht4 hb4
        have hn4 : nvs σ4 = nvs σ + 1 := by rw [hb4.nvs]; simp only [nvsR]; exact hn3
        have hv4 : getV σ4 b = some (.cells 74 [vl3, vo, vt, vi]) := by rw [hb4.getV]; simp (disch := first | omega | (simp only [ln]; first | done | omega)) only [walkAll, walkL, walkK, wk, E, Nat.reduceEqDiff, Nat.reduceAdd, Nat.reduceSub, Nat.reduceLeDiff, Int.reduceLT, Int.reduceLE, Int.reduceAdd, Int.reduceSub, Int.reduceToNat, ↓reduceIte]
        have ht4' : getV σ4 (nvs σ) = some (.cells 30 [.int .i64 t.kind, .str t.name, .str t.text, lsq t.nn (t.attrs.map atc), .bool t.empty]) := by rw [hb4.getV]; simp (disch := first | omega | (simp only [ln]; first | done | omega)) only [walkAll, walkL, walkK, wk, E, Nat.reduceEqDiff, Nat.reduceAdd, Nat.reduceSub, Nat.reduceLeDiff, Int.reduceLT, Int.reduceLE, Int.reduceAdd, Int.reduceSub, Int.reduceToNat, ↓reduceIte, ht3]
        have hj4 : ∀ j, j < nvs σ → j ≠ b → getV σ4 j = getV σ j := fun j hj hjb => by rw [hb4.getV]; simp (disch := first | omega | (simp only [ln]; first | done | omega)) only [walkAll, walkL, walkK, wk, E, Nat.reduceEqDiff, Nat.reduceAdd, Nat.reduceSub, Nat.reduceLeDiff, Int.reduceLT, Int.reduceLE, Int.reduceAdd, Int.reduceSub, Int.reduceToNat, ↓reduceIte, hb3.getV, hb2]
        simp (disch := first | omega | (simp only [ln]; first | done | omega)) only [walkAll, walkL, walkK, wk, E, Nat.reduceEqDiff, Nat.reduceAdd, Nat.reduceSub, Nat.reduceLeDiff, Int.reduceLT, Int.reduceLE, Int.reduceAdd, Int.reduceSub, Int.reduceToNat, ↓reduceIte, hv4, ht4']
        have hGb := hG4.rb (RB.pushR σ4 ⟨4, 1, 0, [[.bool false]]⟩)
        have hsI := getR_last σ4 ⟨4, 1, 0, [[.bool false]]⟩
        refine own_appx (b := 1) (hGb.ok (cI vi B ρi) (by simp)) (elsA_one hsI) rfl rfl (by simp [cI]; omega) (fun vi5 σ5 ρi5 hi5 hb5 => ?_)
        have hG5 := hGb.upd (pre := [⟨64, 2, va, t.attrs.map atc, ρa⟩, ⟨40, 4, vl3, (B.l.map bare).map Nd.c ++ [[.int .i64 (i : Int), .str t.name, .str [], va]], ρl3⟩, cO vo B ρo, ⟨9, 1, vt4, B.l.map txc ++ [[AV.str []]], ρt4⟩]) (c := cI vi B ρi) (post := []) ⟨4, 1, vi5, B.l.map inc ++ [[AV.bool false]], ρi5⟩ hi5 hb5
        have hn5 : nvs σ5 = nvs σ + 1 := by rw [hb5.nvs]; first | exact hn4 | (simp only [nvsR]; exact hn4)
        have hv5 : getV σ5 b = some (.cells 74 [vl3, vo, vt, vi]) := by rw [hb5.getV]; exact hv4
        have ht5 : getV σ5 (nvs σ) = some (.cells 30 [.int .i64 t.kind, .str t.name, .str t.text, lsq t.nn (t.attrs.map atc), .bool t.empty]) := by rw [hb5.getV]; exact ht4'
        have hj5 : ∀ j, j < nvs σ → j ≠ b → getV σ5 j = getV σ j := fun j hj hjb => by rw [hb5.getV]; exact hj4 j hj hjb
        obtain ⟨ct4, ot4⟩ := ht4.cells
        obtain ⟨ci5, oi5⟩ := hi5.cells
        cases g5 : t.empty with
        | true =>
          rw [g5] at ht5
          have e2 : B.begin t = (⟨B.l ++ [⟨(i : Int), t.name, [], t.attrs, t.nn⟩], B.op, B.raise ++ [false]⟩, 0) := by unfold TB.begin; rw [g2]; simp [ho, g3, g4, g5, ht]
          rw [e2] at hK
          simp (disch := first | omega | (simp only [ln]; first | done | omega)) only [walkAll, walkL, walkK, wk, E, Nat.reduceEqDiff, Nat.reduceAdd, Nat.reduceSub, Nat.reduceLeDiff, Int.reduceLT, Int.reduceLE, Int.reduceAdd, Int.reduceSub, Int.reduceToNat, ↓reduceIte, hv5, ht5, ct4, ot4, ci5, oi5, q3]
          obtain ⟨σf, hcf, hvf, hGf⟩ := (hG5.setV b (.cells 74 [vl3, vo, vt4, vi5])).give (a := ⟨64, 2, va, t.attrs.map atc, ρa⟩) (lc := ⟨40, 4, vl3, (B.l.map bare).map Nd.c ++ [[.int .i64 (i : Int), .str t.name, .str [], va]], ρl3⟩) (cs := [cO vo B ρo, ⟨9, 1, vt4, B.l.map txc ++ [[AV.str []]], ρt4⟩, ⟨4, 1, vi5, B.l.map inc ++ [[AV.bool false]], ρi5⟩]) (old := (B.l.map bare).map Nd.c) (p := [.int .i64 (i : Int), .str t.name, .str []]) rfl (bare_frz _) (fun r els => by simp only [frzL, frz]) hav
          have hgf : ∀ j, getV σf j = getV (σ5.setV b (.cells 74 [vl3, vo, vt4, vi5])) j := fun j => by simp only [getV, hvf]
          have hnf : nvs σf = nvs σ + 1 := by rw [← hn5]; simp only [nvs, hvf, St.setV, List.length_set]
          refine ⟨.int .i64 0, σf, hcf _, hK _ vl3 vo vt4 vi5 ρl3 ρo ρt4 ρi5 ⟨?_, ?_⟩ (past _ (by omega) (fun j hj hjb => ?_))⟩
          · rw [hgf]; simp (disch := first | omega | (simp only [ln]; first | done | omega)) only [walkAll, walkL, walkK, wk, E, Nat.reduceEqDiff, Nat.reduceAdd, Nat.reduceSub, Nat.reduceLeDiff, Int.reduceLT, Int.reduceLE, Int.reduceAdd, Int.reduceSub, Int.reduceToNat, ↓reduceIte]
          · have el : [cL vl3 ⟨B.l ++ [⟨(i : Int), t.name, [], t.attrs, t.nn⟩], B.op, B.raise ++ [false]⟩ ρl3, cO vo ⟨B.l ++ [⟨(i : Int), t.name, [], t.attrs, t.nn⟩], B.op, B.raise ++ [false]⟩ ρo, cT vt4 ⟨B.l ++ [⟨(i : Int), t.name, [], t.attrs, t.nn⟩], B.op, B.raise ++ [false]⟩ ρt4, cI vi5 ⟨B.l ++ [⟨(i : Int), t.name, [], t.attrs, t.nn⟩], B.op, B.raise ++ [false]⟩ ρi5] = _ := grow_lists vl3 vo vt4 vi5 ρl3 ρo ρt4 ρi5 B.op (i : Int)
            rw [el]; exact hGf
          · rw [hgf]; simp (disch := first | omega | (simp only [ln]; first | done | omega)) only [walkAll, walkL, walkK, wk, E, Nat.reduceEqDiff, Nat.reduceAdd, Nat.reduceSub, Nat.reduceLeDiff, Int.reduceLT, Int.reduceLE, Int.reduceAdd, Int.reduceSub, Int.reduceToNat, ↓reduceIte, hj5]
        | false =>
          rw [g5] at ht5
          have e2 : B.begin t = (⟨B.l ++ [⟨(i : Int), t.name, [], t.attrs, t.nn⟩], B.op ++ [B.l.length], B.raise ++ [false]⟩, 0) := by unfold TB.begin; rw [g2]; simp [ho, g3, g4, g5, ht]
          rw [e2] at hK
          simp (disch := first | omega | (simp only [ln]; first | done | omega)) only [walkAll, walkL, walkK, wk, E, Nat.reduceEqDiff, Nat.reduceAdd, Nat.reduceSub, Nat.reduceLeDiff, Int.reduceLT, Int.reduceLE, Int.reduceAdd, Int.reduceSub, Int.reduceToNat, ↓reduceIte, hv5, ht5, ct4, ot4, ci5, oi5, hll3, wl, q3]
          have hG5s := (hG5.setV b (.cells 74 [vl3, vo, vt4, vi5])).rb (RB.pushR (σ5.setV b (.cells 74 [vl3, vo, vt4, vi5])) ⟨3, 1, 0, [[.int .i64 B.l.length]]⟩)
          refine own_appx (b := 8) (hG5s.ok (cO vo B ρo) (by simp)) (elsA_one (getR_last _ _)) rfl rfl (by simp [cO]; omega) (fun vo6 σ6 ρo6 ho6 hb6 => ?_)
          have hG6 := hG5s.upd (pre := [⟨64, 2, va, t.attrs.map atc, ρa⟩, ⟨40, 4, vl3, (B.l.map bare).map Nd.c ++ [[.int .i64 (i : Int), .str t.name, .str [], va]], ρl3⟩]) (c := cO vo B ρo) (post := [⟨9, 1, vt4, B.l.map txc ++ [[AV.str []]], ρt4⟩, ⟨4, 1, vi5, B.l.map inc ++ [[AV.bool false]], ρi5⟩]) ⟨3, 1, vo6, B.op.map ixc ++ [[AV.int .i64 B.l.length]], ρo6⟩ ho6 hb6
          have hn6 : nvs σ6 = nvs σ + 1 := by rw [hb6.nvs]; simp only [nvsR]; exact hn5
          have hv6 : getV σ6 b = some (.cells 74 [vl3, vo, vt4, vi5]) := by rw [hb6.getV]; simp (disch := first | omega | (simp only [ln]; first | done | omega)) only [walkAll, walkL, walkK, wk, E, Nat.reduceEqDiff, Nat.reduceAdd, Nat.reduceSub, Nat.reduceLeDiff, Int.reduceLT, Int.reduceLE, Int.reduceAdd, Int.reduceSub, Int.reduceToNat, ↓reduceIte]
          obtain ⟨co6, oo6⟩ := ho6.cells
          simp (disch := first | omega | (simp only [ln]; first | done | omega)) only [walkAll, walkL, walkK, wk, E, Nat.reduceEqDiff, Nat.reduceAdd, Nat.reduceSub, Nat.reduceLeDiff, Int.reduceLT, Int.reduceLE, Int.reduceAdd, Int.reduceSub, Int.reduceToNat, ↓reduceIte, hv6, co6, oo6]
          obtain ⟨σf, hcf, hvf, hGf⟩ := (hG6.setV b (.cells 74 [vl3, vo6, vt4, vi5])).give (a := ⟨64, 2, va, t.attrs.map atc, ρa⟩) (lc := ⟨40, 4, vl3, (B.l.map bare).map Nd.c ++ [[.int .i64 (i : Int), .str t.name, .str [], va]], ρl3⟩) (cs := [⟨3, 1, vo6, B.op.map ixc ++ [[AV.int .i64 B.l.length]], ρo6⟩, ⟨9, 1, vt4, B.l.map txc ++ [[AV.str []]], ρt4⟩, ⟨4, 1, vi5, B.l.map inc ++ [[AV.bool false]], ρi5⟩]) (old := (B.l.map bare).map Nd.c) (p := [.int .i64 (i : Int), .str t.name, .str []]) rfl (bare_frz _) (fun r els => by simp only [frzL, frz]) hav
          have hgf : ∀ j, getV σf j = getV (σ6.setV b (.cells 74 [vl3, vo6, vt4, vi5])) j := fun j => by simp only [getV, hvf]
          have hnf : nvs σf = nvs σ + 1 := by rw [← hn6]; simp only [nvs, hvf, St.setV, List.length_set]
          refine ⟨.int .i64 0, σf, hcf _, hK _ vl3 vo6 vt4 vi5 ρl3 ρo6 ρt4 ρi5 ⟨?_, ?_⟩ (past _ (by omega) (fun j hj hjb => ?_))⟩
          · rw [hgf]; simp (disch := first | omega | (simp only [ln]; first | done | omega)) only [walkAll, walkL, walkK, wk, E, Nat.reduceEqDiff, Nat.reduceAdd, Nat.reduceSub, Nat.reduceLeDiff, Int.reduceLT, Int.reduceLE, Int.reduceAdd, Int.reduceSub, Int.reduceToNat, ↓reduceIte]
          · have el := grow_lists (B := B) (t := t) vl3 vo6 vt4 vi5 ρl3 ρo6 ρt4 ρi5 (B.op ++ [B.l.length]) (i : Int)
            rw [el]; simpa only [List.map_append, List.map_cons, List.map_nil, ixc] using hGf
          · rw [hgf]; simp (disch := first | omega | (simp only [ln]; first | done | omega)) only [walkAll, walkL, walkK, wk, E, Nat.reduceEqDiff, Nat.reduceAdd, Nat.reduceSub, Nat.reduceLeDiff, Int.reduceLT, Int.reduceLE, Int.reduceAdd, Int.reduceSub, Int.reduceToNat, ↓reduceIte, hb6.getV, hj5]
      · have hGa := (hG3s.rb (RB.pushR (σ3.setV b (.cells 74 [vl3, vo, vt, vi])) ⟨9, 1, 0, [[.str []]]⟩)).rb (RB.pushR ((σ3.setV b (.cells 74 [vl3, vo, vt, vi])).pushR ⟨9, 1, 0, [[.str []]]⟩) ⟨4, 1, 0, [[.bool false]]⟩)
        have hsT := getR_push (getR_last (σ3.setV b (.cells 74 [vl3, vo, vt, vi])) ⟨9, 1, 0, [[.str []]]⟩) ⟨4, 1, 0, [[.bool false]]⟩
        have hsI := getR_last ((σ3.setV b (.cells 74 [vl3, vo, vt, vi])).pushR ⟨9, 1, 0, [[.str []]]⟩) ⟨4, 1, 0, [[.bool false]]⟩
        simp only [nvsR] at hsI hsT
        refine own_appx (b := 16) (hGa.ok (cT vt B ρt) (by simp)) (elsA_one hsT) rfl rfl (by simp [cT]; omega) (fun vt4 σ4 ρt4 ht4 hb4 => ?_)
        have hG4 := hGa.upd (pre := [⟨64, 2, va, t.attrs.map atc, ρa⟩, ⟨40, 4, vl3, (B.l.map bare).map Nd.c ++ [[.int .i64 (i : Int), .str t.name, .str [], va]], ρl3⟩, cO vo B ρo]) (c := cT vt B ρt) (post := [cI vi B ρi]) ⟨9, 1, vt4, B.l.map txc ++ [[AV.str []]], ρt4⟩ ht4 hb4
        have hn4 : nvs σ4 = nvs σ + 1 := by rw [hb4.nvs]; simp only [nvsR]; exact hn3
        have hv4 : getV σ4 b = some (.cells 74 [vl3, vo, vt, vi]) := by rw [hb4.getV]; simp (disch := first | omega | (simp only [ln]; first | done | omega)) only [walkAll, walkL, walkK, wk, E, Nat.reduceEqDiff, Nat.reduceAdd, Nat.reduceSub, Nat.reduceLeDiff, Int.reduceLT, Int.reduceLE, Int.reduceAdd, Int.reduceSub, Int.reduceToNat, ↓reduceIte]
        have ht4' : getV σ4 (nvs σ) = some (.cells 30 [.int .i64 t.kind, .str t.name, .str t.text, lsq t.nn (t.attrs.map atc), .bool t.empty]) := by rw [hb4.getV]; simp (disch := first | omega | (simp only [ln]; first | done | omega)) only [walkAll, walkL, walkK, wk, E, Nat.reduceEqDiff, Nat.reduceAdd, Nat.reduceSub, Nat.reduceLeDiff, Int.reduceLT, Int.reduceLE, Int.reduceAdd, Int.reduceSub, Int.reduceToNat, ↓reduceIte, ht3]
        have hj4 : ∀ j, j < nvs σ → j ≠ b → getV σ4 j = getV σ j := fun j hj hjb => by rw [hb4.getV]; simp (disch := first | omega | (simp only [ln]; first | done | omega)) only [walkAll, walkL, walkK, wk, E, Nat.reduceEqDiff, Nat.reduceAdd, Nat.reduceSub, Nat.reduceLeDiff, Int.reduceLT, Int.reduceLE, Int.reduceAdd, Int.reduceSub, Int.reduceToNat, ↓reduceIte, hb3.getV, hb2]
        simp (disch := first | omega | (simp only [ln]; first | done | omega)) only [walkAll, walkL, walkK, wk, E, Nat.reduceEqDiff, Nat.reduceAdd, Nat.reduceSub, Nat.reduceLeDiff, Int.reduceLT, Int.reduceLE, Int.reduceAdd, Int.reduceSub, Int.reduceToNat, ↓reduceIte, hv4, ht4']
        have hGb := hG4
        have hsI4 := hb4.row _ (fun h => by have := ltT _ h.symm; omega) (getR_lt hsI)
        rw [hsI] at hsI4
        have hsI := hsI4
        refine own_appx (b := 1) (hGb.ok (cI vi B ρi) (by simp)) (elsA_one hsI) rfl rfl (by simp [cI]; omega) (fun vi5 σ5 ρi5 hi5 hb5 => ?_)
        have hG5 := hGb.upd (pre := [⟨64, 2, va, t.attrs.map atc, ρa⟩, ⟨40, 4, vl3, (B.l.map bare).map Nd.c ++ [[.int .i64 (i : Int), .str t.name, .str [], va]], ρl3⟩, cO vo B ρo, ⟨9, 1, vt4, B.l.map txc ++ [[AV.str []]], ρt4⟩]) (c := cI vi B ρi) (post := []) ⟨4, 1, vi5, B.l.map inc ++ [[AV.bool false]], ρi5⟩ hi5 hb5
        have hn5 : nvs σ5 = nvs σ + 1 := by rw [hb5.nvs]; first | exact hn4 | (simp only [nvsR]; exact hn4)
        have hv5 : getV σ5 b = some (.cells 74 [vl3, vo, vt, vi]) := by rw [hb5.getV]; exact hv4
        have ht5 : getV σ5 (nvs σ) = some (.cells 30 [.int .i64 t.kind, .str t.name, .str t.text, lsq t.nn (t.attrs.map atc), .bool t.empty]) := by rw [hb5.getV]; exact ht4'
        have hj5 : ∀ j, j < nvs σ → j ≠ b → getV σ5 j = getV σ j := fun j hj hjb => by rw [hb5.getV]; exact hj4 j hj hjb
        obtain ⟨ct4, ot4⟩ := ht4.cells
        obtain ⟨ci5, oi5⟩ := hi5.cells
        cases g5 : t.empty with
        | true =>
          rw [g5] at ht5
          have e2 : B.begin t = (⟨B.l ++ [⟨(i : Int), t.name, [], t.attrs, t.nn⟩], B.op, B.raise ++ [false]⟩, 0) := by unfold TB.begin; rw [g2]; simp [ho, g3, g4, g5, ht]
          rw [e2] at hK
          simp (disch := first | omega | (simp only [ln]; first | done | omega)) only [walkAll, walkL, walkK, wk, E, Nat.reduceEqDiff, Nat.reduceAdd, Nat.reduceSub, Nat.reduceLeDiff, Int.reduceLT, Int.reduceLE, Int.reduceAdd, Int.reduceSub, Int.reduceToNat, ↓reduceIte, hv5, ht5, ct4, ot4, ci5, oi5, q3]
          obtain ⟨σf, hcf, hvf, hGf⟩ := (hG5.setV b (.cells 74 [vl3, vo, vt4, vi5])).give (a := ⟨64, 2, va, t.attrs.map atc, ρa⟩) (lc := ⟨40, 4, vl3, (B.l.map bare).map Nd.c ++ [[.int .i64 (i : Int), .str t.name, .str [], va]], ρl3⟩) (cs := [cO vo B ρo, ⟨9, 1, vt4, B.l.map txc ++ [[AV.str []]], ρt4⟩, ⟨4, 1, vi5, B.l.map inc ++ [[AV.bool false]], ρi5⟩]) (old := (B.l.map bare).map Nd.c) (p := [.int .i64 (i : Int), .str t.name, .str []]) rfl (bare_frz _) (fun r els => by simp only [frzL, frz]) hav
          have hgf : ∀ j, getV σf j = getV (σ5.setV b (.cells 74 [vl3, vo, vt4, vi5])) j := fun j => by simp only [getV, hvf]
          have hnf : nvs σf = nvs σ + 1 := by rw [← hn5]; simp only [nvs, hvf, St.setV, List.length_set]
          refine ⟨.int .i64 0, σf, hcf _, hK _ vl3 vo vt4 vi5 ρl3 ρo ρt4 ρi5 ⟨?_, ?_⟩ (past _ (by omega) (fun j hj hjb => ?_))⟩
          · rw [hgf]; simp (disch := first | omega | (simp only [ln]; first | done | omega)) only [walkAll, walkL, walkK, wk, E, Nat.reduceEqDiff, Nat.reduceAdd, Nat.reduceSub, Nat.reduceLeDiff, Int.reduceLT, Int.reduceLE, Int.reduceAdd, Int.reduceSub, Int.reduceToNat, ↓reduceIte]
          · have el : [cL vl3 ⟨B.l ++ [⟨(i : Int), t.name, [], t.attrs, t.nn⟩], B.op, B.raise ++ [false]⟩ ρl3, cO vo ⟨B.l ++ [⟨(i : Int), t.name, [], t.attrs, t.nn⟩], B.op, B.raise ++ [false]⟩ ρo, cT vt4 ⟨B.l ++ [⟨(i : Int), t.name, [], t.attrs, t.nn⟩], B.op, B.raise ++ [false]⟩ ρt4, cI vi5 ⟨B.l ++ [⟨(i : Int), t.name, [], t.attrs, t.nn⟩], B.op, B.raise ++ [false]⟩ ρi5] = _ := grow_lists vl3 vo vt4 vi5 ρl3 ρo ρt4 ρi5 B.op (i : Int)
            rw [el]; exact hGf
          · rw [hgf]; simp (disch := first | omega | (simp only [ln]; first | done | omega)) only [walkAll, walkL, walkK, wk, E, Nat.reduceEqDiff, Nat.reduceAdd, Nat.reduceSub, Nat.reduceLeDiff, Int.reduceLT, Int.reduceLE, Int.reduceAdd, Int.reduceSub, Int.reduceToNat, ↓reduceIte, hj5]
        | false =>
          rw [g5] at ht5
          have e2 : B.begin t = (⟨B.l ++ [⟨(i : Int), t.name, [], t.attrs, t.nn⟩], B.op ++ [B.l.length], B.raise ++ [false]⟩, 0) := by unfold TB.begin; rw [g2]; simp [ho, g3, g4, g5, ht]
          rw [e2] at hK
          simp (disch := first | omega | (simp only [ln]; first | done | omega)) only [walkAll, walkL, walkK, wk, E, Nat.reduceEqDiff, Nat.reduceAdd, Nat.reduceSub, Nat.reduceLeDiff, Int.reduceLT, Int.reduceLE, Int.reduceAdd, Int.reduceSub, Int.reduceToNat, ↓reduceIte, hv5, ht5, ct4, ot4, ci5, oi5, hll3, wl, q3]
          have hG5s := (hG5.setV b (.cells 74 [vl3, vo, vt4, vi5])).rb (RB.pushR (σ5.setV b (.cells 74 [vl3, vo, vt4, vi5])) ⟨3, 1, 0, [[.int .i64 B.l.length]]⟩)
          refine own_appx (b := 8) (hG5s.ok (cO vo B ρo) (by simp)) (elsA_one (getR_last _ _)) rfl rfl (by simp [cO]; omega) (fun vo6 σ6 ρo6 ho6 hb6 => ?_)
          have hG6 := hG5s.upd (pre := [⟨64, 2, va, t.attrs.map atc, ρa⟩, ⟨40, 4, vl3, (B.l.map bare).map Nd.c ++ [[.int .i64 (i : Int), .str t.name, .str [], va]], ρl3⟩]) (c := cO vo B ρo) (post := [⟨9, 1, vt4, B.l.map txc ++ [[AV.str []]], ρt4⟩, ⟨4, 1, vi5, B.l.map inc ++ [[AV.bool false]], ρi5⟩]) ⟨3, 1, vo6, B.op.map ixc ++ [[AV.int .i64 B.l.length]], ρo6⟩ ho6 hb6
          have hn6 : nvs σ6 = nvs σ + 1 := by rw [hb6.nvs]; simp only [nvsR]; exact hn5
          have hv6 : getV σ6 b = some (.cells 74 [vl3, vo, vt4, vi5]) := by rw [hb6.getV]; simp (disch := first | omega | (simp only [ln]; first | done | omega)) only [walkAll, walkL, walkK, wk, E, Nat.reduceEqDiff, Nat.reduceAdd, Nat.reduceSub, Nat.reduceLeDiff, Int.reduceLT, Int.reduceLE, Int.reduceAdd, Int.reduceSub, Int.reduceToNat, ↓reduceIte]
          obtain ⟨co6, oo6⟩ := ho6.cells
          simp (disch := first | omega | (simp only [ln]; first | done | omega)) only [walkAll, walkL, walkK, wk, E, Nat.reduceEqDiff, Nat.reduceAdd, Nat.reduceSub, Nat.reduceLeDiff, Int.reduceLT, Int.reduceLE, Int.reduceAdd, Int.reduceSub, Int.reduceToNat, ↓reduceIte, hv6, co6, oo6]
          obtain ⟨σf, hcf, hvf, hGf⟩ := (hG6.setV b (.cells 74 [vl3, vo6, vt4, vi5])).give (a := ⟨64, 2, va, t.attrs.map atc, ρa⟩) (lc := ⟨40, 4, vl3, (B.l.map bare).map Nd.c ++ [[.int .i64 (i : Int), .str t.name, .str [], va]], ρl3⟩) (cs := [⟨3, 1, vo6, B.op.map ixc ++ [[AV.int .i64 B.l.length]], ρo6⟩, ⟨9, 1, vt4, B.l.map txc ++ [[AV.str []]], ρt4⟩, ⟨4, 1, vi5, B.l.map inc ++ [[AV.bool false]], ρi5⟩]) (old := (B.l.map bare).map Nd.c) (p := [.int .i64 (i : Int), .str t.name, .str []]) rfl (bare_frz _) (fun r els => by simp only [frzL, frz]) hav
          have hgf : ∀ j, getV σf j = getV (σ6.setV b (.cells 74 [vl3, vo6, vt4, vi5])) j := fun j => by simp only [getV, hvf]
          have hnf : nvs σf = nvs σ + 1 := by rw [← hn6]; simp only [nvs, hvf, St.setV, List.length_set]
          refine ⟨.int .i64 0, σf, hcf _, hK _ vl3 vo6 vt4 vi5 ρl3 ρo6 ρt4 ρi5 ⟨?_, ?_⟩ (past _ (by omega) (fun j hj hjb => ?_))⟩
          · rw [hgf]; simp (disch := first | omega | (simp only [ln]; first | done | omega)) only [walkAll, walkL, walkK, wk, E, Nat.reduceEqDiff, Nat.reduceAdd, Nat.reduceSub, Nat.reduceLeDiff, Int.reduceLT, Int.reduceLE, Int.reduceAdd, Int.reduceSub, Int.reduceToNat, ↓reduceIte]
          · have el := grow_lists (B := B) (t := t) vl3 vo6 vt4 vi5 ρl3 ρo6 ρt4 ρi5 (B.op ++ [B.l.length]) (i : Int)
            rw [el]; simpa only [List.map_append, List.map_cons, List.map_nil, ixc] using hGf
          · rw [hgf]; simp (disch := first | omega | (simp only [ln]; first | done | omega)) only [walkAll, walkL, walkK, wk, E, Nat.reduceEqDiff, Nat.reduceAdd, Nat.reduceSub, Nat.reduceLeDiff, Int.reduceLT, Int.reduceLE, Int.reduceAdd, Int.reduceSub, Int.reduceToNat, ↓reduceIte, hb6.getV, hj5]
      · have hGa := (hG3s.rb (RB.pushR (σ3.setV b (.cells 74 [vl3, vo, vt, vi])) ⟨4, 1, 0, [[.bool false]]⟩)).rb (RB.pushR ((σ3.setV b (.cells 74 [vl3, vo, vt, vi])).pushR ⟨4, 1, 0, [[.bool false]]⟩) ⟨9, 1, 0, [[.str []]]⟩)
        have hsI := getR_push (getR_last (σ3.setV b (.cells 74 [vl3, vo, vt, vi])) ⟨4, 1, 0, [[.bool false]]⟩) ⟨9, 1, 0, [[.str []]]⟩
        have hsT := getR_last ((σ3.setV b (.cells 74 [vl3, vo, vt, vi])).pushR ⟨4, 1, 0, [[.bool false]]⟩) ⟨9, 1, 0, [[.str []]]⟩
        simp only [nvsR] at hsI hsT
        refine own_appx (b := 16) (hGa.ok (cT vt B ρt) (by simp)) (elsA_one hsT) rfl rfl (by simp [cT]; omega) (fun vt4 σ4 ρt4 ht4 hb4 => ?_)
        have hG4 := hGa.upd (pre := [⟨64, 2, va, t.attrs.map atc, ρa⟩, ⟨40, 4, vl3, (B.l.map bare).map Nd.c ++ [[.int .i64 (i : Int), .str t.name, .str [], va]], ρl3⟩, cO vo B ρo]) (c := cT vt B ρt) (post := [cI vi B ρi]) ⟨9, 1, vt4, B.l.map txc ++ [[AV.str []]], ρt4⟩ ht4 hb4
        have hn4 : nvs σ4 = nvs σ + 1 := by rw [hb4.nvs]; simp only [nvsR]; exact hn3
        have hv4 : getV σ4 b = some (.cells 74 [vl3, vo, vt, vi]) := by rw [hb4.getV]; simp (disch := first | omega | (simp only [ln]; first | done | omega)) only [walkAll, walkL, walkK, wk, E, Nat.reduceEqDiff, Nat.reduceAdd, Nat.reduceSub, Nat.reduceLeDiff, Int.reduceLT, Int.reduceLE, Int.reduceAdd, Int.reduceSub, Int.reduceToNat, ↓reduceIte]
        have ht4' : getV σ4 (nvs σ) = some (.cells 30 [.int .i64 t.kind, .str t.name, .str t.text, lsq t.nn (t.attrs.map atc), .bool t.empty]) := by rw [hb4.getV]; simp (disch := first | omega | (simp only [ln]; first | done | omega)) only [walkAll, walkL, walkK, wk, E, Nat.reduceEqDiff, Nat.reduceAdd, Nat.reduceSub, Nat.reduceLeDiff, Int.reduceLT, Int.reduceLE, Int.reduceAdd, Int.reduceSub, Int.reduceToNat, ↓reduceIte, ht3]
        have hj4 : ∀ j, j < nvs σ → j ≠ b → getV σ4 j = getV σ j := fun j hj hjb => by rw [hb4.getV]; simp (disch := first | omega | (simp only [ln]; first | done | omega)) only [walkAll, walkL, walkK, wk, E, Nat.reduceEqDiff, Nat.reduceAdd, Nat.reduceSub, Nat.reduceLeDiff, Int.reduceLT, Int.reduceLE, Int.reduceAdd, Int.reduceSub, Int.reduceToNat, ↓reduceIte, hb3.getV, hb2]
        simp (disch := first | omega | (simp only [ln]; first | done | omega)) only [walkAll, walkL, walkK, wk, E, Nat.reduceEqDiff, Nat.reduceAdd, Nat.reduceSub, Nat.reduceLeDiff, Int.reduceLT, Int.reduceLE, Int.reduceAdd, Int.reduceSub, Int.reduceToNat, ↓reduceIte, hv4, ht4']
        have hGb := hG4
        have hsI4 := hb4.row _ (fun h => by have := ltT _ h.symm; omega) (getR_lt hsI)
        rw [hsI] at hsI4
        have hsI := hsI4
        refine own_appx (b := 1) (hGb.ok (cI vi B ρi) (by simp)) (elsA_one hsI) rfl rfl (by simp [cI]; omega) (fun vi5 σ5 ρi5 hi5 hb5 => ?_)
        have hG5 := hGb.upd (pre := [⟨64, 2, va, t.attrs.map atc, ρa⟩, ⟨40, 4, vl3, (B.l.map bare).map Nd.c ++ [[.int .i64 (i : Int), .str t.name, .str [], va]], ρl3⟩, cO vo B ρo, ⟨9, 1, vt4, B.l.map txc ++ [[AV.str []]], ρt4⟩]) (c := cI vi B ρi) (post := []) ⟨4, 1, vi5, B.l.map inc ++ [[AV.bool false]], ρi5⟩ hi5 hb5
        have hn5 : nvs σ5 = nvs σ + 1 := by rw [hb5.nvs]; first | exact hn4 | (simp only [nvsR]; exact hn4)
        have hv5 : getV σ5 b = some (.cells 74 [vl3, vo, vt, vi]) := by rw [hb5.getV]; exact hv4
        have ht5 : getV σ5 (nvs σ) = some (.cells 30 [.int .i64 t.kind, .str t.name, .str t.text, lsq t.nn (t.attrs.map atc), .bool t.empty]) := by rw [hb5.getV]; exact ht4'
        have hj5 : ∀ j, j < nvs σ → j ≠ b → getV σ5 j = getV σ j := fun j hj hjb => by rw [hb5.getV]; exact hj4 j hj hjb
        obtain ⟨ct4, ot4⟩ := ht4.cells
        obtain ⟨ci5, oi5⟩ := hi5.cells
        cases g5 : t.empty with
        | true =>
          rw [g5] at ht5
          have e2 : B.begin t = (⟨B.l ++ [⟨(i : Int), t.name, [], t.attrs, t.nn⟩], B.op, B.raise ++ [false]⟩, 0) := by unfold TB.begin; rw [g2]; simp [ho, g3, g4, g5, ht]
          rw [e2] at hK
          simp (disch := first | omega | (simp only [ln]; first | done | omega)) only [walkAll, walkL, walkK, wk, E, Nat.reduceEqDiff, Nat.reduceAdd, Nat.reduceSub, Nat.reduceLeDiff, Int.reduceLT, Int.reduceLE, Int.reduceAdd, Int.reduceSub, Int.reduceToNat, ↓reduceIte, hv5, ht5, ct4, ot4, ci5, oi5, q3]
          obtain ⟨σf, hcf, hvf, hGf⟩ := (hG5.setV b (.cells 74 [vl3, vo, vt4, vi5])).give (a := ⟨64, 2, va, t.attrs.map atc, ρa⟩) (lc := ⟨40, 4, vl3, (B.l.map bare).map Nd.c ++ [[.int .i64 (i : Int), .str t.name, .str [], va]], ρl3⟩) (cs := [cO vo B ρo, ⟨9, 1, vt4, B.l.map txc ++ [[AV.str []]], ρt4⟩, ⟨4, 1, vi5, B.l.map inc ++ [[AV.bool false]], ρi5⟩]) (old := (B.l.map bare).map Nd.c) (p := [.int .i64 (i : Int), .str t.name, .str []]) rfl (bare_frz _) (fun r els => by simp only [frzL, frz]) hav
          have hgf : ∀ j, getV σf j = getV (σ5.setV b (.cells 74 [vl3, vo, vt4, vi5])) j := fun j => by simp only [getV, hvf]
          have hnf : nvs σf = nvs σ + 1 := by rw [← hn5]; simp only [nvs, hvf, St.setV, List.length_set]
          refine ⟨.int .i64 0, σf, hcf _, hK _ vl3 vo vt4 vi5 ρl3 ρo ρt4 ρi5 ⟨?_, ?_⟩ (past _ (by omega) (fun j hj hjb => ?_))⟩
          · rw [hgf]; simp (disch := first | omega | (simp only [ln]; first | done | omega)) only [walkAll, walkL, walkK, wk, E, Nat.reduceEqDiff, Nat.reduceAdd, Nat.reduceSub, Nat.reduceLeDiff, Int.reduceLT, Int.reduceLE, Int.reduceAdd, Int.reduceSub, Int.reduceToNat, ↓reduceIte]
          · have el : [cL vl3 ⟨B.l ++ [⟨(i : Int), t.name, [], t.attrs, t.nn⟩], B.op, B.raise ++ [false]⟩ ρl3, cO vo ⟨B.l ++ [⟨(i : Int), t.name, [], t.attrs, t.nn⟩], B.op, B.raise ++ [false]⟩ ρo, cT vt4 ⟨B.l ++ [⟨(i : Int), t.name, [], t.attrs, t.nn⟩], B.op, B.raise ++ [false]⟩ ρt4, cI vi5 ⟨B.l ++ [⟨(i : Int), t.name, [], t.attrs, t.nn⟩], B.op, B.raise ++ [false]⟩ ρi5] = _ := grow_lists vl3 vo vt4 vi5 ρl3 ρo ρt4 ρi5 B.op (i : Int)
            rw [el]; exact hGf
          · rw [hgf]; simp (disch := first | omega | (simp only [ln]; first | done | omega)) only [walkAll, walkL, walkK, wk, E, Nat.reduceEqDiff, Nat.reduceAdd, Nat.reduceSub, Nat.reduceLeDiff, Int.reduceLT, Int.reduceLE, Int.reduceAdd, Int.reduceSub, Int.reduceToNat, ↓reduceIte, hj5]
        | false =>
          rw [g5] at ht5
          have e2 : B.begin t = (⟨B.l ++ [⟨(i : Int), t.name, [], t.attrs, t.nn⟩], B.op ++ [B.l.length], B.raise ++ [false]⟩, 0) := by unfold TB.begin; rw [g2]; simp [ho, g3, g4, g5, ht]
          rw [e2] at hK
          simp (disch := first | omega | (simp only [ln]; first | done | omega)) only [walkAll, walkL, walkK, wk, E, Nat.reduceEqDiff, Nat.reduceAdd, Nat.reduceSub, Nat.reduceLeDiff, Int.reduceLT, Int.reduceLE, Int.reduceAdd, Int.reduceSub, Int.reduceToNat, ↓reduceIte, hv5, ht5, ct4, ot4, ci5, oi5, hll3, wl, q3]
          have hG5s := (hG5.setV b (.cells 74 [vl3, vo, vt4, vi5])).rb (RB.pushR (σ5.setV b (.cells 74 [vl3, vo, vt4, vi5])) ⟨3, 1, 0, [[.int .i64 B.l.length]]⟩)
          refine own_appx (b := 8) (hG5s.ok (cO vo B ρo) (by simp)) (elsA_one (getR_last _ _)) rfl rfl (by simp [cO]; omega) (fun vo6 σ6 ρo6 ho6 hb6 => ?_)
          have hG6 := hG5s.upd (pre := [⟨64, 2, va, t.attrs.map atc, ρa⟩, ⟨40, 4, vl3, (B.l.map bare).map Nd.c ++ [[.int .i64 (i : Int), .str t.name, .str [], va]], ρl3⟩]) (c := cO vo B ρo) (post := [⟨9, 1, vt4, B.l.map txc ++ [[AV.str []]], ρt4⟩, ⟨4, 1, vi5, B.l.map inc ++ [[AV.bool false]], ρi5⟩]) ⟨3, 1, vo6, B.op.map ixc ++ [[AV.int .i64 B.l.length]], ρo6⟩ ho6 hb6
          have hn6 : nvs σ6 = nvs σ + 1 := by rw [hb6.nvs]; simp only [nvsR]; exact hn5
          have hv6 : getV σ6 b = some (.cells 74 [vl3, vo, vt4, vi5]) := by rw [hb6.getV]; simp (disch := first | omega | (simp only [ln]; first | done | omega)) only [walkAll, walkL, walkK, wk, E, Nat.reduceEqDiff, Nat.reduceAdd, Nat.reduceSub, Nat.reduceLeDiff, Int.reduceLT, Int.reduceLE, Int.reduceAdd, Int.reduceSub, Int.reduceToNat, ↓reduceIte]
          obtain ⟨co6, oo6⟩ := ho6.cells
          simp (disch := first | omega | (simp only [ln]; first | done | omega)) only [walkAll, walkL, walkK, wk, E, Nat.reduceEqDiff, Nat.reduceAdd, Nat.reduceSub, Nat.reduceLeDiff, Int.reduceLT, Int.reduceLE, Int.reduceAdd, Int.reduceSub, Int.reduceToNat, ↓reduceIte, hv6, co6, oo6]
          obtain ⟨σf, hcf, hvf, hGf⟩ := (hG6.setV b (.cells 74 [vl3, vo6, vt4, vi5])).give (a := ⟨64, 2, va, t.attrs.map atc, ρa⟩) (lc := ⟨40, 4, vl3, (B.l.map bare).map Nd.c ++ [[.int .i64 (i : Int), .str t.name, .str [], va]], ρl3⟩) (cs := [⟨3, 1, vo6, B.op.map ixc ++ [[AV.int .i64 B.l.length]], ρo6⟩, ⟨9, 1, vt4, B.l.map txc ++ [[AV.str []]], ρt4⟩, ⟨4, 1, vi5, B.l.map inc ++ [[AV.bool false]], ρi5⟩]) (old := (B.l.map bare).map Nd.c) (p := [.int .i64 (i : Int), .str t.name, .str []]) rfl (bare_frz _) (fun r els => by simp only [frzL, frz]) hav
          have hgf : ∀ j, getV σf j = getV (σ6.setV b (.cells 74 [vl3, vo6, vt4, vi5])) j := fun j => by simp only [getV, hvf]
          have hnf : nvs σf = nvs σ + 1 := by rw [← hn6]; simp only [nvs, hvf, St.setV, List.length_set]
          refine ⟨.int .i64 0, σf, hcf _, hK _ vl3 vo6 vt4 vi5 ρl3 ρo6 ρt4 ρi5 ⟨?_, ?_⟩ (past _ (by omega) (fun j hj hjb => ?_))⟩
          · rw [hgf]; simp (disch := first | omega | (simp only [ln]; first | done | omega)) only [walkAll, walkL, walkK, wk, E, Nat.reduceEqDiff, Nat.reduceAdd, Nat.reduceSub, Nat.reduceLeDiff, Int.reduceLT, Int.reduceLE, Int.reduceAdd, Int.reduceSub, Int.reduceToNat, ↓reduceIte]
          · have el := grow_lists (B := B) (t := t) vl3 vo6 vt4 vi5 ρl3 ρo6 ρt4 ρi5 (B.op ++ [B.l.length]) (i : Int)
            rw [el]; simpa only [List.map_append, List.map_cons, List.map_nil, ixc] using hGf
          · rw [hgf]; simp (disch := first | omega | (simp only [ln]; first | done | omega)) only [walkAll, walkL, walkK, wk, E, Nat.reduceEqDiff, Nat.reduceAdd, Nat.reduceSub, Nat.reduceLeDiff, Int.reduceLT, Int.reduceLE, Int.reduceAdd, Int.reduceSub, Int.reduceToNat, ↓reduceIte, hb6.getV, hj5]
--B--end
    | false =>
    cases g2 : (t.kind == 2) with
    | true =>
      have e : B.step t = B.fin t := by unfold TB.step; simp only [g1, g2]; rfl
      have e3 : B.fin t = if n.name == t.name then (⟨B.l, B.op.take (B.op.length - 1), B.kids⟩, 0) else (B, 10) := by unfold TB.fin; rw [hgl]; simp only [hn]
      rw [e, e3] at hK
      obtain ⟨rl, hrl, hixl, hptl⟩ := own_at hP.l (i := i) (c := (bare n).c) (by rw [List.getElem?_map, List.getElem?_map, hn]; rfl)
      obtain ⟨p1, hp1, hl1⟩ := hptl.fld 1 (.str n.name) rfl
      cases g3 : (n.name == t.name) with
      | false =>
        rw [g3] at hK
        simp (disch := first | omega | (simp only [ln]; first | done | omega)) only [walkAll, walkL, walkK, wk, E, Nat.reduceEqDiff, Nat.reduceAdd, Nat.reduceSub, Nat.reduceLeDiff, Int.reduceLT, Int.reduceLE, Int.reduceAdd, Int.reduceSub, Int.reduceToNat, ↓reduceIte, c38, hv, Tok.c, hlo, q0, q1, w0, hixo, hldo, hixl, hp1, hl1, g1, g2, g3, bne]
        exact out _ _ (hK _ _ _ _ _ _ _ _ _ same.1 same.2)
      | true =>
        rw [g3] at hK
        obtain ⟨vc, hcut, hoc⟩ := own_cut hP.o (B.op.length - 1) (by simp) (by simpa using ho)
        simp (disch := first | omega | (simp only [ln]; first | done | omega)) only [walkAll, walkL, walkK, wk, E, Nat.reduceEqDiff, Nat.reduceAdd, Nat.reduceSub, Nat.reduceLeDiff, Int.reduceLT, Int.reduceLE, Int.reduceAdd, Int.reduceSub, Int.reduceToNat, ↓reduceIte, c38, hv, Tok.c, hlo, q0, q1, w0, hixo, hldo, hixl, hp1, hl1, g1, g2, g3, bne, hcut]
        refine own_copy (e := 3) (z := 1) (b := 8) hoc (by rw [List.all_eq_true]; intro c hc; obtain ⟨a, _, rfl⟩ := List.mem_map.1 (List.mem_of_mem_take hc); rfl) (by simp; omega) (fun vo2 σ2 ρo2 ho2 hb2 => ?_)
        have hG2 : Owns σ2 [cL vl B ρl, ⟨3, 1, vo2, (B.op.map ixc).take (B.op.length - 1), ρo2⟩, cT vt B ρt, cI vi B ρi] := hP.own.upd (pre := [cL vl B ρl]) (c := cO vo B ρo) (post := [cT vt B ρt, cI vi B ρi]) ⟨3, 1, vo2, (B.op.map ixc).take (B.op.length - 1), ρo2⟩ ho2 ⟨hb2.vars, hb2.grow, fun r _ hr => hb2.row r (by simp) hr, fun r hr => by
          rcases hb2.new r hr with h | h
          · cases h
          · exact .inr h⟩
        obtain ⟨co2, oo2⟩ := ho2.cells
        have hn2 : nvs σ2 = nvs σ + 1 := by rw [hb2.nvs]; simp only [nvsR]
        have hv2 : getV σ2 b = some (.cells 74 [vl, vo, vt, vi]) := by rw [hb2.getV]; simp (disch := first | omega | (simp only [ln]; first | done | omega)) only [walkAll, walkL, walkK, wk, E, Nat.reduceEqDiff, Nat.reduceAdd, Nat.reduceSub, Nat.reduceLeDiff, Int.reduceLT, Int.reduceLE, Int.reduceAdd, Int.reduceSub, Int.reduceToNat, ↓reduceIte, hv]
        simp (disch := first | omega | (simp only [ln]; first | done | omega)) only [walkAll, walkL, walkK, wk, E, Nat.reduceEqDiff, Nat.reduceAdd, Nat.reduceSub, Nat.reduceLeDiff, Int.reduceLT, Int.reduceLE, Int.reduceAdd, Int.reduceSub, Int.reduceToNat, ↓reduceIte, hv2, co2, oo2]
        refine out _ _ (hK _ vl vo2 vt vi ρl ρo2 ρt ρi ⟨?_, ?_⟩ (past _ (by simp only [nvsR]; omega) (fun j hj hjb => ?_)))
        · simp (disch := first | omega | (simp only [ln]; first | done | omega)) only [walkAll, walkL, walkK, wk, E, Nat.reduceEqDiff, Nat.reduceAdd, Nat.reduceSub, Nat.reduceLeDiff, Int.reduceLT, Int.reduceLE, Int.reduceAdd, Int.reduceSub, Int.reduceToNat, ↓reduceIte]
        · have := hG2.setV b (.cells 74 [vl, vo2, vt, vi])
          rw [← List.map_take] at this
          exact this
        · simp (disch := first | omega | (simp only [ln]; first | done | omega)) only [walkAll, walkL, walkK, wk, E, Nat.reduceEqDiff, Nat.reduceAdd, Nat.reduceSub, Nat.reduceLeDiff, Int.reduceLT, Int.reduceLE, Int.reduceAdd, Int.reduceSub, Int.reduceToNat, ↓reduceIte, hb2.getV]
    | false =>
    cases g3 : (t.kind == 3) with
    | true =>
      have e : B.step t = (⟨B.l.set i { n with text := n.text ++ t.text }, B.op, B.kids⟩, 0) := by unfold TB.step TB.txt; simp only [g1, g2, g3, hgl, hn]; rfl
      rw [e] at hK
      have hnt := hX n (List.mem_of_getElem? hn)
      have htx : (B.l.map txc)[i]? = some (txc n) := by rw [List.getElem?_map, hn]; rfl
      have hin : (B.l.map inc)[i]? = some (inc n) := by rw [List.getElem?_map, hn]; rfl
      obtain ⟨rt, hrt, hixt, hptt⟩ := own_at hP.t htx
      have hldt := hptt.one
      subst hrt
      obtain ⟨σ2, hst2, hot2, hb2⟩ := own_st hP.t (k := 0) (x := .str (n.text ++ t.text)) htx (by decide) rfl rfl
      have hG2 := hP.own.upd (pre := [cL vl B ρl, cO vo B ρo]) (c := cT vt B (some rt)) (post := [cI vi B ρi]) ⟨9, 1, vt, (B.l.map txc).set i [.str (n.text ++ t.text)], some rt⟩ hot2 hb2.rb
      have hn2 : nvs σ2 = nvs σ + 1 := by rw [hb2.nvs]; simp only [nvsR]
      have hv2 : getV σ2 b = some (.cells 74 [vl, vo, vt, vi]) := by rw [hb2.getV]; simp (disch := first | omega | (simp only [ln]; first | done | omega)) only [walkAll, walkL, walkK, wk, E, Nat.reduceEqDiff, Nat.reduceAdd, Nat.reduceSub, Nat.reduceLeDiff, Int.reduceLT, Int.reduceLE, Int.reduceAdd, Int.reduceSub, Int.reduceToNat, ↓reduceIte, hv]
      have ht2 : getV σ2 (nvs σ) = some (.cells 30 [.int .i64 t.kind, .str t.name, .str t.text, lsq t.nn (t.attrs.map atc), .bool t.empty]) := by rw [hb2.getV]; simp (disch := first | omega | (simp only [ln]; first | done | omega)) only [walkAll, walkL, walkK, wk, E, Nat.reduceEqDiff, Nat.reduceAdd, Nat.reduceSub, Nat.reduceLeDiff, Int.reduceLT, Int.reduceLE, Int.reduceAdd, Int.reduceSub, Int.reduceToNat, ↓reduceIte]
      have hI2 : Own 4 1 σ2 vi (B.l.map inc) ρi := hG2.ok (cI vi B ρi) (by simp)
      obtain ⟨ri, hri, hixi, hpti⟩ := own_at hI2 hin
      have hldi := hpti.one
      have hri2 : ρi = some ri := hri
      subst hri2
      have hst2' : stAt (σ.pushV (.cells 30 [.int .i64 t.kind, .str t.name, .str t.text, lsq t.nn (t.attrs.map atc), .bool t.empty])) (.op rt i 0) [.str (n.text ++ t.text)] = some σ2 := hst2
      have el : ∀ q : Bool, q = !blankS (n.text ++ t.text) → (B.l.map inc).set i [.bool q] = (B.l.set i { n with text := n.text ++ t.text }).map inc := fun q hq => by
        rw [List.map_set]; simp only [inc]; rw [hq]
      have elT : (B.l.map txc).set i [.str (n.text ++ t.text)] = (B.l.set i { n with text := n.text ++ t.text }).map txc := by rw [List.map_set]; rfl
      have elL : (B.l.map bare).map Nd.c = ((B.l.set i { n with text := n.text ++ t.text }).map bare).map Nd.c := by
        rw [List.map_set, set_self]
        rw [List.getElem?_map, hn]; rfl
      have hbl : blankS (n.text ++ t.text) = (blankS n.text && blankS t.text) := by unfold blankS; rw [List.all_append]
      have fin : ∀ q : Bool, q = !blankS (n.text ++ t.text) → ∃ σ3, stAt σ2 (.op ri i 0) [.bool q] = some σ3 ∧ GBs b σ3 ⟨B.l.set i { n with text := n.text ++ t.text }, B.op, B.kids⟩ vl vo vt vi ρl ρo (some rt) (some ri) ∧ Past b σ σ3 := fun q hq => by
        obtain ⟨σ3, hst3, hoi3, hb3⟩ := own_st hI2 (k := 0) (x := .bool q) hin (by decide) rfl rfl
        have hG3 := hG2.upd (pre := [cL vl B ρl, cO vo B ρo, ⟨9, 1, vt, (B.l.map txc).set i [.str (n.text ++ t.text)], some rt⟩]) (c := cI vi B (some ri)) (post := []) ⟨4, 1, vi, (B.l.map inc).set i [.bool q], some ri⟩ hoi3 hb3.rb
        refine ⟨σ3, hst3, ⟨by rw [hb3.getV]; exact hv2, ?_⟩, past _ (by rw [hb3.nvs]; omega) (fun j hj hjb => ?_)⟩
        · rw [el q hq, elT] at hG3
          simp only [cL] at hG3 ⊢
          rw [elL] at hG3
          exact hG3
        · rw [hb3.getV, hb2.getV]; simp (disch := first | omega | (simp only [ln]; first | done | omega)) only [walkAll, walkL, walkK, wk, E, Nat.reduceEqDiff, Nat.reduceAdd, Nat.reduceSub, Nat.reduceLeDiff, Int.reduceLT, Int.reduceLE, Int.reduceAdd, Int.reduceSub, Int.reduceToNat, ↓reduceIte]
      cases g4 : blankS n.text with
      | false =>
        obtain ⟨σ3, hst3, hG3, hP3⟩ := fin true (by rw [hbl, g4]; rfl)
        have hldi' : ldX none σ2 (.op ri i 0) = some (.bool true) := by rw [hldi, g4]; rfl
        simp (disch := first | omega | (simp only [ln]; first | done | omega)) only [walkAll, walkL, walkK, wk, E, Nat.reduceEqDiff, Nat.reduceAdd, Nat.reduceSub, Nat.reduceLeDiff, Int.reduceLT, Int.reduceLE, Int.reduceAdd, Int.reduceSub, Int.reduceToNat, ↓reduceIte, c38, hv, Tok.c, hlo, q0, q1, w0, hixo, hldo, hixt, hldt, g1, g2, g3, hst2', hv2, ht2, hixi, hldi', hst3]
        exact out _ _ (hK _ _ _ _ _ _ _ _ _ hG3 hP3)
      | true =>
        obtain ⟨σ3, hst3, hG3, hP3⟩ := fin (!blankS t.text) (by rw [hbl, g4]; rfl)
        have hldi' : ldX none σ2 (.op ri i 0) = some (.bool false) := by rw [hldi, g4]; rfl
        simp (disch := first | omega | (simp only [ln]; first | done | omega)) only [walkAll, walkL, walkK, wk, E, Nat.reduceEqDiff, Nat.reduceAdd, Nat.reduceSub, Nat.reduceLeDiff, Int.reduceLT, Int.reduceLE, Int.reduceAdd, Int.reduceSub, Int.reduceToNat, ↓reduceIte, c38, hv, Tok.c, hlo, q0, q1, w0, hixo, hldo, hixt, hldt, g1, g2, g3, hst2', hv2, ht2, hixi, hldi', hst3]
        refine rBlank_c t.text (by omega) ?_
        simp (disch := first | omega | (simp only [ln]; first | done | omega)) only [walkAll, walkL, walkK, wk, E, Nat.reduceEqDiff, Nat.reduceAdd, Nat.reduceSub, Nat.reduceLeDiff, Int.reduceLT, Int.reduceLE, Int.reduceAdd, Int.reduceSub, Int.reduceToNat, ↓reduceIte, hv2, ht2, hixi, hldi', hst3]
        exact out _ _ (hK _ _ _ _ _ _ _ _ _ hG3 hP3)
    | false =>
      have e : B.step t = (B, 9) := by unfold TB.step; simp only [g1, g2, g3]; rfl
      rw [e] at hK
      simp (disch := first | omega | (simp only [ln]; first | done | omega)) only [walkAll, walkL, walkK, wk, E, Nat.reduceEqDiff, Nat.reduceAdd, Nat.reduceSub, Nat.reduceLeDiff, Int.reduceLT, Int.reduceLE, Int.reduceAdd, Int.reduceSub, Int.reduceToNat, ↓reduceIte, c38, hv, Tok.c, hlo, q0, w0, hixo, hldo, g1, g2, g3]
      exact out _ _ (hK _ _ _ _ _ _ _ _ _ same.1 same.2)
end
end Go.Ab.Sz.K
namespace Go.Ab.Sz.K
open Go Go.Ab Go.Proofs Go.RowKit
set_option maxRecDepth 40000
set_option linter.unusedSimpArgs false
section
variable {m : Int} {σ : St} {K : AV → St → Prop}
theorem rbuild_loop (l : List Tok) (v : AV) (hl : l.length < 100000000) (hRd : ∀ τ, Rd 5 τ v (l.map Tok.c)) (hat : ∀ t ∈ l, t.attrs.length ≤ 4398046511104 ∧ t.text.length ≤ 140737488355328) {Q : EQ} : ∀ (rest : List Tok) (i : Nat) (B : TB) (X : Nat) (vl vo vt vi : AV) (ρl ρo ρt ρi : Option Nat) (τ : St) (e : Env),
    l.drop i = rest → B.Ok → (∀ n ∈ B.l, n.text.length ≤ X) → X + (rest.map fun t => t.text.length).sum ≤ 100000000000000000 → GBs 0 τ B vl vo vt vi ρl ρo ρt ρi →
    e 0 = some v → e 4 = some (.vp 0 0) → e 5 = some (.int .i64 i) →
    (∀ e' τ' vl' vo' vt' vi' ρl' ρo' ρt' ρi', (runL B rest).2 = 0 → GBs 0 τ' (runL B rest).1 vl' vo' vt' vi' ρl' ρo' ρt' ρi' → (runL B rest).1.Ok → e' 4 = some (.vp 0 0) → Q (.exit 0) e' τ') →
    (∀ e' τ', ((runL B rest).2 == 0) = false → e' 2 = some .nils → e' 3 = some (.int .i64 (runL B rest).2) → Q .ret e' τ') → LoopC Tryz.prog tt (gD m) l18_0 Q e τ := by
  intro rest
  induction rest with
  | nil =>
    intro i B X vl vo vt vi ρl ρo ρt ρi τ e hd hO hX hs hB h0 h4 h5 hx hr
    have hi : l.length ≤ i := by simpa using hd
    have hb : decide ((i : Int) < (l.length : Int)) = false := by simp; omega
    have hlen := (hRd τ).len
    rw [List.length_map] at hlen
    refine LoopC_unfold tok fm ?_
    simp (disch := first | omega | (simp only [ln]; first | done | omega)) only [walkAll, walkL, walkK, wk, E, Nat.reduceEqDiff, Nat.reduceAdd, Nat.reduceSub, Nat.reduceLeDiff, Int.reduceLT, Int.reduceLE, Int.reduceAdd, Int.reduceSub, Int.reduceToNat, ↓reduceIte, l18_0x, l18_0b, h0, h5, hlen, hb]
    exact hx _ τ vl vo vt vi ρl ρo ρt ρi rfl hB hO (by simp [put, h4])
  | cons t rest ih =>
    intro i B X vl vo vt vi ρl ρo ρt ρi τ e hd hO hX hs hB h0 h4 h5 hx hr
    obtain ⟨hc, hd'⟩ := drop_cons hd
    have hi := (List.getElem?_eq_some_iff.1 hc).1
    have hb : decide ((i : Int) < (l.length : Int)) = true := by simp; omega
    have hlen := (hRd τ).len
    rw [List.length_map] at hlen
    obtain ⟨p, hp, hpt⟩ := (hRd τ).at (i := i) (c := t.c) (by rw [List.getElem?_map, hc]; rfl) .i64
    have hld := hpt.all (n := 5) rfl
    have htm := hat t (List.mem_of_getElem? hc)
    simp only [List.map_cons, List.sum_cons] at hs
    have w1 : IntKind.i64.wrap ((i : Int) + 1) = ((i + 1 : Nat) : Int) := by rw [wrap_i64 _ (by omega) (by omega)]; rfl
    refine LoopC_unfold tok fm ?_
    simp (disch := first | omega | (simp only [ln]; first | done | omega)) only [walkAll, walkL, walkK, wk, E, Nat.reduceEqDiff, Nat.reduceAdd, Nat.reduceSub, Nat.reduceLeDiff, Int.reduceLT, Int.reduceLE, Int.reduceAdd, Int.reduceSub, Int.reduceToNat, ↓reduceIte, l18_0x, l18_0b, h0, h4, h5, hlen, hb, hp, hld]
    refine take_c hB hO t htm.1 htm.2 (fun n hn => Nat.le_trans (hX n hn) (by omega)) (fun σ' vl' vo' vt' vi' ρl' ρo' ρt' ρi' hB' hP' => ?_)
    have hO' := TB.step_ok hO t
    have hX' := TB.step_text hX t
    have ev : runL B (t :: rest) = if (B.step t).2 == 0 then runL (B.step t).1 rest else (B, (B.step t).2) := rfl
    cases g : ((B.step t).2 == 0) with
    | false =>
      rw [g] at ev
      simp (disch := first | omega | (simp only [ln]; first | done | omega)) only [walkAll, walkL, walkK, wk, E, Nat.reduceEqDiff, Nat.reduceAdd, Nat.reduceSub, Nat.reduceLeDiff, Int.reduceLT, Int.reduceLE, Int.reduceAdd, Int.reduceSub, Int.reduceToNat, ↓reduceIte, g, bne, Bool.not_false]
      exact hr _ _ (by rw [ev]; exact g) (by simp [put]) (by rw [ev]; simp [put])
    | true =>
      rw [g, if_pos rfl] at ev
      rw [ev] at hx hr
      simp (disch := first | omega | (simp only [ln]; first | done | omega)) only [walkAll, walkL, walkK, wk, E, Nat.reduceEqDiff, Nat.reduceAdd, Nat.reduceSub, Nat.reduceLeDiff, Int.reduceLT, Int.reduceLE, Int.reduceAdd, Int.reduceSub, Int.reduceToNat, ↓reduceIte, g, bne, Bool.not_true, h5, w1]
      exact ih (i + 1) (B.step t).1 (X + t.text.length) vl' vo' vt' vi' ρl' ρo' ρt' ρi' σ' _ hd' hO' hX' (by omega) hB' (by simp [put, h0]) (by simp [put, h4]) (by simp [put]) hx hr
/-- The last way over the nodes: those without kids have their texts, those with kids no ink. -/
theorem rdone_loop (B : TB) (hF : B.Fit) (vo vt vi : AV) (ρo ρt ρi : Option Nat) (vl : AV) (ρl : Option Nat) {Q : EQ} : ∀ (rest : List Nd) (pre : List Nd) (τ : St) (e : Env),
    B.l.drop pre.length = rest → (pre ++ rest.map bare).map (·.parent) = B.l.map (·.parent) → getV τ 0 = some (.cells 74 [vl, vo, vt, vi]) →
    Owns τ [⟨40, 4, vl, (pre ++ rest.map bare).map Nd.c, ρl⟩, cO vo B ρo, cT vt B ρt, cI vi B ρi] → e 4 = some (.vp 0 0) → e 7 = some (.int .i64 pre.length) →
    (∀ out e' τ', doneL rest (B.kids.drop pre.length) = some out → getV τ' 0 = some (.cells 74 [vl, vo, vt, vi]) → Own 40 4 τ' vl ((pre ++ out.map plainN).map Nd.c) ρl → e' 4 = some (.vp 0 0) → Q (.exit 2) e' τ') →
    (∀ e' τ', doneL rest (B.kids.drop pre.length) = none → e' 2 = some .nils → e' 3 = some (.int .i64 12) → Q .ret e' τ') → LoopC Tryz.prog tt (gD m) l18_1 Q e τ := by
  intro rest
  induction rest with
  | nil =>
    intro pre τ e hd hp hv hG h4 h7 hx hr
    have hL : Own 40 4 τ vl ((pre ++ ([] : List Nd).map bare).map Nd.c) ρl := hG.ok _ (List.mem_cons_self ..)
    have hlen := hL.len
    have hb : decide ((pre.length : Int) < (pre.length : Int)) = false := by simp
    simp only [List.map_nil, List.append_nil, List.length_map] at hlen
    refine LoopC_unfold tok fm ?_
    simp (disch := first | omega | (simp only [ln]; first | done | omega)) only [walkAll, walkL, walkK, wk, E, Nat.reduceEqDiff, Nat.reduceAdd, Nat.reduceSub, Nat.reduceLeDiff, Int.reduceLT, Int.reduceLE, Int.reduceAdd, Int.reduceSub, Int.reduceToNat, ↓reduceIte, l18_1x, l18_1b, h4, h7, hv, hlen, hb]
    exact hx [] _ τ rfl hv (by simpa using hL) (by simp [put, h4])
  | cons n rest ih =>
    intro pre τ e hd hp hv hG h4 h7 hx hr
    obtain ⟨hc, hd'⟩ := drop_cons hd
    have hi := (List.getElem?_eq_some_iff.1 hc).1
    have hm := hF.ok.many
    have hL : Own 40 4 τ vl ((pre ++ (n :: rest).map bare).map Nd.c) ρl := hG.ok _ (List.mem_cons_self ..)
    have hT : Own 9 1 τ vt (B.l.map txc) ρt := hG.ok (cT vt B ρt) (by simp)
    have hI : Own 4 1 τ vi (B.l.map inc) ρi := hG.ok (cI vi B ρi) (by simp)
    have hlen := hL.len
    have hpl := congrArg List.length hp
    simp only [List.length_map, List.length_append, List.length_cons] at hlen hpl
    rw [hpl] at hlen
    have hb : decide ((pre.length : Int) < (B.l.length : Int)) = true := by simp; omega
    have w1 : IntKind.i64.wrap ((pre.length : Int) + 1) = ((pre.length + 1 : Nat) : Int) := by rw [wrap_i64 _ (by omega) (by omega)]; rfl
    obtain ⟨q, hq⟩ : ∃ q, B.kids[pre.length]? = some q := ⟨B.kids[pre.length]'(by rw [hF.ok.kids]; exact hi), List.getElem?_eq_getElem _⟩
    have hks : B.kids.drop pre.length = q :: B.kids.drop (pre.length + 1) := by
      have := List.getElem?_eq_some_iff.1 hq
      rw [List.drop_eq_getElem_cons this.1, this.2]
    have hkid := Fit.kidsS hF hp hq
    have hkl := lsv_len ((kidsS (pre ++ (n :: rest).map bare) pre.length).map ixc)
    rw [List.length_map] at hkl
    have hat : ((pre ++ (n :: rest).map bare).map Nd.c)[pre.length]? = some (bare n).c := by simp
    refine LoopC_unfold tok fm ?_
    simp (disch := first | omega | (simp only [ln]; first | done | omega)) only [walkAll, walkL, walkK, wk, E, Nat.reduceEqDiff, Nat.reduceAdd, Nat.reduceSub, Nat.reduceLeDiff, Int.reduceLT, Int.reduceLE, Int.reduceAdd, Int.reduceSub, Int.reduceToNat, ↓reduceIte, l18_1x, l18_1b, h4, h7, hv, hlen, hb]
    refine rKids_c (pre ++ (n :: rest).map bare) vl hL.rd pre.length (by rw [List.length_append, List.length_map, List.length_cons]; omega) ?_
    cases q with
    | false =>
      have z : (((kidsS (pre ++ (n :: rest).map bare) pre.length).length : Int) == 0) = true := by
        have := hkid.2 rfl
        rw [this]; rfl
      obtain ⟨rl, hrl, hixl, hptl⟩ := own_at hL hat
      obtain ⟨rt, hrt, hixt, hptt⟩ := own_at hT (i := pre.length) (c := txc n) (by rw [List.getElem?_map, hc]; rfl)
      have hldt := hptt.one
      have hrl' : ρl = some rl := hrl
      subst hrl'
      obtain ⟨p2, hp2, hl2⟩ := hptl.fa 2 (by simp [Nd.c])
      have hp2' : faX 2 τ (.op rl pre.length 0) = some (.op rl pre.length 2) := by
        rcases hL.2 with ⟨_, _, h⟩ | ⟨r', row, he, _, hr', _⟩
        · cases h
        · cases he
          show (if liveA τ (.op rl pre.length 0) = true then some (AV.op rl pre.length (0 + 2)) else none) = _
          rw [if_pos (by simp only [getR] at hr'; simp only [liveA, hr'])]
      obtain ⟨σ2, hst, hoL, hb2⟩ := own_st hL (k := 2) (x := .str n.text) hat (by decide) rfl rfl
      have hst' : stAt τ (.op rl pre.length 2) [.str n.text] = some σ2 := hst
      have hset : (((pre ++ (n :: rest).map bare).map Nd.c).set pre.length ((bare n).c.set 2 (.str n.text))) = (pre ++ [plainN n] ++ rest.map bare).map Nd.c := by
        have e1 : (bare n).c.set 2 (.str n.text) = (plainN n).c := rfl
        rw [e1, ← List.map_set]
        congr 1
        rw [List.set_append_right _ _ (Nat.le_refl _), Nat.sub_self]
        simp
      simp only [hset] at hoL
      have hG2 := hG.upd (pre := []) (post := [cO vo B ρo, cT vt B ρt, cI vi B ρi]) ⟨40, 4, vl, (pre ++ [plainN n] ++ rest.map bare).map Nd.c, some rl⟩ hoL hb2.rb
      have hv2 : getV σ2 0 = some (.cells 74 [vl, vo, vt, vi]) := by rw [hb2.getV]; exact hv
      simp (disch := first | omega | (simp only [ln]; first | done | omega)) only [walkAll, walkL, walkK, wk, E, Nat.reduceEqDiff, Nat.reduceAdd, Nat.reduceSub, Nat.reduceLeDiff, Int.reduceLT, Int.reduceLE, Int.reduceAdd, Int.reduceSub, Int.reduceToNat, ↓reduceIte, h4, h7, hv, hkl, z, hixl, hp2', hixt, hldt, hst', w1]
      refine ih (pre ++ [plainN n]) σ2 _ (by simpa using hd') (by simpa [plainN, bare] using hp) hv2 (by simpa using hG2) (by simp [put, putE, h4]) (by simp [put, putE]) (fun out e' τ' ho hv' hO' h4' => ?_) (fun e' τ' ho h2 h3 => ?_)
      · rw [List.length_append, List.length_singleton] at ho
        exact hx (n :: out) e' τ' (by rw [hks]; simp only [doneL, ho]; rfl) hv' (by simpa using hO') h4'
      · rw [List.length_append, List.length_singleton] at ho
        exact hr e' τ' (by rw [hks]; simp only [doneL, ho]; rfl) h2 h3
    | true =>
      have z : (((kidsS (pre ++ (n :: rest).map bare) pre.length).length : Int) == 0) = false := by
        have : (kidsS (pre ++ (n :: rest).map bare) pre.length).length ≠ 0 := fun h => by have := hkid.1 h; cases this
        rw [beq_eq_false_iff_ne]; omega
      obtain ⟨ri, hri, hixi, hpti⟩ := own_at hI (i := pre.length) (c := inc n) (by rw [List.getElem?_map, hc]; rfl)
      have hldi := hpti.one
      cases g : blankS n.text with
      | false =>
        have hldi' : ldX none τ (.op ri pre.length 0) = some (.bool true) := by rw [hldi, g]; rfl
        simp (disch := first | omega | (simp only [ln]; first | done | omega)) only [walkAll, walkL, walkK, wk, E, Nat.reduceEqDiff, Nat.reduceAdd, Nat.reduceSub, Nat.reduceLeDiff, Int.reduceLT, Int.reduceLE, Int.reduceAdd, Int.reduceSub, Int.reduceToNat, ↓reduceIte, h4, h7, hv, hkl, z, hixi, hldi']
        exact hr _ _ (by rw [hks]; simp only [doneL, g]; rfl) (by simp [put]) (by simp [put])
      | true =>
        have hldi' : ldX none τ (.op ri pre.length 0) = some (.bool false) := by rw [hldi, g]; rfl
        simp (disch := first | omega | (simp only [ln]; first | done | omega)) only [walkAll, walkL, walkK, wk, E, Nat.reduceEqDiff, Nat.reduceAdd, Nat.reduceSub, Nat.reduceLeDiff, Int.reduceLT, Int.reduceLE, Int.reduceAdd, Int.reduceSub, Int.reduceToNat, ↓reduceIte, h4, h7, hv, hkl, z, hixi, hldi', w1]
        refine ih (pre ++ [bare n]) τ _ (by simpa using hd') (by simpa using hp) hv (by simpa using hG) (by simp [put, h4]) (by simp [put]) (fun out e' τ' ho hv' hO' h4' => ?_) (fun e' τ' ho h2 h3 => ?_)
        · rw [List.length_append, List.length_singleton] at ho
          exact hx ({ n with text := [] } :: out) e' τ' (by rw [hks]; simp only [doneL, g, ho]; rfl) hv' (by simpa [plainN, bare] using hO') h4'
        · rw [List.length_append, List.length_singleton] at ho
          exact hr e' τ' (by rw [hks]; simp only [doneL, g, ho]; rfl) h2 h3
end
end Go.Ab.Sz.K
namespace Go.Ab.Sz.K
open Go Go.Ab Go.Proofs Go.RowKit
set_option maxRecDepth 40000
set_option linter.unusedSimpArgs false
theorem TB.step_att {b : TB} {X : Nat} (h : ∀ n ∈ b.l, n.attrs.length ≤ X) (t : Tok) (ht : t.attrs.length ≤ X) : ∀ n ∈ (b.step t).1.l, n.attrs.length ≤ X := by
  unfold TB.step
  split
  · unfold TB.begin
    repeat' split
    all_goals first | exact h | skip
    all_goals
      intro n hn
      rcases List.mem_append.1 hn with hn | hn
      · exact h n hn
      · have : n = ⟨b.top, t.name, [], t.attrs, t.nn⟩ := by simpa using hn
        rw [this]; exact ht
  · split
    · unfold TB.fin
      repeat' split
      all_goals exact h
    · split
      · unfold TB.txt
        repeat' split
        all_goals first | exact h | skip
        rename_i i _ _ n hn
        intro x hx
        rcases List.mem_or_eq_of_mem_set hx with hx | rfl
        · exact h x hx
        · exact h n (List.mem_of_getElem? hn)
      · exact h
theorem runL_att {X : Nat} : ∀ (l : List Tok) (b : TB), (∀ n ∈ b.l, n.attrs.length ≤ X) → (∀ t ∈ l, t.attrs.length ≤ X) → ∀ n ∈ (runL b l).1.l, n.attrs.length ≤ X
  | [], _, h, _ => h
  | t :: l, b, h, ht => by
    simp only [runL]
    split
    · exact runL_att l _ (TB.step_att h t (ht t (by simp))) fun x hx => ht x (by simp [hx])
    · exact h
theorem doneL_att {X : Nat} : ∀ (l : List Nd) (ks : List Bool) (out : List Nd), doneL l ks = some out → (∀ n ∈ l, n.attrs.length ≤ X) → ∀ n ∈ out, n.attrs.length ≤ X
  | [], _, _, h, _ => by cases h; exact fun n hn => by cases hn
  | n :: l, [], _, h, _ => by cases h
  | n :: l, true :: ks, out, h, ha => by
    simp only [doneL] at h
    split at h
    · cases hd : doneL l ks with
      | none => rw [hd] at h; cases h
      | some o =>
        rw [hd] at h; cases h
        intro x hx
        rcases List.mem_cons.1 hx with rfl | hx
        · exact ha n (by simp)
        · exact doneL_att l ks o hd (fun y hy => ha y (by simp [hy])) x hx
    · cases h
  | n :: l, false :: ks, out, h, ha => by
    simp only [doneL] at h
    cases hd : doneL l ks with
    | none => rw [hd] at h; cases h
    | some o =>
      rw [hd] at h; cases h
      intro x hx
      rcases List.mem_cons.1 hx with rfl | hx
      · exact ha x (by simp)
      · exact doneL_att l ks o hd (fun y hy => ha y (by simp [hy])) x hx
theorem buildS_att {X : Nat} (l : List Tok) (ht : ∀ t ∈ l, t.attrs.length ≤ X) : ∀ n ∈ (buildS l).1, n.attrs.length ≤ X := by
  have h1 := runL_att l ⟨[], [], []⟩ (by simp) ht
  unfold buildS
  split
  · exact fun n hn => by cases hn
  · split
    · exact fun n hn => by cases hn
    · split
      · rename_i o ho; exact doneL_att _ _ o ho h1
      · exact fun n hn => by cases hn
theorem doneL_len : ∀ (l : List Nd) (ks : List Bool) (out : List Nd), doneL l ks = some out → out.length = l.length
  | [], _, _, h => by cases h; rfl
  | n :: l, [], _, h => by cases h
  | n :: l, true :: ks, out, h => by
    simp only [doneL] at h
    split at h
    · cases hd : doneL l ks with
      | none => rw [hd] at h; cases h
      | some o => rw [hd] at h; cases h; simp [doneL_len l ks o hd]
    · cases h
  | n :: l, false :: ks, out, h => by
    simp only [doneL] at h
    cases hd : doneL l ks with
    | none => rw [hd] at h; cases h
    | some o => rw [hd] at h; cases h; simp [doneL_len l ks o hd]
theorem buildS_len500 (l : List Tok) : (buildS l).1.length ≤ 500 := by
  have hf := (fit_run l ⟨[], [], []⟩ fit_nil).ok.many
  unfold buildS
  split
  · simp
  · split
    · simp
    · split
      · rename_i o ho; rw [doneL_len _ _ o ho]; exact hf
      · simp
section
variable {m : Int} {σ : St} {K : AV → St → Prop}
theorem rBuild_c (l : List Tok) (v : AV) (hvr : ∀ τ, Rd 5 τ v (l.map Tok.c)) (hvd : Data v) (hl : l.length < 100000000) (hat : ∀ t ∈ l, t.attrs.length ≤ 4398046511104 ∧ t.text.length ≤ 140737488355328) (hs : (l.map fun t => t.text.length).sum ≤ 100000000000000000)
    (h : K (.tup [lsv (((buildS l).1.map plainN).map Nd.c), .int .i64 (buildS l).2]) σ) : ACalls Tryz.prog (gD m) 18 [v] σ K := by
  refine (ACalls.frame_frz gD_data (.cons _ _ hvd .nil) (Q := fun r => r = .tup [lsv (((buildS l).1.map plainN).map Nd.c), .int .i64 (buildS l).2]) ?_ σ).mono (fun r σ' hr => by rw [hr.1, hr.2]; exact h)
  have fin0 : ∀ (τ : St) (x : Int), buildS l = ([], x) → ∃ r0, Frz τ (.tup [.nils, .int .i64 x]) r0 ∧ Data r0 ∧ r0 = .tup [lsv (((buildS l).1.map plainN).map Nd.c), .int .i64 (buildS l).2] := fun τ x he =>
    ⟨.tup [.nils, .int .i64 x], .inl rfl, by simp only [dataR], by rw [he]; rfl⟩
  refine ACalls_fn tok fm (fk18 _) ?_
  simp (disch := first | omega | (simp only [ln]; first | done | omega)) only [walkAll, walkL, walkK, wk, E, Nat.reduceEqDiff, Nat.reduceAdd, Nat.reduceSub, Nat.reduceLeDiff, Int.reduceLT, Int.reduceLE, Int.reduceAdd, Int.reduceSub, Int.reduceToNat, ↓reduceIte, c18]
  refine rbuild_loop l v hl hvr hat l 0 ⟨[], [], []⟩ 0 .nils .nils .nils .nils none none none none _ _ rfl ⟨by simp, rfl, by decide, by decide⟩ (by simp) (by simpa using hs) ⟨rfl, ⟨fun c hc => ?_, ?_⟩⟩ (by simp [put, E]) (by simp [put, E]) (by simp [put, E]) (fun e' τ' vl vo vt vi ρl ρo ρt ρi h2 hB hO h4 => ?_) (fun e' τ' h2 h3 h4 => ?_)
  · simp only [List.mem_cons, List.not_mem_nil, or_false] at hc
    rcases hc with rfl | rfl | rfl | rfl <;> exact Own.nil _ _ _
  · simp only [List.pairwise_cons, List.mem_cons, List.not_mem_nil, or_false]
    refine ⟨?_, ?_, ?_, ?_, List.Pairwise.nil⟩
    · rintro d (rfl | rfl | rfl) <;> exact fun r hr => by cases hr
    · rintro d (rfl | rfl) <;> exact fun r hr => by cases hr
    · rintro d rfl; exact fun r hr => by cases hr
    · exact fun d hd => hd.elim
  · have g0 : ((runL ⟨[], [], []⟩ l).2 == 0) = true := by rw [h2]; rfl
    have hF := fit_run l ⟨[], [], []⟩ fit_nil
    have hv := hB.var
    obtain ⟨hll, hlo⟩ := hB.lens
    simp (disch := first | omega | (simp only [ln]; first | done | omega)) only [walkAll, walkL, walkK, wk, E, Nat.reduceEqDiff, Nat.reduceAdd, Nat.reduceSub, Nat.reduceLeDiff, Int.reduceLT, Int.reduceLE, Int.reduceAdd, Int.reduceSub, Int.reduceToNat, ↓reduceIte, h4, hv, hll, hlo]
    by_cases hl0 : (runL ⟨[], [], []⟩ l).1.l = []
    · have q : (((runL ⟨[], [], []⟩ l).1.l.length : Int) == 0) = true := by rw [hl0]; rfl
      have e : buildS l = ([], 10) := by
        unfold buildS
        rw [g0, if_neg (by decide), if_pos (by rw [hl0]; rfl)]
      simp (disch := first | omega | (simp only [ln]; first | done | omega)) only [walkAll, walkL, walkK, wk, E, Nat.reduceEqDiff, Nat.reduceAdd, Nat.reduceSub, Nat.reduceLeDiff, Int.reduceLT, Int.reduceLE, Int.reduceAdd, Int.reduceSub, Int.reduceToNat, ↓reduceIte, h4, hv, hll, hlo, q]
      exact fin0 _ 10 e
    have q : (((runL ⟨[], [], []⟩ l).1.l.length : Int) == 0) = false := by have := List.length_pos_iff.2 hl0; rw [beq_eq_false_iff_ne]; omega
    by_cases ho : (runL ⟨[], [], []⟩ l).1.op = []
    case neg =>
      have q2 : decide ((0 : Int) < ((runL ⟨[], [], []⟩ l).1.op.length : Int)) = true := by have := List.length_pos_iff.2 ho; simp; omega
      have e : buildS l = ([], 10) := by
        unfold buildS
        rw [g0, if_neg (by decide), if_pos (by simp [ho])]
      simp (disch := first | omega | (simp only [ln]; first | done | omega)) only [walkAll, walkL, walkK, wk, E, Nat.reduceEqDiff, Nat.reduceAdd, Nat.reduceSub, Nat.reduceLeDiff, Int.reduceLT, Int.reduceLE, Int.reduceAdd, Int.reduceSub, Int.reduceToNat, ↓reduceIte, h4, hv, hll, hlo, q, q2]
      exact fin0 _ 10 e
    have q2 : decide ((0 : Int) < ((runL ⟨[], [], []⟩ l).1.op.length : Int)) = false := by rw [ho]; rfl
    simp (disch := first | omega | (simp only [ln]; first | done | omega)) only [walkAll, walkL, walkK, wk, E, Nat.reduceEqDiff, Nat.reduceAdd, Nat.reduceSub, Nat.reduceLeDiff, Int.reduceLT, Int.reduceLE, Int.reduceAdd, Int.reduceSub, Int.reduceToNat, ↓reduceIte, h4, hv, hll, hlo, q, q2]
    have hOw := hB.own
    simp only [cL] at hOw
    refine rdone_loop (runL ⟨[], [], []⟩ l).1 hF vo vt vi ρo ρt ρi vl ρl (runL ⟨[], [], []⟩ l).1.l [] τ' _ rfl (by simp [bare]) hv hOw (by simp [put, h4]) (by simp [put]) (fun out e2 τ2 hd hv2 hO2 h42 => ?_) (fun e2 τ2 hd h22 h32 => ?_)
    · have hd' : doneL (runL ⟨[], [], []⟩ l).1.l (runL ⟨[], [], []⟩ l).1.kids = some out := hd
      have e : buildS l = (out, 0) := by
        unfold buildS
        rw [g0, if_neg (by decide), if_neg (by simp [hl0, ho]), hd']
      have hne : out ≠ [] := by
        have := doneL_len _ _ _ (show doneL (runL ⟨[], [], []⟩ l).1.l (runL ⟨[], [], []⟩ l).1.kids = some out from hd)
        intro h; rw [h] at this
        exact hl0 (List.eq_nil_of_length_eq_zero this.symm)
      simp (disch := first | omega | (simp only [ln]; first | done | omega)) only [walkAll, walkL, walkK, wk, E, Nat.reduceEqDiff, Nat.reduceAdd, Nat.reduceSub, Nat.reduceLeDiff, Int.reduceLT, Int.reduceLE, Int.reduceAdd, Int.reduceSub, Int.reduceToNat, ↓reduceIte, h42, hv2]
      refine ⟨.tup [lsv ((out.map plainN).map Nd.c), .int .i64 0], frz_own hO2 (by simpa using hne) (fun a => .tup [a, .int .i64 0]) (fun k els => by simp only [frzR]), ?_, by rw [e]⟩
      simp only [dataR, and_true]
      exact lsv_data (data_flat fun n _ => nd_data n)
    · have hd' : doneL (runL ⟨[], [], []⟩ l).1.l (runL ⟨[], [], []⟩ l).1.kids = none := hd
      have e : buildS l = ([], 12) := by
        unfold buildS
        rw [g0, if_neg (by decide), if_neg (by simp [hl0, ho]), hd']
      simp (disch := first | omega | (simp only [ln]; first | done | omega)) only [walkAll, walkL, walkK, wk, E, Nat.reduceEqDiff, Nat.reduceAdd, Nat.reduceSub, Nat.reduceLeDiff, Int.reduceLT, Int.reduceLE, Int.reduceAdd, Int.reduceSub, Int.reduceToNat, ↓reduceIte, h22, h32]
      exact fin0 _ 12 e
  · have e : buildS l = ([], (runL ⟨[], [], []⟩ l).2) := by
      unfold buildS
      rw [h2]; rfl
    simp (disch := first | omega | (simp only [ln]; first | done | omega)) only [walkAll, walkL, walkK, wk, E, Nat.reduceEqDiff, Nat.reduceAdd, Nat.reduceSub, Nat.reduceLeDiff, Int.reduceLT, Int.reduceLE, Int.reduceAdd, Int.reduceSub, Int.reduceToNat, ↓reduceIte, h3, h4]
    exact fin0 _ _ e
/-- A token of a text. -/
def toK (t : Go.Ab.Sz.Tok) : Tok := ⟨t.kind, t.name, t.text, t.attrs, t.empty, false⟩
theorem toK_c (l : List Go.Ab.Sz.Tok) : l.map Go.Ab.Sz.Tok.c = (l.map toK).map Tok.c := by
  rw [List.map_map]
  apply List.map_congr_left
  intro t _
  simp only [Function.comp, toK, Tok.c, Go.Ab.Sz.Tok.c, lsq_false]
def parseS (s : List UInt8) : List Nd × Int := if (toksS s).2 == 0 then buildS ((toksS s).1.map toK) else ([], (toksS s).2)
theorem parse_conds (s : List UInt8) (hs : s.length ≤ 5000) : (((toksS s).1.map toK).length < 100000000) ∧ (∀ t ∈ (toksS s).1.map toK, t.attrs.length ≤ 4398046511104 ∧ t.text.length ≤ 140737488355328) ∧ (((toksS s).1.map toK).map fun t => t.text.length).sum ≤ 100000000000000000 := by
  have l1 := toksS_len s
  have l2 := toksS_txt s
  have l3 := sum_le (fun t : Go.Ab.Sz.Tok => t.text.length) (4 * s.length) (toksS s).1 l2
  refine ⟨by rw [List.length_map]; omega, fun t ht => ?_, ?_⟩
  · obtain ⟨x, hx, rfl⟩ := List.mem_map.1 ht
    have a := l1.2 x hx; have b := l2 x hx
    simp only [toK]; omega
  · rw [List.map_map]
    have : (toksS s).1.length * (4 * s.length) ≤ 5000 * 20000 := Nat.mul_le_mul (by omega) (by omega)
    have e : ((fun t : Tok => t.text.length) ∘ toK) = fun t : Go.Ab.Sz.Tok => t.text.length := rfl
    rw [e]; omega
theorem Parse_c (s : List UInt8) (hs : s.length ≤ 5000) (h : K (.tup [lsv ((parseS s).1.map Nd.c), .int .i64 (parseS s).2]) σ) : ACalls Tryz.prog (gD m) 19 [.str s] σ K := by
  obtain ⟨c1, c2, c3⟩ := parse_conds s hs
  refine ACalls_fn tok fm (fk19 _) ?_
  simp (disch := first | omega | (simp only [ln]; first | done | omega)) only [walkAll, walkL, walkK, wk, E, Nat.reduceEqDiff, Nat.reduceAdd, Nat.reduceSub, Nat.reduceLeDiff, Int.reduceLT, Int.reduceLE, Int.reduceAdd, Int.reduceSub, Int.reduceToNat, ↓reduceIte, c19]
  refine Tokens_c s (by omega) ?_
  simp (disch := first | omega | (simp only [ln]; first | done | omega)) only [walkAll, walkL, walkK, wk, E, Nat.reduceEqDiff, Nat.reduceAdd, Nat.reduceSub, Nat.reduceLeDiff, Int.reduceLT, Int.reduceLE, Int.reduceAdd, Int.reduceSub, Int.reduceToNat, ↓reduceIte, bne]
  unfold parseS at h
  cases g : ((toksS s).2 == 0) with
  | false =>
    rw [g] at h
    simp (disch := first | omega | (simp only [ln]; first | done | omega)) only [walkAll, walkL, walkK, wk, E, Nat.reduceEqDiff, Nat.reduceAdd, Nat.reduceSub, Nat.reduceLeDiff, Int.reduceLT, Int.reduceLE, Int.reduceAdd, Int.reduceSub, Int.reduceToNat, ↓reduceIte, bne, g, Bool.not_false]
    exact h
  | true =>
    rw [g] at h
    simp (disch := first | omega | (simp only [ln]; first | done | omega)) only [walkAll, walkL, walkK, wk, E, Nat.reduceEqDiff, Nat.reduceAdd, Nat.reduceSub, Nat.reduceLeDiff, Int.reduceLT, Int.reduceLE, Int.reduceAdd, Int.reduceSub, Int.reduceToNat, ↓reduceIte, bne, g, Bool.not_true]
    rw [toK_c]
    refine Build_c ((toksS s).1.map toK) _ (fun τ => rd_lsv (tok_len _) τ) (lsv_data (data_flat fun t _ => tok_data t)) c1 c2 c3 ?_
    simp (disch := first | omega | (simp only [ln]; first | done | omega)) only [walkAll, walkL, walkK, wk, E, Nat.reduceEqDiff, Nat.reduceAdd, Nat.reduceSub, Nat.reduceLeDiff, Int.reduceLT, Int.reduceLE, Int.reduceAdd, Int.reduceSub, Int.reduceToNat, ↓reduceIte]
    exact h
theorem rParse_c (s : List UInt8) (hs : s.length ≤ 5000) (h : K (.tup [lsv (((parseS s).1.map plainN).map Nd.c), .int .i64 (parseS s).2]) σ) : ACalls Tryz.prog (gD m) 20 [.str s] σ K := by
  obtain ⟨c1, c2, c3⟩ := parse_conds s hs
  refine ACalls_fn tok fm (fk20 _) ?_
  simp (disch := first | omega | (simp only [ln]; first | done | omega)) only [walkAll, walkL, walkK, wk, E, Nat.reduceEqDiff, Nat.reduceAdd, Nat.reduceSub, Nat.reduceLeDiff, Int.reduceLT, Int.reduceLE, Int.reduceAdd, Int.reduceSub, Int.reduceToNat, ↓reduceIte, c20]
  refine rTokens_c s (by omega) ?_
  rw [toks_eq]
  simp (disch := first | omega | (simp only [ln]; first | done | omega)) only [walkAll, walkL, walkK, wk, E, Nat.reduceEqDiff, Nat.reduceAdd, Nat.reduceSub, Nat.reduceLeDiff, Int.reduceLT, Int.reduceLE, Int.reduceAdd, Int.reduceSub, Int.reduceToNat, ↓reduceIte, bne]
  unfold parseS at h
  cases g : ((toksS s).2 == 0) with
  | false =>
    rw [g] at h
    simp (disch := first | omega | (simp only [ln]; first | done | omega)) only [walkAll, walkL, walkK, wk, E, Nat.reduceEqDiff, Nat.reduceAdd, Nat.reduceSub, Nat.reduceLeDiff, Int.reduceLT, Int.reduceLE, Int.reduceAdd, Int.reduceSub, Int.reduceToNat, ↓reduceIte, bne, g, Bool.not_false]
    exact h
  | true =>
    rw [g] at h
    simp (disch := first | omega | (simp only [ln]; first | done | omega)) only [walkAll, walkL, walkK, wk, E, Nat.reduceEqDiff, Nat.reduceAdd, Nat.reduceSub, Nat.reduceLeDiff, Int.reduceLT, Int.reduceLE, Int.reduceAdd, Int.reduceSub, Int.reduceToNat, ↓reduceIte, bne, g, Bool.not_true]
    rw [toK_c]
    refine rBuild_c ((toksS s).1.map toK) _ (fun τ => rd_lsv (tok_len _) τ) (lsv_data (data_flat fun t _ => tok_data t)) c1 c2 c3 ?_
    simp (disch := first | omega | (simp only [ln]; first | done | omega)) only [walkAll, walkL, walkK, wk, E, Nat.reduceEqDiff, Nat.reduceAdd, Nat.reduceSub, Nat.reduceLeDiff, Int.reduceLT, Int.reduceLE, Int.reduceAdd, Int.reduceSub, Int.reduceToNat, ↓reduceIte]
    exact h
theorem sameNode_loop (va vb : AV) (la lb : List (List AV)) (g : Nat) (ha : Rd 4 σ va la) (hb : Rd 4 σ vb lb) (hl : la.length = lb.length) (hlt : la.length < 9223372036854775807)
    (hone : ∀ (i : Nat) (c d : List AV), la[i]? = some c → lb[i]? = some d → ∀ K : AV → St → Prop, K (.bool true) σ → ACalls Tryz.prog (gD m) g [.agg c, .agg d] σ K) {Q : EQ} (hq : ∀ e', Q (.exit 0) e' σ) :
    ∀ (rest : List (List AV)) (i : Nat) (e : Env), la.drop i = rest → e 7 = some (.int .i64 i) → e 0 = some va → e 1 = some vb → e 2 = some (.fn (.func g) [] []) → LoopC Tryz.prog tt (gD m) l21_0 Q e σ := by
  intro rest
  induction rest with
  | nil =>
    intro i e hd h7 h0 h1 h2
    have hi : la.length ≤ i := by simpa using hd
    refine LoopC_unfold tok fm ?_
    have hb' : decide ((i : Int) < (la.length : Int)) = false := by simp; omega
    simp (disch := first | omega | (simp only [ln]; first | done | omega)) only [walkAll, walkL, walkK, wk, E, Nat.reduceEqDiff, Nat.reduceAdd, Nat.reduceSub, Nat.reduceLeDiff, Int.reduceLT, Int.reduceLE, Int.reduceAdd, Int.reduceSub, Int.reduceToNat, ↓reduceIte, l21_0x, l21_0b, h7, h0, ha.len, hb']
    exact hq _
  | cons c rest ih =>
    intro i e hd h7 h0 h1 h2
    obtain ⟨hc, hd'⟩ := drop_cons hd
    have hi := (List.getElem?_eq_some_iff.1 hc).1
    obtain ⟨d, hd2⟩ : ∃ d, lb[i]? = some d := ⟨lb[i], List.getElem?_eq_getElem (by omega)⟩
    obtain ⟨p, hp, hpt⟩ := ha.at hc .i64
    obtain ⟨q, hq', hqt⟩ := hb.at hd2 .i64
    have hl1 := hpt.all (ha.1 c (List.mem_of_getElem? hc))
    have hl2 := hqt.all (hb.1 d (List.mem_of_getElem? hd2))
    refine LoopC_unfold tok fm ?_
    have hb' : decide ((i : Int) < (la.length : Int)) = true := by simp; omega
    simp (disch := first | omega | (simp only [ln]; first | done | omega)) only [walkAll, walkL, walkK, wk, E, Nat.reduceEqDiff, Nat.reduceAdd, Nat.reduceSub, Nat.reduceLeDiff, Int.reduceLT, Int.reduceLE, Int.reduceAdd, Int.reduceSub, Int.reduceToNat, ↓reduceIte, l21_0x, l21_0b, h7, h0, h1, h2, ha.len, hb', hp, hq', hl1, hl2]
    refine hone i c d hc hd2 _ ?_
    simp (disch := first | omega | (simp only [ln]; first | done | omega)) only [walkAll, walkL, walkK, wk, E, Nat.reduceEqDiff, Nat.reduceAdd, Nat.reduceSub, Nat.reduceLeDiff, Int.reduceLT, Int.reduceLE, Int.reduceAdd, Int.reduceSub, Int.reduceToNat, ↓reduceIte, h7, h0, h1, h2, hp, hq', hl1, hl2]
    exact ih (i + 1) _ hd' (by simp [put]) (by simp [put, h0]) (by simp [put, h1]) (by simp [put, h2])
/-- Two lists that are alike, one by one. -/
theorem sameNode_c (va vb : AV) (la lb : List (List AV)) (g : Nat) (ha : Rd 4 σ va la) (hb : Rd 4 σ vb lb) (hl : la.length = lb.length) (hlt : la.length < 9223372036854775807)
    (hone : ∀ (i : Nat) (c d : List AV), la[i]? = some c → lb[i]? = some d → ∀ K : AV → St → Prop, K (.bool true) σ → ACalls Tryz.prog (gD m) g [.agg c, .agg d] σ K) (h : K (.bool true) σ) :
    ACalls Tryz.prog (gD m) 21 [va, vb, .fn (.func g) [] []] σ K := by
  refine ACalls_fn tok fm (fk21 _) ?_
  have hne : ((la.length : Int) != (lb.length : Int)) = false := by simp [hl]
  simp (disch := first | omega | (simp only [ln]; first | done | omega)) only [walkAll, walkL, walkK, wk, E, Nat.reduceEqDiff, Nat.reduceAdd, Nat.reduceSub, Nat.reduceLeDiff, Int.reduceLT, Int.reduceLE, Int.reduceAdd, Int.reduceSub, Int.reduceToNat, ↓reduceIte, c21, ha.len, hb.len, hne]
  refine sameNode_loop va vb la lb g ha hb hl hlt hone (fun e' => ?_) la 0 _ rfl (by simp [put]) (by simp [put, E]) (by simp [put, E]) (by simp [put, E])
  simp (disch := first | omega | (simp only [ln]; first | done | omega)) only [walkAll, walkL, walkK, wk, E, Nat.reduceEqDiff, Nat.reduceAdd, Nat.reduceSub, Nat.reduceLeDiff, Int.reduceLT, Int.reduceLE, Int.reduceAdd, Int.reduceSub, Int.reduceToNat, ↓reduceIte]
  exact h

theorem plainAttr_c (l : List (List UInt8 × List UInt8)) (va vb : AV) (ha : Rd 2 σ va (l.map atc)) (hb : Rd 2 σ vb (l.map atc)) (hl : l.length < 9223372036854775807) (h : K (.bool true) σ) : ACalls Tryz.prog (gD m) 35 [va, vb] σ K := by
  refine ACalls_fn tok fm (fk35 _) ?_
  simp (disch := first | omega | (simp only [ln]; first | done | omega)) only [walkAll, walkL, walkK, wk, E, Nat.reduceEqDiff, Nat.reduceAdd, Nat.reduceSub, Nat.reduceLeDiff, Int.reduceLT, Int.reduceLE, Int.reduceAdd, Int.reduceSub, Int.reduceToNat, ↓reduceIte, c35]
  refine sameAttr_c _ _ _ _ _ ha hb rfl (by simpa using hl) (fun i c d hc hd K hK => ?_) ?_
  · rw [hc] at hd; cases hd
    obtain ⟨a, _, rfl⟩ := List.mem_map.1 (List.mem_of_getElem? hc)
    exact plainAttr1_c a.1 a.2 hK
  · simp (disch := first | omega | (simp only [ln]; first | done | omega)) only [walkAll, walkL, walkK, wk, E, Nat.reduceEqDiff, Nat.reduceAdd, Nat.reduceSub, Nat.reduceLeDiff, Int.reduceLT, Int.reduceLE, Int.reduceAdd, Int.reduceSub, Int.reduceToNat, ↓reduceIte]
    exact h
theorem node_c (n : Nd) (hl : n.attrs.length < 9223372036854775807) (h : K (.bool true) σ) : ACalls Tryz.prog (gD m) 22 [.agg n.c, .agg (plainN n).c] σ K := by
  refine ACalls.close σ _ (.refl σ) (by simp only [dataR]) ?_ h
  refine ACalls_fn tok fm (fk22 _) ?_
  have e1 : ∀ a : Int, (a == a) = true := fun a => by simp
  have e2 : ∀ a : List UInt8, (a == a) = true := fun a => by simp
  simp (disch := first | omega | (simp only [ln]; first | done | omega)) only [walkAll, walkL, walkK, wk, E, Nat.reduceEqDiff, Nat.reduceAdd, Nat.reduceSub, Nat.reduceLeDiff, Int.reduceLT, Int.reduceLE, Int.reduceAdd, Int.reduceSub, Int.reduceToNat, ↓reduceIte, c22, Nd.c, plainN, e1, e2, lsq_cells, lsq_one]
  refine plainAttr_c n.attrs _ _ (rd_lsq _ (at_len _) _) (rd_lsq _ (at_len _) _) hl ?_
  simp (disch := first | omega | (simp only [ln]; first | done | omega)) only [walkAll, walkL, walkK, wk, E, Nat.reduceEqDiff, Nat.reduceAdd, Nat.reduceSub, Nat.reduceLeDiff, Int.reduceLT, Int.reduceLE, Int.reduceAdd, Int.reduceSub, Int.reduceToNat, ↓reduceIte]
  exact ⟨by repeat first | exact Grown.refl _ | assumption | apply Grown.pushV | apply Grown.pushR | (refine Grown.setV ?_ (by first | omega | (simp only [nvsR]; first | done | omega))) | (refine Grown.setOld ‹_› (by first | omega | (simp only [nvsR]; first | done | omega)) _) | (refine Grown.setOld0 ?_ (by first | omega | (simp only [nvsR]; first | done | omega)) _), .inl rfl⟩
theorem nd_len (l : List Nd) : ∀ e ∈ l.map Nd.c, e.length = 4 := fun e he => by
  obtain ⟨a, _, rfl⟩ := List.mem_map.1 he; rfl
theorem sameNodes_c (l : List Nd) (hl : l.length < 9223372036854775807) (ha : ∀ n ∈ l, n.attrs.length < 9223372036854775807) (h : K (.bool true) σ) :
    ACalls Tryz.prog (gD m) 21 [lsv (l.map Nd.c), lsv ((l.map plainN).map Nd.c), .fn (.func 22) [] []] σ K := by
  refine sameNode_c _ _ _ _ _ (rd_lsv (nd_len l) σ) (rd_lsv (nd_len _) σ) (by simp) (by simpa using hl) (fun i c d hc hd K hK => ?_) h
  rw [List.getElem?_map] at hc
  rw [List.getElem?_map, List.getElem?_map] at hd
  cases hn : l[i]? with
  | none => rw [hn] at hc; cases hc
  | some n =>
    rw [hn] at hc hd
    cases hc; cases hd
    exact node_c n (ha n (List.mem_of_getElem? hn)) hK
end
end Go.Ab.Sz.K
namespace Go.Ab.Sz.K
open Go Go.Ab Go.Proofs Go.RowKit
set_option maxRecDepth 100000
set_option linter.unusedSimpArgs false
section
variable {m : Int} {σ : St} {K : AV → St → Prop}
theorem sameInt_loop (va vb : AV) (la lb : List AV) (g : Nat) (ha : Rd 1 σ va (la.map fun x => [x])) (hb : Rd 1 σ vb (lb.map fun x => [x])) (hl : la.length = lb.length) (hlt : la.length < 9223372036854775807)
    (hone : ∀ (i : Nat) (c d : AV), la[i]? = some c → lb[i]? = some d → ∀ K : AV → St → Prop, K (.bool true) σ → ACalls Tryz.prog (gD m) g [c, d] σ K) {Q : EQ} (hq : ∀ e', Q (.exit 0) e' σ) :
    ∀ (rest : List AV) (i : Nat) (e : Env), la.drop i = rest → e 7 = some (.int .i64 i) → e 0 = some va → e 1 = some vb → e 2 = some (.fn (.func g) [] []) → LoopC Tryz.prog tt (gD m) l39_0 Q e σ := by
  have hal := ha.len
  rw [List.length_map] at hal
  intro rest
  induction rest with
  | nil =>
    intro i e hd h7 h0 h1 h2
    have hi : la.length ≤ i := by simpa using hd
    refine LoopC_unfold tok fm ?_
    have hb' : decide ((i : Int) < (la.length : Int)) = false := by simp; omega
    simp (disch := first | omega | (simp only [ln]; first | done | omega)) only [walkAll, walkL, walkK, wk, E, Nat.reduceEqDiff, Nat.reduceAdd, Nat.reduceSub, Nat.reduceLeDiff, Int.reduceLT, Int.reduceLE, Int.reduceAdd, Int.reduceSub, Int.reduceToNat, ↓reduceIte, l39_0x, l39_0b, h7, h0, hal, hb']
    exact hq _
  | cons c rest ih =>
    intro i e hd h7 h0 h1 h2
    have hc : la[i]? = some c := by have := congrArg (fun x => x[0]?) hd; simpa using this
    have hd' : la.drop (i + 1) = rest := by rw [← List.drop_drop, hd]; rfl
    have hi := (List.getElem?_eq_some_iff.1 hc).1
    obtain ⟨d, hd2⟩ : ∃ d, lb[i]? = some d := ⟨lb[i], List.getElem?_eq_getElem (by omega)⟩
    obtain ⟨p, hp, hpt⟩ := ha.at (i := i) (c := [c]) (by rw [List.getElem?_map, hc]; rfl) .i64
    obtain ⟨q, hq', hqt⟩ := hb.at (i := i) (c := [d]) (by rw [List.getElem?_map, hd2]; rfl) .i64
    have hl1 : (ldAt σ p 1).bind one1 = some c := by rw [hpt.ld 1 (by simp)]; rfl
    have hl2 : (ldAt σ q 1).bind one1 = some d := by rw [hqt.ld 1 (by simp)]; rfl
    refine LoopC_unfold tok fm ?_
    have hb' : decide ((i : Int) < (la.length : Int)) = true := by simp; omega
    simp (disch := first | omega | (simp only [ln]; first | done | omega)) only [walkAll, walkL, walkK, wk, E, Nat.reduceEqDiff, Nat.reduceAdd, Nat.reduceSub, Nat.reduceLeDiff, Int.reduceLT, Int.reduceLE, Int.reduceAdd, Int.reduceSub, Int.reduceToNat, ↓reduceIte, l39_0x, l39_0b, h7, h0, h1, h2, hal, hb', hp, hq', hl1, hl2]
    refine hone i c d hc hd2 _ ?_
    simp (disch := first | omega | (simp only [ln]; first | done | omega)) only [walkAll, walkL, walkK, wk, E, Nat.reduceEqDiff, Nat.reduceAdd, Nat.reduceSub, Nat.reduceLeDiff, Int.reduceLT, Int.reduceLE, Int.reduceAdd, Int.reduceSub, Int.reduceToNat, ↓reduceIte, h7, h0, h1, h2, hp, hq', hl1, hl2]
    exact ih (i + 1) _ hd' (by simp [put]) (by simp [put, h0]) (by simp [put, h1]) (by simp [put, h2])
/-- Two lists that are alike, one by one. -/
theorem sameInt_c (va vb : AV) (la lb : List AV) (g : Nat) (ha : Rd 1 σ va (la.map fun x => [x])) (hb : Rd 1 σ vb (lb.map fun x => [x])) (hl : la.length = lb.length) (hlt : la.length < 9223372036854775807)
    (hone : ∀ (i : Nat) (c d : AV), la[i]? = some c → lb[i]? = some d → ∀ K : AV → St → Prop, K (.bool true) σ → ACalls Tryz.prog (gD m) g [c, d] σ K) (h : K (.bool true) σ) :
    ACalls Tryz.prog (gD m) 39 [va, vb, .fn (.func g) [] []] σ K := by
  have hal := ha.len
  have hbl := hb.len
  rw [List.length_map] at hal hbl
  refine ACalls_fn tok fm (fk39 _) ?_
  have hne : ((la.length : Int) != (lb.length : Int)) = false := by simp [hl]
  simp (disch := first | omega | (simp only [ln]; first | done | omega)) only [walkAll, walkL, walkK, wk, E, Nat.reduceEqDiff, Nat.reduceAdd, Nat.reduceSub, Nat.reduceLeDiff, Int.reduceLT, Int.reduceLE, Int.reduceAdd, Int.reduceSub, Int.reduceToNat, ↓reduceIte, c39, hal, hbl, hne]
  refine sameInt_loop va vb la lb g ha hb hl hlt hone (fun e' => ?_) la 0 _ rfl (by simp [put]) (by simp [put, E]) (by simp [put, E]) (by simp [put, E])
  simp (disch := first | omega | (simp only [ln]; first | done | omega)) only [walkAll, walkL, walkK, wk, E, Nat.reduceEqDiff, Nat.reduceAdd, Nat.reduceSub, Nat.reduceLeDiff, Int.reduceLT, Int.reduceLE, Int.reduceAdd, Int.reduceSub, Int.reduceToNat, ↓reduceIte]
  exact h

theorem plainInt1_c (a : Int) (h : K (.bool true) σ) : ACalls Tryz.prog (gD m) 40 [.int .i64 a, .int .i64 a] σ K := by
  refine ACalls_fn tok fm (fk40 _) ?_
  simp (disch := first | omega | (simp only [ln]; first | done | omega)) only [walkAll, walkL, walkK, wk, E, Nat.reduceEqDiff, Nat.reduceAdd, Nat.reduceSub, Nat.reduceLeDiff, Int.reduceLT, Int.reduceLE, Int.reduceAdd, Int.reduceSub, Int.reduceToNat, ↓reduceIte, c40, beq_self_eq_true]
  exact h
theorem ints_rd (l : List Int) (τ : St) : Rd 1 τ (lsv (l.map fun x => [AV.int .i64 x])) ((l.map fun x => AV.int .i64 x).map fun x => [x]) := by
  rw [List.map_map]
  exact rd_lsv (fun e he => by obtain ⟨a, _, rfl⟩ := List.mem_map.1 he; rfl) τ
theorem plainInt_c (va vb : AV) (l : List Int) (ha : Rd 1 σ va ((l.map fun x => AV.int .i64 x).map fun x => [x])) (hb : Rd 1 σ vb ((l.map fun x => AV.int .i64 x).map fun x => [x])) (hl : l.length < 100000000) (h : K (.bool true) σ) : ACalls Tryz.prog (gD m) 23 [va, vb] σ K := by
  refine ACalls_fn tok fm (fk23 _) ?_
  simp (disch := first | omega | (simp only [ln]; first | done | omega)) only [walkAll, walkL, walkK, wk, E, Nat.reduceEqDiff, Nat.reduceAdd, Nat.reduceSub, Nat.reduceLeDiff, Int.reduceLT, Int.reduceLE, Int.reduceAdd, Int.reduceSub, Int.reduceToNat, ↓reduceIte, c23]
  refine sameInt_c va vb _ _ _ ha hb rfl (by simp; omega) (fun i c d hc hd K hK => ?_) ?_
  · rw [hc] at hd; cases hd
    obtain ⟨a, _, rfl⟩ := List.mem_map.1 (List.mem_of_getElem? hc)
    exact plainInt1_c a hK
  · simp (disch := first | omega | (simp only [ln]; first | done | omega)) only [walkAll, walkL, walkK, wk, E, Nat.reduceEqDiff, Nat.reduceAdd, Nat.reduceSub, Nat.reduceLeDiff, Int.reduceLT, Int.reduceLE, Int.reduceAdd, Int.reduceSub, Int.reduceToNat, ↓reduceIte]
    exact h
def awake8L : List UInt8 := [60, 97, 62, 60, 98, 62, 120, 60, 47, 98, 62, 60, 47, 97, 62]
theorem awake8_parse : parseS awake8L = ([⟨-1, [97], [], [], false⟩, ⟨0, [98], [120], [], false⟩], 0) := by kernel_rfl
theorem awake8_c (h : K (.bool true) σ) : ACalls Tryz.prog (gD m) 16 [] σ K := by
  refine ACalls.close σ _ (.refl σ) (by simp only [dataR]) ?_ h
  refine ACalls_fn tok fm (fk16 _) ?_
  simp (disch := first | omega | (simp only [ln]; first | done | omega)) only [walkAll, walkL, walkK, wk, E, Nat.reduceEqDiff, Nat.reduceAdd, Nat.reduceSub, Nat.reduceLeDiff, Int.reduceLT, Int.reduceLE, Int.reduceAdd, Int.reduceSub, Int.reduceToNat, ↓reduceIte, c16]
  refine Parse_c awake8L (by decide) ?_
  rw [awake8_parse]
  have z0 : ((0 : Int) == 0) = true := rfl
  have z2 : (((0 + 1 + 1 : Nat) : Int) == 2) = true := rfl
  have zx : (([120] : List UInt8) == [120]) = true := rfl
  have z3 : ((2 : Int) == 2) = true := rfl
  simp (disch := first | omega | (simp only [ln]; first | done | omega)) only [walkAll, walkL, walkK, wk, E, Nat.reduceEqDiff, Nat.reduceAdd, Nat.reduceSub, Nat.reduceLeDiff, Int.reduceLT, Int.reduceLE, Int.reduceAdd, Int.reduceSub, Int.reduceToNat, ↓reduceIte, z0, z2, z3, zx, List.map_cons, List.map_nil, Nd.c, lsq_false, lsv_nil, lsv_cons, List.length_cons, List.length_nil, List.getElem?_cons_zero, List.getElem?_cons_succ]
  refine Kids_c [⟨-1, [97], [], [], false⟩, ⟨0, [98], [120], [], false⟩] _ (fun τ => rd_lsv (nd_len _) τ) (lsv_data (data_flat fun n _ => nd_data n)) 0 (by decide) ?_
  rw [show kidsS [⟨-1, [97], [], [], false⟩, ⟨0, [98], [120], [], false⟩] 0 = [1] from by kernel_rfl]
  simp (disch := first | omega | (simp only [ln]; first | done | omega)) only [walkAll, walkL, walkK, wk, E, Nat.reduceEqDiff, Nat.reduceAdd, Nat.reduceSub, Nat.reduceLeDiff, Int.reduceLT, Int.reduceLE, Int.reduceAdd, Int.reduceSub, Int.reduceToNat, ↓reduceIte]
  refine plainInt_c _ _ [1] ?_ ?_ (by decide) ?_
  · exact ints_rd [1] _
  · refine ⟨by simp, .inr (.inr (.inr ⟨nrs σ, 0, ⟨3, 1, 0, [[.int .i64 1]]⟩, rfl, by simp [getR, nrs, St.pushR], rfl, rfl⟩))⟩
  · simp (disch := first | omega | (simp only [ln]; first | done | omega)) only [walkAll, walkL, walkK, wk, E, Nat.reduceEqDiff, Nat.reduceAdd, Nat.reduceSub, Nat.reduceLeDiff, Int.reduceLT, Int.reduceLE, Int.reduceAdd, Int.reduceSub, Int.reduceToNat, ↓reduceIte]
    refine ⟨?_, .inl rfl⟩
    repeat first | exact Grown.refl _ | assumption | apply Grown.pushV | apply Grown.pushR | (refine Grown.setV ?_ (by first | omega | (simp only [nvsR]; first | done | omega))) | (refine Grown.setOld ‹_› (by first | omega | (simp only [nvsR]; first | done | omega)) _) | (refine Grown.setOld0 ?_ (by first | omega | (simp only [nvsR]; first | done | omega)) _)
end
end Go.Ab.Sz.K
namespace Go.Ab.Sz.K
open Go Go.Ab Go.Proofs Go.RowKit
set_option maxRecDepth 40000
set_option linter.unusedSimpArgs false
section
variable {m : Int} {σ : St} {K : AV → St → Prop}
theorem TreeTells_law (l : List Tok) (v : AV) (hvr : ∀ τ, Rd 5 τ v (l.map Tok.c)) (hvd : Data v) (s : List UInt8) (n : List Nd) (u : AV) (hur : ∀ τ, Rd 4 τ u (n.map Nd.c)) (hud : Data u) (i : Int) (hat : ∀ t ∈ l, t.attrs.length ≤ 4398046511104 ∧ t.text.length ≤ 140737488355328) :
    ACalls Tryz.prog (gD m) 5 [v, .str s, u, .int .i64 i] ⟨[], []⟩ (fun r _ => r = .bool true) := by
  refine ACalls_fn tok fm (fk5 _) ?_
  have hvl := (hvr ⟨[], []⟩).len
  have hul := (hur ⟨[], []⟩).len
  rw [List.length_map] at hvl hul
  cases q1 : decide ((100 : Int) < (l.length : Int)) with
  | true =>
    simp (disch := first | omega | (simp only [ln]; first | done | omega)) only [walkAll, walkL, walkK, wk, E, Nat.reduceEqDiff, Nat.reduceAdd, Nat.reduceSub, Nat.reduceLeDiff, Int.reduceLT, Int.reduceLE, Int.reduceAdd, Int.reduceSub, Int.reduceToNat, ↓reduceIte, c5, hvl, q1]
    refine awake8_c ?_
    simp (disch := first | omega | (simp only [ln]; first | done | omega)) only [walkAll, walkL, walkK, wk, E, Nat.reduceEqDiff, Nat.reduceAdd, Nat.reduceSub, Nat.reduceLeDiff, Int.reduceLT, Int.reduceLE, Int.reduceAdd, Int.reduceSub, Int.reduceToNat, ↓reduceIte]
  | false =>
  cases q2 : decide ((4000 : Int) < (s.length : Int)) with
  | true =>
    simp (disch := first | omega | (simp only [ln]; first | done | omega)) only [walkAll, walkL, walkK, wk, E, Nat.reduceEqDiff, Nat.reduceAdd, Nat.reduceSub, Nat.reduceLeDiff, Int.reduceLT, Int.reduceLE, Int.reduceAdd, Int.reduceSub, Int.reduceToNat, ↓reduceIte, c5, hvl, q1, q2]
    refine awake8_c ?_
    simp (disch := first | omega | (simp only [ln]; first | done | omega)) only [walkAll, walkL, walkK, wk, E, Nat.reduceEqDiff, Nat.reduceAdd, Nat.reduceSub, Nat.reduceLeDiff, Int.reduceLT, Int.reduceLE, Int.reduceAdd, Int.reduceSub, Int.reduceToNat, ↓reduceIte]
  | false =>
  cases q3 : decide ((100 : Int) < (n.length : Int)) with
  | true =>
    simp (disch := first | omega | (simp only [ln]; first | done | omega)) only [walkAll, walkL, walkK, wk, E, Nat.reduceEqDiff, Nat.reduceAdd, Nat.reduceSub, Nat.reduceLeDiff, Int.reduceLT, Int.reduceLE, Int.reduceAdd, Int.reduceSub, Int.reduceToNat, ↓reduceIte, c5, hvl, hul, q1, q2, q3]
    refine awake8_c ?_
    simp (disch := first | omega | (simp only [ln]; first | done | omega)) only [walkAll, walkL, walkK, wk, E, Nat.reduceEqDiff, Nat.reduceAdd, Nat.reduceSub, Nat.reduceLeDiff, Int.reduceLT, Int.reduceLE, Int.reduceAdd, Int.reduceSub, Int.reduceToNat, ↓reduceIte]
  | false =>
    have g1 : l.length ≤ 100 := by have := of_decide_eq_false q1; omega
    have g2 : s.length ≤ 4000 := by have := of_decide_eq_false q2; omega
    have g3 : n.length ≤ 100 := by have := of_decide_eq_false q3; omega
    have hsum : (l.map fun t => t.text.length).sum ≤ 100000000000000000 := by
      have h1 := sum_le (fun t : Tok => t.text.length) 140737488355328 l (fun t ht => (hat t ht).2)
      have h2 : l.length * 140737488355328 ≤ 100 * 140737488355328 := Nat.mul_le_mul g1 (Nat.le_refl _)
      omega
    have ea : ∀ a : Int, (a == a) = true := fun a => by simp
    have hb1 := buildS_att (X := 4398046511104) l fun t ht => by have := (hat t ht).1; omega
    have hb2 := buildS_len500 l
    have hp : (parseS s).1.length ≤ 500 ∧ ∀ x ∈ (parseS s).1, x.attrs.length ≤ 4398046511104 := by
      obtain ⟨c1, c2, c3⟩ := parse_conds s (by omega)
      unfold parseS
      split
      · exact ⟨buildS_len500 _, buildS_att _ fun t ht => by have := (c2 t ht).1; omega⟩
      · exact ⟨by simp, fun x hx => by cases hx⟩
    simp (disch := first | omega | (simp only [ln]; first | done | omega)) only [walkAll, walkL, walkK, wk, E, Nat.reduceEqDiff, Nat.reduceAdd, Nat.reduceSub, Nat.reduceLeDiff, Int.reduceLT, Int.reduceLE, Int.reduceAdd, Int.reduceSub, Int.reduceToNat, ↓reduceIte, c5, hvl, hul, q1, q2, q3]
    refine Build_c l v hvr hvd (by omega) hat hsum ?_
    simp (disch := first | omega | (simp only [ln]; first | done | omega)) only [walkAll, walkL, walkK, wk, E, Nat.reduceEqDiff, Nat.reduceAdd, Nat.reduceSub, Nat.reduceLeDiff, Int.reduceLT, Int.reduceLE, Int.reduceAdd, Int.reduceSub, Int.reduceToNat, ↓reduceIte]
    refine rBuild_c l v hvr hvd (by omega) hat hsum ?_
    simp (disch := first | omega | (simp only [ln]; first | done | omega)) only [walkAll, walkL, walkK, wk, E, Nat.reduceEqDiff, Nat.reduceAdd, Nat.reduceSub, Nat.reduceLeDiff, Int.reduceLT, Int.reduceLE, Int.reduceAdd, Int.reduceSub, Int.reduceToNat, ↓reduceIte]
    refine Parse_c s (by omega) ?_
    simp (disch := first | omega | (simp only [ln]; first | done | omega)) only [walkAll, walkL, walkK, wk, E, Nat.reduceEqDiff, Nat.reduceAdd, Nat.reduceSub, Nat.reduceLeDiff, Int.reduceLT, Int.reduceLE, Int.reduceAdd, Int.reduceSub, Int.reduceToNat, ↓reduceIte]
    refine rParse_c s (by omega) ?_
    simp (disch := first | omega | (simp only [ln]; first | done | omega)) only [walkAll, walkL, walkK, wk, E, Nat.reduceEqDiff, Nat.reduceAdd, Nat.reduceSub, Nat.reduceLeDiff, Int.reduceLT, Int.reduceLE, Int.reduceAdd, Int.reduceSub, Int.reduceToNat, ↓reduceIte]
    refine awake8_c ?_
    simp (disch := first | omega | (simp only [ln]; first | done | omega)) only [walkAll, walkL, walkK, wk, E, Nat.reduceEqDiff, Nat.reduceAdd, Nat.reduceSub, Nat.reduceLeDiff, Int.reduceLT, Int.reduceLE, Int.reduceAdd, Int.reduceSub, Int.reduceToNat, ↓reduceIte]
    refine sameNodes_c (buildS l).1 (by omega) (fun x hx => by have := hb1 x hx; omega) ?_
    simp (disch := first | omega | (simp only [ln]; first | done | omega)) only [walkAll, walkL, walkK, wk, E, Nat.reduceEqDiff, Nat.reduceAdd, Nat.reduceSub, Nat.reduceLeDiff, Int.reduceLT, Int.reduceLE, Int.reduceAdd, Int.reduceSub, Int.reduceToNat, ↓reduceIte, ea]
    refine sameNodes_c (parseS s).1 (by omega) (fun x hx => by have := hp.2 x hx; omega) ?_
    simp (disch := first | omega | (simp only [ln]; first | done | omega)) only [walkAll, walkL, walkK, wk, E, Nat.reduceEqDiff, Nat.reduceAdd, Nat.reduceSub, Nat.reduceLeDiff, Int.reduceLT, Int.reduceLE, Int.reduceAdd, Int.reduceSub, Int.reduceToNat, ↓reduceIte, ea]
    refine Kids_c n u hur hud i (by omega) ?_
    simp (disch := first | omega | (simp only [ln]; first | done | omega)) only [walkAll, walkL, walkK, wk, E, Nat.reduceEqDiff, Nat.reduceAdd, Nat.reduceSub, Nat.reduceLeDiff, Int.reduceLT, Int.reduceLE, Int.reduceAdd, Int.reduceSub, Int.reduceToNat, ↓reduceIte, ea]
    refine rKids_c n u (hur _) i (by omega) ?_
    simp (disch := first | omega | (simp only [ln]; first | done | omega)) only [walkAll, walkL, walkK, wk, E, Nat.reduceEqDiff, Nat.reduceAdd, Nat.reduceSub, Nat.reduceLeDiff, Int.reduceLT, Int.reduceLE, Int.reduceAdd, Int.reduceSub, Int.reduceToNat, ↓reduceIte, ea]
    have e9 : (kidsS n i).map ixc = (((kidsS n i).map fun k : Nat => (k : Int)).map fun x => AV.int .i64 x).map fun x => [x] := by
      rw [List.map_map, List.map_map]; rfl
    have hkl : (kidsS n i).length ≤ n.length := by
      unfold kidsS
      split
      · have : ∀ (l : List Nd) (k : Nat), (kidsF i k l).length ≤ l.length := fun l => by
          induction l with
          | nil => exact fun _ => Nat.le_refl 0
          | cons x l ih =>
            intro k
            have := ih (k + 1)
            simp only [kidsF, List.length_append, List.length_cons]
            split
            · simp only [List.length_cons, List.length_nil]; omega
            · simp only [List.length_nil]; omega
        exact this n 0
      · simp
    have hR : ∀ τ, Rd 1 τ (lsv ((kidsS n i).map ixc)) ((((kidsS n i).map fun k : Nat => (k : Int)).map fun x => AV.int .i64 x).map fun x => [x]) := fun τ => by
      rw [e9]
      exact rd_lsv (fun e he => by obtain ⟨a, _, rfl⟩ := List.mem_map.1 he; rfl) τ
    refine plainInt_c _ _ ((kidsS n i).map fun k : Nat => (k : Int)) (hR _) (hR _) (by rw [List.length_map]; omega) ?_
    simp (disch := first | omega | (simp only [ln]; first | done | omega)) only [walkAll, walkL, walkK, wk, E, Nat.reduceEqDiff, Nat.reduceAdd, Nat.reduceSub, Nat.reduceLeDiff, Int.reduceLT, Int.reduceLE, Int.reduceAdd, Int.reduceSub, Int.reduceToNat, ↓reduceIte]
end
end Go.Ab.Sz.K
