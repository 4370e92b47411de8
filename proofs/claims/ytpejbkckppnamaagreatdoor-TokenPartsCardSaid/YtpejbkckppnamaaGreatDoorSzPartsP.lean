/-
  Texts that stand one behind the other: a plain law.
-/
import Derived.Test.YtpejbkckppnamaaGreatDoorR7
set_option linter.all false
set_option linter.unusedVariables false
set_option linter.unusedSimpArgs false
namespace Go.Ab.Sz
open Go Go.Ab Go.Proofs Go.RowKit
set_option maxRecDepth 40000
theorem while_ext {p : UInt8 → Bool} : ∀ {x : List UInt8} (y : List UInt8), x.dropWhile p ≠ [] → (x ++ y).dropWhile p = x.dropWhile p ++ y ∧ (x ++ y).takeWhile p = x.takeWhile p
  | [], _, h => absurd rfl h
  | c :: x, y, h => by
    rw [List.dropWhile_cons] at h
    rw [List.cons_append, List.dropWhile_cons, List.dropWhile_cons, List.takeWhile_cons, List.takeWhile_cons]
    cases q : p c with
    | true =>
      rw [q, if_pos rfl] at h
      obtain ⟨h1, h2⟩ := while_ext y h
      simp only [if_true]
      rw [h1, h2]
      exact ⟨rfl, rfl⟩
    | false => exact ⟨rfl, rfl⟩
theorem nil_while {p : UInt8 → Bool} {x : List UInt8} (h : x.dropWhile p ≠ []) : x ≠ [] := fun e => h (by rw [e]; rfl)
theorem pre_ext {x p : List UInt8} (y : List UInt8) (h : Lib.hasPrefix x p = true) : Lib.hasPrefix (x ++ y) p = true := by
  simp only [Lib.hasPrefix, List.isPrefixOf_iff_prefix] at *
  exact h.trans (List.prefix_append _ _)
theorem pre_ne {x : List UInt8} {c : UInt8} {p : List UInt8} (h : Lib.hasPrefix x (c :: p) = true) : x ≠ [] := fun e => by rw [e] at h; cases h
theorem rA2_ext {r : List UInt8} (y : List UInt8) (h : rA2 r ≠ []) : rA2 (r ++ y) = rA2 r ++ y ∧ rNm (r ++ y) = rNm r := by
  have h1 : r.dropWhile withins.contains ≠ [] := nil_while h
  obtain ⟨a, b⟩ := while_ext y h1
  unfold rA2 rNm
  rw [a, b]
  exact ⟨(while_ext y h).1, rfl⟩
theorem rQ1_ext {q : UInt8} {r v t : List UInt8} (y : List UInt8) (h : rQ1 q r = some (v, t)) : rQ1 q (r ++ y) = some (v, t ++ y) := by
  cases h6 : (r.takeWhile (· != q)).contains 60 with
  | true => rw [rQ1_bad h6] at h; cases h
  | false =>
    cases hd : r.dropWhile (· != q) with
    | nil => rw [rQ1_nil h6 hd] at h; cases h
    | cons x t' =>
      rw [rQ1_cons h6 hd] at h
      cases h
      obtain ⟨a, b⟩ := while_ext y (p := (· != q)) (x := r) (by rw [hd]; simp)
      rw [rQ1_cons (x := x) (t := t ++ y) (by rw [b]; exact h6) (by rw [a, hd]; rfl), b]
theorem rAttr_ext {al : List (List UInt8 × List UInt8)} {r n : List UInt8} {v : List UInt8 × Bool} {t : List UInt8} (y : List UInt8) (h : rAttr al r = some (n, v, t)) : rAttr al (r ++ y) = some (n, v, t ++ y) := by
  unfold rAttr at h ⊢
  split at h
  · cases h
  · rename_i h1
    split at h
    · cases h
    · rename_i h2
      have g2 : Lib.hasPrefix (rA2 r) [61] = true := by
        cases g : Lib.hasPrefix (rA2 r) [61] with
        | true => rfl
        | false => exact absurd (by rw [g]; simp) h2
      have ne2 := pre_ne g2
      obtain ⟨a, b⟩ := rA2_ext y ne2
      rw [b, if_neg h1, a, if_neg (by rw [pre_ext y g2]; rw [g2] at h2; exact h2)]
      have c : ((rA2 r ++ y).drop 1) = (rA2 r).drop 1 ++ y := by
        rw [pre_cell g2]; rfl
      have d : rA4 (r ++ y) = ((rA2 r).drop 1 ++ y).dropWhile blanksL.contains := by unfold rA4; rw [a, c]
      cases h4 : rA4 r with
      | nil => rw [h4] at h; cases h
      | cons q r5 =>
        have e := (while_ext y (p := blanksL.contains) (x := (rA2 r).drop 1) (by
          have : ((rA2 r).drop 1).dropWhile blanksL.contains = q :: r5 := h4
          rw [this]; simp)).1
        rw [d, e, show ((rA2 r).drop 1).dropWhile blanksL.contains = q :: r5 from h4]
        rw [h4] at h
        cases g3 : (q == 34 || q == 39) with
        | false => rw [show rQuote (q :: r5) = none by simp only [rQuote, g3]; rfl] at h; cases h
        | true =>
          rw [rQuote_cons r5 g3] at h
          rw [List.cons_append, rQuote_cons _ g3]
          cases hq : rQ1 q r5 with
          | none => rw [hq] at h; cases h
          | some w =>
            rw [hq] at h
            rw [rQ1_ext (v := w.1) (t := w.2) y hq]
            cases h
            rfl
theorem rNm_head {r : List UInt8} (h : (rNm r == []) = false) : ∃ c t, r = c :: t ∧ firsts.contains c = true := by
  cases r with
  | nil => cases h
  | cons c t =>
    refine ⟨c, t, rfl, ?_⟩
    unfold rNm nameR at h
    rw [nameB_tw, List.takeWhile_cons] at h
    cases q : firsts.contains c with
    | true => rfl
    | false =>
      cases hw : withins.contains c with
      | true => rw [hw] at h; simp only [if_true, List.getD_cons_zero, q, Bool.and_false, Bool.false_eq_true, if_false] at h; cases h
      | false => rw [hw] at h; cases h
theorem rAttr_head {al : List (List UInt8 × List UInt8)} {r : List UInt8} {w : List UInt8 × (List UInt8 × Bool) × List UInt8} (h : rAttr al r = some w) : ∃ c t, r = c :: t ∧ firsts.contains c = true := by
  apply rNm_head
  unfold rAttr at h
  split at h
  · cases h
  · split at h
    · cases h
    · rename_i h2
      cases g : (rNm r == []) with
      | false => rfl
      | true => exact absurd (by rw [g]; rfl) h2
theorem rOpenL_ext (y : List UInt8) : ∀ (n : Nat) (r : List UInt8) (al l : List (List UInt8 × List UInt8)) (em : Bool) (t : List UInt8), rOpenL n r al = some (l, em, t) → ∀ m, n ≤ m → rOpenL m (r ++ y) al = some (l, em, t ++ y)
  | 0, r, al, l, em, t, h, _, _ => by cases h
  | n + 1, r, al, l, em, t, h, 0, hm => by omega
  | n + 1, r, al, l, em, t, h, m + 1, hm => by
    simp only [rOpenL] at h
    have ext : r.dropWhile blanksL.contains ≠ [] → (r ++ y).dropWhile blanksL.contains = r.dropWhile blanksL.contains ++ y ∧ (r ++ y).takeWhile blanksL.contains = r.takeWhile blanksL.contains := while_ext y
    split at h
    · rename_i g1
      obtain ⟨e1, e2⟩ := ext (pre_ne g1)
      have hp := hasPrefix_len g1
      have e3 : Lib.hasPrefix (r.dropWhile blanksL.contains ++ y) [47, 62] = true := pre_ext y g1
      simp only [rOpenL, e1, e3, if_true]
      cases h
      rw [List.drop_append_of_le_length (by simp at hp; omega)]
    · rename_i g1
      split at h
      · rename_i g2
        obtain ⟨e1, e2⟩ := ext (pre_ne g2)
        have e3 : Lib.hasPrefix (r.dropWhile blanksL.contains ++ y) [62] = true := pre_ext y g2
        have e4 : Lib.hasPrefix (r.dropWhile blanksL.contains ++ y) [47, 62] = false := by rw [pre_cell e3, pre_cons]; rfl
        have hp := hasPrefix_len g2
        simp only [rOpenL, e1, e3, e4, if_true, Bool.false_eq_true, if_false]
        cases h
        rw [List.drop_append_of_le_length (by simp at hp; omega)]
      · rename_i g2
        split at h
        · cases h
        · rename_i g3
          split at h
          · cases h
          · rename_i x hx
            obtain ⟨c, tt, hc, hf⟩ := rAttr_head hx
            obtain ⟨e1, e2⟩ := ext (by rw [hc]; simp)
            have c47 : ((47 : UInt8) == c) = false := by
              rw [beq_eq_false_iff_ne]; rintro rfl; exact absurd hf (by decide)
            have c62 : ((62 : UInt8) == c) = false := by
              rw [beq_eq_false_iff_ne]; rintro rfl; exact absurd hf (by decide)
            have e4 : Lib.hasPrefix (r.dropWhile blanksL.contains ++ y) [47, 62] = false := by rw [hc, List.cons_append, pre_cons, c47]; rfl
            have e5 : Lib.hasPrefix (r.dropWhile blanksL.contains ++ y) [62] = false := by rw [hc, List.cons_append, pre_cons, c62]; rfl
            have e6 := rAttr_ext (n := x.1) (v := x.2.1) (t := x.2.2) y hx
            have g3' : (r.takeWhile blanksL.contains == []) = false := by simpa using g3
            simp only [rOpenL, e1, e2, e4, e5, e6, g3', Bool.false_eq_true, if_false]
            split at h
            · rename_i g4
              rw [if_pos g4]
              exact rOpenL_ext y n _ _ _ _ _ h m (by omega)
            · cases h
theorem rOpen_ext {r t : List UInt8} {k : Tok} (y : List UInt8) (h : rOpen r = some (k, t)) : rOpen (r ++ y) = some (k, t ++ y) := by
  unfold rOpen at h
  split at h
  · cases h
  · rename_i g1
    cases hq : rOpenL ((r.dropWhile withins.contains).length + 1) (r.dropWhile withins.contains) [] with
    | none => rw [hq] at h; cases h
    | some x =>
      rw [hq] at h
      have hne : r.dropWhile withins.contains ≠ [] := by
        intro e
        rw [e] at hq
        cases hq
      obtain ⟨e1, e2⟩ := while_ext y hne
      have en : rNm (r ++ y) = rNm r := by unfold rNm; rw [e2]
      have := rOpenL_ext y _ _ _ x.1 x.2.1 x.2.2 hq (((r ++ y).dropWhile withins.contains).length + 1) (by rw [e1]; simp)
      unfold rOpen
      rw [en, if_neg g1, ← e1] at *
      rw [this]
      simp only [Option.map_some, Option.some.injEq, Prod.mk.injEq] at h ⊢
      exact ⟨h.1, by rw [← h.2]⟩
theorem rTok_ext {r t : List UInt8} {k : Tok} (y : List UInt8) (hr : r ≠ []) (h : rTok r = some (k, t)) : rTok (r ++ 60 :: y) = some (k, t ++ 60 :: y) := by
  unfold rTok at h
  split at h
  · rename_i g1
    have hp := hasPrefix_len g1
    have e1 : Lib.hasPrefix (r ++ 60 :: y) [60, 47] = true := pre_ext _ g1
    have e2 : (r ++ 60 :: y).drop 2 = r.drop 2 ++ 60 :: y := List.drop_append_of_le_length (by simp at hp; omega)
    split at h
    · cases h
    · rename_i g2
      have g3 : Lib.hasPrefix (rA2 (r.drop 2)) [62] = true := by
        cases g : Lib.hasPrefix (rA2 (r.drop 2)) [62] with
        | true => rfl
        | false => exact absurd (by rw [g]; simp) g2
      obtain ⟨e3, e4⟩ := rA2_ext (60 :: y) (pre_ne g3)
      unfold rTok
      rw [if_pos e1, e2, e3, e4, if_neg (by rw [pre_ext _ g3]; rw [g3] at g2; exact g2)]
      cases h
      have := pre_cell g3
      rw [List.drop_append_of_le_length (by rw [this]; simp)]
  · rename_i g1
    split at h
    · rename_i g2
      have hc := pre_cell g2
      obtain ⟨c, t', ht, hf⟩ := rNm_head (r := r.drop 1) (by
        unfold rOpen at h
        split at h
        · cases h
        · rename_i g; simpa using g)
      have c47 : ((47 : UInt8) == c) = false := by
        rw [beq_eq_false_iff_ne]; rintro rfl; exact absurd hf (by decide)
      have e1 : Lib.hasPrefix (r ++ 60 :: y) [60, 47] = false := by
        rw [hc, ht, List.cons_append, List.cons_append, pre_cons, pre_cons, c47]; rfl
      have e2 : Lib.hasPrefix (r ++ 60 :: y) [60] = true := pre_ext _ g2
      have e3 : (r ++ 60 :: y).drop 1 = r.drop 1 ++ 60 :: y := List.drop_append_of_le_length (by rw [hc]; simp)
      unfold rTok
      rw [e1, e2, e3]
      simp only [Bool.false_eq_true, if_false, if_true]
      exact rOpen_ext _ h
    · rename_i g2
      cases r with
      | nil => exact absurd rfl hr
      | cons c r =>
        have hc : ((60 : UInt8) == c) = false := by
          rw [pre_cons, pre_nil, Bool.and_true] at g2
          simpa using g2
        have e1 : Lib.hasPrefix (c :: r ++ 60 :: y) [60, 47] = false := by rw [List.cons_append, pre_cons, hc]; rfl
        have e2 : Lib.hasPrefix (c :: r ++ 60 :: y) [60] = false := by rw [List.cons_append, pre_cons, hc]; rfl
        have e3 : (c :: r ++ 60 :: y).takeWhile (· != 60) = (c :: r).takeWhile (· != 60) ∧ (c :: r ++ 60 :: y).dropWhile (· != 60) = (c :: r).dropWhile (· != 60) ++ 60 :: y := by
          by_cases hm : (60 : UInt8) ∈ c :: r
          · obtain ⟨a, t, he, ha⟩ := split_mem hm
            have hne : ∀ x ∈ a, (x != 60) = true := fun x hx => by simp; exact fun h => ha (h ▸ hx)
            rw [he, List.append_assoc, List.cons_append, takeWhile_at hne (by simp), takeWhile_at hne (by simp), dropWhile_at hne (by simp), dropWhile_at hne (by simp)]
            exact ⟨rfl, rfl⟩
          · have hne : ∀ x ∈ c :: r, (x != 60) = true := fun x hx => by simp; exact fun h => hm (h ▸ hx)
            rw [takeWhile_at hne (by simp), dropWhile_at hne (by simp), takeWhile_all hne, dropWhile_all _ _ hne]
            exact ⟨rfl, rfl⟩
        unfold rTok
        rw [e1, e2, e3.1, e3.2]
        simp only [Bool.false_eq_true, if_false]
        split at h
        · rename_i g3; rw [if_pos g3]; cases h; rfl
        · cases h
theorem rToksL_mono : ∀ (n : Nat) (s : List UInt8) (l : List Tok), rToksL n s = some l → ∀ m, n ≤ m → rToksL m s = some l
  | 0, _, _, h, _, _ => by cases h
  | n + 1, s, l, h, 0, hm => by omega
  | n + 1, s, l, h, m + 1, hm => by
    simp only [rToksL] at h ⊢
    split at h
    · rename_i g; rw [if_pos g]; exact h
    · rename_i g
      rw [if_neg g]
      split at h
      · cases h
      · rename_i x hx
        cases hq : rToksL n x.2 with
        | none => rw [hq] at h; cases h
        | some l' =>
          rw [hq] at h
          have := rToksL_mono n _ _ hq m (by omega)
          simp only [this]
          exact h
theorem rToksL_ext (y : List UInt8) (l2 : List Tok) (k : Nat) (hy : rToksL k (60 :: y) = some l2) : ∀ (n : Nat) (r : List UInt8) (l : List Tok), rToksL n r = some l → rToksL (n + k) (r ++ 60 :: y) = some (l ++ l2)
  | 0, _, _, h => by cases h
  | n + 1, r, l, h => by
    simp only [rToksL] at h
    split at h
    · rename_i g
      cases h
      have : r = [] := by simpa using g
      subst this
      exact rToksL_mono _ _ _ hy _ (by omega)
    · rename_i g
      split at h
      · cases h
      · rename_i x hx
        cases hq : rToksL n x.2 with
        | none => rw [hq] at h; cases h
        | some l' =>
          rw [hq] at h
          cases h
          have e := rTok_ext (k := x.1) (t := x.2) y (by intro e; rw [e] at g; exact g rfl) hx
          have ih := rToksL_ext y l2 k hy n _ _ hq
          rw [show n + 1 + k = (n + k) + 1 by omega]
          have hne : (r ++ 60 :: y == []) = false := by cases r <;> rfl
          simp only [rToksL, hne, Bool.false_eq_true, if_false]
          rw [e]
          simp only
          rw [ih]
          rfl
def cTok : Tok := ⟨1, [99], [], [], true⟩
theorem rTok_c (b : List UInt8) : rTok (60 :: 99 :: 47 :: 62 :: b) = some (cTok, b) := by
  have t1 : (99 :: 47 :: 62 :: b : List UInt8).takeWhile withins.contains = [99] := by
    rw [List.takeWhile_cons, show withins.contains 99 = true by decide, List.takeWhile_cons, show withins.contains 47 = false by decide]; rfl
  have t2 : (99 :: 47 :: 62 :: b : List UInt8).dropWhile withins.contains = 47 :: 62 :: b := by
    rw [List.dropWhile_cons, show withins.contains 99 = true by decide, List.dropWhile_cons, show withins.contains 47 = false by decide]; rfl
  have t3 : rNm (99 :: 47 :: 62 :: b) = [99] := by unfold rNm; rw [t1]; decide
  have t4 : (47 :: 62 :: b : List UInt8).dropWhile blanksL.contains = 47 :: 62 :: b := by
    rw [List.dropWhile_cons, show blanksL.contains 47 = false by decide]; rfl
  have t5 : Lib.hasPrefix (47 :: 62 :: b) [47, 62] = true := pre_self [47, 62] b
  have e1 : rTok (60 :: 99 :: 47 :: 62 :: b) = rOpen (99 :: 47 :: 62 :: b) := rfl
  rw [e1]
  unfold rOpen
  rw [t3, t2]
  simp only [rOpenL, t4, t5, if_true]
  rfl
theorem rToks_ok {s : List UInt8} {l : List Tok} (h : rToks s = (l, 0)) : utfB s = true ∧ rToksL ((Lib.trimPrefix s prologL).length + 1) (Lib.trimPrefix s prologL) = some l := by
  unfold rToks at h
  split at h
  · cases h
  · split at h
    · cases h
    · rename_i g
      split at h
      · rename_i l' hl
        cases h
        exact ⟨by simpa using g, hl⟩
      · cases h
theorem pre_short : ∀ (p a y : List UInt8), Lib.hasPrefix (a ++ y) p = true → Lib.hasPrefix a p = true ∨ ∃ k, k < p.length ∧ Lib.hasPrefix y (p.drop k) = true
  | [], a, _, _ => .inl (pre_nil a)
  | c :: p, [], y, h => .inr ⟨0, by simp, h⟩
  | c :: p, d :: a, y, h => by
    rw [List.cons_append, pre_cons] at h
    obtain ⟨h1, h2⟩ := Bool.and_eq_true_iff.1 h
    rcases pre_short p a y h2 with h3 | ⟨k, hk, h3⟩
    · exact .inl (by rw [pre_cons, h1, h3]; rfl)
    · exact .inr ⟨k + 1, by simp; omega, h3⟩
theorem prolog_c : ∀ k, k < 38 → ((prologL.drop k).take 2 == [60, 99]) = false ∧ ((prologL.drop k) == [60]) = false ∧ (prologL.drop k).length > 0 := by decide
theorem no_prolog (y : List UInt8) (k : Nat) (hk : k < 38) : Lib.hasPrefix (60 :: 99 :: y) (prologL.drop k) = false := by
  obtain ⟨h1, h2, h3⟩ := prolog_c k hk
  generalize prologL.drop k = p at *
  match p, h3 with
  | [a], _ =>
    rw [pre_cons, pre_nil, Bool.and_true]
    simpa using h2
  | a :: b :: p, _ =>
    rw [pre_cons, pre_cons]
    cases q1 : (a == 60) with
    | false => rfl
    | true =>
      cases q2 : (b == 99) with
      | false => rfl
      | true =>
        have e1 : a = 60 := by simpa using q1
        have e2 : b = 99 := by simpa using q2
        subst e1; subst e2
        cases h1
theorem strip_ext (a y : List UInt8) : Lib.trimPrefix (a ++ 60 :: 99 :: y) prologL = Lib.trimPrefix a prologL ++ 60 :: 99 :: y := by
  cases g : Lib.hasPrefix a prologL with
  | true =>
    have hp := hasPrefix_len g
    rw [trim_drop g, trim_drop (pre_ext _ g), List.drop_append_of_le_length (by omega)]
  | false =>
    have : Lib.hasPrefix (a ++ 60 :: 99 :: y) prologL = false := by
      rw [← Bool.not_eq_true]
      intro h
      rcases pre_short _ _ _ h with h | ⟨k, hk, h⟩
      · rw [g] at h; cases h
      · rw [no_prolog y k hk] at h; cases h
    rw [trim_no g, trim_no this]
theorem parts_toks {a b : List UInt8} {la lb : List Tok} (ha : rToks a = (la, 0)) (hb : rToks b = (lb, 0)) (hl : a.length + b.length ≤ 2000) (hp : Lib.hasPrefix b prologL = false) :
    toksS (a ++ 60 :: 99 :: 47 :: 62 :: b) = (la ++ cTok :: lb, 0) := by
  obtain ⟨a1, a2⟩ := rToks_ok ha
  obtain ⟨b1, b2⟩ := rToks_ok hb
  rw [trim_no hp] at b2
  have hu : utfB (a ++ 60 :: 99 :: 47 :: 62 :: b) = true := by
    rw [utfB_append _ a1, show (60 :: 99 :: 47 :: 62 :: b : List UInt8) = [60, 99, 47, 62] ++ b from rfl, utfB_append b (by decide)]
    exact b1
  have hy : rToksL (b.length + 2) (60 :: 99 :: 47 :: 62 :: b) = some (cTok :: lb) := by
    have e : ∀ n, rToksL (n + 1) (60 :: 99 :: 47 :: 62 :: b) = (rToksL n b).map (cTok :: ·) := fun n => by
      rw [rToksL, rTok_c]; rfl
    rw [show b.length + 2 = (b.length + 1) + 1 from rfl, e, b2]
    rfl
  have hz := rToksL_ext _ _ _ hy _ _ _ a2
  have hfin := rToksL_mono _ _ _ hz ((Lib.trimPrefix a prologL ++ 60 :: 99 :: 47 :: 62 :: b).length + 1) (by simp; omega)
  rw [← toks_eq]
  unfold rToks
  rw [if_neg (by simp; omega), hu, strip_ext]
  simp only [Bool.not_true, Bool.false_eq_true, if_false]
  rw [hfin]
end Go.Ab.Sz
