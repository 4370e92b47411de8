/-
  The reference's tokens are the program's: a plain law.
-/
import Derived.Test.YtpejbkckppnamaaGreatDoorRef
import Derived.Laws.Cover4
import Derived.Test.YtpejbkckppnamaaGreatDoorAbB
set_option linter.all false
set_option linter.unusedVariables false
set_option linter.unusedSimpArgs false
namespace Go.Ab.Sz
open Go Go.Ab Go.Proofs Go.RowKit
set_option maxRecDepth 100000
section
variable {m : Int} {σ : St} {K : AV → St → Prop}
end
end Go.Ab.Sz
namespace Go.Ab.Sz
open Go Go.Ab Go.Proofs Go.RowKit
set_option maxRecDepth 40000
set_option linter.unusedSimpArgs false
section
variable {m : Int} {σ : St} {K : AV → St → Prop}
/-- Is it a name? -/
def nameB (s : List UInt8) : Bool := s.all withins.contains && (s != [] && firsts.contains (s.getD 0 0))
end
end Go.Ab.Sz
namespace Go.Ab.Sz
open Go Go.Ab Go.Proofs Go.RowKit
set_option maxRecDepth 40000
set_option linter.unusedSimpArgs false
section
variable {m : Int} {σ : St} {K : AV → St → Prop}
end
end Go.Ab.Sz
namespace Go.Ab.Sz
open Go Go.Ab Go.Proofs Go.RowKit
set_option maxRecDepth 40000
set_option linter.unusedSimpArgs false
section
variable {m : Int} {σ : St} {K : AV → St → Prop}
end
end Go.Ab.Sz
namespace Go.Ab.Sz
open Go Go.Ab Go.Proofs Go.RowKit
set_option maxRecDepth 40000
set_option linter.unusedSimpArgs false
/- The value, sign by sign. -/
end Go.Ab.Sz
namespace Go.Ab.Sz
open Go Go.Ab Go.Proofs Go.RowKit
set_option maxRecDepth 40000
set_option linter.unusedSimpArgs false
theorem takeWhile_at {p : UInt8 → Bool} {a t : List UInt8} {c : UInt8} (h : ∀ x ∈ a, p x = true) (hc : p c = false) : (a ++ c :: t).takeWhile p = a := by
  induction a with
  | nil => simp [hc]
  | cons b a ih =>
    have hb := h b (by simp)
    have := ih fun x hx => h x (by simp [hx])
    simp only [List.cons_append, List.takeWhile_cons, hb, if_true, this]
theorem takeWhile_all {p : UInt8 → Bool} {a : List UInt8} (h : ∀ x ∈ a, p x = true) : a.takeWhile p = a := by
  induction a with
  | nil => rfl
  | cons b a ih =>
    have hb := h b (by simp)
    have := ih fun x hx => h x (by simp [hx])
    simp only [List.takeWhile_cons, hb, if_true, this]
section
variable {m : Int} {σ : St} {K : AV → St → Prop}
end
end Go.Ab.Sz
namespace Go.Ab.Sz
open Go Go.Ab Go.Proofs Go.RowKit
set_option maxRecDepth 40000
set_option linter.unusedSimpArgs false
section
variable {m : Int} {σ : St} {K : AV → St → Prop}
/-- The name that was taken. -/
def nameR (w : List UInt8) : List UInt8 := if nameB w then w else []
end
end Go.Ab.Sz
namespace Go.Ab.Sz
open Go Go.Ab Go.Proofs Go.RowKit
set_option maxRecDepth 40000
set_option linter.unusedSimpArgs false
def rQ1 (q : UInt8) (r : List UInt8) : Option (List UInt8 × List UInt8) :=
  if (r.takeWhile (· != q)).contains 60 then none else match r.dropWhile (· != q) with
    | [] => none
    | _ :: t => some (r.takeWhile (· != q), t)
theorem rQ1_bad {q : UInt8} {r : List UInt8} (h : (r.takeWhile (· != q)).contains 60 = true) : rQ1 q r = none := if_pos h
theorem rQ1_nil {q : UInt8} {r : List UInt8} (h : (r.takeWhile (· != q)).contains 60 = false) (h2 : r.dropWhile (· != q) = []) : rQ1 q r = none := by
  unfold rQ1; rw [if_neg (by rw [h]; decide), h2]
theorem rQ1_cons {q x : UInt8} {r t : List UInt8} (h : (r.takeWhile (· != q)).contains 60 = false) (h2 : r.dropWhile (· != q) = x :: t) : rQ1 q r = some (r.takeWhile (· != q), t) := by
  unfold rQ1; rw [if_neg (by rw [h]; decide), h2]
def rQuote : List UInt8 → Option (List UInt8 × List UInt8)
  | [] => none
  | q :: r => if q == 34 || q == 39 then rQ1 q r else none
theorem rQuote_cons {q : UInt8} (r : List UInt8) (h : (q == 34 || q == 39) = true) : rQuote (q :: r) = rQ1 q r := if_pos h
def rA2 (r : List UInt8) : List UInt8 := (r.dropWhile withins.contains).dropWhile blanksL.contains
def rA4 (r : List UInt8) : List UInt8 := ((rA2 r).drop 1).dropWhile blanksL.contains
def rNm (r : List UInt8) : List UInt8 := nameR (r.takeWhile withins.contains)
/-- An attribute: its name, its value, what is left; none: none that may be. -/
def rAttr (al : List (List UInt8 × List UInt8)) (r : List UInt8) : Option (List UInt8 × (List UInt8 × Bool) × List UInt8) :=
  if al.any (fun x => x.1 == rNm r) then none else if rNm r == [] || !Lib.hasPrefix (rA2 r) [61] then none else (rQuote (rA4 r)).map fun x => (rNm r, valS x.1, x.2)
section
variable {m : Int} {σ : St} {K : AV → St → Prop}
end
end Go.Ab.Sz
namespace Go.Ab.Sz
open Go Go.Ab Go.Proofs Go.RowKit
set_option maxRecDepth 40000
set_option linter.unusedSimpArgs false
theorem pre_cell {s : List UInt8} {c : UInt8} (h : Lib.hasPrefix s [c] = true) : s = c :: s.drop 1 := by
  cases s with
  | nil => cases h
  | cons a r =>
    rw [pre_cons, pre_nil, Bool.and_true, beq_iff_eq] at h
    subst h; rfl
section
variable {m : Int} {σ : St} {K : AV → St → Prop}
end
end Go.Ab.Sz
namespace Go.Ab.Sz
open Go Go.Ab Go.Proofs Go.RowKit
set_option maxRecDepth 40000
set_option linter.unusedSimpArgs false
/-- The rest of a beginning: its attributes, whether it is an empty one, what is left; none: it is none. -/
def rOpenL : Nat → List UInt8 → List (List UInt8 × List UInt8) → Option (List (List UInt8 × List UInt8) × Bool × List UInt8)
  | 0, _, _ => none
  | n + 1, s, al =>
    if Lib.hasPrefix (s.dropWhile blanksL.contains) [47, 62] then some (al, true, (s.dropWhile blanksL.contains).drop 2)
    else if Lib.hasPrefix (s.dropWhile blanksL.contains) [62] then some (al, false, (s.dropWhile blanksL.contains).drop 1)
    else if s.takeWhile blanksL.contains == [] then none
    else match rAttr al (s.dropWhile blanksL.contains) with
      | none => none
      | some x => if x.2.1.2 then rOpenL n x.2.2 (al ++ [(x.1, x.2.1.1)]) else none
def rOpen (r : List UInt8) : Option (Tok × List UInt8) :=
  if rNm r == [] then none else (rOpenL ((r.dropWhile withins.contains).length + 1) (r.dropWhile withins.contains) []).map fun x => (⟨1, rNm r, [], x.1, x.2.1⟩, x.2.2)
theorem rQ1_len {q : UInt8} {r v t : List UInt8} (h : rQ1 q r = some (v, t)) : t.length < r.length := by
  unfold rQ1 at h
  split at h
  · cases h
  · split at h
    · cases h
    · rename_i hd
      cases h
      have := (List.dropWhile_suffix (l := r) (· != q)).length_le
      rw [hd] at this
      simp only [List.length_cons] at this
      omega
theorem rAttr_len {al : List (List UInt8 × List UInt8)} {r n : List UInt8} {v : List UInt8 × Bool} {t : List UInt8} (h : rAttr al r = some (n, v, t)) : t.length < r.length := by
  have h2 : (rA2 r).length ≤ r.length := Nat.le_trans (dropWhile_len _ _) (dropWhile_len _ _)
  have h4 : (rA4 r).length ≤ (rA2 r).length := Nat.le_trans (dropWhile_len _ _) (by simp)
  unfold rAttr at h
  split at h
  · cases h
  · split at h
    · cases h
    · revert h
      cases hr4 : rA4 r with
      | nil => intro h; cases h
      | cons q r5 =>
        rw [hr4] at h4
        simp only [List.length_cons] at h4
        intro h
        simp only [rQuote] at h
        split at h
        · cases hq : rQ1 q r5 with
          | none => rw [hq] at h; cases h
          | some x =>
            rw [hq] at h
            have := rQ1_len (v := x.1) (t := x.2) hq
            simp only [Option.map_some, Option.some.injEq, Prod.mk.injEq] at h
            rw [← h.2.2]; omega
        · cases h
section
variable {m : Int} {σ : St} {K : AV → St → Prop}
end
end Go.Ab.Sz
namespace Go.Ab.Sz
open Go Go.Ab Go.Proofs Go.RowKit
set_option maxRecDepth 40000
set_option linter.unusedSimpArgs false
def rTok (r : List UInt8) : Option (Tok × List UInt8) :=
  if Lib.hasPrefix r [60, 47] then if rNm (r.drop 2) == [] || !Lib.hasPrefix (rA2 (r.drop 2)) [62] then none else some (⟨2, rNm (r.drop 2), [], [], false⟩, (rA2 (r.drop 2)).drop 1)
  else if Lib.hasPrefix r [60] then rOpen (r.drop 1)
  else if (valS (r.takeWhile (· != 60))).2 then some (⟨3, [], (valS (r.takeWhile (· != 60))).1, [], false⟩, r.dropWhile (· != 60)) else none
def rToksL : Nat → List UInt8 → Option (List Tok)
  | 0, _ => none
  | n + 1, s => if s == [] then some [] else match rTok s with
    | none => none
    | some x => (rToksL n x.2).map (x.1 :: ·)
def rToks (s : List UInt8) : List Tok × Int :=
  if 4096 < s.length then ([], 4) else if !utfB s then ([], 7) else match rToksL ((Lib.trimPrefix s prologL).length + 1) (Lib.trimPrefix s prologL) with
    | some l => (l, 0)
    | none => ([], 9)
theorem rA2_len (r : List UInt8) : (rA2 r).length ≤ r.length := Nat.le_trans (dropWhile_len _ _) (dropWhile_len _ _)
theorem rOpenL_len : ∀ (n : Nat) (r : List UInt8) (al l : List (List UInt8 × List UInt8)) (em : Bool) (t : List UInt8), rOpenL n r al = some (l, em, t) → t.length ≤ r.length
  | 0, r, al, l, em, t, h => by cases h
  | n + 1, r, al, l, em, t, h => by
    have d1 := dropWhile_len blanksL.contains r
    simp only [rOpenL] at h
    split at h
    · cases h; simp; omega
    · split at h
      · cases h; simp; omega
      · split at h
        · cases h
        · split at h
          · cases h
          · rename_i x hx
            have := rAttr_len (n := x.1) (v := x.2.1) (t := x.2.2) hx
            split at h
            · have := rOpenL_len n _ _ _ _ _ h
              omega
            · cases h
theorem rOpen_len {r t : List UInt8} {k : Tok} (h : rOpen r = some (k, t)) : t.length ≤ r.length := by
  unfold rOpen at h
  split at h
  · cases h
  · cases hq : rOpenL ((r.dropWhile withins.contains).length + 1) (r.dropWhile withins.contains) [] with
    | none => rw [hq] at h; cases h
    | some x =>
      rw [hq] at h
      have := rOpenL_len _ _ _ x.1 x.2.1 x.2.2 hq
      have d1 := dropWhile_len withins.contains r
      simp only [Option.map_some, Option.some.injEq, Prod.mk.injEq] at h
      rw [← h.2]; omega
theorem rTok_len {r t : List UInt8} {k : Tok} (hr : r ≠ []) (h : rTok r = some (k, t)) : t.length < r.length := by
  unfold rTok at h
  split at h
  · rename_i h1
    have := hasPrefix_len h1
    have := rA2_len (r.drop 2)
    simp only [List.length_cons, List.length_nil, List.length_drop] at *
    split at h
    · cases h
    · cases h; simp only [List.length_drop] at *; omega
  · split at h
    · rename_i h1
      have := hasPrefix_len h1
      have := rOpen_len h
      simp only [List.length_cons, List.length_nil, List.length_drop] at *
      omega
    · rename_i h1
      split at h
      · cases h
        cases r with
        | nil => exact absurd rfl hr
        | cons c r =>
          have hc : c ≠ 60 := fun e => h1 (by rw [e, pre_cons, pre_nil]; rfl)
          rw [List.dropWhile_cons, if_pos (by simpa using hc)]
          have := dropWhile_len (· != 60) r
          simp only [List.length_cons]; omega
      · cases h
section
variable {m : Int} {σ : St} {K : AV → St → Prop}
end
end Go.Ab.Sz
namespace Go.Ab.Sz
open Go Go.Ab Go.Proofs Go.RowKit
set_option maxRecDepth 40000
set_option linter.unusedSimpArgs false
section
variable {m : Int} {σ : St} {K : AV → St → Prop}
end
end Go.Ab.Sz
namespace Go.Ab.Sz
open Go Go.Ab Go.Proofs Go.RowKit
set_option maxRecDepth 40000
theorem firsts_in : ∀ c ∈ firsts, withins.contains c = true := by decide
theorem takeWhile_allp (p : UInt8 → Bool) : ∀ l : List UInt8, (l.takeWhile p).all p = true
  | [] => rfl
  | c :: l => by
    rw [List.takeWhile_cons]
    split
    · rename_i h; rw [List.all_cons, h, takeWhile_allp p l]; rfl
    · rfl
theorem nameB_tw (r : List UInt8) : nameB (r.takeWhile withins.contains) = (r.takeWhile withins.contains != [] && firsts.contains ((r.takeWhile withins.contains).getD 0 0)) := by
  unfold nameB; rw [takeWhile_allp, Bool.true_and]
theorem nameS_cons (c : UInt8) (t : List UInt8) : nameS (c :: t) = if firsts.contains c then ((c :: t).takeWhile withins.contains, (c :: t).dropWhile withins.contains) else ([], c :: t) := by
  unfold nameS
  rw [show (c :: t == []) = false from rfl, Bool.false_or, show (c :: t).take 1 = [c] from rfl, contains_iff]
  cases q : firsts.contains c with
  | true =>
    have : c ∈ firsts := by simpa using q
    rw [decide_eq_true this]; rfl
  | false =>
    have : c ∉ firsts := by simpa using q
    rw [decide_eq_false this]; rfl
theorem nm_eq (r : List UInt8) : (nameS r).1 = rNm r ∧ ((rNm r == []) = false → (nameS r).2 = r.dropWhile withins.contains) := by
  cases r with
  | nil => exact ⟨rfl, fun h => by cases h⟩
  | cons c t =>
    rw [nameS_cons]
    unfold rNm nameR
    rw [nameB_tw, List.takeWhile_cons]
    cases q : firsts.contains c with
    | true =>
      have hw := firsts_in c (by simpa using q)
      rw [hw]
      simp only [if_true, List.getD_cons_zero, q, Bool.and_true, show (c :: t.takeWhile withins.contains != []) = true from rfl]
      exact ⟨trivial, fun _ => trivial⟩
    | false =>
      cases hw : withins.contains c with
      | false =>
        simp only [Bool.false_eq_true, if_false, show (([] : List UInt8) != []) = false from rfl, Bool.false_and]
        exact ⟨trivial, fun h => by cases h⟩
      | true =>
        simp only [if_true, List.getD_cons_zero, q, Bool.and_false, Bool.false_eq_true, if_false]
        exact ⟨trivial, fun h => by cases h⟩
theorem dropWhile_at {p : UInt8 → Bool} {a t : List UInt8} {c : UInt8} (h : ∀ x ∈ a, p x = true) (hc : p c = false) : (a ++ c :: t).dropWhile p = c :: t := by
  induction a with
  | nil => simp [hc]
  | cons b a ih =>
    have hb := h b (by simp)
    have := ih fun x hx => h x (by simp [hx])
    simp only [List.cons_append, List.dropWhile_cons, hb, if_true, this]
theorem quoted1_eq (q : UInt8) (r : List UInt8) (hq : q ≠ 60) : (rQ1 q r).bind (fun x => if (valS x.1).2 then some ((valS x.1).1, x.2) else none) = if (quoted1 (q :: r) [q]).2.1 then some ((quoted1 (q :: r) [q]).1, (quoted1 (q :: r) [q]).2.2) else none := by
  unfold quoted1
  rw [show Lib.trimPrefix (q :: r) [q] = r from trim_self [q] r]
  by_cases hm : q ∈ r
  · obtain ⟨a, t, rfl, ha⟩ := split_mem hm
    have hne : ∀ x ∈ a, (x != q) = true := fun x hx => by simp; exact fun h => ha (h ▸ hx)
    rw [cut_at t ha, contains_iff]
    simp only [Bool.true_and]
    by_cases h6 : (60 : UInt8) ∈ a
    · rw [rQ1_bad (by rw [takeWhile_at hne (by simp)]; simpa using h6), decide_eq_true h6]
      simp
    · rw [rQ1_cons (t := t) (x := q) (by rw [takeWhile_at hne (by simp)]; simpa using h6) (dropWhile_at hne (by simp)), takeWhile_at hne (by simp), decide_eq_false h6]
      simp
  · have hne : ∀ x ∈ r, (x != q) = true := fun x hx => by simp; exact fun h => hm (h ▸ hx)
    rw [cut_none hm]
    simp only [Bool.false_and, Bool.false_eq_true, if_false]
    cases h6 : (r.takeWhile (· != q)).contains 60 with
    | true => rw [rQ1_bad h6]; rfl
    | false => rw [rQ1_nil h6 (dropWhile_all _ _ hne)]; rfl
theorem quoted_eq (s : List UInt8) : (rQuote s).bind (fun x => if (valS x.1).2 then some ((valS x.1).1, x.2) else none) = if (quotedS s).2.1 then some ((quotedS s).1, (quotedS s).2.2) else none := by
  cases s with
  | nil => rfl
  | cons q r =>
    by_cases h1 : q = 34
    · subst h1
      rw [rQuote_cons r rfl, quoted1_eq 34 r (by decide)]
      rw [show quotedS (34 :: r) = quoted1 (34 :: r) [34] from rfl]
    · by_cases h2 : q = 39
      · subst h2
        rw [rQuote_cons r rfl, quoted1_eq 39 r (by decide)]
        rw [show quotedS (39 :: r) = quoted1 (39 :: r) [39] from rfl]
      · have e1 : ((34 : UInt8) == q) = false := by rw [beq_eq_false_iff_ne]; exact fun h => h1 h.symm
        have e2 : ((39 : UInt8) == q) = false := by rw [beq_eq_false_iff_ne]; exact fun h => h2 h.symm
        have e3 : (q == 34 || q == 39) = false := by
          rw [show (q == 34) = false by rw [beq_eq_false_iff_ne]; exact h1, show (q == 39) = false by rw [beq_eq_false_iff_ne]; exact h2]; rfl
        have e4 : quotedS (q :: r) = ([], false, q :: r) := by
          unfold quotedS
          rw [pre_cons, pre_nil, pre_cons, e1, e2]; rfl
        rw [e4, show rQuote (q :: r) = none by simp only [rQuote, e3]; rfl]
        rfl
theorem trim_drop {s p : List UInt8} (h : Lib.hasPrefix s p = true) : Lib.trimPrefix s p = s.drop p.length := by unfold Lib.trimPrefix; rw [if_pos h]
theorem attr_eq2 (al : List (List UInt8 × List UInt8)) (r : List UInt8) : (rAttr al r).bind (fun x => if x.2.1.2 then some (x.1, x.2.1.1, x.2.2) else none) = if (attrS r).2.2.1 && !(al.any fun x => x.1 == (attrS r).1) then some ((attrS r).1, (attrS r).2.1, (attrS r).2.2.2) else none := by
  obtain ⟨n1, n2⟩ := nm_eq r
  unfold rAttr attrS
  rw [n1]
  cases g1 : (rNm r == []) with
  | true =>
    simp only [if_true, Bool.true_or, Bool.false_and, Bool.false_eq_true, if_false]
    split <;> rfl
  | false =>
    have a2 : attr2 r = rA2 r := by unfold attr2 rA2; rw [n2 g1]
    rw [a2]
    cases g2 : Lib.hasPrefix (rA2 r) [61] with
    | false =>
      simp only [Bool.false_or, Bool.not_false, if_true, Bool.false_eq_true, if_false, Bool.false_and]
      split <;> rfl
    | true =>
      have a4 : attr4 r = rA4 r := by unfold attr4 rA4; rw [a2, trim_drop g2]; rfl
      rw [a4]
      simp only [Bool.not_true, Bool.or_false, Bool.false_eq_true, if_false]
      have hq := quoted_eq (rA4 r)
      cases g3 : al.any (fun x => x.1 == rNm r) with
      | true => simp only [if_true, Bool.not_true, Bool.and_false, Bool.false_eq_true, if_false]; rfl
      | false =>
        simp only [Bool.false_eq_true, if_false, Bool.not_false, Bool.and_true]
        generalize quotedS (rA4 r) = w at *
        cases hr : rQuote (rA4 r) with
        | none =>
          rw [hr] at hq
          cases hw : w.2.1 with
          | false => rfl
          | true => rw [hw] at hq; cases hq
        | some x =>
          rw [hr] at hq
          simp only [Option.map_some, Option.bind_some] at hq ⊢
          cases hv : (valS x.1).2 with
          | false =>
            rw [hv] at hq
            cases hw : w.2.1 with
            | false => rfl
            | true => rw [hw] at hq; cases hq
          | true =>
            rw [hv] at hq
            cases hw : w.2.1 with
            | false => rw [hw] at hq; cases hq
            | true =>
              rw [hw] at hq
              simp only [if_true, Option.some.injEq, Prod.mk.injEq] at hq ⊢
              exact ⟨trivial, hq.1, hq.2⟩
theorem openL_eq : ∀ (n : Nat) (r : List UInt8) (al : List (List UInt8 × List UInt8)), rOpenL n r al = if (openL n r al).2.2.1 then some ((openL n r al).1, (openL n r al).2.1, (openL n r al).2.2.2) else none
  | 0, r, al => rfl
  | n + 1, r, al => by
    have ha := attr_eq2 al (r.dropWhile blanksL.contains)
    cases g1 : Lib.hasPrefix (r.dropWhile blanksL.contains) [62] with
    | true =>
      have g2 : Lib.hasPrefix (r.dropWhile blanksL.contains) [47, 62] = false := by
        rw [pre_cell g1, pre_cons]; rfl
      have e1 : rOpenL (n + 1) r al = some (al, false, (r.dropWhile blanksL.contains).drop 1) := by simp only [rOpenL, g1, g2]; rfl
      have e2 : openL (n + 1) r al = (al, false, true, (r.dropWhile blanksL.contains).drop 1) := by simp only [openL, g1, g2, trim_drop g1]; rfl
      rw [e1, e2]; rfl
    | false =>
      cases g2 : Lib.hasPrefix (r.dropWhile blanksL.contains) [47, 62] with
      | true =>
        have e1 : rOpenL (n + 1) r al = some (al, true, (r.dropWhile blanksL.contains).drop 2) := by simp only [rOpenL, g1, g2]; rfl
        have e2 : openL (n + 1) r al = (al, true, true, (r.dropWhile blanksL.contains).drop 2) := by simp only [openL, g1, g2, trim_drop g2]; rfl
        rw [e1, e2]; rfl
      | false =>
        cases g3 : (r.takeWhile blanksL.contains == []) with
        | true =>
          have e1 : rOpenL (n + 1) r al = none := by simp only [rOpenL, g1, g2, g3]; rfl
          have e2 : openL (n + 1) r al = (al, false, false, (attrS (r.dropWhile blanksL.contains)).2.2.2) := by simp only [openL, g1, g2, g3]; rfl
          rw [e1, e2]; rfl
        | false =>
          have e1 : rOpenL (n + 1) r al = match rAttr al (r.dropWhile blanksL.contains) with
            | none => none
            | some x => if x.2.1.2 then rOpenL n x.2.2 (al ++ [(x.1, x.2.1.1)]) else none := by simp only [rOpenL, g1, g2, g3]; rfl
          cases g4 : ((attrS (r.dropWhile blanksL.contains)).2.2.1 && !(al.any fun x => x.1 == (attrS (r.dropWhile blanksL.contains)).1)) with
          | true =>
            rw [g4] at ha
            obtain ⟨h1, h2⟩ := Bool.and_eq_true_iff.1 g4
            have h3 : (al.any fun x => x.1 == (attrS (r.dropWhile blanksL.contains)).1) = false := by simpa using h2
            have e2 : openL (n + 1) r al = openL n (attrS (r.dropWhile blanksL.contains)).2.2.2 (al ++ [((attrS (r.dropWhile blanksL.contains)).1, (attrS (r.dropWhile blanksL.contains)).2.1)]) := by simp only [openL, g1, g2, g3, h1, h3]; rfl
            rw [e1, e2]
            cases hr : rAttr al (r.dropWhile blanksL.contains) with
            | none => rw [hr] at ha; cases ha
            | some x =>
              rw [hr] at ha
              simp only [Option.bind_some, if_true] at ha
              cases hx : x.2.1.2 with
              | false => rw [hx] at ha; cases ha
              | true =>
                rw [hx] at ha
                simp only [if_true, Option.some.injEq, Prod.mk.injEq] at ha
                simp only [hx, if_true]
                rw [ha.1, ha.2.1, ha.2.2]
                exact openL_eq n _ _
          | false =>
            rw [g4] at ha
            have h3 : (!(attrS (r.dropWhile blanksL.contains)).2.2.1 || (al.any fun x => x.1 == (attrS (r.dropWhile blanksL.contains)).1)) = true := by
              cases h1 : (attrS (r.dropWhile blanksL.contains)).2.2.1 with
              | false => rfl
              | true => rw [h1, Bool.true_and] at g4; simpa using g4
            have e2 : openL (n + 1) r al = (al, false, false, (attrS (r.dropWhile blanksL.contains)).2.2.2) := by
              simp only [openL, g1, g2, g3, Bool.false_or, h3]; rfl
            rw [e1, e2]
            cases hr : rAttr al (r.dropWhile blanksL.contains) with
            | none => rfl
            | some x =>
              rw [hr] at ha
              simp only [Option.bind_some] at ha
              cases hx : x.2.1.2 with
              | false => simp only [hx, Bool.false_eq_true, if_false]
              | true => rw [hx] at ha; cases ha
theorem plain_split (r : List UInt8) : r.take (plainN r) = r.takeWhile (· != 60) ∧ r.drop (plainN r) = r.dropWhile (· != 60) := by
  unfold plainN
  by_cases hm : (60 : UInt8) ∈ r
  · obtain ⟨a, t, rfl, ha⟩ := split_mem hm
    have hne : ∀ x ∈ a, (x != 60) = true := fun x hx => by simp; exact fun h => ha (h ▸ hx)
    rw [ib_at t ha, if_neg (by omega), takeWhile_at hne (by simp), dropWhile_at hne (by simp)]
    simp
  · have hne : ∀ x ∈ r, (x != 60) = true := fun x hx => by simp; exact fun h => hm (h ▸ hx)
    rw [ib_none hm, if_pos (by decide), takeWhile_all hne, dropWhile_all _ _ hne]
    simp
theorem tok_eq (r : List UInt8) : rTok r = if (tokS r).2.1 then some ((tokS r).1, (tokS r).2.2) else none := by
  unfold rTok tokS
  cases g1 : Lib.hasPrefix r [60, 47] with
  | true =>
    simp only [if_true]
    rw [trim_drop g1]
    obtain ⟨n1, n2⟩ := nm_eq (r.drop 2)
    show _ = if (endS (r.drop 2)).2.1 then _ else _
    unfold endS
    rw [n1]
    show _ = if (if _ then _ else _ : Tok × Bool × List UInt8).2.1 = true then some ((endS (r.drop 2)).1, (endS (r.drop 2)).2.2) else none
    unfold endS
    rw [n1]
    cases g2 : (rNm (r.drop 2) == []) with
    | true => rfl
    | false =>
      simp only [Bool.false_eq_true, if_false, Bool.false_or]
      rw [n2 g2, show ((r.drop 2).dropWhile withins.contains).dropWhile blanksL.contains = rA2 (r.drop 2) from rfl]
      cases g3 : Lib.hasPrefix (rA2 (r.drop 2)) [62] with
      | true => rw [trim_drop g3]; rfl
      | false => rfl
  | false =>
    simp only [Bool.false_eq_true, if_false]
    cases g2 : Lib.hasPrefix r [60] with
    | true =>
      simp only [if_true]
      rw [trim_drop g2]
      obtain ⟨n1, n2⟩ := nm_eq (r.drop 1)
      show rOpen (r.drop 1) = if (openS (r.drop 1)).2.1 then some ((openS (r.drop 1)).1, (openS (r.drop 1)).2.2) else none
      unfold rOpen openS
      rw [n1]
      cases g3 : (rNm (r.drop 1) == []) with
      | true => rfl
      | false =>
        simp only [Bool.false_eq_true, if_false]
        rw [n2 g3, openL_eq]
        cases (openL (((r.drop 1).dropWhile withins.contains).length + 1) ((r.drop 1).dropWhile withins.contains) []).2.2.1 <;> rfl
    | false =>
      simp only [Bool.false_eq_true, if_false]
      obtain ⟨p1, p2⟩ := plain_split r
      unfold plainS
      rw [p1, p2]
theorem tokN_eq : ∀ (n : Nat) (s : List UInt8), rToksL n s = tokN n s
  | 0, _ => rfl
  | n + 1, s => by
    simp only [rToksL, tokN]
    rw [tok_eq]
    split
    · rfl
    · cases g : (tokS s).2.1 with
      | false => rfl
      | true => simp only [if_true]; rw [tokN_eq n]
/-- The reference tells what the program tells. -/
theorem toks_eq (s : List UInt8) : rToks s = toksS s := by
  unfold rToks toksS
  rw [utf8S_B, tokN_eq]
  rfl
end Go.Ab.Sz
