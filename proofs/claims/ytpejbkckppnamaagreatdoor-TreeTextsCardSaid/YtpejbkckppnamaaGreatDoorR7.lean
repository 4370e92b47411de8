/-
  The reference's tokens are the program's: a plain law.
-/
import Derived.Test.YtpejbkckppnamaaGreatDoorRef
import Derived.Laws.Cover4
import Derived.Test.YtpejbkckppnamaaGreatDoorAbB
set_option linter.all false
set_option linter.unusedVariables false
set_option linter.unusedSimpArgs false
namespace Go.Ab.Sz
open Go Go.Ab Go.Proofs Go.RowKit
set_option maxRecDepth 100000
section
variable {m : Int} {σ : St} {K : AV → St → Prop}
end
end Go.Ab.Sz
namespace Go.Ab.Sz
open Go Go.Ab Go.Proofs Go.RowKit
set_option maxRecDepth 40000
set_option linter.unusedSimpArgs false
section
variable {m : Int} {σ : St} {K : AV → St → Prop}
theorem all_u8 {p : UInt8 → Bool} (h : ∀ n, n < 256 → p (UInt8.ofNat n) = true) (c : UInt8) : p c = true := by
  have := h c.toNat c.toNat_lt
  simpa using this
theorem blank_key (c : UInt8) : blanksL.contains c = ((c.toNat : Int) == 9 || ((c.toNat : Int) == 10 || ((c.toNat : Int) == 13 || (c.toNat : Int) == 32))) := by
  have := all_u8 (p := fun c => blanksL.contains c == ((c.toNat : Int) == 9 || ((c.toNat : Int) == 10 || ((c.toNat : Int) == 13 || (c.toNat : Int) == 32)))) (by decide +kernel) c
  simpa using this
theorem blank_c (c : UInt8) (h : K (.bool (blanksL.contains c)) σ) : ACalls Tryz.prog (gD m) 41 [.int .u8 c.toNat] σ K := by
  rw [blank_key] at h
  refine ACalls_fn tok fm (fk41 _) ?_
  simp (disch := first | omega | (simp only [ln]; first | done | omega)) only [walkAll, walkL, walkK, wk, E, Nat.reduceEqDiff, Nat.reduceAdd, Nat.reduceSub, Nat.reduceLeDiff, Int.reduceLT, Int.reduceLE, Int.reduceAdd, Int.reduceSub, Int.reduceToNat, ↓reduceIte, c41]
  cases q1 : ((c.toNat : Int) == 9) <;> rw [q1] at h <;> simp (disch := first | omega | (simp only [ln]; first | done | omega)) only [walkAll, walkL, walkK, wk, E, Nat.reduceEqDiff, Nat.reduceAdd, Nat.reduceSub, Nat.reduceLeDiff, Int.reduceLT, Int.reduceLE, Int.reduceAdd, Int.reduceSub, Int.reduceToNat, ↓reduceIte]
  case true => exact h
  cases q2 : ((c.toNat : Int) == 10) <;> rw [q2] at h <;> simp (disch := first | omega | (simp only [ln]; first | done | omega)) only [walkAll, walkL, walkK, wk, E, Nat.reduceEqDiff, Nat.reduceAdd, Nat.reduceSub, Nat.reduceLeDiff, Int.reduceLT, Int.reduceLE, Int.reduceAdd, Int.reduceSub, Int.reduceToNat, ↓reduceIte]
  case true => exact h
  cases q3 : ((c.toNat : Int) == 13) <;> rw [q3] at h <;> simp (disch := first | omega | (simp only [ln]; first | done | omega)) only [walkAll, walkL, walkK, wk, E, Nat.reduceEqDiff, Nat.reduceAdd, Nat.reduceSub, Nat.reduceLeDiff, Int.reduceLT, Int.reduceLE, Int.reduceAdd, Int.reduceSub, Int.reduceToNat, ↓reduceIte]
  case true => exact h
  exact h
/-- Is it a name? -/
def nameB (s : List UInt8) : Bool := s.all withins.contains && (s != [] && firsts.contains (s.getD 0 0))
end
end Go.Ab.Sz
namespace Go.Ab.Sz
open Go Go.Ab Go.Proofs Go.RowKit
set_option maxRecDepth 40000
set_option linter.unusedSimpArgs false
section
variable {m : Int} {σ : St} {K : AV → St → Prop}
end
end Go.Ab.Sz
namespace Go.Ab.Sz
open Go Go.Ab Go.Proofs Go.RowKit
set_option maxRecDepth 40000
set_option linter.unusedSimpArgs false
section
variable {m : Int} {σ : St} {K : AV → St → Prop}
end
end Go.Ab.Sz
namespace Go.Ab.Sz
open Go Go.Ab Go.Proofs Go.RowKit
set_option maxRecDepth 40000
set_option linter.unusedSimpArgs false
/- The value, sign by sign. -/
end Go.Ab.Sz
namespace Go.Ab.Sz
open Go Go.Ab Go.Proofs Go.RowKit
set_option maxRecDepth 40000
set_option linter.unusedSimpArgs false
theorem takeWhile_at {p : UInt8 → Bool} {a t : List UInt8} {c : UInt8} (h : ∀ x ∈ a, p x = true) (hc : p c = false) : (a ++ c :: t).takeWhile p = a := by
  induction a with
  | nil => simp [hc]
  | cons b a ih =>
    have hb := h b (by simp)
    have := ih fun x hx => h x (by simp [hx])
    simp only [List.cons_append, List.takeWhile_cons, hb, if_true, this]
theorem takeWhile_all {p : UInt8 → Bool} {a : List UInt8} (h : ∀ x ∈ a, p x = true) : a.takeWhile p = a := by
  induction a with
  | nil => rfl
  | cons b a ih =>
    have hb := h b (by simp)
    have := ih fun x hx => h x (by simp [hx])
    simp only [List.takeWhile_cons, hb, if_true, this]
section
variable {m : Int} {σ : St} {K : AV → St → Prop}
end
end Go.Ab.Sz
namespace Go.Ab.Sz
open Go Go.Ab Go.Proofs Go.RowKit
set_option maxRecDepth 40000
set_option linter.unusedSimpArgs false
section
variable {m : Int} {σ : St} {K : AV → St → Prop}
/-- The name that was taken. -/
def nameR (w : List UInt8) : List UInt8 := if nameB w then w else []
end
end Go.Ab.Sz
namespace Go.Ab.Sz
open Go Go.Ab Go.Proofs Go.RowKit
set_option maxRecDepth 40000
set_option linter.unusedSimpArgs false
def rQ1 (q : UInt8) (r : List UInt8) : Option (List UInt8 × List UInt8) :=
  if (r.takeWhile (· != q)).contains 60 then none else match r.dropWhile (· != q) with
    | [] => none
    | _ :: t => some (r.takeWhile (· != q), t)
def rQuote : List UInt8 → Option (List UInt8 × List UInt8)
  | [] => none
  | q :: r => if q == 34 || q == 39 then rQ1 q r else none
def rA2 (r : List UInt8) : List UInt8 := (r.dropWhile withins.contains).dropWhile blanksL.contains
def rA4 (r : List UInt8) : List UInt8 := ((rA2 r).drop 1).dropWhile blanksL.contains
def rNm (r : List UInt8) : List UInt8 := nameR (r.takeWhile withins.contains)
/-- An attribute: its name, its value, what is left; none: none that may be. -/
def rAttr (al : List (List UInt8 × List UInt8)) (r : List UInt8) : Option (List UInt8 × (List UInt8 × Bool) × List UInt8) :=
  if al.any (fun x => x.1 == rNm r) then none else if rNm r == [] || !Lib.hasPrefix (rA2 r) [61] then none else (rQuote (rA4 r)).map fun x => (rNm r, valS x.1, x.2)
section
variable {m : Int} {σ : St} {K : AV → St → Prop}
end
end Go.Ab.Sz
namespace Go.Ab.Sz
open Go Go.Ab Go.Proofs Go.RowKit
set_option maxRecDepth 40000
set_option linter.unusedSimpArgs false
section
variable {m : Int} {σ : St} {K : AV → St → Prop}
end
end Go.Ab.Sz
namespace Go.Ab.Sz
open Go Go.Ab Go.Proofs Go.RowKit
set_option maxRecDepth 40000
set_option linter.unusedSimpArgs false
/-- The rest of a beginning: its attributes, whether it is an empty one, what is left; none: it is none. -/
def rOpenL : Nat → List UInt8 → List (List UInt8 × List UInt8) → Option (List (List UInt8 × List UInt8) × Bool × List UInt8)
  | 0, _, _ => none
  | n + 1, s, al =>
    if Lib.hasPrefix (s.dropWhile blanksL.contains) [47, 62] then some (al, true, (s.dropWhile blanksL.contains).drop 2)
    else if Lib.hasPrefix (s.dropWhile blanksL.contains) [62] then some (al, false, (s.dropWhile blanksL.contains).drop 1)
    else if s.takeWhile blanksL.contains == [] then none
    else match rAttr al (s.dropWhile blanksL.contains) with
      | none => none
      | some x => if x.2.1.2 then rOpenL n x.2.2 (al ++ [(x.1, x.2.1.1)]) else none
def rOpen (r : List UInt8) : Option (Tok × List UInt8) :=
  if rNm r == [] then none else (rOpenL ((r.dropWhile withins.contains).length + 1) (r.dropWhile withins.contains) []).map fun x => (⟨1, rNm r, [], x.1, x.2.1⟩, x.2.2)
theorem rQ1_len {q : UInt8} {r v t : List UInt8} (h : rQ1 q r = some (v, t)) : t.length < r.length := by
  unfold rQ1 at h
  split at h
  · cases h
  · split at h
    · cases h
    · rename_i hd
      cases h
      have := (List.dropWhile_suffix (l := r) (· != q)).length_le
      rw [hd] at this
      simp only [List.length_cons] at this
      omega
theorem rAttr_len {al : List (List UInt8 × List UInt8)} {r n : List UInt8} {v : List UInt8 × Bool} {t : List UInt8} (h : rAttr al r = some (n, v, t)) : t.length < r.length := by
  have h2 : (rA2 r).length ≤ r.length := Nat.le_trans (dropWhile_len _ _) (dropWhile_len _ _)
  have h4 : (rA4 r).length ≤ (rA2 r).length := Nat.le_trans (dropWhile_len _ _) (by simp)
  unfold rAttr at h
  split at h
  · cases h
  · split at h
    · cases h
    · revert h
      cases hr4 : rA4 r with
      | nil => intro h; cases h
      | cons q r5 =>
        rw [hr4] at h4
        simp only [List.length_cons] at h4
        intro h
        simp only [rQuote] at h
        split at h
        · cases hq : rQ1 q r5 with
          | none => rw [hq] at h; cases h
          | some x =>
            rw [hq] at h
            have := rQ1_len (v := x.1) (t := x.2) hq
            simp only [Option.map_some, Option.some.injEq, Prod.mk.injEq] at h
            rw [← h.2.2]; omega
        · cases h
section
variable {m : Int} {σ : St} {K : AV → St → Prop}
end
end Go.Ab.Sz
namespace Go.Ab.Sz
open Go Go.Ab Go.Proofs Go.RowKit
set_option maxRecDepth 40000
set_option linter.unusedSimpArgs false
def rTok (r : List UInt8) : Option (Tok × List UInt8) :=
  if Lib.hasPrefix r [60, 47] then if rNm (r.drop 2) == [] || !Lib.hasPrefix (rA2 (r.drop 2)) [62] then none else some (⟨2, rNm (r.drop 2), [], [], false⟩, (rA2 (r.drop 2)).drop 1)
  else if Lib.hasPrefix r [60] then rOpen (r.drop 1)
  else if (valS (r.takeWhile (· != 60))).2 then some (⟨3, [], (valS (r.takeWhile (· != 60))).1, [], false⟩, r.dropWhile (· != 60)) else none
def rToksL : Nat → List UInt8 → Option (List Tok)
  | 0, _ => none
  | n + 1, s => if s == [] then some [] else match rTok s with
    | none => none
    | some x => (rToksL n x.2).map (x.1 :: ·)
theorem rA2_len (r : List UInt8) : (rA2 r).length ≤ r.length := Nat.le_trans (dropWhile_len _ _) (dropWhile_len _ _)
theorem rOpenL_len : ∀ (n : Nat) (r : List UInt8) (al l : List (List UInt8 × List UInt8)) (em : Bool) (t : List UInt8), rOpenL n r al = some (l, em, t) → t.length ≤ r.length
  | 0, r, al, l, em, t, h => by cases h
  | n + 1, r, al, l, em, t, h => by
    have d1 := dropWhile_len blanksL.contains r
    simp only [rOpenL] at h
    split at h
    · cases h; simp; omega
    · split at h
      · cases h; simp; omega
      · split at h
        · cases h
        · split at h
          · cases h
          · rename_i x hx
            have := rAttr_len (n := x.1) (v := x.2.1) (t := x.2.2) hx
            split at h
            · have := rOpenL_len n _ _ _ _ _ h
              omega
            · cases h
theorem rOpen_len {r t : List UInt8} {k : Tok} (h : rOpen r = some (k, t)) : t.length ≤ r.length := by
  unfold rOpen at h
  split at h
  · cases h
  · cases hq : rOpenL ((r.dropWhile withins.contains).length + 1) (r.dropWhile withins.contains) [] with
    | none => rw [hq] at h; cases h
    | some x =>
      rw [hq] at h
      have := rOpenL_len _ _ _ x.1 x.2.1 x.2.2 hq
      have d1 := dropWhile_len withins.contains r
      simp only [Option.map_some, Option.some.injEq, Prod.mk.injEq] at h
      rw [← h.2]; omega
theorem rTok_len {r t : List UInt8} {k : Tok} (hr : r ≠ []) (h : rTok r = some (k, t)) : t.length < r.length := by
  unfold rTok at h
  split at h
  · rename_i h1
    have := hasPrefix_len h1
    have := rA2_len (r.drop 2)
    simp only [List.length_cons, List.length_nil, List.length_drop] at *
    split at h
    · cases h
    · cases h; simp only [List.length_drop] at *; omega
  · split at h
    · rename_i h1
      have := hasPrefix_len h1
      have := rOpen_len h
      simp only [List.length_cons, List.length_nil, List.length_drop] at *
      omega
    · rename_i h1
      split at h
      · cases h
        cases r with
        | nil => exact absurd rfl hr
        | cons c r =>
          have hc : c ≠ 60 := fun e => h1 (by rw [e, pre_cons, pre_nil]; rfl)
          rw [List.dropWhile_cons, if_pos (by simpa using hc)]
          have := dropWhile_len (· != 60) r
          simp only [List.length_cons]; omega
      · cases h
section
variable {m : Int} {σ : St} {K : AV → St → Prop}
end
end Go.Ab.Sz
namespace Go.Ab.Sz
open Go Go.Ab Go.Proofs Go.RowKit
set_option maxRecDepth 40000
set_option linter.unusedSimpArgs false
section
variable {m : Int} {σ : St} {K : AV → St → Prop}
end
end Go.Ab.Sz
namespace Go.Ab.Sz
open Go Go.Ab Go.Proofs Go.RowKit
set_option maxRecDepth 40000
theorem dropWhile_at {p : UInt8 → Bool} {a t : List UInt8} {c : UInt8} (h : ∀ x ∈ a, p x = true) (hc : p c = false) : (a ++ c :: t).dropWhile p = c :: t := by
  induction a with
  | nil => simp [hc]
  | cons b a ih =>
    have hb := h b (by simp)
    have := ih fun x hx => h x (by simp [hx])
    simp only [List.cons_append, List.dropWhile_cons, hb, if_true, this]
end Go.Ab.Sz
namespace Go.Ab.Sz
open Go Go.Ab Go.Proofs Go.RowKit
set_option maxRecDepth 40000
theorem rToksL_mono : ∀ (n : Nat) (s : List UInt8) (l : List Tok), rToksL n s = some l → ∀ m, n ≤ m → rToksL m s = some l
  | 0, _, _, h, _, _ => by cases h
  | n + 1, s, l, h, 0, hm => by omega
  | n + 1, s, l, h, m + 1, hm => by
    simp only [rToksL] at h ⊢
    split at h
    · rename_i g; rw [if_pos g]; exact h
    · rename_i g
      rw [if_neg g]
      split at h
      · cases h
      · rename_i x hx
        cases hq : rToksL n x.2 with
        | none => rw [hq] at h; cases h
        | some l' =>
          rw [hq] at h
          have := rToksL_mono n _ _ hq m (by omega)
          simp only [this]
          exact h
end Go.Ab.Sz
