/- Part of this work: see the text that closes the claim. -/
import Derived.Test.YtpejbkckppnamaaDoorSdValid
set_option linter.all false
set_option linter.unusedVariables false
set_option linter.unusedSimpArgs false
namespace Go.Ab.Sd
open Go Go.Ab Go.Proofs Go.RowKit
set_option maxRecDepth 40000
set_option linter.unusedSimpArgs false
section
variable {m : Int} {σ : St} {K : AV → St → Prop}
def tens : List UInt8 := [48, 49, 50, 51, 52, 53, 54, 55, 56, 57]
def hexes : List UInt8 := [48, 49, 50, 51, 52, 53, 54, 55, 56, 57, 97, 98, 99, 100, 101, 102, 65, 66, 67, 68, 69, 70]
theorem tens_dgt : ∀ x ∈ tens, isDgt 10 x := by unfold isDgt; decide
theorem hexes_dgt : ∀ x ∈ hexes, isDgt 16 x := by unfold isDgt; decide
theorem dropWhile_nil {p : UInt8 → Bool} : ∀ {l : List UInt8}, l.dropWhile p = [] → ∀ x ∈ l, p x = true
  | [], _, x, hx => by simp at hx
  | a :: l, h, x, hx => by
    rw [List.dropWhile_cons] at h
    split at h
    · rename_i ha
      rcases List.mem_cons.1 hx with rfl | hx
      · exact ha
      · exact dropWhile_nil h x hx
    · cases h
theorem all_of_cut {set s : List UInt8} (h : cutR set (s.dropWhile set.contains) = []) : ∀ x ∈ s, x ∈ set := by
  have hnil : s.dropWhile set.contains = [] := by
    cases hd : s.dropWhile set.contains with
    | nil => rfl
    | cons a l =>
      exfalso
      have ha : set.contains a = false := by
        have := List.head?_dropWhile_not set.contains s
        rw [hd] at this
        simpa using this
      rw [hd, cutR] at h
      have h2 : (a :: l).reverse.dropWhile set.contains = [] := by simpa using h
      have := dropWhile_nil h2 a (by simp)
      rw [this] at ha; cases ha
  intro x hx
  simpa using dropWhile_nil hnil x hx
/-- The character of digits; none: of none. -/
def numberS (set : List UInt8) (most B : Nat) (s : List UInt8) : List UInt8 :=
  if s == [] || decide (most < s.length) || !(cutR set (s.dropWhile set.contains) == []) then [] else
  if decide (1114111 < digitsV B s) || !Lib.validRune (digitsV B s) then [] else
  if utf8S (Utf8.encode (digitsV B s)).data.toList then (Utf8.encode (digitsV B s)).data.toList else []
theorem encode_len (r : Int) : (Utf8.encode r).data.toList.length ≤ 4 := by
  unfold Utf8.encode
  simp only
  repeat' split
  all_goals simp
set_option maxHeartbeats 1000000 in
theorem number_c (set : List UInt8) (most B : Nat) (hB : B = 10 ∨ B = 16) (hm : most ≤ 7) (hset : ∀ x ∈ set, x.toNat < 128) (hdg : ∀ x ∈ set, isDgt B x) (s : List UInt8) (hs : s.length < 9223372036854775807) (h : K (.str (numberS set most B s)) σ) :
    ACalls Tryd.prog (gD m) 59 [.str s, .str set, .int .i64 most, .int .i64 B] σ K := by
  refine ACalls_fn tok fm (fk59 _) ?_
  simp only [c59, walkAll, walkL, E, Nat.reduceEqDiff, ↓reduceIte]
  refine brG_split (fun hb => ?_) (fun hb => ?_)
  · simp only [Bool.not_eq_true'] at hb
    simp only [hb, walkAll, walkL, E, Nat.reduceEqDiff, ↓reduceIte]
    refine brG_split (fun hc => ?_) (fun hc => ?_)
    · simp only [Bool.not_eq_true'] at hc
      simp only [hb, hc, walkAll, walkL, E, Nat.reduceEqDiff, ↓reduceIte]
      refine cutLeft_c s set (by omega) hset ?_
      simp only [hb, hc, walkAll, walkL, E, Nat.reduceEqDiff, ↓reduceIte]
      refine cutRight_c _ set (by have := dropWhile_le set.contains s; omega) hset ?_
      simp only [hb, hc, walkAll, walkL, E, Nat.reduceEqDiff, ↓reduceIte]
      have hlen : s.length ≤ most := by simpa using hc
      have hc' : decide (most < s.length) = false := by simpa using hlen
      refine brC_split (fun hd => ?_) (fun hd => ?_)
      · simp only [walkAll, walkL, E, Nat.reduceEqDiff, ↓reduceIte]
        have e : numberS set most B s = [] := by unfold numberS; rw [if_pos (by rw [hd, Bool.or_true])]
        rw [e] at h; exact h
      · have hall := all_of_cut (set := set) (s := s) (by simpa using hd)
        have h0 : s ≠ [] := by intro e; rw [e] at hb; cases hb
        simp only [walkAll, walkL, E, Nat.reduceEqDiff, ↓reduceIte]
        refine ParseUint_c B hB s h0 (by omega) (fun x hx => hdg x (hall x hx)) ?_
        simp only [walkAll, walkL, E, Nat.reduceEqDiff, ↓reduceIte]
        have e1 : numberS set most B s = if decide (1114111 < digitsV B s) || !Lib.validRune (digitsV B s) then [] else if utf8S (Utf8.encode (digitsV B s)).data.toList then (Utf8.encode (digitsV B s)).data.toList else [] := by
          unfold numberS; rw [if_neg (by rw [hb, hc', hd]; decide)]
        refine brG_split (fun hf => ?_) (fun hf => ?_)
        · simp only [Bool.not_eq_true'] at hf
          have hv : digitsV B s ≤ 1114111 := by simp only [decide_eq_false_iff_not] at hf; omega
          have hf' : decide (1114111 < digitsV B s) = false := by simp only [decide_eq_false_iff_not]; omega
          have w : IntKind.i32.wrap ((digitsV B s : Nat) : Int) = (digitsV B s : Nat) := wrap_i32 _ (by omega) (by omega)
          simp only [hf, walkAll, walkL, E, Nat.reduceEqDiff, ↓reduceIte]
          rw [w]
          refine ValidRune_c ((digitsV B s : Nat) : Int) ?_
          simp only [hf, w, walkAll, walkL, E, Nat.reduceEqDiff, ↓reduceIte]
          cases hg : Lib.validRune ((digitsV B s : Nat) : Int) with
          | false =>
            simp only [hg, walkAll, walkL, E, Nat.reduceEqDiff, ↓reduceIte]
            rw [e1, if_pos (by rw [hg, Bool.not_false, Bool.or_true])] at h
            exact h
          | true =>
            simp only [hg, walkAll, walkL, E, Nat.reduceEqDiff, ↓reduceIte]
            rw [w]
            have hle := encode_len ((digitsV B s : Nat) : Int)
            refine Utf8_c (Utf8.encode ((digitsV B s : Nat) : Int)).data.toList (Nat.le_trans hle (by decide)) ?_
            rw [e1, if_neg (by rw [hf', hg]; decide)] at h
            cases hk : utf8S (Utf8.encode ((digitsV B s : Nat) : Int)).data.toList with
            | false =>
              simp only [hk, walkAll, walkL, E, Nat.reduceEqDiff, ↓reduceIte]
              rw [hk] at h
              exact h
            | true =>
              simp only [hk, w, walkAll, walkL, E, Nat.reduceEqDiff, ↓reduceIte]
              rw [hk] at h
              exact h
        · simp only [Bool.not_eq_false'] at hf
          have hf' : decide (1114111 < digitsV B s) = true := by simp only [decide_eq_true_eq] at hf ⊢; omega
          simp only [hf, walkAll, walkL, E, Nat.reduceEqDiff, ↓reduceIte]
          try simp only [hf, walkAll, walkL, E, Nat.reduceEqDiff, ↓reduceIte]
          rw [e1, if_pos (by rw [hf', Bool.true_or])] at h
          exact h
    · simp only [Bool.not_eq_false'] at hc
      simp only [hb, hc, walkAll, walkL, E, Nat.reduceEqDiff, ↓reduceIte]
      have hc' : decide (most < s.length) = true := by simpa using hc
      have e : numberS set most B s = [] := by unfold numberS; rw [if_pos (by rw [hc']; simp)]
      rw [e] at h; exact h
  · simp only [Bool.not_eq_false'] at hb
    simp only [hb, walkAll, walkL, E, Nat.reduceEqDiff, ↓reduceIte]
    have e : numberS set most B s = [] := by unfold numberS; rw [if_pos (by rw [hb]; rfl)]
    rw [e] at h; exact h
end
end Go.Ab.Sd
