/-
  Texts of characters that may be: plain laws.
-/
import Derived.Test.YtpejbkckppnamaaGreatDoorTok
import Derived.Lib.MapLaws
import Derived.Lib.ValidU
import Derived.Lib.TrimAscii
import Derived.Shelf.GgClosure.StringsIndexFunc
import Derived.Lib.IndexMore
import Derived.Lib.Strings
import Derived.Lib.Bytealg
set_option linter.all false
set_option linter.unusedVariables false
set_option linter.unusedSimpArgs false
namespace Go.Ab.Sz
open Go Go.Ab Go.Proofs Go.RowKit
set_option maxRecDepth 100000
section
variable {m : Int} {σ : St} {K : AV → St → Prop}
theorem tok_len (l : List Tok) : ∀ e ∈ l.map Tok.c, e.length = 5 := fun e he => by
  obtain ⟨a, _, rfl⟩ := List.mem_map.1 he; rfl
end
end Go.Ab.Sz
namespace Go.Ab.Sz
open Go Go.Ab Go.Proofs Go.RowKit
set_option maxRecDepth 40000
set_option linter.unusedSimpArgs false
section
variable {m : Int} {σ : St} {K : AV → St → Prop}
end
end Go.Ab.Sz
namespace Go.Ab
open Go Go.Lib

def mayN (r : Nat) : Bool := r == 9 || r == 10 || r == 13 || (decide (32 ≤ r) && r != 65534 && r != 65535)
/-- The character at the head is one, and may be. -/
def chOk (l : List UInt8) : Bool := !(decide ((decodeL l).1 = 65533 ∧ (decodeL l).2 = 1)) && mayN (decodeL l).1
def utfF : Nat → List UInt8 → Bool
  | 0, l => l == []
  | n + 1, l => l == [] || (chOk l && utfF n (l.drop (decodeL l).2))
def utfB (l : List UInt8) : Bool := utfF l.length l
theorem utfF_fuel : ∀ (n m : Nat) (l : List UInt8), l.length ≤ n → l.length ≤ m → utfF n l = utfF m l
  | 0, 0, l, _, _ => rfl
  | 0, m + 1, l, hn, _ => by
    have : l = [] := List.eq_nil_of_length_eq_zero (by omega)
    subst this; rfl
  | n + 1, 0, l, _, hm => by
    have : l = [] := List.eq_nil_of_length_eq_zero (by omega)
    subst this; rfl
  | n + 1, m + 1, l, hn, hm => by
    simp only [utfF]
    by_cases h : l = []
    · subst h; rfl
    · have hw := decodeL_width l
      rw [utfF_fuel n m _ (by simp; omega) (by simp; omega)]
theorem utfB_step {l : List UInt8} (h : l ≠ []) : utfB l = (chOk l && utfB (l.drop (decodeL l).2)) := by
  unfold utfB
  cases l with
  | nil => exact absurd rfl h
  | cons a t =>
    have hw := decodeL_width (a :: t)
    simp only [List.length_cons, utfF]
    rw [utfF_fuel t.length _ ((a :: t).drop (decodeL (a :: t)).2) (by simp; omega) (Nat.le_refl _)]
    simp
theorem getD_app (l r : List UInt8) (k : Nat) (h : k < l.length) : (l ++ r).getD k 0 = l.getD k 0 := by
  simp [List.getD_eq_getElem?_getD, List.getElem?_append_left h]
set_option maxRecDepth 100000 in
theorem decodeL_app {l : List UInt8} (r : List UInt8) (hne : l ≠ []) (hv : ¬ ((decodeL l).1 = 65533 ∧ (decodeL l).2 = 1)) : decodeL (l ++ r) = decodeL l := by
  have hl : 0 < l.length := List.length_pos_iff.2 hne
  rw [decodeL_N] at hv
  rw [decodeL_N, decodeL_N, getD_app l r 0 hl]
  rcases decodeN_shape l.length (l.getD 0 0).toNat (l.getD 1 0).toNat (l.getD 2 0).toNat (l.getD 3 0).toNat with ⟨c, e⟩ | ⟨c1, c2, c3, cv, e⟩ | ⟨c1, c2, c3, c4, cv, cs, e⟩ | ⟨c1, c2, c3, c4, c5, cv, cw, e⟩ | e
  · rw [e]; unfold decodeN; rw [if_pos c]
  · rw [e, getD_app l r 1 c2]
    unfold decodeN
    rw [List.length_append]
    repeat' split
    all_goals first | (exfalso; omega) | rfl
  · rw [e, getD_app l r 1 (by omega), getD_app l r 2 (by omega)]
    unfold decodeN
    rw [List.length_append]
    repeat' split
    all_goals first | (exfalso; omega) | rfl
  · rw [e, getD_app l r 1 (by omega), getD_app l r 2 (by omega), getD_app l r 3 (by omega)]
    unfold decodeN
    rw [List.length_append]
    repeat' split
    all_goals first | (exfalso; omega) | rfl
  · rw [e] at hv; exact absurd ⟨rfl, rfl⟩ hv
theorem chOk_app {l : List UInt8} (r : List UInt8) (hne : l ≠ []) (h : chOk l = true) : decodeL (l ++ r) = decodeL l ∧ chOk (l ++ r) = true := by
  have hv : ¬ ((decodeL l).1 = 65533 ∧ (decodeL l).2 = 1) := by
    simp only [chOk, Bool.and_eq_true, Bool.not_eq_true', decide_eq_false_iff_not] at h; exact h.1
  have e := decodeL_app r hne hv
  exact ⟨e, by unfold chOk at *; rw [e]; exact h⟩
theorem utfB_app : ∀ (n : Nat) (a b : List UInt8), a.length ≤ n → utfB a = true → utfB (a ++ b) = utfB b
  | 0, a, b, hn, _ => by
    have : a = [] := List.eq_nil_of_length_eq_zero (by omega)
    subst this; rfl
  | n + 1, a, b, hn, h => by
    by_cases hne : a = []
    · subst hne; rfl
    · rw [utfB_step hne, Bool.and_eq_true] at h
      have hw := decodeL_width a
      have hle := decodeL_le a hne
      obtain ⟨e1, e2⟩ := chOk_app b hne h.1
      rw [utfB_step (by simp [hne]), e1, e2, Bool.true_and, List.drop_append_of_le_length hle]
      exact utfB_app n _ b (by simp; omega) h.2
theorem utfB_append {a : List UInt8} (b : List UInt8) (h : utfB a = true) : utfB (a ++ b) = utfB b := utfB_app _ a b (Nat.le_refl _) h
/-- It is what the library tells. -/
theorem idx_utf (s : List UInt8) : ∀ (n f pos : Nat), (s.drop pos).length ≤ n → (s.drop pos).length ≤ f → validGoD n (s.drop pos) = true →
    decide (idxFuncFrom (fun x => !mayN x) true ⟨s.toArray⟩ f pos < 0) = utfF n (s.drop pos)
  | n, 0, pos, hn, hf, hv => by
    have : s.drop pos = [] := List.eq_nil_of_length_eq_zero (by omega)
    rw [this]
    cases n <;> simp [idxFuncFrom, utfF]
  | 0, f + 1, pos, hn, hf, hv => by
    have : s.drop pos = [] := List.eq_nil_of_length_eq_zero (by omega)
    rw [this]
    have hp : ¬ pos < (⟨s.toArray⟩ : ByteArray).size := by simp at this; show ¬ pos < s.toArray.size; simp; omega
    rw [idxFuncFrom_end _ _ _ _ _ hp]
    simp [utfF]
  | n + 1, f + 1, pos, hn, hf, hv => by
    by_cases hnil : s.drop pos = []
    · rw [hnil]
      have hp : ¬ pos < (⟨s.toArray⟩ : ByteArray).size := by simp at hnil; show ¬ pos < s.toArray.size; simp; omega
      rw [idxFuncFrom_end _ _ _ _ _ hp]
      simp [utfF]
    · have hlen : pos < s.length := by
        rcases Nat.lt_or_ge pos s.length with h | h
        · exact h
        · exact absurd (List.drop_of_length_le h) hnil
      have hp : pos < (⟨s.toArray⟩ : ByteArray).size := by show pos < s.toArray.size; simpa using hlen
      have hd : Utf8.decode ⟨s.toArray⟩ pos = decodeL (s.drop pos) := by rw [← decodeL_drop]
      have hw := decodeL_width (s.drop pos)
      simp only [validGoD, if_neg hnil] at hv
      split at hv
      · cases hv
      · rename_i hg
        unfold idxFuncFrom
        rw [if_pos hp, hd]
        simp only [utfF, chOk]
        rw [show (decide ((decodeL (s.drop pos)).1 = 65533 ∧ (decodeL (s.drop pos)).2 = 1)) = false from decide_eq_false hg]
        have hne : (s.drop pos == []) = false := by simpa using hnil
        rw [hne, Bool.false_or, Bool.not_false, Bool.true_and]
        cases hm : mayN (decodeL (s.drop pos)).1 with
        | false => simp
        | true =>
          simp only [Bool.not_true, Bool.false_eq_true, if_false, Bool.true_and]
          have e : (s.drop pos).drop (decodeL (s.drop pos)).2 = s.drop (pos + (decodeL (s.drop pos)).2) := by rw [List.drop_drop]
          rw [e] at hv ⊢
          exact idx_utf s n f _ (by simp at *; omega) (by simp at *; omega) hv
theorem valid_of_utf : ∀ (n : Nat) (l : List UInt8), l.length ≤ n → utfF n l = true → validGoD n l = true
  | 0, l, hn, _ => by
    have : l = [] := List.eq_nil_of_length_eq_zero (by omega)
    subst this; rfl
  | n + 1, l, hn, h => by
    simp only [validGoD]
    by_cases hne : l = []
    · rw [if_pos hne]
    · rw [if_neg hne]
      have hne' : (l == []) = false := by simpa using hne
      simp only [utfF, hne', Bool.false_or, chOk, Bool.and_eq_true, Bool.not_eq_true', decide_eq_false_iff_not] at h
      rw [if_neg h.1.1]
      have hw := decodeL_width l
      exact valid_of_utf n _ (by simp; omega) h.2
theorem utf_lib (s : List UInt8) : (validD s && decide (idxFunc (fun x => !mayN x) true ⟨s.toArray⟩ < 0)) = utfB s := by
  have hsz : (⟨s.toArray⟩ : ByteArray).size = s.length := by show s.toArray.size = _; simp
  cases hv : validD s with
  | true =>
    rw [Bool.true_and]
    unfold idxFunc
    rw [hsz]
    have := idx_utf s s.length s.length 0 (by simp) (by simp) (by rw [List.drop_zero]; exact hv)
    simpa [utfB] using this
  | false =>
    rw [Bool.false_and]
    cases hu : utfB s with
    | false => rfl
    | true => rw [show validD s = true from valid_of_utf _ _ (Nat.le_refl _) hu] at hv; cases hv
end Go.Ab
namespace Go.Ab
open Go Go.Lib
end Go.Ab
namespace Go.Ab
open Go Go.Lib

theorem ib_none {b : UInt8} : ∀ {s : List UInt8}, b ∉ s → indexByte s b = -1
  | [], _ => rfl
  | a :: s, h => by
    simp only [List.mem_cons, not_or] at h
    unfold indexByte
    rw [if_neg (by simpa using fun e => h.1 e.symm), ib_none h.2]; rfl
theorem ib_at {b : UInt8} : ∀ {a : List UInt8} (r : List UInt8), b ∉ a → indexByte (a ++ b :: r) b = a.length
  | [], r, _ => by simp [indexByte]
  | c :: a, r, h => by
    simp only [List.mem_cons, not_or] at h
    rw [List.cons_append]
    unfold indexByte
    have hne : ((a.length : Int) == -1) = false := by rw [beq_eq_false_iff_ne]; omega
    rw [if_neg (by simpa using fun e => h.1 e.symm), ib_at r h.2, hne]
    simp
theorem index_ib (b : UInt8) : ∀ s : List UInt8, index s [b] = indexByte s b
  | [] => rfl
  | a :: s => by
    unfold index indexByte
    rw [index_ib b s]
    have : ([b].isPrefixOf (a :: s)) = (a == b) := by simp [List.isPrefixOf, Bool.beq_comm]
    rw [this]
theorem cut_none {b : UInt8} {s : List UInt8} (h : b ∉ s) : cut s [b] = (s, [], false) := by
  unfold cut; rw [index_ib, ib_none h, if_neg (by decide)]
theorem cut_at {b : UInt8} {a : List UInt8} (r : List UInt8) (h : b ∉ a) : cut (a ++ b :: r) [b] = (a, r, true) := by
  unfold cut
  rw [index_ib, ib_at r h, if_pos (by omega)]
  simp
theorem contains_none {b : UInt8} {s : List UInt8} (h : b ∉ s) : contains s [b] = false := by
  unfold contains; rw [index_ib, ib_none h]; rfl
theorem split_mem {b : UInt8} : ∀ {s : List UInt8}, b ∈ s → ∃ a r, s = a ++ b :: r ∧ b ∉ a
  | c :: s, h => by
    by_cases e : c = b
    · subst e; exact ⟨[], s, rfl, by simp⟩
    · obtain ⟨a, r, rfl, hn⟩ := split_mem (s := s) (by rcases List.mem_cons.1 h with h | h
                                                       · exact absurd h.symm e
                                                       · exact h)
      exact ⟨c :: a, r, rfl, by simp [hn]; exact fun h => e h.symm⟩
theorem contains_mem {b : UInt8} {s : List UInt8} (h : b ∈ s) : contains s [b] = true := by
  obtain ⟨a, r, rfl, hn⟩ := split_mem h
  unfold contains; rw [index_ib, ib_at r hn]; exact decide_eq_true (by omega)
theorem contains_iff (b : UInt8) (s : List UInt8) : contains s [b] = decide (b ∈ s) := by
  by_cases h : b ∈ s
  · rw [contains_mem h, decide_eq_true h]
  · rw [contains_none h, decide_eq_false h]
theorem pre_self (p r : List UInt8) : hasPrefix (p ++ r) p = true := by
  unfold hasPrefix; rw [List.isPrefixOf_iff_prefix]; exact List.prefix_append p r
theorem trim_self (p r : List UInt8) : trimPrefix (p ++ r) p = r := by
  unfold trimPrefix; rw [pre_self]; simp
theorem pre_cons (a b : UInt8) (s p : List UInt8) : hasPrefix (a :: s) (b :: p) = (b == a && hasPrefix s p) := rfl
theorem pre_nil (s : List UInt8) : hasPrefix s [] = true := by unfold hasPrefix; simp
theorem trim_no {s p : List UInt8} (h : hasPrefix s p = false) : trimPrefix s p = s := by unfold trimPrefix; rw [h]; rfl
/-! ### The bytes of a character -/
end Go.Ab
namespace Go.Ab.Sz
open Go Go.Ab Go.Proofs Go.RowKit
set_option maxRecDepth 40000
theorem mayS_N (r : Nat) : mayS (r : Int) = mayN r := by
  have h : ∀ k : Nat, (((r : Int) == (k : Int)) : Bool) = (r == k) := fun k => by rw [Bool.eq_iff_iff]; simp; omega
  have e : decide ((32 : Int) ≤ (r : Int)) = decide (32 ≤ r) := by rw [decide_eq_decide]; omega
  have a := h 9; have b := h 10; have c := h 13; have d := h 65534; have f := h 65535
  simp only [mayS, mayN, bne] at *
  rw [← a, ← b, ← c, ← d, ← f, ← e]
  rfl
theorem utf8S_B (s : List UInt8) : utf8S s = utfB s := by
  rw [← utf_lib s]
  unfold utf8S
  rw [show (fun x : Nat => !mayS (x : Int)) = (fun x => !mayN x) from funext fun x => by rw [mayS_N]]
theorem dropWhile_all (p : UInt8 → Bool) : ∀ (s : List UInt8), (∀ c ∈ s, p c = true) → s.dropWhile p = []
  | [], _ => rfl
  | c :: s, h => by rw [List.dropWhile_cons_of_pos (h c (by simp))]; exact dropWhile_all p s fun x hx => h x (by simp [hx])
/-- A sign of a number. -/
def hx (c : Nat) : UInt8 := if c < 10 then UInt8.ofNat (48 + c) else UInt8.ofNat (87 + c)
end Go.Ab.Sz
namespace Go.Ab.Sz
open Go Go.Ab Go.Proofs Go.RowKit Go.Lib
set_option maxRecDepth 40000
set_option linter.unusedSimpArgs false
section
variable {m : Int} {σ : St} {K : AV → St → Prop}
end
end Go.Ab.Sz
namespace Go.Ab.Sz
open Go Go.Ab Go.Proofs Go.RowKit Go.Lib
set_option maxRecDepth 100000
set_option linter.unusedSimpArgs false
section
variable {m : Int} {σ : St} {K : AV → St → Prop}
end
end Go.Ab.Sz
namespace Go.Ab.Sz
open Go Go.Ab Go.Proofs Go.RowKit
set_option maxRecDepth 40000
set_option linter.unusedSimpArgs false
section
variable {m : Int} {σ : St} {K : AV → St → Prop}
end
end Go.Ab.Sz
