/-
  Texts of characters that may be: plain laws.
-/
import Derived.Test.YtpejbkckppnamaaGreatDoorTok
import Derived.Lib.MapLaws
import Derived.Lib.ValidU
import Derived.Lib.TrimAscii
import Derived.Shelf.GgClosure.StringsIndexFunc
import Derived.Lib.IndexMore
import Derived.Lib.Strings
import Derived.Lib.Bytealg
set_option linter.all false
set_option linter.unusedVariables false
set_option linter.unusedSimpArgs false
namespace Go.Ab.Sz
open Go Go.Ab Go.Proofs Go.RowKit
set_option maxRecDepth 100000
set_option maxHeartbeats 1000000 in
theorem plainAttr_calls (a b : ByteArray) (w : World) :
    Calls Tryz.prog 59 #[.agg #[.string a, .string b], .agg #[.string a, .string b]] w fun e w' => e = .returned (.bool true) ∧ Below w.heap.size w w' := by
  go_enter Tryz.func59, Tryz.ntmps59
  go_wp2
  go_ret
  exact ⟨rfl, ((Below.refl _ _).alloc (Nat.le_refl _) _).alloc (by simp) _⟩
section
variable {m : Int} {σ : St} {K : AV → St → Prop}
theorem agg2_inv {C : Cz} {s t : List UInt8} {l : List AV} {vs : List Value} (h : RepL C (.agg [.str s, .str t] :: l) vs) : ∃ us, vs = .agg #[.string ⟨s.toArray⟩, .string ⟨t.toArray⟩] :: us ∧ RepL C l us := by
  cases h with
  | cons _ _ _ us h k =>
    cases h with
    | agg _ vs h =>
      have e := h.ss_inv
      subst e
      exact ⟨us, rfl, k⟩
theorem plainAttr1_c (s t : List UInt8) (h : K (.bool true) σ) : ACalls Tryz.prog (gD m) 59 [.agg [.str s, .str t], .agg [.str s, .str t]] σ K :=
  ACalls.of_calls Tryz.func59 rfl (by decide) (fun C w vs _ _ ha => by
    obtain ⟨us, e1, ha⟩ := agg2_inv ha
    obtain ⟨us', e2, ha⟩ := agg2_inv ha
    rw [e1, e2, ha.nil_inv]
    exact (plainAttr_calls _ _ w).mono fun e w' ⟨h1, h2⟩ => ⟨_, h1, .bool true, h2⟩) h
theorem sameAttr_loop (va vb : AV) (la lb : List (List AV)) (g : Nat) (ha : Rd 2 σ va la) (hb : Rd 2 σ vb lb) (hl : la.length = lb.length) (hlt : la.length < 9223372036854775807)
    (hone : ∀ (i : Nat) (c d : List AV), la[i]? = some c → lb[i]? = some d → ∀ K : AV → St → Prop, K (.bool true) σ → ACalls Tryz.prog (gD m) g [.agg c, .agg d] σ K) {Q : EQ} (hq : ∀ e', Q (.exit 0) e' σ) :
    ∀ (rest : List (List AV)) (i : Nat) (e : Env), la.drop i = rest → e 7 = some (.int .i64 i) → e 0 = some va → e 1 = some vb → e 2 = some (.fn (.func g) [] []) → LoopC Tryz.prog tt (gD m) l58_0 Q e σ := by
  intro rest
  induction rest with
  | nil =>
    intro i e hd h7 h0 h1 h2
    have hi : la.length ≤ i := by simpa using hd
    refine LoopC_unfold tok fm ?_
    have hb' : decide ((i : Int) < (la.length : Int)) = false := by simp; omega
    simp (disch := first | omega | (simp only [ln]; first | done | omega)) only [walkAll, walkL, walkK, wk, E, Nat.reduceEqDiff, Nat.reduceAdd, Nat.reduceSub, Nat.reduceLeDiff, Int.reduceLT, Int.reduceLE, Int.reduceAdd, Int.reduceSub, Int.reduceToNat, ↓reduceIte, l58_0x, l58_0b, h7, h0, ha.len, hb']
    exact hq _
  | cons c rest ih =>
    intro i e hd h7 h0 h1 h2
    obtain ⟨hc, hd'⟩ := drop_cons hd
    have hi := (List.getElem?_eq_some_iff.1 hc).1
    obtain ⟨d, hd2⟩ : ∃ d, lb[i]? = some d := ⟨lb[i], List.getElem?_eq_getElem (by omega)⟩
    obtain ⟨p, hp, hpt⟩ := ha.at hc .i64
    obtain ⟨q, hq', hqt⟩ := hb.at hd2 .i64
    have hl1 := hpt.all (ha.1 c (List.mem_of_getElem? hc))
    have hl2 := hqt.all (hb.1 d (List.mem_of_getElem? hd2))
    refine LoopC_unfold tok fm ?_
    have hb' : decide ((i : Int) < (la.length : Int)) = true := by simp; omega
    simp (disch := first | omega | (simp only [ln]; first | done | omega)) only [walkAll, walkL, walkK, wk, E, Nat.reduceEqDiff, Nat.reduceAdd, Nat.reduceSub, Nat.reduceLeDiff, Int.reduceLT, Int.reduceLE, Int.reduceAdd, Int.reduceSub, Int.reduceToNat, ↓reduceIte, l58_0x, l58_0b, h7, h0, h1, h2, ha.len, hb', hp, hq', hl1, hl2]
    refine hone i c d hc hd2 _ ?_
    simp (disch := first | omega | (simp only [ln]; first | done | omega)) only [walkAll, walkL, walkK, wk, E, Nat.reduceEqDiff, Nat.reduceAdd, Nat.reduceSub, Nat.reduceLeDiff, Int.reduceLT, Int.reduceLE, Int.reduceAdd, Int.reduceSub, Int.reduceToNat, ↓reduceIte, h7, h0, h1, h2, hp, hq', hl1, hl2]
    exact ih (i + 1) _ hd' (by simp [put]) (by simp [put, h0]) (by simp [put, h1]) (by simp [put, h2])
/-- Two lists that are alike, one by one. -/
theorem sameAttr_c (va vb : AV) (la lb : List (List AV)) (g : Nat) (ha : Rd 2 σ va la) (hb : Rd 2 σ vb lb) (hl : la.length = lb.length) (hlt : la.length < 9223372036854775807)
    (hone : ∀ (i : Nat) (c d : List AV), la[i]? = some c → lb[i]? = some d → ∀ K : AV → St → Prop, K (.bool true) σ → ACalls Tryz.prog (gD m) g [.agg c, .agg d] σ K) (h : K (.bool true) σ) :
    ACalls Tryz.prog (gD m) 58 [va, vb, .fn (.func g) [] []] σ K := by
  refine ACalls_fn tok fm (fk58 _) ?_
  have hne : ((la.length : Int) != (lb.length : Int)) = false := by simp [hl]
  simp (disch := first | omega | (simp only [ln]; first | done | omega)) only [walkAll, walkL, walkK, wk, E, Nat.reduceEqDiff, Nat.reduceAdd, Nat.reduceSub, Nat.reduceLeDiff, Int.reduceLT, Int.reduceLE, Int.reduceAdd, Int.reduceSub, Int.reduceToNat, ↓reduceIte, c58, ha.len, hb.len, hne]
  refine sameAttr_loop va vb la lb g ha hb hl hlt hone (fun e' => ?_) la 0 _ rfl (by simp [put]) (by simp [put, E]) (by simp [put, E]) (by simp [put, E])
  simp (disch := first | omega | (simp only [ln]; first | done | omega)) only [walkAll, walkL, walkK, wk, E, Nat.reduceEqDiff, Nat.reduceAdd, Nat.reduceSub, Nat.reduceLeDiff, Int.reduceLT, Int.reduceLE, Int.reduceAdd, Int.reduceSub, Int.reduceToNat, ↓reduceIte]
  exact h

theorem atc_len (l : List (List UInt8 × List UInt8)) : ∀ e ∈ l.map atc, e.length = 2 := fun e he => by
  obtain ⟨a, _, rfl⟩ := List.mem_map.1 he; rfl
theorem plainAttr_c (l : List (List UInt8 × List UInt8)) (hl : l.length < 9223372036854775807) (h : K (.bool true) σ) : ACalls Tryz.prog (gD m) 35 [lsv (l.map atc), lsv (l.map atc)] σ K := by
  refine ACalls_fn tok fm (fk35 _) ?_
  simp (disch := first | omega | (simp only [ln]; first | done | omega)) only [walkAll, walkL, walkK, wk, E, Nat.reduceEqDiff, Nat.reduceAdd, Nat.reduceSub, Nat.reduceLeDiff, Int.reduceLT, Int.reduceLE, Int.reduceAdd, Int.reduceSub, Int.reduceToNat, ↓reduceIte, c35]
  refine sameAttr_c _ _ _ _ _ (rd_lsv (atc_len l) σ) (rd_lsv (atc_len l) σ) rfl (by simpa using hl) (fun i c d hc hd K hK => ?_) ?_
  · rw [hc] at hd; cases hd
    obtain ⟨a, _, rfl⟩ := List.mem_map.1 (List.mem_of_getElem? hc)
    exact plainAttr1_c a.1 a.2 hK
  · simp (disch := first | omega | (simp only [ln]; first | done | omega)) only [walkAll, walkL, walkK, wk, E, Nat.reduceEqDiff, Nat.reduceAdd, Nat.reduceSub, Nat.reduceLeDiff, Int.reduceLT, Int.reduceLE, Int.reduceAdd, Int.reduceSub, Int.reduceToNat, ↓reduceIte]
    exact h
theorem tok_len (l : List Tok) : ∀ e ∈ l.map Tok.c, e.length = 5 := fun e he => by
  obtain ⟨a, _, rfl⟩ := List.mem_map.1 he; rfl
end
end Go.Ab.Sz
namespace Go.Ab.Sz
open Go Go.Ab Go.Proofs Go.RowKit
set_option maxRecDepth 40000
set_option linter.unusedSimpArgs false
section
variable {m : Int} {σ : St} {K : AV → St → Prop}
/-- May the character stand in a text? -/
def charB (c : Int) : Bool := c == 9 || (c == 10 || (c == 13 || ((decide (32 ≤ c) && decide (c < 55296)) || ((decide (57343 < c) && decide (c < 65534)) || (decide (65535 < c) && decide (c ≤ 1114111))))))
theorem Char_c (c : Int) (h : K (.bool (charB c)) σ) : ACalls Tryz.prog (gD m) 101 [.int .i64 c] σ K := by
  refine ACalls_fn tok fm (fk101 _) ?_
  simp (disch := first | omega | (simp only [ln]; first | done | omega)) only [walkAll, walkL, walkK, wk, E, Nat.reduceEqDiff, Nat.reduceAdd, Nat.reduceSub, Nat.reduceLeDiff, Int.reduceLT, Int.reduceLE, Int.reduceAdd, Int.reduceSub, Int.reduceToNat, ↓reduceIte, c101]
  have fin : ∀ b, b = charB c → K (.bool b) σ := fun b hb => by rw [hb]; exact h
  cases h1 : (c == 9)
  case true => simp (disch := first | omega | (simp only [ln]; first | done | omega)) only [walkAll, walkL, walkK, wk, E, Nat.reduceEqDiff, Nat.reduceAdd, Nat.reduceSub, Nat.reduceLeDiff, Int.reduceLT, Int.reduceLE, Int.reduceAdd, Int.reduceSub, Int.reduceToNat, ↓reduceIte]; exact fin _ (by simp [charB, h1])
  simp (disch := first | omega | (simp only [ln]; first | done | omega)) only [walkAll, walkL, walkK, wk, E, Nat.reduceEqDiff, Nat.reduceAdd, Nat.reduceSub, Nat.reduceLeDiff, Int.reduceLT, Int.reduceLE, Int.reduceAdd, Int.reduceSub, Int.reduceToNat, ↓reduceIte]
  cases h2 : (c == 10)
  case true => simp (disch := first | omega | (simp only [ln]; first | done | omega)) only [walkAll, walkL, walkK, wk, E, Nat.reduceEqDiff, Nat.reduceAdd, Nat.reduceSub, Nat.reduceLeDiff, Int.reduceLT, Int.reduceLE, Int.reduceAdd, Int.reduceSub, Int.reduceToNat, ↓reduceIte]; exact fin _ (by simp [charB, h1, h2])
  simp (disch := first | omega | (simp only [ln]; first | done | omega)) only [walkAll, walkL, walkK, wk, E, Nat.reduceEqDiff, Nat.reduceAdd, Nat.reduceSub, Nat.reduceLeDiff, Int.reduceLT, Int.reduceLE, Int.reduceAdd, Int.reduceSub, Int.reduceToNat, ↓reduceIte]
  cases h3 : (c == 13)
  case true => simp (disch := first | omega | (simp only [ln]; first | done | omega)) only [walkAll, walkL, walkK, wk, E, Nat.reduceEqDiff, Nat.reduceAdd, Nat.reduceSub, Nat.reduceLeDiff, Int.reduceLT, Int.reduceLE, Int.reduceAdd, Int.reduceSub, Int.reduceToNat, ↓reduceIte]; exact fin _ (by simp [charB, h1, h2, h3])
  simp (disch := first | omega | (simp only [ln]; first | done | omega)) only [walkAll, walkL, walkK, wk, E, Nat.reduceEqDiff, Nat.reduceAdd, Nat.reduceSub, Nat.reduceLeDiff, Int.reduceLT, Int.reduceLE, Int.reduceAdd, Int.reduceSub, Int.reduceToNat, ↓reduceIte]
  have key : charB c = ((decide (32 ≤ c) && decide (c < 55296)) || ((decide (57343 < c) && decide (c < 65534)) || (decide (65535 < c) && decide (c ≤ 1114111)))) := by simp only [charB, h1, h2, h3, Bool.false_or]
  rw [key] at fin
  have iv : c < 32 ∨ (32 ≤ c ∧ c < 55296) ∨ (55296 ≤ c ∧ c ≤ 57343) ∨ (57343 < c ∧ c < 65534) ∨ (65534 ≤ c ∧ c ≤ 65535) ∨ (65535 < c ∧ c ≤ 1114111) ∨ 1114111 < c := by omega
  rcases iv with i | i | i | i | i | i | i <;> (first | have h4 : decide (32 ≤ c) = true := decide_eq_true (by omega) | have h4 : decide (32 ≤ c) = false := decide_eq_false (by omega)) <;> (first | have h5 : decide (c < 55296) = true := decide_eq_true (by omega) | have h5 : decide (c < 55296) = false := decide_eq_false (by omega)) <;> (first | have h6 : decide (57343 < c) = true := decide_eq_true (by omega) | have h6 : decide (57343 < c) = false := decide_eq_false (by omega)) <;> (first | have h7 : decide (c < 65534) = true := decide_eq_true (by omega) | have h7 : decide (c < 65534) = false := decide_eq_false (by omega)) <;> (first | have h8 : decide (65535 < c) = true := decide_eq_true (by omega) | have h8 : decide (65535 < c) = false := decide_eq_false (by omega)) <;> (first | have h9 : decide (c ≤ 1114111) = true := decide_eq_true (by omega) | have h9 : decide (c ≤ 1114111) = false := decide_eq_false (by omega)) <;>
    simp (disch := first | omega | (simp only [ln]; first | done | omega)) only [walkAll, walkL, walkK, wk, E, Nat.reduceEqDiff, Nat.reduceAdd, Nat.reduceSub, Nat.reduceLeDiff, Int.reduceLT, Int.reduceLE, Int.reduceAdd, Int.reduceSub, Int.reduceToNat, ↓reduceIte, h4, h5, h6, h7, h8, h9] <;> exact fin _ (by simp only [h4, h5, h6, h7, h8, h9]; rfl)
theorem u8_eq (c : UInt8) (n : Nat) (hn : n < 256) : (((c.toNat : Nat) : Int) == (n : Int)) = decide (c = UInt8.ofNat n) := by
  rw [Bool.eq_iff_iff]
  simp only [beq_iff_eq, decide_eq_true_eq]
  constructor
  · intro h
    apply UInt8.toNat_inj.1
    rw [UInt8.toNat_ofNat', Nat.mod_eq_of_lt hn]; omega
  · rintro rfl
    rw [UInt8.toNat_ofNat', Nat.mod_eq_of_lt hn]
end
end Go.Ab.Sz
namespace Go.Ab
open Go Go.Lib

def mayN (r : Nat) : Bool := r == 9 || r == 10 || r == 13 || (decide (32 ≤ r) && r != 65534 && r != 65535)
/-- The character at the head is one, and may be. -/
def chOk (l : List UInt8) : Bool := !(decide ((decodeL l).1 = 65533 ∧ (decodeL l).2 = 1)) && mayN (decodeL l).1
def utfF : Nat → List UInt8 → Bool
  | 0, l => l == []
  | n + 1, l => l == [] || (chOk l && utfF n (l.drop (decodeL l).2))
def utfB (l : List UInt8) : Bool := utfF l.length l
theorem utfF_fuel : ∀ (n m : Nat) (l : List UInt8), l.length ≤ n → l.length ≤ m → utfF n l = utfF m l
  | 0, 0, l, _, _ => rfl
  | 0, m + 1, l, hn, _ => by
    have : l = [] := List.eq_nil_of_length_eq_zero (by omega)
    subst this; rfl
  | n + 1, 0, l, _, hm => by
    have : l = [] := List.eq_nil_of_length_eq_zero (by omega)
    subst this; rfl
  | n + 1, m + 1, l, hn, hm => by
    simp only [utfF]
    by_cases h : l = []
    · subst h; rfl
    · have hw := decodeL_width l
      rw [utfF_fuel n m _ (by simp; omega) (by simp; omega)]
theorem utfB_nil : utfB [] = true := rfl
theorem utfB_step {l : List UInt8} (h : l ≠ []) : utfB l = (chOk l && utfB (l.drop (decodeL l).2)) := by
  unfold utfB
  cases l with
  | nil => exact absurd rfl h
  | cons a t =>
    have hw := decodeL_width (a :: t)
    simp only [List.length_cons, utfF]
    rw [utfF_fuel t.length _ ((a :: t).drop (decodeL (a :: t)).2) (by simp; omega) (Nat.le_refl _)]
    simp
/-- It is what the library tells. -/
theorem idx_utf (s : List UInt8) : ∀ (n f pos : Nat), (s.drop pos).length ≤ n → (s.drop pos).length ≤ f → validGoD n (s.drop pos) = true →
    decide (idxFuncFrom (fun x => !mayN x) true ⟨s.toArray⟩ f pos < 0) = utfF n (s.drop pos)
  | n, 0, pos, hn, hf, hv => by
    have : s.drop pos = [] := List.eq_nil_of_length_eq_zero (by omega)
    rw [this]
    cases n <;> simp [idxFuncFrom, utfF]
  | 0, f + 1, pos, hn, hf, hv => by
    have : s.drop pos = [] := List.eq_nil_of_length_eq_zero (by omega)
    rw [this]
    have hp : ¬ pos < (⟨s.toArray⟩ : ByteArray).size := by simp at this; show ¬ pos < s.toArray.size; simp; omega
    rw [idxFuncFrom_end _ _ _ _ _ hp]
    simp [utfF]
  | n + 1, f + 1, pos, hn, hf, hv => by
    by_cases hnil : s.drop pos = []
    · rw [hnil]
      have hp : ¬ pos < (⟨s.toArray⟩ : ByteArray).size := by simp at hnil; show ¬ pos < s.toArray.size; simp; omega
      rw [idxFuncFrom_end _ _ _ _ _ hp]
      simp [utfF]
    · have hlen : pos < s.length := by
        rcases Nat.lt_or_ge pos s.length with h | h
        · exact h
        · exact absurd (List.drop_of_length_le h) hnil
      have hp : pos < (⟨s.toArray⟩ : ByteArray).size := by show pos < s.toArray.size; simpa using hlen
      have hd : Utf8.decode ⟨s.toArray⟩ pos = decodeL (s.drop pos) := by rw [← decodeL_drop]
      have hw := decodeL_width (s.drop pos)
      simp only [validGoD, if_neg hnil] at hv
      split at hv
      · cases hv
      · rename_i hg
        unfold idxFuncFrom
        rw [if_pos hp, hd]
        simp only [utfF, chOk]
        rw [show (decide ((decodeL (s.drop pos)).1 = 65533 ∧ (decodeL (s.drop pos)).2 = 1)) = false from decide_eq_false hg]
        have hne : (s.drop pos == []) = false := by simpa using hnil
        rw [hne, Bool.false_or, Bool.not_false, Bool.true_and]
        cases hm : mayN (decodeL (s.drop pos)).1 with
        | false => simp
        | true =>
          simp only [Bool.not_true, Bool.false_eq_true, if_false, Bool.true_and]
          have e : (s.drop pos).drop (decodeL (s.drop pos)).2 = s.drop (pos + (decodeL (s.drop pos)).2) := by rw [List.drop_drop]
          rw [e] at hv ⊢
          exact idx_utf s n f _ (by simp at *; omega) (by simp at *; omega) hv
theorem valid_of_utf : ∀ (n : Nat) (l : List UInt8), l.length ≤ n → utfF n l = true → validGoD n l = true
  | 0, l, hn, _ => by
    have : l = [] := List.eq_nil_of_length_eq_zero (by omega)
    subst this; rfl
  | n + 1, l, hn, h => by
    simp only [validGoD]
    by_cases hne : l = []
    · rw [if_pos hne]
    · rw [if_neg hne]
      have hne' : (l == []) = false := by simpa using hne
      simp only [utfF, hne', Bool.false_or, chOk, Bool.and_eq_true, Bool.not_eq_true', decide_eq_false_iff_not] at h
      rw [if_neg h.1.1]
      have hw := decodeL_width l
      exact valid_of_utf n _ (by simp; omega) h.2
theorem utf_lib (s : List UInt8) : (validD s && decide (idxFunc (fun x => !mayN x) true ⟨s.toArray⟩ < 0)) = utfB s := by
  have hsz : (⟨s.toArray⟩ : ByteArray).size = s.length := by show s.toArray.size = _; simp
  cases hv : validD s with
  | true =>
    rw [Bool.true_and]
    unfold idxFunc
    rw [hsz]
    have := idx_utf s s.length s.length 0 (by simp) (by simp) (by rw [List.drop_zero]; exact hv)
    simpa [utfB] using this
  | false =>
    rw [Bool.false_and]
    cases hu : utfB s with
    | false => rfl
    | true => rw [show validD s = true from valid_of_utf _ _ (Nat.le_refl _) hu] at hv; cases hv
end Go.Ab
namespace Go.Ab
open Go Go.Lib
end Go.Ab
namespace Go.Ab
open Go Go.Lib

theorem ib_none {b : UInt8} : ∀ {s : List UInt8}, b ∉ s → indexByte s b = -1
  | [], _ => rfl
  | a :: s, h => by
    simp only [List.mem_cons, not_or] at h
    unfold indexByte
    rw [if_neg (by simpa using fun e => h.1 e.symm), ib_none h.2]; rfl
theorem ib_at {b : UInt8} : ∀ {a : List UInt8} (r : List UInt8), b ∉ a → indexByte (a ++ b :: r) b = a.length
  | [], r, _ => by simp [indexByte]
  | c :: a, r, h => by
    simp only [List.mem_cons, not_or] at h
    rw [List.cons_append]
    unfold indexByte
    have hne : ((a.length : Int) == -1) = false := by rw [beq_eq_false_iff_ne]; omega
    rw [if_neg (by simpa using fun e => h.1 e.symm), ib_at r h.2, hne]
    simp
theorem index_ib (b : UInt8) : ∀ s : List UInt8, index s [b] = indexByte s b
  | [] => rfl
  | a :: s => by
    unfold index indexByte
    rw [index_ib b s]
    have : ([b].isPrefixOf (a :: s)) = (a == b) := by simp [List.isPrefixOf, Bool.beq_comm]
    rw [this]
theorem cut_none {b : UInt8} {s : List UInt8} (h : b ∉ s) : cut s [b] = (s, [], false) := by
  unfold cut; rw [index_ib, ib_none h, if_neg (by decide)]
theorem cut_at {b : UInt8} {a : List UInt8} (r : List UInt8) (h : b ∉ a) : cut (a ++ b :: r) [b] = (a, r, true) := by
  unfold cut
  rw [index_ib, ib_at r h, if_pos (by omega)]
  simp
theorem cut_cons (b : UInt8) (r : List UInt8) : cut (b :: r) [b] = ([], r, true) := cut_at (a := []) r (by simp)
theorem contains_none {b : UInt8} {s : List UInt8} (h : b ∉ s) : contains s [b] = false := by
  unfold contains; rw [index_ib, ib_none h]; rfl
theorem split_mem {b : UInt8} : ∀ {s : List UInt8}, b ∈ s → ∃ a r, s = a ++ b :: r ∧ b ∉ a
  | c :: s, h => by
    by_cases e : c = b
    · subst e; exact ⟨[], s, rfl, by simp⟩
    · obtain ⟨a, r, rfl, hn⟩ := split_mem (s := s) (by rcases List.mem_cons.1 h with h | h
                                                       · exact absurd h.symm e
                                                       · exact h)
      exact ⟨c :: a, r, rfl, by simp [hn]; exact fun h => e h.symm⟩
theorem contains_mem {b : UInt8} {s : List UInt8} (h : b ∈ s) : contains s [b] = true := by
  obtain ⟨a, r, rfl, hn⟩ := split_mem h
  unfold contains; rw [index_ib, ib_at r hn]; exact decide_eq_true (by omega)
theorem contains_iff (b : UInt8) (s : List UInt8) : contains s [b] = decide (b ∈ s) := by
  by_cases h : b ∈ s
  · rw [contains_mem h, decide_eq_true h]
  · rw [contains_none h, decide_eq_false h]
theorem pre_self (p r : List UInt8) : hasPrefix (p ++ r) p = true := by
  unfold hasPrefix; rw [List.isPrefixOf_iff_prefix]; exact List.prefix_append p r
theorem trim_self (p r : List UInt8) : trimPrefix (p ++ r) p = r := by
  unfold trimPrefix; rw [pre_self]; simp
theorem pre_cons (a b : UInt8) (s p : List UInt8) : hasPrefix (a :: s) (b :: p) = (b == a && hasPrefix s p) := rfl
theorem pre_nil (s : List UInt8) : hasPrefix s [] = true := by unfold hasPrefix; simp
theorem nil_pre (b : UInt8) (p : List UInt8) : hasPrefix [] (b :: p) = false := rfl
/-! ### The bytes of a character -/
theorem toB (n : Nat) (h : n < 256) : (UInt8.ofNat n).toNat = n := by rw [UInt8.toNat_ofNat']; exact Nat.mod_eq_of_lt h
theorem enc_eq (v : Nat) (h : v ≤ 1114111) (hs : ¬ (55296 ≤ v ∧ v < 57344)) : (Utf8.encode v).data.toList = if v < 128 then [UInt8.ofNat v] else if v < 2048 then [UInt8.ofNat (192 + v / 64), UInt8.ofNat (128 + v % 64)] else
    if v < 65536 then [UInt8.ofNat (224 + v / 4096), UInt8.ofNat (128 + v / 64 % 64), UInt8.ofNat (128 + v % 64)] else [UInt8.ofNat (240 + v / 262144), UInt8.ofNat (128 + v / 4096 % 64), UInt8.ofNat (128 + v / 64 % 64), UInt8.ofNat (128 + v % 64)] := by
  have hval : Utf8.valid (v : Int) = true := by
    unfold Utf8.valid
    simp
    omega
  have hv : ((v : Int)).toNat = v := by omega
  unfold Utf8.encode
  simp only [hval, if_true, hv]
  split
  · rfl
  · split
    · rfl
    · split <;> rfl
set_option maxRecDepth 100000 in
theorem decode_encode (v : Nat) (h : v ≤ 1114111) (hs : ¬ (55296 ≤ v ∧ v < 57344)) : decodeL (Utf8.encode v).data.toList = (v, (Utf8.encode v).data.toList.length) ∧ (Utf8.encode v).data.toList ≠ [] := by
  rw [enc_eq v h hs]
  split
  · refine ⟨?_, by simp⟩
    rw [decodeL_N]
    simp only [List.length_cons, List.length_nil, List.getD_cons_zero, List.getD_cons_succ, toB v (by omega)]
    unfold decodeN
    rw [if_pos (by omega)]
  · split
    · refine ⟨?_, by simp⟩
      rw [decodeL_N]
      simp only [List.length_cons, List.length_nil, List.getD_cons_zero, List.getD_cons_succ, toB (192 + v / 64) (by omega), toB (128 + v % 64) (by omega)]
      unfold decodeN
      rw [if_neg (by omega), if_pos (by omega), if_pos (by omega)]
      exact Prod.ext (by show _ = v; simp only; omega) rfl
    · split
      · refine ⟨?_, by simp⟩
        rw [decodeL_N]
        simp only [List.length_cons, List.length_nil, List.getD_cons_zero, List.getD_cons_succ, toB (224 + v / 4096) (by omega), toB (128 + v / 64 % 64) (by omega), toB (128 + v % 64) (by omega)]
        unfold decodeN
        rw [if_neg (by omega), if_neg (by omega), if_pos (by omega), if_pos (by omega)]
        exact Prod.ext (by show _ = v; simp only; omega) rfl
      · refine ⟨?_, by simp⟩
        rw [decodeL_N]
        simp only [List.length_cons, List.length_nil, List.getD_cons_zero, List.getD_cons_succ, toB (240 + v / 262144) (by omega), toB (128 + v / 4096 % 64) (by omega), toB (128 + v / 64 % 64) (by omega), toB (128 + v % 64) (by omega)]
        unfold decodeN
        rw [if_neg (by omega), if_neg (by omega), if_neg (by omega), if_pos (by omega), if_pos (by omega)]
        exact Prod.ext (by show _ = v; simp only; omega) rfl
theorem utfB_encode (v : Nat) (h : v ≤ 1114111) (hs : ¬ (55296 ≤ v ∧ v < 57344)) : utfB (Utf8.encode v).data.toList = mayN v := by
  obtain ⟨h1, h2⟩ := decode_encode v h hs
  rw [utfB_step h2]
  unfold chOk
  rw [h1]
  simp only [List.drop_length, utfB_nil, Bool.and_true]
  have : ¬ (v = 65533 ∧ (Utf8.encode v).data.toList.length = 1) := by
    rintro ⟨rfl, h⟩; revert h; decide
  rw [decide_eq_false this]; rfl
end Go.Ab
namespace Go.Ab.Sz
open Go Go.Ab Go.Proofs Go.RowKit
set_option maxRecDepth 40000
theorem mayS_N (r : Nat) : mayS (r : Int) = mayN r := by
  have h : ∀ k : Nat, (((r : Int) == (k : Int)) : Bool) = (r == k) := fun k => by rw [Bool.eq_iff_iff]; simp; omega
  have e : decide ((32 : Int) ≤ (r : Int)) = decide (32 ≤ r) := by rw [decide_eq_decide]; omega
  have a := h 9; have b := h 10; have c := h 13; have d := h 65534; have f := h 65535
  simp only [mayS, mayN, bne] at *
  rw [← a, ← b, ← c, ← d, ← f, ← e]
  rfl
theorem utf8S_B (s : List UInt8) : utf8S s = utfB s := by
  rw [← utf_lib s]
  unfold utf8S
  rw [show (fun x : Nat => !mayS (x : Int)) = (fun x => !mayN x) from funext fun x => by rw [mayS_N]]
theorem charB_N (v : Nat) : charB v = (decide (v ≤ 1114111) && !decide (55296 ≤ v ∧ v < 57344) && mayN v) := by
  have h : ∀ k : Nat, (((v : Int) == (k : Int)) : Bool) = decide (v = k) := fun k => by rw [Bool.eq_iff_iff]; simp; omega
  have a := h 9; have b := h 10; have c := h 13
  simp only [charB]
  rw [show ((9 : Int)) = ((9 : Nat) : Int) from rfl, show ((10 : Int)) = ((10 : Nat) : Int) from rfl, show ((13 : Int)) = ((13 : Nat) : Int) from rfl, a, b, c]
  rw [Bool.eq_iff_iff]
  simp only [mayN, Bool.or_eq_true, Bool.and_eq_true, decide_eq_true_eq, Bool.not_eq_true', decide_eq_false_iff_not, beq_iff_eq, bne_iff_ne]
  omega
theorem dropWhile_all (p : UInt8 → Bool) : ∀ (s : List UInt8), (∀ c ∈ s, p c = true) → s.dropWhile p = []
  | [], _ => rfl
  | c :: s, h => by rw [List.dropWhile_cons_of_pos (h c (by simp))]; exact dropWhile_all p s fun x hx => h x (by simp [hx])
theorem number_val (set : List UInt8) (most B : Nat) (s : List UInt8) (h0 : s ≠ []) (hl : s.length ≤ most) (hin : ∀ c ∈ s, c ∈ set) :
    numberS set most B s = if charB (digitsV B s) then (Utf8.encode (digitsV B s)).data.toList else [] := by
  have hd : s.dropWhile set.contains = [] := by
    exact dropWhile_all _ _ fun c hc => by simpa using hin c hc
  have h0' : (s == []) = false := by simpa using h0
  unfold numberS
  rw [h0', hd, cutR_nil, show decide (most < s.length) = false from decide_eq_false (by omega)]
  simp only [Bool.false_or, show (!(([] : List UInt8) == [])) = false from rfl, Bool.false_eq_true, if_false]
  generalize digitsV B s = v
  rw [charB_N, utf8S_B]
  unfold Lib.validRune
  by_cases h1 : 1114111 < v
  · rw [show (decide (1114111 < v)) = true from decide_eq_true h1, show decide (v ≤ 1114111) = false from decide_eq_false (by omega)]; rfl
  · rw [show (decide (1114111 < v)) = false from decide_eq_false h1, show decide (v ≤ 1114111) = true from decide_eq_true (by omega)]
    by_cases h2 : 55296 ≤ v ∧ v < 57344
    · rw [show decide (55296 ≤ v ∧ v < 57344) = true from decide_eq_true h2, show decide ((0 ≤ (v : Int) ∧ (v : Int) < 0xD800) ∨ (0xDFFF < (v : Int) ∧ (v : Int) ≤ 0x10FFFF)) = false from decide_eq_false (by omega)]; rfl
    · rw [show decide (55296 ≤ v ∧ v < 57344) = false from decide_eq_false h2, show decide ((0 ≤ (v : Int) ∧ (v : Int) < 0xD800) ∨ (0xDFFF < (v : Int) ∧ (v : Int) ≤ 0x10FFFF)) = true from decide_eq_true (by omega), utfB_encode v (by omega) h2]
      rfl
/-- A sign of a number. -/
def hx (c : Nat) : UInt8 := if c < 10 then UInt8.ofNat (48 + c) else UInt8.ofNat (87 + c)
end Go.Ab.Sz
namespace Go.Ab.Sz
open Go Go.Ab Go.Proofs Go.RowKit Go.Lib
set_option maxRecDepth 40000
set_option linter.unusedSimpArgs false
section
variable {m : Int} {σ : St} {K : AV → St → Prop}
/-- How many bytes, the least number, and what the first byte bears; of none. -/
def chCls (b : Nat) : Option (Nat × Nat × Nat) := if b < 128 then some (1, 0, b) else if 192 ≤ b ∧ b < 224 then some (2, 128, b % 32) else if 224 ≤ b ∧ b < 240 then some (3, 2048, b % 16) else if 240 ≤ b ∧ b < 248 then some (4, 65536, b % 8) else none
def contF : Nat → List UInt8 → Nat → Option Nat
  | 0, _, c => some c
  | _ + 1, [], _ => none
  | r + 1, x :: t, c => if x.toNat / 64 = 2 then contF r t (c * 64 + x.toNat % 64) else none
def refCh (l : List UInt8) : Nat × Nat :=
  match chCls (l.getD 0 0).toNat with
  | none => (0, 0)
  | some (n, least, c) => if l.length < n then (0, 0) else match contF (n - 1) (l.drop 1) c with
    | none => (0, 0)
    | some c => if c < least ∨ charB c = false then (0, 0) else (c, n)
theorem refCh_short (l : List UInt8) (n least c : Nat) (h : chCls (l.getD 0 0).toNat = some (n, least, c)) (hl : l.length < n) : refCh l = (0, 0) := by
  unfold refCh; rw [h]; simp only []; rw [if_pos hl]
theorem refCh_none (l : List UInt8) (n least c : Nat) (h : chCls (l.getD 0 0).toNat = some (n, least, c)) (hl : ¬ l.length < n) (hc : contF (n - 1) (l.drop 1) c = none) : refCh l = (0, 0) := by
  unfold refCh; rw [h]; simp only []; rw [if_neg hl, hc]
theorem refCh_bad (l : List UInt8) (n least c c' : Nat) (h : chCls (l.getD 0 0).toNat = some (n, least, c)) (hl : ¬ l.length < n) (hc : contF (n - 1) (l.drop 1) c = some c') (hb : c' < least ∨ charB c' = false) : refCh l = (0, 0) := by
  unfold refCh; rw [h]; simp only []; rw [if_neg hl, hc]; simp only []; rw [if_pos hb]
theorem refCh_good (l : List UInt8) (n least c c' : Nat) (h : chCls (l.getD 0 0).toNat = some (n, least, c)) (hl : ¬ l.length < n) (hc : contF (n - 1) (l.drop 1) c = some c') (hb : ¬ c' < least) (hg : charB c' = true) : refCh l = (c', n) := by
  unfold refCh; rw [h]; simp only []; rw [if_neg hl, hc]; simp only []; rw [if_neg (by rw [hg]; simp; omega)]
theorem and31 (b : Nat) (h : b < 256) : IntKind.i64.wrap ((BitVec.ofInt IntKind.i64.bits (b : Int) &&& BitVec.ofInt IntKind.i64.bits 31).toNat : Int) = ((b % 32 : Nat) : Int) := by
  have : (List.range 256).all (fun b => decide (IntKind.i64.wrap ((BitVec.ofInt IntKind.i64.bits (b : Int) &&& BitVec.ofInt IntKind.i64.bits 31).toNat : Int) = ((b % 32 : Nat) : Int))) = true := by kernel_rfl
  exact of_decide_eq_true (List.all_eq_true.1 this b (by simpa using h))
theorem and15 (b : Nat) (h : b < 256) : IntKind.i64.wrap ((BitVec.ofInt IntKind.i64.bits (b : Int) &&& BitVec.ofInt IntKind.i64.bits 15).toNat : Int) = ((b % 16 : Nat) : Int) := by
  have : (List.range 256).all (fun b => decide (IntKind.i64.wrap ((BitVec.ofInt IntKind.i64.bits (b : Int) &&& BitVec.ofInt IntKind.i64.bits 15).toNat : Int) = ((b % 16 : Nat) : Int))) = true := by kernel_rfl
  exact of_decide_eq_true (List.all_eq_true.1 this b (by simpa using h))
theorem and7 (b : Nat) (h : b < 256) : IntKind.i64.wrap ((BitVec.ofInt IntKind.i64.bits (b : Int) &&& BitVec.ofInt IntKind.i64.bits 7).toNat : Int) = ((b % 8 : Nat) : Int) := by
  have : (List.range 256).all (fun b => decide (IntKind.i64.wrap ((BitVec.ofInt IntKind.i64.bits (b : Int) &&& BitVec.ofInt IntKind.i64.bits 7).toNat : Int) = ((b % 8 : Nat) : Int))) = true := by kernel_rfl
  exact of_decide_eq_true (List.all_eq_true.1 this b (by simpa using h))
theorem and192 (b : Nat) (h : b < 256) : IntKind.u8.wrap ((BitVec.ofInt IntKind.u8.bits (b : Int) &&& BitVec.ofInt IntKind.u8.bits 192).toNat : Int) = ((b / 64 * 64 : Nat) : Int) := by
  have : (List.range 256).all (fun b => decide (IntKind.u8.wrap ((BitVec.ofInt IntKind.u8.bits (b : Int) &&& BitVec.ofInt IntKind.u8.bits 192).toNat : Int) = ((b / 64 * 64 : Nat) : Int))) = true := by kernel_rfl
  exact of_decide_eq_true (List.all_eq_true.1 this b (by simpa using h))
theorem and63 (b : Nat) (h : b < 256) : IntKind.u8.wrap ((BitVec.ofInt IntKind.u8.bits (b : Int) &&& BitVec.ofInt IntKind.u8.bits 63).toNat : Int) = ((b % 64 : Nat) : Int) := by
  have : (List.range 256).all (fun b => decide (IntKind.u8.wrap ((BitVec.ofInt IntKind.u8.bits (b : Int) &&& BitVec.ofInt IntKind.u8.bits 63).toNat : Int) = ((b % 64 : Nat) : Int))) = true := by kernel_rfl
  exact of_decide_eq_true (List.all_eq_true.1 this b (by simpa using h))
theorem or64 (c x : Nat) (hc : c < 1000000000) (hx : x < 64) : IntKind.i64.wrap ((BitVec.ofInt IntKind.i64.bits ((c * 64 : Nat) : Int) ||| BitVec.ofInt IntKind.i64.bits (x : Int)).toNat : Int) = ((c * 64 + x : Nat) : Int) := by
  have e : (BitVec.ofInt IntKind.i64.bits ((c * 64 : Nat) : Int) ||| BitVec.ofInt IntKind.i64.bits (x : Int)).toNat = c * 64 + x := by
    show (BitVec.ofInt 64 ((c * 64 : Nat) : Int) ||| BitVec.ofInt 64 (x : Int)).toNat = c * 64 + x
    rw [BitVec.ofInt_natCast, BitVec.ofInt_natCast, BitVec.toNat_or, BitVec.toNat_ofNat, BitVec.toNat_ofNat, Nat.mod_eq_of_lt (by omega), Nat.mod_eq_of_lt (by omega)]
    have := Nat.shiftLeft_add_eq_or_of_lt (i := 6) (b := x) (by omega) c
    rw [Nat.shiftLeft_eq] at this
    exact this.symm
  rw [e]
  exact wrap_i64 _ (by omega) (by omega)
theorem u8_lt (x : UInt8) : x.toNat < 256 := x.toNat_lt
theorem char_loop (s : List UInt8) (i n c0 : Nat) (hlen : i + n ≤ s.length) (hn : n ≤ 4) (hc0 : c0 < 256) (hi0 : s.length < 1000000000000) {Q : EQ} : ∀ (r k c : Nat) (e : Env), r + k = n → e 0 = some (.str s) → e 1 = some (.int .i64 i) → e 7 = some (.int .i64 n) → e 9 = some (.int .i64 k) → e 6 = some (.int .i64 c) →
    1 ≤ k → c < 256 * 64 ^ (k - 1) → (∀ e', (e' 4 = some (.int .i64 0) ∧ e' 5 = some (.int .i64 0)) → contF r (s.drop (i + k)) c = none → Q .ret e' σ) →
    (∀ e' c', (∀ j, j = 0 ∨ j = 1 ∨ j = 7 ∨ j = 8 → e' j = e j) → contF r (s.drop (i + k)) c = some c' → e' 6 = some (.int .i64 (c' : Nat)) → Q (.exit 1) e' σ) → LoopC Tryz.prog tt (gD m) l80_0 Q e σ := by
  intro r
  induction r with
  | zero =>
    intro k c e hk h0 h1 h7 h9 h6 hk1 hc hno hyes
    have q : decide ((k : Int) < (n : Int)) = false := by simp; omega
    refine LoopC_unfold tok fm ?_
    simp (disch := first | omega | (simp only [ln]; first | done | omega)) only [walkAll, walkL, walkK, wk, E, Nat.reduceEqDiff, Nat.reduceAdd, Nat.reduceSub, Nat.reduceLeDiff, Int.reduceLT, Int.reduceLE, Int.reduceAdd, Int.reduceSub, Int.reduceToNat, ↓reduceIte, l80_0x, l80_0b, h7, h9, q]
    refine hyes _ c (fun j hj => ?_) rfl (by simp [put, h6])
    rcases hj with rfl | rfl | rfl | rfl <;> simp [put]
  | succ r ih =>
    intro k c e hk h0 h1 h7 h9 h6 hk1 hc hno hyes
    have q : decide ((k : Int) < (n : Int)) = true := by simp; omega
    have hik : i + k < s.length := by omega
    have hx : s[i + k]? = some s[i + k] := List.getElem?_eq_getElem hik
    generalize hxv : s[i + k] = x at hx
    have hd : s.drop (i + k) = x :: s.drop (i + (k + 1)) := by
      rw [List.drop_eq_getElem_cons hik, hxv]; rfl
    have w1 : IntKind.i64.wrap ((i : Int) + (k : Int)) = ((i + k : Nat) : Int) := by rw [wrap_i64 _ (by omega) (by omega)]; rfl
    have w2 : IntKind.i64.wrap ((k : Int) + 1) = ((k + 1 : Nat) : Int) := by rw [wrap_i64 _ (by omega) (by omega)]; rfl
    have hlt := u8_lt x
    have hcB : c < 100000000 := by
      obtain ⟨j, rfl⟩ : ∃ j, k = j + 1 := ⟨k - 1, by omega⟩
      simp only [Nat.add_sub_cancel] at hc
      have : j ≤ 3 := by omega
      have : 64 ^ j ≤ 64 ^ 3 := Nat.pow_le_pow_right (by decide) this
      omega
    have a1 := and192 x.toNat hlt
    have a2 := and63 x.toNat hlt
    have w3 : IntKind.i64.wrap ((x.toNat % 64 : Nat) : Int) = ((x.toNat % 64 : Nat) : Int) := wrap_i64 _ (by omega) (by omega)
    have w4 : IntKind.i64.wrap ((c : Int) * 2 ^ min 6 IntKind.i64.bits) = ((c * 64 : Nat) : Int) := by
      rw [show (2 : Int) ^ min 6 IntKind.i64.bits = 64 from rfl, wrap_i64 _ (by omega) (by omega)]; simp
    have w5 := or64 c (x.toNat % 64) (by omega) (by omega)
    refine LoopC_unfold tok fm ?_
    simp (disch := first | omega | (simp only [ln]; first | done | omega)) only [walkAll, walkL, walkK, wk, E, Nat.reduceEqDiff, Nat.reduceAdd, Nat.reduceSub, Nat.reduceLeDiff, Int.reduceLT, Int.reduceLE, Int.reduceAdd, Int.reduceSub, Int.reduceToNat, ↓reduceIte, l80_0x, l80_0b, h0, h1, h7, h9, h6, q, w1, hx, a1]
    rw [hd] at hno hyes
    cases q2 : (((x.toNat / 64 * 64 : Nat) : Int) != 128) with
    | true =>
      have hne : ¬ x.toNat / 64 = 2 := by intro h; rw [h] at q2; simp at q2
      simp (disch := first | omega | (simp only [ln]; first | done | omega)) only [walkAll, walkL, walkK, wk, E, Nat.reduceEqDiff, Nat.reduceAdd, Nat.reduceSub, Nat.reduceLeDiff, Int.reduceLT, Int.reduceLE, Int.reduceAdd, Int.reduceSub, Int.reduceToNat, ↓reduceIte]
      exact hno _ ⟨by simp [put], by simp [put]⟩ (by simp only [contF, if_neg hne])
    | false =>
      have he : x.toNat / 64 = 2 := by simp at q2; omega
      simp only [contF, if_pos he] at hno hyes
      simp (disch := first | omega | (simp only [ln]; first | done | omega)) only [walkAll, walkL, walkK, wk, E, Nat.reduceEqDiff, Nat.reduceAdd, Nat.reduceSub, Nat.reduceLeDiff, Int.reduceLT, Int.reduceLE, Int.reduceAdd, Int.reduceSub, Int.reduceToNat, ↓reduceIte, h0, h1, h7, h9, h6, w1, hx, a2, w3, w4, w5, w2]
      refine ih (k + 1) (c * 64 + x.toNat % 64) _ (by omega) ?_ ?_ ?_ ?_ ?_ ?_ ?_ hno (fun e' c' hj hc' h6' => hyes e' c' (fun j hj' => ?_) hc' h6')
      · simp [put, h0]
      · simp [put, h1]
      · simp [put, h7]
      · simp [put]
      · simp [put]
      · omega
      · obtain ⟨j, rfl⟩ : ∃ j, k = j + 1 := ⟨k - 1, by omega⟩
        simp only [Nat.add_sub_cancel] at hc ⊢
        rw [Nat.pow_succ]; omega
      · rw [hj j hj']
        rcases hj' with rfl | rfl | rfl | rfl <;> simp [put]
theorem char_c (s : List UInt8) (i : Nat) (hi : i < s.length) (hi0 : s.length < 1000000000000) (h : K (.tup [.int .i64 (refCh (s.drop i)).1, .int .i64 (refCh (s.drop i)).2]) σ) : ACalls Tryz.prog (gD m) 80 [.str s, .int .i64 i] σ K := by
  refine ACalls_fn tok fm (fk80 _) ?_
  have hb : s[i]? = some s[i] := List.getElem?_eq_getElem hi
  generalize hxv : s[i] = b at hb
  have hlt := u8_lt b
  have hg : (s.drop i).getD 0 0 = b := by simp [List.getD_eq_getElem?_getD, hb]
  have hd0 : IntKind.i64.wrap ((b.toNat : Nat) : Int) = ((b.toNat : Nat) : Int) := wrap_i64 _ (by omega) (by omega)
  have iv : b.toNat < 128 ∨ (128 ≤ b.toNat ∧ b.toNat < 192) ∨ (192 ≤ b.toNat ∧ b.toNat < 224) ∨ (224 ≤ b.toNat ∧ b.toNat < 240) ∨ (240 ≤ b.toNat ∧ b.toNat < 248) ∨ 248 ≤ b.toNat := by omega
  have a31 := and31 b.toNat hlt
  have a15 := and15 b.toNat hlt
  have a7 := and7 b.toNat hlt
  rcases iv with iv | iv | iv | iv | iv | iv <;> (first | have h1 : decide (((b.toNat : Nat) : Int) < 128) = true := decide_eq_true (by omega) | have h1 : decide (((b.toNat : Nat) : Int) < 128) = false := decide_eq_false (by omega)) <;> (first | have h2 : decide (192 ≤ ((b.toNat : Nat) : Int)) = true := decide_eq_true (by omega) | have h2 : decide (192 ≤ ((b.toNat : Nat) : Int)) = false := decide_eq_false (by omega)) <;> (first | have h3 : decide (((b.toNat : Nat) : Int) < 224) = true := decide_eq_true (by omega) | have h3 : decide (((b.toNat : Nat) : Int) < 224) = false := decide_eq_false (by omega)) <;> (first | have h4 : decide (224 ≤ ((b.toNat : Nat) : Int)) = true := decide_eq_true (by omega) | have h4 : decide (224 ≤ ((b.toNat : Nat) : Int)) = false := decide_eq_false (by omega)) <;> (first | have h5 : decide (((b.toNat : Nat) : Int) < 240) = true := decide_eq_true (by omega) | have h5 : decide (((b.toNat : Nat) : Int) < 240) = false := decide_eq_false (by omega)) <;> (first | have h6 : decide (240 ≤ ((b.toNat : Nat) : Int)) = true := decide_eq_true (by omega) | have h6 : decide (240 ≤ ((b.toNat : Nat) : Int)) = false := decide_eq_false (by omega)) <;> (first | have h7 : decide (((b.toNat : Nat) : Int) < 248) = true := decide_eq_true (by omega) | have h7 : decide (((b.toNat : Nat) : Int) < 248) = false := decide_eq_false (by omega)) <;>
    simp (disch := first | omega | (simp only [ln]; first | done | omega)) only [walkAll, walkL, walkK, wk, E, Nat.reduceEqDiff, Nat.reduceAdd, Nat.reduceSub, Nat.reduceLeDiff, Int.reduceLT, Int.reduceLE, Int.reduceAdd, Int.reduceSub, Int.reduceToNat, ↓reduceIte, c80, hb, hd0, h1, h2, h3, h4, h5, h6, h7, a31, a15, a7, Int.toNat_natCast]
  case inl =>
    have hcls : chCls ((s.drop i).getD 0 0).toNat = some (1, 0, b.toNat) := by rw [hg]; unfold chCls; rw [if_pos iv]
    cases q : decide ((s.length : Int) < (i : Int) + 1) with
    | true =>
      have : (s.drop i).length < 1 := by have := of_decide_eq_true q; simp; omega
      simp (disch := first | omega | (simp only [ln]; first | done | omega)) only [walkAll, walkL, walkK, wk, E, Nat.reduceEqDiff, Nat.reduceAdd, Nat.reduceSub, Nat.reduceLeDiff, Int.reduceLT, Int.reduceLE, Int.reduceAdd, Int.reduceSub, Int.reduceToNat, ↓reduceIte, q]
      rw [refCh_short _ 1 0 b.toNat hcls this] at h
      exact h
    | false =>
      have hlen : i + 1 ≤ s.length := by have := of_decide_eq_false q; omega
      simp (disch := first | omega | (simp only [ln]; first | done | omega)) only [walkAll, walkL, walkK, wk, E, Nat.reduceEqDiff, Nat.reduceAdd, Nat.reduceSub, Nat.reduceLeDiff, Int.reduceLT, Int.reduceLE, Int.reduceAdd, Int.reduceSub, Int.reduceToNat, ↓reduceIte, q]
      refine char_loop s i 1 b.toNat hlen (by omega) (by omega) hi0 (1 - 1) 1 b.toNat _ rfl (by simp [put, E]) (by simp [put, E]) (by simp [put]) (by simp [put]) (by simp [put]) (by omega) (by simp; omega) (fun e' hk hn0 => ?_) (fun e' c' hj hcc hc => ?_)
      · simp (disch := first | omega | (simp only [ln]; first | done | omega)) only [walkAll, walkL, walkK, wk, E, Nat.reduceEqDiff, Nat.reduceAdd, Nat.reduceSub, Nat.reduceLeDiff, Int.reduceLT, Int.reduceLE, Int.reduceAdd, Int.reduceSub, Int.reduceToNat, ↓reduceIte, hk.1, hk.2]
        rw [refCh_none _ 1 0 b.toNat hcls (by simp; omega) (by rw [List.drop_drop]; exact hn0)] at h
        exact h
      · have h6' := hc
        have h7' : e' 7 = some (.int .i64 1) := by rw [hj 7 (by simp)]; simp [put]
        have h8' : e' 8 = some (.int .i64 0) := by rw [hj 8 (by simp)]; simp [put]
        cases q2 : decide ((c' : Int) < 0) with
        | true =>
          simp (disch := first | omega | (simp only [ln]; first | done | omega)) only [walkAll, walkL, walkK, wk, E, Nat.reduceEqDiff, Nat.reduceAdd, Nat.reduceSub, Nat.reduceLeDiff, Int.reduceLT, Int.reduceLE, Int.reduceAdd, Int.reduceSub, Int.reduceToNat, ↓reduceIte, h6', h7', h8', q2]
          rw [refCh_bad _ 1 0 b.toNat c' hcls (by simp; omega) (by rw [List.drop_drop]; exact hcc) (by have := of_decide_eq_true q2; left; omega)] at h
          exact h
        | false =>
          simp (disch := first | omega | (simp only [ln]; first | done | omega)) only [walkAll, walkL, walkK, wk, E, Nat.reduceEqDiff, Nat.reduceAdd, Nat.reduceSub, Nat.reduceLeDiff, Int.reduceLT, Int.reduceLE, Int.reduceAdd, Int.reduceSub, Int.reduceToNat, ↓reduceIte, h6', h7', h8', q2]
          refine Char_c _ ?_
          cases q3 : charB (c' : Int) with
          | false =>
            simp (disch := first | omega | (simp only [ln]; first | done | omega)) only [walkAll, walkL, walkK, wk, E, Nat.reduceEqDiff, Nat.reduceAdd, Nat.reduceSub, Nat.reduceLeDiff, Int.reduceLT, Int.reduceLE, Int.reduceAdd, Int.reduceSub, Int.reduceToNat, ↓reduceIte, h6', h7', h8']
            rw [refCh_bad _ 1 0 b.toNat c' hcls (by simp; omega) (by rw [List.drop_drop]; exact hcc) (.inr q3)] at h
            exact h
          | true =>
            simp (disch := first | omega | (simp only [ln]; first | done | omega)) only [walkAll, walkL, walkK, wk, E, Nat.reduceEqDiff, Nat.reduceAdd, Nat.reduceSub, Nat.reduceLeDiff, Int.reduceLT, Int.reduceLE, Int.reduceAdd, Int.reduceSub, Int.reduceToNat, ↓reduceIte, h6', h7', h8']
            rw [refCh_good _ 1 0 b.toNat c' hcls (by simp; omega) (by rw [List.drop_drop]; exact hcc) (by have := of_decide_eq_false q2; omega) q3] at h
            exact h

  case inr.inl =>
    have hcls : chCls ((s.drop i).getD 0 0).toNat = none := by rw [hg]; unfold chCls; rw [if_neg (by omega), if_neg (by omega), if_neg (by omega), if_neg (by omega)]
    have e : refCh (s.drop i) = (0, 0) := by unfold refCh; rw [hcls]
    rw [e] at h
    exact h
  case inr.inr.inl =>
    have hcls : chCls ((s.drop i).getD 0 0).toNat = some (2, 128, b.toNat % 32) := by rw [hg]; unfold chCls; rw [if_neg (by omega), if_pos iv]
    cases q : decide ((s.length : Int) < (i : Int) + 2) with
    | true =>
      have : (s.drop i).length < 2 := by have := of_decide_eq_true q; simp; omega
      simp (disch := first | omega | (simp only [ln]; first | done | omega)) only [walkAll, walkL, walkK, wk, E, Nat.reduceEqDiff, Nat.reduceAdd, Nat.reduceSub, Nat.reduceLeDiff, Int.reduceLT, Int.reduceLE, Int.reduceAdd, Int.reduceSub, Int.reduceToNat, ↓reduceIte, q]
      rw [refCh_short _ 2 128 (b.toNat%32) hcls this] at h
      exact h
    | false =>
      have hlen : i + 2 ≤ s.length := by have := of_decide_eq_false q; omega
      simp (disch := first | omega | (simp only [ln]; first | done | omega)) only [walkAll, walkL, walkK, wk, E, Nat.reduceEqDiff, Nat.reduceAdd, Nat.reduceSub, Nat.reduceLeDiff, Int.reduceLT, Int.reduceLE, Int.reduceAdd, Int.reduceSub, Int.reduceToNat, ↓reduceIte, q]
      refine char_loop s i 2 (b.toNat%32) hlen (by omega) (by omega) hi0 (2 - 1) 1 (b.toNat%32) _ rfl (by simp [put, E]) (by simp [put, E]) (by simp [put]) (by simp [put]) (by simp [put]) (by omega) (by simp; omega) (fun e' hk hn0 => ?_) (fun e' c' hj hcc hc => ?_)
      · simp (disch := first | omega | (simp only [ln]; first | done | omega)) only [walkAll, walkL, walkK, wk, E, Nat.reduceEqDiff, Nat.reduceAdd, Nat.reduceSub, Nat.reduceLeDiff, Int.reduceLT, Int.reduceLE, Int.reduceAdd, Int.reduceSub, Int.reduceToNat, ↓reduceIte, hk.1, hk.2]
        rw [refCh_none _ 2 128 (b.toNat%32) hcls (by simp; omega) (by rw [List.drop_drop]; exact hn0)] at h
        exact h
      · have h6' := hc
        have h7' : e' 7 = some (.int .i64 2) := by rw [hj 7 (by simp)]; simp [put]
        have h8' : e' 8 = some (.int .i64 128) := by rw [hj 8 (by simp)]; simp [put]
        cases q2 : decide ((c' : Int) < 128) with
        | true =>
          simp (disch := first | omega | (simp only [ln]; first | done | omega)) only [walkAll, walkL, walkK, wk, E, Nat.reduceEqDiff, Nat.reduceAdd, Nat.reduceSub, Nat.reduceLeDiff, Int.reduceLT, Int.reduceLE, Int.reduceAdd, Int.reduceSub, Int.reduceToNat, ↓reduceIte, h6', h7', h8', q2]
          rw [refCh_bad _ 2 128 (b.toNat%32) c' hcls (by simp; omega) (by rw [List.drop_drop]; exact hcc) (by have := of_decide_eq_true q2; left; omega)] at h
          exact h
        | false =>
          simp (disch := first | omega | (simp only [ln]; first | done | omega)) only [walkAll, walkL, walkK, wk, E, Nat.reduceEqDiff, Nat.reduceAdd, Nat.reduceSub, Nat.reduceLeDiff, Int.reduceLT, Int.reduceLE, Int.reduceAdd, Int.reduceSub, Int.reduceToNat, ↓reduceIte, h6', h7', h8', q2]
          refine Char_c _ ?_
          cases q3 : charB (c' : Int) with
          | false =>
            simp (disch := first | omega | (simp only [ln]; first | done | omega)) only [walkAll, walkL, walkK, wk, E, Nat.reduceEqDiff, Nat.reduceAdd, Nat.reduceSub, Nat.reduceLeDiff, Int.reduceLT, Int.reduceLE, Int.reduceAdd, Int.reduceSub, Int.reduceToNat, ↓reduceIte, h6', h7', h8']
            rw [refCh_bad _ 2 128 (b.toNat%32) c' hcls (by simp; omega) (by rw [List.drop_drop]; exact hcc) (.inr q3)] at h
            exact h
          | true =>
            simp (disch := first | omega | (simp only [ln]; first | done | omega)) only [walkAll, walkL, walkK, wk, E, Nat.reduceEqDiff, Nat.reduceAdd, Nat.reduceSub, Nat.reduceLeDiff, Int.reduceLT, Int.reduceLE, Int.reduceAdd, Int.reduceSub, Int.reduceToNat, ↓reduceIte, h6', h7', h8']
            rw [refCh_good _ 2 128 (b.toNat%32) c' hcls (by simp; omega) (by rw [List.drop_drop]; exact hcc) (by have := of_decide_eq_false q2; omega) q3] at h
            exact h

  case inr.inr.inr.inl =>
    have hcls : chCls ((s.drop i).getD 0 0).toNat = some (3, 2048, b.toNat % 16) := by rw [hg]; unfold chCls; rw [if_neg (by omega), if_neg (by omega), if_pos iv]
    cases q : decide ((s.length : Int) < (i : Int) + 3) with
    | true =>
      have : (s.drop i).length < 3 := by have := of_decide_eq_true q; simp; omega
      simp (disch := first | omega | (simp only [ln]; first | done | omega)) only [walkAll, walkL, walkK, wk, E, Nat.reduceEqDiff, Nat.reduceAdd, Nat.reduceSub, Nat.reduceLeDiff, Int.reduceLT, Int.reduceLE, Int.reduceAdd, Int.reduceSub, Int.reduceToNat, ↓reduceIte, q]
      rw [refCh_short _ 3 2048 (b.toNat%16) hcls this] at h
      exact h
    | false =>
      have hlen : i + 3 ≤ s.length := by have := of_decide_eq_false q; omega
      simp (disch := first | omega | (simp only [ln]; first | done | omega)) only [walkAll, walkL, walkK, wk, E, Nat.reduceEqDiff, Nat.reduceAdd, Nat.reduceSub, Nat.reduceLeDiff, Int.reduceLT, Int.reduceLE, Int.reduceAdd, Int.reduceSub, Int.reduceToNat, ↓reduceIte, q]
      refine char_loop s i 3 (b.toNat%16) hlen (by omega) (by omega) hi0 (3 - 1) 1 (b.toNat%16) _ rfl (by simp [put, E]) (by simp [put, E]) (by simp [put]) (by simp [put]) (by simp [put]) (by omega) (by simp; omega) (fun e' hk hn0 => ?_) (fun e' c' hj hcc hc => ?_)
      · simp (disch := first | omega | (simp only [ln]; first | done | omega)) only [walkAll, walkL, walkK, wk, E, Nat.reduceEqDiff, Nat.reduceAdd, Nat.reduceSub, Nat.reduceLeDiff, Int.reduceLT, Int.reduceLE, Int.reduceAdd, Int.reduceSub, Int.reduceToNat, ↓reduceIte, hk.1, hk.2]
        rw [refCh_none _ 3 2048 (b.toNat%16) hcls (by simp; omega) (by rw [List.drop_drop]; exact hn0)] at h
        exact h
      · have h6' := hc
        have h7' : e' 7 = some (.int .i64 3) := by rw [hj 7 (by simp)]; simp [put]
        have h8' : e' 8 = some (.int .i64 2048) := by rw [hj 8 (by simp)]; simp [put]
        cases q2 : decide ((c' : Int) < 2048) with
        | true =>
          simp (disch := first | omega | (simp only [ln]; first | done | omega)) only [walkAll, walkL, walkK, wk, E, Nat.reduceEqDiff, Nat.reduceAdd, Nat.reduceSub, Nat.reduceLeDiff, Int.reduceLT, Int.reduceLE, Int.reduceAdd, Int.reduceSub, Int.reduceToNat, ↓reduceIte, h6', h7', h8', q2]
          rw [refCh_bad _ 3 2048 (b.toNat%16) c' hcls (by simp; omega) (by rw [List.drop_drop]; exact hcc) (by have := of_decide_eq_true q2; left; omega)] at h
          exact h
        | false =>
          simp (disch := first | omega | (simp only [ln]; first | done | omega)) only [walkAll, walkL, walkK, wk, E, Nat.reduceEqDiff, Nat.reduceAdd, Nat.reduceSub, Nat.reduceLeDiff, Int.reduceLT, Int.reduceLE, Int.reduceAdd, Int.reduceSub, Int.reduceToNat, ↓reduceIte, h6', h7', h8', q2]
          refine Char_c _ ?_
          cases q3 : charB (c' : Int) with
          | false =>
            simp (disch := first | omega | (simp only [ln]; first | done | omega)) only [walkAll, walkL, walkK, wk, E, Nat.reduceEqDiff, Nat.reduceAdd, Nat.reduceSub, Nat.reduceLeDiff, Int.reduceLT, Int.reduceLE, Int.reduceAdd, Int.reduceSub, Int.reduceToNat, ↓reduceIte, h6', h7', h8']
            rw [refCh_bad _ 3 2048 (b.toNat%16) c' hcls (by simp; omega) (by rw [List.drop_drop]; exact hcc) (.inr q3)] at h
            exact h
          | true =>
            simp (disch := first | omega | (simp only [ln]; first | done | omega)) only [walkAll, walkL, walkK, wk, E, Nat.reduceEqDiff, Nat.reduceAdd, Nat.reduceSub, Nat.reduceLeDiff, Int.reduceLT, Int.reduceLE, Int.reduceAdd, Int.reduceSub, Int.reduceToNat, ↓reduceIte, h6', h7', h8']
            rw [refCh_good _ 3 2048 (b.toNat%16) c' hcls (by simp; omega) (by rw [List.drop_drop]; exact hcc) (by have := of_decide_eq_false q2; omega) q3] at h
            exact h

  case inr.inr.inr.inr.inl =>
    have hcls : chCls ((s.drop i).getD 0 0).toNat = some (4, 65536, b.toNat % 8) := by rw [hg]; unfold chCls; rw [if_neg (by omega), if_neg (by omega), if_neg (by omega), if_pos iv]
    cases q : decide ((s.length : Int) < (i : Int) + 4) with
    | true =>
      have : (s.drop i).length < 4 := by have := of_decide_eq_true q; simp; omega
      simp (disch := first | omega | (simp only [ln]; first | done | omega)) only [walkAll, walkL, walkK, wk, E, Nat.reduceEqDiff, Nat.reduceAdd, Nat.reduceSub, Nat.reduceLeDiff, Int.reduceLT, Int.reduceLE, Int.reduceAdd, Int.reduceSub, Int.reduceToNat, ↓reduceIte, q]
      rw [refCh_short _ 4 65536 (b.toNat%8) hcls this] at h
      exact h
    | false =>
      have hlen : i + 4 ≤ s.length := by have := of_decide_eq_false q; omega
      simp (disch := first | omega | (simp only [ln]; first | done | omega)) only [walkAll, walkL, walkK, wk, E, Nat.reduceEqDiff, Nat.reduceAdd, Nat.reduceSub, Nat.reduceLeDiff, Int.reduceLT, Int.reduceLE, Int.reduceAdd, Int.reduceSub, Int.reduceToNat, ↓reduceIte, q]
      refine char_loop s i 4 (b.toNat%8) hlen (by omega) (by omega) hi0 (4 - 1) 1 (b.toNat%8) _ rfl (by simp [put, E]) (by simp [put, E]) (by simp [put]) (by simp [put]) (by simp [put]) (by omega) (by simp; omega) (fun e' hk hn0 => ?_) (fun e' c' hj hcc hc => ?_)
      · simp (disch := first | omega | (simp only [ln]; first | done | omega)) only [walkAll, walkL, walkK, wk, E, Nat.reduceEqDiff, Nat.reduceAdd, Nat.reduceSub, Nat.reduceLeDiff, Int.reduceLT, Int.reduceLE, Int.reduceAdd, Int.reduceSub, Int.reduceToNat, ↓reduceIte, hk.1, hk.2]
        rw [refCh_none _ 4 65536 (b.toNat%8) hcls (by simp; omega) (by rw [List.drop_drop]; exact hn0)] at h
        exact h
      · have h6' := hc
        have h7' : e' 7 = some (.int .i64 4) := by rw [hj 7 (by simp)]; simp [put]
        have h8' : e' 8 = some (.int .i64 65536) := by rw [hj 8 (by simp)]; simp [put]
        cases q2 : decide ((c' : Int) < 65536) with
        | true =>
          simp (disch := first | omega | (simp only [ln]; first | done | omega)) only [walkAll, walkL, walkK, wk, E, Nat.reduceEqDiff, Nat.reduceAdd, Nat.reduceSub, Nat.reduceLeDiff, Int.reduceLT, Int.reduceLE, Int.reduceAdd, Int.reduceSub, Int.reduceToNat, ↓reduceIte, h6', h7', h8', q2]
          rw [refCh_bad _ 4 65536 (b.toNat%8) c' hcls (by simp; omega) (by rw [List.drop_drop]; exact hcc) (by have := of_decide_eq_true q2; left; omega)] at h
          exact h
        | false =>
          simp (disch := first | omega | (simp only [ln]; first | done | omega)) only [walkAll, walkL, walkK, wk, E, Nat.reduceEqDiff, Nat.reduceAdd, Nat.reduceSub, Nat.reduceLeDiff, Int.reduceLT, Int.reduceLE, Int.reduceAdd, Int.reduceSub, Int.reduceToNat, ↓reduceIte, h6', h7', h8', q2]
          refine Char_c _ ?_
          cases q3 : charB (c' : Int) with
          | false =>
            simp (disch := first | omega | (simp only [ln]; first | done | omega)) only [walkAll, walkL, walkK, wk, E, Nat.reduceEqDiff, Nat.reduceAdd, Nat.reduceSub, Nat.reduceLeDiff, Int.reduceLT, Int.reduceLE, Int.reduceAdd, Int.reduceSub, Int.reduceToNat, ↓reduceIte, h6', h7', h8']
            rw [refCh_bad _ 4 65536 (b.toNat%8) c' hcls (by simp; omega) (by rw [List.drop_drop]; exact hcc) (.inr q3)] at h
            exact h
          | true =>
            simp (disch := first | omega | (simp only [ln]; first | done | omega)) only [walkAll, walkL, walkK, wk, E, Nat.reduceEqDiff, Nat.reduceAdd, Nat.reduceSub, Nat.reduceLeDiff, Int.reduceLT, Int.reduceLE, Int.reduceAdd, Int.reduceSub, Int.reduceToNat, ↓reduceIte, h6', h7', h8']
            rw [refCh_good _ 4 65536 (b.toNat%8) c' hcls (by simp; omega) (by rw [List.drop_drop]; exact hcc) (by have := of_decide_eq_false q2; omega) q3] at h
            exact h

  case inr.inr.inr.inr.inr =>
    have hcls : chCls ((s.drop i).getD 0 0).toNat = none := by rw [hg]; unfold chCls; rw [if_neg (by omega), if_neg (by omega), if_neg (by omega), if_neg (by omega)]
    have e : refCh (s.drop i) = (0, 0) := by unfold refCh; rw [hcls]
    rw [e] at h
    exact h
end
end Go.Ab.Sz
namespace Go.Ab.Sz
open Go Go.Ab Go.Proofs Go.RowKit Go.Lib
set_option maxRecDepth 100000
set_option linter.unusedSimpArgs false
section
variable {m : Int} {σ : St} {K : AV → St → Prop}
set_option maxHeartbeats 4000000 in
theorem refCh_eq (l : List UInt8) (hne : l ≠ []) : refCh l = if chOk l then decodeL l else (0, 0) := by
  have hl : 0 < l.length := List.length_pos_iff.2 hne
  unfold chOk
  rw [decodeL_N]
  unfold refCh
  have h0 : l.drop 1 = l.drop 1 := rfl
  have d1 : ∀ k (h : k < l.length), l.drop k = l.getD k 0 :: l.drop (k + 1) := fun k h => by
    rw [List.drop_eq_getElem_cons h]; simp [List.getD_eq_getElem?_getD, h]
  have cB : ∀ v : Nat, charB (v : Int) = (decide (v ≤ 1114111) && !decide (55296 ≤ v ∧ v < 57344) && mayN v) := charB_N
  generalize hb0 : (l.getD 0 0).toNat = b0
  generalize hb1 : (l.getD 1 0).toNat = b1
  generalize hb2 : (l.getD 2 0).toNat = b2
  generalize hb3 : (l.getD 3 0).toNat = b3
  generalize hD : decodeN l.length b0 b1 b2 b3 = D
  have bad : D = (65533, 1) → (if (!decide (D.1 = 65533 ∧ D.2 = 1) && mayN D.1) = true then D else (0, 0)) = ((0, 0) : Nat × Nat) := fun h => by rw [h]; rfl
  have good : ∀ v n, D = (v, n) → ¬ (v = 65533 ∧ n = 1) → (if (!decide (D.1 = 65533 ∧ D.2 = 1) && mayN D.1) = true then D else (0, 0)) = if mayN v = true then (v, n) else (0, 0) := fun v n h hn => by
    rw [h]; simp only [decide_eq_false hn, Bool.not_false, Bool.true_and]
  have lhs : ∀ (v n least : Nat), (if v < least ∨ charB (v : Int) = false then ((0, 0) : Nat × Nat) else (v, n)) = if (decide (least ≤ v) && (decide (v ≤ 1114111) && !decide (55296 ≤ v ∧ v < 57344)) && mayN v) = true then (v, n) else (0, 0) := fun v n least => by
    rw [cB]
    by_cases g : v < least
    · rw [if_pos (.inl g), decide_eq_false (by omega : ¬ least ≤ v)]; rfl
    · rw [decide_eq_true (by omega : least ≤ v)]
      cases (decide (v ≤ 1114111) && !decide (55296 ≤ v ∧ v < 57344)) <;> cases mayN v <;> simp <;> omega
  unfold chCls
  by_cases c1 : b0 < 128
  · rw [if_pos c1]
    simp only [Nat.sub_self, contF]
    rw [if_neg (by omega), lhs, good b0 1 (show D = (b0, 1) by rw [← hD]; unfold decodeN; (repeat' split); all_goals first | (exfalso; omega) | rfl) (by omega), decide_eq_true (show 0 ≤ b0 by omega), decide_eq_true (show b0 ≤ 1114111 by omega), decide_eq_false (show ¬ (55296 ≤ b0 ∧ b0 < 57344) by omega)]
    rfl
  rw [if_neg c1]
  by_cases c2 : 192 ≤ b0 ∧ b0 < 224
  · rw [if_pos c2]
    simp only [show 2 - 1 = 1 from rfl]
    by_cases hn : l.length < 2
    · rw [if_pos hn, bad (show D = (65533, 1) by rw [← hD]; unfold decodeN; (repeat' split); all_goals first | (exfalso; omega) | rfl)]
    rw [if_neg hn]
    rw [d1 1 (by omega)]
    simp only [contF, hb1]
    by_cases e1 : b1 / 64 = 2
    case neg => rw [if_neg e1, bad (show D = (65533, 1) by rw [← hD]; unfold decodeN; (repeat' split); all_goals first | (exfalso; omega) | rfl)]
    rw [if_pos e1]
    simp only [contF, show b0 % 32 * 64 + b1 % 64 = b0 % 32 * 64 + b1 % 64 by omega]
    rw [lhs]
    by_cases g : 128 ≤ b0 % 32 * 64 + b1 % 64 ∧ (b0 % 32 * 64 + b1 % 64 ≤ 1114111 ∧ ¬ (55296 ≤ b0 % 32 * 64 + b1 % 64 ∧ b0 % 32 * 64 + b1 % 64 < 57344))
    · rw [good (b0 % 32 * 64 + b1 % 64) 2 (show D = (b0 % 32 * 64 + b1 % 64, 2) by rw [← hD]; unfold decodeN; (repeat' split); all_goals first | (exfalso; omega) | rfl) (by omega), decide_eq_true g.1, decide_eq_true g.2.1, decide_eq_false g.2.2]
      rfl
    · rw [bad (show D = (65533, 1) by rw [← hD]; unfold decodeN; (repeat' split); all_goals first | (exfalso; omega) | rfl)]
      have : (decide (128 ≤ b0 % 32 * 64 + b1 % 64) && (decide (b0 % 32 * 64 + b1 % 64 ≤ 1114111) && !decide (55296 ≤ b0 % 32 * 64 + b1 % 64 ∧ b0 % 32 * 64 + b1 % 64 < 57344))) = false := by
        rw [← Bool.not_eq_true]; simp only [Bool.and_eq_true, decide_eq_true_eq, Bool.not_eq_true', decide_eq_false_iff_not]; exact g
      rw [this]; rfl
  rw [if_neg c2]
  by_cases c3 : 224 ≤ b0 ∧ b0 < 240
  · rw [if_pos c3]
    simp only [show 3 - 1 = 2 from rfl]
    by_cases hn : l.length < 3
    · rw [if_pos hn, bad (show D = (65533, 1) by rw [← hD]; unfold decodeN; (repeat' split); all_goals first | (exfalso; omega) | rfl)]
    rw [if_neg hn]
    rw [d1 1 (by omega)]
    simp only [contF, hb1]
    by_cases e1 : b1 / 64 = 2
    case neg => rw [if_neg e1, bad (show D = (65533, 1) by rw [← hD]; unfold decodeN; (repeat' split); all_goals first | (exfalso; omega) | rfl)]
    rw [if_pos e1]
    rw [d1 2 (by omega)]
    simp only [contF, hb2]
    by_cases e2 : b2 / 64 = 2
    case neg => rw [if_neg e2, bad (show D = (65533, 1) by rw [← hD]; unfold decodeN; (repeat' split); all_goals first | (exfalso; omega) | rfl)]
    rw [if_pos e2]
    simp only [contF, show (b0 % 16 * 64 + b1 % 64) * 64 + b2 % 64 = b0 % 16 * 4096 + b1 % 64 * 64 + b2 % 64 by omega]
    rw [lhs]
    by_cases g : 2048 ≤ b0 % 16 * 4096 + b1 % 64 * 64 + b2 % 64 ∧ (b0 % 16 * 4096 + b1 % 64 * 64 + b2 % 64 ≤ 1114111 ∧ ¬ (55296 ≤ b0 % 16 * 4096 + b1 % 64 * 64 + b2 % 64 ∧ b0 % 16 * 4096 + b1 % 64 * 64 + b2 % 64 < 57344))
    · rw [good (b0 % 16 * 4096 + b1 % 64 * 64 + b2 % 64) 3 (show D = (b0 % 16 * 4096 + b1 % 64 * 64 + b2 % 64, 3) by rw [← hD]; unfold decodeN; (repeat' split); all_goals first | (exfalso; omega) | rfl) (by omega), decide_eq_true g.1, decide_eq_true g.2.1, decide_eq_false g.2.2]
      rfl
    · rw [bad (show D = (65533, 1) by rw [← hD]; unfold decodeN; (repeat' split); all_goals first | (exfalso; omega) | rfl)]
      have : (decide (2048 ≤ b0 % 16 * 4096 + b1 % 64 * 64 + b2 % 64) && (decide (b0 % 16 * 4096 + b1 % 64 * 64 + b2 % 64 ≤ 1114111) && !decide (55296 ≤ b0 % 16 * 4096 + b1 % 64 * 64 + b2 % 64 ∧ b0 % 16 * 4096 + b1 % 64 * 64 + b2 % 64 < 57344))) = false := by
        rw [← Bool.not_eq_true]; simp only [Bool.and_eq_true, decide_eq_true_eq, Bool.not_eq_true', decide_eq_false_iff_not]; exact g
      rw [this]; rfl
  rw [if_neg c3]
  by_cases c4 : 240 ≤ b0 ∧ b0 < 248
  · rw [if_pos c4]
    simp only [show 4 - 1 = 3 from rfl]
    by_cases hn : l.length < 4
    · rw [if_pos hn, bad (show D = (65533, 1) by rw [← hD]; unfold decodeN; (repeat' split); all_goals first | (exfalso; omega) | rfl)]
    rw [if_neg hn]
    rw [d1 1 (by omega)]
    simp only [contF, hb1]
    by_cases e1 : b1 / 64 = 2
    case neg => rw [if_neg e1, bad (show D = (65533, 1) by rw [← hD]; unfold decodeN; (repeat' split); all_goals first | (exfalso; omega) | rfl)]
    rw [if_pos e1]
    rw [d1 2 (by omega)]
    simp only [contF, hb2]
    by_cases e2 : b2 / 64 = 2
    case neg => rw [if_neg e2, bad (show D = (65533, 1) by rw [← hD]; unfold decodeN; (repeat' split); all_goals first | (exfalso; omega) | rfl)]
    rw [if_pos e2]
    rw [d1 3 (by omega)]
    simp only [contF, hb3]
    by_cases e3 : b3 / 64 = 2
    case neg => rw [if_neg e3, bad (show D = (65533, 1) by rw [← hD]; unfold decodeN; (repeat' split); all_goals first | (exfalso; omega) | rfl)]
    rw [if_pos e3]
    simp only [contF, show ((b0 % 8 * 64 + b1 % 64) * 64 + b2 % 64) * 64 + b3 % 64 = b0 % 8 * 262144 + b1 % 64 * 4096 + b2 % 64 * 64 + b3 % 64 by omega]
    rw [lhs]
    by_cases g : 65536 ≤ b0 % 8 * 262144 + b1 % 64 * 4096 + b2 % 64 * 64 + b3 % 64 ∧ (b0 % 8 * 262144 + b1 % 64 * 4096 + b2 % 64 * 64 + b3 % 64 ≤ 1114111 ∧ ¬ (55296 ≤ b0 % 8 * 262144 + b1 % 64 * 4096 + b2 % 64 * 64 + b3 % 64 ∧ b0 % 8 * 262144 + b1 % 64 * 4096 + b2 % 64 * 64 + b3 % 64 < 57344))
    · rw [good (b0 % 8 * 262144 + b1 % 64 * 4096 + b2 % 64 * 64 + b3 % 64) 4 (show D = (b0 % 8 * 262144 + b1 % 64 * 4096 + b2 % 64 * 64 + b3 % 64, 4) by rw [← hD]; unfold decodeN; (repeat' split); all_goals first | (exfalso; omega) | rfl) (by omega), decide_eq_true g.1, decide_eq_true g.2.1, decide_eq_false g.2.2]
      rfl
    · rw [bad (show D = (65533, 1) by rw [← hD]; unfold decodeN; (repeat' split); all_goals first | (exfalso; omega) | rfl)]
      have : (decide (65536 ≤ b0 % 8 * 262144 + b1 % 64 * 4096 + b2 % 64 * 64 + b3 % 64) && (decide (b0 % 8 * 262144 + b1 % 64 * 4096 + b2 % 64 * 64 + b3 % 64 ≤ 1114111) && !decide (55296 ≤ b0 % 8 * 262144 + b1 % 64 * 4096 + b2 % 64 * 64 + b3 % 64 ∧ b0 % 8 * 262144 + b1 % 64 * 4096 + b2 % 64 * 64 + b3 % 64 < 57344))) = false := by
        rw [← Bool.not_eq_true]; simp only [Bool.and_eq_true, decide_eq_true_eq, Bool.not_eq_true', decide_eq_false_iff_not]; exact g
      rw [this]; rfl
  rw [if_neg c4]
  simp only []
  rw [bad (show D = (65533, 1) by rw [← hD]; unfold decodeN; (repeat' split); all_goals first | (exfalso; omega) | rfl)]
theorem count_loop (s : List UInt8) (hi0 : s.length < 1000000000000) {Q : EQ} (hx : utfB s = true → ∀ e' (n : Int), 0 ≤ n → e' 3 = some (.int .i64 n) → Q (.exit 0) e' σ) (hr : utfB s = false → ∀ e', e' 2 = some (.int .i64 (-1)) → Q .ret e' σ) :
    ∀ (f i n : Nat) (e : Env), (s.drop i).length ≤ f → n ≤ i → utfB (s.drop i) = utfB s → i ≤ s.length → e 0 = some (.str s) → e 3 = some (.int .i64 n) → e 4 = some (.int .i64 i) → LoopC Tryz.prog tt (gD m) l53_0 Q e σ := by
  intro f
  induction f with
  | zero =>
    intro i n e hf hni hu hle h0 h3 h4
    have hnil : s.drop i = [] := List.eq_nil_of_length_eq_zero (by omega)
    have q : decide ((i : Int) < (s.length : Int)) = false := by simp at hnil; simp; omega
    refine LoopC_unfold tok fm ?_
    simp (disch := first | omega | (simp only [ln]; first | done | omega)) only [walkAll, walkL, walkK, wk, E, Nat.reduceEqDiff, Nat.reduceAdd, Nat.reduceSub, Nat.reduceLeDiff, Int.reduceLT, Int.reduceLE, Int.reduceAdd, Int.reduceSub, Int.reduceToNat, ↓reduceIte, l53_0x, l53_0b, h0, h3, h4, q]
    exact hx (by rw [← hu, hnil]; rfl) _ n (by omega) (by simp [put, h3])
  | succ f ih =>
    intro i n e hf hni hu hle h0 h3 h4
    by_cases hi : i < s.length
    · have q : decide ((i : Int) < (s.length : Int)) = true := by simp; omega
      have hne : s.drop i ≠ [] := by intro h; have := congrArg List.length h; simp at this; omega
      have hstep := utfB_step hne
      have hw := decodeL_width (s.drop i)
      have hwl := decodeL_le (s.drop i) hne
      have hlen : (s.drop i).length = s.length - i := by simp
      refine LoopC_unfold tok fm ?_
      simp (disch := first | omega | (simp only [ln]; first | done | omega)) only [walkAll, walkL, walkK, wk, E, Nat.reduceEqDiff, Nat.reduceAdd, Nat.reduceSub, Nat.reduceLeDiff, Int.reduceLT, Int.reduceLE, Int.reduceAdd, Int.reduceSub, Int.reduceToNat, ↓reduceIte, l53_0x, l53_0b, h0, h3, h4, q]
      refine char_c s i hi hi0 ?_
      rw [refCh_eq _ hne]
      cases hc : chOk (s.drop i) with
      | false =>
        rw [hc, Bool.false_and] at hstep
        have e0 : ((0 : Int) == 0) = true := rfl
        simp (disch := first | omega | (simp only [ln]; first | done | omega)) only [walkAll, walkL, walkK, wk, E, Nat.reduceEqDiff, Nat.reduceAdd, Nat.reduceSub, Nat.reduceLeDiff, Int.reduceLT, Int.reduceLE, Int.reduceAdd, Int.reduceSub, Int.reduceToNat, ↓reduceIte, e0, Bool.false_eq_true]
        exact hr (by rw [← hu, hstep]) _ (by simp [put])
      | true =>
        rw [hc, Bool.true_and] at hstep
        have e1 : (((decodeL (s.drop i)).2 : Int) == 0) = false := by rw [beq_eq_false_iff_ne]; omega
        simp (disch := first | omega | (simp only [ln]; first | done | omega)) only [walkAll, walkL, walkK, wk, E, Nat.reduceEqDiff, Nat.reduceAdd, Nat.reduceSub, Nat.reduceLeDiff, Int.reduceLT, Int.reduceLE, Int.reduceAdd, Int.reduceSub, Int.reduceToNat, ↓reduceIte, e1, h0, h3, h4]
        refine ih (i + (decodeL (s.drop i)).2) (n + 1) _ (by simp at *; omega) (by omega) (by rw [← List.drop_drop, ← hu, hstep]) (by omega) (by simp [put, h0]) (by simp [put]) (by simp [put])
    · have hnil : s.drop i = [] := by rw [List.drop_eq_nil_iff]; omega
      have q : decide ((i : Int) < (s.length : Int)) = false := by simp; omega
      refine LoopC_unfold tok fm ?_
      simp (disch := first | omega | (simp only [ln]; first | done | omega)) only [walkAll, walkL, walkK, wk, E, Nat.reduceEqDiff, Nat.reduceAdd, Nat.reduceSub, Nat.reduceLeDiff, Int.reduceLT, Int.reduceLE, Int.reduceAdd, Int.reduceSub, Int.reduceToNat, ↓reduceIte, l53_0x, l53_0b, h0, h3, h4, q]
      exact hx (by rw [← hu, hnil]; rfl) _ n (by omega) (by simp [put, h3])
theorem refUtf_c (s : List UInt8) (hs : s.length < 1000000000000) (h : K (.bool (utfB s)) σ) : ACalls Tryz.prog (gD m) 32 [.str s] σ K := by
  refine ACalls_fn tok fm (fk32 _) ?_
  simp (disch := first | omega | (simp only [ln]; first | done | omega)) only [walkAll, walkL, walkK, wk, E, Nat.reduceEqDiff, Nat.reduceAdd, Nat.reduceSub, Nat.reduceLeDiff, Int.reduceLT, Int.reduceLE, Int.reduceAdd, Int.reduceSub, Int.reduceToNat, ↓reduceIte, c32]
  refine ACalls_fn tok fm (fk53 _) ?_
  simp (disch := first | omega | (simp only [ln]; first | done | omega)) only [walkAll, walkL, walkK, wk, E, Nat.reduceEqDiff, Nat.reduceAdd, Nat.reduceSub, Nat.reduceLeDiff, Int.reduceLT, Int.reduceLE, Int.reduceAdd, Int.reduceSub, Int.reduceToNat, ↓reduceIte, c53]
  refine count_loop s hs (fun hu e' n hn h3 => ?_) (fun hu e' h2 => ?_) s.length 0 0 _ (by simp) (Nat.le_refl _) (by simp) (by omega) (by simp [put, E]) (by simp [put]) (by simp [put])
  · have q : decide ((0 : Int) ≤ n) = true := decide_eq_true hn
    simp (disch := first | omega | (simp only [ln]; first | done | omega)) only [walkAll, walkL, walkK, wk, E, Nat.reduceEqDiff, Nat.reduceAdd, Nat.reduceSub, Nat.reduceLeDiff, Int.reduceLT, Int.reduceLE, Int.reduceAdd, Int.reduceSub, Int.reduceToNat, ↓reduceIte, h3, q]
    rw [hu] at h
    exact h
  · simp (disch := first | omega | (simp only [ln]; first | done | omega)) only [walkAll, walkL, walkK, wk, E, Nat.reduceEqDiff, Nat.reduceAdd, Nat.reduceSub, Nat.reduceLeDiff, Int.reduceLT, Int.reduceLE, Int.reduceAdd, Int.reduceSub, Int.reduceToNat, ↓reduceIte, h2]
    rw [hu] at h
    exact h
end
end Go.Ab.Sz
namespace Go.Ab.Sz
open Go Go.Ab Go.Proofs Go.RowKit
set_option maxRecDepth 40000
set_option linter.unusedSimpArgs false
section
variable {m : Int} {σ : St} {K : AV → St → Prop}
end
end Go.Ab.Sz
