/-
  Texts of characters that may be: plain laws.
-/
import Derived.Test.YtpejbkckppnamaaGreatDoorTok
import Derived.Lib.MapLaws
import Derived.Lib.ValidU
import Derived.Lib.TrimAscii
import Derived.Shelf.GgClosure.StringsIndexFunc
import Derived.Lib.IndexMore
import Derived.Lib.Strings
import Derived.Lib.Bytealg
set_option linter.all false
set_option linter.unusedVariables false
set_option linter.unusedSimpArgs false
namespace Go.Ab.Sz
open Go Go.Ab Go.Proofs Go.RowKit
set_option maxRecDepth 100000
set_option maxHeartbeats 1000000 in
theorem plainAttr_calls (a b : ByteArray) (w : World) :
    Calls Tryz.prog 59 #[.agg #[.string a, .string b], .agg #[.string a, .string b]] w fun e w' => e = .returned (.bool true) ∧ Below w.heap.size w w' := by
  go_enter Tryz.func59, Tryz.ntmps59
  go_wp2
  go_ret
  exact ⟨rfl, ((Below.refl _ _).alloc (Nat.le_refl _) _).alloc (by simp) _⟩
section
variable {m : Int} {σ : St} {K : AV → St → Prop}
theorem agg2_inv {C : Cz} {s t : List UInt8} {l : List AV} {vs : List Value} (h : RepL C (.agg [.str s, .str t] :: l) vs) : ∃ us, vs = .agg #[.string ⟨s.toArray⟩, .string ⟨t.toArray⟩] :: us ∧ RepL C l us := by
  cases h with
  | cons _ _ _ us h k =>
    cases h with
    | agg _ vs h =>
      have e := h.ss_inv
      subst e
      exact ⟨us, rfl, k⟩
theorem plainAttr1_c (s t : List UInt8) (h : K (.bool true) σ) : ACalls Tryz.prog (gD m) 59 [.agg [.str s, .str t], .agg [.str s, .str t]] σ K :=
  ACalls.of_calls Tryz.func59 rfl (by decide) (fun C w vs _ _ ha => by
    obtain ⟨us, e1, ha⟩ := agg2_inv ha
    obtain ⟨us', e2, ha⟩ := agg2_inv ha
    rw [e1, e2, ha.nil_inv]
    exact (plainAttr_calls _ _ w).mono fun e w' ⟨h1, h2⟩ => ⟨_, h1, .bool true, h2⟩) h
theorem sameAttr_loop (va vb : AV) (la lb : List (List AV)) (g : Nat) (ha : Rd 2 σ va la) (hb : Rd 2 σ vb lb) (hl : la.length = lb.length) (hlt : la.length < 9223372036854775807)
    (hone : ∀ (i : Nat) (c d : List AV), la[i]? = some c → lb[i]? = some d → ∀ K : AV → St → Prop, K (.bool true) σ → ACalls Tryz.prog (gD m) g [.agg c, .agg d] σ K) {Q : EQ} (hq : ∀ e', Q (.exit 0) e' σ) :
    ∀ (rest : List (List AV)) (i : Nat) (e : Env), la.drop i = rest → e 7 = some (.int .i64 i) → e 0 = some va → e 1 = some vb → e 2 = some (.fn (.func g) [] []) → LoopC Tryz.prog tt (gD m) l58_0 Q e σ := by
  intro rest
  induction rest with
  | nil =>
    intro i e hd h7 h0 h1 h2
    have hi : la.length ≤ i := by simpa using hd
    refine LoopC_unfold tok fm ?_
    have hb' : decide ((i : Int) < (la.length : Int)) = false := by simp; omega
    simp (disch := first | omega | (simp only [ln]; first | done | omega)) only [walkAll, walkL, walkK, wk, E, Nat.reduceEqDiff, Nat.reduceAdd, Nat.reduceSub, Nat.reduceLeDiff, Int.reduceLT, Int.reduceLE, Int.reduceAdd, Int.reduceSub, Int.reduceToNat, ↓reduceIte, l58_0x, l58_0b, h7, h0, ha.len, hb']
    exact hq _
  | cons c rest ih =>
    intro i e hd h7 h0 h1 h2
    obtain ⟨hc, hd'⟩ := drop_cons hd
    have hi := (List.getElem?_eq_some_iff.1 hc).1
    obtain ⟨d, hd2⟩ : ∃ d, lb[i]? = some d := ⟨lb[i], List.getElem?_eq_getElem (by omega)⟩
    obtain ⟨p, hp, hpt⟩ := ha.at hc .i64
    obtain ⟨q, hq', hqt⟩ := hb.at hd2 .i64
    have hl1 := hpt.all (ha.1 c (List.mem_of_getElem? hc))
    have hl2 := hqt.all (hb.1 d (List.mem_of_getElem? hd2))
    refine LoopC_unfold tok fm ?_
    have hb' : decide ((i : Int) < (la.length : Int)) = true := by simp; omega
    simp (disch := first | omega | (simp only [ln]; first | done | omega)) only [walkAll, walkL, walkK, wk, E, Nat.reduceEqDiff, Nat.reduceAdd, Nat.reduceSub, Nat.reduceLeDiff, Int.reduceLT, Int.reduceLE, Int.reduceAdd, Int.reduceSub, Int.reduceToNat, ↓reduceIte, l58_0x, l58_0b, h7, h0, h1, h2, ha.len, hb', hp, hq', hl1, hl2]
    refine hone i c d hc hd2 _ ?_
    simp (disch := first | omega | (simp only [ln]; first | done | omega)) only [walkAll, walkL, walkK, wk, E, Nat.reduceEqDiff, Nat.reduceAdd, Nat.reduceSub, Nat.reduceLeDiff, Int.reduceLT, Int.reduceLE, Int.reduceAdd, Int.reduceSub, Int.reduceToNat, ↓reduceIte, h7, h0, h1, h2, hp, hq', hl1, hl2]
    exact ih (i + 1) _ hd' (by simp [put]) (by simp [put, h0]) (by simp [put, h1]) (by simp [put, h2])
/-- Two lists that are alike, one by one. -/
theorem sameAttr_c (va vb : AV) (la lb : List (List AV)) (g : Nat) (ha : Rd 2 σ va la) (hb : Rd 2 σ vb lb) (hl : la.length = lb.length) (hlt : la.length < 9223372036854775807)
    (hone : ∀ (i : Nat) (c d : List AV), la[i]? = some c → lb[i]? = some d → ∀ K : AV → St → Prop, K (.bool true) σ → ACalls Tryz.prog (gD m) g [.agg c, .agg d] σ K) (h : K (.bool true) σ) :
    ACalls Tryz.prog (gD m) 58 [va, vb, .fn (.func g) [] []] σ K := by
  refine ACalls_fn tok fm (fk58 _) ?_
  have hne : ((la.length : Int) != (lb.length : Int)) = false := by simp [hl]
  simp (disch := first | omega | (simp only [ln]; first | done | omega)) only [walkAll, walkL, walkK, wk, E, Nat.reduceEqDiff, Nat.reduceAdd, Nat.reduceSub, Nat.reduceLeDiff, Int.reduceLT, Int.reduceLE, Int.reduceAdd, Int.reduceSub, Int.reduceToNat, ↓reduceIte, c58, ha.len, hb.len, hne]
  refine sameAttr_loop va vb la lb g ha hb hl hlt hone (fun e' => ?_) la 0 _ rfl (by simp [put]) (by simp [put, E]) (by simp [put, E]) (by simp [put, E])
  simp (disch := first | omega | (simp only [ln]; first | done | omega)) only [walkAll, walkL, walkK, wk, E, Nat.reduceEqDiff, Nat.reduceAdd, Nat.reduceSub, Nat.reduceLeDiff, Int.reduceLT, Int.reduceLE, Int.reduceAdd, Int.reduceSub, Int.reduceToNat, ↓reduceIte]
  exact h

theorem atc_len (l : List (List UInt8 × List UInt8)) : ∀ e ∈ l.map atc, e.length = 2 := fun e he => by
  obtain ⟨a, _, rfl⟩ := List.mem_map.1 he; rfl
theorem plainAttr_c (l : List (List UInt8 × List UInt8)) (hl : l.length < 9223372036854775807) (h : K (.bool true) σ) : ACalls Tryz.prog (gD m) 35 [lsv (l.map atc), lsv (l.map atc)] σ K := by
  refine ACalls_fn tok fm (fk35 _) ?_
  simp (disch := first | omega | (simp only [ln]; first | done | omega)) only [walkAll, walkL, walkK, wk, E, Nat.reduceEqDiff, Nat.reduceAdd, Nat.reduceSub, Nat.reduceLeDiff, Int.reduceLT, Int.reduceLE, Int.reduceAdd, Int.reduceSub, Int.reduceToNat, ↓reduceIte, c35]
  refine sameAttr_c _ _ _ _ _ (rd_lsv (atc_len l) σ) (rd_lsv (atc_len l) σ) rfl (by simpa using hl) (fun i c d hc hd K hK => ?_) ?_
  · rw [hc] at hd; cases hd
    obtain ⟨a, _, rfl⟩ := List.mem_map.1 (List.mem_of_getElem? hc)
    exact plainAttr1_c a.1 a.2 hK
  · simp (disch := first | omega | (simp only [ln]; first | done | omega)) only [walkAll, walkL, walkK, wk, E, Nat.reduceEqDiff, Nat.reduceAdd, Nat.reduceSub, Nat.reduceLeDiff, Int.reduceLT, Int.reduceLE, Int.reduceAdd, Int.reduceSub, Int.reduceToNat, ↓reduceIte]
    exact h
theorem tok_len (l : List Tok) : ∀ e ∈ l.map Tok.c, e.length = 5 := fun e he => by
  obtain ⟨a, _, rfl⟩ := List.mem_map.1 he; rfl
end
end Go.Ab.Sz
namespace Go.Ab.Sz
open Go Go.Ab Go.Proofs Go.RowKit
set_option maxRecDepth 40000
set_option linter.unusedSimpArgs false
section
variable {m : Int} {σ : St} {K : AV → St → Prop}
end
end Go.Ab.Sz
namespace Go.Ab
open Go Go.Lib

def mayN (r : Nat) : Bool := r == 9 || r == 10 || r == 13 || (decide (32 ≤ r) && r != 65534 && r != 65535)
/-- The character at the head is one, and may be. -/
def chOk (l : List UInt8) : Bool := !(decide ((decodeL l).1 = 65533 ∧ (decodeL l).2 = 1)) && mayN (decodeL l).1
def utfF : Nat → List UInt8 → Bool
  | 0, l => l == []
  | n + 1, l => l == [] || (chOk l && utfF n (l.drop (decodeL l).2))
def utfB (l : List UInt8) : Bool := utfF l.length l
theorem utfF_fuel : ∀ (n m : Nat) (l : List UInt8), l.length ≤ n → l.length ≤ m → utfF n l = utfF m l
  | 0, 0, l, _, _ => rfl
  | 0, m + 1, l, hn, _ => by
    have : l = [] := List.eq_nil_of_length_eq_zero (by omega)
    subst this; rfl
  | n + 1, 0, l, _, hm => by
    have : l = [] := List.eq_nil_of_length_eq_zero (by omega)
    subst this; rfl
  | n + 1, m + 1, l, hn, hm => by
    simp only [utfF]
    by_cases h : l = []
    · subst h; rfl
    · have hw := decodeL_width l
      rw [utfF_fuel n m _ (by simp; omega) (by simp; omega)]
theorem utfB_step {l : List UInt8} (h : l ≠ []) : utfB l = (chOk l && utfB (l.drop (decodeL l).2)) := by
  unfold utfB
  cases l with
  | nil => exact absurd rfl h
  | cons a t =>
    have hw := decodeL_width (a :: t)
    simp only [List.length_cons, utfF]
    rw [utfF_fuel t.length _ ((a :: t).drop (decodeL (a :: t)).2) (by simp; omega) (Nat.le_refl _)]
    simp
theorem getD_app (l r : List UInt8) (k : Nat) (h : k < l.length) : (l ++ r).getD k 0 = l.getD k 0 := by
  simp [List.getD_eq_getElem?_getD, List.getElem?_append_left h]
set_option maxRecDepth 100000 in
theorem decodeL_app {l : List UInt8} (r : List UInt8) (hne : l ≠ []) (hv : ¬ ((decodeL l).1 = 65533 ∧ (decodeL l).2 = 1)) : decodeL (l ++ r) = decodeL l := by
  have hl : 0 < l.length := List.length_pos_iff.2 hne
  rw [decodeL_N] at hv
  rw [decodeL_N, decodeL_N, getD_app l r 0 hl]
  rcases decodeN_shape l.length (l.getD 0 0).toNat (l.getD 1 0).toNat (l.getD 2 0).toNat (l.getD 3 0).toNat with ⟨c, e⟩ | ⟨c1, c2, c3, cv, e⟩ | ⟨c1, c2, c3, c4, cv, cs, e⟩ | ⟨c1, c2, c3, c4, c5, cv, cw, e⟩ | e
  · rw [e]; unfold decodeN; rw [if_pos c]
  · rw [e, getD_app l r 1 c2]
    unfold decodeN
    rw [List.length_append]
    repeat' split
    all_goals first | (exfalso; omega) | rfl
  · rw [e, getD_app l r 1 (by omega), getD_app l r 2 (by omega)]
    unfold decodeN
    rw [List.length_append]
    repeat' split
    all_goals first | (exfalso; omega) | rfl
  · rw [e, getD_app l r 1 (by omega), getD_app l r 2 (by omega), getD_app l r 3 (by omega)]
    unfold decodeN
    rw [List.length_append]
    repeat' split
    all_goals first | (exfalso; omega) | rfl
  · rw [e] at hv; exact absurd ⟨rfl, rfl⟩ hv
theorem chOk_app {l : List UInt8} (r : List UInt8) (hne : l ≠ []) (h : chOk l = true) : decodeL (l ++ r) = decodeL l ∧ chOk (l ++ r) = true := by
  have hv : ¬ ((decodeL l).1 = 65533 ∧ (decodeL l).2 = 1) := by
    simp only [chOk, Bool.and_eq_true, Bool.not_eq_true', decide_eq_false_iff_not] at h; exact h.1
  have e := decodeL_app r hne hv
  exact ⟨e, by unfold chOk at *; rw [e]; exact h⟩
theorem utfB_app : ∀ (n : Nat) (a b : List UInt8), a.length ≤ n → utfB a = true → utfB (a ++ b) = utfB b
  | 0, a, b, hn, _ => by
    have : a = [] := List.eq_nil_of_length_eq_zero (by omega)
    subst this; rfl
  | n + 1, a, b, hn, h => by
    by_cases hne : a = []
    · subst hne; rfl
    · rw [utfB_step hne, Bool.and_eq_true] at h
      have hw := decodeL_width a
      have hle := decodeL_le a hne
      obtain ⟨e1, e2⟩ := chOk_app b hne h.1
      rw [utfB_step (by simp [hne]), e1, e2, Bool.true_and, List.drop_append_of_le_length hle]
      exact utfB_app n _ b (by simp; omega) h.2
theorem utfB_append {a : List UInt8} (b : List UInt8) (h : utfB a = true) : utfB (a ++ b) = utfB b := utfB_app _ a b (Nat.le_refl _) h
theorem utfB_one (c : UInt8) (l : List UInt8) (h : c.toNat < 128) (hm : mayN c.toNat = true) : utfB (c :: l) = utfB l := by
  rw [utfB_step (by simp)]
  have e := decodeL_ascii c l h
  unfold chOk
  rw [e, hm]
  have : ¬ (c.toNat = 65533 ∧ 1 = 1) := by omega
  simp
  omega
theorem utfB_ascii (l : List UInt8) (h : ∀ c ∈ l, c.toNat < 128 ∧ mayN c.toNat = true) : utfB l = true := by
  induction l with
  | nil => rfl
  | cons c l ih => rw [utfB_one c l (h c (by simp)).1 (h c (by simp)).2]; exact ih fun x hx => h x (by simp [hx])
/-- It is what the library tells. -/
theorem idx_utf (s : List UInt8) : ∀ (n f pos : Nat), (s.drop pos).length ≤ n → (s.drop pos).length ≤ f → validGoD n (s.drop pos) = true →
    decide (idxFuncFrom (fun x => !mayN x) true ⟨s.toArray⟩ f pos < 0) = utfF n (s.drop pos)
  | n, 0, pos, hn, hf, hv => by
    have : s.drop pos = [] := List.eq_nil_of_length_eq_zero (by omega)
    rw [this]
    cases n <;> simp [idxFuncFrom, utfF]
  | 0, f + 1, pos, hn, hf, hv => by
    have : s.drop pos = [] := List.eq_nil_of_length_eq_zero (by omega)
    rw [this]
    have hp : ¬ pos < (⟨s.toArray⟩ : ByteArray).size := by simp at this; show ¬ pos < s.toArray.size; simp; omega
    rw [idxFuncFrom_end _ _ _ _ _ hp]
    simp [utfF]
  | n + 1, f + 1, pos, hn, hf, hv => by
    by_cases hnil : s.drop pos = []
    · rw [hnil]
      have hp : ¬ pos < (⟨s.toArray⟩ : ByteArray).size := by simp at hnil; show ¬ pos < s.toArray.size; simp; omega
      rw [idxFuncFrom_end _ _ _ _ _ hp]
      simp [utfF]
    · have hlen : pos < s.length := by
        rcases Nat.lt_or_ge pos s.length with h | h
        · exact h
        · exact absurd (List.drop_of_length_le h) hnil
      have hp : pos < (⟨s.toArray⟩ : ByteArray).size := by show pos < s.toArray.size; simpa using hlen
      have hd : Utf8.decode ⟨s.toArray⟩ pos = decodeL (s.drop pos) := by rw [← decodeL_drop]
      have hw := decodeL_width (s.drop pos)
      simp only [validGoD, if_neg hnil] at hv
      split at hv
      · cases hv
      · rename_i hg
        unfold idxFuncFrom
        rw [if_pos hp, hd]
        simp only [utfF, chOk]
        rw [show (decide ((decodeL (s.drop pos)).1 = 65533 ∧ (decodeL (s.drop pos)).2 = 1)) = false from decide_eq_false hg]
        have hne : (s.drop pos == []) = false := by simpa using hnil
        rw [hne, Bool.false_or, Bool.not_false, Bool.true_and]
        cases hm : mayN (decodeL (s.drop pos)).1 with
        | false => simp
        | true =>
          simp only [Bool.not_true, Bool.false_eq_true, if_false, Bool.true_and]
          have e : (s.drop pos).drop (decodeL (s.drop pos)).2 = s.drop (pos + (decodeL (s.drop pos)).2) := by rw [List.drop_drop]
          rw [e] at hv ⊢
          exact idx_utf s n f _ (by simp at *; omega) (by simp at *; omega) hv
theorem valid_of_utf : ∀ (n : Nat) (l : List UInt8), l.length ≤ n → utfF n l = true → validGoD n l = true
  | 0, l, hn, _ => by
    have : l = [] := List.eq_nil_of_length_eq_zero (by omega)
    subst this; rfl
  | n + 1, l, hn, h => by
    simp only [validGoD]
    by_cases hne : l = []
    · rw [if_pos hne]
    · rw [if_neg hne]
      have hne' : (l == []) = false := by simpa using hne
      simp only [utfF, hne', Bool.false_or, chOk, Bool.and_eq_true, Bool.not_eq_true', decide_eq_false_iff_not] at h
      rw [if_neg h.1.1]
      have hw := decodeL_width l
      exact valid_of_utf n _ (by simp; omega) h.2
theorem utf_lib (s : List UInt8) : (validD s && decide (idxFunc (fun x => !mayN x) true ⟨s.toArray⟩ < 0)) = utfB s := by
  have hsz : (⟨s.toArray⟩ : ByteArray).size = s.length := by show s.toArray.size = _; simp
  cases hv : validD s with
  | true =>
    rw [Bool.true_and]
    unfold idxFunc
    rw [hsz]
    have := idx_utf s s.length s.length 0 (by simp) (by simp) (by rw [List.drop_zero]; exact hv)
    simpa [utfB] using this
  | false =>
    rw [Bool.false_and]
    cases hu : utfB s with
    | false => rfl
    | true => rw [show validD s = true from valid_of_utf _ _ (Nat.le_refl _) hu] at hv; cases hv
end Go.Ab
namespace Go.Ab
open Go Go.Lib
set_option maxRecDepth 100000 in
/-- A character by itself, and its bytes. -/
theorem chr_take {l : List UInt8} (hne : l ≠ []) (h : chOk l = true) : utfB (l.take (decodeL l).2) = true ∧ ((decodeL l).2 = 1 ∧ (l.getD 0 0).toNat < 128 ∨ ∀ c ∈ l.take (decodeL l).2, 128 ≤ c.toNat) := by
  have hl : 0 < l.length := List.length_pos_iff.2 hne
  have hle := decodeL_le l hne
  have hw := decodeL_width l
  have hv : ¬ ((decodeL l).1 = 65533 ∧ (decodeL l).2 = 1) := by
    simp only [chOk, Bool.and_eq_true, Bool.not_eq_true', decide_eq_false_iff_not] at h; exact h.1
  have htne : l.take (decodeL l).2 ≠ [] := by
    intro e; have := congrArg List.length e; rw [List.length_take, List.length_nil] at this; omega
  have hgt : ∀ k, k < (decodeL l).2 → (l.take (decodeL l).2).getD k 0 = l.getD k 0 := fun k hk => by
    simp [List.getD_eq_getElem?_getD, List.getElem?_take, hk]
  have hlt : (l.take (decodeL l).2).length = (decodeL l).2 := by simp; omega
  have key : decodeL (l.take (decodeL l).2) = decodeL l ∧ ((decodeL l).2 = 1 ∧ (l.getD 0 0).toNat < 128 ∨ ∀ k, k < (decodeL l).2 → 128 ≤ (l.getD k 0).toNat) := by
    rw [decodeL_N (l.take (decodeL l).2), hlt, hgt 0 (by omega)]
    rw [decodeL_N l] at hv hw hgt ⊢
    rcases decodeN_shape l.length (l.getD 0 0).toNat (l.getD 1 0).toNat (l.getD 2 0).toNat (l.getD 3 0).toNat with ⟨c, e⟩ | ⟨c1, c2, c3, cv, e⟩ | ⟨c1, c2, c3, c4, cv, cs, e⟩ | ⟨c1, c2, c3, c4, c5, cv, cw, e⟩ | e
    · rw [e]; refine ⟨?_, .inl ⟨rfl, c⟩⟩; unfold decodeN; rw [if_pos c]
    · rw [e] at hgt ⊢
      refine ⟨?_, .inr fun k hk => ?_⟩
      · rw [hgt 1 (by show 1 < 2; decide)]; unfold decodeN; rw [if_neg (by omega), if_pos (by omega), if_pos (by omega)]
      · have hk' : k < 2 := hk
        match k, hk' with
        | 0, _ => omega
        | 1, _ => omega
    · rw [e] at hgt ⊢
      refine ⟨?_, .inr fun k hk => ?_⟩
      · rw [hgt 1 (by show 1 < 3; decide), hgt 2 (by show 2 < 3; decide)]; unfold decodeN; rw [if_neg (by omega), if_neg (by omega), if_pos (by omega), if_pos (by omega)]
      · have hk' : k < 3 := hk
        match k, hk' with
        | 0, _ => omega
        | 1, _ => omega
        | 2, _ => omega
    · rw [e] at hgt ⊢
      refine ⟨?_, .inr fun k hk => ?_⟩
      · rw [hgt 1 (by show 1 < 4; decide), hgt 2 (by show 2 < 4; decide), hgt 3 (by show 3 < 4; decide)]; unfold decodeN; rw [if_neg (by omega), if_neg (by omega), if_neg (by omega), if_pos (by omega), if_pos (by omega)]
      · have hk' : k < 4 := hk
        match k, hk' with
        | 0, _ => omega
        | 1, _ => omega
        | 2, _ => omega
        | 3, _ => omega
    · rw [e] at hv; exact absurd ⟨rfl, rfl⟩ hv
  refine ⟨?_, key.2.imp id fun hk c hc => ?_⟩
  · rw [utfB_step htne]
    unfold chOk at *
    rw [key.1, h, Bool.true_and, List.drop_of_length_le (by rw [hlt]; exact Nat.le_refl _)]
    rfl
  · obtain ⟨k, hk', he⟩ := List.getElem_of_mem hc
    have h2 : k < (decodeL l).2 := by rw [hlt] at hk'; exact hk'
    have := hk k h2
    rw [← hgt k h2] at this
    rw [List.getD_eq_getElem?_getD, List.getElem?_eq_getElem hk', he] at this
    exact this
/-- A text, character by character. -/
theorem utfB_ind {P : List UInt8 → Prop} (h0 : P []) (h1 : ∀ a r, a ≠ [] → utfB a = true → ((∃ c, a = [c] ∧ c.toNat < 128) ∨ ∀ c ∈ a, 128 ≤ c.toNat) → utfB r = true → P r → P (a ++ r)) : ∀ (n : Nat) (l : List UInt8), l.length ≤ n → utfB l = true → P l
  | 0, l, hn, _ => by
    have : l = [] := List.eq_nil_of_length_eq_zero (by omega)
    subst this; exact h0
  | n + 1, l, hn, h => by
    by_cases hne : l = []
    · subst hne; exact h0
    · have hs := h
      rw [utfB_step hne, Bool.and_eq_true] at hs
      have hw := decodeL_width l
      have hle := decodeL_le l hne
      obtain ⟨k1, k2⟩ := chr_take hne hs.1
      have e := List.take_append_drop (decodeL l).2 l
      have hl : 0 < l.length := List.length_pos_iff.2 hne
      rw [← e]
      refine h1 _ _ (by intro e; have := congrArg List.length e; rw [List.length_take, List.length_nil] at this; omega) k1 (k2.imp (fun ⟨a, b⟩ => ?_) id) hs.2 (utfB_ind h0 h1 n _ (by simp; omega) hs.2)
      cases l with
      | nil => exact absurd rfl hne
      | cons c t => exact ⟨c, by rw [a]; rfl, by simpa using b⟩
end Go.Ab
namespace Go.Ab
open Go Go.Lib

theorem ib_none {b : UInt8} : ∀ {s : List UInt8}, b ∉ s → indexByte s b = -1
  | [], _ => rfl
  | a :: s, h => by
    simp only [List.mem_cons, not_or] at h
    unfold indexByte
    rw [if_neg (by simpa using fun e => h.1 e.symm), ib_none h.2]; rfl
theorem ib_at {b : UInt8} : ∀ {a : List UInt8} (r : List UInt8), b ∉ a → indexByte (a ++ b :: r) b = a.length
  | [], r, _ => by simp [indexByte]
  | c :: a, r, h => by
    simp only [List.mem_cons, not_or] at h
    rw [List.cons_append]
    unfold indexByte
    have hne : ((a.length : Int) == -1) = false := by rw [beq_eq_false_iff_ne]; omega
    rw [if_neg (by simpa using fun e => h.1 e.symm), ib_at r h.2, hne]
    simp
theorem index_ib (b : UInt8) : ∀ s : List UInt8, index s [b] = indexByte s b
  | [] => rfl
  | a :: s => by
    unfold index indexByte
    rw [index_ib b s]
    have : ([b].isPrefixOf (a :: s)) = (a == b) := by simp [List.isPrefixOf, Bool.beq_comm]
    rw [this]
theorem cut_none {b : UInt8} {s : List UInt8} (h : b ∉ s) : cut s [b] = (s, [], false) := by
  unfold cut; rw [index_ib, ib_none h, if_neg (by decide)]
theorem cut_at {b : UInt8} {a : List UInt8} (r : List UInt8) (h : b ∉ a) : cut (a ++ b :: r) [b] = (a, r, true) := by
  unfold cut
  rw [index_ib, ib_at r h, if_pos (by omega)]
  simp
theorem contains_none {b : UInt8} {s : List UInt8} (h : b ∉ s) : contains s [b] = false := by
  unfold contains; rw [index_ib, ib_none h]; rfl
theorem split_mem {b : UInt8} : ∀ {s : List UInt8}, b ∈ s → ∃ a r, s = a ++ b :: r ∧ b ∉ a
  | c :: s, h => by
    by_cases e : c = b
    · subst e; exact ⟨[], s, rfl, by simp⟩
    · obtain ⟨a, r, rfl, hn⟩ := split_mem (s := s) (by rcases List.mem_cons.1 h with h | h
                                                       · exact absurd h.symm e
                                                       · exact h)
      exact ⟨c :: a, r, rfl, by simp [hn]; exact fun h => e h.symm⟩
theorem contains_mem {b : UInt8} {s : List UInt8} (h : b ∈ s) : contains s [b] = true := by
  obtain ⟨a, r, rfl, hn⟩ := split_mem h
  unfold contains; rw [index_ib, ib_at r hn]; exact decide_eq_true (by omega)
theorem contains_iff (b : UInt8) (s : List UInt8) : contains s [b] = decide (b ∈ s) := by
  by_cases h : b ∈ s
  · rw [contains_mem h, decide_eq_true h]
  · rw [contains_none h, decide_eq_false h]
theorem pre_self (p r : List UInt8) : hasPrefix (p ++ r) p = true := by
  unfold hasPrefix; rw [List.isPrefixOf_iff_prefix]; exact List.prefix_append p r
theorem trim_self (p r : List UInt8) : trimPrefix (p ++ r) p = r := by
  unfold trimPrefix; rw [pre_self]; simp
theorem pre_cons (a b : UInt8) (s p : List UInt8) : hasPrefix (a :: s) (b :: p) = (b == a && hasPrefix s p) := rfl
theorem pre_nil (s : List UInt8) : hasPrefix s [] = true := by unfold hasPrefix; simp
theorem trim_no {s p : List UInt8} (h : hasPrefix s p = false) : trimPrefix s p = s := by unfold trimPrefix; rw [h]; rfl
/-! ### The bytes of a character -/
end Go.Ab
namespace Go.Ab.Sz
open Go Go.Ab Go.Proofs Go.RowKit
set_option maxRecDepth 40000
theorem mayS_N (r : Nat) : mayS (r : Int) = mayN r := by
  have h : ∀ k : Nat, (((r : Int) == (k : Int)) : Bool) = (r == k) := fun k => by rw [Bool.eq_iff_iff]; simp; omega
  have e : decide ((32 : Int) ≤ (r : Int)) = decide (32 ≤ r) := by rw [decide_eq_decide]; omega
  have a := h 9; have b := h 10; have c := h 13; have d := h 65534; have f := h 65535
  simp only [mayS, mayN, bne] at *
  rw [← a, ← b, ← c, ← d, ← f, ← e]
  rfl
theorem utf8S_B (s : List UInt8) : utf8S s = utfB s := by
  rw [← utf_lib s]
  unfold utf8S
  rw [show (fun x : Nat => !mayS (x : Int)) = (fun x => !mayN x) from funext fun x => by rw [mayS_N]]
theorem dropWhile_all (p : UInt8 → Bool) : ∀ (s : List UInt8), (∀ c ∈ s, p c = true) → s.dropWhile p = []
  | [], _ => rfl
  | c :: s, h => by rw [List.dropWhile_cons_of_pos (h c (by simp))]; exact dropWhile_all p s fun x hx => h x (by simp [hx])
/-- A sign of a number. -/
def hx (c : Nat) : UInt8 := if c < 10 then UInt8.ofNat (48 + c) else UInt8.ofNat (87 + c)
end Go.Ab.Sz
namespace Go.Ab.Sz
open Go Go.Ab Go.Proofs Go.RowKit Go.Lib
set_option maxRecDepth 40000
set_option linter.unusedSimpArgs false
section
variable {m : Int} {σ : St} {K : AV → St → Prop}
end
end Go.Ab.Sz
namespace Go.Ab.Sz
open Go Go.Ab Go.Proofs Go.RowKit Go.Lib
set_option maxRecDepth 100000
set_option linter.unusedSimpArgs false
section
variable {m : Int} {σ : St} {K : AV → St → Prop}
end
end Go.Ab.Sz
namespace Go.Ab.Sz
open Go Go.Ab Go.Proofs Go.RowKit
set_option maxRecDepth 40000
set_option linter.unusedSimpArgs false
section
variable {m : Int} {σ : St} {K : AV → St → Prop}
end
end Go.Ab.Sz
namespace Go.Ab.Sz
open Go Go.Ab Go.Proofs Go.RowKit
def esc1 (c : UInt8) : List UInt8 := if c = 38 then [38, 97, 109, 112, 59] else if c = 60 then [38, 108, 116, 59] else if c = 62 then [38, 103, 116, 59] else if c = 34 then [38, 113, 117, 111, 116, 59] else [c]
def escS (s : List UInt8) : List UInt8 := s.flatMap esc1
theorem escS_len (s : List UInt8) : (escS s).length ≤ 6 * s.length := by
  induction s with
  | nil => simp [escS]
  | cons a s ih =>
    have : (esc1 a).length ≤ 6 := by unfold esc1; split <;> (try split) <;> (try split) <;> (try split) <;> simp
    simp only [escS, List.flatMap_cons, List.length_append, List.length_cons] at *
    omega
end Go.Ab.Sz
namespace Go.Ab.Sz
open Go Go.Ab Go.Proofs Go.RowKit
set_option maxRecDepth 40000
def spec4 (c : UInt8) : Bool := c == 38 || c == 60 || c == 62 || c == 34
theorem esc1_plain {c : UInt8} (h : spec4 c = false) : esc1 c = [c] := by
  simp only [spec4, Bool.or_eq_false_iff, beq_eq_false_iff_ne] at h
  unfold esc1
  rw [if_neg h.1.1.1, if_neg h.1.1.2, if_neg h.1.2, if_neg h.2]
theorem escS_app (a b : List UInt8) : escS (a ++ b) = escS a ++ escS b := by simp [escS]
theorem escS_plain : ∀ (a : List UInt8), (∀ c ∈ a, spec4 c = false) → escS a = a
  | [], _ => rfl
  | c :: a, h => by
    have := escS_plain a fun x hx => h x (by simp [hx])
    simp only [escS, List.flatMap_cons] at *
    rw [esc1_plain (h c (by simp)), this]; rfl
theorem esc1_form {c : UInt8} (h : spec4 c = true) : ∃ nm, esc1 c = 38 :: nm ++ [59] ∧ 38 ∉ nm ∧ 59 ∉ nm ∧ nm.length ≤ 4 ∧ signS nm = [c] ∧ (∀ x ∈ nm, x.toNat < 128 ∧ mayN x.toNat = true ∧ x ≠ 60 ∧ x ≠ 34) := by
  simp only [spec4, Bool.or_eq_true, beq_iff_eq] at h
  rcases h with ((rfl | rfl) | rfl) | rfl
  · exact ⟨[97, 109, 112], rfl, by decide, by decide, by decide, by kernel_rfl, by decide⟩
  · exact ⟨[108, 116], rfl, by decide, by decide, by decide, by kernel_rfl, by decide⟩
  · exact ⟨[103, 116], rfl, by decide, by decide, by decide, by kernel_rfl, by decide⟩
  · exact ⟨[113, 117, 111, 116], rfl, by decide, by decide, by decide, by kernel_rfl, by decide⟩
theorem escS_no (b : UInt8) (hb : b = 60 ∨ b = 34) : ∀ s : List UInt8, b ∉ escS s
  | [] => by simp [escS]
  | c :: s => by
    have ih := escS_no b hb s
    have h1 : b ∉ esc1 c := by
      cases h : spec4 c with
      | false =>
        rw [esc1_plain h]
        simp only [spec4, Bool.or_eq_false_iff, beq_eq_false_iff_ne] at h
        intro hm
        have e : b = c := by simpa using hm
        rcases hb with rfl | rfl
        · exact h.1.1.2 e.symm
        · exact h.2 e.symm
      | true =>
        obtain ⟨nm, e, h1, h2, h3, h4, h5⟩ := esc1_form h
        rw [e]
        intro hm
        rcases List.mem_cons.1 hm with hm | hm
        · rcases hb with rfl | rfl <;> exact absurd hm (by decide)
        · rcases List.mem_append.1 hm with hm | hm
          · rcases hb with rfl | rfl
            · exact (h5 _ hm).2.2.1 rfl
            · exact (h5 _ hm).2.2.2 rfl
          · rcases hb with rfl | rfl <;> simp at hm
    simp only [escS, List.flatMap_cons, List.mem_append, not_or] at *
    exact ⟨h1, ih⟩
theorem split_spec (s : List UInt8) : (∀ c ∈ s, spec4 c = false) ∨ ∃ a c r, s = a ++ c :: r ∧ (∀ x ∈ a, spec4 x = false) ∧ spec4 c = true := by
  induction s with
  | nil => exact .inl (by simp)
  | cons x s ih =>
    cases h : spec4 x with
    | true => exact .inr ⟨[], x, s, rfl, by simp, h⟩
    | false =>
      rcases ih with ih | ⟨a, c, r, rfl, h1, h2⟩
      · exact .inl fun c hc => by
          rcases List.mem_cons.1 hc with rfl | hc
          · exact h
          · exact ih c hc
      · exact .inr ⟨x :: a, c, r, rfl, fun y hy => by
          rcases List.mem_cons.1 hy with rfl | hy
          · exact h
          · exact h1 y hy, h2⟩
theorem valueS_esc : ∀ (n k : Nat) (s out : List UInt8), s.length ≤ k → (escS s).length < n → valueS n (escS s) out = (out ++ s, true) := by
  intro n k
  induction k generalizing n with
  | zero =>
    intro s out hk hn
    have : s = [] := List.eq_nil_of_length_eq_zero (by omega)
    subst this
    cases n with
    | zero => simp at hn
    | succ n =>
      show valueS (n + 1) [] out = _
      rw [valueS, cut_none (by simp)]; simp
  | succ k ih =>
    intro s out hk hn
    cases n with
    | zero => simp at hn
    | succ n =>
      rcases split_spec s with h | ⟨a, c, r, rfl, h1, h2⟩
      · rw [escS_plain s h, valueS, cut_none (fun hm => by have := h _ hm; simp [spec4] at this)]; simp
      · obtain ⟨nm, e, k1, k2, k3, k4, k5⟩ := esc1_form h2
        have he : escS (a ++ c :: r) = a ++ 38 :: (nm ++ 59 :: escS r) := by
          rw [escS_app, escS_plain a h1]
          simp only [escS, List.flatMap_cons, e]
          simp
        have ha : (38 : UInt8) ∉ a := fun hm => by have := h1 _ hm; simp [spec4] at this
        rw [he] at hn ⊢
        rw [valueS, cut_at _ ha]
        simp only [if_true, cut_at _ k2, k4, Bool.not_true, Bool.false_or]
        rw [show (([c] : List UInt8) == []) = false from rfl]
        simp only [Bool.false_eq_true, if_false]
        rw [ih n r _ (by simp at hk; omega) (by simp at hn; omega)]
        simp
theorem valS_esc (s : List UInt8) : valS (escS s) = (s, true) := by
  unfold valS; rw [valueS_esc _ s.length s [] (Nat.le_refl _) (by omega)]; simp
theorem utf_escS (s : List UInt8) (h : utfB s = true) : utfB (escS s) = true := by
  refine utfB_ind (P := fun l => utfB (escS l) = true) rfl (fun a r hne hu hc hr ih => ?_) s.length s (Nat.le_refl _) h
  rw [escS_app]
  have ha : utfB (escS a) = true := by
    rcases hc with ⟨c, rfl, hlt⟩ | hc
    · cases hs : spec4 c with
      | false =>
        have : escS [c] = [c] := escS_plain [c] (by simpa using hs)
        rw [this]; exact hu
      | true =>
        obtain ⟨nm, e, k1, k2, k3, k4, k5⟩ := esc1_form hs
        have : escS [c] = 38 :: nm ++ [59] := by simp only [escS, List.flatMap_cons, List.flatMap_nil, e, List.append_nil]
        rw [this]
        apply utfB_ascii
        intro x hx
        rcases List.mem_cons.1 hx with rfl | hx
        · decide
        · rcases List.mem_append.1 hx with hx | hx
          · exact ⟨(k5 x hx).1, (k5 x hx).2.1⟩
          · simp at hx; subst hx; decide
    · rw [escS_plain a fun c hcm => by
        have := hc c hcm
        simp only [spec4, Bool.or_eq_false_iff, beq_eq_false_iff_ne]
        refine ⟨⟨⟨?_, ?_⟩, ?_⟩, ?_⟩ <;> (intro e; subst e; exact absurd this (by decide))]
      exact hu
  rw [utfB_append _ ha]
  exact ih
theorem escS_nil {s : List UInt8} (h : escS s = []) : s = [] := by
  cases s with
  | nil => rfl
  | cons c s =>
    simp only [escS, List.flatMap_cons] at h
    have h1 := (List.append_eq_nil_iff.1 h).1
    cases hs : spec4 c with
    | false => rw [esc1_plain hs] at h1; cases h1
    | true => obtain ⟨nm, e, _⟩ := esc1_form hs; rw [e] at h1; simp at h1
/-! ### Tokens, without a bound on rounds -/
theorem tokN_fuel : ∀ (n m : Nat) (s : List UInt8), s.length < n → s.length < m → tokN n s = tokN m s
  | 0, _, _, h, _ => by omega
  | _, 0, _, _, h => by omega
  | n + 1, m + 1, s, hn, hm => by
    simp only [tokN]
    cases h : s == [] with
    | true => rfl
    | false =>
      have := tokS_len (s := s) (by intro e; rw [e] at h; cases h)
      rw [tokN_fuel n m _ (by omega) (by omega)]
def tokD (s : List UInt8) : Option (List Tok) := tokN (s.length + 1) s
theorem tokD_nil : tokD [] = some [] := rfl
theorem tokD_step {s : List UInt8} (h : s ≠ []) : tokD s = if (tokS s).2.1 then (tokD (tokS s).2.2).map ((tokS s).1 :: ·) else none := by
  have hl := tokS_len h
  unfold tokD
  rw [tokN, show (s == []) = false by simpa using h]
  simp only [Bool.false_eq_true, if_false]
  rw [tokN_fuel s.length ((tokS s).2.2.length + 1) _ (by omega) (by omega)]
theorem toksS_D {s : List UInt8} {l : List Tok} (h1 : s.length ≤ 4096) (h2 : utfB s = true) (h3 : Lib.hasPrefix s prologL = false) (h4 : tokD s = some l) : toksS s = (l, 0) := by
  unfold toksS
  rw [if_neg (by omega), utf8S_B, h2, trim_no h3]
  simp only [Bool.not_true, Bool.false_eq_true, if_false]
  rw [show tokN (s.length + 1) s = some l from h4]
/-- A text ahead of a sign. -/
theorem tok_text (e r : List UInt8) (he : e ≠ []) (h60 : 60 ∉ e) : tokS (e ++ 60 :: r) = (⟨3, [], (valS e).1, [], false⟩, (valS e).2, 60 :: r) := by
  cases e with
  | nil => exact absurd rfl he
  | cons c e =>
    have hc : (60 == c) = false := by
      have : c ≠ 60 := fun h => h60 (by simp [h])
      rw [beq_eq_false_iff_ne]; exact fun h => this h.symm
    unfold tokS
    rw [show Lib.hasPrefix (c :: e ++ 60 :: r) [60, 47] = false by rw [List.cons_append, pre_cons, hc]; rfl, show Lib.hasPrefix (c :: e ++ 60 :: r) [60] = false by rw [List.cons_append, pre_cons, hc]; rfl]
    simp only [Bool.false_eq_true, if_false, plainS]
    have hp : plainN (c :: e ++ 60 :: r) = (c :: e).length := by
      unfold plainN; rw [ib_at r h60, if_neg (by omega)]; simp
    rw [hp, List.take_left, List.drop_left]
end Go.Ab.Sz
namespace Go.Ab.Sz
open Go Go.Ab Go.Proofs Go.RowKit
set_option maxRecDepth 40000
theorem tw_app (p : UInt8 → Bool) : ∀ (a b : List UInt8), (∀ c ∈ a, p c = true) → (∀ c r, b = c :: r → p c = false) → (a ++ b).takeWhile p = a ∧ (a ++ b).dropWhile p = b
  | [], b, _, hb => by
    cases b with
    | nil => exact ⟨rfl, rfl⟩
    | cons c r => have := hb c r rfl; simp [List.takeWhile, List.dropWhile, this]
  | x :: a, b, ha, hb => by
    have hx := ha x (by simp)
    obtain ⟨h1, h2⟩ := tw_app p a b (fun c hc => ha c (by simp [hc])) hb
    simp only [List.cons_append]
    rw [List.takeWhile_cons_of_pos hx, List.dropWhile_cons_of_pos hx, h1, h2]
    exact ⟨rfl, rfl⟩
/-- Blanks alone. -/
def Bl (g : List UInt8) : Prop := ∀ c ∈ g, c ∈ blanksL
theorem bl_drop {g : List UInt8} (h : Bl g) (c : UInt8) (r : List UInt8) (hc : c ∉ blanksL) : (g ++ c :: r).takeWhile blanksL.contains = g ∧ (g ++ c :: r).dropWhile blanksL.contains = c :: r :=
  tw_app _ _ _ (fun x hx => by simpa using h x hx) (fun x r' he => by cases he; simpa using hc)
/-- A name, and no sign of a name behind it. -/
structure NameOf (nm : List UInt8) : Prop where
  first : ∃ c r, nm = c :: r ∧ c ∈ firsts
  all : ∀ c ∈ nm, c ∈ withins
theorem name_eq {nm : List UInt8} (h : NameOf nm) (c : UInt8) (r : List UInt8) (hc : c ∉ withins) : nameS (nm ++ c :: r) = (nm, c :: r) := by
  obtain ⟨x, t, rfl, hx⟩ := h.first
  obtain ⟨h1, h2⟩ := tw_app withins.contains (x :: t) (c :: r) (fun y hy => by simpa using h.all y hy) (fun y r' he => by cases he; simpa using hc)
  unfold nameS
  rw [show ((x :: t ++ c :: r) == []) = false from rfl, show (x :: t ++ c :: r).take 1 = [x] from rfl, contains_mem hx]
  simp only [Bool.not_true, Bool.or_self, Bool.false_eq_true, if_false]
  rw [h1, h2]
theorem bl_of {c : UInt8} (h : c ∈ blanksL) : c ∉ withins ∧ c ≠ 62 ∧ c ≠ 47 ∧ c ≠ 61 := by
  have : ∀ c ∈ blanksL, c ∉ withins ∧ c ≠ 62 ∧ c ≠ 47 ∧ c ≠ 61 := by decide
  exact this c h
theorem first_of {c : UInt8} (h : c ∈ firsts) : c ∉ blanksL ∧ c ≠ 62 ∧ c ≠ 47 ∧ c ≠ 61 := by
  have : ∀ c ∈ firsts, c ∉ blanksL ∧ c ≠ 62 ∧ c ≠ 47 ∧ c ≠ 61 := by decide
  exact this c h
/-- A name ahead of blanks and a sign. -/
theorem name_bl {nm g : List UInt8} (h : NameOf nm) (hg : Bl g) (c : UInt8) (r : List UInt8) (hc : c ∉ withins) : nameS (nm ++ (g ++ c :: r)) = (nm, g ++ c :: r) := by
  cases g with
  | nil => exact name_eq h c r hc
  | cons x g => exact name_eq h x (g ++ c :: r) (bl_of (hg x (by simp))).1
theorem attr_eq {nm g1 g2 e v r : List UInt8} (h : NameOf nm) (h1 : Bl g1) (h2 : Bl g2) (h34 : 34 ∉ e) (h60 : 60 ∉ e) (hv : valS e = (v, true)) :
    attrS (nm ++ (g1 ++ 61 :: (g2 ++ 34 :: (e ++ 34 :: r)))) = (nm, v, true, r) := by
  have n := name_bl h h1 61 (g2 ++ 34 :: (e ++ 34 :: r)) (by decide)
  have d1 := (bl_drop h1 61 (g2 ++ 34 :: (e ++ 34 :: r)) (by decide)).2
  have d2 := (bl_drop h2 34 (e ++ 34 :: r) (by decide)).2
  have a2 : attr2 (nm ++ (g1 ++ 61 :: (g2 ++ 34 :: (e ++ 34 :: r)))) = 61 :: (g2 ++ 34 :: (e ++ 34 :: r)) := by unfold attr2; rw [n]; exact d1
  have a4 : attr4 (nm ++ (g1 ++ 61 :: (g2 ++ 34 :: (e ++ 34 :: r)))) = 34 :: (e ++ 34 :: r) := by
    unfold attr4; rw [a2, show Lib.trimPrefix (61 :: (g2 ++ 34 :: (e ++ 34 :: r))) [61] = g2 ++ 34 :: (e ++ 34 :: r) from trim_self [61] _]; exact d2
  have hne : (nm == []) = false := by obtain ⟨c, t, rfl, _⟩ := h.first; rfl
  unfold attrS
  rw [a2, a4, n]
  simp only [hne, Bool.false_eq_true, if_false]
  rw [show Lib.hasPrefix (61 :: (g2 ++ 34 :: (e ++ 34 :: r))) [61] = true from pre_self [61] _]
  simp only [Bool.not_true, Bool.false_eq_true, if_false]
  have q : quotedS (34 :: (e ++ 34 :: r)) = (v, true, r) := by
    unfold quotedS
    rw [if_pos (show Lib.hasPrefix (34 :: (e ++ 34 :: r)) [34] = true from pre_self [34] _)]
    unfold quoted1
    rw [show Lib.trimPrefix (34 :: (e ++ 34 :: r)) [34] = e ++ 34 :: r from trim_self [34] _, cut_at r h34, hv, contains_none h60]
    rfl
  rw [q]
theorem open_attr {nm g v r s1 : List UInt8} {al : List (List UInt8 × List UInt8)} (n : Nat) (hg : Bl g) (hg0 : g ≠ []) {c : UInt8} {t : List UInt8} (hs : s1 = c :: t) (hc : c ∈ firsts) (ha : attrS s1 = (nm, v, true, r)) (hno : al.any (fun x => x.1 == nm) = false) :
    openL (n + 1) (g ++ s1) al = openL n r (al ++ [(nm, v)]) := by
  subst hs
  obtain ⟨f1, f2, f3, f4⟩ := first_of hc
  obtain ⟨d1, d2⟩ := bl_drop hg c t f1
  have p1 : Lib.hasPrefix (c :: t) [62] = false := by rw [pre_cons, show ((62 : UInt8) == c) = false by rw [beq_eq_false_iff_ne]; exact fun h => f2 h.symm]; rfl
  have p2 : Lib.hasPrefix (c :: t) [47, 62] = false := by rw [pre_cons, show ((47 : UInt8) == c) = false by rw [beq_eq_false_iff_ne]; exact fun h => f3 h.symm]; rfl
  have g0 : (g == []) = false := by simpa using hg0
  rw [openL, d1, d2, p1, p2, ha]
  simp only [Bool.false_eq_true, if_false, g0, Bool.not_true, Bool.or_self, hno]
theorem open_end {g r : List UInt8} {al : List (List UInt8 × List UInt8)} (n : Nat) (hg : Bl g) : openL (n + 1) (g ++ 62 :: r) al = (al, false, true, r) := by
  obtain ⟨d1, d2⟩ := bl_drop hg 62 r (by decide)
  rw [openL, d2, if_pos (show Lib.hasPrefix (62 :: r) [62] = true from pre_self [62] r), show Lib.trimPrefix (62 :: r) [62] = r from trim_self [62] r]
theorem open_empty {g r : List UInt8} {al : List (List UInt8 × List UInt8)} (n : Nat) (hg : Bl g) : openL (n + 1) (g ++ 47 :: 62 :: r) al = (al, true, true, r) := by
  obtain ⟨d1, d2⟩ := bl_drop hg 47 (62 :: r) (by decide)
  rw [openL, d2, if_neg (show ¬ Lib.hasPrefix (47 :: 62 :: r) [62] = true by rw [pre_cons, show ((62 : UInt8) == 47) = false from rfl, Bool.false_and]; exact Bool.false_ne_true), if_pos (show Lib.hasPrefix (47 :: 62 :: r) [47, 62] = true from pre_self [47, 62] r), show Lib.trimPrefix (47 :: 62 :: r) [47, 62] = r from trim_self [47, 62] r]
/-- A beginning, its name told. -/
theorem tok_open {nm t : List UInt8} {al : List (List UInt8 × List UInt8)} {em : Bool} {r : List UInt8} (h : NameOf nm) (hn : nameS (nm ++ t) = (nm, t)) (ho : openL (t.length + 1) t [] = (al, em, true, r)) : tokS (60 :: (nm ++ t)) = (⟨1, nm, [], al, em⟩, true, r) := by
  obtain ⟨c, q, rfl, hc⟩ := h.first
  have hne : (47 == c) = false := by rw [beq_eq_false_iff_ne]; exact fun e => (first_of hc).2.2.1 e.symm
  unfold tokS
  rw [show Lib.hasPrefix (60 :: (c :: q ++ t)) [60, 47] = false by rw [pre_cons, List.cons_append, pre_cons, hne]; rfl, show Lib.hasPrefix (60 :: (c :: q ++ t)) [60] = true from pre_self [60] _]
  simp only [Bool.false_eq_true, if_false, if_true]
  rw [show Lib.trimPrefix (60 :: (c :: q ++ t)) [60] = c :: q ++ t from trim_self [60] _]
  unfold openS
  rw [hn]
  simp only [show ((c :: q) == ([] : List UInt8)) = false from rfl, Bool.false_eq_true, if_false, ho]
theorem tok_end {nm g r : List UInt8} (h : NameOf nm) (hg : Bl g) : tokS (60 :: 47 :: (nm ++ (g ++ 62 :: r))) = (⟨2, nm, [], [], false⟩, true, r) := by
  have n := name_bl h hg 62 r (by decide)
  have d := (bl_drop hg 62 r (by decide)).2
  have hne : (nm == []) = false := by obtain ⟨c, t, rfl, _⟩ := h.first; rfl
  unfold tokS
  rw [show Lib.hasPrefix (60 :: 47 :: (nm ++ (g ++ 62 :: r))) [60, 47] = true from pre_self [60, 47] _]
  simp only [if_true]
  rw [show Lib.trimPrefix (60 :: 47 :: (nm ++ (g ++ 62 :: r))) [60, 47] = nm ++ (g ++ 62 :: r) from trim_self [60, 47] _]
  unfold endS
  rw [n]
  simp only [hne, Bool.false_eq_true, if_false]
  rw [d, show Lib.hasPrefix (62 :: r) [62] = true from pre_self [62] r, show Lib.trimPrefix (62 :: r) [62] = r from trim_self [62] r]
theorem bl_nil : Bl [] := fun c hc => by cases hc
theorem bl_sp : Bl [32] := fun c hc => by simp at hc; subst hc; decide
/-! ### The text of TokenTexts -/
theorem asc1 {c : UInt8} (h : c.toNat < 128 ∧ mayN c.toNat = true) (l : List UInt8) : utfB (c :: l) = utfB l := utfB_one c l h.1 h.2
end Go.Ab.Sz
