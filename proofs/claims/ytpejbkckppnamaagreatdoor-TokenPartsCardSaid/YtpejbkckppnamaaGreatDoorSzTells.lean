/- Part of this work: see the text that closes the claim. -/
import Derived.Test.YtpejbkckppnamaaGreatDoorR7
import Derived.Test.YtpejbkckppnamaaGreatDoorRef
set_option linter.all false
set_option linter.unusedVariables false
set_option linter.unusedSimpArgs false
namespace Go.Ab.Sz
open Go Go.Ab Go.Proofs Go.RowKit
set_option maxRecDepth 40000
set_option linter.unusedSimpArgs false
theorem rOpenL_att : ∀ (n : Nat) (r : List UInt8) (al l : List (List UInt8 × List UInt8)) (em : Bool) (t : List UInt8), rOpenL n r al = some (l, em, t) → l.length ≤ al.length + r.length
  | 0, r, al, l, em, t, h => by cases h
  | n + 1, r, al, l, em, t, h => by
    have d1 := dropWhile_len blanksL.contains r
    simp only [rOpenL] at h
    split at h
    · cases h; omega
    · split at h
      · cases h; omega
      · split at h
        · cases h
        · split at h
          · cases h
          · rename_i x hx
            have := rAttr_len (n := x.1) (v := x.2.1) (t := x.2.2) hx
            split at h
            · have := rOpenL_att n _ _ _ _ _ h
              simp only [List.length_append, List.length_singleton] at this
              omega
            · cases h
theorem rTok_att {r t : List UInt8} {k : Tok} (h : rTok r = some (k, t)) : k.attrs.length ≤ r.length := by
  unfold rTok at h
  split at h
  · split at h
    · cases h
    · cases h; simp
  · split at h
    · unfold rOpen at h
      split at h
      · cases h
      · cases hq : rOpenL (((r.drop 1).dropWhile withins.contains).length + 1) ((r.drop 1).dropWhile withins.contains) [] with
        | none => rw [hq] at h; cases h
        | some x =>
          rw [hq] at h
          have := rOpenL_att _ _ _ x.1 x.2.1 x.2.2 hq
          have d1 := dropWhile_len withins.contains (r.drop 1)
          simp only [Option.map_some, Option.some.injEq, Prod.mk.injEq, List.length_nil, List.length_drop] at h this d1
          rw [← h.1]; simp only; omega
    · split at h
      · cases h; simp
      · cases h
theorem rToksL_len : ∀ (n : Nat) (s : List UInt8) (l : List Tok), rToksL n s = some l → l.length ≤ s.length ∧ ∀ t ∈ l, t.attrs.length ≤ s.length
  | 0, _, _, h => by cases h
  | n + 1, s, l, h => by
    simp only [rToksL] at h
    split at h
    · cases h; exact ⟨by simp, fun t ht => by cases ht⟩
    · rename_i h0
      split at h
      · cases h
      · rename_i x hx
        have h1 := rTok_len (k := x.1) (t := x.2) (by intro e; rw [e] at h0; exact h0 rfl) hx
        have h2 := rTok_att (k := x.1) (t := x.2) hx
        cases hq : rToksL n x.2 with
        | none => rw [hq] at h; cases h
        | some l' =>
          rw [hq] at h
          cases h
          have := rToksL_len n _ _ hq
          refine ⟨by simp only [List.length_cons]; omega, fun t ht => ?_⟩
          rcases List.mem_cons.1 ht with rfl | ht
          · exact h2
          · exact Nat.le_trans (this.2 t ht) (by omega)
theorem toksS_len (s : List UInt8) : (toksS s).1.length ≤ s.length ∧ ∀ t ∈ (toksS s).1, t.attrs.length ≤ s.length := by
  rw [← toks_eq]
  have hp := trimPrefix_le s prologL
  unfold rToks
  split
  · exact ⟨by simp, fun t ht => by cases ht⟩
  · split
    · exact ⟨by simp, fun t ht => by cases ht⟩
    · split
      · rename_i l hl
        have := rToksL_len _ _ _ hl
        exact ⟨Nat.le_trans this.1 hp, fun t ht => Nat.le_trans (this.2 t ht) hp⟩
      · exact ⟨by simp, fun t ht => by cases ht⟩
section
variable {m : Int} {σ : St} {K : AV → St → Prop}
theorem TokenTells_law (s : List UInt8) : ACalls Tryz.prog (gD m) 3 [.str s] ⟨[], []⟩ (fun r _ => r = .bool true) := by
  refine ACalls_fn tok fm (fk3 _) ?_
  cases q : decide ((5000 : Int) < (s.length : Int)) with
  | true =>
    simp (disch := first | omega | (simp only [nvsR, List.length_cons, List.length_nil, List.length_append]; first | done | omega)) only [walkAll, walkL, walkK, E, Nat.reduceEqDiff, Nat.reduceAdd, Nat.reduceSub, Nat.reduceLeDiff, Nat.le_refl, Nat.zero_lt_one, Int.cast_ofNat_Int, Int.reduceLT, Int.reduceLE, Int.reduceAdd, Int.reduceSub, Int.reduceToNat, Int.toNat_natCast, decide_true, decide_false, wrap_i64, wrap_i32, wrap_u8, wrap_u32, wrap_u64, and_true, true_and, ↓reduceIte, c3, q]
    refine awake_c ?_
    simp (disch := first | omega | (simp only [nvsR, List.length_cons, List.length_nil, List.length_append]; first | done | omega)) only [walkAll, walkL, walkK, E, Nat.reduceEqDiff, Nat.reduceAdd, Nat.reduceSub, Nat.reduceLeDiff, Nat.le_refl, Nat.zero_lt_one, Int.cast_ofNat_Int, Int.reduceLT, Int.reduceLE, Int.reduceAdd, Int.reduceSub, Int.reduceToNat, Int.toNat_natCast, decide_true, decide_false, wrap_i64, wrap_i32, wrap_u8, wrap_u32, wrap_u64, and_true, true_and, ↓reduceIte]
  | false =>
    have hs : s.length ≤ 5000 := by have := of_decide_eq_false q; omega
    obtain ⟨l1, l2⟩ := toksS_len s
    simp (disch := first | omega | (simp only [nvsR, List.length_cons, List.length_nil, List.length_append]; first | done | omega)) only [walkAll, walkL, walkK, E, Nat.reduceEqDiff, Nat.reduceAdd, Nat.reduceSub, Nat.reduceLeDiff, Nat.le_refl, Nat.zero_lt_one, Int.cast_ofNat_Int, Int.reduceLT, Int.reduceLE, Int.reduceAdd, Int.reduceSub, Int.reduceToNat, Int.toNat_natCast, decide_true, decide_false, wrap_i64, wrap_i32, wrap_u8, wrap_u32, wrap_u64, and_true, true_and, ↓reduceIte, c3, q]
    refine Tokens_c s (by omega) ?_
    simp (disch := first | omega | (simp only [nvsR, List.length_cons, List.length_nil, List.length_append]; first | done | omega)) only [walkAll, walkL, walkK, E, Nat.reduceEqDiff, Nat.reduceAdd, Nat.reduceSub, Nat.reduceLeDiff, Nat.le_refl, Nat.zero_lt_one, Int.cast_ofNat_Int, Int.reduceLT, Int.reduceLE, Int.reduceAdd, Int.reduceSub, Int.reduceToNat, Int.toNat_natCast, decide_true, decide_false, wrap_i64, wrap_i32, wrap_u8, wrap_u32, wrap_u64, and_true, true_and, ↓reduceIte]
    refine rTokens_c s (by omega) ?_
    rw [toks_eq]
    simp (disch := first | omega | (simp only [nvsR, List.length_cons, List.length_nil, List.length_append]; first | done | omega)) only [walkAll, walkL, walkK, E, Nat.reduceEqDiff, Nat.reduceAdd, Nat.reduceSub, Nat.reduceLeDiff, Nat.le_refl, Nat.zero_lt_one, Int.cast_ofNat_Int, Int.reduceLT, Int.reduceLE, Int.reduceAdd, Int.reduceSub, Int.reduceToNat, Int.toNat_natCast, decide_true, decide_false, wrap_i64, wrap_i32, wrap_u8, wrap_u32, wrap_u64, and_true, true_and, ↓reduceIte]
    refine awake_c ?_
    simp (disch := first | omega | (simp only [nvsR, List.length_cons, List.length_nil, List.length_append]; first | done | omega)) only [walkAll, walkL, walkK, E, Nat.reduceEqDiff, Nat.reduceAdd, Nat.reduceSub, Nat.reduceLeDiff, Nat.le_refl, Nat.zero_lt_one, Int.cast_ofNat_Int, Int.reduceLT, Int.reduceLE, Int.reduceAdd, Int.reduceSub, Int.reduceToNat, Int.toNat_natCast, decide_true, decide_false, wrap_i64, wrap_i32, wrap_u8, wrap_u32, wrap_u64, and_true, true_and, ↓reduceIte]
    refine sameToks_c (toksS s).1 (by omega) (fun t ht => by have := l2 t ht; omega) ?_
    simp (disch := first | omega | (simp only [nvsR, List.length_cons, List.length_nil, List.length_append]; first | done | omega)) only [walkAll, walkL, walkK, E, Nat.reduceEqDiff, Nat.reduceAdd, Nat.reduceSub, Nat.reduceLeDiff, Nat.le_refl, Nat.zero_lt_one, Int.cast_ofNat_Int, Int.reduceLT, Int.reduceLE, Int.reduceAdd, Int.reduceSub, Int.reduceToNat, Int.toNat_natCast, decide_true, decide_false, wrap_i64, wrap_i32, wrap_u8, wrap_u32, wrap_u64, and_true, true_and, ↓reduceIte, beq_self_eq_true]
end
end Go.Ab.Sz
