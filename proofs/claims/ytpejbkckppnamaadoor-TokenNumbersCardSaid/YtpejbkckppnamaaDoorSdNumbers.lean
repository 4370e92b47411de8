/- Part of this work: see the text that closes the claim. -/
import Derived.Test.YtpejbkckppnamaaDoorRef
set_option linter.all false
set_option linter.unusedVariables false
set_option linter.unusedSimpArgs false
namespace Go.Ab.Sd
open Go Go.Ab Go.Proofs Go.RowKit
set_option maxRecDepth 40000
set_option linter.unusedSimpArgs false
section
variable {m : Int} {σ : St} {K : AV → St → Prop}
theorem hexs_at : ∀ c, c < 16 → (([48, 49, 50, 51, 52, 53, 54, 55, 56, 57, 97, 98, 99, 100, 101, 102] : List UInt8).drop c).take 1 = [hx c] := by decide
theorem hex_round {v : Nat} {Q : EQ} (hex : List UInt8) (e : Env) (hv : v < 1200000) (hg : v > 0 ∨ hex = []) (hl : hex.length < 100) (h3 : e 3 = some (.str hex)) (h4 : e 4 = some (.int .i64 v))
    (h : ∀ e', e' 3 = some (.str (hx (v % 16) :: hex)) → e' 4 = some (.int .i64 ((v / 16 : Nat) : Int)) → e' 0 = e 0 → e' 2 = e 2 → LoopC Tryd.prog tt (gD m) l4_0 Q e' σ) : LoopC Tryd.prog tt (gD m) l4_0 Q e σ := by
  have m1 : (v : Int).tmod 16 = ((v % 16 : Nat) : Int) := tmod_nat v 16
  have m2 : (v : Int).tdiv 16 = ((v / 16 : Nat) : Int) := tdiv_nat v 16
  have w1 : IntKind.i64.wrap (((v % 16 : Nat) : Int) + 1) = ((v % 16 + 1 : Nat) : Int) := by rw [wrap_i64 _ (by omega) (by omega)]; rfl
  have w2 : IntKind.i64.wrap ((v / 16 : Nat) : Int) = ((v / 16 : Nat) : Int) := wrap_i64 _ (by omega) (by omega)
  have t2 : v % 16 + 1 - v % 16 = 1 := by omega
  have t3 := hexs_at (v % 16) (by omega)
  refine LoopC_unfold tok fm ?_
  have rest : ∀ P' : Prop, P' → P' := fun _ h => h
  cases q : decide ((0 : Int) < (v : Int)) with
  | true =>
    simp (disch := first | omega | (simp only [nvsR, List.length_cons, List.length_nil, List.length_append]; first | done | omega)) only [walkAll, walkL, walkK, E, Nat.reduceEqDiff, Nat.reduceAdd, Nat.reduceSub, Nat.reduceLeDiff, Nat.le_refl, Nat.zero_lt_one, Int.cast_ofNat_Int, Int.reduceLT, Int.reduceLE, Int.reduceAdd, Int.reduceSub, Int.reduceToNat, Int.toNat_natCast, decide_true, decide_false, wrap_i64, wrap_i32, wrap_u8, wrap_u32, wrap_u64, and_true, true_and, ↓reduceIte, l4_0x, l4_0b, h3, h4, q, m1, m2, w1, w2, t2, t3]
    refine h _ ?_ ?_ ?_ ?_ <;> simp [put]
  | false =>
    have hn : hex = [] := by
      rcases hg with hg | hg
      · have := of_decide_eq_false q; omega
      · exact hg
    have hn' : (hex == []) = true := by rw [hn]; rfl
    simp (disch := first | omega | (simp only [nvsR, List.length_cons, List.length_nil, List.length_append]; first | done | omega)) only [walkAll, walkL, walkK, E, Nat.reduceEqDiff, Nat.reduceAdd, Nat.reduceSub, Nat.reduceLeDiff, Nat.le_refl, Nat.zero_lt_one, Int.cast_ofNat_Int, Int.reduceLT, Int.reduceLE, Int.reduceAdd, Int.reduceSub, Int.reduceToNat, Int.toNat_natCast, decide_true, decide_false, wrap_i64, wrap_i32, wrap_u8, wrap_u32, wrap_u64, and_true, true_and, ↓reduceIte, l4_0x, l4_0b, h3, h4, q, hn', m1, m2, w1, w2, t2, t3]
    refine h _ ?_ ?_ ?_ ?_ <;> simp [put]
theorem hex_end {Q : EQ} (hex : List UInt8) (e : Env) (hx : hex ≠ []) (h3 : e 3 = some (.str hex)) (h4 : e 4 = some (.int .i64 0)) (h : ∀ e', e' 3 = e 3 → e' 0 = e 0 → e' 2 = e 2 → Q (.exit 0) e' σ) : LoopC Tryd.prog tt (gD m) l4_0 Q e σ := by
  have hn' : (hex == []) = false := by simpa using hx
  refine LoopC_unfold tok fm ?_
  simp (disch := first | omega | (simp only [nvsR, List.length_cons, List.length_nil, List.length_append]; first | done | omega)) only [walkAll, walkL, walkK, E, Nat.reduceEqDiff, Nat.reduceAdd, Nat.reduceSub, Nat.reduceLeDiff, Nat.le_refl, Nat.zero_lt_one, Int.cast_ofNat_Int, Int.reduceLT, Int.reduceLE, Int.reduceAdd, Int.reduceSub, Int.reduceToNat, Int.toNat_natCast, decide_true, decide_false, wrap_i64, wrap_i32, wrap_u8, wrap_u32, wrap_u64, and_true, true_and, ↓reduceIte, l4_0x, l4_0b, h3, h4, hn']
  refine h _ ?_ ?_ ?_ <;> simp [put]
theorem hex_loop {Q : EQ} : ∀ (k v : Nat) (hex : List UInt8) (e : Env), v < 16 ^ k → v < 1200000 → (v > 0 ∨ hex = []) → hex.length + k < 100 → e 3 = some (.str hex) → e 4 = some (.int .i64 v) → 0 < k →
    (∀ e', e' 3 = some (.str (digG 16 k v ++ hex)) → e' 0 = e 0 → e' 2 = e 2 → Q (.exit 0) e' σ) → LoopC Tryd.prog tt (gD m) l4_0 Q e σ
  | 0, v, hex, e, hk, hv, hg, hl, h3, h4, h0, h => by omega
  | k + 1, v, hex, e, hk, hv, hg, hl, h3, h4, h0, h => by
    refine hex_round hex e hv hg (by omega) h3 h4 (fun e1 k3 k4 k0 k2 => ?_)
    by_cases hlt : v < 16
    · have e1' : v % 16 = v := Nat.mod_eq_of_lt hlt
      have e2' : v / 16 = 0 := by omega
      rw [e1'] at k3
      rw [e2'] at k4
      refine hex_end _ e1 (by simp) k3 k4 (fun e2 j3 j0 j2 => h e2 ?_ (j0.trans k0) (j2.trans k2))
      rw [j3, k3]
      simp only [digG, hlt, if_true]; rfl
    · have hp : v / 16 < 16 ^ k := by rw [Nat.div_lt_iff_lt_mul (by decide), ← Nat.pow_succ]; exact hk
      have hk0 : 0 < k := by
        rcases Nat.eq_zero_or_pos k with rfl | h
        · simp at hk; omega
        · exact h
      refine hex_loop k (v / 16) (hx (v % 16) :: hex) e1 hp (by omega) (.inl (by omega)) (by simp; omega) k3 k4 hk0 (fun e2 j3 j0 j2 => h e2 ?_ (j0.trans k0) (j2.trans k2))
      rw [j3]
      simp only [digG, hlt, if_false, List.append_assoc]; rfl
theorem no_byte {B k v : Nat} (hB : B = 10 ∨ B = 16) (hv : v < B ^ k) (b : UInt8) (hb : b ∉ hexes ∧ b ∉ tens) : b ∉ digG B k v := fun h => by
  have := digG_in hB k v hv b h
  split at this
  · exact hb.2 this
  · exact hb.1 this
theorem asc_of {B k v : Nat} (hB : B = 10 ∨ B = 16) (hv : v < B ^ k) : ∀ c ∈ digG B k v, c.toNat < 128 ∧ mayN c.toNat = true := fun c hc => by
  have := digG_in hB k v hv c hc
  have a1 : ∀ c ∈ tens, c.toNat < 128 ∧ mayN c.toNat = true := by decide
  have a2 : ∀ c ∈ hexes, c.toNat < 128 ∧ mayN c.toNat = true := by decide
  split at this
  · exact a1 c this
  · exact a2 c this
/-- What the text of a number gives. -/
def numT (n : Nat) : List Tok × Int := if charB n then ([⟨3, [], (Utf8.encode n).data.toList, [], false⟩], 0) else ([], 9)
theorem enc_ne (n : Nat) (h : charB n = true) : ((Utf8.encode n).data.toList == []) = false := by
  rw [charB_N, Bool.and_eq_true, Bool.and_eq_true] at h
  have := (decode_encode n (of_decide_eq_true h.1.1) (by have := h.1.2; simp only [Bool.not_eq_true', decide_eq_false_iff_not] at this; exact this)).2
  simpa using this
theorem sign_ten (s : List UInt8) (h0 : s ≠ []) (hin : ∀ c ∈ s, c ∈ tens) : signS (35 :: s) = numberS tens 7 10 s := by
  cases s with
  | nil => exact absurd rfl h0
  | cons a s =>
    have ha := hin a (by simp)
    have hax : (120 == a) = false := by
      have : ∀ c ∈ tens, ((120 : UInt8) == c) = false := by decide
      exact this a ha
    unfold signS
    rw [pre_cons, pre_cons, hax]
    rw [show ((35 : UInt8) :: a :: s == [108, 116]) = false from by simp, show ((35 : UInt8) :: a :: s == [103, 116]) = false from by simp, show ((35 : UInt8) :: a :: s == [97, 109, 112]) = false from by simp, show ((35 : UInt8) :: a :: s == [113, 117, 111, 116]) = false from by simp, show ((35 : UInt8) :: a :: s == [97, 112, 111, 115]) = false from by simp]
    simp only [Bool.false_eq_true, if_false, show ((35 : UInt8) == 35) = true from rfl, Bool.true_and, Bool.false_and]
    rw [if_pos (show Lib.hasPrefix (35 :: a :: s) [35] = true from pre_self [35] (a :: s)), show Lib.trimPrefix (35 :: a :: s) [35] = a :: s from trim_self [35] _]
theorem sign_hex (s : List UInt8) : signS (35 :: 120 :: s) = numberS hexes 6 16 s := by
  unfold signS
  rw [show ((35 : UInt8) :: 120 :: s == [108, 116]) = false from by simp, show ((35 : UInt8) :: 120 :: s == [103, 116]) = false from by simp, show ((35 : UInt8) :: 120 :: s == [97, 109, 112]) = false from by simp, show ((35 : UInt8) :: 120 :: s == [113, 117, 111, 116]) = false from by simp, show ((35 : UInt8) :: 120 :: s == [97, 112, 111, 115]) = false from by simp]
  simp only [Bool.false_eq_true, if_false]
  rw [if_pos (show Lib.hasPrefix (35 :: 120 :: s) [35, 120] = true from pre_self [35, 120] s), show Lib.trimPrefix (35 :: 120 :: s) [35, 120] = s from trim_self [35, 120] _]
theorem toks_ten (n : Nat) (hn : n < 1200000) : toksS ([38, 35] ++ digG 10 7 n ++ [59]) = numT n := by
  have hp : n < 10 ^ 7 := by omega
  have hne := (digG_len (B := 10) 7 n).2 (by decide)
  have hl := (digG_len (B := 10) 7 n).1
  have hin : ∀ c ∈ digG 10 7 n, c ∈ tens := fun c hc => by simpa using digG_in (.inl rfl) 7 n hp c hc
  have h1 : (59 : UInt8) ∉ 35 :: digG 10 7 n := by
    simp only [List.mem_cons, not_or]; exact ⟨by decide, no_byte (.inl rfl) hp 59 (by decide)⟩
  have h2 : (60 : UInt8) ∉ 35 :: digG 10 7 n := by
    simp only [List.mem_cons, not_or]; exact ⟨by decide, no_byte (.inl rfl) hp 60 (by decide)⟩
  have ha : ∀ c ∈ 35 :: digG 10 7 n, c.toNat < 128 ∧ mayN c.toNat = true := fun c hc => by
    rcases List.mem_cons.1 hc with rfl | hc
    · decide
    · exact asc_of (.inl rfl) hp c hc
  have := toks_amp (35 :: digG 10 7 n) h1 h2 (by simp; omega) ha
  rw [show ([38, 35] ++ digG 10 7 n ++ [59]) = 38 :: (35 :: digG 10 7 n) ++ [59] from rfl, this, sign_ten _ hne hin, number_val tens 7 10 _ hne hl hin, digG_val (.inl rfl) 7 n hp]
  unfold numT
  cases hc : charB n with
  | true => simp only [if_true]; rw [enc_ne n hc]; rfl
  | false => rfl
theorem toks_hex (n : Nat) (hn : n < 1200000) : toksS ([38, 35, 120] ++ digG 16 6 n ++ [59]) = numT n := by
  have hp : n < 16 ^ 6 := by omega
  have hne := (digG_len (B := 16) 6 n).2 (by decide)
  have hl := (digG_len (B := 16) 6 n).1
  have hin : ∀ c ∈ digG 16 6 n, c ∈ hexes := fun c hc => by simpa using digG_in (.inr rfl) 6 n hp c hc
  have h1 : (59 : UInt8) ∉ 35 :: 120 :: digG 16 6 n := by
    simp only [List.mem_cons, not_or]; exact ⟨by decide, by decide, no_byte (.inr rfl) hp 59 (by decide)⟩
  have h2 : (60 : UInt8) ∉ 35 :: 120 :: digG 16 6 n := by
    simp only [List.mem_cons, not_or]; exact ⟨by decide, by decide, no_byte (.inr rfl) hp 60 (by decide)⟩
  have ha : ∀ c ∈ 35 :: 120 :: digG 16 6 n, c.toNat < 128 ∧ mayN c.toNat = true := fun c hc => by
    rcases List.mem_cons.1 hc with rfl | hc
    · decide
    · rcases List.mem_cons.1 hc with rfl | hc
      · decide
      · exact asc_of (.inr rfl) hp c hc
  have := toks_amp (35 :: 120 :: digG 16 6 n) h1 h2 (by simp; omega) ha
  rw [show ([38, 35, 120] ++ digG 16 6 n ++ [59]) = 38 :: (35 :: 120 :: digG 16 6 n) ++ [59] from rfl, this, sign_hex, number_val hexes 6 16 _ hne hl hin, digG_val (.inr rfl) 6 n hp]
  unfold numT
  cases hc : charB n with
  | true => simp only [if_true]; rw [enc_ne n hc]; rfl
  | false => rfl
theorem TokenNumbers_law (what : Int) : ACalls Tryd.prog (gD m) 4 [.int .i64 what] ⟨[], []⟩ (fun r _ => r = .bool true) := by
  refine ACalls_fn tok fm (fk4 _) ?_
  obtain ⟨n, hn, hk⟩ : ∃ n : Nat, n < 1200000 ∧ (IntKind.u64.wrap what).tmod 1200000 = n := by
    have h0 : 0 ≤ IntKind.u64.wrap what := by
      simp only [IntKind.wrap, IntKind.bits, IntKind.signed]
      simp
      omega
    have h1 := Int.tmod_nonneg 1200000 h0
    have h2 := Int.tmod_lt_of_pos (IntKind.u64.wrap what) (b := 1200000) (by decide)
    exact ⟨((IntKind.u64.wrap what).tmod 1200000).toNat, by omega, by omega⟩
  have w1 : IntKind.i64.wrap (n : Int) = n := wrap_i64 _ (by omega) (by omega)
  have w2 : IntKind.u64.wrap (n : Int) = n := wrap_u64 _ (by omega) (by omega)
  have w3 : IntKind.i32.wrap (n : Int) = n := wrap_i32 _ (by omega) (by omega)
  have hd10 := (digG_len (B := 10) 7 n).1
  have hd16 := (digG_len (B := 16) 6 n).1
  simp (disch := first | omega | (simp only [nvsR, List.length_cons, List.length_nil, List.length_append]; first | done | omega)) only [walkAll, walkL, walkK, E, Nat.reduceEqDiff, Nat.reduceAdd, Nat.reduceSub, Nat.reduceLeDiff, Nat.le_refl, Nat.zero_lt_one, Int.cast_ofNat_Int, Int.reduceLT, Int.reduceLE, Int.reduceAdd, Int.reduceSub, Int.reduceToNat, Int.toNat_natCast, decide_true, decide_false, wrap_i64, wrap_i32, wrap_u8, wrap_u32, wrap_u64, and_true, true_and, ↓reduceIte, c4, hk, w1]
  refine hex_loop 6 n [] _ (by omega) hn (.inr rfl) (by decide) (by simp [put]) (by simp [put]) (by decide) (fun e' k3 k0 k2 => ?_)
  rw [List.append_nil] at k3
  simp only [put, E, Nat.reduceEqDiff, ↓reduceIte] at k0
  simp (disch := first | omega | (simp only [nvsR, List.length_cons, List.length_nil, List.length_append]; first | done | omega)) only [walkAll, walkL, walkK, E, Nat.reduceEqDiff, Nat.reduceAdd, Nat.reduceSub, Nat.reduceLeDiff, Nat.le_refl, Nat.zero_lt_one, Int.cast_ofNat_Int, Int.reduceLT, Int.reduceLE, Int.reduceAdd, Int.reduceSub, Int.reduceToNat, Int.toNat_natCast, decide_true, decide_false, wrap_i64, wrap_i32, wrap_u8, wrap_u32, wrap_u64, and_true, true_and, ↓reduceIte, k3, k0, w2]
  refine Digits_c 6 n (by omega) (by omega) (by decide) ?_
  rw [digF_G]
  simp (disch := first | omega | (simp only [nvsR, List.length_cons, List.length_nil, List.length_append]; first | done | omega)) only [walkAll, walkL, walkK, E, Nat.reduceEqDiff, Nat.reduceAdd, Nat.reduceSub, Nat.reduceLeDiff, Nat.le_refl, Nat.zero_lt_one, Int.cast_ofNat_Int, Int.reduceLT, Int.reduceLE, Int.reduceAdd, Int.reduceSub, Int.reduceToNat, Int.toNat_natCast, decide_true, decide_false, wrap_i64, wrap_i32, wrap_u8, wrap_u32, wrap_u64, and_true, true_and, ↓reduceIte, k3, k0, w2]
  refine Tokens_c _ (by simp; omega) ?_
  rw [show toksS (38 :: 35 :: (digG 10 7 n ++ [59])) = numT n from toks_ten n hn]
  simp (disch := first | omega | (simp only [nvsR, List.length_cons, List.length_nil, List.length_append]; first | done | omega)) only [walkAll, walkL, walkK, E, Nat.reduceEqDiff, Nat.reduceAdd, Nat.reduceSub, Nat.reduceLeDiff, Nat.le_refl, Nat.zero_lt_one, Int.cast_ofNat_Int, Int.reduceLT, Int.reduceLE, Int.reduceAdd, Int.reduceSub, Int.reduceToNat, Int.toNat_natCast, decide_true, decide_false, wrap_i64, wrap_i32, wrap_u8, wrap_u32, wrap_u64, and_true, true_and, ↓reduceIte, k3, k0, w2]
  refine Tokens_c _ (by simp; omega) ?_
  rw [show toksS (38 :: 35 :: 120 :: (digG 16 6 n ++ [59])) = numT n from toks_hex n hn]
  simp (disch := first | omega | (simp only [nvsR, List.length_cons, List.length_nil, List.length_append]; first | done | omega)) only [walkAll, walkL, walkK, E, Nat.reduceEqDiff, Nat.reduceAdd, Nat.reduceSub, Nat.reduceLeDiff, Nat.le_refl, Nat.zero_lt_one, Int.cast_ofNat_Int, Int.reduceLT, Int.reduceLE, Int.reduceAdd, Int.reduceSub, Int.reduceToNat, Int.toNat_natCast, decide_true, decide_false, wrap_i64, wrap_i32, wrap_u8, wrap_u32, wrap_u64, and_true, true_and, ↓reduceIte, k3, k0, w2]
  refine Char_c _ ?_
  have e9 : ((9 : Int) == 9) = true := rfl
  have e0 : ((0 : Int) == 0) = true := rfl
  cases hc : charB (n : Int) with
  | false =>
    have hN : numT n = ([], 9) := by unfold numT; rw [hc]; rfl
    simp (disch := first | omega | (simp only [nvsR, List.length_cons, List.length_nil, List.length_append]; first | done | omega)) only [walkAll, walkL, walkK, E, Nat.reduceEqDiff, Nat.reduceAdd, Nat.reduceSub, Nat.reduceLeDiff, Nat.le_refl, Nat.zero_lt_one, Int.cast_ofNat_Int, Int.reduceLT, Int.reduceLE, Int.reduceAdd, Int.reduceSub, Int.reduceToNat, Int.toNat_natCast, decide_true, decide_false, wrap_i64, wrap_i32, wrap_u8, wrap_u32, wrap_u64, and_true, true_and, ↓reduceIte, hN, k3, k0]
    refine awake_c ?_
    simp (disch := first | omega | (simp only [nvsR, List.length_cons, List.length_nil, List.length_append]; first | done | omega)) only [walkAll, walkL, walkK, E, Nat.reduceEqDiff, Nat.reduceAdd, Nat.reduceSub, Nat.reduceLeDiff, Nat.le_refl, Nat.zero_lt_one, Int.cast_ofNat_Int, Int.reduceLT, Int.reduceLE, Int.reduceAdd, Int.reduceSub, Int.reduceToNat, Int.toNat_natCast, decide_true, decide_false, wrap_i64, wrap_i32, wrap_u8, wrap_u32, wrap_u64, and_true, true_and, ↓reduceIte, hN, e9]
  | true =>
    have hN : numT n = ([⟨3, [], (Utf8.encode n).data.toList, [], false⟩], 0) := by unfold numT; rw [hc]; rfl
    simp (disch := first | omega | (simp only [nvsR, List.length_cons, List.length_nil, List.length_append]; first | done | omega)) only [walkAll, walkL, walkK, E, Nat.reduceEqDiff, Nat.reduceAdd, Nat.reduceSub, Nat.reduceLeDiff, Nat.le_refl, Nat.zero_lt_one, Int.cast_ofNat_Int, Int.reduceLT, Int.reduceLE, Int.reduceAdd, Int.reduceSub, Int.reduceToNat, Int.toNat_natCast, decide_true, decide_false, wrap_i64, wrap_i32, wrap_u8, wrap_u32, wrap_u64, and_true, true_and, ↓reduceIte, hN, k3, k0]
    refine awake_c ?_
    have e1 : ((1 : Int) == 1) = true := rfl
    simp (disch := first | omega | (simp only [nvsR, List.length_cons, List.length_nil, List.length_append]; first | done | omega)) only [walkAll, walkL, walkK, E, Nat.reduceEqDiff, Nat.reduceAdd, Nat.reduceSub, Nat.reduceLeDiff, Nat.le_refl, Nat.zero_lt_one, Int.cast_ofNat_Int, Int.reduceLT, Int.reduceLE, Int.reduceAdd, Int.reduceSub, Int.reduceToNat, Int.toNat_natCast, decide_true, decide_false, wrap_i64, wrap_i32, wrap_u8, wrap_u32, wrap_u64, and_true, true_and, ↓reduceIte, hN, e0, lsv_len, List.length_map, e1]
    refine sameToks_c [⟨3, [], (Utf8.encode n).data.toList, [], false⟩] (by simp) (by simp) ?_
    have er : ∀ a : List UInt8, (a == a) = true := fun a => by simp
    simp (disch := first | omega | (simp only [nvsR, List.length_cons, List.length_nil, List.length_append]; first | done | omega)) only [walkAll, walkL, walkK, E, Nat.reduceEqDiff, Nat.reduceAdd, Nat.reduceSub, Nat.reduceLeDiff, Nat.le_refl, Nat.zero_lt_one, Int.cast_ofNat_Int, Int.reduceLT, Int.reduceLE, Int.reduceAdd, Int.reduceSub, Int.reduceToNat, Int.toNat_natCast, decide_true, decide_false, wrap_i64, wrap_i32, wrap_u8, wrap_u32, wrap_u64, and_true, true_and, ↓reduceIte, k0, w3, List.map_cons, List.map_nil, lsv_cons, Tok.c, lsv_nil, er]
end
end Go.Ab.Sd
