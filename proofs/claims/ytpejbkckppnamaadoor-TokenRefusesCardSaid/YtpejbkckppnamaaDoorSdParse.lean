/- Part of this work: see the text that closes the claim. -/
import Derived.Test.YtpejbkckppnamaaDoorSdDec
import Derived.Test.YtpejbkckppnamaaDoorAbBuf
set_option linter.all false
set_option linter.unusedVariables false
set_option linter.unusedSimpArgs false
namespace Go.Ab.Sd
open Go Go.Ab Go.Proofs Go.RowKit
set_option maxRecDepth 20000
set_option linter.unusedSimpArgs false
section
variable {m : Int} {σ : St} {K : AV → St → Prop}
theorem low_all : ∀ n : Fin 256, IntKind.u8.wrap ((BitVec.ofInt IntKind.u8.bits (n.val : Int) ||| BitVec.ofInt IntKind.u8.bits 32).toNat : Int) = ((UInt8.ofNat n.val ||| 32).toNat : Int) := by decide
theorem low_eq (x : UInt8) : IntKind.u8.wrap ((BitVec.ofInt IntKind.u8.bits (x.toNat : Int) ||| BitVec.ofInt IntKind.u8.bits 32).toNat : Int) = ((x ||| 32).toNat : Int) := by
  have := low_all ⟨x.toNat, x.toNat_lt⟩
  simpa using this
theorem lower_c (x : UInt8) (h : K (.int .u8 (x ||| 32).toNat) σ) : ACalls Tryd.prog (gD m) 79 [.int .u8 x.toNat] σ K := by
  refine ACalls_fn tok fm (fk79 _) ?_
  simp only [c79, walkAll, walkL, E, low_eq, Nat.reduceEqDiff, ↓reduceIte]
  exact h
/-- A digit's worth. -/
def dgt (x : UInt8) : Nat := if 48 ≤ x.toNat ∧ x.toNat ≤ 57 then x.toNat - 48 else (x ||| 32).toNat - 97 + 10
def isDgt (B : Nat) (x : UInt8) : Prop := (48 ≤ x.toNat ∧ x.toNat ≤ 57) ∨ (B = 16 ∧ 58 ≤ x.toNat ∧ x.toNat ≠ 95 ∧ 97 ≤ (x ||| 32).toNat ∧ (x ||| 32).toNat ≤ 102)
theorem dgt_lt {B : Nat} (hB : B = 10 ∨ B = 16) {x : UInt8} (h : isDgt B x) : dgt x < B := by
  unfold dgt
  rcases h with h | ⟨rfl, h1, h2, h3, h4⟩
  · rw [if_pos h]; omega
  · rw [if_neg (by omega)]; omega
theorem pu_loop (B : Nat) (hB : B = 10 ∨ B = 16) (r : Nat) (row : Row) (s : List UInt8) (hs : s.length ≤ 7) (hd : ∀ x ∈ s, isDgt B x) (hr : getR σ r = some (some row)) (he : row.els = bytesE s) (hz : row.esz = 1) (cut : Int) (hc : 268435456 ≤ cut) {Q : EQ} :
    ∀ (rest : List UInt8) (i acc : Nat) (e : Env), s.drop i = rest → acc < B ^ i → e 99 = some (.os r 0 s.length) → e 100 = some (.int .i64 s.length) → e 101 = some (.int .i64 i) → e 1 = some (.int .i64 B) → e 8 = some (.bool false) → e 10 = some (.int .u64 cut) → e 11 = some (.int .u64 4294967295) → e 12 = some (.bool false) → e 13 = some (.int .u64 acc) →
    (∀ e', e' 13 = some (.int .u64 (rest.foldl (fun (a : Nat) x => a * B + dgt x) acc : Nat)) → e' 12 = some (.bool false) → Q (.exit 3) e' σ) →
    LoopC Tryd.prog tt (gD m) l75_0 Q e σ := by
  intro rest
  induction rest with
  | nil =>
    intro i acc e hdr hacc h99 h100 h101 h1 h8 h10 h11 h12 h13 hq
    have hi : s.length ≤ i := by simpa using hdr
    have d : decide ((i : Int) < (s.length : Int)) = false := by simp; omega
    refine LoopC_unfold tok fm ?_
    simp (disch := omega) only [l75_0x, l75_0b, walkAll, walkL, h100, h101, d, Nat.reduceEqDiff, ↓reduceIte]
    exact hq _ (by simp [put, h13]) (by simp [put, h12])
  | cons x rest ih =>
    intro i acc e hdr hacc h99 h100 h101 h1 h8 h10 h11 h12 h13 hq
    have hxi : s[i]? = some x := by
      have := congrArg (fun l => l[0]?) hdr
      simpa using this
    have hi : i < s.length := (List.getElem?_eq_some_iff.1 hxi).1
    have hx := hd x (List.mem_of_getElem? hxi)
    have hdl := dgt_lt hB hx
    have hel : row.els[i]? = some [.int .u8 x.toNat] := by rw [he, bytesE, List.getElem?_map, hxi]; rfl
    have d : decide ((i : Int) < (s.length : Int)) = true := by simp; omega
    have hpow : B ^ i ≤ 16777216 := by
      have h6 : i ≤ 6 := by omega
      rcases hB with rfl | rfl
      · exact Nat.le_trans (Nat.pow_le_pow_right (by omega) h6) (by decide)
      · exact Nat.le_trans (Nat.pow_le_pow_right (by omega) h6) (by decide)
    have hacc' : acc * B + dgt x < B ^ (i + 1) := by
      rw [Nat.pow_succ]
      have : (acc + 1) * B ≤ B ^ i * B := Nat.mul_le_mul_right _ hacc
      rw [Nat.add_mul, Nat.one_mul] at this
      omega
    have hxl := x.toNat_lt
    refine LoopC_unfold tok fm ?_
    simp (disch := omega) only [l75_0x, l75_0b, walkAll, walkL, h99, h100, h101, d, hr, hz, hel, Nat.zero_add, Nat.reduceEqDiff, ↓reduceIte]
    have hm : acc * B + dgt x < 268435456 := by
      refine Nat.lt_of_lt_of_le hacc' ?_
      have h7 : i + 1 ≤ 7 := by omega
      rcases hB with rfl | rfl
      · exact Nat.le_trans (Nat.pow_le_pow_right (by omega) h7) (by decide)
      · exact Nat.le_trans (Nat.pow_le_pow_right (by omega) h7) (by decide)
    have w1 : IntKind.u8.wrap (B : Int) = B := wrap_u8 _ (by omega) (by omega)
    have w2 : IntKind.u64.wrap (B : Int) = B := wrap_u64 _ (by omega) (by omega)
    have w3 : IntKind.u64.wrap ((acc : Int) * (B : Int)) = ((acc * B : Nat) : Int) := by
      rw [← Int.natCast_mul]; exact wrap_u64 _ (by omega) (by omega)
    have w4 : IntKind.u64.wrap ((dgt x : Nat) : Int) = (dgt x : Nat) := wrap_u64 _ (by omega) (by omega)
    have w5 : IntKind.u64.wrap (((acc * B : Nat) : Int) + ((dgt x : Nat) : Int)) = ((acc * B + dgt x : Nat) : Int) := by
      rw [← Int.natCast_add]; exact wrap_u64 _ (by omega) (by omega)
    have c1 : decide ((B : Int) ≤ ((dgt x : Nat) : Int)) = false := by simp; omega
    have c2 : decide (cut ≤ (acc : Int)) = false := by
      have : acc ≤ 16777216 := by omega
      simp; omega
    have c3 : decide (((acc * B + dgt x : Nat) : Int) < ((acc * B : Nat) : Int)) = false := by simp only [decide_eq_false_iff_not]; omega
    have c4 : decide ((4294967295 : Int) < ((acc * B + dgt x : Nat) : Int)) = false := by simp only [decide_eq_false_iff_not]; omega
    have w6 : IntKind.i64.wrap ((i : Int) + 1) = ((i + 1 : Nat) : Int) := by
      rw [show ((i : Int) + 1) = ((i + 1 : Nat) : Int) by simp]; exact wrap_i64 _ (by omega) (by omega)
    have hrest : s.drop (i + 1) = rest := by rw [← List.drop_drop, hdr]; rfl
    rcases hx with hx | ⟨hB16, hx⟩
    · have d0 : IntKind.u8.wrap ((x.toNat : Int) - 48) = ((dgt x : Nat) : Int) := by
        have : dgt x = x.toNat - 48 := by unfold dgt; rw [if_pos hx]
        rw [this, wrap_u8 _ (by omega) (by omega)]; omega
      have d1 : ((x.toNat : Int) == 95) = false := by simp; omega
      have d2 : decide ((48 : Int) ≤ (x.toNat : Int)) = true := by simp; omega
      have d3 : decide ((x.toNat : Int) ≤ 57) = true := by simp; omega
      simp (disch := omega) only [walkAll, walkL, d0, d1, d2, d3, h8, h1, h10, h11, h13, h101, w1, w2, w3, w4, w5, w6, c1, c2, c3, c4, Nat.reduceEqDiff, Nat.reduceAdd, Nat.reduceLeDiff, Nat.le_refl, ↓reduceIte]
      exact ih (i + 1) (acc * B + dgt x) _ hrest hacc' (by simp [put, h99]) (by simp [put, h100]) (by simp [put]) (by simp [put, h1]) (by simp [put, h8]) (by simp [put, h10]) (by simp [put, h11]) (by simp [put, h12]) (by simp [put]) hq
    · have d1 : ((x.toNat : Int) == 95) = false := by simp; omega
      have d2 : decide ((48 : Int) ≤ (x.toNat : Int)) = true := by simp; omega
      have d3 : decide ((x.toNat : Int) ≤ 57) = false := by simp; omega
      have d4 : decide ((97 : Int) ≤ ((x ||| 32).toNat : Int)) = true := by simp only [decide_eq_true_eq]; omega
      have d5 : decide (((x ||| 32).toNat : Int) ≤ 122) = true := by simp only [decide_eq_true_eq]; omega
      have d6 : IntKind.u8.wrap (((x ||| 32).toNat : Int) - 97) = (((x ||| 32).toNat - 97 : Nat) : Int) := by
        rw [wrap_u8 _ (by omega) (by omega)]; omega
      have d7 : IntKind.u8.wrap ((((x ||| 32).toNat - 97 : Nat) : Int) + 10) = ((dgt x : Nat) : Int) := by
        have : dgt x = (x ||| 32).toNat - 97 + 10 := by unfold dgt; rw [if_neg (by omega)]
        rw [this, wrap_u8 _ (by omega) (by omega)]; omega
      simp (disch := omega) only [walkAll, walkL, d1, d2, d3, h8, h1, h10, h11, h13, Nat.reduceEqDiff, Nat.reduceAdd, Nat.reduceLeDiff, Nat.le_refl, ↓reduceIte]
      refine lower_c x ?_
      simp (disch := omega) only [walkAll, walkL, d4, d5, Nat.reduceEqDiff, Nat.reduceAdd, Nat.reduceLeDiff, Nat.le_refl, ↓reduceIte]
      refine lower_c x ?_
      simp (disch := omega) only [walkAll, walkL, d4, d5, Nat.reduceEqDiff, Nat.reduceAdd, Nat.reduceLeDiff, Nat.le_refl, ↓reduceIte]
      refine lower_c x ?_
      simp (disch := omega) only [walkAll, walkL, d6, d7, h8, h1, h10, h11, h13, h101, w1, w2, w3, w4, w5, w6, c1, c2, c3, c4, Nat.reduceEqDiff, Nat.reduceAdd, Nat.reduceLeDiff, Nat.le_refl, ↓reduceIte]
      exact ih (i + 1) (acc * B + dgt x) _ hrest hacc' (by simp [put, h99]) (by simp [put, h100]) (by simp [put]) (by simp [put, h1]) (by simp [put, h8]) (by simp [put, h10]) (by simp [put, h11]) (by simp [put, h12]) (by simp [put]) hq
/-- What digits say. -/
def digitsV (B : Nat) (s : List UInt8) : Nat := s.foldl (fun (a : Nat) x => a * B + dgt x) 0
theorem ParseUint75_c (B : Nat) (hB : B = 10 ∨ B = 16) (s : List UInt8) (h0 : s ≠ []) (hs : s.length ≤ 7) (hd : ∀ x ∈ s, isDgt B x) (h : K (.tup [.int .u64 (digitsV B s : Nat), .nili]) σ) :
    ACalls Tryd.prog (gD m) 75 [.str s, .int .i64 B, .int .i64 32] σ K := by
  refine (ACalls.frame gD_data (.cons _ _ (.str _) (.cons _ _ (.int _ _) (.cons _ _ (.int _ _) .nil))) (Q := fun r => r = .tup [.int .u64 (digitsV B s : Nat), .nili]) ?_ σ).mono (fun r σ' hr => by rw [hr.1, hr.2]; exact h)
  refine ACalls_fn tok fm (fk75 _) ?_
  have hne : (s == []) = false := by cases s with
    | nil => exact absurd rfl h0
    | cons a l => rfl
  have b0 : ((B : Int) == 0) = false := by rcases hB with rfl | rfl <;> rfl
  have b2 : decide ((2 : Int) ≤ (B : Int)) = true := by rcases hB with rfl | rfl <;> rfl
  have b36 : decide ((B : Int) ≤ 36) = true := by rcases hB with rfl | rfl <;> rfl
  have z1 : ((32 : Int) == 0) = false := rfl
  have z2 : decide ((32 : Int) < 0) = false := rfl
  have z3 : decide ((64 : Int) < 32) = false := rfl
  have w1 : IntKind.u64.wrap (32 : Int) = 32 := by decide
  have w2 : IntKind.u64.wrap (1 * 2 ^ (min (Int.toNat 32) IntKind.u64.bits)) = 4294967296 := by decide
  have w3 : IntKind.u64.wrap ((4294967296 : Int) - 1) = 4294967295 := by decide
  have fin : ∀ e' : Env, e' 13 = some (.int .u64 (digitsV B s : Nat)) → e' 12 = some (.bool false) → True := fun _ _ _ => trivial
  have b10 : ((B : Int) == 10) = decide (B = 10) := by rcases hB with rfl | rfl <;> rfl
  have b16 : ((B : Int) == 16) = decide (B = 16) := by rcases hB with rfl | rfl <;> rfl
  simp (disch := omega) only [c75, walkAll, walkL, E, hne, b0, b2, b36, z1, z2, z3, Nat.reduceEqDiff, ↓reduceIte]
  rcases hB with rfl | rfl
  · have q : (((10 : Nat) : Int) == 10) = true := rfl
    simp (disch := omega) only [q, walkAll, walkL, E, w1, w2, w3, Nat.reduceEqDiff, ↓reduceIte]
    refine pu_loop 10 (.inl rfl) 0 ⟨5, 1, 0, bytesE s⟩ s hs hd rfl rfl rfl 1844674407370955162 (by omega) s 0 0 _ rfl (by decide) (by simp [put]) (by simp [put]) (by simp [put]) (by simp [put, E]) (by simp [put]) (by simp [put]) (by simp [put]) (by simp [put]) (by simp [put]) (fun e' h13 h12 => ?_)
    simp (disch := omega) only [walkAll, walkL, h12, h13, Nat.reduceEqDiff, ↓reduceIte]
    exact ⟨.tup _ (.cons _ _ (.int _ _) (.cons _ _ .nili .nil)), rfl⟩
  · have q : (((16 : Nat) : Int) == 10) = false := rfl
    have q2 : (((16 : Nat) : Int) == 16) = true := rfl
    simp (disch := omega) only [q, q2, walkAll, walkL, E, w1, w2, w3, Nat.reduceEqDiff, ↓reduceIte]
    refine pu_loop 16 (.inr rfl) 0 ⟨5, 1, 0, bytesE s⟩ s hs hd rfl rfl rfl 1152921504606846976 (by omega) s 0 0 _ rfl (by decide) (by simp [put]) (by simp [put]) (by simp [put]) (by simp [put, E]) (by simp [put]) (by simp [put]) (by simp [put]) (by simp [put]) (by simp [put]) (fun e' h13 h12 => ?_)
    simp (disch := omega) only [walkAll, walkL, h12, h13, Nat.reduceEqDiff, ↓reduceIte]
    exact ⟨.tup _ (.cons _ _ (.int _ _) (.cons _ _ .nili .nil)), rfl⟩
theorem ParseUint_c (B : Nat) (hB : B = 10 ∨ B = 16) (s : List UInt8) (h0 : s ≠ []) (hs : s.length ≤ 7) (hd : ∀ x ∈ s, isDgt B x) (h : K (.tup [.int .u64 (digitsV B s : Nat), .nili]) σ) :
    ACalls Tryd.prog (gD m) 67 [.str s, .int .i64 B, .int .i64 32] σ K := by
  refine ACalls_fn tok fm (fk67 _) ?_
  simp (disch := omega) only [c67, walkAll, walkL, E, Nat.reduceEqDiff, ↓reduceIte]
  refine ParseUint75_c B hB s h0 hs hd ?_
  simp (disch := omega) only [walkAll, walkL, E, Nat.reduceEqDiff, ↓reduceIte]
  exact h
end
end Go.Ab.Sd
