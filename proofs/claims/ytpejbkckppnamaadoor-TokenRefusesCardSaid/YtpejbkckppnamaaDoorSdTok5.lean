/- Part of this work: see the text that closes the claim. -/
import Derived.Test.YtpejbkckppnamaaDoorSdTok4
import Derived.Test.YtpejbkckppnamaaDoorSdValid
set_option linter.all false
set_option linter.unusedVariables false
set_option linter.unusedSimpArgs false
namespace Go.Ab.Sd
open Go Go.Ab Go.Proofs Go.RowKit
set_option maxRecDepth 40000
set_option linter.unusedSimpArgs false
section
variable {m : Int} {σ : St} {K : AV → St → Prop}
def plainS (s : List UInt8) : Tok × Bool × List UInt8 := (⟨3, [], (valS (s.take (plainN s))).1, [], false⟩, (valS (s.take (plainN s))).2, s.drop (plainN s))
/-- The next token, whether it is one, what is left. -/
def tokS (s : List UInt8) : Tok × Bool × List UInt8 :=
  if Lib.hasPrefix s [60, 47] then endS (Lib.trimPrefix s [60, 47]) else if Lib.hasPrefix s [60] then openS (Lib.trimPrefix s [60]) else plainS s
def tokN : Nat → List UInt8 → Option (List Tok)
  | 0, _ => none
  | n + 1, s => if s == [] then some [] else if (tokS s).2.1 then (tokN n (tokS s).2.2).map ((tokS s).1 :: ·) else none
def prologL : List UInt8 := [60, 63, 120, 109, 108, 32, 118, 101, 114, 115, 105, 111, 110, 61, 34, 49, 46, 48, 34, 32, 101, 110, 99, 111, 100, 105, 110, 103, 61, 34, 85, 84, 70, 45, 56, 34, 63, 62]
def toksS (s : List UInt8) : List Tok × Int :=
  if 4096 < s.length then ([], 4) else if !utf8S s then ([], 7) else match tokN ((Lib.trimPrefix s prologL).length + 1) (Lib.trimPrefix s prologL) with
    | some l => (l, 0)
    | none => ([], 9)
theorem plainS_c (b : Nat) (s : List UInt8) (ty : TypeId) (hv : W σ b ty s) (hs : s.length < 4294967281)
    (h : K (.tup [.agg (plainS s).1.c, .bool (plainS s).2.1]) (σ.setV b (.cells ty [.str (plainS s).2.2]))) : ACalls Tryd.prog (gD m) 28 [.vp b 0] σ K := by
  refine plain_c b s ty hv hs ?_
  have e : (s.take (plainN s)).length = plainN s := by have := plainN_le s; simp; omega
  simp only [plainS, Tok.c, valS, e, List.map_nil, lsv_nil] at h
  exact h
/-- A step, and its token. -/
theorem tok_c (b : Nat) (s : List UInt8) (ty : TypeId) (hv : W σ b ty s) (hs : s.length < 4294967281) {K1 : AV → St → Prop}
    (hK : ∀ g τ, ACalls Tryd.prog (gD m) g [.vp b 0] τ (fun r σ' => r = .tup [.agg (tokS s).1.c, .bool (tokS s).2.1] ∧ σ' = σ.setV b (.cells ty [.str (tokS s).2.2])) → K1 (.fn (.func g) [.vp b 0] []) τ) :
    ACalls Tryd.prog (gD m) 18 [.vp b 0] σ K1 := by
  have hlt := getV_lt hv
  have hset : ∀ x, getV (σ.setV b (.cells ty [.str x])) b = some (.cells ty [.str x]) := fun x => by simp (disch := first | omega | (simp only [nvsR]; first | done | omega)) only [walkAll, walkL, walkK, E, Nat.reduceEqDiff, Nat.reduceAdd, Nat.reduceSub, Nat.reduceLeDiff, Nat.le_refl, Nat.zero_lt_one, Int.cast_ofNat_Int, Int.reduceLT, Int.reduceLE, Int.reduceAdd, Int.reduceSub, Int.reduceToNat, Int.toNat_natCast, decide_true, decide_false, wrap_i64, wrap_i32, wrap_u8, wrap_u32, wrap_u64, and_true, true_and, ↓reduceIte]
  refine step_c b s ty hv (fun h1 => hK _ _ ?_) (fun h1 h2 => hK _ _ ?_) (fun h1 h2 => hK _ _ ?_)
  · have := hasPrefix_len h1
    refine end_c b _ ty (hset _) (by omega) ?_
    have e : tokS s = endS (Lib.trimPrefix s [60, 47]) := by unfold tokS; rw [if_pos h1]
    rw [e]
    exact ⟨rfl, by simp (disch := first | omega | (simp only [nvsR]; first | done | omega)) only [walkAll, walkL, walkK, E, Nat.reduceEqDiff, Nat.reduceAdd, Nat.reduceSub, Nat.reduceLeDiff, Nat.le_refl, Nat.zero_lt_one, Int.cast_ofNat_Int, Int.reduceLT, Int.reduceLE, Int.reduceAdd, Int.reduceSub, Int.reduceToNat, Int.toNat_natCast, decide_true, decide_false, wrap_i64, wrap_i32, wrap_u8, wrap_u32, wrap_u64, and_true, true_and, ↓reduceIte]⟩
  · have := hasPrefix_len h2
    refine open_c b _ ty (hset _) (by omega) ?_
    have e : tokS s = openS (Lib.trimPrefix s [60]) := by unfold tokS; rw [if_neg (by simp [h1]), if_pos h2]
    rw [e]
    exact ⟨rfl, by simp (disch := first | omega | (simp only [nvsR]; first | done | omega)) only [walkAll, walkL, walkK, E, Nat.reduceEqDiff, Nat.reduceAdd, Nat.reduceSub, Nat.reduceLeDiff, Nat.le_refl, Nat.zero_lt_one, Int.cast_ofNat_Int, Int.reduceLT, Int.reduceLE, Int.reduceAdd, Int.reduceSub, Int.reduceToNat, Int.toNat_natCast, decide_true, decide_false, wrap_i64, wrap_i32, wrap_u8, wrap_u32, wrap_u64, and_true, true_and, ↓reduceIte]⟩
  · refine plainS_c b s ty hv hs ?_
    have e : tokS s = plainS s := by unfold tokS; rw [if_neg (by simp [h1]), if_neg (by simp [h2])]
    rw [e]
    exact ⟨rfl, rfl⟩
theorem endS_len (s : List UInt8) : (endS s).2.2.length ≤ s.length := by
  have n1 := nameS_len s
  have n2 := dropWhile_len blanksL.contains (nameS s).2
  have n3 := trimPrefix_le ((nameS s).2.dropWhile blanksL.contains) [62]
  unfold endS; split <;> simp only <;> omega
theorem indexByte_zero {c : UInt8} {s : List UInt8} (h : Lib.indexByte s c = 0) : ∃ r, s = c :: r := by
  cases s with
  | nil => cases h
  | cons b l =>
    unfold Lib.indexByte at h
    have := indexByte_range c l
    split at h
    · rename_i hb; simp at hb; subst hb; exact ⟨l, rfl⟩
    · split at h
      · cases h
      · rename_i h2; simp at h2; omega
theorem tokS_len {s : List UInt8} (h : s ≠ []) : (tokS s).2.2.length < s.length := by
  unfold tokS
  split
  · rename_i h1
    have := hasPrefix_len h1
    have := endS_len (Lib.trimPrefix s [60, 47])
    simp at *; omega
  · split
    · rename_i h1
      have := hasPrefix_len h1
      have := openS_len (Lib.trimPrefix s [60])
      simp at *; omega
    · rename_i h1 h2
      have hp : 0 < plainN s := by
        unfold plainN
        have := indexByte_range 60 s
        split
        · exact List.length_pos_iff.2 h
        · rename_i hlt
          by_cases h0 : Lib.indexByte s 60 = 0
          · obtain ⟨r, rfl⟩ := indexByte_zero h0
            exact absurd rfl h2
          · omega
      simp only [plainS, List.length_drop]
      have := List.length_pos_iff.2 h
      omega
theorem toks_loop {Q : EQ} : ∀ (n : Nat) (s : List UInt8) (acc : List Tok) (v : AV) (ρ : Option Nat) (τ : St) (e : Env), s.length < n → acc.length + s.length < 5000 → Lst 31 5 τ v (acc.map Tok.c) ρ → getV τ 0 = some (.cells 45 [.str s]) →
    e 4 = some (.vp 0 0) → e 5 = some v →
    (∀ l e' τ' v' ρ', tokN n s = some l → Lst 31 5 τ' v' ((acc ++ l).map Tok.c) ρ' → e' 5 = some v' → Q (.exit 1) e' τ') →
    (∀ e' τ', tokN n s = none → e' 2 = some .nils → e' 3 = some (.int .i64 9) → Q .ret e' τ') → LoopC Tryd.prog tt (gD m) l9_0 Q e τ := by
  intro n
  induction n with
  | zero => intro s acc v ρ τ e h; omega
  | succ n ih =>
    intro s acc v ρ τ e hn hs hl hv h4 h5 hx hr
    refine LoopC_unfold tok fm ?_
    simp (disch := first | omega | (simp only [nvsR]; first | done | omega)) only [walkAll, walkL, walkK, E, Nat.reduceEqDiff, Nat.reduceAdd, Nat.reduceSub, Nat.reduceLeDiff, Nat.le_refl, Nat.zero_lt_one, Int.cast_ofNat_Int, Int.reduceLT, Int.reduceLE, Int.reduceAdd, Int.reduceSub, Int.reduceToNat, Int.toNat_natCast, decide_true, decide_false, wrap_i64, wrap_i32, wrap_u8, wrap_u32, wrap_u64, and_true, true_and, ↓reduceIte, l9_0x, l9_0b, h4, hv]
    cases e0 : (s == []) with
    | true =>
      simp (disch := first | omega | (simp only [nvsR]; first | done | omega)) only [walkAll, walkL, walkK, E, Nat.reduceEqDiff, Nat.reduceAdd, Nat.reduceSub, Nat.reduceLeDiff, Nat.le_refl, Nat.zero_lt_one, Int.cast_ofNat_Int, Int.reduceLT, Int.reduceLE, Int.reduceAdd, Int.reduceSub, Int.reduceToNat, Int.toNat_natCast, decide_true, decide_false, wrap_i64, wrap_i32, wrap_u8, wrap_u32, wrap_u64, and_true, true_and, ↓reduceIte, h4]
      exact hx [] _ _ v ρ (by simp only [tokN, e0, if_true]) (by simpa using hl) (by simp [put, h5])
    | false =>
      have hne : s ≠ [] := by intro h; rw [h] at e0; cases e0
      have hlt := getV_lt hv
      have hlen := tokS_len hne
      simp (disch := first | omega | (simp only [nvsR]; first | done | omega)) only [walkAll, walkL, walkK, E, Nat.reduceEqDiff, Nat.reduceAdd, Nat.reduceSub, Nat.reduceLeDiff, Nat.le_refl, Nat.zero_lt_one, Int.cast_ofNat_Int, Int.reduceLT, Int.reduceLE, Int.reduceAdd, Int.reduceSub, Int.reduceToNat, Int.toNat_natCast, decide_true, decide_false, wrap_i64, wrap_i32, wrap_u8, wrap_u32, wrap_u64, and_true, true_and, ↓reduceIte, h4]
      refine tok_c 0 s 45 hv (by omega) (fun g τ' hc => ?_)
      simp (disch := first | omega | (simp only [nvsR]; first | done | omega)) only [walkAll, walkL, walkK, E, Nat.reduceEqDiff, Nat.reduceAdd, Nat.reduceSub, Nat.reduceLeDiff, Nat.le_refl, Nat.zero_lt_one, Int.cast_ofNat_Int, Int.reduceLT, Int.reduceLE, Int.reduceAdd, Int.reduceSub, Int.reduceToNat, Int.toNat_natCast, decide_true, decide_false, wrap_i64, wrap_i32, wrap_u8, wrap_u32, wrap_u64, and_true, true_and, ↓reduceIte, h4]
      refine hc.mono ?_
      rintro r σ' ⟨rfl, rfl⟩
      simp (disch := first | omega | (simp only [nvsR]; first | done | omega)) only [walkAll, walkL, walkK, E, Nat.reduceEqDiff, Nat.reduceAdd, Nat.reduceSub, Nat.reduceLeDiff, Nat.le_refl, Nat.zero_lt_one, Int.cast_ofNat_Int, Int.reduceLT, Int.reduceLE, Int.reduceAdd, Int.reduceSub, Int.reduceToNat, Int.toNat_natCast, decide_true, decide_false, wrap_i64, wrap_i32, wrap_u8, wrap_u32, wrap_u64, and_true, true_and, ↓reduceIte, h4, Tok.c, lsv_cells, lsv_one]
      cases e1 : (tokS s).2.1 with
      | false =>
        simp (disch := first | omega | (simp only [nvsR]; first | done | omega)) only [walkAll, walkL, walkK, E, Nat.reduceEqDiff, Nat.reduceAdd, Nat.reduceSub, Nat.reduceLeDiff, Nat.le_refl, Nat.zero_lt_one, Int.cast_ofNat_Int, Int.reduceLT, Int.reduceLE, Int.reduceAdd, Int.reduceSub, Int.reduceToNat, Int.toNat_natCast, decide_true, decide_false, wrap_i64, wrap_i32, wrap_u8, wrap_u32, wrap_u64, and_true, true_and, ↓reduceIte, h4]
        exact hr _ _ (by simp only [tokN, e0, e1]; rfl) (by simp [put]) (by simp [put])
      | true =>
        simp (disch := first | omega | (simp only [nvsR]; first | done | omega)) only [walkAll, walkL, walkK, E, Nat.reduceEqDiff, Nat.reduceAdd, Nat.reduceSub, Nat.reduceLeDiff, Nat.le_refl, Nat.zero_lt_one, Int.cast_ofNat_Int, Int.reduceLT, Int.reduceLE, Int.reduceAdd, Int.reduceSub, Int.reduceToNat, Int.toNat_natCast, decide_true, decide_false, wrap_i64, wrap_i32, wrap_u8, wrap_u32, wrap_u64, and_true, true_and, ↓reduceIte, h4, h5, lsv_cells, lsv_one]
        refine app_one (l := acc.map Tok.c) (ρ := ρ) hl rfl (by simp only [List.all_cons, List.all_nil, walkO, lsv_one, Bool.and_self]) (by simp; omega) (fun v' σ' ρ' hl' hB => ?_)
        simp (disch := first | omega | (simp only [nvsR]; first | done | omega)) only [walkAll, walkL, walkK, E, Nat.reduceEqDiff, Nat.reduceAdd, Nat.reduceSub, Nat.reduceLeDiff, Nat.le_refl, Nat.zero_lt_one, Int.cast_ofNat_Int, Int.reduceLT, Int.reduceLE, Int.reduceAdd, Int.reduceSub, Int.reduceToNat, Int.toNat_natCast, decide_true, decide_false, wrap_i64, wrap_i32, wrap_u8, wrap_u32, wrap_u64, and_true, true_and, ↓reduceIte, h4]
        refine ih (tokS s).2.2 (acc ++ [(tokS s).1]) v' ρ' _ _ (by omega) (by simp; omega) ?_ ?_ (by simp [put, h4]) (by simp [put]) (fun l e' τ'' v'' ρ'' ht hl'' h5' => ?_) (fun e' τ'' ht h2' h3' => ?_)
        · rw [List.map_append]; exact hl'
        · rw [hB.getV]; simp (disch := first | omega | (simp only [nvsR]; first | done | omega)) only [walkAll, walkL, walkK, E, Nat.reduceEqDiff, Nat.reduceAdd, Nat.reduceSub, Nat.reduceLeDiff, Nat.le_refl, Nat.zero_lt_one, Int.cast_ofNat_Int, Int.reduceLT, Int.reduceLE, Int.reduceAdd, Int.reduceSub, Int.reduceToNat, Int.toNat_natCast, decide_true, decide_false, wrap_i64, wrap_i32, wrap_u8, wrap_u32, wrap_u64, and_true, true_and, ↓reduceIte]
        · refine hx ((tokS s).1 :: l) e' τ'' v'' ρ'' (by simp only [tokN, e0, e1, ht]; rfl) (by simpa using hl'') h5'
        · exact hr e' τ'' (by simp only [tokN, e0, e1, ht]; rfl) h2' h3'
theorem Tokens_c (s : List UInt8) (hs : s.length ≤ 9223372036854775807) (h : K (.tup [lsv ((toksS s).1.map Tok.c), .int .i64 (toksS s).2]) σ) : ACalls Tryd.prog (gD m) 9 [.str s] σ K := by
  refine (ACalls.frame_frz gD_data (.cons _ _ (.str _) .nil) (Q := fun r => r = .tup [lsv ((toksS s).1.map Tok.c), .int .i64 (toksS s).2]) ?_ σ).mono (fun r σ' hr => by rw [hr.1, hr.2]; exact h)
  have fin : ∀ (τ : St) (l : List Tok) (x : Int) (v : AV) (ρ : Option Nat), toksS s = (l, x) → Lst 31 5 τ v (l.map Tok.c) ρ →
      ∃ r0, Frz τ (.tup [v, .int .i64 x]) r0 ∧ Data r0 ∧ r0 = .tup [lsv ((toksS s).1.map Tok.c), .int .i64 (toksS s).2] := fun τ l x v ρ he hl => by
    refine ⟨.tup [lsv (l.map Tok.c), .int .i64 x], frz_lst hl (fun a => .tup [a, .int .i64 x]) (fun k els => by simp only [frzR]), ?_, by rw [he]⟩
    simp only [dataR, and_true]
    exact lsv_data (data_flat fun t _ => tok_data t)
  have fin0 : ∀ (τ : St) (x : Int), toksS s = ([], x) → ∃ r0, Frz τ (.tup [.nils, .int .i64 x]) r0 ∧ Data r0 ∧ r0 = .tup [lsv ((toksS s).1.map Tok.c), .int .i64 (toksS s).2] := fun τ x he => fin τ [] x .nils none he (Lst.nil _ _ _)
  refine ACalls_fn tok fm (fk9 _) ?_
  simp (disch := first | omega | (simp only [nvsR]; first | done | omega)) only [walkAll, walkL, walkK, E, Nat.reduceEqDiff, Nat.reduceAdd, Nat.reduceSub, Nat.reduceLeDiff, Nat.le_refl, Nat.zero_lt_one, Int.cast_ofNat_Int, Int.reduceLT, Int.reduceLE, Int.reduceAdd, Int.reduceSub, Int.reduceToNat, Int.toNat_natCast, decide_true, decide_false, wrap_i64, wrap_i32, wrap_u8, wrap_u32, wrap_u64, and_true, true_and, ↓reduceIte, c9]
  cases e1 : decide (4096 < (s.length : Int)) with
  | true =>
    simp (disch := first | omega | (simp only [nvsR]; first | done | omega)) only [walkAll, walkL, walkK, E, Nat.reduceEqDiff, Nat.reduceAdd, Nat.reduceSub, Nat.reduceLeDiff, Nat.le_refl, Nat.zero_lt_one, Int.cast_ofNat_Int, Int.reduceLT, Int.reduceLE, Int.reduceAdd, Int.reduceSub, Int.reduceToNat, Int.toNat_natCast, decide_true, decide_false, wrap_i64, wrap_i32, wrap_u8, wrap_u32, wrap_u64, and_true, true_and, ↓reduceIte]
    have : 4096 < s.length := by have := of_decide_eq_true e1; omega
    exact fin0 _ 4 (by unfold toksS; rw [if_pos this])
  | false =>
    have h1 : ¬ 4096 < s.length := by have := of_decide_eq_false e1; omega
    simp (disch := first | omega | (simp only [nvsR]; first | done | omega)) only [walkAll, walkL, walkK, E, Nat.reduceEqDiff, Nat.reduceAdd, Nat.reduceSub, Nat.reduceLeDiff, Nat.le_refl, Nat.zero_lt_one, Int.cast_ofNat_Int, Int.reduceLT, Int.reduceLE, Int.reduceAdd, Int.reduceSub, Int.reduceToNat, Int.toNat_natCast, decide_true, decide_false, wrap_i64, wrap_i32, wrap_u8, wrap_u32, wrap_u64, and_true, true_and, ↓reduceIte]
    refine Utf8_c s hs ?_
    cases e2 : utf8S s with
    | false =>
      simp (disch := first | omega | (simp only [nvsR]; first | done | omega)) only [walkAll, walkL, walkK, E, Nat.reduceEqDiff, Nat.reduceAdd, Nat.reduceSub, Nat.reduceLeDiff, Nat.le_refl, Nat.zero_lt_one, Int.cast_ofNat_Int, Int.reduceLT, Int.reduceLE, Int.reduceAdd, Int.reduceSub, Int.reduceToNat, Int.toNat_natCast, decide_true, decide_false, wrap_i64, wrap_i32, wrap_u8, wrap_u32, wrap_u64, and_true, true_and, ↓reduceIte]
      exact fin0 _ 7 (by unfold toksS; rw [if_neg h1, e2]; rfl)
    | true =>
      simp (disch := first | omega | (simp only [nvsR]; first | done | omega)) only [walkAll, walkL, walkK, E, Nat.reduceEqDiff, Nat.reduceAdd, Nat.reduceSub, Nat.reduceLeDiff, Nat.le_refl, Nat.zero_lt_one, Int.cast_ofNat_Int, Int.reduceLT, Int.reduceLE, Int.reduceAdd, Int.reduceSub, Int.reduceToNat, Int.toNat_natCast, decide_true, decide_false, wrap_i64, wrap_i32, wrap_u8, wrap_u32, wrap_u64, and_true, true_and, ↓reduceIte]
      refine pass_c 0 s _ 45 rfl ?_
      have hp := trimPrefix_le s prologL
      rw [show Lib.trimPrefix s [60, 63, 120, 109, 108, 32, 118, 101, 114, 115, 105, 111, 110, 61, 34, 49, 46, 48, 34, 32, 101, 110, 99, 111, 100, 105, 110, 103, 61, 34, 85, 84, 70, 45, 56, 34, 63, 62] = Lib.trimPrefix s prologL from rfl]
      simp (disch := first | omega | (simp only [nvsR]; first | done | omega)) only [walkAll, walkL, walkK, E, Nat.reduceEqDiff, Nat.reduceAdd, Nat.reduceSub, Nat.reduceLeDiff, Nat.le_refl, Nat.zero_lt_one, Int.cast_ofNat_Int, Int.reduceLT, Int.reduceLE, Int.reduceAdd, Int.reduceSub, Int.reduceToNat, Int.toNat_natCast, decide_true, decide_false, wrap_i64, wrap_i32, wrap_u8, wrap_u32, wrap_u64, and_true, true_and, ↓reduceIte]
      refine toks_loop ((Lib.trimPrefix s prologL).length + 1) (Lib.trimPrefix s prologL) [] .nils none _ _ (by omega) (by simp; omega) (Lst.nil _ _ _) rfl (by simp [put, E]) (by simp [put]) (fun l e' τ' v' ρ' ht hl h5 => ?_) (fun e' τ' ht h2 h3 => ?_)
      · simp (disch := first | omega | (simp only [nvsR]; first | done | omega)) only [walkAll, walkL, walkK, E, Nat.reduceEqDiff, Nat.reduceAdd, Nat.reduceSub, Nat.reduceLeDiff, Nat.le_refl, Nat.zero_lt_one, Int.cast_ofNat_Int, Int.reduceLT, Int.reduceLE, Int.reduceAdd, Int.reduceSub, Int.reduceToNat, Int.toNat_natCast, decide_true, decide_false, wrap_i64, wrap_i32, wrap_u8, wrap_u32, wrap_u64, and_true, true_and, ↓reduceIte, h5]
        exact fin _ l 0 _ ρ' (by unfold toksS; rw [if_neg h1, e2]; simp only [Bool.not_true, Bool.false_eq_true, if_false, ht]) (by simpa using hl)
      · simp (disch := first | omega | (simp only [nvsR]; first | done | omega)) only [walkAll, walkL, walkK, E, Nat.reduceEqDiff, Nat.reduceAdd, Nat.reduceSub, Nat.reduceLeDiff, Nat.le_refl, Nat.zero_lt_one, Int.cast_ofNat_Int, Int.reduceLT, Int.reduceLE, Int.reduceAdd, Int.reduceSub, Int.reduceToNat, Int.toNat_natCast, decide_true, decide_false, wrap_i64, wrap_i32, wrap_u8, wrap_u32, wrap_u64, and_true, true_and, ↓reduceIte, h2, h3]
        exact fin0 _ 9 (by unfold toksS; rw [if_neg h1, e2]; simp only [Bool.not_true, Bool.false_eq_true, if_false, ht])
end
end Go.Ab.Sd
