/-
  Texts of characters that may be: plain laws.
-/
import Derived.Test.YtpejbkckppnamaaDoorTok
import Derived.Lib.MapLaws
import Derived.Lib.ValidU
import Derived.Lib.TrimAscii
import Derived.Shelf.GgClosure.StringsIndexFunc
import Derived.Lib.IndexMore
import Derived.Lib.Strings
import Derived.Lib.Bytealg
set_option linter.all false
set_option linter.unusedVariables false
set_option linter.unusedSimpArgs false
namespace Go.Ab.Sd
open Go Go.Ab Go.Proofs Go.RowKit
set_option maxRecDepth 100000
set_option maxHeartbeats 1000000 in
theorem plainAttr_calls (a b : ByteArray) (w : World) :
    Calls Tryd.prog 30 #[.agg #[.string a, .string b], .agg #[.string a, .string b]] w fun e w' => e = .returned (.bool true) ∧ Below w.heap.size w w' := by
  go_enter Tryd.func30, Tryd.ntmps30
  go_wp2
  go_ret
  exact ⟨rfl, ((Below.refl _ _).alloc (Nat.le_refl _) _).alloc (by simp) _⟩
section
variable {m : Int} {σ : St} {K : AV → St → Prop}
theorem agg2_inv {C : Cz} {s t : List UInt8} {l : List AV} {vs : List Value} (h : RepL C (.agg [.str s, .str t] :: l) vs) : ∃ us, vs = .agg #[.string ⟨s.toArray⟩, .string ⟨t.toArray⟩] :: us ∧ RepL C l us := by
  cases h with
  | cons _ _ _ us h k =>
    cases h with
    | agg _ vs h =>
      have e := h.ss_inv
      subst e
      exact ⟨us, rfl, k⟩
theorem plainAttr1_c (s t : List UInt8) (h : K (.bool true) σ) : ACalls Tryd.prog (gD m) 30 [.agg [.str s, .str t], .agg [.str s, .str t]] σ K :=
  ACalls.of_calls Tryd.func30 rfl (by decide) (fun C w vs _ _ ha => by
    obtain ⟨us, e1, ha⟩ := agg2_inv ha
    obtain ⟨us', e2, ha⟩ := agg2_inv ha
    rw [e1, e2, ha.nil_inv]
    exact (plainAttr_calls _ _ w).mono fun e w' ⟨h1, h2⟩ => ⟨_, h1, .bool true, h2⟩) h
theorem sameAttr_loop (va vb : AV) (la lb : List (List AV)) (g : Nat) (ha : Rd 2 σ va la) (hb : Rd 2 σ vb lb) (hl : la.length = lb.length) (hlt : la.length < 9223372036854775807)
    (hone : ∀ (i : Nat) (c d : List AV), la[i]? = some c → lb[i]? = some d → ∀ K : AV → St → Prop, K (.bool true) σ → ACalls Tryd.prog (gD m) g [.agg c, .agg d] σ K) {Q : EQ} (hq : ∀ e', Q (.exit 0) e' σ) :
    ∀ (rest : List (List AV)) (i : Nat) (e : Env), la.drop i = rest → e 7 = some (.int .i64 i) → e 0 = some va → e 1 = some vb → e 2 = some (.fn (.func g) [] []) → LoopC Tryd.prog tt (gD m) l29_0 Q e σ := by
  intro rest
  induction rest with
  | nil =>
    intro i e hd h7 h0 h1 h2
    have hi : la.length ≤ i := by simpa using hd
    refine LoopC_unfold tok fm ?_
    have hb' : decide ((i : Int) < (la.length : Int)) = false := by simp; omega
    simp (disch := first | omega | (simp only [nvsR]; first | done | omega)) only [walkAll, walkL, walkK, E, Nat.reduceEqDiff, Nat.reduceAdd, Nat.reduceSub, Nat.reduceLeDiff, Nat.le_refl, Nat.zero_lt_one, Int.cast_ofNat_Int, Int.reduceLT, Int.reduceLE, Int.reduceAdd, Int.reduceSub, Int.reduceToNat, Int.toNat_natCast, decide_true, decide_false, wrap_i64, wrap_i32, wrap_u8, wrap_u32, wrap_u64, and_true, true_and, ↓reduceIte, l29_0x, l29_0b, h7, h0, ha.len, hb']
    exact hq _
  | cons c rest ih =>
    intro i e hd h7 h0 h1 h2
    obtain ⟨hc, hd'⟩ := drop_cons hd
    have hi := (List.getElem?_eq_some_iff.1 hc).1
    obtain ⟨d, hd2⟩ : ∃ d, lb[i]? = some d := ⟨lb[i], List.getElem?_eq_getElem (by omega)⟩
    obtain ⟨p, hp, hpt⟩ := ha.at hc .i64
    obtain ⟨q, hq', hqt⟩ := hb.at hd2 .i64
    have hl1 := hpt.all (ha.1 c (List.mem_of_getElem? hc))
    have hl2 := hqt.all (hb.1 d (List.mem_of_getElem? hd2))
    refine LoopC_unfold tok fm ?_
    have hb' : decide ((i : Int) < (la.length : Int)) = true := by simp; omega
    simp (disch := first | omega | (simp only [nvsR]; first | done | omega)) only [walkAll, walkL, walkK, E, Nat.reduceEqDiff, Nat.reduceAdd, Nat.reduceSub, Nat.reduceLeDiff, Nat.le_refl, Nat.zero_lt_one, Int.cast_ofNat_Int, Int.reduceLT, Int.reduceLE, Int.reduceAdd, Int.reduceSub, Int.reduceToNat, Int.toNat_natCast, decide_true, decide_false, wrap_i64, wrap_i32, wrap_u8, wrap_u32, wrap_u64, and_true, true_and, ↓reduceIte, l29_0x, l29_0b, h7, h0, h1, h2, ha.len, hb', hp, hq', hl1, hl2]
    refine hone i c d hc hd2 _ ?_
    simp (disch := first | omega | (simp only [nvsR]; first | done | omega)) only [walkAll, walkL, walkK, E, Nat.reduceEqDiff, Nat.reduceAdd, Nat.reduceSub, Nat.reduceLeDiff, Nat.le_refl, Nat.zero_lt_one, Int.cast_ofNat_Int, Int.reduceLT, Int.reduceLE, Int.reduceAdd, Int.reduceSub, Int.reduceToNat, Int.toNat_natCast, decide_true, decide_false, wrap_i64, wrap_i32, wrap_u8, wrap_u32, wrap_u64, and_true, true_and, ↓reduceIte, h7, h0, h1, h2, hp, hq', hl1, hl2]
    exact ih (i + 1) _ hd' (by simp [put]) (by simp [put, h0]) (by simp [put, h1]) (by simp [put, h2])
/-- Two lists that are alike, one by one. -/
theorem sameAttr_c (va vb : AV) (la lb : List (List AV)) (g : Nat) (ha : Rd 2 σ va la) (hb : Rd 2 σ vb lb) (hl : la.length = lb.length) (hlt : la.length < 9223372036854775807)
    (hone : ∀ (i : Nat) (c d : List AV), la[i]? = some c → lb[i]? = some d → ∀ K : AV → St → Prop, K (.bool true) σ → ACalls Tryd.prog (gD m) g [.agg c, .agg d] σ K) (h : K (.bool true) σ) :
    ACalls Tryd.prog (gD m) 29 [va, vb, .fn (.func g) [] []] σ K := by
  refine ACalls_fn tok fm (fk29 _) ?_
  have hne : ((la.length : Int) != (lb.length : Int)) = false := by simp [hl]
  simp (disch := first | omega | (simp only [nvsR]; first | done | omega)) only [walkAll, walkL, walkK, E, Nat.reduceEqDiff, Nat.reduceAdd, Nat.reduceSub, Nat.reduceLeDiff, Nat.le_refl, Nat.zero_lt_one, Int.cast_ofNat_Int, Int.reduceLT, Int.reduceLE, Int.reduceAdd, Int.reduceSub, Int.reduceToNat, Int.toNat_natCast, decide_true, decide_false, wrap_i64, wrap_i32, wrap_u8, wrap_u32, wrap_u64, and_true, true_and, ↓reduceIte, c29, ha.len, hb.len, hne]
  refine sameAttr_loop va vb la lb g ha hb hl hlt hone (fun e' => ?_) la 0 _ rfl (by simp [put]) (by simp [put, E]) (by simp [put, E]) (by simp [put, E])
  simp (disch := first | omega | (simp only [nvsR]; first | done | omega)) only [walkAll, walkL, walkK, E, Nat.reduceEqDiff, Nat.reduceAdd, Nat.reduceSub, Nat.reduceLeDiff, Nat.le_refl, Nat.zero_lt_one, Int.cast_ofNat_Int, Int.reduceLT, Int.reduceLE, Int.reduceAdd, Int.reduceSub, Int.reduceToNat, Int.toNat_natCast, decide_true, decide_false, wrap_i64, wrap_i32, wrap_u8, wrap_u32, wrap_u64, and_true, true_and, ↓reduceIte]
  exact h

theorem sameToken_loop (va vb : AV) (la lb : List (List AV)) (g : Nat) (ha : Rd 5 σ va la) (hb : Rd 5 σ vb lb) (hl : la.length = lb.length) (hlt : la.length < 9223372036854775807)
    (hone : ∀ (i : Nat) (c d : List AV), la[i]? = some c → lb[i]? = some d → ∀ K : AV → St → Prop, K (.bool true) σ → ACalls Tryd.prog (gD m) g [.agg c, .agg d] σ K) {Q : EQ} (hq : ∀ e', Q (.exit 0) e' σ) :
    ∀ (rest : List (List AV)) (i : Nat) (e : Env), la.drop i = rest → e 7 = some (.int .i64 i) → e 0 = some va → e 1 = some vb → e 2 = some (.fn (.func g) [] []) → LoopC Tryd.prog tt (gD m) l13_0 Q e σ := by
  intro rest
  induction rest with
  | nil =>
    intro i e hd h7 h0 h1 h2
    have hi : la.length ≤ i := by simpa using hd
    refine LoopC_unfold tok fm ?_
    have hb' : decide ((i : Int) < (la.length : Int)) = false := by simp; omega
    simp (disch := first | omega | (simp only [nvsR]; first | done | omega)) only [walkAll, walkL, walkK, E, Nat.reduceEqDiff, Nat.reduceAdd, Nat.reduceSub, Nat.reduceLeDiff, Nat.le_refl, Nat.zero_lt_one, Int.cast_ofNat_Int, Int.reduceLT, Int.reduceLE, Int.reduceAdd, Int.reduceSub, Int.reduceToNat, Int.toNat_natCast, decide_true, decide_false, wrap_i64, wrap_i32, wrap_u8, wrap_u32, wrap_u64, and_true, true_and, ↓reduceIte, l13_0x, l13_0b, h7, h0, ha.len, hb']
    exact hq _
  | cons c rest ih =>
    intro i e hd h7 h0 h1 h2
    obtain ⟨hc, hd'⟩ := drop_cons hd
    have hi := (List.getElem?_eq_some_iff.1 hc).1
    obtain ⟨d, hd2⟩ : ∃ d, lb[i]? = some d := ⟨lb[i], List.getElem?_eq_getElem (by omega)⟩
    obtain ⟨p, hp, hpt⟩ := ha.at hc .i64
    obtain ⟨q, hq', hqt⟩ := hb.at hd2 .i64
    have hl1 := hpt.all (ha.1 c (List.mem_of_getElem? hc))
    have hl2 := hqt.all (hb.1 d (List.mem_of_getElem? hd2))
    refine LoopC_unfold tok fm ?_
    have hb' : decide ((i : Int) < (la.length : Int)) = true := by simp; omega
    simp (disch := first | omega | (simp only [nvsR]; first | done | omega)) only [walkAll, walkL, walkK, E, Nat.reduceEqDiff, Nat.reduceAdd, Nat.reduceSub, Nat.reduceLeDiff, Nat.le_refl, Nat.zero_lt_one, Int.cast_ofNat_Int, Int.reduceLT, Int.reduceLE, Int.reduceAdd, Int.reduceSub, Int.reduceToNat, Int.toNat_natCast, decide_true, decide_false, wrap_i64, wrap_i32, wrap_u8, wrap_u32, wrap_u64, and_true, true_and, ↓reduceIte, l13_0x, l13_0b, h7, h0, h1, h2, ha.len, hb', hp, hq', hl1, hl2]
    refine hone i c d hc hd2 _ ?_
    simp (disch := first | omega | (simp only [nvsR]; first | done | omega)) only [walkAll, walkL, walkK, E, Nat.reduceEqDiff, Nat.reduceAdd, Nat.reduceSub, Nat.reduceLeDiff, Nat.le_refl, Nat.zero_lt_one, Int.cast_ofNat_Int, Int.reduceLT, Int.reduceLE, Int.reduceAdd, Int.reduceSub, Int.reduceToNat, Int.toNat_natCast, decide_true, decide_false, wrap_i64, wrap_i32, wrap_u8, wrap_u32, wrap_u64, and_true, true_and, ↓reduceIte, h7, h0, h1, h2, hp, hq', hl1, hl2]
    exact ih (i + 1) _ hd' (by simp [put]) (by simp [put, h0]) (by simp [put, h1]) (by simp [put, h2])
/-- Two lists that are alike, one by one. -/
theorem sameToken_c (va vb : AV) (la lb : List (List AV)) (g : Nat) (ha : Rd 5 σ va la) (hb : Rd 5 σ vb lb) (hl : la.length = lb.length) (hlt : la.length < 9223372036854775807)
    (hone : ∀ (i : Nat) (c d : List AV), la[i]? = some c → lb[i]? = some d → ∀ K : AV → St → Prop, K (.bool true) σ → ACalls Tryd.prog (gD m) g [.agg c, .agg d] σ K) (h : K (.bool true) σ) :
    ACalls Tryd.prog (gD m) 13 [va, vb, .fn (.func g) [] []] σ K := by
  refine ACalls_fn tok fm (fk13 _) ?_
  have hne : ((la.length : Int) != (lb.length : Int)) = false := by simp [hl]
  simp (disch := first | omega | (simp only [nvsR]; first | done | omega)) only [walkAll, walkL, walkK, E, Nat.reduceEqDiff, Nat.reduceAdd, Nat.reduceSub, Nat.reduceLeDiff, Nat.le_refl, Nat.zero_lt_one, Int.cast_ofNat_Int, Int.reduceLT, Int.reduceLE, Int.reduceAdd, Int.reduceSub, Int.reduceToNat, Int.toNat_natCast, decide_true, decide_false, wrap_i64, wrap_i32, wrap_u8, wrap_u32, wrap_u64, and_true, true_and, ↓reduceIte, c13, ha.len, hb.len, hne]
  refine sameToken_loop va vb la lb g ha hb hl hlt hone (fun e' => ?_) la 0 _ rfl (by simp [put]) (by simp [put, E]) (by simp [put, E]) (by simp [put, E])
  simp (disch := first | omega | (simp only [nvsR]; first | done | omega)) only [walkAll, walkL, walkK, E, Nat.reduceEqDiff, Nat.reduceAdd, Nat.reduceSub, Nat.reduceLeDiff, Nat.le_refl, Nat.zero_lt_one, Int.cast_ofNat_Int, Int.reduceLT, Int.reduceLE, Int.reduceAdd, Int.reduceSub, Int.reduceToNat, Int.toNat_natCast, decide_true, decide_false, wrap_i64, wrap_i32, wrap_u8, wrap_u32, wrap_u64, and_true, true_and, ↓reduceIte]
  exact h

theorem atc_len (l : List (List UInt8 × List UInt8)) : ∀ e ∈ l.map atc, e.length = 2 := fun e he => by
  obtain ⟨a, _, rfl⟩ := List.mem_map.1 he; rfl
theorem plainAttr_c (l : List (List UInt8 × List UInt8)) (hl : l.length < 9223372036854775807) (h : K (.bool true) σ) : ACalls Tryd.prog (gD m) 19 [lsv (l.map atc), lsv (l.map atc)] σ K := by
  refine ACalls_fn tok fm (fk19 _) ?_
  simp (disch := first | omega | (simp only [nvsR]; first | done | omega)) only [walkAll, walkL, walkK, E, Nat.reduceEqDiff, Nat.reduceAdd, Nat.reduceSub, Nat.reduceLeDiff, Nat.le_refl, Nat.zero_lt_one, Int.cast_ofNat_Int, Int.reduceLT, Int.reduceLE, Int.reduceAdd, Int.reduceSub, Int.reduceToNat, Int.toNat_natCast, decide_true, decide_false, wrap_i64, wrap_i32, wrap_u8, wrap_u32, wrap_u64, and_true, true_and, ↓reduceIte, c19]
  refine sameAttr_c _ _ _ _ _ (rd_lsv (atc_len l) σ) (rd_lsv (atc_len l) σ) rfl (by simpa using hl) (fun i c d hc hd K hK => ?_) ?_
  · rw [hc] at hd; cases hd
    obtain ⟨a, _, rfl⟩ := List.mem_map.1 (List.mem_of_getElem? hc)
    exact plainAttr1_c a.1 a.2 hK
  · simp (disch := first | omega | (simp only [nvsR]; first | done | omega)) only [walkAll, walkL, walkK, E, Nat.reduceEqDiff, Nat.reduceAdd, Nat.reduceSub, Nat.reduceLeDiff, Nat.le_refl, Nat.zero_lt_one, Int.cast_ofNat_Int, Int.reduceLT, Int.reduceLE, Int.reduceAdd, Int.reduceSub, Int.reduceToNat, Int.toNat_natCast, decide_true, decide_false, wrap_i64, wrap_i32, wrap_u8, wrap_u32, wrap_u64, and_true, true_and, ↓reduceIte]
    exact h
theorem token_c (t : Tok) (hl : t.attrs.length < 9223372036854775807) (h : K (.bool true) σ) : ACalls Tryd.prog (gD m) 14 [.agg t.c, .agg t.c] σ K := by
  refine ACalls.close σ _ (.refl σ) (by simp only [dataR]) ?_ h
  refine ACalls_fn tok fm (fk14 _) ?_
  have e1 : ∀ a : Int, (a == a) = true := fun a => by simp
  have e2 : ∀ a : List UInt8, (a == a) = true := fun a => by simp
  have e3 : ∀ a : Bool, (a == a) = true := fun a => by simp
  simp (disch := first | omega | (simp only [nvsR]; first | done | omega)) only [walkAll, walkL, walkK, E, Nat.reduceEqDiff, Nat.reduceAdd, Nat.reduceSub, Nat.reduceLeDiff, Nat.le_refl, Nat.zero_lt_one, Int.cast_ofNat_Int, Int.reduceLT, Int.reduceLE, Int.reduceAdd, Int.reduceSub, Int.reduceToNat, Int.toNat_natCast, decide_true, decide_false, wrap_i64, wrap_i32, wrap_u8, wrap_u32, wrap_u64, and_true, true_and, ↓reduceIte, c14, Tok.c, e1, e2, e3, lsv_cells, lsv_one]
  refine plainAttr_c t.attrs hl ?_
  simp (disch := first | omega | (simp only [nvsR]; first | done | omega)) only [walkAll, walkL, walkK, E, Nat.reduceEqDiff, Nat.reduceAdd, Nat.reduceSub, Nat.reduceLeDiff, Nat.le_refl, Nat.zero_lt_one, Int.cast_ofNat_Int, Int.reduceLT, Int.reduceLE, Int.reduceAdd, Int.reduceSub, Int.reduceToNat, Int.toNat_natCast, decide_true, decide_false, wrap_i64, wrap_i32, wrap_u8, wrap_u32, wrap_u64, and_true, true_and, ↓reduceIte]
  exact ⟨by repeat first | exact Grown.refl _ | assumption | apply Grown.pushV | apply Grown.pushR | (refine Grown.setV ?_ (by first | omega | (simp only [nvsR]; first | done | omega))) | (refine Grown.setOld ‹_› (by first | omega | (simp only [nvsR]; first | done | omega)) _) | (refine Grown.setOld0 ?_ (by first | omega | (simp only [nvsR]; first | done | omega)) _), .inl rfl⟩
theorem tok_len (l : List Tok) : ∀ e ∈ l.map Tok.c, e.length = 5 := fun e he => by
  obtain ⟨a, _, rfl⟩ := List.mem_map.1 he; rfl
/-- Two lists of the same tokens. -/
theorem sameToks_c (l : List Tok) (hl : l.length < 9223372036854775807) (ha : ∀ t ∈ l, t.attrs.length < 9223372036854775807) (h : K (.bool true) σ) :
    ACalls Tryd.prog (gD m) 13 [lsv (l.map Tok.c), lsv (l.map Tok.c), .fn (.func 14) [] []] σ K := by
  refine sameToken_c _ _ _ _ _ (rd_lsv (tok_len l) σ) (rd_lsv (tok_len l) σ) rfl (by simpa using hl) (fun i c d hc hd K hK => ?_) h
  rw [hc] at hd; cases hd
  obtain ⟨t, ht, rfl⟩ := List.mem_map.1 (List.mem_of_getElem? hc)
  exact token_c t (ha t ht) hK
end
end Go.Ab.Sd
namespace Go.Ab.Sd
open Go Go.Ab Go.Proofs Go.RowKit
set_option maxRecDepth 40000
set_option linter.unusedSimpArgs false
section
variable {m : Int} {σ : St} {K : AV → St → Prop}
/-- May the character stand in a text? -/
def charB (c : Int) : Bool := c == 9 || (c == 10 || (c == 13 || ((decide (32 ≤ c) && decide (c < 55296)) || ((decide (57343 < c) && decide (c < 65534)) || (decide (65535 < c) && decide (c ≤ 1114111))))))
theorem Char_c (c : Int) (h : K (.bool (charB c)) σ) : ACalls Tryd.prog (gD m) 12 [.int .i64 c] σ K := by
  refine ACalls_fn tok fm (fk12 _) ?_
  simp (disch := first | omega | (simp only [nvsR, List.length_cons, List.length_nil, List.length_append]; first | done | omega)) only [walkAll, walkL, walkK, E, Nat.reduceEqDiff, Nat.reduceAdd, Nat.reduceSub, Nat.reduceLeDiff, Nat.le_refl, Nat.zero_lt_one, Int.cast_ofNat_Int, Int.reduceLT, Int.reduceLE, Int.reduceAdd, Int.reduceSub, Int.reduceToNat, Int.toNat_natCast, decide_true, decide_false, wrap_i64, wrap_i32, wrap_u8, wrap_u32, wrap_u64, and_true, true_and, ↓reduceIte, c12]
  have fin : ∀ b, b = charB c → K (.bool b) σ := fun b hb => by rw [hb]; exact h
  cases h1 : (c == 9)
  case true => simp (disch := first | omega | (simp only [nvsR, List.length_cons, List.length_nil, List.length_append]; first | done | omega)) only [walkAll, walkL, walkK, E, Nat.reduceEqDiff, Nat.reduceAdd, Nat.reduceSub, Nat.reduceLeDiff, Nat.le_refl, Nat.zero_lt_one, Int.cast_ofNat_Int, Int.reduceLT, Int.reduceLE, Int.reduceAdd, Int.reduceSub, Int.reduceToNat, Int.toNat_natCast, decide_true, decide_false, wrap_i64, wrap_i32, wrap_u8, wrap_u32, wrap_u64, and_true, true_and, ↓reduceIte]; exact fin _ (by simp [charB, h1])
  simp (disch := first | omega | (simp only [nvsR, List.length_cons, List.length_nil, List.length_append]; first | done | omega)) only [walkAll, walkL, walkK, E, Nat.reduceEqDiff, Nat.reduceAdd, Nat.reduceSub, Nat.reduceLeDiff, Nat.le_refl, Nat.zero_lt_one, Int.cast_ofNat_Int, Int.reduceLT, Int.reduceLE, Int.reduceAdd, Int.reduceSub, Int.reduceToNat, Int.toNat_natCast, decide_true, decide_false, wrap_i64, wrap_i32, wrap_u8, wrap_u32, wrap_u64, and_true, true_and, ↓reduceIte]
  cases h2 : (c == 10)
  case true => simp (disch := first | omega | (simp only [nvsR, List.length_cons, List.length_nil, List.length_append]; first | done | omega)) only [walkAll, walkL, walkK, E, Nat.reduceEqDiff, Nat.reduceAdd, Nat.reduceSub, Nat.reduceLeDiff, Nat.le_refl, Nat.zero_lt_one, Int.cast_ofNat_Int, Int.reduceLT, Int.reduceLE, Int.reduceAdd, Int.reduceSub, Int.reduceToNat, Int.toNat_natCast, decide_true, decide_false, wrap_i64, wrap_i32, wrap_u8, wrap_u32, wrap_u64, and_true, true_and, ↓reduceIte]; exact fin _ (by simp [charB, h1, h2])
  simp (disch := first | omega | (simp only [nvsR, List.length_cons, List.length_nil, List.length_append]; first | done | omega)) only [walkAll, walkL, walkK, E, Nat.reduceEqDiff, Nat.reduceAdd, Nat.reduceSub, Nat.reduceLeDiff, Nat.le_refl, Nat.zero_lt_one, Int.cast_ofNat_Int, Int.reduceLT, Int.reduceLE, Int.reduceAdd, Int.reduceSub, Int.reduceToNat, Int.toNat_natCast, decide_true, decide_false, wrap_i64, wrap_i32, wrap_u8, wrap_u32, wrap_u64, and_true, true_and, ↓reduceIte]
  cases h3 : (c == 13)
  case true => simp (disch := first | omega | (simp only [nvsR, List.length_cons, List.length_nil, List.length_append]; first | done | omega)) only [walkAll, walkL, walkK, E, Nat.reduceEqDiff, Nat.reduceAdd, Nat.reduceSub, Nat.reduceLeDiff, Nat.le_refl, Nat.zero_lt_one, Int.cast_ofNat_Int, Int.reduceLT, Int.reduceLE, Int.reduceAdd, Int.reduceSub, Int.reduceToNat, Int.toNat_natCast, decide_true, decide_false, wrap_i64, wrap_i32, wrap_u8, wrap_u32, wrap_u64, and_true, true_and, ↓reduceIte]; exact fin _ (by simp [charB, h1, h2, h3])
  simp (disch := first | omega | (simp only [nvsR, List.length_cons, List.length_nil, List.length_append]; first | done | omega)) only [walkAll, walkL, walkK, E, Nat.reduceEqDiff, Nat.reduceAdd, Nat.reduceSub, Nat.reduceLeDiff, Nat.le_refl, Nat.zero_lt_one, Int.cast_ofNat_Int, Int.reduceLT, Int.reduceLE, Int.reduceAdd, Int.reduceSub, Int.reduceToNat, Int.toNat_natCast, decide_true, decide_false, wrap_i64, wrap_i32, wrap_u8, wrap_u32, wrap_u64, and_true, true_and, ↓reduceIte]
  have key : charB c = ((decide (32 ≤ c) && decide (c < 55296)) || ((decide (57343 < c) && decide (c < 65534)) || (decide (65535 < c) && decide (c ≤ 1114111)))) := by simp only [charB, h1, h2, h3, Bool.false_or]
  rw [key] at fin
  have iv : c < 32 ∨ (32 ≤ c ∧ c < 55296) ∨ (55296 ≤ c ∧ c ≤ 57343) ∨ (57343 < c ∧ c < 65534) ∨ (65534 ≤ c ∧ c ≤ 65535) ∨ (65535 < c ∧ c ≤ 1114111) ∨ 1114111 < c := by omega
  rcases iv with i | i | i | i | i | i | i <;> (first | have h4 : decide (32 ≤ c) = true := decide_eq_true (by omega) | have h4 : decide (32 ≤ c) = false := decide_eq_false (by omega)) <;> (first | have h5 : decide (c < 55296) = true := decide_eq_true (by omega) | have h5 : decide (c < 55296) = false := decide_eq_false (by omega)) <;> (first | have h6 : decide (57343 < c) = true := decide_eq_true (by omega) | have h6 : decide (57343 < c) = false := decide_eq_false (by omega)) <;> (first | have h7 : decide (c < 65534) = true := decide_eq_true (by omega) | have h7 : decide (c < 65534) = false := decide_eq_false (by omega)) <;> (first | have h8 : decide (65535 < c) = true := decide_eq_true (by omega) | have h8 : decide (65535 < c) = false := decide_eq_false (by omega)) <;> (first | have h9 : decide (c ≤ 1114111) = true := decide_eq_true (by omega) | have h9 : decide (c ≤ 1114111) = false := decide_eq_false (by omega)) <;>
    simp (disch := first | omega | (simp only [nvsR, List.length_cons, List.length_nil, List.length_append]; first | done | omega)) only [walkAll, walkL, walkK, E, Nat.reduceEqDiff, Nat.reduceAdd, Nat.reduceSub, Nat.reduceLeDiff, Nat.le_refl, Nat.zero_lt_one, Int.cast_ofNat_Int, Int.reduceLT, Int.reduceLE, Int.reduceAdd, Int.reduceSub, Int.reduceToNat, Int.toNat_natCast, decide_true, decide_false, wrap_i64, wrap_i32, wrap_u8, wrap_u32, wrap_u64, and_true, true_and, ↓reduceIte, h4, h5, h6, h7, h8, h9] <;> exact fin _ (by simp only [h4, h5, h6, h7, h8, h9]; rfl)
def esc1 (c : UInt8) : List UInt8 := if c = 38 then [38, 97, 109, 112, 59] else if c = 60 then [38, 108, 116, 59] else if c = 62 then [38, 103, 116, 59] else if c = 34 then [38, 113, 117, 111, 116, 59] else [c]
def escS (s : List UInt8) : List UInt8 := s.flatMap esc1
theorem escS_len (s : List UInt8) : (escS s).length ≤ 6 * s.length := by
  induction s with
  | nil => simp [escS]
  | cons a s ih =>
    have : (esc1 a).length ≤ 6 := by unfold esc1; split <;> (try split) <;> (try split) <;> (try split) <;> simp
    simp only [escS, List.flatMap_cons, List.length_append, List.length_cons] at *
    omega
theorem u8_eq (c : UInt8) (n : Nat) (hn : n < 256) : (((c.toNat : Nat) : Int) == (n : Int)) = decide (c = UInt8.ofNat n) := by
  rw [Bool.eq_iff_iff]
  simp only [beq_iff_eq, decide_eq_true_eq]
  constructor
  · intro h
    apply UInt8.toNat_inj.1
    rw [UInt8.toNat_ofNat', Nat.mod_eq_of_lt hn]; omega
  · rintro rfl
    rw [UInt8.toNat_ofNat', Nat.mod_eq_of_lt hn]
theorem esc_loop (s : List UInt8) (hs : s.length < 1000000000000) {Q : EQ} (hq : ∀ e', e' 3 = some (.str (escS s)) → Q (.exit 0) e' σ) : ∀ (rest : List UInt8) (i : Nat) (out : List UInt8) (e : Env), s.drop i = rest → out ++ escS rest = escS s → e 0 = some (.str s) → e 3 = some (.str out) → e 4 = some (.int .i64 i) →
    LoopC Tryd.prog tt (gD m) l10_0 Q e σ := by
  intro rest
  induction rest with
  | nil =>
    intro i out e hd ho h0 h3 h4
    have hi : s.length ≤ i := by simpa using hd
    have hb : decide ((i : Int) < (s.length : Int)) = false := by simp; omega
    refine LoopC_unfold tok fm ?_
    simp (disch := first | omega | (simp only [nvsR, List.length_cons, List.length_nil, List.length_append]; first | done | omega)) only [walkAll, walkL, walkK, E, Nat.reduceEqDiff, Nat.reduceAdd, Nat.reduceSub, Nat.reduceLeDiff, Nat.le_refl, Nat.zero_lt_one, Int.cast_ofNat_Int, Int.reduceLT, Int.reduceLE, Int.reduceAdd, Int.reduceSub, Int.reduceToNat, Int.toNat_natCast, decide_true, decide_false, wrap_i64, wrap_i32, wrap_u8, wrap_u32, wrap_u64, and_true, true_and, ↓reduceIte, l10_0x, l10_0b, h0, h3, h4, hb]
    refine hq _ ?_
    simp only [escS, List.flatMap_nil, List.append_nil] at ho
    simp [put, h3, ho, escS]
  | cons c rest ih =>
    intro i out e hd ho h0 h3 h4
    obtain ⟨hc, hd'⟩ := drop_cons hd
    have hi := (List.getElem?_eq_some_iff.1 hc).1
    have hb : decide ((i : Int) < (s.length : Int)) = true := by simp; omega
    have hlen : out.length ≤ 6 * s.length := by
      have := escS_len s
      rw [← ho, List.length_append] at this; omega
    have ho' : (out ++ esc1 c) ++ escS rest = escS s := by rw [← ho]; simp [escS]
    have t1 : ((i : Int) + 1).toNat = i + 1 := by omega
    have t2 : i + 1 - i = 1 := by omega
    have t3 : (s.drop i).take 1 = [c] := by rw [hd]; rfl
    have f38 := u8_eq c 38 (by decide)
    have f60 := u8_eq c 60 (by decide)
    have f62 := u8_eq c 62 (by decide)
    have f34 := u8_eq c 34 (by decide)
    refine LoopC_unfold tok fm ?_
    simp (disch := first | omega | (simp only [nvsR, List.length_cons, List.length_nil, List.length_append]; first | done | omega)) only [walkAll, walkL, walkK, E, Nat.reduceEqDiff, Nat.reduceAdd, Nat.reduceSub, Nat.reduceLeDiff, Nat.le_refl, Nat.zero_lt_one, Int.cast_ofNat_Int, Int.reduceLT, Int.reduceLE, Int.reduceAdd, Int.reduceSub, Int.reduceToNat, Int.toNat_natCast, decide_true, decide_false, wrap_i64, wrap_i32, wrap_u8, wrap_u32, wrap_u64, and_true, true_and, ↓reduceIte, l10_0x, l10_0b, h0, h3, h4, hb, hc, Int.toNat_natCast]
    cases q1 : ((c.toNat : Int) == 38)
    case true =>
      have : esc1 c = [38, 97, 109, 112, 59] := by rw [show ((38 : Int)) = ((38 : Nat) : Int) from rfl, f38] at q1; simp only [esc1]; rw [if_pos (by simpa using q1)]
      rw [this] at ho'
      simp (disch := first | omega | (simp only [nvsR, List.length_cons, List.length_nil, List.length_append]; first | done | omega)) only [walkAll, walkL, walkK, E, Nat.reduceEqDiff, Nat.reduceAdd, Nat.reduceSub, Nat.reduceLeDiff, Nat.le_refl, Nat.zero_lt_one, Int.cast_ofNat_Int, Int.reduceLT, Int.reduceLE, Int.reduceAdd, Int.reduceSub, Int.reduceToNat, Int.toNat_natCast, decide_true, decide_false, wrap_i64, wrap_i32, wrap_u8, wrap_u32, wrap_u64, and_true, true_and, ↓reduceIte, h0, h3, h4, q1]
      refine ih (i + 1) _ _ hd' ho' ?_ ?_ ?_ <;> simp [put, h0]
    cases q2 : ((c.toNat : Int) == 60)
    case true =>
      have : esc1 c = [38, 108, 116, 59] := by
        rw [show ((38 : Int)) = ((38 : Nat) : Int) from rfl, f38] at q1
        rw [show ((60 : Int)) = ((60 : Nat) : Int) from rfl, f60] at q2
        simp only [esc1]; rw [if_neg (by simpa using q1), if_pos (by simpa using q2)]
      rw [this] at ho'
      simp (disch := first | omega | (simp only [nvsR, List.length_cons, List.length_nil, List.length_append]; first | done | omega)) only [walkAll, walkL, walkK, E, Nat.reduceEqDiff, Nat.reduceAdd, Nat.reduceSub, Nat.reduceLeDiff, Nat.le_refl, Nat.zero_lt_one, Int.cast_ofNat_Int, Int.reduceLT, Int.reduceLE, Int.reduceAdd, Int.reduceSub, Int.reduceToNat, Int.toNat_natCast, decide_true, decide_false, wrap_i64, wrap_i32, wrap_u8, wrap_u32, wrap_u64, and_true, true_and, ↓reduceIte, h0, h3, h4, q1, q2]
      refine ih (i + 1) _ _ hd' ho' ?_ ?_ ?_ <;> simp [put, h0]
    cases q3 : ((c.toNat : Int) == 62)
    case true =>
      have : esc1 c = [38, 103, 116, 59] := by
        rw [show ((38 : Int)) = ((38 : Nat) : Int) from rfl, f38] at q1
        rw [show ((60 : Int)) = ((60 : Nat) : Int) from rfl, f60] at q2
        rw [show ((62 : Int)) = ((62 : Nat) : Int) from rfl, f62] at q3
        simp only [esc1]; rw [if_neg (by simpa using q1), if_neg (by simpa using q2), if_pos (by simpa using q3)]
      rw [this] at ho'
      simp (disch := first | omega | (simp only [nvsR, List.length_cons, List.length_nil, List.length_append]; first | done | omega)) only [walkAll, walkL, walkK, E, Nat.reduceEqDiff, Nat.reduceAdd, Nat.reduceSub, Nat.reduceLeDiff, Nat.le_refl, Nat.zero_lt_one, Int.cast_ofNat_Int, Int.reduceLT, Int.reduceLE, Int.reduceAdd, Int.reduceSub, Int.reduceToNat, Int.toNat_natCast, decide_true, decide_false, wrap_i64, wrap_i32, wrap_u8, wrap_u32, wrap_u64, and_true, true_and, ↓reduceIte, h0, h3, h4, q1, q2, q3]
      refine ih (i + 1) _ _ hd' ho' ?_ ?_ ?_ <;> simp [put, h0]
    cases q4 : ((c.toNat : Int) == 34)
    case true =>
      have : esc1 c = [38, 113, 117, 111, 116, 59] := by
        rw [show ((38 : Int)) = ((38 : Nat) : Int) from rfl, f38] at q1
        rw [show ((60 : Int)) = ((60 : Nat) : Int) from rfl, f60] at q2
        rw [show ((62 : Int)) = ((62 : Nat) : Int) from rfl, f62] at q3
        rw [show ((34 : Int)) = ((34 : Nat) : Int) from rfl, f34] at q4
        simp only [esc1]; rw [if_neg (by simpa using q1), if_neg (by simpa using q2), if_neg (by simpa using q3), if_pos (by simpa using q4)]
      rw [this] at ho'
      simp (disch := first | omega | (simp only [nvsR, List.length_cons, List.length_nil, List.length_append]; first | done | omega)) only [walkAll, walkL, walkK, E, Nat.reduceEqDiff, Nat.reduceAdd, Nat.reduceSub, Nat.reduceLeDiff, Nat.le_refl, Nat.zero_lt_one, Int.cast_ofNat_Int, Int.reduceLT, Int.reduceLE, Int.reduceAdd, Int.reduceSub, Int.reduceToNat, Int.toNat_natCast, decide_true, decide_false, wrap_i64, wrap_i32, wrap_u8, wrap_u32, wrap_u64, and_true, true_and, ↓reduceIte, h0, h3, h4, q1, q2, q3, q4]
      refine ih (i + 1) _ _ hd' ho' ?_ ?_ ?_ <;> simp [put, h0]
    have : esc1 c = [c] := by
      rw [show ((38 : Int)) = ((38 : Nat) : Int) from rfl, f38] at q1
      rw [show ((60 : Int)) = ((60 : Nat) : Int) from rfl, f60] at q2
      rw [show ((62 : Int)) = ((62 : Nat) : Int) from rfl, f62] at q3
      rw [show ((34 : Int)) = ((34 : Nat) : Int) from rfl, f34] at q4
      simp only [esc1]; rw [if_neg (by simpa using q1), if_neg (by simpa using q2), if_neg (by simpa using q3), if_neg (by simpa using q4)]
    rw [this] at ho'
    simp (disch := first | omega | (simp only [nvsR, List.length_cons, List.length_nil, List.length_append]; first | done | omega)) only [walkAll, walkL, walkK, E, Nat.reduceEqDiff, Nat.reduceAdd, Nat.reduceSub, Nat.reduceLeDiff, Nat.le_refl, Nat.zero_lt_one, Int.cast_ofNat_Int, Int.reduceLT, Int.reduceLE, Int.reduceAdd, Int.reduceSub, Int.reduceToNat, Int.toNat_natCast, decide_true, decide_false, wrap_i64, wrap_i32, wrap_u8, wrap_u32, wrap_u64, and_true, true_and, ↓reduceIte, h0, h3, h4, q1, q2, q3, q4, t1, t2, t3]
    refine ih (i + 1) _ _ hd' ho' ?_ ?_ ?_ <;> simp [put, h0]
theorem Escape_c (s : List UInt8) (hs : s.length < 1000000000000) (h : K (.str (escS s)) σ) : ACalls Tryd.prog (gD m) 10 [.str s] σ K := by
  refine ACalls_fn tok fm (fk10 _) ?_
  simp (disch := first | omega | (simp only [nvsR, List.length_cons, List.length_nil, List.length_append]; first | done | omega)) only [walkAll, walkL, walkK, E, Nat.reduceEqDiff, Nat.reduceAdd, Nat.reduceSub, Nat.reduceLeDiff, Nat.le_refl, Nat.zero_lt_one, Int.cast_ofNat_Int, Int.reduceLT, Int.reduceLE, Int.reduceAdd, Int.reduceSub, Int.reduceToNat, Int.toNat_natCast, decide_true, decide_false, wrap_i64, wrap_i32, wrap_u8, wrap_u32, wrap_u64, and_true, true_and, ↓reduceIte, c10]
  refine esc_loop s hs (fun e' h3 => ?_) s 0 [] _ rfl rfl (by simp [put, E]) (by simp [put]) (by simp [put])
  simp (disch := first | omega | (simp only [nvsR, List.length_cons, List.length_nil, List.length_append]; first | done | omega)) only [walkAll, walkL, walkK, E, Nat.reduceEqDiff, Nat.reduceAdd, Nat.reduceSub, Nat.reduceLeDiff, Nat.le_refl, Nat.zero_lt_one, Int.cast_ofNat_Int, Int.reduceLT, Int.reduceLE, Int.reduceAdd, Int.reduceSub, Int.reduceToNat, Int.toNat_natCast, decide_true, decide_false, wrap_i64, wrap_i32, wrap_u8, wrap_u32, wrap_u64, and_true, true_and, ↓reduceIte, h3]
  exact h
end
end Go.Ab.Sd
namespace Go.Ab.Sd
open Go Go.Ab Go.Proofs Go.RowKit
set_option maxRecDepth 40000
set_option linter.unusedSimpArgs false
section
variable {m : Int} {σ : St} {K : AV → St → Prop}
def digF : Nat → Nat → List UInt8
  | 0, _ => []
  | k + 1, v => if v < 10 then [UInt8.ofNat (48 + v)] else digF k (v / 10) ++ [UInt8.ofNat (48 + v % 10)]
theorem digF_len : ∀ (k v : Nat), (digF k v).length ≤ k
  | 0, v => by simp [digF]
  | k + 1, v => by
    simp only [digF]
    split
    · simp
    · have := digF_len k (v / 10); simp; omega
theorem tdiv_nat (v n : Nat) : (v : Int).tdiv (n : Int) = ((v / n : Nat) : Int) := by rw [Int.tdiv_eq_ediv_of_nonneg (by omega)]; rfl
theorem tmod_nat (v n : Nat) : (v : Int).tmod (n : Int) = ((v % n : Nat) : Int) := by rw [Int.tmod_eq_emod_of_nonneg (by omega)]; rfl
theorem Digits_c (k : Nat) : ∀ (v : Nat) {σ : St} {K : AV → St → Prop}, v < 10 ^ (k + 1) → v < 18446744073709551616 → k < 100 → K (.str (digF (k + 1) v)) σ → ACalls Tryd.prog (gD m) 11 [.int .u64 v] σ K := by
  have step : (∀ (v : Nat) {σ : St} {K : AV → St → Prop}, v < 10 ^ k → ¬ k = 0 → v < 18446744073709551616 → k < 100 → K (.str (digF k v)) σ → ACalls Tryd.prog (gD m) 11 [.int .u64 v] σ K) →
      ∀ (v : Nat) {σ : St} {K : AV → St → Prop}, v < 10 ^ (k + 1) → v < 18446744073709551616 → k < 100 → K (.str (digF (k + 1) v)) σ → ACalls Tryd.prog (gD m) 11 [.int .u64 v] σ K := by
    intro ih v σ K h0 h hk hK
    refine (ACalls.frame gD_data (.cons _ _ (.int _ _) .nil) (Q := fun r => r = .str (digF (k + 1) v)) ?_ σ).mono (fun r σ' hr => by rw [hr.1, hr.2]; exact hK)
    refine ACalls_fn tok fm (fk11 _) ?_
    simp (disch := first | omega | (simp only [nvsR, List.length_cons, List.length_nil, List.length_append]; first | done | omega)) only [walkAll, walkL, walkK, E, Nat.reduceEqDiff, Nat.reduceAdd, Nat.reduceSub, Nat.reduceLeDiff, Nat.le_refl, Nat.zero_lt_one, Int.cast_ofNat_Int, Int.reduceLT, Int.reduceLE, Int.reduceAdd, Int.reduceSub, Int.reduceToNat, Int.toNat_natCast, decide_true, decide_false, wrap_i64, wrap_i32, wrap_u8, wrap_u32, wrap_u64, and_true, true_and, ↓reduceIte, c11]
    have hb : ∀ n, b2sX ⟨[], [some ⟨5, 1, 0, [[.int .u8 n]]⟩]⟩ (.os 0 0 1) = some (.str [UInt8.ofNat n.toNat]) := fun _ => rfl
    cases q : decide ((v : Int) < 10) with
    | true =>
      have hv : v < 10 := by have := of_decide_eq_true q; omega
      have w1 : IntKind.u64.wrap (48 + (v : Int)) = ((48 + v : Nat) : Int) := wrap_u64 _ (by omega) (by omega)
      have w2 : IntKind.u8.wrap ((48 + v : Nat) : Int) = ((48 + v : Nat) : Int) := wrap_u8 _ (by omega) (by omega)
      simp (disch := first | omega | (simp only [nvsR, List.length_cons, List.length_nil, List.length_append]; first | done | omega)) only [walkAll, walkL, walkK, E, Nat.reduceEqDiff, Nat.reduceAdd, Nat.reduceSub, Nat.reduceLeDiff, Nat.le_refl, Nat.zero_lt_one, Int.cast_ofNat_Int, Int.reduceLT, Int.reduceLE, Int.reduceAdd, Int.reduceSub, Int.reduceToNat, Int.toNat_natCast, decide_true, decide_false, wrap_i64, wrap_i32, wrap_u8, wrap_u32, wrap_u64, and_true, true_and, ↓reduceIte, w1, w2, hb]
      simp only [digF, hv, if_true, dataR]
    | false =>
      have hv : ¬ v < 10 := by have := of_decide_eq_false q; omega
      have e1 : IntKind.u64.wrap ((v : Int).tdiv 10) = ((v / 10 : Nat) : Int) := by rw [show (10 : Int) = ((10 : Nat) : Int) from rfl, tdiv_nat]; exact wrap_u64 _ (by omega) (by omega)
      have e2 : (v : Int).tmod 10 = ((v % 10 : Nat) : Int) := tmod_nat v 10
      have w1 : IntKind.u64.wrap (48 + ((v % 10 : Nat) : Int)) = ((48 + v % 10 : Nat) : Int) := wrap_u64 _ (by omega) (by omega)
      have w2 : IntKind.u8.wrap ((48 + v % 10 : Nat) : Int) = ((48 + v % 10 : Nat) : Int) := wrap_u8 _ (by omega) (by omega)
      have hl := digF_len k (v / 10)
      have hp : v / 10 < 10 ^ k := by rw [Nat.pow_succ] at h0; omega
      have hk0 : ¬ k = 0 := by intro e; subst e; simp at h0; omega
      have fin : ∀ r : AV, r = .str (digF k (v / 10) ++ [UInt8.ofNat (48 + v % 10)]) → Data r ∧ r = .str (digF (k + 1) v) := fun r hr => by
        rw [hr]; simp only [digF, hv, if_false, dataR, and_self]
      simp (disch := first | omega | (simp only [nvsR, List.length_cons, List.length_nil, List.length_append]; first | done | omega)) only [walkAll, walkL, walkK, E, Nat.reduceEqDiff, Nat.reduceAdd, Nat.reduceSub, Nat.reduceLeDiff, Nat.le_refl, Nat.zero_lt_one, Int.cast_ofNat_Int, Int.reduceLT, Int.reduceLE, Int.reduceAdd, Int.reduceSub, Int.reduceToNat, Int.toNat_natCast, decide_true, decide_false, wrap_i64, wrap_i32, wrap_u8, wrap_u32, wrap_u64, and_true, true_and, ↓reduceIte, e1, e2, w1, w2, hb]
      refine ⟨?_, ?_, ?_⟩
      · refine ih (v / 10) hp hk0 (by omega) (by omega) ?_
        simp (disch := first | omega | (simp only [nvsR, List.length_cons, List.length_nil, List.length_append]; first | done | omega)) only [walkAll, walkL, walkK, E, Nat.reduceEqDiff, Nat.reduceAdd, Nat.reduceSub, Nat.reduceLeDiff, Nat.le_refl, Nat.zero_lt_one, Int.cast_ofNat_Int, Int.reduceLT, Int.reduceLE, Int.reduceAdd, Int.reduceSub, Int.reduceToNat, Int.toNat_natCast, decide_true, decide_false, wrap_i64, wrap_i32, wrap_u8, wrap_u32, wrap_u64, and_true, true_and, ↓reduceIte, e1, e2, w1, w2, hb]
        exact fin _ rfl
      · refine ih (v / 10) hp hk0 (by omega) (by omega) ?_
        simp (disch := first | omega | (simp only [nvsR, List.length_cons, List.length_nil, List.length_append]; first | done | omega)) only [walkAll, walkL, walkK, E, Nat.reduceEqDiff, Nat.reduceAdd, Nat.reduceSub, Nat.reduceLeDiff, Nat.le_refl, Nat.zero_lt_one, Int.cast_ofNat_Int, Int.reduceLT, Int.reduceLE, Int.reduceAdd, Int.reduceSub, Int.reduceToNat, Int.toNat_natCast, decide_true, decide_false, wrap_i64, wrap_i32, wrap_u8, wrap_u32, wrap_u64, and_true, true_and, ↓reduceIte, e1, e2, w1, w2, hb]
        exact fin _ rfl
      · refine ih (v / 10) hp hk0 (by omega) (by omega) ?_
        simp (disch := first | omega | (simp only [nvsR, List.length_cons, List.length_nil, List.length_append]; first | done | omega)) only [walkAll, walkL, walkK, E, Nat.reduceEqDiff, Nat.reduceAdd, Nat.reduceSub, Nat.reduceLeDiff, Nat.le_refl, Nat.zero_lt_one, Int.cast_ofNat_Int, Int.reduceLT, Int.reduceLE, Int.reduceAdd, Int.reduceSub, Int.reduceToNat, Int.toNat_natCast, decide_true, decide_false, wrap_i64, wrap_i32, wrap_u8, wrap_u32, wrap_u64, and_true, true_and, ↓reduceIte, e1, e2, w1, w2, hb]
        exact fin _ rfl
  cases k with
  | zero => exact step (fun v σ K _ h => absurd rfl h)
  | succ k => exact step (fun v σ K h1 _ h2 h3 h4 => Digits_c k v h1 h2 (by omega) h4)
end
end Go.Ab.Sd
namespace Go.Ab
open Go Go.Lib

def mayN (r : Nat) : Bool := r == 9 || r == 10 || r == 13 || (decide (32 ≤ r) && r != 65534 && r != 65535)
/-- The character at the head is one, and may be. -/
def chOk (l : List UInt8) : Bool := !(decide ((decodeL l).1 = 65533 ∧ (decodeL l).2 = 1)) && mayN (decodeL l).1
def utfF : Nat → List UInt8 → Bool
  | 0, l => l == []
  | n + 1, l => l == [] || (chOk l && utfF n (l.drop (decodeL l).2))
def utfB (l : List UInt8) : Bool := utfF l.length l
theorem utfF_fuel : ∀ (n m : Nat) (l : List UInt8), l.length ≤ n → l.length ≤ m → utfF n l = utfF m l
  | 0, 0, l, _, _ => rfl
  | 0, m + 1, l, hn, _ => by
    have : l = [] := List.eq_nil_of_length_eq_zero (by omega)
    subst this; rfl
  | n + 1, 0, l, _, hm => by
    have : l = [] := List.eq_nil_of_length_eq_zero (by omega)
    subst this; rfl
  | n + 1, m + 1, l, hn, hm => by
    simp only [utfF]
    by_cases h : l = []
    · subst h; rfl
    · have hw := decodeL_width l
      rw [utfF_fuel n m _ (by simp; omega) (by simp; omega)]
theorem utfB_nil : utfB [] = true := rfl
theorem utfB_step {l : List UInt8} (h : l ≠ []) : utfB l = (chOk l && utfB (l.drop (decodeL l).2)) := by
  unfold utfB
  cases l with
  | nil => exact absurd rfl h
  | cons a t =>
    have hw := decodeL_width (a :: t)
    simp only [List.length_cons, utfF]
    rw [utfF_fuel t.length _ ((a :: t).drop (decodeL (a :: t)).2) (by simp; omega) (Nat.le_refl _)]
    simp
theorem getD_app (l r : List UInt8) (k : Nat) (h : k < l.length) : (l ++ r).getD k 0 = l.getD k 0 := by
  simp [List.getD_eq_getElem?_getD, List.getElem?_append_left h]
set_option maxRecDepth 100000 in
theorem decodeL_app {l : List UInt8} (r : List UInt8) (hne : l ≠ []) (hv : ¬ ((decodeL l).1 = 65533 ∧ (decodeL l).2 = 1)) : decodeL (l ++ r) = decodeL l := by
  have hl : 0 < l.length := List.length_pos_iff.2 hne
  rw [decodeL_N] at hv
  rw [decodeL_N, decodeL_N, getD_app l r 0 hl]
  rcases decodeN_shape l.length (l.getD 0 0).toNat (l.getD 1 0).toNat (l.getD 2 0).toNat (l.getD 3 0).toNat with ⟨c, e⟩ | ⟨c1, c2, c3, cv, e⟩ | ⟨c1, c2, c3, c4, cv, cs, e⟩ | ⟨c1, c2, c3, c4, c5, cv, cw, e⟩ | e
  · rw [e]; unfold decodeN; rw [if_pos c]
  · rw [e, getD_app l r 1 c2]
    unfold decodeN
    rw [List.length_append]
    repeat' split
    all_goals first | (exfalso; omega) | rfl
  · rw [e, getD_app l r 1 (by omega), getD_app l r 2 (by omega)]
    unfold decodeN
    rw [List.length_append]
    repeat' split
    all_goals first | (exfalso; omega) | rfl
  · rw [e, getD_app l r 1 (by omega), getD_app l r 2 (by omega), getD_app l r 3 (by omega)]
    unfold decodeN
    rw [List.length_append]
    repeat' split
    all_goals first | (exfalso; omega) | rfl
  · rw [e] at hv; exact absurd ⟨rfl, rfl⟩ hv
theorem chOk_app {l : List UInt8} (r : List UInt8) (hne : l ≠ []) (h : chOk l = true) : decodeL (l ++ r) = decodeL l ∧ chOk (l ++ r) = true := by
  have hv : ¬ ((decodeL l).1 = 65533 ∧ (decodeL l).2 = 1) := by
    simp only [chOk, Bool.and_eq_true, Bool.not_eq_true', decide_eq_false_iff_not] at h; exact h.1
  have e := decodeL_app r hne hv
  exact ⟨e, by unfold chOk at *; rw [e]; exact h⟩
theorem utfB_app : ∀ (n : Nat) (a b : List UInt8), a.length ≤ n → utfB a = true → utfB (a ++ b) = utfB b
  | 0, a, b, hn, _ => by
    have : a = [] := List.eq_nil_of_length_eq_zero (by omega)
    subst this; rfl
  | n + 1, a, b, hn, h => by
    by_cases hne : a = []
    · subst hne; rfl
    · rw [utfB_step hne, Bool.and_eq_true] at h
      have hw := decodeL_width a
      have hle := decodeL_le a hne
      obtain ⟨e1, e2⟩ := chOk_app b hne h.1
      rw [utfB_step (by simp [hne]), e1, e2, Bool.true_and, List.drop_append_of_le_length hle]
      exact utfB_app n _ b (by simp; omega) h.2
theorem utfB_append {a : List UInt8} (b : List UInt8) (h : utfB a = true) : utfB (a ++ b) = utfB b := utfB_app _ a b (Nat.le_refl _) h
theorem utfB_one (c : UInt8) (l : List UInt8) (h : c.toNat < 128) (hm : mayN c.toNat = true) : utfB (c :: l) = utfB l := by
  rw [utfB_step (by simp)]
  have e := decodeL_ascii c l h
  unfold chOk
  rw [e, hm]
  have : ¬ (c.toNat = 65533 ∧ 1 = 1) := by omega
  simp
  omega
theorem utfB_ascii (l : List UInt8) (h : ∀ c ∈ l, c.toNat < 128 ∧ mayN c.toNat = true) : utfB l = true := by
  induction l with
  | nil => rfl
  | cons c l ih => rw [utfB_one c l (h c (by simp)).1 (h c (by simp)).2]; exact ih fun x hx => h x (by simp [hx])
/-- It is what the library tells. -/
theorem idx_utf (s : List UInt8) : ∀ (n f pos : Nat), (s.drop pos).length ≤ n → (s.drop pos).length ≤ f → validGoD n (s.drop pos) = true →
    decide (idxFuncFrom (fun x => !mayN x) true ⟨s.toArray⟩ f pos < 0) = utfF n (s.drop pos)
  | n, 0, pos, hn, hf, hv => by
    have : s.drop pos = [] := List.eq_nil_of_length_eq_zero (by omega)
    rw [this]
    cases n <;> simp [idxFuncFrom, utfF]
  | 0, f + 1, pos, hn, hf, hv => by
    have : s.drop pos = [] := List.eq_nil_of_length_eq_zero (by omega)
    rw [this]
    have hp : ¬ pos < (⟨s.toArray⟩ : ByteArray).size := by simp at this; show ¬ pos < s.toArray.size; simp; omega
    rw [idxFuncFrom_end _ _ _ _ _ hp]
    simp [utfF]
  | n + 1, f + 1, pos, hn, hf, hv => by
    by_cases hnil : s.drop pos = []
    · rw [hnil]
      have hp : ¬ pos < (⟨s.toArray⟩ : ByteArray).size := by simp at hnil; show ¬ pos < s.toArray.size; simp; omega
      rw [idxFuncFrom_end _ _ _ _ _ hp]
      simp [utfF]
    · have hlen : pos < s.length := by
        rcases Nat.lt_or_ge pos s.length with h | h
        · exact h
        · exact absurd (List.drop_of_length_le h) hnil
      have hp : pos < (⟨s.toArray⟩ : ByteArray).size := by show pos < s.toArray.size; simpa using hlen
      have hd : Utf8.decode ⟨s.toArray⟩ pos = decodeL (s.drop pos) := by rw [← decodeL_drop]
      have hw := decodeL_width (s.drop pos)
      simp only [validGoD, if_neg hnil] at hv
      split at hv
      · cases hv
      · rename_i hg
        unfold idxFuncFrom
        rw [if_pos hp, hd]
        simp only [utfF, chOk]
        rw [show (decide ((decodeL (s.drop pos)).1 = 65533 ∧ (decodeL (s.drop pos)).2 = 1)) = false from decide_eq_false hg]
        have hne : (s.drop pos == []) = false := by simpa using hnil
        rw [hne, Bool.false_or, Bool.not_false, Bool.true_and]
        cases hm : mayN (decodeL (s.drop pos)).1 with
        | false => simp
        | true =>
          simp only [Bool.not_true, Bool.false_eq_true, if_false, Bool.true_and]
          have e : (s.drop pos).drop (decodeL (s.drop pos)).2 = s.drop (pos + (decodeL (s.drop pos)).2) := by rw [List.drop_drop]
          rw [e] at hv ⊢
          exact idx_utf s n f _ (by simp at *; omega) (by simp at *; omega) hv
theorem valid_of_utf : ∀ (n : Nat) (l : List UInt8), l.length ≤ n → utfF n l = true → validGoD n l = true
  | 0, l, hn, _ => by
    have : l = [] := List.eq_nil_of_length_eq_zero (by omega)
    subst this; rfl
  | n + 1, l, hn, h => by
    simp only [validGoD]
    by_cases hne : l = []
    · rw [if_pos hne]
    · rw [if_neg hne]
      have hne' : (l == []) = false := by simpa using hne
      simp only [utfF, hne', Bool.false_or, chOk, Bool.and_eq_true, Bool.not_eq_true', decide_eq_false_iff_not] at h
      rw [if_neg h.1.1]
      have hw := decodeL_width l
      exact valid_of_utf n _ (by simp; omega) h.2
theorem utf_lib (s : List UInt8) : (validD s && decide (idxFunc (fun x => !mayN x) true ⟨s.toArray⟩ < 0)) = utfB s := by
  have hsz : (⟨s.toArray⟩ : ByteArray).size = s.length := by show s.toArray.size = _; simp
  cases hv : validD s with
  | true =>
    rw [Bool.true_and]
    unfold idxFunc
    rw [hsz]
    have := idx_utf s s.length s.length 0 (by simp) (by simp) (by rw [List.drop_zero]; exact hv)
    simpa [utfB] using this
  | false =>
    rw [Bool.false_and]
    cases hu : utfB s with
    | false => rfl
    | true => rw [show validD s = true from valid_of_utf _ _ (Nat.le_refl _) hu] at hv; cases hv
end Go.Ab
namespace Go.Ab
open Go Go.Lib

theorem ib_none {b : UInt8} : ∀ {s : List UInt8}, b ∉ s → indexByte s b = -1
  | [], _ => rfl
  | a :: s, h => by
    simp only [List.mem_cons, not_or] at h
    unfold indexByte
    rw [if_neg (by simpa using fun e => h.1 e.symm), ib_none h.2]; rfl
theorem ib_at {b : UInt8} : ∀ {a : List UInt8} (r : List UInt8), b ∉ a → indexByte (a ++ b :: r) b = a.length
  | [], r, _ => by simp [indexByte]
  | c :: a, r, h => by
    simp only [List.mem_cons, not_or] at h
    rw [List.cons_append]
    unfold indexByte
    have hne : ((a.length : Int) == -1) = false := by rw [beq_eq_false_iff_ne]; omega
    rw [if_neg (by simpa using fun e => h.1 e.symm), ib_at r h.2, hne]
    simp
theorem index_ib (b : UInt8) : ∀ s : List UInt8, index s [b] = indexByte s b
  | [] => rfl
  | a :: s => by
    unfold index indexByte
    rw [index_ib b s]
    have : ([b].isPrefixOf (a :: s)) = (a == b) := by simp [List.isPrefixOf, Bool.beq_comm]
    rw [this]
theorem cut_none {b : UInt8} {s : List UInt8} (h : b ∉ s) : cut s [b] = (s, [], false) := by
  unfold cut; rw [index_ib, ib_none h, if_neg (by decide)]
theorem cut_at {b : UInt8} {a : List UInt8} (r : List UInt8) (h : b ∉ a) : cut (a ++ b :: r) [b] = (a, r, true) := by
  unfold cut
  rw [index_ib, ib_at r h, if_pos (by omega)]
  simp
theorem cut_cons (b : UInt8) (r : List UInt8) : cut (b :: r) [b] = ([], r, true) := cut_at (a := []) r (by simp)
theorem contains_none {b : UInt8} {s : List UInt8} (h : b ∉ s) : contains s [b] = false := by
  unfold contains; rw [index_ib, ib_none h]; rfl
theorem split_mem {b : UInt8} : ∀ {s : List UInt8}, b ∈ s → ∃ a r, s = a ++ b :: r ∧ b ∉ a
  | c :: s, h => by
    by_cases e : c = b
    · subst e; exact ⟨[], s, rfl, by simp⟩
    · obtain ⟨a, r, rfl, hn⟩ := split_mem (s := s) (by rcases List.mem_cons.1 h with h | h
                                                       · exact absurd h.symm e
                                                       · exact h)
      exact ⟨c :: a, r, rfl, by simp [hn]; exact fun h => e h.symm⟩
theorem contains_mem {b : UInt8} {s : List UInt8} (h : b ∈ s) : contains s [b] = true := by
  obtain ⟨a, r, rfl, hn⟩ := split_mem h
  unfold contains; rw [index_ib, ib_at r hn]; exact decide_eq_true (by omega)
theorem contains_iff (b : UInt8) (s : List UInt8) : contains s [b] = decide (b ∈ s) := by
  by_cases h : b ∈ s
  · rw [contains_mem h, decide_eq_true h]
  · rw [contains_none h, decide_eq_false h]
theorem pre_self (p r : List UInt8) : hasPrefix (p ++ r) p = true := by
  unfold hasPrefix; rw [List.isPrefixOf_iff_prefix]; exact List.prefix_append p r
theorem trim_self (p r : List UInt8) : trimPrefix (p ++ r) p = r := by
  unfold trimPrefix; rw [pre_self]; simp
theorem pre_cons (a b : UInt8) (s p : List UInt8) : hasPrefix (a :: s) (b :: p) = (b == a && hasPrefix s p) := rfl
theorem pre_nil (s : List UInt8) : hasPrefix s [] = true := by unfold hasPrefix; simp
theorem nil_pre (b : UInt8) (p : List UInt8) : hasPrefix [] (b :: p) = false := rfl
theorem trim_no {s p : List UInt8} (h : hasPrefix s p = false) : trimPrefix s p = s := by unfold trimPrefix; rw [h]; rfl
theorem trim_cons {a : UInt8} {s p : List UInt8} (h : hasPrefix s p = true) : trimPrefix (a :: s) (a :: p) = trimPrefix s p := by
  unfold trimPrefix; rw [pre_cons, h]; simp

/-! ### The bytes of a character -/
theorem toB (n : Nat) (h : n < 256) : (UInt8.ofNat n).toNat = n := by rw [UInt8.toNat_ofNat']; exact Nat.mod_eq_of_lt h
theorem enc_eq (v : Nat) (h : v ≤ 1114111) (hs : ¬ (55296 ≤ v ∧ v < 57344)) : (Utf8.encode v).data.toList = if v < 128 then [UInt8.ofNat v] else if v < 2048 then [UInt8.ofNat (192 + v / 64), UInt8.ofNat (128 + v % 64)] else
    if v < 65536 then [UInt8.ofNat (224 + v / 4096), UInt8.ofNat (128 + v / 64 % 64), UInt8.ofNat (128 + v % 64)] else [UInt8.ofNat (240 + v / 262144), UInt8.ofNat (128 + v / 4096 % 64), UInt8.ofNat (128 + v / 64 % 64), UInt8.ofNat (128 + v % 64)] := by
  have hval : Utf8.valid (v : Int) = true := by
    unfold Utf8.valid
    simp
    omega
  have hv : ((v : Int)).toNat = v := by omega
  unfold Utf8.encode
  simp only [hval, if_true, hv]
  split
  · rfl
  · split
    · rfl
    · split <;> rfl
set_option maxRecDepth 100000 in
theorem decode_encode (v : Nat) (h : v ≤ 1114111) (hs : ¬ (55296 ≤ v ∧ v < 57344)) : decodeL (Utf8.encode v).data.toList = (v, (Utf8.encode v).data.toList.length) ∧ (Utf8.encode v).data.toList ≠ [] := by
  rw [enc_eq v h hs]
  split
  · refine ⟨?_, by simp⟩
    rw [decodeL_N]
    simp only [List.length_cons, List.length_nil, List.getD_cons_zero, List.getD_cons_succ, toB v (by omega)]
    unfold decodeN
    rw [if_pos (by omega)]
  · split
    · refine ⟨?_, by simp⟩
      rw [decodeL_N]
      simp only [List.length_cons, List.length_nil, List.getD_cons_zero, List.getD_cons_succ, toB (192 + v / 64) (by omega), toB (128 + v % 64) (by omega)]
      unfold decodeN
      rw [if_neg (by omega), if_pos (by omega), if_pos (by omega)]
      exact Prod.ext (by show _ = v; simp only; omega) rfl
    · split
      · refine ⟨?_, by simp⟩
        rw [decodeL_N]
        simp only [List.length_cons, List.length_nil, List.getD_cons_zero, List.getD_cons_succ, toB (224 + v / 4096) (by omega), toB (128 + v / 64 % 64) (by omega), toB (128 + v % 64) (by omega)]
        unfold decodeN
        rw [if_neg (by omega), if_neg (by omega), if_pos (by omega), if_pos (by omega)]
        exact Prod.ext (by show _ = v; simp only; omega) rfl
      · refine ⟨?_, by simp⟩
        rw [decodeL_N]
        simp only [List.length_cons, List.length_nil, List.getD_cons_zero, List.getD_cons_succ, toB (240 + v / 262144) (by omega), toB (128 + v / 4096 % 64) (by omega), toB (128 + v / 64 % 64) (by omega), toB (128 + v % 64) (by omega)]
        unfold decodeN
        rw [if_neg (by omega), if_neg (by omega), if_neg (by omega), if_pos (by omega), if_pos (by omega)]
        exact Prod.ext (by show _ = v; simp only; omega) rfl
theorem utfB_encode (v : Nat) (h : v ≤ 1114111) (hs : ¬ (55296 ≤ v ∧ v < 57344)) : utfB (Utf8.encode v).data.toList = mayN v := by
  obtain ⟨h1, h2⟩ := decode_encode v h hs
  rw [utfB_step h2]
  unfold chOk
  rw [h1]
  simp only [List.drop_length, utfB_nil, Bool.and_true]
  have : ¬ (v = 65533 ∧ (Utf8.encode v).data.toList.length = 1) := by
    rintro ⟨rfl, h⟩; revert h; decide
  rw [decide_eq_false this]; rfl
end Go.Ab
namespace Go.Ab.Sd
open Go Go.Ab Go.Proofs Go.RowKit
set_option maxRecDepth 40000
theorem mayS_N (r : Nat) : mayS (r : Int) = mayN r := by
  have h : ∀ k : Nat, (((r : Int) == (k : Int)) : Bool) = (r == k) := fun k => by rw [Bool.eq_iff_iff]; simp; omega
  have e : decide ((32 : Int) ≤ (r : Int)) = decide (32 ≤ r) := by rw [decide_eq_decide]; omega
  have a := h 9; have b := h 10; have c := h 13; have d := h 65534; have f := h 65535
  simp only [mayS, mayN, bne] at *
  rw [← a, ← b, ← c, ← d, ← f, ← e]
  rfl
theorem utf8S_B (s : List UInt8) : utf8S s = utfB s := by
  rw [← utf_lib s]
  unfold utf8S
  rw [show (fun x : Nat => !mayS (x : Int)) = (fun x => !mayN x) from funext fun x => by rw [mayS_N]]
theorem charB_N (v : Nat) : charB v = (decide (v ≤ 1114111) && !decide (55296 ≤ v ∧ v < 57344) && mayN v) := by
  have h : ∀ k : Nat, (((v : Int) == (k : Int)) : Bool) = decide (v = k) := fun k => by rw [Bool.eq_iff_iff]; simp; omega
  have a := h 9; have b := h 10; have c := h 13
  simp only [charB]
  rw [show ((9 : Int)) = ((9 : Nat) : Int) from rfl, show ((10 : Int)) = ((10 : Nat) : Int) from rfl, show ((13 : Int)) = ((13 : Nat) : Int) from rfl, a, b, c]
  rw [Bool.eq_iff_iff]
  simp only [mayN, Bool.or_eq_true, Bool.and_eq_true, decide_eq_true_eq, Bool.not_eq_true', decide_eq_false_iff_not, beq_iff_eq, bne_iff_ne]
  omega
theorem dropWhile_all (p : UInt8 → Bool) : ∀ (s : List UInt8), (∀ c ∈ s, p c = true) → s.dropWhile p = []
  | [], _ => rfl
  | c :: s, h => by rw [List.dropWhile_cons_of_pos (h c (by simp))]; exact dropWhile_all p s fun x hx => h x (by simp [hx])
theorem number_val (set : List UInt8) (most B : Nat) (s : List UInt8) (h0 : s ≠ []) (hl : s.length ≤ most) (hin : ∀ c ∈ s, c ∈ set) :
    numberS set most B s = if charB (digitsV B s) then (Utf8.encode (digitsV B s)).data.toList else [] := by
  have hd : s.dropWhile set.contains = [] := by
    exact dropWhile_all _ _ fun c hc => by simpa using hin c hc
  have h0' : (s == []) = false := by simpa using h0
  unfold numberS
  rw [h0', hd, cutR_nil, show decide (most < s.length) = false from decide_eq_false (by omega)]
  simp only [Bool.false_or, show (!(([] : List UInt8) == [])) = false from rfl, Bool.false_eq_true, if_false]
  generalize digitsV B s = v
  rw [charB_N, utf8S_B]
  unfold Lib.validRune
  by_cases h1 : 1114111 < v
  · rw [show (decide (1114111 < v)) = true from decide_eq_true h1, show decide (v ≤ 1114111) = false from decide_eq_false (by omega)]; rfl
  · rw [show (decide (1114111 < v)) = false from decide_eq_false h1, show decide (v ≤ 1114111) = true from decide_eq_true (by omega)]
    by_cases h2 : 55296 ≤ v ∧ v < 57344
    · rw [show decide (55296 ≤ v ∧ v < 57344) = true from decide_eq_true h2, show decide ((0 ≤ (v : Int) ∧ (v : Int) < 0xD800) ∨ (0xDFFF < (v : Int) ∧ (v : Int) ≤ 0x10FFFF)) = false from decide_eq_false (by omega)]; rfl
    · rw [show decide (55296 ≤ v ∧ v < 57344) = false from decide_eq_false h2, show decide ((0 ≤ (v : Int) ∧ (v : Int) < 0xD800) ∨ (0xDFFF < (v : Int) ∧ (v : Int) ≤ 0x10FFFF)) = true from decide_eq_true (by omega), utfB_encode v (by omega) h2]
      rfl
/-- A sign of a number. -/
def hx (c : Nat) : UInt8 := if c < 10 then UInt8.ofNat (48 + c) else UInt8.ofNat (87 + c)
def digG (B : Nat) : Nat → Nat → List UInt8
  | 0, _ => []
  | k + 1, v => if v < B then [hx v] else digG B k (v / B) ++ [hx (v % B)]
theorem digF_G : ∀ (k v : Nat), digF k v = digG 10 k v
  | 0, v => rfl
  | k + 1, v => by
    simp only [digF, digG, digF_G k]
    have : v % 10 < 10 := Nat.mod_lt _ (by decide)
    split
    · rename_i h; simp [hx, h]
    · simp [hx, this]
theorem hx_all : ∀ c, c < 16 → dgt (hx c) = c ∧ hx c ∈ hexes ∧ (c < 10 → hx c ∈ tens) := by decide
theorem digG_in {B : Nat} (hB : B = 10 ∨ B = 16) : ∀ (k v : Nat), v < B ^ k → ∀ c ∈ digG B k v, c ∈ (if B = 10 then tens else hexes)
  | 0, v, _, c, hc => by simp [digG] at hc
  | k + 1, v, hv, c, hc => by
    have h16 : ∀ x, x < B → hx x ∈ (if B = 10 then tens else hexes) := fun x hx' => by
      rcases hB with rfl | rfl
      · exact (hx_all x (by omega)).2.2 hx'
      · exact (hx_all x hx').2.1
    have hB0 : 0 < B := by omega
    simp only [digG] at hc
    split at hc
    · rename_i h; simp at hc; subst hc; exact h16 v h
    · rcases List.mem_append.1 hc with hc | hc
      · exact digG_in hB k _ (by rw [Nat.div_lt_iff_lt_mul hB0, ← Nat.pow_succ]; exact hv) c hc
      · simp at hc; subst hc; exact h16 _ (Nat.mod_lt _ hB0)
theorem digG_val {B : Nat} (hB : B = 10 ∨ B = 16) : ∀ (k v : Nat), v < B ^ k → digitsV B (digG B k v) = v
  | 0, v, hv => by simp at hv; subst hv; rfl
  | k + 1, v, hv => by
    have hB0 : 0 < B := by omega
    simp only [digG]
    split
    · rename_i h
      simp only [digitsV, List.foldl_cons, List.foldl_nil, Nat.zero_mul, Nat.zero_add]
      exact (hx_all v (by omega)).1
    · have ih := digG_val hB k (v / B) (by rw [Nat.div_lt_iff_lt_mul hB0, ← Nat.pow_succ]; exact hv)
      have hm : v % B < B := Nat.mod_lt _ hB0
      simp only [digitsV, List.foldl_append, List.foldl_cons, List.foldl_nil] at ih ⊢
      rw [ih, (hx_all (v % B) (by omega)).1, Nat.mul_comm]
      exact Nat.div_add_mod v B
theorem digG_len {B : Nat} : ∀ (k v : Nat), (digG B k v).length ≤ k ∧ (0 < k → digG B k v ≠ [])
  | 0, v => by simp [digG]
  | k + 1, v => by
    simp only [digG]
    have := (digG_len (B := B) k (v / B)).1
    split
    · simp
    · simp; omega
/-- The value of one entity. -/
theorem valS_amp (x : List UInt8) (h : 59 ∉ x) : valS (38 :: x ++ [59]) = if signS x == [] then ([], false) else (signS x, true) := by
  unfold valS
  rw [show (38 :: x ++ [59]) = 38 :: (x ++ [59]) from rfl]
  simp only [List.length_cons]
  rw [valueS, cut_cons, cut_at [] h]
  simp only [if_true, Bool.not_true, Bool.false_or, List.nil_append]
  split
  · rfl
  · rw [List.length_append]
    show valueS (x.length + 1 + 1) [] _ = _
    rw [valueS, cut_none (by simp)]
    simp
/-- A text of one entity. -/
theorem toks_amp (x : List UInt8) (h59 : 59 ∉ x) (h60 : 60 ∉ x) (hl : x.length ≤ 100) (ha : ∀ c ∈ x, c.toNat < 128 ∧ mayN c.toNat = true) :
    toksS (38 :: x ++ [59]) = if signS x == [] then ([], 9) else ([⟨3, [], signS x, [], false⟩], 0) := by
  have hlen : (38 :: x ++ [59]).length = x.length + 2 := by simp
  have hu : utf8S (38 :: x ++ [59]) = true := by
    rw [utf8S_B]
    apply utfB_ascii
    intro c hc
    rcases List.mem_cons.1 hc with rfl | hc
    · decide
    · rcases List.mem_append.1 hc with hc | hc
      · exact ha c hc
      · simp at hc; subst hc; decide
  have hp : Lib.trimPrefix (38 :: x ++ [59]) prologL = 38 :: x ++ [59] := trim_no rfl
  have h60' : (60 : UInt8) ∉ (38 :: x ++ [59]) := by
    intro hc
    rcases List.mem_cons.1 hc with hc | hc
    · exact absurd hc (by decide)
    · rcases List.mem_append.1 hc with hc | hc
      · exact h60 hc
      · simp at hc
  have hpl : plainN (38 :: x ++ [59]) = (38 :: x ++ [59]).length := by unfold plainN; rw [ib_none h60']; rfl
  have ht : tokS (38 :: x ++ [59]) = (⟨3, [], (valS (38 :: x ++ [59])).1, [], false⟩, (valS (38 :: x ++ [59])).2, []) := by
    unfold tokS
    rw [show Lib.hasPrefix (38 :: x ++ [59]) [60, 47] = false from rfl, show Lib.hasPrefix (38 :: x ++ [59]) [60] = false from rfl]
    simp only [Bool.false_eq_true, if_false, plainS, hpl, List.take_length, List.drop_length]
  unfold toksS
  rw [if_neg (by rw [hlen]; omega), hu, hp]
  simp only [Bool.not_true, Bool.false_eq_true, if_false]
  rw [tokN, ht, valS_amp x h59]
  rw [show ((38 :: x ++ [59]) == []) = false from rfl]
  simp only [Bool.false_eq_true, if_false]
  cases hs : signS x == [] with
  | true => rfl
  | false =>
    simp only [Bool.false_eq_true, if_false, if_true]
    rw [hlen, show x.length + 2 = (x.length + 1) + 1 from rfl, tokN]
    rfl
end Go.Ab.Sd
namespace Go.Ab.Sd
open Go Go.Ab Go.Proofs Go.RowKit
set_option maxRecDepth 40000
set_option linter.unusedSimpArgs false
section
variable {m : Int} {σ : St} {K : AV → St → Prop}
def awakeL : List UInt8 := [60, 97, 62, 120, 60, 47, 97, 62]
theorem awake_toks : toksS awakeL = ([⟨1, [97], [], [], false⟩, ⟨3, [], [120], [], false⟩, ⟨2, [97], [], [], false⟩], 0) := by kernel_rfl
theorem awake_c (h : K (.bool true) σ) : ACalls Tryd.prog (gD m) 8 [] σ K := by
  refine ACalls_fn tok fm (fk8 _) ?_
  simp (disch := first | omega | (simp only [nvsR]; first | done | omega)) only [walkAll, walkL, walkK, E, Nat.reduceEqDiff, Nat.reduceAdd, Nat.reduceSub, Nat.reduceLeDiff, Nat.le_refl, Nat.zero_lt_one, Int.cast_ofNat_Int, Int.reduceLT, Int.reduceLE, Int.reduceAdd, Int.reduceSub, Int.reduceToNat, Int.toNat_natCast, decide_true, decide_false, wrap_i64, wrap_i32, wrap_u8, wrap_u32, wrap_u64, and_true, true_and, ↓reduceIte, c8]
  refine Tokens_c awakeL (by decide) ?_
  rw [awake_toks]
  simp (disch := first | omega | (simp only [nvsR]; first | done | omega)) only [walkAll, walkL, walkK, E, Nat.reduceEqDiff, Nat.reduceAdd, Nat.reduceSub, Nat.reduceLeDiff, Nat.le_refl, Nat.zero_lt_one, Int.cast_ofNat_Int, Int.reduceLT, Int.reduceLE, Int.reduceAdd, Int.reduceSub, Int.reduceToNat, Int.toNat_natCast, decide_true, decide_false, wrap_i64, wrap_i32, wrap_u8, wrap_u32, wrap_u64, and_true, true_and, ↓reduceIte, List.map_cons, List.map_nil, Tok.c, lsv_nil, show ∀ (a : List AV) (l : List (List AV)), lsv (a :: l) = .sl (a :: l) from fun _ _ => rfl]
  exact h
end
end Go.Ab.Sd
