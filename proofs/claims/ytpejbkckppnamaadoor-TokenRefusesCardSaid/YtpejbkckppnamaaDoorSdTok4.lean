/- Part of this work: see the text that closes the claim. -/
import Derived.Test.YtpejbkckppnamaaDoorSdTok3
set_option linter.all false
set_option linter.unusedVariables false
set_option linter.unusedSimpArgs false
namespace Go.Ab.Sd
open Go Go.Ab Go.Proofs Go.RowKit
set_option maxRecDepth 40000
set_option linter.unusedSimpArgs false
section
variable {m : Int} {σ : St} {K : AV → St → Prop}
theorem open_loop (b : Nat) (ty : TypeId) (name : List UInt8) (hnm : (name == []) = false) (hb : b < nvs σ) {Q : EQ} : ∀ (n : Nat) (s : List UInt8) (al : List (List UInt8 × List UInt8)) (v : AV) (ρ : Option Nat) (τ : St) (e : Env) (x : List AV),
    s.length < n → al.length + s.length < 4294967281 → Lst 33 2 τ v (al.map atc) ρ → (∀ k, ρ = some k → nrs σ ≤ k) → Grown (σ.setV b (.cells ty [.str s])) τ → getV τ b = some (.cells ty [.str s]) →
    getV τ (nvs σ) = some (.cells 31 x) → x.length = 5 → getV τ (nvs σ + 1) = some (.cells 31 [.int .i64 1, .str name, .str [], v, .bool false]) →
    e 0 = some (.vp b 0) → e 2 = some (.vp (nvs σ) 0) → e 4 = some (.vp (nvs σ + 1) 0) →
    (∀ e' τ' v' ρ', Lst 33 2 τ' v' ((openL n s al).1.map atc) ρ' → (∀ k, ρ' = some k → nrs σ ≤ k) → Grown (σ.setV b (.cells ty [.str (openL n s al).2.2.2])) τ' →
      getV τ' (nvs σ) = some (.cells 31 [.int .i64 1, .str name, .str [], v', .bool (openL n s al).2.1]) → e' 2 = some (.vp (nvs σ) 0) → e' 3 = some (.bool (openL n s al).2.2.1) → Q .ret e' τ') →
    LoopC Tryd.prog tt (gD m) l27_0 Q e τ := by
  intro n
  induction n with
  | zero => intro s al v ρ τ e x h; omega
  | succ n ih =>
    intro s al v ρ τ e x hn hs hl hk hg hv hr hx ht h0 h2 h4 hq
    obtain ⟨x0, x1, x2, x3, x4, rfl⟩ : ∃ x0 x1 x2 x3 x4, x = [x0, x1, x2, x3, x4] := by
      match x, hx with
      | [a, b, c, d, e], _ => exact ⟨_, _, _, _, _, rfl⟩
    have hnv := hg.nvs
    simp only [nvsR] at hnv
    have hlt := getV_lt ht
    obtain ⟨hvc, hvo⟩ := hl.cells
    have d1 := dropWhile_len blanksL.contains s
    refine LoopC_unfold tok fm ?_
    simp (disch := first | omega | (simp only [nvsR]; first | done | omega)) only [walkAll, walkL, walkK, E, Nat.reduceEqDiff, Nat.reduceAdd, Nat.reduceSub, Nat.reduceLeDiff, Nat.le_refl, Nat.zero_lt_one, Int.cast_ofNat_Int, Int.reduceLT, Int.reduceLE, Int.reduceAdd, Int.reduceSub, Int.reduceToNat, Int.toNat_natCast, decide_true, decide_false, wrap_i64, wrap_i32, wrap_u8, wrap_u32, wrap_u64, and_true, true_and, ↓reduceIte, l27_0x, l27_0b, h0, h2, h4, ht, hr, hnm]
    refine run_c b s _ ty hv (by omega) (by decide) (by decide) (by decide) ?_
    rw [show (s.dropWhile ([9, 10, 13, 32] : List UInt8).contains) = s.dropWhile blanksL.contains from rfl, show (s.takeWhile ([9, 10, 13, 32] : List UInt8).contains) = s.takeWhile blanksL.contains from rfl]
    generalize hs1 : s.dropWhile blanksL.contains = s1 at *
    have a1 := attrS_len s1
    simp (disch := first | omega | (simp only [nvsR]; first | done | omega)) only [walkAll, walkL, walkK, E, Nat.reduceEqDiff, Nat.reduceAdd, Nat.reduceSub, Nat.reduceLeDiff, Nat.le_refl, Nat.zero_lt_one, Int.cast_ofNat_Int, Int.reduceLT, Int.reduceLE, Int.reduceAdd, Int.reduceSub, Int.reduceToNat, Int.toNat_natCast, decide_true, decide_false, wrap_i64, wrap_i32, wrap_u8, wrap_u32, wrap_u64, and_true, true_and, ↓reduceIte, h0, h2, h4, ht, hr]
    refine pass_c b s1 _ ty ?_ ?_
    · simp (disch := first | omega | (simp only [nvsR]; first | done | omega)) only [walkAll, walkL, walkK, E, Nat.reduceEqDiff, Nat.reduceAdd, Nat.reduceSub, Nat.reduceLeDiff, Nat.le_refl, Nat.zero_lt_one, Int.cast_ofNat_Int, Int.reduceLT, Int.reduceLE, Int.reduceAdd, Int.reduceSub, Int.reduceToNat, Int.toNat_natCast, decide_true, decide_false, wrap_i64, wrap_i32, wrap_u8, wrap_u32, wrap_u64, and_true, true_and, ↓reduceIte, W, hv]
    cases p1 : Lib.hasPrefix s1 [62] with
    | true =>
      simp (disch := first | omega | (simp only [nvsR]; first | done | omega)) only [walkAll, walkL, walkK, E, Nat.reduceEqDiff, Nat.reduceAdd, Nat.reduceSub, Nat.reduceLeDiff, Nat.le_refl, Nat.zero_lt_one, Int.cast_ofNat_Int, Int.reduceLT, Int.reduceLE, Int.reduceAdd, Int.reduceSub, Int.reduceToNat, Int.toNat_natCast, decide_true, decide_false, wrap_i64, wrap_i32, wrap_u8, wrap_u32, wrap_u64, and_true, true_and, ↓reduceIte, h0, h2, h4, ht, hr, hvc, hvo]
      have ev : openL (n + 1) s al = (al, false, true, Lib.trimPrefix s1 [62]) := by simp only [openL, hs1, p1]; rfl
      rw [ev] at hq
      refine hq _ _ v ρ (by exact hl) hk ?_ ?_ ?_ ?_
      · repeat first | exact Grown.refl _ | assumption | apply Grown.pushV | apply Grown.pushR | (refine Grown.setV ?_ (by first | omega | (simp only [nvsR]; first | done | omega))) | (refine Grown.setOld ‹_› (by first | omega | (simp only [nvsR]; first | done | omega)) _) | (refine Grown.setOld0 ?_ (by first | omega | (simp only [nvsR]; first | done | omega)) _)
      · simp (disch := first | omega | (simp only [nvsR]; first | done | omega)) only [walkAll, walkL, walkK, E, Nat.reduceEqDiff, Nat.reduceAdd, Nat.reduceSub, Nat.reduceLeDiff, Nat.le_refl, Nat.zero_lt_one, Int.cast_ofNat_Int, Int.reduceLT, Int.reduceLE, Int.reduceAdd, Int.reduceSub, Int.reduceToNat, Int.toNat_natCast, decide_true, decide_false, wrap_i64, wrap_i32, wrap_u8, wrap_u32, wrap_u64, and_true, true_and, ↓reduceIte]
      · simp [put, h2]
      · simp [put]
    | false =>
      rw [trimPrefix_no p1]
      simp (disch := first | omega | (simp only [nvsR]; first | done | omega)) only [walkAll, walkL, walkK, E, Nat.reduceEqDiff, Nat.reduceAdd, Nat.reduceSub, Nat.reduceLeDiff, Nat.le_refl, Nat.zero_lt_one, Int.cast_ofNat_Int, Int.reduceLT, Int.reduceLE, Int.reduceAdd, Int.reduceSub, Int.reduceToNat, Int.toNat_natCast, decide_true, decide_false, wrap_i64, wrap_i32, wrap_u8, wrap_u32, wrap_u64, and_true, true_and, ↓reduceIte, h0, h2, h4, ht, hr]
      refine pass_c b s1 _ ty ?_ ?_
      · simp (disch := first | omega | (simp only [nvsR]; first | done | omega)) only [walkAll, walkL, walkK, E, Nat.reduceEqDiff, Nat.reduceAdd, Nat.reduceSub, Nat.reduceLeDiff, Nat.le_refl, Nat.zero_lt_one, Int.cast_ofNat_Int, Int.reduceLT, Int.reduceLE, Int.reduceAdd, Int.reduceSub, Int.reduceToNat, Int.toNat_natCast, decide_true, decide_false, wrap_i64, wrap_i32, wrap_u8, wrap_u32, wrap_u64, and_true, true_and, ↓reduceIte, W, hv]
      cases p2 : Lib.hasPrefix s1 [47, 62] with
      | true =>
        simp (disch := first | omega | (simp only [nvsR]; first | done | omega)) only [walkAll, walkL, walkK, E, Nat.reduceEqDiff, Nat.reduceAdd, Nat.reduceSub, Nat.reduceLeDiff, Nat.le_refl, Nat.zero_lt_one, Int.cast_ofNat_Int, Int.reduceLT, Int.reduceLE, Int.reduceAdd, Int.reduceSub, Int.reduceToNat, Int.toNat_natCast, decide_true, decide_false, wrap_i64, wrap_i32, wrap_u8, wrap_u32, wrap_u64, and_true, true_and, ↓reduceIte, h0, h2, h4, ht, hr, hvc, hvo]
        have ev : openL (n + 1) s al = (al, true, true, Lib.trimPrefix s1 [47, 62]) := by simp only [openL, hs1, p1, p2]; rfl
        rw [ev] at hq
        refine hq _ _ v ρ (by exact hl) hk ?_ ?_ ?_ ?_
        · repeat first | exact Grown.refl _ | assumption | apply Grown.pushV | apply Grown.pushR | (refine Grown.setV ?_ (by first | omega | (simp only [nvsR]; first | done | omega))) | (refine Grown.setOld ‹_› (by first | omega | (simp only [nvsR]; first | done | omega)) _) | (refine Grown.setOld0 ?_ (by first | omega | (simp only [nvsR]; first | done | omega)) _)
        · simp (disch := first | omega | (simp only [nvsR]; first | done | omega)) only [walkAll, walkL, walkK, E, Nat.reduceEqDiff, Nat.reduceAdd, Nat.reduceSub, Nat.reduceLeDiff, Nat.le_refl, Nat.zero_lt_one, Int.cast_ofNat_Int, Int.reduceLT, Int.reduceLE, Int.reduceAdd, Int.reduceSub, Int.reduceToNat, Int.toNat_natCast, decide_true, decide_false, wrap_i64, wrap_i32, wrap_u8, wrap_u32, wrap_u64, and_true, true_and, ↓reduceIte]
        · simp [put, h2]
        · simp [put]
      | false =>
        rw [trimPrefix_no p2]
        simp (disch := first | omega | (simp only [nvsR]; first | done | omega)) only [walkAll, walkL, walkK, E, Nat.reduceEqDiff, Nat.reduceAdd, Nat.reduceSub, Nat.reduceLeDiff, Nat.le_refl, Nat.zero_lt_one, Int.cast_ofNat_Int, Int.reduceLT, Int.reduceLE, Int.reduceAdd, Int.reduceSub, Int.reduceToNat, Int.toNat_natCast, decide_true, decide_false, wrap_i64, wrap_i32, wrap_u8, wrap_u32, wrap_u64, and_true, true_and, ↓reduceIte, h0, h2, h4, ht, hr]
        refine attr_c b s1 ty ?_ (by omega) ?_
        · simp (disch := first | omega | (simp only [nvsR]; first | done | omega)) only [walkAll, walkL, walkK, E, Nat.reduceEqDiff, Nat.reduceAdd, Nat.reduceSub, Nat.reduceLeDiff, Nat.le_refl, Nat.zero_lt_one, Int.cast_ofNat_Int, Int.reduceLT, Int.reduceLE, Int.reduceAdd, Int.reduceSub, Int.reduceToNat, Int.toNat_natCast, decide_true, decide_false, wrap_i64, wrap_i32, wrap_u8, wrap_u32, wrap_u64, and_true, true_and, ↓reduceIte, W, hv]
        have hq0 : ∀ (τ' : St) (e' : Env), ((s.takeWhile blanksL.contains == []) || !(attrS s1).2.2.1 || al.any (fun x => x.1 == (attrS s1).1)) = true → Grown (σ.setV b (.cells ty [.str (attrS s1).2.2.2])) τ' → Lst 33 2 τ' v (al.map atc) ρ →
            getV τ' (nvs σ) = some (.cells 31 [.int .i64 1, .str name, .str [], v, .bool false]) → e' 2 = some (.vp (nvs σ) 0) → e' 3 = some (.bool false) → Q .ret e' τ' := fun τ' e' hc k1 k2 k3 k4 k5 => by
          have ev : openL (n + 1) s al = (al, false, false, (attrS s1).2.2.2) := by simp only [openL, hs1, p1, p2, hc]; rfl
          rw [ev] at hq
          exact hq e' τ' v ρ k2 hk k1 k3 k4 k5
        simp (disch := first | omega | (simp only [nvsR]; first | done | omega)) only [walkAll, walkL, walkK, E, Nat.reduceEqDiff, Nat.reduceAdd, Nat.reduceSub, Nat.reduceLeDiff, Nat.le_refl, Nat.zero_lt_one, Int.cast_ofNat_Int, Int.reduceLT, Int.reduceLE, Int.reduceAdd, Int.reduceSub, Int.reduceToNat, Int.toNat_natCast, decide_true, decide_false, wrap_i64, wrap_i32, wrap_u8, wrap_u32, wrap_u64, and_true, true_and, ↓reduceIte, h0, h2, h4, ht, hr]
        cases g1 : (s.takeWhile blanksL.contains == []) with
        | true =>
          simp (disch := first | omega | (simp only [nvsR]; first | done | omega)) only [walkAll, walkL, walkK, E, Nat.reduceEqDiff, Nat.reduceAdd, Nat.reduceSub, Nat.reduceLeDiff, Nat.le_refl, Nat.zero_lt_one, Int.cast_ofNat_Int, Int.reduceLT, Int.reduceLE, Int.reduceAdd, Int.reduceSub, Int.reduceToNat, Int.toNat_natCast, decide_true, decide_false, wrap_i64, wrap_i32, wrap_u8, wrap_u32, wrap_u64, and_true, true_and, ↓reduceIte, h0, h2, h4, ht, hr, hvc, hvo]
          refine hq0 _ _ (by rw [g1]; rfl) ?_ hl ?_ ?_ ?_
          · repeat first | exact Grown.refl _ | assumption | apply Grown.pushV | apply Grown.pushR | (refine Grown.setV ?_ (by first | omega | (simp only [nvsR]; first | done | omega))) | (refine Grown.setOld ‹_› (by first | omega | (simp only [nvsR]; first | done | omega)) _) | (refine Grown.setOld0 ?_ (by first | omega | (simp only [nvsR]; first | done | omega)) _)
          · simp (disch := first | omega | (simp only [nvsR]; first | done | omega)) only [walkAll, walkL, walkK, E, Nat.reduceEqDiff, Nat.reduceAdd, Nat.reduceSub, Nat.reduceLeDiff, Nat.le_refl, Nat.zero_lt_one, Int.cast_ofNat_Int, Int.reduceLT, Int.reduceLE, Int.reduceAdd, Int.reduceSub, Int.reduceToNat, Int.toNat_natCast, decide_true, decide_false, wrap_i64, wrap_i32, wrap_u8, wrap_u32, wrap_u64, and_true, true_and, ↓reduceIte]
          · simp [put, h2]
          · simp [put]
        | false =>
          cases g2 : (attrS s1).2.2.1 with
          | false =>
            simp (disch := first | omega | (simp only [nvsR]; first | done | omega)) only [walkAll, walkL, walkK, E, Nat.reduceEqDiff, Nat.reduceAdd, Nat.reduceSub, Nat.reduceLeDiff, Nat.le_refl, Nat.zero_lt_one, Int.cast_ofNat_Int, Int.reduceLT, Int.reduceLE, Int.reduceAdd, Int.reduceSub, Int.reduceToNat, Int.toNat_natCast, decide_true, decide_false, wrap_i64, wrap_i32, wrap_u8, wrap_u32, wrap_u64, and_true, true_and, ↓reduceIte, h0, h2, h4, ht, hr, hvc, hvo]
            refine hq0 _ _ (by rw [g1, g2]; rfl) ?_ hl ?_ ?_ ?_
            · repeat first | exact Grown.refl _ | assumption | apply Grown.pushV | apply Grown.pushR | (refine Grown.setV ?_ (by first | omega | (simp only [nvsR]; first | done | omega))) | (refine Grown.setOld ‹_› (by first | omega | (simp only [nvsR]; first | done | omega)) _) | (refine Grown.setOld0 ?_ (by first | omega | (simp only [nvsR]; first | done | omega)) _)
            · simp (disch := first | omega | (simp only [nvsR]; first | done | omega)) only [walkAll, walkL, walkK, E, Nat.reduceEqDiff, Nat.reduceAdd, Nat.reduceSub, Nat.reduceLeDiff, Nat.le_refl, Nat.zero_lt_one, Int.cast_ofNat_Int, Int.reduceLT, Int.reduceLE, Int.reduceAdd, Int.reduceSub, Int.reduceToNat, Int.toNat_natCast, decide_true, decide_false, wrap_i64, wrap_i32, wrap_u8, wrap_u32, wrap_u64, and_true, true_and, ↓reduceIte]
            · simp [put, h2]
            · simp [put]
          | true =>
            simp (disch := first | omega | (simp only [nvsR]; first | done | omega)) only [walkAll, walkL, walkK, E, Nat.reduceEqDiff, Nat.reduceAdd, Nat.reduceSub, Nat.reduceLeDiff, Nat.le_refl, Nat.zero_lt_one, Int.cast_ofNat_Int, Int.reduceLT, Int.reduceLE, Int.reduceAdd, Int.reduceSub, Int.reduceToNat, Int.toNat_natCast, decide_true, decide_false, wrap_i64, wrap_i32, wrap_u8, wrap_u32, wrap_u64, and_true, true_and, ↓reduceIte, h0, h2, h4, ht, hr, hvc, hvo]
            refine ContainsFunc_c v (al.map atc) 38 [.vp (nvs τ) 0] (fun c => match c with | [.str x, _] => x == (attrS s1).1 | _ => false) (by exact hl.rd) (by simp; omega) ?_ ?_
            · intro c hc K hK
              obtain ⟨a, _, rfl⟩ := List.mem_map.1 hc
              refine open1_c (nvs τ) a (attrS s1).1 (attrS s1).2.1 33 ?_ hK
              simp (disch := first | omega | (simp only [nvsR]; first | done | omega)) only [walkAll, walkL, walkK, E, Nat.reduceEqDiff, Nat.reduceAdd, Nat.reduceSub, Nat.reduceLeDiff, Nat.le_refl, Nat.zero_lt_one, Int.cast_ofNat_Int, Int.reduceLT, Int.reduceLE, Int.reduceAdd, Int.reduceSub, Int.reduceToNat, Int.toNat_natCast, decide_true, decide_false, wrap_i64, wrap_i32, wrap_u8, wrap_u32, wrap_u64, and_true, true_and, ↓reduceIte]
            rw [show (al.map atc).any (fun c => match c with | [.str x, _] => x == (attrS s1).1 | _ => false) = al.any (fun x => x.1 == (attrS s1).1) from by rw [List.any_map]; rfl]
            cases g3 : al.any (fun x => x.1 == (attrS s1).1) with
            | true =>
              simp (disch := first | omega | (simp only [nvsR]; first | done | omega)) only [walkAll, walkL, walkK, E, Nat.reduceEqDiff, Nat.reduceAdd, Nat.reduceSub, Nat.reduceLeDiff, Nat.le_refl, Nat.zero_lt_one, Int.cast_ofNat_Int, Int.reduceLT, Int.reduceLE, Int.reduceAdd, Int.reduceSub, Int.reduceToNat, Int.toNat_natCast, decide_true, decide_false, wrap_i64, wrap_i32, wrap_u8, wrap_u32, wrap_u64, and_true, true_and, ↓reduceIte, h0, h2, h4, ht, hr, hvc, hvo]
              refine hq0 _ _ (by rw [g1, g2, g3]; rfl) ?_ hl ?_ ?_ ?_
              · repeat first | exact Grown.refl _ | assumption | apply Grown.pushV | apply Grown.pushR | (refine Grown.setV ?_ (by first | omega | (simp only [nvsR]; first | done | omega))) | (refine Grown.setOld ‹_› (by first | omega | (simp only [nvsR]; first | done | omega)) _) | (refine Grown.setOld0 ?_ (by first | omega | (simp only [nvsR]; first | done | omega)) _)
              · simp (disch := first | omega | (simp only [nvsR]; first | done | omega)) only [walkAll, walkL, walkK, E, Nat.reduceEqDiff, Nat.reduceAdd, Nat.reduceSub, Nat.reduceLeDiff, Nat.le_refl, Nat.zero_lt_one, Int.cast_ofNat_Int, Int.reduceLT, Int.reduceLE, Int.reduceAdd, Int.reduceSub, Int.reduceToNat, Int.toNat_natCast, decide_true, decide_false, wrap_i64, wrap_i32, wrap_u8, wrap_u32, wrap_u64, and_true, true_and, ↓reduceIte]
              · simp [put, h2]
              · simp [put]
            | false =>
              simp (disch := first | omega | (simp only [nvsR]; first | done | omega)) only [walkAll, walkL, walkK, E, Nat.reduceEqDiff, Nat.reduceAdd, Nat.reduceSub, Nat.reduceLeDiff, Nat.le_refl, Nat.zero_lt_one, Int.cast_ofNat_Int, Int.reduceLT, Int.reduceLE, Int.reduceAdd, Int.reduceSub, Int.reduceToNat, Int.toNat_natCast, decide_true, decide_false, wrap_i64, wrap_i32, wrap_u8, wrap_u32, wrap_u64, and_true, true_and, ↓reduceIte, h0, h2, h4, ht, hr, hvc, hvo]
              refine app_one (l := al.map atc) (ρ := ρ) hl rfl rfl (by simp; omega) (fun v' σ' ρ' hl' hB => ?_)
              have hgv : ∀ j, getV σ' j = getV ((τ.setV b (.cells ty [.str (attrS s1).2.2.2])).pushV (.cells 33 [.str (attrS s1).1, .str (attrS s1).2.1])) j := hB.getV
              have hnv' : nvs σ' = nvs τ + 1 := by rw [hB.nvs]; simp only [nvsR]
              obtain ⟨hvc', hvo'⟩ := hl'.cells
              have hv1 : getV σ' b = some (.cells ty [.str (attrS s1).2.2.2]) := by rw [hgv]; simp (disch := first | omega | (simp only [nvsR]; first | done | omega)) only [walkAll, walkL, walkK, E, Nat.reduceEqDiff, Nat.reduceAdd, Nat.reduceSub, Nat.reduceLeDiff, Nat.le_refl, Nat.zero_lt_one, Int.cast_ofNat_Int, Int.reduceLT, Int.reduceLE, Int.reduceAdd, Int.reduceSub, Int.reduceToNat, Int.toNat_natCast, decide_true, decide_false, wrap_i64, wrap_i32, wrap_u8, wrap_u32, wrap_u64, and_true, true_and, ↓reduceIte]
              have hv2 : getV σ' (nvs σ) = some (.cells 31 [x0, x1, x2, x3, x4]) := by rw [hgv]; simp (disch := first | omega | (simp only [nvsR]; first | done | omega)) only [walkAll, walkL, walkK, E, Nat.reduceEqDiff, Nat.reduceAdd, Nat.reduceSub, Nat.reduceLeDiff, Nat.le_refl, Nat.zero_lt_one, Int.cast_ofNat_Int, Int.reduceLT, Int.reduceLE, Int.reduceAdd, Int.reduceSub, Int.reduceToNat, Int.toNat_natCast, decide_true, decide_false, wrap_i64, wrap_i32, wrap_u8, wrap_u32, wrap_u64, and_true, true_and, ↓reduceIte, hr]
              have hv3 : getV σ' (nvs σ + 1) = some (.cells 31 [.int .i64 1, .str name, .str [], v, .bool false]) := by rw [hgv]; simp (disch := first | omega | (simp only [nvsR]; first | done | omega)) only [walkAll, walkL, walkK, E, Nat.reduceEqDiff, Nat.reduceAdd, Nat.reduceSub, Nat.reduceLeDiff, Nat.le_refl, Nat.zero_lt_one, Int.cast_ofNat_Int, Int.reduceLT, Int.reduceLE, Int.reduceAdd, Int.reduceSub, Int.reduceToNat, Int.toNat_natCast, decide_true, decide_false, wrap_i64, wrap_i32, wrap_u8, wrap_u32, wrap_u64, and_true, true_and, ↓reduceIte, ht]
              simp (disch := first | omega | (simp only [nvsR]; first | done | omega)) only [walkAll, walkL, walkK, E, Nat.reduceEqDiff, Nat.reduceAdd, Nat.reduceSub, Nat.reduceLeDiff, Nat.le_refl, Nat.zero_lt_one, Int.cast_ofNat_Int, Int.reduceLT, Int.reduceLE, Int.reduceAdd, Int.reduceSub, Int.reduceToNat, Int.toNat_natCast, decide_true, decide_false, wrap_i64, wrap_i32, wrap_u8, wrap_u32, wrap_u64, and_true, true_and, ↓reduceIte, h0, h2, h4, hv1, hv2, hv3, hvc', hvo']
              have ev : openL (n + 1) s al = openL n (attrS s1).2.2.2 (al ++ [((attrS s1).1, (attrS s1).2.1)]) := by simp only [openL, hs1, p1, p2, g1, g2, g3]; rfl
              rw [ev] at hq
              have a2 := attrS_lt g2
              have hsl : s1.length < s.length := by
                have h3 := congrArg List.length (List.takeWhile_append_dropWhile (p := blanksL.contains) (l := s))
                rw [hs1, List.length_append] at h3
                have : s.takeWhile blanksL.contains ≠ [] := by intro h; rw [h] at g1; cases g1
                have := List.length_pos_iff.2 this
                omega
              refine ih (attrS s1).2.2.2 (al ++ [((attrS s1).1, (attrS s1).2.1)]) v' ρ' _ _ [x0, x1, x2, x3, x4] (by omega) (by simp; omega) ?_ ?_ ?_ ?_ ?_ rfl ?_ ?_ ?_ ?_ hq
              · rw [List.map_append]; exact hl'
              · intro k hk'
                rcases hB.new with h | ⟨r, h, hle⟩
                · exact hk k (h ▸ hk')
                · rw [hk'] at h; cases h
                  have := hg.nrs
                  simp only [nvsR] at this hle
                  omega
              · refine Grown.setV ?_ (by simp only [nvsR]; omega)
                refine hB.grown ?_ (fun k h => by simp only [nvsR]; exact hk k h)
                repeat first | exact Grown.refl _ | assumption | apply Grown.pushV | apply Grown.pushR | (refine Grown.setV ?_ (by first | omega | (simp only [nvsR]; first | done | omega))) | (refine Grown.setOld ‹_› (by first | omega | (simp only [nvsR]; first | done | omega)) _) | (refine Grown.setOld0 ?_ (by first | omega | (simp only [nvsR]; first | done | omega)) _)
              · simp (disch := first | omega | (simp only [nvsR]; first | done | omega)) only [walkAll, walkL, walkK, E, Nat.reduceEqDiff, Nat.reduceAdd, Nat.reduceSub, Nat.reduceLeDiff, Nat.le_refl, Nat.zero_lt_one, Int.cast_ofNat_Int, Int.reduceLT, Int.reduceLE, Int.reduceAdd, Int.reduceSub, Int.reduceToNat, Int.toNat_natCast, decide_true, decide_false, wrap_i64, wrap_i32, wrap_u8, wrap_u32, wrap_u64, and_true, true_and, ↓reduceIte, hv1]
              · simp (disch := first | omega | (simp only [nvsR]; first | done | omega)) only [walkAll, walkL, walkK, E, Nat.reduceEqDiff, Nat.reduceAdd, Nat.reduceSub, Nat.reduceLeDiff, Nat.le_refl, Nat.zero_lt_one, Int.cast_ofNat_Int, Int.reduceLT, Int.reduceLE, Int.reduceAdd, Int.reduceSub, Int.reduceToNat, Int.toNat_natCast, decide_true, decide_false, wrap_i64, wrap_i32, wrap_u8, wrap_u32, wrap_u64, and_true, true_and, ↓reduceIte, hv2]
              · simp (disch := first | omega | (simp only [nvsR]; first | done | omega)) only [walkAll, walkL, walkK, E, Nat.reduceEqDiff, Nat.reduceAdd, Nat.reduceSub, Nat.reduceLeDiff, Nat.le_refl, Nat.zero_lt_one, Int.cast_ofNat_Int, Int.reduceLT, Int.reduceLE, Int.reduceAdd, Int.reduceSub, Int.reduceToNat, Int.toNat_natCast, decide_true, decide_false, wrap_i64, wrap_i32, wrap_u8, wrap_u32, wrap_u64, and_true, true_and, ↓reduceIte, hv3]
              · simp [put, h0]
              · simp [put, h2]
              · simp [put, h4]
theorem openL_len : ∀ (n : Nat) (s : List UInt8) (al : List (List UInt8 × List UInt8)), (openL n s al).2.2.2.length ≤ s.length
  | 0, s, al => by simp [openL]
  | n + 1, s, al => by
    have d1 := dropWhile_len blanksL.contains s
    have a1 := attrS_len (s.dropWhile blanksL.contains)
    simp only [openL]
    split
    · exact Nat.le_trans (trimPrefix_le _ _) d1
    · split
      · exact Nat.le_trans (trimPrefix_le _ _) d1
      · split
        · simp only; omega
        · exact Nat.le_trans (openL_len n _ _) (by omega)
theorem open_c (b : Nat) (s : List UInt8) (ty : TypeId) (hv : W σ b ty s) (hs : s.length < 4294967281)
    (h : K (.tup [.agg (openS s).1.c, .bool (openS s).2.1]) (σ.setV b (.cells ty [.str (openS s).2.2]))) : ACalls Tryd.prog (gD m) 27 [.vp b 0] σ K := by
  refine ACalls.close (σ.setV b (.cells ty [.str (openS s).2.2])) _ (Near.setV (.refl σ) (by simp only [dataR])) (by simp only [dataR, tok_data]) ?_ h
  have hlt := getV_lt hv
  have n1 := nameS_len s
  refine ACalls_fn tok fm (fk27 _) ?_
  simp (disch := first | omega | (simp only [nvsR]; first | done | omega)) only [walkAll, walkL, walkK, E, Nat.reduceEqDiff, Nat.reduceAdd, Nat.reduceSub, Nat.reduceLeDiff, Nat.le_refl, Nat.zero_lt_one, Int.cast_ofNat_Int, Int.reduceLT, Int.reduceLE, Int.reduceAdd, Int.reduceSub, Int.reduceToNat, Int.toNat_natCast, decide_true, decide_false, wrap_i64, wrap_i32, wrap_u8, wrap_u32, wrap_u64, and_true, true_and, ↓reduceIte, c27, hv]
  refine name_c b s ty ?_ (by omega) ?_
  · simp (disch := first | omega | (simp only [nvsR]; first | done | omega)) only [walkAll, walkL, walkK, E, Nat.reduceEqDiff, Nat.reduceAdd, Nat.reduceSub, Nat.reduceLeDiff, Nat.le_refl, Nat.zero_lt_one, Int.cast_ofNat_Int, Int.reduceLT, Int.reduceLE, Int.reduceAdd, Int.reduceSub, Int.reduceToNat, Int.toNat_natCast, decide_true, decide_false, wrap_i64, wrap_i32, wrap_u8, wrap_u32, wrap_u64, and_true, true_and, ↓reduceIte, W, hv]
  simp (disch := first | omega | (simp only [nvsR]; first | done | omega)) only [walkAll, walkL, walkK, E, Nat.reduceEqDiff, Nat.reduceAdd, Nat.reduceSub, Nat.reduceLeDiff, Nat.le_refl, Nat.zero_lt_one, Int.cast_ofNat_Int, Int.reduceLT, Int.reduceLE, Int.reduceAdd, Int.reduceSub, Int.reduceToNat, Int.toNat_natCast, decide_true, decide_false, wrap_i64, wrap_i32, wrap_u8, wrap_u32, wrap_u64, and_true, true_and, ↓reduceIte, hv]
  cases e1 : ((nameS s).1 == []) with
  | true =>
    refine LoopC_unfold tok fm ?_
    simp (disch := first | omega | (simp only [nvsR]; first | done | omega)) only [walkAll, walkL, walkK, E, Nat.reduceEqDiff, Nat.reduceAdd, Nat.reduceSub, Nat.reduceLeDiff, Nat.le_refl, Nat.zero_lt_one, Int.cast_ofNat_Int, Int.reduceLT, Int.reduceLE, Int.reduceAdd, Int.reduceSub, Int.reduceToNat, Int.toNat_natCast, decide_true, decide_false, wrap_i64, wrap_i32, wrap_u8, wrap_u32, wrap_u64, and_true, true_and, ↓reduceIte, l27_0x, l27_0b, e1]
    have e : openS s = (⟨1, (nameS s).1, [], [], false⟩, false, (nameS s).2) := by simp only [openS, e1]; rfl
    rw [e]
    refine ⟨?_, .inl rfl⟩
    repeat first | exact Grown.refl _ | assumption | apply Grown.pushV | apply Grown.pushR | (refine Grown.setV ?_ (by first | omega | (simp only [nvsR]; first | done | omega))) | (refine Grown.setOld ‹_› (by first | omega | (simp only [nvsR]; first | done | omega)) _) | (refine Grown.setOld0 ?_ (by first | omega | (simp only [nvsR]; first | done | omega)) _)
  | false =>
    have e : openS s = (⟨1, (nameS s).1, [], (openL ((nameS s).2.length + 1) (nameS s).2 []).1, (openL ((nameS s).2.length + 1) (nameS s).2 []).2.1⟩, (openL ((nameS s).2.length + 1) (nameS s).2 []).2.2.1, (openL ((nameS s).2.length + 1) (nameS s).2 []).2.2.2) := by simp only [openS, e1]; rfl
    rw [e]
    refine open_loop b ty (nameS s).1 e1 hlt ((nameS s).2.length + 1) (nameS s).2 [] .nils none _ _ [.int .i64 0, .str [], .str [], .nils, .bool false] (by omega) (by simp; omega) (Lst.nil _ _ _) (fun k h => by cases h) ?_ ?_ ?_ rfl ?_ (by simp [put, E]) (by simp [put]) (by simp [put]) (fun e' τ' v' ρ' hl hk hg hr h2 h3 => ?_)
    · repeat first | exact Grown.refl _ | assumption | apply Grown.pushV | apply Grown.pushR | (refine Grown.setV ?_ (by first | omega | (simp only [nvsR]; first | done | omega))) | (refine Grown.setOld ‹_› (by first | omega | (simp only [nvsR]; first | done | omega)) _) | (refine Grown.setOld0 ?_ (by first | omega | (simp only [nvsR]; first | done | omega)) _)
    · simp (disch := first | omega | (simp only [nvsR]; first | done | omega)) only [walkAll, walkL, walkK, E, Nat.reduceEqDiff, Nat.reduceAdd, Nat.reduceSub, Nat.reduceLeDiff, Nat.le_refl, Nat.zero_lt_one, Int.cast_ofNat_Int, Int.reduceLT, Int.reduceLE, Int.reduceAdd, Int.reduceSub, Int.reduceToNat, Int.toNat_natCast, decide_true, decide_false, wrap_i64, wrap_i32, wrap_u8, wrap_u32, wrap_u64, and_true, true_and, ↓reduceIte]
    · simp (disch := first | omega | (simp only [nvsR]; first | done | omega)) only [walkAll, walkL, walkK, E, Nat.reduceEqDiff, Nat.reduceAdd, Nat.reduceSub, Nat.reduceLeDiff, Nat.le_refl, Nat.zero_lt_one, Int.cast_ofNat_Int, Int.reduceLT, Int.reduceLE, Int.reduceAdd, Int.reduceSub, Int.reduceToNat, Int.toNat_natCast, decide_true, decide_false, wrap_i64, wrap_i32, wrap_u8, wrap_u32, wrap_u64, and_true, true_and, ↓reduceIte]
    · simp (disch := first | omega | (simp only [nvsR]; first | done | omega)) only [walkAll, walkL, walkK, E, Nat.reduceEqDiff, Nat.reduceAdd, Nat.reduceSub, Nat.reduceLeDiff, Nat.le_refl, Nat.zero_lt_one, Int.cast_ofNat_Int, Int.reduceLT, Int.reduceLE, Int.reduceAdd, Int.reduceSub, Int.reduceToNat, Int.toNat_natCast, decide_true, decide_false, wrap_i64, wrap_i32, wrap_u8, wrap_u32, wrap_u64, and_true, true_and, ↓reduceIte]
    · obtain ⟨hvc, hvo⟩ := hl.cells
      simp (disch := first | omega | (simp only [nvsR]; first | done | omega)) only [walkAll, walkL, walkK, E, Nat.reduceEqDiff, Nat.reduceAdd, Nat.reduceSub, Nat.reduceLeDiff, Nat.le_refl, Nat.zero_lt_one, Int.cast_ofNat_Int, Int.reduceLT, Int.reduceLE, Int.reduceAdd, Int.reduceSub, Int.reduceToNat, Int.toNat_natCast, decide_true, decide_false, wrap_i64, wrap_i32, wrap_u8, wrap_u32, wrap_u64, and_true, true_and, ↓reduceIte, h2, h3, hr]
      exact close_lst hl hg hk (fun a => .tup [.agg [.int .i64 1, .str (nameS s).1, .str [], a, .bool (openL ((nameS s).2.length + 1) (nameS s).2 []).2.1], .bool (openL ((nameS s).2.length + 1) (nameS s).2 []).2.2.1]) (fun k els => by simp only [frzR])
theorem openS_len (s : List UInt8) : (openS s).2.2.length ≤ s.length := by
  have n1 := nameS_len s
  unfold openS; split
  · exact n1
  · exact Nat.le_trans (openL_len _ _ _) n1
def endS (s : List UInt8) : Tok × Bool × List UInt8 :=
  if (nameS s).1 == [] then (⟨2, (nameS s).1, [], [], false⟩, false, (nameS s).2.dropWhile blanksL.contains)
  else (⟨2, (nameS s).1, [], [], false⟩, Lib.hasPrefix ((nameS s).2.dropWhile blanksL.contains) [62], Lib.trimPrefix ((nameS s).2.dropWhile blanksL.contains) [62])
theorem end_c (b : Nat) (s : List UInt8) (ty : TypeId) (hv : W σ b ty s) (hs : s.length < 4294967281)
    (h : K (.tup [.agg (endS s).1.c, .bool (endS s).2.1]) (σ.setV b (.cells ty [.str (endS s).2.2]))) : ACalls Tryd.prog (gD m) 26 [.vp b 0] σ K := by
  refine ACalls.close (σ.setV b (.cells ty [.str (endS s).2.2])) _ (Near.setV (.refl σ) (by simp only [dataR])) (by simp only [dataR, tok_data]) ?_ h
  have hlt := getV_lt hv
  have n1 := nameS_len s
  refine ACalls_fn tok fm (fk26 _) ?_
  simp (disch := first | omega | (simp only [nvsR]; first | done | omega)) only [walkAll, walkL, walkK, E, Nat.reduceEqDiff, Nat.reduceAdd, Nat.reduceSub, Nat.reduceLeDiff, Nat.le_refl, Nat.zero_lt_one, Int.cast_ofNat_Int, Int.reduceLT, Int.reduceLE, Int.reduceAdd, Int.reduceSub, Int.reduceToNat, Int.toNat_natCast, decide_true, decide_false, wrap_i64, wrap_i32, wrap_u8, wrap_u32, wrap_u64, and_true, true_and, ↓reduceIte, c26, hv]
  refine name_c b s ty ?_ (by omega) ?_
  · simp (disch := first | omega | (simp only [nvsR]; first | done | omega)) only [walkAll, walkL, walkK, E, Nat.reduceEqDiff, Nat.reduceAdd, Nat.reduceSub, Nat.reduceLeDiff, Nat.le_refl, Nat.zero_lt_one, Int.cast_ofNat_Int, Int.reduceLT, Int.reduceLE, Int.reduceAdd, Int.reduceSub, Int.reduceToNat, Int.toNat_natCast, decide_true, decide_false, wrap_i64, wrap_i32, wrap_u8, wrap_u32, wrap_u64, and_true, true_and, ↓reduceIte, W, hv]
  simp (disch := first | omega | (simp only [nvsR]; first | done | omega)) only [walkAll, walkL, walkK, E, Nat.reduceEqDiff, Nat.reduceAdd, Nat.reduceSub, Nat.reduceLeDiff, Nat.le_refl, Nat.zero_lt_one, Int.cast_ofNat_Int, Int.reduceLT, Int.reduceLE, Int.reduceAdd, Int.reduceSub, Int.reduceToNat, Int.toNat_natCast, decide_true, decide_false, wrap_i64, wrap_i32, wrap_u8, wrap_u32, wrap_u64, and_true, true_and, ↓reduceIte, hv]
  refine run_c b (nameS s).2 _ ty ?_ (by omega) (by decide) (by decide) (by decide) ?_
  · simp (disch := first | omega | (simp only [nvsR]; first | done | omega)) only [walkAll, walkL, walkK, E, Nat.reduceEqDiff, Nat.reduceAdd, Nat.reduceSub, Nat.reduceLeDiff, Nat.le_refl, Nat.zero_lt_one, Int.cast_ofNat_Int, Int.reduceLT, Int.reduceLE, Int.reduceAdd, Int.reduceSub, Int.reduceToNat, Int.toNat_natCast, decide_true, decide_false, wrap_i64, wrap_i32, wrap_u8, wrap_u32, wrap_u64, and_true, true_and, ↓reduceIte, W, hv]
  rw [show ((nameS s).2.dropWhile ([9, 10, 13, 32] : List UInt8).contains) = (nameS s).2.dropWhile blanksL.contains from rfl]
  simp (disch := first | omega | (simp only [nvsR]; first | done | omega)) only [walkAll, walkL, walkK, E, Nat.reduceEqDiff, Nat.reduceAdd, Nat.reduceSub, Nat.reduceLeDiff, Nat.le_refl, Nat.zero_lt_one, Int.cast_ofNat_Int, Int.reduceLT, Int.reduceLE, Int.reduceAdd, Int.reduceSub, Int.reduceToNat, Int.toNat_natCast, decide_true, decide_false, wrap_i64, wrap_i32, wrap_u8, wrap_u32, wrap_u64, and_true, true_and, ↓reduceIte, hv]
  cases e1 : ((nameS s).1 == []) with
  | true =>
    simp (disch := first | omega | (simp only [nvsR]; first | done | omega)) only [walkAll, walkL, walkK, E, Nat.reduceEqDiff, Nat.reduceAdd, Nat.reduceSub, Nat.reduceLeDiff, Nat.le_refl, Nat.zero_lt_one, Int.cast_ofNat_Int, Int.reduceLT, Int.reduceLE, Int.reduceAdd, Int.reduceSub, Int.reduceToNat, Int.toNat_natCast, decide_true, decide_false, wrap_i64, wrap_i32, wrap_u8, wrap_u32, wrap_u64, and_true, true_and, ↓reduceIte, hv]
    have e : endS s = (⟨2, (nameS s).1, [], [], false⟩, false, (nameS s).2.dropWhile blanksL.contains) := by simp only [endS, e1]; rfl
    rw [e]
    refine ⟨?_, .inl rfl⟩
    repeat first | exact Grown.refl _ | assumption | apply Grown.pushV | apply Grown.pushR | (refine Grown.setV ?_ (by first | omega | (simp only [nvsR]; first | done | omega))) | (refine Grown.setOld ‹_› (by first | omega | (simp only [nvsR]; first | done | omega)) _) | (refine Grown.setOld0 ?_ (by first | omega | (simp only [nvsR]; first | done | omega)) _)
  | false =>
    simp (disch := first | omega | (simp only [nvsR]; first | done | omega)) only [walkAll, walkL, walkK, E, Nat.reduceEqDiff, Nat.reduceAdd, Nat.reduceSub, Nat.reduceLeDiff, Nat.le_refl, Nat.zero_lt_one, Int.cast_ofNat_Int, Int.reduceLT, Int.reduceLE, Int.reduceAdd, Int.reduceSub, Int.reduceToNat, Int.toNat_natCast, decide_true, decide_false, wrap_i64, wrap_i32, wrap_u8, wrap_u32, wrap_u64, and_true, true_and, ↓reduceIte, hv]
    refine pass_c b ((nameS s).2.dropWhile blanksL.contains) _ ty ?_ ?_
    · simp (disch := first | omega | (simp only [nvsR]; first | done | omega)) only [walkAll, walkL, walkK, E, Nat.reduceEqDiff, Nat.reduceAdd, Nat.reduceSub, Nat.reduceLeDiff, Nat.le_refl, Nat.zero_lt_one, Int.cast_ofNat_Int, Int.reduceLT, Int.reduceLE, Int.reduceAdd, Int.reduceSub, Int.reduceToNat, Int.toNat_natCast, decide_true, decide_false, wrap_i64, wrap_i32, wrap_u8, wrap_u32, wrap_u64, and_true, true_and, ↓reduceIte, W, hv]
    simp (disch := first | omega | (simp only [nvsR]; first | done | omega)) only [walkAll, walkL, walkK, E, Nat.reduceEqDiff, Nat.reduceAdd, Nat.reduceSub, Nat.reduceLeDiff, Nat.le_refl, Nat.zero_lt_one, Int.cast_ofNat_Int, Int.reduceLT, Int.reduceLE, Int.reduceAdd, Int.reduceSub, Int.reduceToNat, Int.toNat_natCast, decide_true, decide_false, wrap_i64, wrap_i32, wrap_u8, wrap_u32, wrap_u64, and_true, true_and, ↓reduceIte, hv]
    have e : endS s = (⟨2, (nameS s).1, [], [], false⟩, Lib.hasPrefix ((nameS s).2.dropWhile blanksL.contains) [62], Lib.trimPrefix ((nameS s).2.dropWhile blanksL.contains) [62]) := by simp only [endS, e1]; rfl
    rw [e]
    refine ⟨?_, .inl rfl⟩
    repeat first | exact Grown.refl _ | assumption | apply Grown.pushV | apply Grown.pushR | (refine Grown.setV ?_ (by first | omega | (simp only [nvsR]; first | done | omega))) | (refine Grown.setOld ‹_› (by first | omega | (simp only [nvsR]; first | done | omega)) _) | (refine Grown.setOld0 ?_ (by first | omega | (simp only [nvsR]; first | done | omega)) _)
end
end Go.Ab.Sd
