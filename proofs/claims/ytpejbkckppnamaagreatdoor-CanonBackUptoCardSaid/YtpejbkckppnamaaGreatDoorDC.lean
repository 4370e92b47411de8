/-
  canon: texts that are escaped, names, attributes.
-/
import Derived.Test.YtpejbkckppnamaaGreatDoorC9
import Derived.Test.YtpejbkckppnamaaGreatDoorCV
import Derived.Test.YtpejbkckppnamaaGreatDoorK9
set_option linter.all false
set_option linter.unusedVariables false
set_option linter.unusedSimpArgs false
namespace Go.Ab.Sz.K
open Go Go.Ab Go.Proofs Go.RowKit
set_option maxRecDepth 40000
set_option linter.unusedSimpArgs false
def escPs : List (UInt8 × List UInt8) := [(38, [38, 97, 109, 112, 59]), (60, [38, 108, 116, 59]), (62, [38, 103, 116, 59]), (34, [38, 113, 117, 111, 116, 59])]
theorem escPs_ok : Prs escPs := ⟨by decide, by decide, by decide, by decide, by decide⟩
theorem rep_esc (s : List UInt8) : repS escPs s = escS s := by
  unfold repS escS
  congr 1
  funext c
  unfold rep1 esc1
  by_cases h1 : c = 38
  · subst h1; rfl
  · by_cases h2 : c = 60
    · subst h2; rfl
    · by_cases h3 : c = 62
      · subst h3; rfl
      · by_cases h4 : c = 34
        · subst h4; rfl
        · have e : List.lookup c escPs = none := by
            have k : ∀ a : UInt8, c ≠ a → (c == a) = false := fun a h => by simpa using h
            simp only [escPs, List.lookup, k _ h1, k _ h2, k _ h3, k _ h4]
          rw [e, if_neg h1, if_neg h2, if_neg h3, if_neg h4]
def letC : List UInt8 := [97, 98, 99, 100, 101, 102, 103, 104, 105, 106, 107, 108, 109, 110, 111, 112, 113, 114, 115, 116, 117, 118, 119, 120, 121, 122, 65, 66, 67, 68, 69, 70, 71, 72, 73, 74, 75, 76, 77, 78, 79, 80, 81, 82, 83, 84, 85, 86, 87, 88, 89, 90, 95, 48, 49, 50, 51, 52, 53, 54, 55, 56, 57, 45, 46, 58]
theorem letC_eq : letC.contains = withins.contains := by
  funext c
  have h1 : ∀ c ∈ letC, c ∈ withins := by decide
  have h2 : ∀ c ∈ withins, c ∈ letC := by decide
  rw [Bool.eq_iff_iff]
  simp only [List.contains_iff_mem]
  exact ⟨h1 c, h2 c⟩
theorem elsA_push (σ : St) (e : TypeId) (z f : Nat) (l : List (List AV)) : elsA (σ.pushR ⟨e, z, f, l⟩) (.os (nrs σ) 0 l.length) = some l := by
  have hr : (σ.pushR ⟨e, z, f, l⟩).rows[nrs σ]? = some (some ⟨e, z, f, l⟩) := by simp [nrs, St.pushR]
  simp [elsA, hr]
section
variable {m : Int} {σ : St} {K : AV → St → Prop}
theorem escape_c (s : List UInt8) (hs : s.length < 1000000000) (h : K (.str (escS s)) σ) : ACalls Tryz.prog (gD m) 68 [.str s] σ K := by
  refine ACalls.close σ _ (.refl σ) (by simp only [dataR]) ?_ h
  have hel := escS_len s
  refine ACalls_fn tok fm (fk68 _) ?_
  simp (disch := first | omega | (simp only [ln]; first | done | omega)) only [walkAll, walkL, walkK, wk, E, Nat.reduceEqDiff, Nat.reduceAdd, Nat.reduceSub, Nat.reduceLeDiff, Int.reduceLT, Int.reduceLE, Int.reduceAdd, Int.reduceSub, Int.reduceToNat, ↓reduceIte, c68]
  refine NewReplacer_c escPs (by decide) (by decide) _ ?_ rfl (fun r σ1 hr hb => ?_)
  · exact elsA_push σ 9 1 0 (prsE escPs)
  · have hv : getV (σ1.pushV (.cells 158 [.int .u32 0, .int .i32 0, .int .u32 0, .nili, .os r 0 (2 * escPs.length)])) (nvs σ) = some (.cells 158 [.int .u32 0, .int .i32 0, .int .u32 0, .nili, .os r 0 (2 * escPs.length)]) := by
      have : nvs σ1 = nvs σ := by rw [hb.nvs]; simp only [nvsR]
      rw [← this]
      simp [getV, nvs, St.pushV]
    simp (disch := first | omega | (simp only [ln]; first | done | omega)) only [walkAll, walkL, walkK, wk, E, Nat.reduceEqDiff, Nat.reduceAdd, Nat.reduceSub, Nat.reduceLeDiff, Int.reduceLT, Int.reduceLE, Int.reduceAdd, Int.reduceSub, Int.reduceToNat, ↓reduceIte]
    refine RReplace_c escPs escPs_ok (nvs σ) r hv hr s hs (by rw [rep_esc]; omega) (fun τ Y X hg => ?_)
    rw [rep_esc]
    simp (disch := first | omega | (simp only [ln]; first | done | omega)) only [walkAll, walkL, walkK, wk, E, Nat.reduceEqDiff, Nat.reduceAdd, Nat.reduceSub, Nat.reduceLeDiff, Int.reduceLT, Int.reduceLE, Int.reduceAdd, Int.reduceSub, Int.reduceToNat, ↓reduceIte]
    refine ⟨?_, .inl rfl⟩
    have g1 : Grown σ σ1 := hb.grown (.pushR (.refl σ)) (fun k hk => by cases hk)
    have g2 : Grown σ ((σ1.pushV (.cells 158 [.int .u32 0, .int .i32 0, .int .u32 0, .nili, .os r 0 (2 * escPs.length)])).setV (nvs σ) Y) := .setV (.pushV g1) (Nat.le_refl _)
    exact .setV (g2.trans hg) (Nat.le_refl _)
/-! ### Names and attributes -/
theorem cname_c (s : List UInt8) (hs : s.length < 1000000000) (h : K (.bool (nameC s)) σ) : ACalls Tryz.prog (gD m) 65 [.str s] σ K := by
  refine ACalls_fn tok fm (fk65 _) ?_
  unfold nameC at h
  cases s with
  | nil =>
    have e0 : (([] : List UInt8) == []) = true := rfl
    simp (disch := first | omega | (simp only [ln]; first | done | omega)) only [walkAll, walkL, walkK, wk, E, Nat.reduceEqDiff, Nat.reduceAdd, Nat.reduceSub, Nat.reduceLeDiff, Int.reduceLT, Int.reduceLE, Int.reduceAdd, Int.reduceSub, Int.reduceToNat, ↓reduceIte, c65, e0, bne, Bool.not_true]
    exact h
  | cons c r =>
    have e0 : ((c :: r : List UInt8) == []) = false := rfl
    have e1 : Lib.contains firsts [c] = firsts.contains c := by rw [contains_iff]; simp
    have et : (c :: r : List UInt8).take 1 = [c] := rfl
    simp (disch := first | omega | (simp only [ln]; first | done | omega)) only [walkAll, walkL, walkK, wk, E, Nat.reduceEqDiff, Nat.reduceAdd, Nat.reduceSub, Nat.reduceLeDiff, Int.reduceLT, Int.reduceLE, Int.reduceAdd, Int.reduceSub, Int.reduceToNat, ↓reduceIte, c65, e0, bne, Bool.not_false]
    refine Contains_c firsts [c] (by decide) ?_
    rw [e1]
    simp only [bne, e0, Bool.not_false, Bool.true_and, List.getD_cons_zero] at h
    cases h1 : firsts.contains c with
    | false =>
      rw [h1] at h
      simp (disch := first | omega | (simp only [ln]; first | done | omega)) only [walkAll, walkL, walkK, wk, E, Nat.reduceEqDiff, Nat.reduceAdd, Nat.reduceSub, Nat.reduceLeDiff, Int.reduceLT, Int.reduceLE, Int.reduceAdd, Int.reduceSub, Int.reduceToNat, ↓reduceIte, h1]
      exact h
    | true =>
      rw [h1] at h
      simp (disch := first | omega | (simp only [ln]; first | done | omega)) only [walkAll, walkL, walkK, wk, E, Nat.reduceEqDiff, Nat.reduceAdd, Nat.reduceSub, Nat.reduceLeDiff, Int.reduceLT, Int.reduceLE, Int.reduceAdd, Int.reduceSub, Int.reduceToNat, ↓reduceIte, h1]
      refine Trim_c (c :: r) letC (by omega) (by decide) (by decide) (by decide) ?_
      have e2 : (((cutR letC (c :: r)).dropWhile letC.contains) == []) = (c :: r : List UInt8).all withins.contains := by
        unfold cutR
        rw [trim_all, letC_eq]
      simp (disch := first | omega | (simp only [ln]; first | done | omega)) only [walkAll, walkL, walkK, wk, E, Nat.reduceEqDiff, Nat.reduceAdd, Nat.reduceSub, Nat.reduceLeDiff, Int.reduceLT, Int.reduceLE, Int.reduceAdd, Int.reduceSub, Int.reduceToNat, ↓reduceIte, e2]
      simpa using h
theorem attrs1_c (j : Nat) (x : List UInt8 × List UInt8) (n v : List UInt8) (hv : getV σ j = some (.cells 64 [.str n, .str v])) (h : K (.bool (x.1 == n)) σ) :
    ACalls Tryz.prog (gD m) 90 [.agg (atc x), .vp j 0] σ K := by
  refine ACalls.close σ _ (.refl σ) (by simp only [dataR]) ?_ h
  have hlt := getV_lt hv
  refine ACalls_fn tok fm (fk90 _) ?_
  simp (disch := first | omega | (simp only [ln]; first | done | omega)) only [walkAll, walkL, walkK, wk, E, Nat.reduceEqDiff, Nat.reduceAdd, Nat.reduceSub, Nat.reduceLeDiff, Int.reduceLT, Int.reduceLE, Int.reduceAdd, Int.reduceSub, Int.reduceToNat, ↓reduceIte, c90, hv, atc]
  exact ⟨by repeat first | exact Grown.refl _ | assumption | apply Grown.pushV | apply Grown.pushR | (refine Grown.setV ?_ (by first | omega | (simp only [nvsR]; first | done | omega))) | (refine Grown.setOld ‹_› (by first | omega | (simp only [nvsR]; first | done | omega)) _) | (refine Grown.setOld0 ?_ (by first | omega | (simp only [nvsR]; first | done | omega)) _), .inl rfl⟩
/-- Attributes that are not too long. -/
def AtB (l : List (List UInt8 × List UInt8)) : Prop := l.length < 1000000000 ∧ ∀ a ∈ l, a.1.length < 1000000000 ∧ a.2.length < 1000000000
theorem lsq_take (nn : Bool) (l : List (List UInt8 × List UInt8)) (i : Nat) (hi : i ≤ l.length) (σ : St) : ∃ v, slsX 2 σ (lsq nn (l.map atc)) none (some (.int .i64 i)) none = some v ∧ ∀ τ, Rd 2 τ v ((l.take i).map atc) := by
  have hu : ∀ c ∈ l.map atc, c.length = 2 := at_len l
  by_cases h0 : l = [] ∧ nn = false
  · obtain ⟨rfl, rfl⟩ := h0
    have : i = 0 := by simpa using hi
    subst this
    exact ⟨.nils, rfl, fun τ => ⟨by simp, .inl ⟨rfl, rfl⟩⟩⟩
  · have e : lsq nn (l.map atc) = .sl (l.map atc) := by
      unfold lsq
      by_cases hl : l = []
      · subst hl
        have : nn = true := by cases nn <;> simp_all
        subst this; rfl
      · rw [if_neg (by simpa using hl)]
    rw [e]
    refine ⟨.sl (((l.map atc).drop 0).take (i - 0)), ?_, fun τ => ⟨fun c hc => hu c (by
      obtain ⟨a, ha, rfl⟩ := List.mem_map.1 hc
      exact List.mem_map.2 ⟨a, List.mem_of_mem_take ha, rfl⟩), .inr (.inr (.inl ?_))⟩⟩
    · have hall : (l.map atc).all (fun c => c.length == 2) = true := by rw [List.all_eq_true]; intro c hc; simpa using hu c hc
      simp only [slsX, bnd, List.length_map]
      rw [if_pos ⟨by omega, by omega⟩]
      simp only [Int.toNat_natCast]
      rw [if_pos hall]
    · simp
def atName (n : List UInt8) (c : List AV) : Bool := match c with
  | .str x :: _ => x == n
  | _ => false
theorem attrs_loop (l : List (List UInt8 × List UInt8)) (nn : Bool) (hb : AtB l) {Q : EQ} : ∀ (rest : List (List UInt8 × List UInt8)) (i : Nat) (τ : St) (e : Env), l.drop i = rest → Grown σ τ → e 0 = some (lsq nn (l.map atc)) → e 5 = some (lsq nn (l.map atc)) → e 6 = some (.int .i64 l.length) → e 7 = some (.int .i64 i) →
    (∀ e' τ', attrsF (l.take i) rest = true → Grown σ τ' → Q (.exit 0) e' τ') → (∀ e' τ', attrsF (l.take i) rest = false → Grown σ τ' → e' 2 = some (.bool false) → Q .ret e' τ') → LoopC Tryz.prog tt (gD m) l66_0 Q e τ := by
  intro rest
  induction rest with
  | nil =>
    intro i τ e hd hg h0 h5 h6 h7 hx hr
    have hi : l.length ≤ i := by simpa using hd
    have d : decide ((i : Int) < (l.length : Int)) = false := decide_eq_false (by omega)
    refine LoopC_unfold tok fm ?_
    simp (disch := first | omega | (simp only [ln]; first | done | omega)) only [walkAll, walkL, walkK, wk, E, Nat.reduceEqDiff, Nat.reduceAdd, Nat.reduceSub, Nat.reduceLeDiff, Int.reduceLT, Int.reduceLE, Int.reduceAdd, Int.reduceSub, Int.reduceToNat, ↓reduceIte, l66_0x, l66_0b, h6, h7, d]
    exact hx _ _ rfl hg
  | cons a rest ih =>
    intro i τ e hd hg h0 h5 h6 h7 hx hr
    obtain ⟨hc, hd'⟩ := drop_cons hd
    have hi := (List.getElem?_eq_some_iff.1 hc).1
    have hm : a ∈ l := List.mem_of_getElem? hc
    have d : decide ((i : Int) < (l.length : Int)) = true := decide_eq_true (by omega)
    obtain ⟨p, hp, hpt⟩ := (rd_lsq (z := 2) nn (at_len l) τ).at (i := i) (c := atc a) (by rw [List.getElem?_map, hc]; rfl) .i64
    have hld := hpt.all (n := 2) rfl
    have w7 : IntKind.i64.wrap ((i : Int) + 1) = ((i + 1 : Nat) : Int) := by have := hb.1; rw [wrap_i64 _ (by omega) (by omega)]; omega
    refine LoopC_unfold tok fm ?_
    simp (disch := first | omega | (simp only [ln]; first | done | omega)) only [walkAll, walkL, walkK, wk, E, Nat.reduceEqDiff, Nat.reduceAdd, Nat.reduceSub, Nat.reduceLeDiff, Int.reduceLT, Int.reduceLE, Int.reduceAdd, Int.reduceSub, Int.reduceToNat, ↓reduceIte, l66_0x, l66_0b, h0, h5, h6, h7, d, hp, hld, atc]
    refine cname_c a.1 (hb.2 a hm).1 ?_
    have hg2 : ∀ X Y, Grown σ ((τ.pushV X).setV (nvs τ) Y) := fun X Y => .setV (.pushV hg) hg.nvs
    cases n1 : nameC a.1 with
    | false =>
      simp (disch := first | omega | (simp only [ln]; first | done | omega)) only [walkAll, walkL, walkK, wk, E, Nat.reduceEqDiff, Nat.reduceAdd, Nat.reduceSub, Nat.reduceLeDiff, Int.reduceLT, Int.reduceLE, Int.reduceAdd, Int.reduceSub, Int.reduceToNat, ↓reduceIte, n1, Bool.not_false]
      exact hr _ _ (by simp only [attrsF, n1]; rfl) (by repeat first | exact Grown.refl _ | assumption | apply Grown.pushV | apply Grown.pushR | (refine Grown.setV ?_ (by first | omega | (simp only [nvsR]; first | done | omega))) | (refine Grown.setOld ‹_› (by first | omega | (simp only [nvsR]; first | done | omega)) _) | (refine Grown.setOld0 ?_ (by first | omega | (simp only [nvsR]; first | done | omega)) _)) (by simp [put])
    | true =>
      simp (disch := first | omega | (simp only [ln]; first | done | omega)) only [walkAll, walkL, walkK, wk, E, Nat.reduceEqDiff, Nat.reduceAdd, Nat.reduceSub, Nat.reduceLeDiff, Int.reduceLT, Int.reduceLE, Int.reduceAdd, Int.reduceSub, Int.reduceToNat, ↓reduceIte, n1, Bool.not_true]
      refine Utf8_c a.2 (by have := (hb.2 a hm).2; omega) ?_
      rw [utf8S_B]
      cases n2 : utfB a.2 with
      | false =>
        simp (disch := first | omega | (simp only [ln]; first | done | omega)) only [walkAll, walkL, walkK, wk, E, Nat.reduceEqDiff, Nat.reduceAdd, Nat.reduceSub, Nat.reduceLeDiff, Int.reduceLT, Int.reduceLE, Int.reduceAdd, Int.reduceSub, Int.reduceToNat, ↓reduceIte, n2, Bool.not_false]
        exact hr _ _ (by simp only [attrsF, n1, n2]; rfl) (by repeat first | exact Grown.refl _ | assumption | apply Grown.pushV | apply Grown.pushR | (refine Grown.setV ?_ (by first | omega | (simp only [nvsR]; first | done | omega))) | (refine Grown.setOld ‹_› (by first | omega | (simp only [nvsR]; first | done | omega)) _) | (refine Grown.setOld0 ?_ (by first | omega | (simp only [nvsR]; first | done | omega)) _)) (by simp [put])
      | true =>
        obtain ⟨v, hv1, hv2⟩ := lsq_take nn l i (by omega) (τ.pushV (.cells 64 [.str a.1, .str a.2]))
        simp (disch := first | omega | (simp only [ln]; first | done | omega)) only [walkAll, walkL, walkK, wk, E, Nat.reduceEqDiff, Nat.reduceAdd, Nat.reduceSub, Nat.reduceLeDiff, Int.reduceLT, Int.reduceLE, Int.reduceAdd, Int.reduceSub, Int.reduceToNat, ↓reduceIte, n2, Bool.not_true, h0, hv1]
        have hvj : getV (τ.pushV (.cells 64 [.str a.1, .str a.2])) (nvs τ) = some (.cells 64 [.str a.1, .str a.2]) := by simp [getV, nvs, St.pushV]
        refine ContainsFunc_c v ((l.take i).map atc) 90 [.vp (nvs τ) 0] (atName a.1) (hv2 _) (by have := hb.1; simp; omega) (fun c hc K hK => ?_) ?_
        · obtain ⟨x, hx, rfl⟩ := List.mem_map.1 hc
          exact attrs1_c _ x a.1 a.2 hvj hK
        · have ha : ((l.take i).map atc).any (atName a.1) = (l.take i).any fun x => x.1 == a.1 := by
            rw [List.any_map]; rfl
          have htk : l.take (i + 1) = l.take i ++ [a] := by rw [List.take_add_one, hc]; rfl
          rw [ha]
          cases n3 : (l.take i).any fun x => x.1 == a.1 with
          | true =>
            simp (disch := first | omega | (simp only [ln]; first | done | omega)) only [walkAll, walkL, walkK, wk, E, Nat.reduceEqDiff, Nat.reduceAdd, Nat.reduceSub, Nat.reduceLeDiff, Int.reduceLT, Int.reduceLE, Int.reduceAdd, Int.reduceSub, Int.reduceToNat, ↓reduceIte, n3]
            exact hr _ _ (by simp only [attrsF, n1, n2, n3]; rfl) (by repeat first | exact Grown.refl _ | assumption | apply Grown.pushV | apply Grown.pushR | (refine Grown.setV ?_ (by first | omega | (simp only [nvsR]; first | done | omega))) | (refine Grown.setOld ‹_› (by first | omega | (simp only [nvsR]; first | done | omega)) _) | (refine Grown.setOld0 ?_ (by first | omega | (simp only [nvsR]; first | done | omega)) _)) (by simp [put])
          | false =>
            simp (disch := first | omega | (simp only [ln]; first | done | omega)) only [walkAll, walkL, walkK, wk, E, Nat.reduceEqDiff, Nat.reduceAdd, Nat.reduceSub, Nat.reduceLeDiff, Int.reduceLT, Int.reduceLE, Int.reduceAdd, Int.reduceSub, Int.reduceToNat, ↓reduceIte, n3, h7, w7]
            have hs : attrsF (l.take i) (a :: rest) = attrsF (l.take (i + 1)) rest := by simp only [attrsF, n1, n2, n3, htk]; rfl
            rw [hs] at hx hr
            exact ih (i + 1) _ _ hd' (by repeat first | exact Grown.refl _ | assumption | apply Grown.pushV | apply Grown.pushR | (refine Grown.setV ?_ (by first | omega | (simp only [nvsR]; first | done | omega))) | (refine Grown.setOld ‹_› (by first | omega | (simp only [nvsR]; first | done | omega)) _) | (refine Grown.setOld0 ?_ (by first | omega | (simp only [nvsR]; first | done | omega)) _)) (by simp [put, h0]) (by simp [put, h5]) (by simp [put, h6]) (by simp [put]) hx hr
theorem attrs_c (l : List (List UInt8 × List UInt8)) (nn : Bool) (hb : AtB l) (h : K (.bool (attrsF [] l)) σ) : ACalls Tryz.prog (gD m) 66 [lsq nn (l.map atc)] σ K := by
  refine ACalls.close σ _ (.refl σ) (by simp only [dataR]) ?_ h
  have hln : lenlX (lsq nn (l.map atc)) = some (.int .i64 l.length) := by
    have := (rd_lsq (z := 2) nn (at_len l) σ).len
    rw [List.length_map] at this; exact this
  refine ACalls_fn tok fm (fk66 _) ?_
  simp (disch := first | omega | (simp only [ln]; first | done | omega)) only [walkAll, walkL, walkK, wk, E, Nat.reduceEqDiff, Nat.reduceAdd, Nat.reduceSub, Nat.reduceLeDiff, Int.reduceLT, Int.reduceLE, Int.reduceAdd, Int.reduceSub, Int.reduceToNat, ↓reduceIte, c66, hln]
  refine attrs_loop l nn hb l 0 σ _ rfl (.refl σ) (by simp [put, E]) (by simp [put, E]) (by simp [put, E]) (by simp [put, E]) (fun e' τ' hF hg => ?_) (fun e' τ' hF hg h2 => ?_)
  · rw [List.take_zero] at hF
    simp (disch := first | omega | (simp only [ln]; first | done | omega)) only [walkAll, walkL, walkK, wk, E, Nat.reduceEqDiff, Nat.reduceAdd, Nat.reduceSub, Nat.reduceLeDiff, Int.reduceLT, Int.reduceLE, Int.reduceAdd, Int.reduceSub, Int.reduceToNat, ↓reduceIte]
    rw [hF]
    exact ⟨hg, .inl rfl⟩
  · rw [List.take_zero] at hF
    simp (disch := first | omega | (simp only [ln]; first | done | omega)) only [walkAll, walkL, walkK, wk, E, Nat.reduceEqDiff, Nat.reduceAdd, Nat.reduceSub, Nat.reduceLeDiff, Int.reduceLT, Int.reduceLE, Int.reduceAdd, Int.reduceSub, Int.reduceToNat, ↓reduceIte, h2]
    rw [hF]
    exact ⟨hg, .inl rfl⟩
end
end Go.Ab.Sz.K
namespace Go.Ab.Sz.K
open Go Go.Ab Go.Proofs Go.RowKit
set_option maxRecDepth 40000
set_option linter.unusedSimpArgs false
theorem idxOf_at' : ∀ (a : List Int) (x : Int) (b : List Int), x ∉ a → (a ++ x :: b).idxOf x = a.length
  | [], x, b, _ => by simp
  | y :: a, x, b, h => by
    have hy : y ≠ x := fun e => h (by simp [e])
    have hy' : (y == x) = false := by simpa using hy
    rw [List.cons_append, List.idxOf_cons, hy', idxOf_at' a x b fun hm => h (by simp [hm])]
    simp
def wac (x : Int) : List AV := [.int .i64 x]
section
variable {m : Int} {σ : St} {K : AV → St → Prop}
theorem index_loop (v : AV) (way : List Int) (p : Int) (hR : Rd 1 σ v (way.map wac)) (hl : way.length < 1000000) {Q : EQ} : ∀ (rest : List Int) (i : Nat) (e : Env), way.drop i = rest → i ≤ way.length → p ∉ way.take i → e 0 = some v → e 1 = some (.int .i64 p) → e 7 = some (.int .i64 way.length) → e 8 = some (.int .i64 i) →
    (∀ e', way.idxOf p = way.length → Q (.exit 0) e' σ) → (∀ e', way.idxOf p < way.length → e' 4 = some (.int .i64 (way.idxOf p)) → Q .ret e' σ) → LoopC Tryz.prog tt (gD m) l88_0 Q e σ := by
  intro rest
  induction rest with
  | nil =>
    intro i e hd hi hn h0 h1 h7 h8 hx hr
    have hi' : way.length ≤ i := by simpa using hd
    have d : decide ((i : Int) < (way.length : Int)) = false := decide_eq_false (by omega)
    have hno : p ∉ way := by rw [List.take_of_length_le hi'] at hn; exact hn
    refine LoopC_unfold tok fm ?_
    simp (disch := first | omega | (simp only [ln]; first | done | omega)) only [walkAll, walkL, walkK, wk, E, Nat.reduceEqDiff, Nat.reduceAdd, Nat.reduceSub, Nat.reduceLeDiff, Int.reduceLT, Int.reduceLE, Int.reduceAdd, Int.reduceSub, Int.reduceToNat, ↓reduceIte, l88_0x, l88_0b, h7, h8, d]
    exact hx _ (List.idxOf_eq_length hno)
  | cons x rest ih =>
    intro i e hd hi hn h0 h1 h7 h8 hx hr
    obtain ⟨hc, hd'⟩ := drop_cons hd
    have hlt := (List.getElem?_eq_some_iff.1 hc).1
    have d : decide ((i : Int) < (way.length : Int)) = true := decide_eq_true (by omega)
    obtain ⟨q, hq, hpt⟩ := hR.at (i := i) (c := wac x) (by rw [List.getElem?_map, hc]; rfl) .i64
    have hld := hpt.one
    have w8 : IntKind.i64.wrap ((i : Int) + 1) = ((i + 1 : Nat) : Int) := by rw [wrap_i64 _ (by omega) (by omega)]; omega
    refine LoopC_unfold tok fm ?_
    simp (disch := first | omega | (simp only [ln]; first | done | omega)) only [walkAll, walkL, walkK, wk, E, Nat.reduceEqDiff, Nat.reduceAdd, Nat.reduceSub, Nat.reduceLeDiff, Int.reduceLT, Int.reduceLE, Int.reduceAdd, Int.reduceSub, Int.reduceToNat, ↓reduceIte, l88_0x, l88_0b, h0, h1, h7, h8, d, hq, hld]
    cases g : (p == x) with
    | true =>
      have hpx : p = x := by simpa using g
      have hidx : way.idxOf p = i := by
        have hs : way = way.take i ++ x :: rest := by rw [← hd, List.take_append_drop]
        rw [hs, hpx]
        rw [hpx] at hn
        have hll : (way.take i).length = i := by rw [List.length_take]; omega
        rw [idxOf_at' _ _ _ hn, hll]
      simp (disch := first | omega | (simp only [ln]; first | done | omega)) only [walkAll, walkL, walkK, wk, E, Nat.reduceEqDiff, Nat.reduceAdd, Nat.reduceSub, Nat.reduceLeDiff, Int.reduceLT, Int.reduceLE, Int.reduceAdd, Int.reduceSub, Int.reduceToNat, ↓reduceIte, g, h8]
      exact hr _ (by omega) (by simp [put, hidx])
    | false =>
      have hpx : p ≠ x := by simpa using g
      simp (disch := first | omega | (simp only [ln]; first | done | omega)) only [walkAll, walkL, walkK, wk, E, Nat.reduceEqDiff, Nat.reduceAdd, Nat.reduceSub, Nat.reduceLeDiff, Int.reduceLT, Int.reduceLE, Int.reduceAdd, Int.reduceSub, Int.reduceToNat, ↓reduceIte, g, h8, w8]
      refine ih (i + 1) _ hd' (by omega) ?_ (by simp [put, h0]) (by simp [put, h1]) (by simp [put, h7]) (by simp [put]) hx hr
      rw [List.take_add_one, hc]
      simp only [Option.toList_some, List.mem_append, List.mem_singleton, not_or]
      exact ⟨hn, hpx⟩
theorem Index_c (v : AV) (way : List Int) (p : Int) (hR : Rd 1 σ v (way.map wac)) (hl : way.length < 1000000) (h : K (.int .i64 (if way.idxOf p < way.length then (way.idxOf p : Int) else -1)) σ) : ACalls Tryz.prog (gD m) 88 [v, .int .i64 p] σ K := by
  have hln := hR.len
  rw [List.length_map] at hln
  refine ACalls_fn tok fm (fk88 _) ?_
  simp (disch := first | omega | (simp only [ln]; first | done | omega)) only [walkAll, walkL, walkK, wk, E, Nat.reduceEqDiff, Nat.reduceAdd, Nat.reduceSub, Nat.reduceLeDiff, Int.reduceLT, Int.reduceLE, Int.reduceAdd, Int.reduceSub, Int.reduceToNat, ↓reduceIte, c88, hln]
  refine index_loop v way p hR hl way 0 _ rfl (Nat.zero_le _) (by simp) (by simp [put, E]) (by simp [put, E]) (by simp [put, E]) (by simp [put, E]) (fun e' he => ?_) (fun e' he h4 => ?_)
  · rw [if_neg (by omega)] at h
    simp (disch := first | omega | (simp only [ln]; first | done | omega)) only [walkAll, walkL, walkK, wk, E, Nat.reduceEqDiff, Nat.reduceAdd, Nat.reduceSub, Nat.reduceLeDiff, Int.reduceLT, Int.reduceLE, Int.reduceAdd, Int.reduceSub, Int.reduceToNat, ↓reduceIte]
    exact h
  · rw [if_pos he] at h
    simp (disch := first | omega | (simp only [ln]; first | done | omega)) only [walkAll, walkL, walkK, wk, E, Nat.reduceEqDiff, Nat.reduceAdd, Nat.reduceSub, Nat.reduceLeDiff, Int.reduceLT, Int.reduceLE, Int.reduceAdd, Int.reduceSub, Int.reduceToNat, ↓reduceIte, h4]
    exact h
theorem copen_c (v : AV) (way : List Int) (p : Int) (ρ : Option Nat) (hO : Own 3 1 σ v (way.map wac) ρ) (hne : way ≠ []) (hl : way.length < 1000000)
    (h : ∀ v', Own 3 1 σ v' ((way.take (if way.idxOf p < way.length then way.idxOf p + 1 else 0)).map wac) ρ → K (.tup [v', .bool (decide (way.idxOf p < way.length))]) σ) : ACalls Tryz.prog (gD m) 64 [v, .int .i64 p] σ K := by
  refine ACalls_fn tok fm (fk64 _) ?_
  simp (disch := first | omega | (simp only [ln]; first | done | omega)) only [walkAll, walkL, walkK, wk, E, Nat.reduceEqDiff, Nat.reduceAdd, Nat.reduceSub, Nat.reduceLeDiff, Int.reduceLT, Int.reduceLE, Int.reduceAdd, Int.reduceSub, Int.reduceToNat, ↓reduceIte, c64]
  refine Index_c v way p hO.rd hl ?_
  have hcut : ∀ n : Nat, n ≤ way.length → ∃ v', slsX 1 σ v none (some (.int .i64 n)) none = some v' ∧ Own 3 1 σ v' ((way.take n).map wac) ρ := fun n hn => by
    obtain ⟨v', h1, h2⟩ := own_cut hO n (by simpa using hn) (by simpa using hne)
    rw [← List.map_take] at h2
    exact ⟨v', h1, h2⟩
  by_cases hc : way.idxOf p < way.length
  · obtain ⟨v', h1, h2⟩ := hcut (way.idxOf p + 1) (by omega)
    have w : IntKind.i64.wrap ((way.idxOf p : Int) + 1) = ((way.idxOf p + 1 : Nat) : Int) := by rw [wrap_i64 _ (by omega) (by omega)]; omega
    have d : decide ((0 : Int) ≤ (way.idxOf p : Int)) = true := decide_eq_true (by omega)
    have h' := h v' (by rw [if_pos hc]; exact h2)
    rw [decide_eq_true hc] at h'
    rw [if_pos hc]
    simp (disch := first | omega | (simp only [ln]; first | done | omega)) only [walkAll, walkL, walkK, wk, E, Nat.reduceEqDiff, Nat.reduceAdd, Nat.reduceSub, Nat.reduceLeDiff, Int.reduceLT, Int.reduceLE, Int.reduceAdd, Int.reduceSub, Int.reduceToNat, ↓reduceIte, w, h1, d]
    exact h'
  · obtain ⟨v', h1, h2⟩ := hcut 0 (by omega)
    have w : IntKind.i64.wrap (-1 + 1) = ((0 : Nat) : Int) := rfl
    have d : decide ((0 : Int) ≤ -1) = false := rfl
    have h' := h v' (by rw [if_neg hc]; exact h2)
    rw [decide_eq_false hc] at h'
    rw [if_neg hc]
    have h1' : slsX 1 σ v none (some (.int .i64 0)) none = some v' := h1
    have w' : IntKind.i64.wrap (-1 + 1) = 0 := rfl
    simp (disch := first | omega | (simp only [ln]; first | done | omega)) only [walkAll, walkL, walkK, wk, E, Nat.reduceEqDiff, Nat.reduceAdd, Nat.reduceSub, Nat.reduceLeDiff, Int.reduceLT, Int.reduceLE, Int.reduceAdd, Int.reduceSub, Int.reduceToNat, ↓reduceIte, w', h1', d]
    exact h'
/-- A node that is not too long. -/
def NdB (n : Nd) : Prop := n.name.length < 1000000000 ∧ n.text.length < 1000000000 ∧ AtB n.attrs
theorem right_loop (l : List Nd) (v0 : AV) (hvr : ∀ τ, Rd 4 τ v0 (l.map Nd.c)) (hl : l.length ≤ 500) (hb : ∀ n ∈ l, NdB n) {Q : EQ} : ∀ (rest : List Nd) (i : Nat) (way : List Int) (v : AV) (ρ : Option Nat) (τ : St) (e : Env), l.drop i = rest → Grown σ τ → Own 3 1 τ v (way.map wac) ρ → (∀ k, ρ = some k → nrs σ ≤ k) → way ≠ [] → way.length ≤ i + 1 → (i = 0 → way = [-1]) → (∀ x ∈ way, x < i) →
    (∀ x ∈ way.drop 1, 0 ≤ x) → e 0 = some v0 → e 3 = some v → e 24 = some v0 → e 25 = some (.int .i64 l.length) → e 26 = some (.int .i64 i) →
    (∀ e' τ', rightF l i way rest = true → Grown σ τ' → Q (.exit 0) e' τ') → (∀ e' τ', rightF l i way rest = false → Grown σ τ' → e' 2 = some (.bool false) → Q .ret e' τ') → LoopC Tryz.prog tt (gD m) l42_0 Q e τ := by
  intro rest
  induction rest with
  | nil =>
    intro i way v ρ τ e hd hg hO hρ hw hwl hi0 hwx hwp h0 h3 h24 h25 h26 hx hr
    have hi : l.length ≤ i := by simpa using hd
    have d : decide ((i : Int) < (l.length : Int)) = false := decide_eq_false (by omega)
    refine LoopC_unfold tok fm ?_
    simp (disch := first | omega | (simp only [ln]; first | done | omega)) only [walkAll, walkL, walkK, wk, E, Nat.reduceEqDiff, Nat.reduceAdd, Nat.reduceSub, Nat.reduceLeDiff, Int.reduceLT, Int.reduceLE, Int.reduceAdd, Int.reduceSub, Int.reduceToNat, ↓reduceIte, l42_0x, l42_0b, h25, h26, d]
    exact hx _ _ rfl hg
  | cons n rest ih =>
    intro i way v ρ τ e hd hg hO hρ hw hwl hi0 hwx hwp h0 h3 h24 h25 h26 hx hr
    obtain ⟨hc, hd'⟩ := drop_cons hd
    have hi := (List.getElem?_eq_some_iff.1 hc).1
    have hm : n ∈ l := List.mem_of_getElem? hc
    have hnb := hb n hm
    have d : decide ((i : Int) < (l.length : Int)) = true := decide_eq_true (by omega)
    obtain ⟨p, hp, hpt⟩ := (hvr τ).at (i := i) (c := n.c) (by rw [List.getElem?_map, hc]; rfl) .i64
    have hld := hpt.all (n := 4) rfl
    have w26 : IntKind.i64.wrap ((i : Int) + 1) = ((i + 1 : Nat) : Int) := by rw [wrap_i64 _ (by omega) (by omega)]; omega
    refine LoopC_unfold tok fm ?_
    simp (disch := first | omega | (simp only [ln]; first | done | omega)) only [walkAll, walkL, walkK, wk, E, Nat.reduceEqDiff, Nat.reduceAdd, Nat.reduceSub, Nat.reduceLeDiff, Int.reduceLT, Int.reduceLE, Int.reduceAdd, Int.reduceSub, Int.reduceToNat, ↓reduceIte, l42_0x, l42_0b, h0, h3, h24, h25, h26, d, hp, hld, Nd.c, lsq_cells, lsq_one]
    have hO1 : Own 3 1 (τ.pushV (.cells 40 [.int .i64 n.parent, .str n.name, .str n.text, lsq n.nn (n.attrs.map atc)])) v (way.map wac) ρ := hO.pushV _
    refine copen_c v way n.parent ρ hO1 hw (by omega) (fun v' hO' => ?_)
    generalize hj : way.idxOf n.parent = j at hO' ⊢
    cases n1 : decide (j < way.length) with
    | false =>
      simp (disch := first | omega | (simp only [ln]; first | done | omega)) only [walkAll, walkL, walkK, wk, E, Nat.reduceEqDiff, Nat.reduceAdd, Nat.reduceSub, Nat.reduceLeDiff, Int.reduceLT, Int.reduceLE, Int.reduceAdd, Int.reduceSub, Int.reduceToNat, ↓reduceIte, n1, Bool.not_false]
      exact hr _ _ (by simp only [rightF, hj, n1]; rfl) (by repeat first | exact Grown.refl _ | assumption | apply Grown.pushV | apply Grown.pushR | (refine Grown.setV ?_ (by first | omega | (simp only [nvsR]; first | done | omega))) | (refine Grown.setOld ‹_› (by first | omega | (simp only [nvsR]; first | done | omega)) _) | (refine Grown.setOld0 ?_ (by first | omega | (simp only [nvsR]; first | done | omega)) _)) (by simp [put])
    | true =>
      have hjl := of_decide_eq_true n1
      rw [if_pos hjl] at hO'
      have hln : lenlX v' = some (.int .i64 ((j + 1 : Nat) : Int)) := by
        have := hO'.len
        rw [List.length_map, List.length_take, Nat.min_eq_left (by omega)] at this
        exact this
      simp (disch := first | omega | (simp only [ln]; first | done | omega)) only [walkAll, walkL, walkK, wk, E, Nat.reduceEqDiff, Nat.reduceAdd, Nat.reduceSub, Nat.reduceLeDiff, Int.reduceLT, Int.reduceLE, Int.reduceAdd, Int.reduceSub, Int.reduceToNat, ↓reduceIte, n1, Bool.not_true]
      cases q : decide ((0 : Int) < (i : Int)) with
      | false =>
        have qn : decide (0 < i) = false := decide_eq_false (by have := of_decide_eq_false q; omega)
        simp (disch := first | omega | (simp only [ln]; first | done | omega)) only [walkAll, walkL, walkK, wk, E, Nat.reduceEqDiff, Nat.reduceAdd, Nat.reduceSub, Nat.reduceLeDiff, Int.reduceLT, Int.reduceLE, Int.reduceAdd, Int.reduceSub, Int.reduceToNat, ↓reduceIte, q, hln]
        cases n3 : decide (32 < ((j + 1 : Nat) : Int)) with
        | true =>
          have m3 : decide (j + 1 ≤ 32) = false := decide_eq_false (by have := of_decide_eq_true n3; omega)
          simp (disch := first | omega | (simp only [ln]; first | done | omega)) only [walkAll, walkL, walkK, wk, E, Nat.reduceEqDiff, Nat.reduceAdd, Nat.reduceSub, Nat.reduceLeDiff, Int.reduceLT, Int.reduceLE, Int.reduceAdd, Int.reduceSub, Int.reduceToNat, ↓reduceIte, n3]
          exact hr _ _ (by simp only [rightF, hj, n1, m3, qn, Bool.and_false, Bool.false_and, Bool.and_true, Bool.true_and, Bool.not_true, Bool.not_false]) (by repeat first | exact Grown.refl _ | assumption | apply Grown.pushV | apply Grown.pushR | (refine Grown.setV ?_ (by first | omega | (simp only [nvsR]; first | done | omega))) | (refine Grown.setOld ‹_› (by first | omega | (simp only [nvsR]; first | done | omega)) _) | (refine Grown.setOld0 ?_ (by first | omega | (simp only [nvsR]; first | done | omega)) _)) (by simp [put])
        | false =>
          have m3 : decide (j + 1 ≤ 32) = true := decide_eq_true (by have := of_decide_eq_false n3; omega)
          simp (disch := first | omega | (simp only [ln]; first | done | omega)) only [walkAll, walkL, walkK, wk, E, Nat.reduceEqDiff, Nat.reduceAdd, Nat.reduceSub, Nat.reduceLeDiff, Int.reduceLT, Int.reduceLE, Int.reduceAdd, Int.reduceSub, Int.reduceToNat, ↓reduceIte, n3]
          refine cname_c n.name hnb.1 ?_
          cases n4 : nameC n.name with
          | false =>
            simp (disch := first | omega | (simp only [ln]; first | done | omega)) only [walkAll, walkL, walkK, wk, E, Nat.reduceEqDiff, Nat.reduceAdd, Nat.reduceSub, Nat.reduceLeDiff, Int.reduceLT, Int.reduceLE, Int.reduceAdd, Int.reduceSub, Int.reduceToNat, ↓reduceIte, n4, Bool.not_false]
            exact hr _ _ (by simp only [rightF, hj, n1, m3, nodeC, n4, qn, Bool.and_false, Bool.false_and, Bool.and_true, Bool.true_and, Bool.not_true, Bool.not_false]) (by repeat first | exact Grown.refl _ | assumption | apply Grown.pushV | apply Grown.pushR | (refine Grown.setV ?_ (by first | omega | (simp only [nvsR]; first | done | omega))) | (refine Grown.setOld ‹_› (by first | omega | (simp only [nvsR]; first | done | omega)) _) | (refine Grown.setOld0 ?_ (by first | omega | (simp only [nvsR]; first | done | omega)) _)) (by simp [put])
          | true =>
            simp (disch := first | omega | (simp only [ln]; first | done | omega)) only [walkAll, walkL, walkK, wk, E, Nat.reduceEqDiff, Nat.reduceAdd, Nat.reduceSub, Nat.reduceLeDiff, Int.reduceLT, Int.reduceLE, Int.reduceAdd, Int.reduceSub, Int.reduceToNat, ↓reduceIte, n4, Bool.not_true]
            refine attrs_c n.attrs n.nn hnb.2.2 ?_
            cases n5 : attrsF [] n.attrs with
            | false =>
              simp (disch := first | omega | (simp only [ln]; first | done | omega)) only [walkAll, walkL, walkK, wk, E, Nat.reduceEqDiff, Nat.reduceAdd, Nat.reduceSub, Nat.reduceLeDiff, Int.reduceLT, Int.reduceLE, Int.reduceAdd, Int.reduceSub, Int.reduceToNat, ↓reduceIte, n5, Bool.not_false]
              exact hr _ _ (by simp only [rightF, hj, n1, m3, nodeC, n4, n5, qn, Bool.and_false, Bool.false_and, Bool.and_true, Bool.true_and, Bool.not_true, Bool.not_false]) (by repeat first | exact Grown.refl _ | assumption | apply Grown.pushV | apply Grown.pushR | (refine Grown.setV ?_ (by first | omega | (simp only [nvsR]; first | done | omega))) | (refine Grown.setOld ‹_› (by first | omega | (simp only [nvsR]; first | done | omega)) _) | (refine Grown.setOld0 ?_ (by first | omega | (simp only [nvsR]; first | done | omega)) _)) (by simp [put])
            | true =>
              simp (disch := first | omega | (simp only [ln]; first | done | omega)) only [walkAll, walkL, walkK, wk, E, Nat.reduceEqDiff, Nat.reduceAdd, Nat.reduceSub, Nat.reduceLeDiff, Int.reduceLT, Int.reduceLE, Int.reduceAdd, Int.reduceSub, Int.reduceToNat, ↓reduceIte, n5, Bool.not_true]
              refine Utf8_c n.text (by have := hnb.2.1; omega) ?_
              rw [utf8S_B]
              cases n6 : utfB n.text with
              | false =>
                simp (disch := first | omega | (simp only [ln]; first | done | omega)) only [walkAll, walkL, walkK, wk, E, Nat.reduceEqDiff, Nat.reduceAdd, Nat.reduceSub, Nat.reduceLeDiff, Int.reduceLT, Int.reduceLE, Int.reduceAdd, Int.reduceSub, Int.reduceToNat, ↓reduceIte, n6, Bool.not_false]
                exact hr _ _ (by simp only [rightF, hj, n1, m3, nodeC, n4, n5, n6, qn, Bool.and_false, Bool.false_and, Bool.and_true, Bool.true_and, Bool.not_true, Bool.not_false]) (by repeat first | exact Grown.refl _ | assumption | apply Grown.pushV | apply Grown.pushR | (refine Grown.setV ?_ (by first | omega | (simp only [nvsR]; first | done | omega))) | (refine Grown.setOld ‹_› (by first | omega | (simp only [nvsR]; first | done | omega)) _) | (refine Grown.setOld0 ?_ (by first | omega | (simp only [nvsR]; first | done | omega)) _)) (by simp [put])
              | true =>
                simp (disch := first | omega | (simp only [ln]; first | done | omega)) only [walkAll, walkL, walkK, wk, E, Nat.reduceEqDiff, Nat.reduceAdd, Nat.reduceSub, Nat.reduceLeDiff, Int.reduceLT, Int.reduceLE, Int.reduceAdd, Int.reduceSub, Int.reduceToNat, ↓reduceIte, n6, Bool.not_true, q]
                have hO2 : Own 3 1 (τ.pushV (.cells 40 [.int .i64 n.parent, .str n.name, .str n.text, lsq n.nn (n.attrs.map atc)])) v' ((way.take (j + 1)).map wac) ρ := hO'
                refine own_app (e := 3) (z := 1) (b := 8) (c := wac i) hO2 rfl rfl (by rw [List.length_map, List.length_take]; omega) (fun v2 σ2 ρ2 hO3 hb2 => ?_)
                simp (disch := first | omega | (simp only [ln]; first | done | omega)) only [walkAll, walkL, walkK, wk, E, Nat.reduceEqDiff, Nat.reduceAdd, Nat.reduceSub, Nat.reduceLeDiff, Int.reduceLT, Int.reduceLE, Int.reduceAdd, Int.reduceSub, Int.reduceToNat, ↓reduceIte, h26, w26]
                have e2 : (way.take (j + 1)).map wac ++ [wac i] = (way.take (j + 1) ++ [(i : Int)]).map wac := by simp
                rw [e2] at hO3
                have hg2 : Grown σ σ2 := hb2.grown (.pushV hg) hρ
                have hρ2 : ∀ k, ρ2 = some k → nrs σ ≤ k := fun k hk => by
                  have := hg.nrs
                  rcases hb2.new with e1 | ⟨r', e1, e2⟩
                  · exact hρ k (e1.symm.trans hk)
                  · rw [e1] at hk; cases hk; simp only [nvsR] at e2; omega
                have htl : (way.take (j + 1)).length = j + 1 := by rw [List.length_take]; omega
                have hs : rightF l i way (n :: rest) = rightF l (i + 1) (way.take (j + 1) ++ [(i : Int)]) rest := by
                  simp only [rightF, hj, n1, m3, nodeC, n4, n5, n6, qn, Bool.and_false, Bool.false_and, Bool.and_true, Bool.true_and, Bool.not_true, Bool.not_false]
                rw [hs] at hx hr
                refine ih (i + 1) _ v2 ρ2 σ2 _ hd' hg2 hO3 hρ2 (by simp) (by rw [List.length_append, htl]; simp; omega) (fun h => by omega) (fun x hx => ?_) (fun x hx => ?_) (by simp [put, h0]) (by simp [put]) (by simp [put, h24]) (by simp [put, h25]) (by simp [put]) hx hr
                · rcases List.mem_append.1 hx with hx | hx
                  · have := hwx x (List.mem_of_mem_take hx); omega
                  · have : x = (i : Int) := by simpa using hx
                    omega
                · have e3 : (way.take (j + 1) ++ [(i : Int)]).drop 1 = (way.take (j + 1)).drop 1 ++ [(i : Int)] := by rw [List.drop_append_of_le_length (by omega)]
                  rw [e3] at hx
                  rcases List.mem_append.1 hx with hx | hx
                  · refine hwp x ?_
                    rw [List.drop_take] at hx
                    exact List.mem_of_mem_take hx
                  · have : x = (i : Int) := by simpa using hx
                    omega
      | true =>
        have qn : decide (0 < i) = true := decide_eq_true (by have := of_decide_eq_true q; omega)
        cases j0 : decide (j = 0) with
        | true =>
          have j1 : (((j + 1 : Nat) : Int) == 1) = true := by have := of_decide_eq_true j0; subst this; rfl
          simp (disch := first | omega | (simp only [ln]; first | done | omega)) only [walkAll, walkL, walkK, wk, E, Nat.reduceEqDiff, Nat.reduceAdd, Nat.reduceSub, Nat.reduceLeDiff, Int.reduceLT, Int.reduceLE, Int.reduceAdd, Int.reduceSub, Int.reduceToNat, ↓reduceIte, q, hln, j1]
          exact hr _ _ (by simp only [rightF, hj, n1, qn, j0, Bool.and_false, Bool.false_and, Bool.and_true, Bool.true_and, Bool.not_true, Bool.not_false]) (by repeat first | exact Grown.refl _ | assumption | apply Grown.pushV | apply Grown.pushR | (refine Grown.setV ?_ (by first | omega | (simp only [nvsR]; first | done | omega))) | (refine Grown.setOld ‹_› (by first | omega | (simp only [nvsR]; first | done | omega)) _) | (refine Grown.setOld0 ?_ (by first | omega | (simp only [nvsR]; first | done | omega)) _)) (by simp [put])
        | false =>
          have j1 : (((j + 1 : Nat) : Int) == 1) = false := by have := of_decide_eq_false j0; rw [beq_eq_false_iff_ne]; omega
          simp (disch := first | omega | (simp only [ln]; first | done | omega)) only [walkAll, walkL, walkK, wk, E, Nat.reduceEqDiff, Nat.reduceAdd, Nat.reduceSub, Nat.reduceLeDiff, Int.reduceLT, Int.reduceLE, Int.reduceAdd, Int.reduceSub, Int.reduceToNat, ↓reduceIte, q, hln, j1]
          cases n3 : decide (32 < ((j + 1 : Nat) : Int)) with
          | true =>
            have m3 : decide (j + 1 ≤ 32) = false := decide_eq_false (by have := of_decide_eq_true n3; omega)
            simp (disch := first | omega | (simp only [ln]; first | done | omega)) only [walkAll, walkL, walkK, wk, E, Nat.reduceEqDiff, Nat.reduceAdd, Nat.reduceSub, Nat.reduceLeDiff, Int.reduceLT, Int.reduceLE, Int.reduceAdd, Int.reduceSub, Int.reduceToNat, ↓reduceIte, n3]
            exact hr _ _ (by simp only [rightF, hj, n1, m3, qn, j0, Bool.and_false, Bool.false_and, Bool.and_true, Bool.true_and, Bool.not_true, Bool.not_false]) (by repeat first | exact Grown.refl _ | assumption | apply Grown.pushV | apply Grown.pushR | (refine Grown.setV ?_ (by first | omega | (simp only [nvsR]; first | done | omega))) | (refine Grown.setOld ‹_› (by first | omega | (simp only [nvsR]; first | done | omega)) _) | (refine Grown.setOld0 ?_ (by first | omega | (simp only [nvsR]; first | done | omega)) _)) (by simp [put])
          | false =>
            have m3 : decide (j + 1 ≤ 32) = true := decide_eq_true (by have := of_decide_eq_false n3; omega)
            simp (disch := first | omega | (simp only [ln]; first | done | omega)) only [walkAll, walkL, walkK, wk, E, Nat.reduceEqDiff, Nat.reduceAdd, Nat.reduceSub, Nat.reduceLeDiff, Int.reduceLT, Int.reduceLE, Int.reduceAdd, Int.reduceSub, Int.reduceToNat, ↓reduceIte, n3]
            refine cname_c n.name hnb.1 ?_
            cases n4 : nameC n.name with
            | false =>
              simp (disch := first | omega | (simp only [ln]; first | done | omega)) only [walkAll, walkL, walkK, wk, E, Nat.reduceEqDiff, Nat.reduceAdd, Nat.reduceSub, Nat.reduceLeDiff, Int.reduceLT, Int.reduceLE, Int.reduceAdd, Int.reduceSub, Int.reduceToNat, ↓reduceIte, n4, Bool.not_false]
              exact hr _ _ (by simp only [rightF, hj, n1, m3, nodeC, n4, qn, j0, Bool.and_false, Bool.false_and, Bool.and_true, Bool.true_and, Bool.not_true, Bool.not_false]) (by repeat first | exact Grown.refl _ | assumption | apply Grown.pushV | apply Grown.pushR | (refine Grown.setV ?_ (by first | omega | (simp only [nvsR]; first | done | omega))) | (refine Grown.setOld ‹_› (by first | omega | (simp only [nvsR]; first | done | omega)) _) | (refine Grown.setOld0 ?_ (by first | omega | (simp only [nvsR]; first | done | omega)) _)) (by simp [put])
            | true =>
              simp (disch := first | omega | (simp only [ln]; first | done | omega)) only [walkAll, walkL, walkK, wk, E, Nat.reduceEqDiff, Nat.reduceAdd, Nat.reduceSub, Nat.reduceLeDiff, Int.reduceLT, Int.reduceLE, Int.reduceAdd, Int.reduceSub, Int.reduceToNat, ↓reduceIte, n4, Bool.not_true]
              refine attrs_c n.attrs n.nn hnb.2.2 ?_
              cases n5 : attrsF [] n.attrs with
              | false =>
                simp (disch := first | omega | (simp only [ln]; first | done | omega)) only [walkAll, walkL, walkK, wk, E, Nat.reduceEqDiff, Nat.reduceAdd, Nat.reduceSub, Nat.reduceLeDiff, Int.reduceLT, Int.reduceLE, Int.reduceAdd, Int.reduceSub, Int.reduceToNat, ↓reduceIte, n5, Bool.not_false]
                exact hr _ _ (by simp only [rightF, hj, n1, m3, nodeC, n4, n5, qn, j0, Bool.and_false, Bool.false_and, Bool.and_true, Bool.true_and, Bool.not_true, Bool.not_false]) (by repeat first | exact Grown.refl _ | assumption | apply Grown.pushV | apply Grown.pushR | (refine Grown.setV ?_ (by first | omega | (simp only [nvsR]; first | done | omega))) | (refine Grown.setOld ‹_› (by first | omega | (simp only [nvsR]; first | done | omega)) _) | (refine Grown.setOld0 ?_ (by first | omega | (simp only [nvsR]; first | done | omega)) _)) (by simp [put])
              | true =>
                simp (disch := first | omega | (simp only [ln]; first | done | omega)) only [walkAll, walkL, walkK, wk, E, Nat.reduceEqDiff, Nat.reduceAdd, Nat.reduceSub, Nat.reduceLeDiff, Int.reduceLT, Int.reduceLE, Int.reduceAdd, Int.reduceSub, Int.reduceToNat, ↓reduceIte, n5, Bool.not_true]
                refine Utf8_c n.text (by have := hnb.2.1; omega) ?_
                rw [utf8S_B]
                cases n6 : utfB n.text with
                | false =>
                  simp (disch := first | omega | (simp only [ln]; first | done | omega)) only [walkAll, walkL, walkK, wk, E, Nat.reduceEqDiff, Nat.reduceAdd, Nat.reduceSub, Nat.reduceLeDiff, Int.reduceLT, Int.reduceLE, Int.reduceAdd, Int.reduceSub, Int.reduceToNat, ↓reduceIte, n6, Bool.not_false]
                  exact hr _ _ (by simp only [rightF, hj, n1, m3, nodeC, n4, n5, n6, qn, j0, Bool.and_false, Bool.false_and, Bool.and_true, Bool.true_and, Bool.not_true, Bool.not_false]) (by repeat first | exact Grown.refl _ | assumption | apply Grown.pushV | apply Grown.pushR | (refine Grown.setV ?_ (by first | omega | (simp only [nvsR]; first | done | omega))) | (refine Grown.setOld ‹_› (by first | omega | (simp only [nvsR]; first | done | omega)) _) | (refine Grown.setOld0 ?_ (by first | omega | (simp only [nvsR]; first | done | omega)) _)) (by simp [put])
                | true =>
                  simp (disch := first | omega | (simp only [ln]; first | done | omega)) only [walkAll, walkL, walkK, wk, E, Nat.reduceEqDiff, Nat.reduceAdd, Nat.reduceSub, Nat.reduceLeDiff, Int.reduceLT, Int.reduceLE, Int.reduceAdd, Int.reduceSub, Int.reduceToNat, ↓reduceIte, n6, Bool.not_true, q]
                  have hpn : ∃ k : Nat, n.parent = (k : Int) ∧ k < l.length := by
                    have hpa : way[j]? = some n.parent := by
                      rw [← hj, List.getElem?_eq_getElem (by omega)]; simp
                    have h1 := hwx n.parent (List.mem_of_getElem? hpa)
                    have h2 : 0 ≤ n.parent := by
                      refine hwp n.parent ?_
                      have hj0 : j ≠ 0 := by simpa using j0
                      obtain ⟨j', hj'⟩ : ∃ j', j = j' + 1 := ⟨j - 1, by omega⟩
                      rw [hj'] at hpa
                      exact List.mem_of_getElem? (i := j') (by rw [List.getElem?_drop, Nat.add_comm]; exact hpa)
                    exact ⟨n.parent.toNat, by omega, by omega⟩
                  obtain ⟨k, hk1, hk2⟩ := hpn
                  obtain ⟨np, hnp⟩ : ∃ np, l[k]? = some np := ⟨l[k], List.getElem?_eq_getElem hk2⟩
                  have htx : textAt l n.parent = np.text := by unfold textAt; rw [hk1, Int.toNat_natCast, hnp]
                  obtain ⟨p2, hp2, hpt2⟩ := (hvr (τ.pushV (.cells 40 [.int .i64 n.parent, .str n.name, .str n.text, lsq n.nn (n.attrs.map atc)]))).at (i := k) (c := np.c) (by rw [List.getElem?_map, hnp]; rfl) .i64
                  obtain ⟨p3, hp3, hld3⟩ := hpt2.fld 2 (.str np.text) rfl
                  rw [← hk1] at hp2
                  simp (disch := first | omega | (simp only [ln]; first | done | omega)) only [walkAll, walkL, walkK, wk, E, Nat.reduceEqDiff, Nat.reduceAdd, Nat.reduceSub, Nat.reduceLeDiff, Int.reduceLT, Int.reduceLE, Int.reduceAdd, Int.reduceSub, Int.reduceToNat, ↓reduceIte, h0, hp2, hp3, hld3]
                  cases n7 : (np.text != []) with
                  | true =>
                    have n7' : (np.text == []) = false := by rw [bne, Bool.not_eq_true'] at n7; exact n7
                    simp (disch := first | omega | (simp only [ln]; first | done | omega)) only [walkAll, walkL, walkK, wk, E, Nat.reduceEqDiff, Nat.reduceAdd, Nat.reduceSub, Nat.reduceLeDiff, Int.reduceLT, Int.reduceLE, Int.reduceAdd, Int.reduceSub, Int.reduceToNat, ↓reduceIte, n7', n7]
                    exact hr _ _ (by simp only [rightF, hj, n1, m3, nodeC, n4, n5, n6, htx, n7, qn, j0, Bool.and_false, Bool.false_and, Bool.and_true, Bool.true_and, Bool.not_true, Bool.not_false]) (by repeat first | exact Grown.refl _ | assumption | apply Grown.pushV | apply Grown.pushR | (refine Grown.setV ?_ (by first | omega | (simp only [nvsR]; first | done | omega))) | (refine Grown.setOld ‹_› (by first | omega | (simp only [nvsR]; first | done | omega)) _) | (refine Grown.setOld0 ?_ (by first | omega | (simp only [nvsR]; first | done | omega)) _)) (by simp [put])
                  | false =>
                    have n7' : (np.text == []) = true := by rw [bne, Bool.not_eq_false'] at n7; exact n7
                    simp (disch := first | omega | (simp only [ln]; first | done | omega)) only [walkAll, walkL, walkK, wk, E, Nat.reduceEqDiff, Nat.reduceAdd, Nat.reduceSub, Nat.reduceLeDiff, Int.reduceLT, Int.reduceLE, Int.reduceAdd, Int.reduceSub, Int.reduceToNat, ↓reduceIte, n7', n7]
                    have hO2 : Own 3 1 (τ.pushV (.cells 40 [.int .i64 n.parent, .str n.name, .str n.text, lsq n.nn (n.attrs.map atc)])) v' ((way.take (j + 1)).map wac) ρ := hO'
                    refine own_app (e := 3) (z := 1) (b := 8) (c := wac i) hO2 rfl rfl (by rw [List.length_map, List.length_take]; omega) (fun v2 σ2 ρ2 hO3 hb2 => ?_)
                    simp (disch := first | omega | (simp only [ln]; first | done | omega)) only [walkAll, walkL, walkK, wk, E, Nat.reduceEqDiff, Nat.reduceAdd, Nat.reduceSub, Nat.reduceLeDiff, Int.reduceLT, Int.reduceLE, Int.reduceAdd, Int.reduceSub, Int.reduceToNat, ↓reduceIte, h26, w26]
                    have e2 : (way.take (j + 1)).map wac ++ [wac i] = (way.take (j + 1) ++ [(i : Int)]).map wac := by simp
                    rw [e2] at hO3
                    have hg2 : Grown σ σ2 := hb2.grown (.pushV hg) hρ
                    have hρ2 : ∀ k, ρ2 = some k → nrs σ ≤ k := fun k hk => by
                      have := hg.nrs
                      rcases hb2.new with e1 | ⟨r', e1, e2⟩
                      · exact hρ k (e1.symm.trans hk)
                      · rw [e1] at hk; cases hk; simp only [nvsR] at e2; omega
                    have htl : (way.take (j + 1)).length = j + 1 := by rw [List.length_take]; omega
                    have hs : rightF l i way (n :: rest) = rightF l (i + 1) (way.take (j + 1) ++ [(i : Int)]) rest := by
                      simp only [rightF, hj, n1, m3, nodeC, n4, n5, n6, qn, j0, htx, n7, Bool.and_false, Bool.false_and, Bool.and_true, Bool.true_and, Bool.not_true, Bool.not_false]
                    rw [hs] at hx hr
                    refine ih (i + 1) _ v2 ρ2 σ2 _ hd' hg2 hO3 hρ2 (by simp) (by rw [List.length_append, htl]; simp; omega) (fun h => by omega) (fun x hx => ?_) (fun x hx => ?_) (by simp [put, h0]) (by simp [put]) (by simp [put, h24]) (by simp [put, h25]) (by simp [put]) hx hr
                    · rcases List.mem_append.1 hx with hx | hx
                      · have := hwx x (List.mem_of_mem_take hx); omega
                      · have : x = (i : Int) := by simpa using hx
                        omega
                    · have e3 : (way.take (j + 1) ++ [(i : Int)]).drop 1 = (way.take (j + 1)).drop 1 ++ [(i : Int)] := by rw [List.drop_append_of_le_length (by omega)]
                      rw [e3] at hx
                      rcases List.mem_append.1 hx with hx | hx
                      · refine hwp x ?_
                        rw [List.drop_take] at hx
                        exact List.mem_of_mem_take hx
                      · have : x = (i : Int) := by simpa using hx
                        omega
theorem Right_c (l : List Nd) (v0 : AV) (hvr : ∀ τ, Rd 4 τ v0 (l.map Nd.c)) (hln0 : l.length < 1000000000) (hb : ∀ n ∈ l, NdB n) (h : K (.bool (rightS l)) σ) : ACalls Tryz.prog (gD m) 42 [v0] σ K := by
  refine ACalls.close σ _ (.refl σ) (by simp only [dataR]) ?_ h
  have hln := (hvr σ).len
  rw [List.length_map] at hln
  refine ACalls_fn tok fm (fk42 _) ?_
  cases l with
  | nil =>
    have e0 : (((0 : Nat) : Int) == 0) = true := rfl
    simp (disch := first | omega | (simp only [ln]; first | done | omega)) only [walkAll, walkL, walkK, wk, E, Nat.reduceEqDiff, Nat.reduceAdd, Nat.reduceSub, Nat.reduceLeDiff, Int.reduceLT, Int.reduceLE, Int.reduceAdd, Int.reduceSub, Int.reduceToNat, ↓reduceIte, c42, hln, List.length_nil, e0]
    exact ⟨.refl _, .inl rfl⟩
  | cons n r =>
    rw [List.length_cons] at hln
    have e0 : (((r.length + 1 : Nat) : Int) == 0) = false := by rw [beq_eq_false_iff_ne]; omega
    cases e1 : decide ((500 : Int) < ((r.length + 1 : Nat) : Int)) with
    | true =>
      have m1 : decide ((n :: r).length ≤ 500) = false := decide_eq_false (by have := of_decide_eq_true e1; rw [List.length_cons]; omega)
      simp (disch := first | omega | (simp only [ln]; first | done | omega)) only [walkAll, walkL, walkK, wk, E, Nat.reduceEqDiff, Nat.reduceAdd, Nat.reduceSub, Nat.reduceLeDiff, Int.reduceLT, Int.reduceLE, Int.reduceAdd, Int.reduceSub, Int.reduceToNat, ↓reduceIte, c42, hln, e0, e1]
      refine ⟨.refl _, .inl ?_⟩
      simp only [rightS, m1, Bool.false_and, Bool.and_false]
    | false =>
      have hle : (n :: r).length ≤ 500 := by have := of_decide_eq_false e1; rw [List.length_cons]; omega
      have m1 : decide ((n :: r).length ≤ 500) = true := decide_eq_true hle
      obtain ⟨p, hp, hpt⟩ := (hvr σ).at (i := 0) (c := n.c) rfl .i64
      have hp' : ixsX 4 σ v0 (.int .i64 0) = some p := hp
      obtain ⟨q, hq, hld⟩ := hpt.fld 0 (.int .i64 n.parent) rfl
      cases e2 : (n.parent == -1) with
      | false =>
        have e2' : (n.parent != -1) = true := by rw [bne, e2]; rfl
        simp (disch := first | omega | (simp only [ln]; first | done | omega)) only [walkAll, walkL, walkK, wk, E, Nat.reduceEqDiff, Nat.reduceAdd, Nat.reduceSub, Nat.reduceLeDiff, Int.reduceLT, Int.reduceLE, Int.reduceAdd, Int.reduceSub, Int.reduceToNat, ↓reduceIte, c42, hln, e0, e1, hp', hq, hld, e2']
        refine ⟨.refl _, .inl ?_⟩
        simp only [rightS, e2, Bool.false_and, Bool.and_false]
      | true =>
        have e2' : (n.parent != -1) = false := by rw [bne, e2]; rfl
        have hS : rightS (n :: r) = rightF (n :: r) 0 [-1] (n :: r) := by
          simp only [rightS, m1, e2, Bool.true_and]; rfl
        simp (disch := first | omega | (simp only [ln]; first | done | omega)) only [walkAll, walkL, walkK, wk, E, Nat.reduceEqDiff, Nat.reduceAdd, Nat.reduceSub, Nat.reduceLeDiff, Int.reduceLT, Int.reduceLE, Int.reduceAdd, Int.reduceSub, Int.reduceToNat, ↓reduceIte, c42, hln, e0, e1, hp', hq, hld, e2']
        have hO : Own 3 1 (σ.pushR ⟨3, 1, 0, [[.int .i64 (-1)]]⟩) (.os (nrs σ) 0 1) (([-1] : List Int).map wac) (some (nrs σ)) :=
          ⟨by simp [wac], .inr ⟨nrs σ, ⟨3, 1, 0, [[.int .i64 (-1)]]⟩, rfl, rfl, by simp [getR, nrs, St.pushR], by simp, rfl, rfl, rfl, rfl⟩⟩
        refine right_loop (n :: r) v0 hvr hle hb (n :: r) 0 [-1] _ _ _ _ rfl (.pushR (.refl σ)) hO (fun k hk => by cases hk; exact Nat.le_refl _) (by simp) (by simp) (fun _ => rfl) (by simp) (by simp) (by simp [put, E]) (by simp [put, E]) (by simp [put, E]) (by simp [put, E]) (by simp [put, E]) (fun e' τ' hF hg => ?_) (fun e' τ' hF hg h2 => ?_)
        · simp (disch := first | omega | (simp only [ln]; first | done | omega)) only [walkAll, walkL, walkK, wk, E, Nat.reduceEqDiff, Nat.reduceAdd, Nat.reduceSub, Nat.reduceLeDiff, Int.reduceLT, Int.reduceLE, Int.reduceAdd, Int.reduceSub, Int.reduceToNat, ↓reduceIte]
          rw [hS, hF]
          exact ⟨hg, .inl rfl⟩
        · simp (disch := first | omega | (simp only [ln]; first | done | omega)) only [walkAll, walkL, walkK, wk, E, Nat.reduceEqDiff, Nat.reduceAdd, Nat.reduceSub, Nat.reduceLeDiff, Int.reduceLT, Int.reduceLE, Int.reduceAdd, Int.reduceSub, Int.reduceToNat, ↓reduceIte, h2]
          rw [hS, hF]
          exact ⟨hg, .inl rfl⟩
end
end Go.Ab.Sz.K
namespace Go.Ab.Sz.K
open Go Go.Ab Go.Proofs Go.RowKit
set_option maxRecDepth 40000
set_option linter.unusedSimpArgs false
/-- But for a variable and a row all that was there is as it was. -/
structure ButG (σ σ' : St) (b : Nat) (ρ ρ' : Option Nat) : Prop where
  nv : nvs σ ≤ nvs σ'
  var : ∀ k, k < nvs σ → k ≠ b → getV σ' k = getV σ k
  grow : nrs σ ≤ nrs σ'
  row : ∀ r, some r ≠ ρ → r < nrs σ → getR σ' r = getR σ r
  new : ρ' = ρ ∨ ∃ r, ρ' = some r ∧ nrs σ ≤ r
theorem ButG.refl (σ : St) (b : Nat) (ρ : Option Nat) : ButG σ σ b ρ ρ := ⟨Nat.le_refl _, fun _ _ _ => rfl, Nat.le_refl _, fun _ _ _ => rfl, .inl rfl⟩
theorem But.g {σ σ' : St} {b : Nat} {ρ ρ' : Option Nat} (h : But σ σ' b ρ ρ') : ButG σ σ' b ρ ρ' := ⟨by rw [h.nv]; exact Nat.le_refl _, fun k _ hk => h.var k hk, h.grow, h.row, h.new⟩
theorem ButG.trans {σ σ1 σ2 : St} {b : Nat} {ρ ρ1 ρ2 : Option Nat} (h : ButG σ σ1 b ρ ρ1) (k : ButG σ1 σ2 b ρ1 ρ2) : ButG σ σ2 b ρ ρ2 := {
  nv := Nat.le_trans h.nv k.nv
  var := fun j hj hb => (k.var j (Nat.lt_of_lt_of_le hj h.nv) hb).trans (h.var j hj hb)
  grow := Nat.le_trans h.grow k.grow
  row := fun r hr hlt => by
    have hne : some r ≠ ρ1 := fun e => by
      rcases h.new with e1 | ⟨r', e1, e2⟩
      · exact hr (e.trans e1)
      · rw [e1] at e; cases e; omega
    rw [k.row r hne (Nat.lt_of_lt_of_le hlt h.grow), h.row r hr hlt]
  new := by
    rcases k.new with e | ⟨r, e, hle⟩
    · rw [e]; exact h.new
    · exact .inr ⟨r, e, Nat.le_trans h.grow hle⟩ }
theorem ButG.pushV {σ σ1 : St} {b : Nat} {ρ ρ1 : Option Nat} (h : ButG σ σ1 b ρ ρ1) (x : VB) : ButG σ (σ1.pushV x) b ρ ρ1 := h.trans ⟨by simp [nvs, St.pushV], fun k hk _ => by
  simp only [getV, St.pushV, nvs] at *
  rw [List.getElem?_append_left hk], Nat.le_refl _, fun _ _ _ => rfl, .inl rfl⟩
theorem ButG.pushR {σ σ1 : St} {b : Nat} {ρ ρ1 : Option Nat} (h : ButG σ σ1 b ρ ρ1) (x : Row) : ButG σ (σ1.pushR x) b ρ ρ1 := h.trans ⟨Nat.le_refl _, fun _ _ _ => rfl, by simp [nrs, St.pushR], fun r _ hr => by
  simp only [getR, St.pushR, nrs] at *
  rw [List.getElem?_append_left hr], .inl rfl⟩
theorem ButG.setV {σ σ1 : St} {b : Nat} {ρ ρ1 : Option Nat} (h : ButG σ σ1 b ρ ρ1) {j : Nat} (hj : nvs σ ≤ j) (x : VB) : ButG σ (σ1.setV j x) b ρ ρ1 := {
  nv := by have := h.nv; simp only [nvsR]; omega
  var := fun k hk hb => by
    rw [← h.var k hk hb]
    simp only [getV, St.setV]
    rw [List.getElem?_set_ne (by omega)]
  grow := by have := h.grow; simp only [nvsR]; omega
  row := h.row
  new := h.new }
theorem BldW.pushV {σ : St} {b : Nat} {x0 : AV} {l : List UInt8} {ρ : Option Nat} (h : BldW σ b x0 l ρ) (v : VB) : BldW (σ.pushV v) b x0 l ρ := by
  obtain ⟨a, buf, hv, ha, hb⟩ := h
  refine ⟨a, buf, ?_, ha, hb⟩
  have := getV_lt hv
  simp only [getV, St.pushV, nvs] at *
  rw [List.getElem?_append_left this]; exact hv
theorem BldW.pushR {σ : St} {b : Nat} {x0 : AV} {l : List UInt8} {ρ : Option Nat} (h : BldW σ b x0 l ρ) (y : Row) : BldW (σ.pushR y) b x0 l ρ := by
  obtain ⟨a, buf, hv, ha, hb⟩ := h
  refine ⟨a, buf, hv, ha, ?_⟩
  rcases hb with hb | ⟨h0, r, row, h1, h2, h3, h4⟩
  · exact .inl hb
  · exact .inr ⟨h0, r, row, h1, h2, getR_push h3 y, h4⟩
theorem BldW.setV {σ : St} {b : Nat} {x0 : AV} {l : List UInt8} {ρ : Option Nat} (h : BldW σ b x0 l ρ) {k : Nat} (hk : k ≠ b) (v : VB) : BldW (σ.setV k v) b x0 l ρ := by
  obtain ⟨a, buf, hv, ha, hb⟩ := h
  refine ⟨a, buf, ?_, ha, hb⟩
  simp only [getV, St.setV] at *
  rw [List.getElem?_set_ne hk]; exact hv
theorem BldW.lt {σ : St} {b : Nat} {x0 : AV} {l : List UInt8} {r : Nat} (h : BldW σ b x0 l (some r)) : r < nrs σ := by
  obtain ⟨a, buf, hv, ha, hb⟩ := h
  rcases hb with ⟨_, _, hb⟩ | ⟨h0, r', row, h1, h2, h3, h4⟩
  · cases hb
  · cases h1; exact getR_lt h3
def stc (s : List UInt8) : List AV := [.str s]
section
variable {m : Int} {σ : St} {K : AV → St → Prop}
theorem put_loop (b : Nat) (x0 : AV) (ss : List (List UInt8)) (rx : Nat) (hl : ss.length < 1000000) {Q : EQ} : ∀ (rest : List (List UInt8)) (i : Nat) (out : List UInt8) (ρ : Option Nat) (τ : St) (e : Env), ss.drop i = rest → BldW τ b x0 out ρ → out.length + rest.flatten.length ≤ 140737488355328 →
    getR τ rx = some (some ⟨9, 1, 0, ss.map stc⟩) → some rx ≠ ρ → e 0 = some (.vp b 0) → e 6 = some (.os rx 0 ss.length) → e 7 = some (.int .i64 ss.length) → e 8 = some (.int .i64 i) →
    (∀ e' τ' ρ', BldW τ' b x0 (out ++ rest.flatten) ρ' → ButG τ τ' b ρ ρ' → Q (.exit 0) e' τ') → LoopC Tryz.prog tt (gD m) l67_0 Q e τ := by
  intro rest
  induction rest with
  | nil =>
    intro i out ρ τ e hd hB hle hr hne h0 h6 h7 h8 hx
    have hi : ss.length ≤ i := by simpa using hd
    have d : decide ((i : Int) < (ss.length : Int)) = false := decide_eq_false (by omega)
    refine LoopC_unfold tok fm ?_
    simp (disch := first | omega | (simp only [ln]; first | done | omega)) only [walkAll, walkL, walkK, wk, E, Nat.reduceEqDiff, Nat.reduceAdd, Nat.reduceSub, Nat.reduceLeDiff, Int.reduceLT, Int.reduceLE, Int.reduceAdd, Int.reduceSub, Int.reduceToNat, ↓reduceIte, l67_0x, l67_0b, h7, h8, d]
    exact hx _ _ ρ (by simpa using hB) (.refl _ _ _)
  | cons s rest ih =>
    intro i out ρ τ e hd hB hle hr hne h0 h6 h7 h8 hx
    obtain ⟨hc, hd'⟩ := drop_cons hd
    have hi := (List.getElem?_eq_some_iff.1 hc).1
    have d : decide ((i : Int) < (ss.length : Int)) = true := decide_eq_true (by omega)
    have hR : Rd 1 τ (.os rx 0 ss.length) (ss.map stc) := ⟨fun c hc => by obtain ⟨a, _, rfl⟩ := List.mem_map.1 hc; rfl, .inr (.inr (.inr ⟨rx, 0, _, by rw [List.length_map], hr, rfl, by rw [List.drop_zero, List.take_of_length_le (by simp)]⟩))⟩
    obtain ⟨q, hq, hpt⟩ := hR.at (i := i) (c := stc s) (by rw [List.getElem?_map, hc]; rfl) .i64
    have hld := hpt.one
    have w8 : IntKind.i64.wrap ((i : Int) + 1) = ((i + 1 : Nat) : Int) := by rw [wrap_i64 _ (by omega) (by omega)]; omega
    simp only [List.flatten_cons, List.length_append] at hle
    refine LoopC_unfold tok fm ?_
    obtain ⟨a, bf, hv, _, _⟩ := id hB
    simp (disch := first | omega | (simp only [ln]; first | done | omega)) only [walkAll, walkL, walkK, wk, E, Nat.reduceEqDiff, Nat.reduceAdd, Nat.reduceSub, Nat.reduceLeDiff, Int.reduceLT, Int.reduceLE, Int.reduceAdd, Int.reduceSub, Int.reduceToNat, ↓reduceIte, l67_0x, l67_0b, h0, h6, h7, h8, d, hq, hld, hv]
    refine wWriteString_c b x0 out s ρ hB (by omega) (fun σ' ρ' hB' hbut => ?_)
    have hrl := getR_lt hr
    simp (disch := first | omega | (simp only [ln]; first | done | omega)) only [walkAll, walkL, walkK, wk, E, Nat.reduceEqDiff, Nat.reduceAdd, Nat.reduceSub, Nat.reduceLeDiff, Int.reduceLT, Int.reduceLE, Int.reduceAdd, Int.reduceSub, Int.reduceToNat, ↓reduceIte, h8, w8]
    refine ih (i + 1) (out ++ s) ρ' σ' _ hd' hB' (by rw [List.length_append]; omega) (by rw [hbut.row rx hne hrl]; exact hr) (fun e => ?_) (by simp [put, putE, h0]) (by simp [put, putE, h6]) (by simp [put, putE, h7]) (by simp [put, putE]) (fun e' τ' ρ2 h1 h2 => hx e' τ' ρ2 (by simpa using h1) ((But.g hbut).trans h2))
    rcases hbut.new with e1 | ⟨r', e1, e2⟩
    · exact hne (e.trans e1)
    · rw [e1] at e; cases e; omega
theorem put_c (b : Nat) (x0 : AV) (ss : List (List UInt8)) (rx : Nat) (hl : ss.length < 1000000) (out : List UInt8) (ρ : Option Nat) (hB : BldW σ b x0 out ρ) (hle : out.length + ss.flatten.length ≤ 140737488355328) (hr : getR σ rx = some (some ⟨9, 1, 0, ss.map stc⟩)) (hne : some rx ≠ ρ)
    (h : ∀ σ' ρ', BldW σ' b x0 (out ++ ss.flatten) ρ' → ButG σ σ' b ρ ρ' → K (.tup []) σ') : ACalls Tryz.prog (gD m) 67 [.vp b 0, .os rx 0 ss.length] σ K := by
  refine ACalls_fn tok fm (fk67 _) ?_
  simp (disch := first | omega | (simp only [ln]; first | done | omega)) only [walkAll, walkL, walkK, wk, E, Nat.reduceEqDiff, Nat.reduceAdd, Nat.reduceSub, Nat.reduceLeDiff, Int.reduceLT, Int.reduceLE, Int.reduceAdd, Int.reduceSub, Int.reduceToNat, ↓reduceIte, c67]
  refine put_loop b x0 ss rx hl ss 0 out ρ σ _ rfl hB hle hr hne (by simp [put, E]) (by simp [put, E]) (by simp [put, E]) (by simp [put, E]) (fun e' τ' ρ' h1 h2 => ?_)
  simp (disch := first | omega | (simp only [ln]; first | done | omega)) only [walkAll, walkL, walkK, wk, E, Nat.reduceEqDiff, Nat.reduceAdd, Nat.reduceSub, Nat.reduceLeDiff, Int.reduceLT, Int.reduceLE, Int.reduceAdd, Int.reduceSub, Int.reduceToNat, ↓reduceIte]
  exact h _ ρ' h1 h2
theorem each_loop (b : Nat) (x0 : AV) (w : Nat → List UInt8) (ks : List Nat) (hl : ks.length < 1000000) (hnode : ∀ i ∈ ks, ∀ (out : List UInt8) (ρ : Option Nat) (τ : St) (K : AV → St → Prop), BldW τ b x0 out ρ → out.length + (w i).length ≤ 140737488355328 → (∀ σ' ρ', BldW σ' b x0 (out ++ w i) ρ' → ButG τ σ' b ρ ρ' → K (.tup []) σ') → ACalls Tryz.prog (gD m) 43 [.vp b 0, .int .i64 i] τ K) {Q : EQ} :
    ∀ (rest : List Nat) (i : Nat) (out : List UInt8) (ρ : Option Nat) (τ : St) (e : Env), ks.drop i = rest → BldW τ b x0 out ρ → out.length + (rest.flatMap w).length ≤ 140737488355328 → e 1 = some (.fn (.func 43) [.vp b 0] []) → e 6 = some (lsv (ks.map ixc)) → e 7 = some (.int .i64 ks.length) → e 8 = some (.int .i64 i) →
    (∀ e' τ' ρ', BldW τ' b x0 (out ++ rest.flatMap w) ρ' → ButG τ τ' b ρ ρ' → Q (.exit 0) e' τ') → LoopC Tryz.prog tt (gD m) l69_0 Q e τ := by
  intro rest
  induction rest with
  | nil =>
    intro i out ρ τ e hd hB hle h1 h6 h7 h8 hx
    have hi : ks.length ≤ i := by simpa using hd
    have d : decide ((i : Int) < (ks.length : Int)) = false := decide_eq_false (by omega)
    refine LoopC_unfold tok fm ?_
    simp (disch := first | omega | (simp only [ln]; first | done | omega)) only [walkAll, walkL, walkK, wk, E, Nat.reduceEqDiff, Nat.reduceAdd, Nat.reduceSub, Nat.reduceLeDiff, Int.reduceLT, Int.reduceLE, Int.reduceAdd, Int.reduceSub, Int.reduceToNat, ↓reduceIte, l69_0x, l69_0b, h7, h8, d]
    exact hx _ _ ρ (by simpa using hB) (.refl _ _ _)
  | cons k rest ih =>
    intro i out ρ τ e hd hB hle h1 h6 h7 h8 hx
    obtain ⟨hc, hd'⟩ := drop_cons hd
    have hi := (List.getElem?_eq_some_iff.1 hc).1
    have d : decide ((i : Int) < (ks.length : Int)) = true := decide_eq_true (by omega)
    have hR : Rd 1 τ (lsv (ks.map ixc)) (ks.map ixc) := rd_lsv (fun c hc => by obtain ⟨a, _, rfl⟩ := List.mem_map.1 hc; rfl) τ
    obtain ⟨q, hq, hpt⟩ := hR.at (i := i) (c := ixc k) (by rw [List.getElem?_map, hc]; rfl) .i64
    have hld := hpt.one
    have w8 : IntKind.i64.wrap ((i : Int) + 1) = ((i + 1 : Nat) : Int) := by rw [wrap_i64 _ (by omega) (by omega)]; omega
    simp only [List.flatMap_cons, List.length_append] at hle
    refine LoopC_unfold tok fm ?_
    simp (disch := first | omega | (simp only [ln]; first | done | omega)) only [walkAll, walkL, walkK, wk, E, Nat.reduceEqDiff, Nat.reduceAdd, Nat.reduceSub, Nat.reduceLeDiff, Int.reduceLT, Int.reduceLE, Int.reduceAdd, Int.reduceSub, Int.reduceToNat, ↓reduceIte, l69_0x, l69_0b, h1, h6, h7, h8, d, hq, hld]
    refine hnode k (List.mem_of_getElem? hc) out ρ τ _ hB (by omega) (fun σ' ρ' hB' hbut => ?_)
    simp (disch := first | omega | (simp only [ln]; first | done | omega)) only [walkAll, walkL, walkK, wk, E, Nat.reduceEqDiff, Nat.reduceAdd, Nat.reduceSub, Nat.reduceLeDiff, Int.reduceLT, Int.reduceLE, Int.reduceAdd, Int.reduceSub, Int.reduceToNat, ↓reduceIte, h8, w8]
    exact ih (i + 1) (out ++ w k) ρ' σ' _ hd' hB' (by rw [List.length_append]; omega) (by simp [put, putE, h1]) (by simp [put, putE, h6]) (by simp [put, putE, h7]) (by simp [put, putE]) (fun e' τ' ρ2 g1 g2 => hx e' τ' ρ2 (by simpa using g1) (hbut.trans g2))
theorem each_c (b : Nat) (x0 : AV) (w : Nat → List UInt8) (ks : List Nat) (hl : ks.length < 1000000) (hnode : ∀ i ∈ ks, ∀ (out : List UInt8) (ρ : Option Nat) (τ : St) (K : AV → St → Prop), BldW τ b x0 out ρ → out.length + (w i).length ≤ 140737488355328 → (∀ σ' ρ', BldW σ' b x0 (out ++ w i) ρ' → ButG τ σ' b ρ ρ' → K (.tup []) σ') → ACalls Tryz.prog (gD m) 43 [.vp b 0, .int .i64 i] τ K)
    (out : List UInt8) (ρ : Option Nat) (hB : BldW σ b x0 out ρ) (hle : out.length + (ks.flatMap w).length ≤ 140737488355328) (h : ∀ σ' ρ', BldW σ' b x0 (out ++ ks.flatMap w) ρ' → ButG σ σ' b ρ ρ' → K (.tup []) σ') :
    ACalls Tryz.prog (gD m) 69 [lsv (ks.map ixc), .fn (.func 43) [.vp b 0] []] σ K := by
  have hln := (rd_lsv (z := 1) (l := ks.map ixc) (fun c hc => by obtain ⟨a, _, rfl⟩ := List.mem_map.1 hc; rfl) σ).len
  rw [List.length_map] at hln
  refine ACalls_fn tok fm (fk69 _) ?_
  simp (disch := first | omega | (simp only [ln]; first | done | omega)) only [walkAll, walkL, walkK, wk, E, Nat.reduceEqDiff, Nat.reduceAdd, Nat.reduceSub, Nat.reduceLeDiff, Int.reduceLT, Int.reduceLE, Int.reduceAdd, Int.reduceSub, Int.reduceToNat, ↓reduceIte, c69, hln]
  refine each_loop b x0 w ks hl hnode ks 0 out ρ σ _ rfl hB hle (by simp [put, E]) (by simp [put, E]) (by simp [put, E]) (by simp [put, E]) (fun e' τ' ρ' h1 h2 => ?_)
  simp (disch := first | omega | (simp only [ln]; first | done | omega)) only [walkAll, walkL, walkK, wk, E, Nat.reduceEqDiff, Nat.reduceAdd, Nat.reduceSub, Nat.reduceLeDiff, Int.reduceLT, Int.reduceLE, Int.reduceAdd, Int.reduceSub, Int.reduceToNat, ↓reduceIte]
  exact h _ ρ' h1 h2
end
end Go.Ab.Sz.K
namespace Go.Ab.Sz.K
open Go Go.Ab Go.Proofs Go.RowKit
set_option maxRecDepth 40000
set_option linter.unusedSimpArgs false
section
variable {m : Int} {σ : St} {K : AV → St → Prop}
theorem row_new (σ : St) (ss : List (List UInt8)) : getR (σ.pushR ⟨9, 1, 0, ss.map stc⟩) (nrs σ) = some (some ⟨9, 1, 0, ss.map stc⟩) := by simp [getR, nrs, St.pushR]
theorem row_new2 (σ : St) (X : VB) (ss : List (List UInt8)) : getR ((σ.pushV X).pushR ⟨9, 1, 0, ss.map stc⟩) (nrs σ) = some (some ⟨9, 1, 0, ss.map stc⟩) := by simp [getR, nrs, St.pushR, St.pushV]
theorem bldw_ne {b : Nat} {x0 : AV} {l : List UInt8} {ρ : Option Nat} (h : BldW σ b x0 l ρ) : some (nrs σ) ≠ ρ := fun e => by
  rw [← e] at h
  have := BldW.lt h
  omega
theorem nattr_loop (b : Nat) (x0 : AV) (al : List (List UInt8 × List UInt8)) (nn : Bool) (hb : AtB al) {Q : EQ} : ∀ (rest : List (List UInt8 × List UInt8)) (i : Nat) (out : List UInt8) (ρ : Option Nat) (τ : St) (e : Env), al.drop i = rest → BldW τ b x0 out ρ → out.length + (rest.flatMap attrT).length ≤ 140737488355328 →
    e 0 = some (.vp b 0) → e 21 = some (lsq nn (al.map atc)) → e 22 = some (.int .i64 al.length) → e 23 = some (.int .i64 i) →
    (∀ e' τ' ρ', BldW τ' b x0 (out ++ rest.flatMap attrT) ρ' → ButG τ τ' b ρ ρ' → e' 0 = e 0 → e' 1 = e 1 → e' 4 = e 4 → Q (.exit 0) e' τ') → LoopC Tryz.prog tt (gD m) l43_0 Q e τ := by
  intro rest
  induction rest with
  | nil =>
    intro i out ρ τ e hd hB hle h0 h21 h22 h23 hx
    have hi : al.length ≤ i := by simpa using hd
    have d : decide ((i : Int) < (al.length : Int)) = false := decide_eq_false (by omega)
    refine LoopC_unfold tok fm ?_
    simp (disch := first | omega | (simp only [ln]; first | done | omega)) only [walkAll, walkL, walkK, wk, E, Nat.reduceEqDiff, Nat.reduceAdd, Nat.reduceSub, Nat.reduceLeDiff, Int.reduceLT, Int.reduceLE, Int.reduceAdd, Int.reduceSub, Int.reduceToNat, ↓reduceIte, l43_0x, l43_0b, h22, h23, d]
    exact hx _ _ ρ (by simpa using hB) (.refl _ _ _) (by simp [put]) (by simp [put]) (by simp [put])
  | cons a rest ih =>
    intro i out ρ τ e hd hB hle h0 h21 h22 h23 hx
    obtain ⟨hc, hd'⟩ := drop_cons hd
    have hi := (List.getElem?_eq_some_iff.1 hc).1
    have hm : a ∈ al := List.mem_of_getElem? hc
    have d : decide ((i : Int) < (al.length : Int)) = true := decide_eq_true (by omega)
    obtain ⟨p, hp, hpt⟩ := (rd_lsq (z := 2) nn (at_len al) τ).at (i := i) (c := atc a) (by rw [List.getElem?_map, hc]; rfl) .i64
    have hld := hpt.all (n := 2) rfl
    have w23 : IntKind.i64.wrap ((i : Int) + 1) = ((i + 1 : Nat) : Int) := by have := hb.1; rw [wrap_i64 _ (by omega) (by omega)]; omega
    obtain ⟨a0, bf, hv, _, _⟩ := id hB
    have hlt := getV_lt hv
    refine LoopC_unfold tok fm ?_
    simp (disch := first | omega | (simp only [ln]; first | done | omega)) only [walkAll, walkL, walkK, wk, E, Nat.reduceEqDiff, Nat.reduceAdd, Nat.reduceSub, Nat.reduceLeDiff, Int.reduceLT, Int.reduceLE, Int.reduceAdd, Int.reduceSub, Int.reduceToNat, ↓reduceIte, l43_0x, l43_0b, h0, h21, h22, h23, d, hp, hld, atc]
    refine escape_c a.2 (hb.2 a hm).2 ?_
    simp (disch := first | omega | (simp only [ln]; first | done | omega)) only [walkAll, walkL, walkK, wk, E, Nat.reduceEqDiff, Nat.reduceAdd, Nat.reduceSub, Nat.reduceLeDiff, Int.reduceLT, Int.reduceLE, Int.reduceAdd, Int.reduceSub, Int.reduceToNat, ↓reduceIte, h0]
    have e5 : out.length + ([[32], a.1, [61, 34], escS a.2, [34]] : List (List UInt8)).flatten.length ≤ 140737488355328 := by
      simp [attrT] at hle ⊢; omega
    have hB2 : BldW ((τ.pushV (.cells 64 [.str a.1, .str a.2])).pushR ⟨9, 1, 0, ([[32], a.1, [61, 34], escS a.2, [34]] : List (List UInt8)).map stc⟩) b x0 out ρ := BldW.pushR (BldW.pushV hB _) _
    refine put_c b x0 [[32], a.1, [61, 34], escS a.2, [34]] (nrs τ) (by simp) out ρ hB2 e5 (row_new2 τ _ [[32], a.1, [61, 34], escS a.2, [34]]) (bldw_ne hB) (fun σ' ρ' h1 h2 => ?_)
    simp (disch := first | omega | (simp only [ln]; first | done | omega)) only [walkAll, walkL, walkK, wk, E, Nat.reduceEqDiff, Nat.reduceAdd, Nat.reduceSub, Nat.reduceLeDiff, Int.reduceLT, Int.reduceLE, Int.reduceAdd, Int.reduceSub, Int.reduceToNat, ↓reduceIte, h23, w23]
    have hat : ([[32], a.1, [61, 34], escS a.2, [34]] : List (List UInt8)).flatten = attrT a := by simp [attrT]
    rw [hat] at h1
    have hbg : ButG τ σ' b ρ ρ' := (ButG.pushR (ButG.pushV (.refl τ b ρ) _) _).trans h2
    refine ih (i + 1) (out ++ attrT a) ρ' σ' _ hd' h1 (by simp only [List.flatMap_cons, List.length_append] at hle ⊢; omega) (by simp [put, putE, h0]) (by simp [put, putE, h21]) (by simp [put, putE, h22]) (by simp [put, putE]) (fun e' τ' ρ2 g1 g2 g3 g4 g5 => hx e' τ' ρ2 (by simpa using g1) (hbg.trans g2) (by rw [g3]; simp [put, putE]) (by rw [g4]; simp [put, putE]) (by rw [g5]; simp [put, putE]))
theorem kidsF_mem (i : Int) : ∀ (l : List Nd) (k : Nat) (x : Nat), x ∈ kidsF i k l → k ≤ x ∧ ∃ n, l[x - k]? = some n ∧ n.parent = i
  | [], _, _, h => by cases h
  | n :: l, k, x, h => by
    simp only [kidsF] at h
    rcases List.mem_append.1 h with h | h
    · split at h
      · rename_i g
        have : x = k := by simpa using h
        subst this
        exact ⟨Nat.le_refl _, n, by simp, by simpa using g⟩
      · cases h
    · obtain ⟨h1, n', h2, h3⟩ := kidsF_mem i l (k + 1) x h
      refine ⟨by omega, n', ?_, h3⟩
      rw [show x - k = (x - (k + 1)) + 1 by omega]
      simpa using h2
theorem kidsS_mem {l : List Nd} {i : Int} {x : Nat} (h : x ∈ kidsS l i) : ∃ n, l[x]? = some n ∧ n.parent = i := by
  unfold kidsS at h
  split at h
  · obtain ⟨_, n, h1, h2⟩ := kidsF_mem i l 0 x h
    exact ⟨n, by simpa using h1, h2⟩
  · cases h
theorem kidsF_len (i : Int) : ∀ (l : List Nd) (k : Nat), (kidsF i k l).length ≤ l.length
  | [], _ => Nat.le_refl _
  | n :: l, k => by
    have := kidsF_len i l (k + 1)
    simp only [kidsF, List.length_append, List.length_cons]
    split <;> simp <;> omega
theorem kidsS_len (l : List Nd) (i : Int) : (kidsS l i).length ≤ l.length := by
  unfold kidsS
  split
  · exact kidsF_len i l 0
  · simp
theorem wr_node (l : List Nd) (k i : Nat) (n : Nd) (h : l[i]? = some n) : wrS l (k + 1) i = headT n ++ (if n.text == [] && (kidsS l i).isEmpty then [47, 62] else 62 :: (escS n.text ++ ((kidsS l i).flatMap (wrS l k) ++ 60 :: 47 :: (n.name ++ [62])))) := by
  rw [wrS, h]
theorem wnode_c (b : Nat) (l : List Nd) (x0 : AV) (hvr : ∀ τ, Rd 4 τ x0 (l.map Nd.c)) (hvd : Data x0) (hx1 : cellsA x0 = [x0]) (hl : l.length ≤ 500) (hb : ∀ n ∈ l, NdB n) (hp : ∀ (j : Nat) n, l[j]? = some n → n.parent < j) : ∀ (k i : Nat), i < l.length → l.length ≤ k + i → ∀ (out : List UInt8) (ρ : Option Nat) (σ : St) (K : AV → St → Prop), BldW σ b x0 out ρ → out.length + (wrS l k i).length ≤ 140737488355328 →
    (∀ σ' ρ', BldW σ' b x0 (out ++ wrS l k i) ρ' → ButG σ σ' b ρ ρ' → K (.tup []) σ') → ACalls Tryz.prog (gD m) 43 [.vp b 0, .int .i64 i] σ K := by
  intro k
  induction k with
  | zero => intro i hi hk; omega
  | succ k ih =>
    intro i hi hk out ρ σ K hB hle h
    obtain ⟨n, hn⟩ : ∃ n, l[i]? = some n := ⟨l[i], List.getElem?_eq_getElem hi⟩
    have hnb := hb n (List.mem_of_getElem? hn)
    rw [wr_node l k i n hn] at hle h
    obtain ⟨a0, bf, hv, _, _⟩ := id hB
    have hlt := getV_lt hv
    obtain ⟨p, hpx, hpt⟩ := (hvr σ).at (i := i) (c := n.c) (by rw [List.getElem?_map, hn]; rfl) .i64
    have hld := hpt.all (n := 4) rfl
    refine ACalls_fn tok fm (fk43 _) ?_
    simp (disch := first | omega | (simp only [ln]; first | done | omega)) only [walkAll, walkL, walkK, wk, E, Nat.reduceEqDiff, Nat.reduceAdd, Nat.reduceSub, Nat.reduceLeDiff, Int.reduceLT, Int.reduceLE, Int.reduceAdd, Int.reduceSub, Int.reduceToNat, ↓reduceIte, c43, hv, hpx, hld, Nd.c, lsq_cells, lsq_one]
    have hA : headT n = (([[60], n.name] : List (List UInt8)).flatten) ++ n.attrs.flatMap attrT := by simp [headT]
    have hlA := congrArg List.length hA
    simp only [List.length_append] at hle hlA
    have hB2 : BldW ((σ.pushV (.cells 40 [.int .i64 n.parent, .str n.name, .str n.text, lsq n.nn (n.attrs.map atc)])).pushR ⟨9, 1, 0, ([[60], n.name] : List (List UInt8)).map stc⟩) b x0 out ρ := BldW.pushR (BldW.pushV hB _) _
    refine put_c b x0 [[60], n.name] (nrs σ) (by simp) out ρ hB2 (by omega) (row_new2 σ _ [[60], n.name]) (bldw_ne hB) (fun σ1 ρ1 g1 g2 => ?_)
    have hvn : getV ((σ.pushV (.cells 40 [.int .i64 n.parent, .str n.name, .str n.text, lsq n.nn (n.attrs.map atc)])).pushR ⟨9, 1, 0, ([[60], n.name] : List (List UInt8)).map stc⟩) (nvs σ) = some (.cells 40 [.int .i64 n.parent, .str n.name, .str n.text, lsq n.nn (n.attrs.map atc)]) := by simp [getV, nvs, St.pushV, St.pushR]
    have hne : nvs σ ≠ b := by omega
    have hv1 : getV σ1 (nvs σ) = some (.cells 40 [.int .i64 n.parent, .str n.name, .str n.text, lsq n.nn (n.attrs.map atc)]) := by
      rw [g2.var _ (by simp only [nvsR]; omega) hne]; exact hvn
    have hln : lenlX (lsq n.nn (n.attrs.map atc)) = some (.int .i64 n.attrs.length) := by
      have := (rd_lsq (z := 2) n.nn (at_len n.attrs) σ).len
      rw [List.length_map] at this; exact this
    have hG1 : ButG σ σ1 b ρ ρ1 := (ButG.pushR (ButG.pushV (.refl σ b ρ) _) _).trans g2
    simp (disch := first | omega | (simp only [ln]; first | done | omega)) only [walkAll, walkL, walkK, wk, E, Nat.reduceEqDiff, Nat.reduceAdd, Nat.reduceSub, Nat.reduceLeDiff, Int.reduceLT, Int.reduceLE, Int.reduceAdd, Int.reduceSub, Int.reduceToNat, ↓reduceIte, hv1, hln, lsq_cells, lsq_one]
    refine nattr_loop b x0 n.attrs n.nn hnb.2.2 n.attrs 0 (out ++ ([[60], n.name] : List (List UInt8)).flatten) ρ1 σ1 _ rfl g1 (by rw [List.length_append]; omega) (by simp [put, putE, E]) (by simp [put, putE, E]) (by simp [put, putE, E]) (by simp [put, putE, E]) (fun e2 σ2 ρ2 k1 k2 k3 k4 k5 => ?_)
    have m0 : e2 0 = some (.vp b 0) := by rw [k3]; simp [put, putE, E]
    have m1 : e2 1 = some (.int .i64 i) := by rw [k4]; simp [put, putE, E]
    have m4 : e2 4 = some (.vp (nvs σ) 0) := by rw [k5]; simp [put, putE, E]
    have hG2 : ButG σ σ2 b ρ ρ2 := hG1.trans k2
    have hn2 : nvs σ < nvs σ2 := by
      have h1 := getV_lt hv1
      have h2 := k2.nv
      omega
    have hv2 : getV σ2 (nvs σ) = some (.cells 40 [.int .i64 n.parent, .str n.name, .str n.text, lsq n.nn (n.attrs.map atc)]) := by
      rw [k2.var _ (getV_lt hv1) hne]; exact hv1
    have hout : out ++ ([[60], n.name] : List (List UInt8)).flatten ++ n.attrs.flatMap attrT = out ++ headT n := by rw [hA, List.append_assoc]
    rw [hout] at k1
    obtain ⟨a2, bf2, hvb2, _, _⟩ := id k1
    simp (disch := first | omega | (simp only [ln]; first | done | omega)) only [walkAll, walkL, walkK, wk, E, Nat.reduceEqDiff, Nat.reduceAdd, Nat.reduceSub, Nat.reduceLeDiff, Int.reduceLT, Int.reduceLE, Int.reduceAdd, Int.reduceSub, Int.reduceToNat, ↓reduceIte, m0, m1, m4, hvb2]
    refine Kids_c l x0 hvr hvd i (by omega) ?_
    have hkl : ∀ x ∈ kidsS l i, i < x ∧ x < l.length := fun x hx => by
      obtain ⟨n', h1, h2⟩ := kidsS_mem hx
      have := hp x n' h1
      exact ⟨by omega, (List.getElem?_eq_some_iff.1 h1).1⟩
    have hkc : (kidsS l i).length ≤ l.length := kidsS_len l i
    have hke : lenlX (lsv ((kidsS l i).map ixc)) = some (.int .i64 (kidsS l i).length) := by
      have := (rd_lsv (z := 1) (l := (kidsS l i).map ixc) (fun c hc => by obtain ⟨a, _, rfl⟩ := List.mem_map.1 hc; rfl) σ).len
      rw [List.length_map] at this; exact this
    have hkel : (((kidsS l i).length : Int) == 0) = (kidsS l i).isEmpty := by
      cases kidsS l i with
      | nil => rfl
      | cons a r => rw [List.length_cons]; simp; omega
    cases hce : (n.text == [] && (kidsS l i).isEmpty) with
    | true =>
      rw [hce] at hle h
      simp only [if_true] at hle h
      rw [Bool.and_eq_true] at hce
      simp (disch := first | omega | (simp only [ln]; first | done | omega)) only [walkAll, walkL, walkK, wk, E, Nat.reduceEqDiff, Nat.reduceAdd, Nat.reduceSub, Nat.reduceLeDiff, Int.reduceLT, Int.reduceLE, Int.reduceAdd, Int.reduceSub, Int.reduceToNat, ↓reduceIte, m0, m1, m4, hv2, hce.1, hke, hkel, hce.2]
      have hB3 : BldW (σ2.pushR ⟨9, 1, 0, ([[47, 62]] : List (List UInt8)).map stc⟩) b x0 (out ++ headT n) ρ2 := BldW.pushR k1 _
      refine put_c b x0 [[47, 62]] (nrs σ2) (by simp) (out ++ headT n) ρ2 hB3 (by simp at hle ⊢; omega) (row_new σ2 [[47, 62]]) (bldw_ne k1) (fun σ3 ρ3 q1 q2 => ?_)
      simp (disch := first | omega | (simp only [ln]; first | done | omega)) only [walkAll, walkL, walkK, wk, E, Nat.reduceEqDiff, Nat.reduceAdd, Nat.reduceSub, Nat.reduceLeDiff, Int.reduceLT, Int.reduceLE, Int.reduceAdd, Int.reduceSub, Int.reduceToNat, ↓reduceIte]
      refine h σ3 ρ3 (by simpa using q1) (hG2.trans ((ButG.pushR (.refl σ2 b ρ2) _).trans q2))
    | false =>
      rw [hce] at hle h
      simp only [Bool.false_eq_true, if_false] at hle h
      cases ht : n.text == [] with
      | true =>
        have hie : (kidsS l i).isEmpty = false := by rw [ht, Bool.true_and] at hce; exact hce
        simp (disch := first | omega | (simp only [ln]; first | done | omega)) only [walkAll, walkL, walkK, wk, E, Nat.reduceEqDiff, Nat.reduceAdd, Nat.reduceSub, Nat.reduceLeDiff, Int.reduceLT, Int.reduceLE, Int.reduceAdd, Int.reduceSub, Int.reduceToNat, ↓reduceIte, m0, m1, m4, hv2, ht, hke, hkel, hie]
        refine escape_c n.text hnb.2.1 ?_
        simp (disch := first | omega | (simp only [ln]; first | done | omega)) only [walkAll, walkL, walkK, wk, E, Nat.reduceEqDiff, Nat.reduceAdd, Nat.reduceSub, Nat.reduceLeDiff, Int.reduceLT, Int.reduceLE, Int.reduceAdd, Int.reduceSub, Int.reduceToNat, ↓reduceIte, m0, m1, m4, hv2, hke]
        have hB3 : BldW (σ2.pushR ⟨9, 1, 0, ([[62], escS n.text] : List (List UInt8)).map stc⟩) b x0 (out ++ headT n) ρ2 := BldW.pushR k1 _
        refine put_c b x0 [[62], escS n.text] (nrs σ2) (by simp) (out ++ headT n) ρ2 hB3 (by simp at hle ⊢; omega) (row_new σ2 [[62], escS n.text]) (bldw_ne k1) (fun σ3 ρ3 q1 q2 => ?_)
        have hG3 : ButG σ σ3 b ρ ρ3 := hG2.trans ((ButG.pushR (.refl σ2 b ρ2) _).trans q2)
        simp (disch := first | omega | (simp only [ln]; first | done | omega)) only [walkAll, walkL, walkK, wk, E, Nat.reduceEqDiff, Nat.reduceAdd, Nat.reduceSub, Nat.reduceLeDiff, Int.reduceLT, Int.reduceLE, Int.reduceAdd, Int.reduceSub, Int.reduceToNat, ↓reduceIte, m0, m1, m4]
        refine each_c b x0 (wrS l k) (kidsS l i) (by omega) (fun x hx out ρ τ K h1 h2 h3 => ih x (hkl x hx).2 (by have := (hkl x hx).1; omega) out ρ τ K h1 h2 h3) (out ++ headT n ++ ([[62], escS n.text] : List (List UInt8)).flatten) ρ3 q1 (by simp at hle ⊢; omega) (fun σ4 ρ4 r1 r2 => ?_)
        have hG4 := hG3.trans r2
        have hv4 : getV σ4 (nvs σ) = some (.cells 40 [.int .i64 n.parent, .str n.name, .str n.text, lsq n.nn (n.attrs.map atc)]) := by
          have h3 : getV σ3 (nvs σ) = getV σ2 (nvs σ) := by
            rw [q2.var _ (by simp only [nvsR]; omega) hne]; rfl
          have hn3 : nvs σ2 ≤ nvs σ3 := by have := q2.nv; simp only [nvsR] at this; exact this
          rw [r2.var _ (by omega) hne, h3]; exact hv2
        simp (disch := first | omega | (simp only [ln]; first | done | omega)) only [walkAll, walkL, walkK, wk, E, Nat.reduceEqDiff, Nat.reduceAdd, Nat.reduceSub, Nat.reduceLeDiff, Int.reduceLT, Int.reduceLE, Int.reduceAdd, Int.reduceSub, Int.reduceToNat, ↓reduceIte, m0, m1, m4, hv4]
        have hB5 : BldW (σ4.pushR ⟨9, 1, 0, ([[60, 47], n.name, [62]] : List (List UInt8)).map stc⟩) b x0 (out ++ headT n ++ ([[62], escS n.text] : List (List UInt8)).flatten ++ (kidsS l i).flatMap (wrS l k)) ρ4 := BldW.pushR r1 _
        refine put_c b x0 [[60, 47], n.name, [62]] (nrs σ4) (by simp) _ ρ4 hB5 (by simp at hle ⊢; omega) (row_new σ4 [[60, 47], n.name, [62]]) (bldw_ne r1) (fun σ5 ρ5 t1 t2 => ?_)
        simp (disch := first | omega | (simp only [ln]; first | done | omega)) only [walkAll, walkL, walkK, wk, E, Nat.reduceEqDiff, Nat.reduceAdd, Nat.reduceSub, Nat.reduceLeDiff, Int.reduceLT, Int.reduceLE, Int.reduceAdd, Int.reduceSub, Int.reduceToNat, ↓reduceIte]
        exact h σ5 ρ5 (by simpa using t1) (hG4.trans ((ButG.pushR (.refl σ4 b ρ4) _).trans t2))
      | false =>
        simp (disch := first | omega | (simp only [ln]; first | done | omega)) only [walkAll, walkL, walkK, wk, E, Nat.reduceEqDiff, Nat.reduceAdd, Nat.reduceSub, Nat.reduceLeDiff, Int.reduceLT, Int.reduceLE, Int.reduceAdd, Int.reduceSub, Int.reduceToNat, ↓reduceIte, m0, m1, m4, hv2, ht, hke]
        refine escape_c n.text hnb.2.1 ?_
        simp (disch := first | omega | (simp only [ln]; first | done | omega)) only [walkAll, walkL, walkK, wk, E, Nat.reduceEqDiff, Nat.reduceAdd, Nat.reduceSub, Nat.reduceLeDiff, Int.reduceLT, Int.reduceLE, Int.reduceAdd, Int.reduceSub, Int.reduceToNat, ↓reduceIte, m0, m1, m4, hv2, hke]
        have hB3 : BldW (σ2.pushR ⟨9, 1, 0, ([[62], escS n.text] : List (List UInt8)).map stc⟩) b x0 (out ++ headT n) ρ2 := BldW.pushR k1 _
        refine put_c b x0 [[62], escS n.text] (nrs σ2) (by simp) (out ++ headT n) ρ2 hB3 (by simp at hle ⊢; omega) (row_new σ2 [[62], escS n.text]) (bldw_ne k1) (fun σ3 ρ3 q1 q2 => ?_)
        have hG3 : ButG σ σ3 b ρ ρ3 := hG2.trans ((ButG.pushR (.refl σ2 b ρ2) _).trans q2)
        simp (disch := first | omega | (simp only [ln]; first | done | omega)) only [walkAll, walkL, walkK, wk, E, Nat.reduceEqDiff, Nat.reduceAdd, Nat.reduceSub, Nat.reduceLeDiff, Int.reduceLT, Int.reduceLE, Int.reduceAdd, Int.reduceSub, Int.reduceToNat, ↓reduceIte, m0, m1, m4]
        refine each_c b x0 (wrS l k) (kidsS l i) (by omega) (fun x hx out ρ τ K h1 h2 h3 => ih x (hkl x hx).2 (by have := (hkl x hx).1; omega) out ρ τ K h1 h2 h3) (out ++ headT n ++ ([[62], escS n.text] : List (List UInt8)).flatten) ρ3 q1 (by simp at hle ⊢; omega) (fun σ4 ρ4 r1 r2 => ?_)
        have hG4 := hG3.trans r2
        have hv4 : getV σ4 (nvs σ) = some (.cells 40 [.int .i64 n.parent, .str n.name, .str n.text, lsq n.nn (n.attrs.map atc)]) := by
          have h3 : getV σ3 (nvs σ) = getV σ2 (nvs σ) := by
            rw [q2.var _ (by simp only [nvsR]; omega) hne]; rfl
          have hn3 : nvs σ2 ≤ nvs σ3 := by have := q2.nv; simp only [nvsR] at this; exact this
          rw [r2.var _ (by omega) hne, h3]; exact hv2
        simp (disch := first | omega | (simp only [ln]; first | done | omega)) only [walkAll, walkL, walkK, wk, E, Nat.reduceEqDiff, Nat.reduceAdd, Nat.reduceSub, Nat.reduceLeDiff, Int.reduceLT, Int.reduceLE, Int.reduceAdd, Int.reduceSub, Int.reduceToNat, ↓reduceIte, m0, m1, m4, hv4]
        have hB5 : BldW (σ4.pushR ⟨9, 1, 0, ([[60, 47], n.name, [62]] : List (List UInt8)).map stc⟩) b x0 (out ++ headT n ++ ([[62], escS n.text] : List (List UInt8)).flatten ++ (kidsS l i).flatMap (wrS l k)) ρ4 := BldW.pushR r1 _
        refine put_c b x0 [[60, 47], n.name, [62]] (nrs σ4) (by simp) _ ρ4 hB5 (by simp at hle ⊢; omega) (row_new σ4 [[60, 47], n.name, [62]]) (bldw_ne r1) (fun σ5 ρ5 t1 t2 => ?_)
        simp (disch := first | omega | (simp only [ln]; first | done | omega)) only [walkAll, walkL, walkK, wk, E, Nat.reduceEqDiff, Nat.reduceAdd, Nat.reduceSub, Nat.reduceLeDiff, Int.reduceLT, Int.reduceLE, Int.reduceAdd, Int.reduceSub, Int.reduceToNat, ↓reduceIte]
        exact h σ5 ρ5 (by simpa using t1) (hG4.trans ((ButG.pushR (.refl σ4 b ρ4) _).trans t2))
theorem flat_lt : ∀ (f : Fo) (p : Int) (i j : Nat) (n : Nd), (f.flat p i)[j]? = some n → p < i → n.parent < (i + j : Nat)
  | .nil, _, _, j, n, h, _ => by simp [Fo.flat] at h
  | .cons m k s, p, i, j, n, h, hp => by
    simp only [Fo.flat] at h
    cases j with
    | zero => simp at h; subst h; simp only; omega
    | succ j =>
      rw [List.getElem?_cons_succ] at h
      by_cases hj : j < (k.flat i (i + 1)).length
      · rw [List.getElem?_append_left hj] at h
        have := flat_lt k i (i + 1) j n h (by omega)
        omega
      · rw [List.getElem?_append_right (by omega), Fo.flat_len] at h
        rw [Fo.flat_len] at hj
        have := flat_lt s p (i + 1 + k.size) (j - k.size) n h (by omega)
        omega
theorem right_lt {l : List Nd} (h : rightS l = true) (j : Nat) (n : Nd) (hn : l[j]? = some n) : n.parent < j := by
  obtain ⟨m, k, e, _⟩ := right_tree h
  rw [e] at hn
  have := flat_lt _ (-1) 0 j n hn (by omega)
  simpa using this
theorem ButG.grown {σ1 σ σ' : St} {b : Nat} {ρ ρ' : Option Nat} (h : ButG σ σ' b ρ ρ') (hg : Grown σ1 σ) (hb : nvs σ1 ≤ b) (hk : ∀ k, ρ = some k → nrs σ1 ≤ k) : Grown σ1 σ' := by
  have hr := rows_grown hg (fun r hr => h.row r (fun e => by have := hk r e.symm; omega) (Nat.lt_of_lt_of_le hr hg.nrs)) h.grow
  have hn := hg.nvs
  have hv : σ'.vars.take (nvs σ1) = σ1.vars := by
    obtain ⟨g, rs, rfl⟩ := hg
    apply List.ext_getElem?
    intro i
    rw [List.getElem?_take]
    split
    · rename_i hi
      have h1 := h.var i (Nat.lt_of_lt_of_le hi hn) (by omega)
      simp only [getV] at h1
      rw [h1, List.getElem?_append_left hi]
    · rename_i hi
      rw [List.getElem?_eq_none (by simp only [nvs] at hi; omega)]
  refine ⟨σ'.vars.drop (nvs σ1), σ'.rows.drop (nrs σ1), ?_⟩
  cases σ' with
  | mk vs rs' =>
    simp only at hv hr ⊢
    have h1 := List.take_append_drop (nvs σ1) vs
    have h2 := List.take_append_drop (nrs σ1) rs'
    rw [hv] at h1
    rw [hr] at h2
    rw [h1, h2]
def writeS (l : List Nd) : List UInt8 := wrS l l.length 0
theorem Write_c (l : List Nd) (v0 : AV) (hvr : ∀ τ, Rd 4 τ v0 (l.map Nd.c)) (hvd : Data v0) (hx1 : cellsA v0 = [v0] ∧ v0.one = true) (hl : l.length < 1000000000) (hb : ∀ n ∈ l, NdB n) (hle : rightS l = true → (writeS l).length ≤ 140737488355328)
    (h : K (.tup [.str (if rightS l then writeS l else []), .int .i64 (if rightS l then 0 else 10)]) σ) : ACalls Tryz.prog (gD m) 28 [v0] σ K := by
  refine ACalls.close σ _ (.refl σ) (by simp only [dataR]) ?_ h
  refine ACalls_fn tok fm (fk28 _) ?_
  simp (disch := first | omega | (simp only [ln]; first | done | omega)) only [walkAll, walkL, walkK, wk, E, Nat.reduceEqDiff, Nat.reduceAdd, Nat.reduceSub, Nat.reduceLeDiff, Int.reduceLT, Int.reduceLE, Int.reduceAdd, Int.reduceSub, Int.reduceToNat, ↓reduceIte, c28]
  refine Right_c l v0 hvr hl hb ?_
  cases hr : rightS l with
  | false =>
    simp (disch := first | omega | (simp only [ln]; first | done | omega)) only [walkAll, walkL, walkK, wk, E, Nat.reduceEqDiff, Nat.reduceAdd, Nat.reduceSub, Nat.reduceLeDiff, Int.reduceLT, Int.reduceLE, Int.reduceAdd, Int.reduceSub, Int.reduceToNat, ↓reduceIte, Bool.not_false]
    simp only [Bool.false_eq_true, if_false]
    exact ⟨.refl _, .inl rfl⟩
  | true =>
    have hlen : l.length ≤ 500 := by
      unfold rightS at hr
      simp only [Bool.and_eq_true, decide_eq_true_eq] at hr
      exact hr.2.1
    have hne : 0 < l.length := by
      unfold rightS at hr
      simp only [Bool.and_eq_true] at hr
      cases l with
      | nil => cases hr.1
      | cons _ _ => simp
    simp (disch := first | omega | (simp only [ln]; first | done | omega)) only [walkAll, walkL, walkK, wk, E, Nat.reduceEqDiff, Nat.reduceAdd, Nat.reduceSub, Nat.reduceLeDiff, Int.reduceLT, Int.reduceLE, Int.reduceAdd, Int.reduceSub, Int.reduceToNat, ↓reduceIte, Bool.not_true, hx1, List.set_cons_zero]
    have hB : BldW (σ.pushV (.cells 84 [v0, .nilp, .nils])) (nvs σ) v0 [] none := ⟨.nilp, .nils, by simp [getV, nvs, St.pushV], .inl rfl, .inl ⟨rfl, rfl, rfl⟩⟩
    refine wnode_c (nvs σ) l v0 hvr hvd hx1.1 hlen hb (right_lt hr) l.length 0 hne (by omega) [] none _ _ hB (by have := hle hr; simpa [writeS] using this) (fun σ1 ρ1 h1 h2 => ?_)
    have hv1 : ∃ a bf, getV σ1 (nvs σ) = some (.cells 84 [v0, a, bf]) := by obtain ⟨a, bf, h, _⟩ := h1; exact ⟨a, bf, h⟩
    obtain ⟨a1, bf1, hv1⟩ := hv1
    simp (disch := first | omega | (simp only [ln]; first | done | omega)) only [walkAll, walkL, walkK, wk, E, Nat.reduceEqDiff, Nat.reduceAdd, Nat.reduceSub, Nat.reduceLeDiff, Int.reduceLT, Int.reduceLE, Int.reduceAdd, Int.reduceSub, Int.reduceToNat, ↓reduceIte, hv1]
    refine wString_c (nvs σ) v0 _ ρ1 h1 (by have := hle hr; simp only [List.nil_append]; exact Nat.le_trans this (by decide)) (fun σ2 hb2 => ?_)
    simp (disch := first | omega | (simp only [ln]; first | done | omega)) only [walkAll, walkL, walkK, wk, E, Nat.reduceEqDiff, Nat.reduceAdd, Nat.reduceSub, Nat.reduceLeDiff, Int.reduceLT, Int.reduceLE, Int.reduceAdd, Int.reduceSub, Int.reduceToNat, ↓reduceIte]
    refine ⟨?_, .inl (by simp [writeS])⟩
    exact ButG.grown (h2.trans (But.g hb2)) (.pushV (.refl σ)) (Nat.le_refl _) (fun k hk => by cases hk)
end
end Go.Ab.Sz.K
namespace Go.Ab.Sz.K
open Go Go.Ab Go.Proofs Go.RowKit
set_option maxRecDepth 40000
/-- How much a node holds. -/
def atW (a : List UInt8 × List UInt8) : Nat := a.1.length + a.2.length + 1
def ndW (n : Nd) : Nat := n.name.length + n.text.length + (n.attrs.map atW).sum + 1
def sumW (l : List Nd) : Nat := (l.map ndW).sum
theorem sum_mem {α : Type} (f : α → Nat) : ∀ (l : List α), ∀ a ∈ l, f a ≤ (l.map f).sum
  | [], a, h => by cases h
  | b :: l, a, h => by
    simp only [List.map_cons, List.sum_cons]
    rcases List.mem_cons.1 h with rfl | h
    · omega
    · have := sum_mem f l a h; omega
theorem sum_len {α : Type} (f : α → Nat) (h : ∀ a, 1 ≤ f a) : ∀ (l : List α), l.length ≤ (l.map f).sum
  | [] => by simp
  | b :: l => by have := sum_len f h l; have := h b; simp only [List.map_cons, List.sum_cons, List.length_cons]; omega
theorem atW_pos (a : List UInt8 × List UInt8) : 1 ≤ atW a := by unfold atW; omega
theorem ndW_pos (n : Nd) : 1 ≤ ndW n := by unfold ndW; omega
theorem ndB_of {n : Nd} (h : ndW n < 1000000000) : NdB n := by
  unfold ndW at h
  have hl := sum_len atW atW_pos n.attrs
  refine ⟨by omega, by omega, by omega, fun a ha => ?_⟩
  have h1 := sum_mem atW n.attrs a ha
  have h2 : a.1.length + a.2.length + 1 ≤ (n.attrs.map atW).sum := h1
  omega
theorem ndB_all {l : List Nd} (h : sumW l < 1000000000) : ∀ n ∈ l, NdB n := fun n hn => ndB_of (Nat.lt_of_le_of_lt (sum_mem ndW l n hn) h)
theorem attrT_w : ∀ (l : List (List UInt8 × List UInt8)), (l.flatMap attrT).length ≤ 10 * (l.map atW).sum
  | [] => by simp
  | a :: l => by
    have ih := attrT_w l
    have he := escS_len a.2
    simp only [List.flatMap_cons, List.length_append, List.map_cons, List.sum_cons, attrT, List.length_cons, List.length_nil, atW] at *
    omega
theorem sumW_app (a b : List Nd) : sumW (a ++ b) = sumW a + sumW b := by simp [sumW]
theorem write_w : ∀ (f : Fo) (p : Int) (i : Nat), f.write.length ≤ 10 * sumW (f.flat p i)
  | .nil, _, _ => by simp [Fo.write]
  | .cons n k s, p, i => by
    have ihk := write_w k i (i + 1)
    have ihs := write_w s p (i + 1 + k.size)
    have hat := attrT_w n.attrs
    have he := escS_len n.text
    have e : sumW ((Fo.cons n k s).flat p i) = ndW n + (sumW (k.flat i (i + 1)) + sumW (s.flat p (i + 1 + k.size))) := by
      simp only [Fo.flat]
      rw [show ({ n with parent := p } : Nd) :: (k.flat i (i + 1) ++ s.flat p (i + 1 + k.size)) = [{ n with parent := p }] ++ (k.flat i (i + 1) ++ s.flat p (i + 1 + k.size)) from rfl, sumW_app, sumW_app]
      simp [sumW, ndW]
    rw [e]
    simp only [Fo.write, headT, List.length_append, List.length_cons, ndW]
    split
    · simp only [List.length_cons, List.length_nil]; omega
    · simp only [List.length_append, List.length_cons, List.length_nil]; omega
theorem writeS_w {l : List Nd} (h : rightS l = true) : (writeS l).length ≤ 10 * sumW l := by
  obtain ⟨n, k, e, _⟩ := right_tree h
  unfold writeS
  rw [right_write e]
  have := write_w (.cons n k .nil) (-1) 0
  rw [← e] at this
  exact this
/-! ### What is parsed -/
structure TkL (X : Nat) (t : Go.Ab.Sz.Tok) : Prop where
  name : t.name.length ≤ X
  att : ∀ a ∈ t.attrs, a.1.length ≤ X ∧ a.2.length ≤ 4 * X
theorem takeWhile_len (p : UInt8 → Bool) (s : List UInt8) : (s.takeWhile p).length ≤ s.length := (List.takeWhile_prefix p).length_le
theorem nameS_len1 (s : List UInt8) : (nameS s).1.length ≤ s.length := by
  unfold nameS
  split
  · simp
  · exact takeWhile_len _ _
theorem quotedS_len1 (s : List UInt8) : (quotedS s).1.length ≤ 4 * s.length := by
  have q1 : ∀ q, (quoted1 s q).1.length ≤ 4 * s.length := fun q => by
    unfold quoted1
    have h1 := trimPrefix_le s q
    have h2 : (Lib.cut (Lib.trimPrefix s q) q).1.length ≤ (Lib.trimPrefix s q).length := by
      unfold Lib.cut
      split
      · simp only [List.length_take]; omega
      · simp
    have h3 := valS_len (Lib.cut (Lib.trimPrefix s q) q).1
    simp only
    omega
  unfold quotedS
  split
  · exact q1 _
  · split
    · exact q1 _
    · simp
theorem attrS_len1 (s : List UInt8) : (attrS s).1.length ≤ s.length ∧ (attrS s).2.1.length ≤ 4 * s.length := by
  have h1 := nameS_len1 s
  have h4 := quotedS_len1 (attr4 s)
  have h5 := attr4_len s
  unfold attrS
  split
  · exact ⟨h1, by simp⟩
  · split
    · exact ⟨h1, by simp⟩
    · exact ⟨h1, by simp only; omega⟩
theorem openL_len1 (X : Nat) : ∀ (n : Nat) (s : List UInt8) (al : List (List UInt8 × List UInt8)), s.length ≤ X → (∀ a ∈ al, a.1.length ≤ X ∧ a.2.length ≤ 4 * X) → ∀ a ∈ (openL n s al).1, a.1.length ≤ X ∧ a.2.length ≤ 4 * X
  | 0, _, _, _, h => h
  | n + 1, s, al, hs, h => by
    have hd := dropWhile_len blanksL.contains s
    have h1 := attrS_len1 (s.dropWhile blanksL.contains)
    have h2 := attrS_len (s.dropWhile blanksL.contains)
    simp only [openL]
    split
    · exact h
    · split
      · exact h
      · split
        · exact h
        · refine openL_len1 X n _ _ (by omega) fun a ha => ?_
          rcases List.mem_append.1 ha with ha | ha
          · exact h a ha
          · have : a = ((attrS (s.dropWhile blanksL.contains)).1, (attrS (s.dropWhile blanksL.contains)).2.1) := by simpa using ha
            rw [this]
            simp only
            omega
theorem tokS_lens {s : List UInt8} {X : Nat} (h : s.length ≤ X) : TkL X (tokS s).1 := by
  unfold tokS
  split
  · have h1 := trimPrefix_le s [60, 47]
    have h2 := nameS_len1 (Lib.trimPrefix s [60, 47])
    unfold endS
    split
    · exact ⟨by simp only; omega, by simp⟩
    · exact ⟨by simp only; omega, by simp⟩
  · split
    · have h1 := trimPrefix_le s [60]
      have h2 := nameS_len1 (Lib.trimPrefix s [60])
      have h3 := nameS_len (Lib.trimPrefix s [60])
      unfold openS
      split
      · exact ⟨by simp only; omega, by simp⟩
      · exact ⟨by simp only; omega, openL_len1 X _ _ [] (by omega) (by simp)⟩
    · exact ⟨by simp [plainS], by simp [plainS]⟩
theorem tokN_lens {X : Nat} : ∀ (n : Nat) (s : List UInt8) (l : List Go.Ab.Sz.Tok), s.length ≤ X → tokN n s = some l → ∀ t ∈ l, TkL X t
  | 0, _, _, _, h => by cases h
  | n + 1, s, l, hs, h => by
    simp only [tokN] at h
    split at h
    · cases h; intro t ht; cases ht
    · rename_i h0
      split at h
      · have hl := tokS_len (s := s) (by intro e; rw [e] at h0; exact h0 rfl)
        cases hq : tokN n (tokS s).2.2 with
        | none => rw [hq] at h; cases h
        | some l' =>
          rw [hq] at h; cases h
          intro t ht
          rcases List.mem_cons.1 ht with rfl | ht
          · exact tokS_lens hs
          · exact tokN_lens n _ _ (by omega) hq t ht
      · cases h
theorem toksS_lens (s : List UInt8) : ∀ t ∈ (toksS s).1, TkL s.length t := by
  have hp := trimPrefix_le s prologL
  unfold toksS
  split
  · intro t ht; cases ht
  · split
    · intro t ht; cases ht
    · split
      · rename_i l hl
        exact tokN_lens _ _ l hp hl
      · intro t ht; cases ht
/-- What a node has of its token. -/
def NdL (X : Nat) (n : Nd) : Prop := n.name.length ≤ X ∧ n.attrs.length ≤ X ∧ ∀ a ∈ n.attrs, a.1.length ≤ X ∧ a.2.length ≤ 4 * X
theorem run_ndl {X : Nat} : ∀ (l : List Tok) (b : TB), (∀ n ∈ b.l, NdL X n) → (∀ t ∈ l, NdL X ⟨0, t.name, [], t.attrs, false⟩) → ∀ n ∈ (runL b l).1.l, NdL X n
  | [], _, h, _ => h
  | t :: l, b, h, ht => by
    have h1 := ht t (by simp)
    simp only [runL]
    split
    · refine run_ndl l _ ?_ fun x hx => ht x (by simp [hx])
      unfold TB.step
      split
      · unfold TB.begin
        split
        · exact h
        · split
          · exact h
          · split
            · exact h
            · split
              · exact h
              · intro n hn
                rcases List.mem_append.1 hn with hn | hn
                · exact h n hn
                · have : n = ⟨b.top, t.name, [], t.attrs, t.nn⟩ := by simpa using hn
                  rw [this]; exact h1
      · split
        · unfold TB.fin
          split
          · exact h
          · split
            · split
              · exact h
              · exact h
            · exact h
        · split
          · unfold TB.txt
            split
            · split <;> exact h
            · split
              · rename_i n hn
                intro x hx
                rcases List.mem_or_eq_of_mem_set hx with hx | rfl
                · exact h x hx
                · exact h n (List.mem_of_getElem? hn)
              · exact h
          · exact h
    · exact h
theorem run_txt {X : Nat} : ∀ (l : List Tok) (b : TB), (∀ n ∈ b.l, n.text.length ≤ X) → ∀ n ∈ (runL b l).1.l, n.text.length ≤ X + (l.map fun t => t.text.length).sum
  | [], _, h => by simpa [runL] using h
  | t :: l, b, h => by
    have h1 := TB.step_text h t
    simp only [runL, List.map_cons, List.sum_cons]
    split
    · intro n hn
      have := run_txt l (b.step t).1 h1 n hn
      omega
    · intro n hn
      have := h n hn
      omega
theorem parse_w (s : List UInt8) (hs : s.length ≤ 4000) : sumW (parseS s).1 ≤ 100000000000 ∧ ∀ n ∈ (parseS s).1, NdB n := by
  have key : ∀ n ∈ (parseS s).1, n.name.length ≤ 4000 ∧ n.text.length ≤ 64000000 ∧ (n.attrs.map atW).sum ≤ 84004000 := by
    unfold parseS
    split
    · have h1 := toksS_len s
      have h2 := toksS_txt s
      have h3 := toksS_lens s
      have hnd := run_ndl (X := s.length) ((toksS s).1.map toK) ⟨[], [], []⟩ (by simp) (fun t ht => by
        obtain ⟨x, hx, rfl⟩ := List.mem_map.1 ht
        exact ⟨(h3 x hx).name, h1.2 x hx, (h3 x hx).att⟩)
      have htx := run_txt (X := 0) ((toksS s).1.map toK) ⟨[], [], []⟩ (by simp)
      have hsm : (((toksS s).1.map toK).map fun t => t.text.length).sum ≤ 64000000 := by
        have := sum_le (fun t : Go.Ab.Sz.Tok => t.text.length) (4 * s.length) (toksS s).1 h2
        rw [List.map_map]
        have e : ((fun t : Tok => t.text.length) ∘ toK) = fun t : Go.Ab.Sz.Tok => t.text.length := rfl
        rw [e]
        have h4 : (toksS s).1.length * (4 * s.length) ≤ 4000 * 16000 := Nat.mul_le_mul (by omega) (by omega)
        omega
      have hall : ∀ n ∈ (runL ⟨[], [], []⟩ ((toksS s).1.map toK)).1.l, n.name.length ≤ 4000 ∧ n.text.length ≤ 64000000 ∧ (n.attrs.map atW).sum ≤ 84004000 := fun n hn => by
        obtain ⟨a1, a2, a3⟩ := hnd n hn
        have a4 := htx n hn
        refine ⟨by omega, by omega, ?_⟩
        have := sum_le atW 20001 n.attrs (fun a ha => by have := a3 a ha; unfold atW; omega)
        have h5 : n.attrs.length * 20001 ≤ 4000 * 20001 := Nat.mul_le_mul_right _ (by omega)
        omega
      unfold buildS
      split
      · intro n hn; cases hn
      · split
        · intro n hn; cases hn
        · split
          · rename_i o ho
            obtain ⟨k1, k2⟩ := doneL_keeps _ _ _ ho
            intro n hn
            obtain ⟨k, hk, rfl⟩ := List.mem_iff_getElem.1 hn
            obtain ⟨x, b1, b2, b3, b4, b5, b6⟩ := k2 k _ (List.getElem?_eq_getElem hk)
            have := hall x (List.mem_of_getElem? b1)
            rw [b3, b4]
            rcases b5 with b5 | b5
            · rw [b5]; exact this
            · rw [b5]; exact ⟨this.1, by simp, this.2.2⟩
          · intro n hn; cases hn
    · intro n hn; cases hn
  have hl : (parseS s).1.length ≤ 500 := by
    unfold parseS
    split
    · exact buildS_len500 _
    · simp
  refine ⟨?_, fun n hn => ?_⟩
  · have := sum_le ndW 148008001 (parseS s).1 (fun n hn => by have := key n hn; unfold ndW; omega)
    unfold sumW
    have h5 : (parseS s).1.length * 148008001 ≤ 500 * 148008001 := Nat.mul_le_mul_right _ hl
    omega
  · have := key n hn
    exact ndB_of (by unfold ndW; omega)
end Go.Ab.Sz.K
namespace Go.Ab.Sz.K
open Go Go.Ab Go.Proofs Go.RowKit
set_option maxRecDepth 100000
set_option linter.unusedSimpArgs false
section
variable {m : Int} {σ : St} {K : AV → St → Prop}
theorem ParseL_c (s : List UInt8) (hs : s.length ≤ 9223372036854775807) (h : K (.tup [lsv ((parseS s).1.map Nd.c), .int .i64 (parseS s).2]) σ) : ACalls Tryz.prog (gD m) 19 [.str s] σ K := by
  by_cases hl : s.length ≤ 5000
  · exact Parse_c s hl h
  · have ht : toksS s = ([], 4) := by unfold toksS; rw [if_pos (by omega)]
    have hp : parseS s = ([], 4) := by unfold parseS; rw [ht]; rfl
    rw [hp] at h
    have e4 : ((4 : Int) == 0) = false := rfl
    refine ACalls_fn tok fm (fk19 _) ?_
    simp (disch := first | omega | (simp only [ln]; first | done | omega)) only [walkAll, walkL, walkK, wk, E, Nat.reduceEqDiff, Nat.reduceAdd, Nat.reduceSub, Nat.reduceLeDiff, Int.reduceLT, Int.reduceLE, Int.reduceAdd, Int.reduceSub, Int.reduceToNat, ↓reduceIte, c19]
    refine Tokens_c s hs ?_
    rw [ht]
    simp (disch := first | omega | (simp only [ln]; first | done | omega)) only [walkAll, walkL, walkK, wk, E, Nat.reduceEqDiff, Nat.reduceAdd, Nat.reduceSub, Nat.reduceLeDiff, Int.reduceLT, Int.reduceLE, Int.reduceAdd, Int.reduceSub, Int.reduceToNat, ↓reduceIte, bne, e4, Bool.not_false]
    exact h
theorem node2_c (n : Nd) (hl : n.attrs.length < 9223372036854775807) (h : K (.bool true) σ) : ACalls Tryz.prog (gD m) 22 [.agg (plainN n).c, .agg n.c] σ K := by
  refine ACalls.close σ _ (.refl σ) (by simp only [dataR]) ?_ h
  refine ACalls_fn tok fm (fk22 _) ?_
  have e1 : ∀ a : Int, (a == a) = true := fun a => by simp
  have e2 : ∀ a : List UInt8, (a == a) = true := fun a => by simp
  simp (disch := first | omega | (simp only [ln]; first | done | omega)) only [walkAll, walkL, walkK, wk, E, Nat.reduceEqDiff, Nat.reduceAdd, Nat.reduceSub, Nat.reduceLeDiff, Int.reduceLT, Int.reduceLE, Int.reduceAdd, Int.reduceSub, Int.reduceToNat, ↓reduceIte, c22, Nd.c, plainN, e1, e2, lsq_cells, lsq_one]
  refine plainAttr_c n.attrs _ _ (rd_lsq _ (at_len _) _) (rd_lsq _ (at_len _) _) hl ?_
  simp (disch := first | omega | (simp only [ln]; first | done | omega)) only [walkAll, walkL, walkK, wk, E, Nat.reduceEqDiff, Nat.reduceAdd, Nat.reduceSub, Nat.reduceLeDiff, Int.reduceLT, Int.reduceLE, Int.reduceAdd, Int.reduceSub, Int.reduceToNat, ↓reduceIte]
  exact ⟨by repeat first | exact Grown.refl _ | assumption | apply Grown.pushV | apply Grown.pushR | (refine Grown.setV ?_ (by first | omega | (simp only [nvsR]; first | done | omega))) | (refine Grown.setOld ‹_› (by first | omega | (simp only [nvsR]; first | done | omega)) _) | (refine Grown.setOld0 ?_ (by first | omega | (simp only [nvsR]; first | done | omega)) _), .inl rfl⟩
theorem sameNodes2_c (l : List Nd) (v : AV) (hv : Rd 4 σ v (l.map Nd.c)) (hl : l.length < 9223372036854775807) (ha : ∀ n ∈ l, n.attrs.length < 9223372036854775807) (h : K (.bool true) σ) :
    ACalls Tryz.prog (gD m) 21 [lsv ((l.map plainN).map Nd.c), v, .fn (.func 22) [] []] σ K := by
  refine sameNode_c _ _ _ _ _ (rd_lsv (nd_len _) σ) hv (by simp) (by simpa using hl) (fun i c d hc hd K hK => ?_) h
  rw [List.getElem?_map, List.getElem?_map] at hc
  rw [List.getElem?_map] at hd
  cases hn : l[i]? with
  | none => rw [hn] at hc; cases hc
  | some n =>
    rw [hn] at hc hd
    cases hc; cases hd
    exact node2_c n (ha n (List.mem_of_getElem? hn)) hK
theorem give_new (σ : St) (e : TypeId) (z : Nat) (els : List (List AV)) : Conv (.os (nrs σ) 0 els.length) (σ.pushR ⟨e, z, 0, els⟩) (.sl els) ((σ.pushR ⟨e, z, 0, els⟩).setR (nrs σ) none) := by
  have hc := conv_frz (a := .os (nrs σ) 0 els.length) (σ := σ.pushR ⟨e, z, 0, els⟩) (r := nrs σ) (row := ⟨e, z, 0, els⟩) (by simp [nrs, St.pushR])
  rw [frz_all rfl] at hc
  exact hc
def awake9L : List Nd := [⟨-1, [97], [], [], false⟩, ⟨0, [98], [60], [], false⟩]
theorem awake9_right : rightS awake9L = true := by kernel_rfl
theorem awake9_write : writeS awake9L = [60, 97, 62, 60, 98, 62, 38, 108, 116, 59, 60, 47, 98, 62, 60, 47, 97, 62] := by kernel_rfl
theorem nds_hvr (l : List Nd) : ∀ τ, Rd 4 τ (lsv (l.map Nd.c)) (l.map Nd.c) := fun τ => rd_lsv (nd_len l) τ
theorem nds_data (l : List Nd) : Data (lsv (l.map Nd.c)) := lsv_data (data_flat fun n _ => nd_data n)
theorem awake9_c (h : K (.bool true) σ) : ACalls Tryz.prog (gD m) 27 [] σ K := by
  refine ACalls.close σ _ (.refl σ) (by simp only [dataR]) ?_ h
  refine ACalls_fn tok fm (fk27 _) ?_
  simp (disch := first | omega | (simp only [ln]; first | done | omega)) only [walkAll, walkL, walkK, wk, E, Nat.reduceEqDiff, Nat.reduceAdd, Nat.reduceSub, Nat.reduceLeDiff, Int.reduceLT, Int.reduceLE, Int.reduceAdd, Int.reduceSub, Int.reduceToNat, ↓reduceIte, c27]
  refine ACalls.give1 (give_new σ 40 4 (awake9L.map Nd.c)) ?_
  refine Write_c awake9L (.sl (awake9L.map Nd.c)) (nds_hvr awake9L) (nds_data awake9L) ⟨rfl, rfl⟩ (by decide) (ndB_all (by decide)) (fun _ => by rw [awake9_write]; decide) ?_
  rw [awake9_right, awake9_write]
  simp (disch := first | omega | (simp only [ln]; first | done | omega)) only [walkAll, walkL, walkK, wk, E, Nat.reduceEqDiff, Nat.reduceAdd, Nat.reduceSub, Nat.reduceLeDiff, Int.reduceLT, Int.reduceLE, Int.reduceAdd, Int.reduceSub, Int.reduceToNat, ↓reduceIte, if_true, beq_self_eq_true]
  exact ⟨⟨[], [none], by simp [St.pushR, St.setR, nrs]⟩, .inl rfl⟩
/-- Nodes that come from without: how they are handed in. -/
structure NdsIn (l : List Nd) (v0 : AV) : Prop where
  hvr : ∀ τ, Rd 4 τ v0 (l.map Nd.c)
  hvd : Data v0
  one : cellsA v0 = [v0] ∧ v0.one = true
theorem CanonBack_law (l : List Nd) (v0 : AV) (hv : NdsIn l v0) (s : List UInt8) (hw : sumW l ≤ 100000000) (hs : s.length ≤ 100000000) : ACalls Tryz.prog (gD m) 10 [v0, .str s] ⟨[], []⟩ (fun r _ => r = .bool true) := by
  have hln := (hv.hvr ⟨[], []⟩).len
  rw [List.length_map] at hln
  have hll : l.length ≤ 100000000 := Nat.le_trans (sum_len ndW ndW_pos l) hw
  refine ACalls_fn tok fm (fk10 _) ?_
  cases q1 : decide ((100 : Int) < (l.length : Int)) with
  | true =>
    simp (disch := first | omega | (simp only [ln]; first | done | omega)) only [walkAll, walkL, walkK, wk, E, Nat.reduceEqDiff, Nat.reduceAdd, Nat.reduceSub, Nat.reduceLeDiff, Int.reduceLT, Int.reduceLE, Int.reduceAdd, Int.reduceSub, Int.reduceToNat, ↓reduceIte, c10, hln, q1]
    refine awake9_c ?_
    simp (disch := first | omega | (simp only [ln]; first | done | omega)) only [walkAll, walkL, walkK, wk, E, Nat.reduceEqDiff, Nat.reduceAdd, Nat.reduceSub, Nat.reduceLeDiff, Int.reduceLT, Int.reduceLE, Int.reduceAdd, Int.reduceSub, Int.reduceToNat, ↓reduceIte]
  | false =>
  cases q2 : decide ((4000 : Int) < (s.length : Int)) with
  | true =>
    simp (disch := first | omega | (simp only [ln]; first | done | omega)) only [walkAll, walkL, walkK, wk, E, Nat.reduceEqDiff, Nat.reduceAdd, Nat.reduceSub, Nat.reduceLeDiff, Int.reduceLT, Int.reduceLE, Int.reduceAdd, Int.reduceSub, Int.reduceToNat, ↓reduceIte, c10, hln, q1, q2]
    refine awake9_c ?_
    simp (disch := first | omega | (simp only [ln]; first | done | omega)) only [walkAll, walkL, walkK, wk, E, Nat.reduceEqDiff, Nat.reduceAdd, Nat.reduceSub, Nat.reduceLeDiff, Int.reduceLT, Int.reduceLE, Int.reduceAdd, Int.reduceSub, Int.reduceToNat, ↓reduceIte]
  | false =>
    have hs4 : s.length ≤ 4000 := by have := of_decide_eq_false q2; omega
    have hl1 : l.length ≤ 100 := by have := of_decide_eq_false q1; omega
    have hwl : rightS l = true → (writeS l).length ≤ 140737488355328 := fun h => by have := writeS_w h; omega
    simp (disch := first | omega | (simp only [ln]; first | done | omega)) only [walkAll, walkL, walkK, wk, E, Nat.reduceEqDiff, Nat.reduceAdd, Nat.reduceSub, Nat.reduceLeDiff, Int.reduceLT, Int.reduceLE, Int.reduceAdd, Int.reduceSub, Int.reduceToNat, ↓reduceIte, c10, hln, q1, q2]
    refine Write_c l v0 hv.hvr hv.hvd hv.one (by omega) (ndB_all (by omega)) hwl ?_
    cases hr : rightS l with
    | false =>
      simp only [Bool.false_eq_true, if_false]
      have e10 : ((10 : Int) == 0) = false := rfl
      simp (disch := first | omega | (simp only [ln]; first | done | omega)) only [walkAll, walkL, walkK, wk, E, Nat.reduceEqDiff, Nat.reduceAdd, Nat.reduceSub, Nat.reduceLeDiff, Int.reduceLT, Int.reduceLE, Int.reduceAdd, Int.reduceSub, Int.reduceToNat, ↓reduceIte, e10]
      refine ParseL_c s (by omega) ?_
      cases g : ((parseS s).2 == 0) with
      | false =>
        simp (disch := first | omega | (simp only [ln]; first | done | omega)) only [walkAll, walkL, walkK, wk, E, Nat.reduceEqDiff, Nat.reduceAdd, Nat.reduceSub, Nat.reduceLeDiff, Int.reduceLT, Int.reduceLE, Int.reduceAdd, Int.reduceSub, Int.reduceToNat, ↓reduceIte, bne, g, Bool.not_false]
        refine awake9_c ?_
        simp (disch := first | omega | (simp only [ln]; first | done | omega)) only [walkAll, walkL, walkK, wk, E, Nat.reduceEqDiff, Nat.reduceAdd, Nat.reduceSub, Nat.reduceLeDiff, Int.reduceLT, Int.reduceLE, Int.reduceAdd, Int.reduceSub, Int.reduceToNat, ↓reduceIte]
      | true =>
        have g0 : (parseS s).2 = 0 := by simpa using g
        have hpr : rightS (parseS s).1 = true := parse_right (s := s) (by rw [← g0])
        obtain ⟨pw1, pw2⟩ := parse_w s hs4
        have hpl : (parseS s).1.length ≤ 500 := by
          have h1 := hpr
          unfold rightS at h1
          simp only [Bool.and_eq_true, decide_eq_true_eq] at h1
          exact h1.2.1
        have hww := writeS_w hpr
        simp (disch := first | omega | (simp only [ln]; first | done | omega)) only [walkAll, walkL, walkK, wk, E, Nat.reduceEqDiff, Nat.reduceAdd, Nat.reduceSub, Nat.reduceLeDiff, Int.reduceLT, Int.reduceLE, Int.reduceAdd, Int.reduceSub, Int.reduceToNat, ↓reduceIte, bne, g, Bool.not_true]
        refine Write_c (parseS s).1 (lsv ((parseS s).1.map Nd.c)) (nds_hvr _) (nds_data _) ⟨lsv_cells _, lsv_one _⟩ (by omega) pw2 (fun _ => by omega) ?_
        rw [hpr]
        simp only [if_true]
        simp (disch := first | omega | (simp only [ln]; first | done | omega)) only [walkAll, walkL, walkK, wk, E, Nat.reduceEqDiff, Nat.reduceAdd, Nat.reduceSub, Nat.reduceLeDiff, Int.reduceLT, Int.reduceLE, Int.reduceAdd, Int.reduceSub, Int.reduceToNat, ↓reduceIte]
        refine ParseL_c (writeS (parseS s).1) (by omega) ?_
        simp (disch := first | omega | (simp only [ln]; first | done | omega)) only [walkAll, walkL, walkK, wk, E, Nat.reduceEqDiff, Nat.reduceAdd, Nat.reduceSub, Nat.reduceLeDiff, Int.reduceLT, Int.reduceLE, Int.reduceAdd, Int.reduceSub, Int.reduceToNat, ↓reduceIte]
        refine awake9_c ?_
        cases g2 : decide ((4096 : Int) < ((writeS (parseS s).1).length : Int)) with
        | true =>
          simp (disch := first | omega | (simp only [ln]; first | done | omega)) only [walkAll, walkL, walkK, wk, E, Nat.reduceEqDiff, Nat.reduceAdd, Nat.reduceSub, Nat.reduceLeDiff, Int.reduceLT, Int.reduceLE, Int.reduceAdd, Int.reduceSub, Int.reduceToNat, ↓reduceIte, beq_self_eq_true, g2]
        | false =>
          have hle : (writeS (parseS s).1).length ≤ 4096 := by have := of_decide_eq_false g2; omega
          have hbk : parseS (writeS (parseS s).1) = ((parseS s).1.map plainN, 0) := right_back hpr hle
          rw [hbk]
          simp (disch := first | omega | (simp only [ln]; first | done | omega)) only [walkAll, walkL, walkK, wk, E, Nat.reduceEqDiff, Nat.reduceAdd, Nat.reduceSub, Nat.reduceLeDiff, Int.reduceLT, Int.reduceLE, Int.reduceAdd, Int.reduceSub, Int.reduceToNat, ↓reduceIte, beq_self_eq_true, g2]
          refine sameNodes_c (parseS s).1 (by omega) (fun n hn => by have := (pw2 n hn).2.2.1; omega) ?_
          simp (disch := first | omega | (simp only [ln]; first | done | omega)) only [walkAll, walkL, walkK, wk, E, Nat.reduceEqDiff, Nat.reduceAdd, Nat.reduceSub, Nat.reduceLeDiff, Int.reduceLT, Int.reduceLE, Int.reduceAdd, Int.reduceSub, Int.reduceToNat, ↓reduceIte]
    | true =>
      simp only [if_true]
      cases q3 : decide (((writeS l).length : Int) ≤ 4096) with
      | false =>
        simp (disch := first | omega | (simp only [ln]; first | done | omega)) only [walkAll, walkL, walkK, wk, E, Nat.reduceEqDiff, Nat.reduceAdd, Nat.reduceSub, Nat.reduceLeDiff, Int.reduceLT, Int.reduceLE, Int.reduceAdd, Int.reduceSub, Int.reduceToNat, ↓reduceIte, beq_self_eq_true, q3]
        refine ParseL_c s (by omega) ?_
        cases g : ((parseS s).2 == 0) with
        | false =>
          simp (disch := first | omega | (simp only [ln]; first | done | omega)) only [walkAll, walkL, walkK, wk, E, Nat.reduceEqDiff, Nat.reduceAdd, Nat.reduceSub, Nat.reduceLeDiff, Int.reduceLT, Int.reduceLE, Int.reduceAdd, Int.reduceSub, Int.reduceToNat, ↓reduceIte, bne, g, Bool.not_false]
          refine awake9_c ?_
          simp (disch := first | omega | (simp only [ln]; first | done | omega)) only [walkAll, walkL, walkK, wk, E, Nat.reduceEqDiff, Nat.reduceAdd, Nat.reduceSub, Nat.reduceLeDiff, Int.reduceLT, Int.reduceLE, Int.reduceAdd, Int.reduceSub, Int.reduceToNat, ↓reduceIte]
        | true =>
          have g0 : (parseS s).2 = 0 := by simpa using g
          have hpr : rightS (parseS s).1 = true := parse_right (s := s) (by rw [← g0])
          obtain ⟨pw1, pw2⟩ := parse_w s hs4
          have hpl : (parseS s).1.length ≤ 500 := by
            have h1 := hpr
            unfold rightS at h1
            simp only [Bool.and_eq_true, decide_eq_true_eq] at h1
            exact h1.2.1
          have hww := writeS_w hpr
          simp (disch := first | omega | (simp only [ln]; first | done | omega)) only [walkAll, walkL, walkK, wk, E, Nat.reduceEqDiff, Nat.reduceAdd, Nat.reduceSub, Nat.reduceLeDiff, Int.reduceLT, Int.reduceLE, Int.reduceAdd, Int.reduceSub, Int.reduceToNat, ↓reduceIte, bne, g, Bool.not_true]
          refine Write_c (parseS s).1 (lsv ((parseS s).1.map Nd.c)) (nds_hvr _) (nds_data _) ⟨lsv_cells _, lsv_one _⟩ (by omega) pw2 (fun _ => by omega) ?_
          rw [hpr]
          simp only [if_true]
          simp (disch := first | omega | (simp only [ln]; first | done | omega)) only [walkAll, walkL, walkK, wk, E, Nat.reduceEqDiff, Nat.reduceAdd, Nat.reduceSub, Nat.reduceLeDiff, Int.reduceLT, Int.reduceLE, Int.reduceAdd, Int.reduceSub, Int.reduceToNat, ↓reduceIte]
          refine ParseL_c (writeS (parseS s).1) (by omega) ?_
          simp (disch := first | omega | (simp only [ln]; first | done | omega)) only [walkAll, walkL, walkK, wk, E, Nat.reduceEqDiff, Nat.reduceAdd, Nat.reduceSub, Nat.reduceLeDiff, Int.reduceLT, Int.reduceLE, Int.reduceAdd, Int.reduceSub, Int.reduceToNat, ↓reduceIte]
          refine awake9_c ?_
          cases g2 : decide ((4096 : Int) < ((writeS (parseS s).1).length : Int)) with
          | true =>
            simp (disch := first | omega | (simp only [ln]; first | done | omega)) only [walkAll, walkL, walkK, wk, E, Nat.reduceEqDiff, Nat.reduceAdd, Nat.reduceSub, Nat.reduceLeDiff, Int.reduceLT, Int.reduceLE, Int.reduceAdd, Int.reduceSub, Int.reduceToNat, ↓reduceIte, beq_self_eq_true, g2]
          | false =>
            have hle : (writeS (parseS s).1).length ≤ 4096 := by have := of_decide_eq_false g2; omega
            have hbk : parseS (writeS (parseS s).1) = ((parseS s).1.map plainN, 0) := right_back hpr hle
            rw [hbk]
            simp (disch := first | omega | (simp only [ln]; first | done | omega)) only [walkAll, walkL, walkK, wk, E, Nat.reduceEqDiff, Nat.reduceAdd, Nat.reduceSub, Nat.reduceLeDiff, Int.reduceLT, Int.reduceLE, Int.reduceAdd, Int.reduceSub, Int.reduceToNat, ↓reduceIte, beq_self_eq_true, g2]
            refine sameNodes_c (parseS s).1 (by omega) (fun n hn => by have := (pw2 n hn).2.2.1; omega) ?_
            simp (disch := first | omega | (simp only [ln]; first | done | omega)) only [walkAll, walkL, walkK, wk, E, Nat.reduceEqDiff, Nat.reduceAdd, Nat.reduceSub, Nat.reduceLeDiff, Int.reduceLT, Int.reduceLE, Int.reduceAdd, Int.reduceSub, Int.reduceToNat, ↓reduceIte]
      | true =>
        have hle4 : (writeS l).length ≤ 4096 := by have := of_decide_eq_true q3; omega
        simp (disch := first | omega | (simp only [ln]; first | done | omega)) only [walkAll, walkL, walkK, wk, E, Nat.reduceEqDiff, Nat.reduceAdd, Nat.reduceSub, Nat.reduceLeDiff, Int.reduceLT, Int.reduceLE, Int.reduceAdd, Int.reduceSub, Int.reduceToNat, ↓reduceIte, beq_self_eq_true, q3]
        refine ParseL_c (writeS l) (by omega) ?_
        have hbk1 : parseS (writeS l) = (l.map plainN, 0) := right_back hr hle4
        rw [hbk1]
        simp (disch := first | omega | (simp only [ln]; first | done | omega)) only [walkAll, walkL, walkK, wk, E, Nat.reduceEqDiff, Nat.reduceAdd, Nat.reduceSub, Nat.reduceLeDiff, Int.reduceLT, Int.reduceLE, Int.reduceAdd, Int.reduceSub, Int.reduceToNat, ↓reduceIte, bne, beq_self_eq_true, Bool.not_true]
        refine sameNodes2_c l v0 (hv.hvr _) (by omega) (fun n hn => by have := (ndB_all (l := l) (by omega) n hn).2.2.1; omega) ?_
        simp (disch := first | omega | (simp only [ln]; first | done | omega)) only [walkAll, walkL, walkK, wk, E, Nat.reduceEqDiff, Nat.reduceAdd, Nat.reduceSub, Nat.reduceLeDiff, Int.reduceLT, Int.reduceLE, Int.reduceAdd, Int.reduceSub, Int.reduceToNat, ↓reduceIte, Bool.not_true]
        refine ParseL_c s (by omega) ?_
        cases g : ((parseS s).2 == 0) with
        | false =>
          simp (disch := first | omega | (simp only [ln]; first | done | omega)) only [walkAll, walkL, walkK, wk, E, Nat.reduceEqDiff, Nat.reduceAdd, Nat.reduceSub, Nat.reduceLeDiff, Int.reduceLT, Int.reduceLE, Int.reduceAdd, Int.reduceSub, Int.reduceToNat, ↓reduceIte, bne, g, Bool.not_false]
          refine awake9_c ?_
          simp (disch := first | omega | (simp only [ln]; first | done | omega)) only [walkAll, walkL, walkK, wk, E, Nat.reduceEqDiff, Nat.reduceAdd, Nat.reduceSub, Nat.reduceLeDiff, Int.reduceLT, Int.reduceLE, Int.reduceAdd, Int.reduceSub, Int.reduceToNat, ↓reduceIte]
        | true =>
          have g0 : (parseS s).2 = 0 := by simpa using g
          have hpr : rightS (parseS s).1 = true := parse_right (s := s) (by rw [← g0])
          obtain ⟨pw1, pw2⟩ := parse_w s hs4
          have hpl : (parseS s).1.length ≤ 500 := by
            have h1 := hpr
            unfold rightS at h1
            simp only [Bool.and_eq_true, decide_eq_true_eq] at h1
            exact h1.2.1
          have hww := writeS_w hpr
          simp (disch := first | omega | (simp only [ln]; first | done | omega)) only [walkAll, walkL, walkK, wk, E, Nat.reduceEqDiff, Nat.reduceAdd, Nat.reduceSub, Nat.reduceLeDiff, Int.reduceLT, Int.reduceLE, Int.reduceAdd, Int.reduceSub, Int.reduceToNat, ↓reduceIte, bne, g, Bool.not_true]
          refine Write_c (parseS s).1 (lsv ((parseS s).1.map Nd.c)) (nds_hvr _) (nds_data _) ⟨lsv_cells _, lsv_one _⟩ (by omega) pw2 (fun _ => by omega) ?_
          rw [hpr]
          simp only [if_true]
          simp (disch := first | omega | (simp only [ln]; first | done | omega)) only [walkAll, walkL, walkK, wk, E, Nat.reduceEqDiff, Nat.reduceAdd, Nat.reduceSub, Nat.reduceLeDiff, Int.reduceLT, Int.reduceLE, Int.reduceAdd, Int.reduceSub, Int.reduceToNat, ↓reduceIte]
          refine ParseL_c (writeS (parseS s).1) (by omega) ?_
          simp (disch := first | omega | (simp only [ln]; first | done | omega)) only [walkAll, walkL, walkK, wk, E, Nat.reduceEqDiff, Nat.reduceAdd, Nat.reduceSub, Nat.reduceLeDiff, Int.reduceLT, Int.reduceLE, Int.reduceAdd, Int.reduceSub, Int.reduceToNat, ↓reduceIte]
          refine awake9_c ?_
          cases g2 : decide ((4096 : Int) < ((writeS (parseS s).1).length : Int)) with
          | true =>
            simp (disch := first | omega | (simp only [ln]; first | done | omega)) only [walkAll, walkL, walkK, wk, E, Nat.reduceEqDiff, Nat.reduceAdd, Nat.reduceSub, Nat.reduceLeDiff, Int.reduceLT, Int.reduceLE, Int.reduceAdd, Int.reduceSub, Int.reduceToNat, ↓reduceIte, beq_self_eq_true, g2]
          | false =>
            have hle : (writeS (parseS s).1).length ≤ 4096 := by have := of_decide_eq_false g2; omega
            have hbk : parseS (writeS (parseS s).1) = ((parseS s).1.map plainN, 0) := right_back hpr hle
            rw [hbk]
            simp (disch := first | omega | (simp only [ln]; first | done | omega)) only [walkAll, walkL, walkK, wk, E, Nat.reduceEqDiff, Nat.reduceAdd, Nat.reduceSub, Nat.reduceLeDiff, Int.reduceLT, Int.reduceLE, Int.reduceAdd, Int.reduceSub, Int.reduceToNat, ↓reduceIte, beq_self_eq_true, g2]
            refine sameNodes_c (parseS s).1 (by omega) (fun n hn => by have := (pw2 n hn).2.2.1; omega) ?_
            simp (disch := first | omega | (simp only [ln]; first | done | omega)) only [walkAll, walkL, walkK, wk, E, Nat.reduceEqDiff, Nat.reduceAdd, Nat.reduceSub, Nat.reduceLeDiff, Int.reduceLT, Int.reduceLE, Int.reduceAdd, Int.reduceSub, Int.reduceToNat, ↓reduceIte]
end
end Go.Ab.Sz.K
