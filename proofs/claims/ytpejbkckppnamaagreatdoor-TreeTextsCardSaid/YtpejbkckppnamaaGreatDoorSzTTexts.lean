/- Part of this work: see the text that closes the claim. -/
import Derived.Test.YtpejbkckppnamaaGreatDoorSzMany
import Derived.Test.YtpejbkckppnamaaGreatDoorT9
set_option linter.all false
set_option linter.unusedVariables false
set_option linter.unusedSimpArgs false
namespace Go.Ab.Sz
open Go Go.Ab Go.Proofs Go.RowKit
set_option maxRecDepth 40000
set_option linter.unusedSimpArgs false
def stc (s : List UInt8) : List AV := [.str s]
def inkB (l : List (List UInt8)) : Bool := !(l.all blankS)
theorem inkB_snoc (l : List (List UInt8)) (s : List UInt8) : inkB (l ++ [s]) = (inkB l || !blankS s) := by
  unfold inkB
  rw [List.all_append]
  cases l.all blankS <;> simp
theorem textsL_mem (kids : Bool) {X : Nat} : ∀ (l : List (List UInt8)), (∀ s ∈ l, s.length ≤ X) → ∀ t ∈ textsL kids l, t.attrs = [] ∧ t.text.length ≤ X
  | [], _, t, ht => by cases ht
  | s :: l, h, t, ht => by
    have ih := textsL_mem kids l (fun x hx => h x (by simp [hx])) t
    have h0 := h s (by simp)
    simp only [textsL] at ht
    split at ht
    · rcases List.mem_cons.1 ht with rfl | ht
      · exact ⟨rfl, h0⟩
      · rcases List.mem_cons.1 ht with rfl | ht
        · exact ⟨rfl, Nat.zero_le _⟩
        · exact ih ht
    · rcases List.mem_cons.1 ht with rfl | ht
      · exact ⟨rfl, h0⟩
      · exact ih ht
theorem flat_le (X : Nat) : ∀ (l : List (List UInt8)), (∀ s ∈ l, s.length ≤ X) → l.flatten.length ≤ l.length * X
  | [], _ => by simp
  | a :: l, h => by
    have h1 := h a (by simp)
    have h2 := flat_le X l fun b hb => h b (by simp [hb])
    simp only [List.flatten_cons, List.length_append, List.length_cons, Nat.add_mul]
    omega
section
variable {m : Int} {σ : St} {K : AV → St → Prop}
theorem texts_loop (l : List (List UInt8)) (v0 : AV) (hl : l.length ≤ 9223372036854775807) (hRd : ∀ τ, Rd 1 τ v0 (l.map stc)) (kids : Bool) {Q : EQ} : ∀ (f i : Nat) (v : AV) (ρ : Option Nat) (τ : St) (e : Env), i + f = min l.length 20 →
    (∀ s ∈ l.take i, s.length ≤ 50) → Lst 30 5 τ v ((aO :: textsL kids (l.take i)).map Tok.c) ρ → e 0 = some v0 → e 1 = some (.bool kids) → e 5 = some v → e 6 = some (.str (l.take i).flatten) → e 7 = some (.bool (inkB (l.take i))) → e 8 = some (.int .i64 i) →
    (∀ e' τ' v' ρ' L, L.length ≤ 20 → (∀ s ∈ L, s.length ≤ 50) → Lst 30 5 τ' v' ((aO :: textsL kids L).map Tok.c) ρ' → e' 1 = some (.bool kids) → e' 5 = some v' → e' 6 = some (.str L.flatten) → e' 7 = some (.bool (inkB L)) → Q (.exit 0) e' τ') →
    (∀ e' τ', e' 4 = some (.bool true) → Q .ret e' τ') → LoopC Tryz.prog tt (gD m) l8_0 Q e τ := by
  intro f
  induction f with
  | zero =>
    intro i v ρ τ e hif hs hL h0 h1 h5 h6 h7 h8 hx hr
    have hlen := (hRd τ).len
    rw [List.length_map] at hlen
    have fin : ∀ e' : Env, e' 1 = some (.bool kids) → e' 5 = some v → e' 6 = some (.str (l.take i).flatten) → e' 7 = some (.bool (inkB (l.take i))) → Q (.exit 0) e' τ := fun e' a b c d => hx e' τ v ρ (l.take i) (by simp; omega) hs hL a b c d
    refine LoopC_unfold tok fm ?_
    by_cases hi : l.length ≤ i
    · have hb : decide ((i : Int) < (l.length : Int)) = false := by simp; omega
      simp (disch := first | omega | (simp only [ln]; first | done | omega)) only [walkAll, walkL, walkK, wk, E, Nat.reduceEqDiff, Nat.reduceAdd, Nat.reduceSub, Nat.reduceLeDiff, Int.reduceLT, Int.reduceLE, Int.reduceAdd, Int.reduceSub, Int.reduceToNat, ↓reduceIte, l8_0x, l8_0b, h0, h8, hlen, hb]
      exact fin _ (by simp [put, h1]) (by simp [put, h5]) (by simp [put, h6]) (by simp [put, h7])
    · have hb : decide ((i : Int) < (l.length : Int)) = true := by simp; omega
      have hb2 : decide ((i : Int) < 20) = false := by simp; omega
      simp (disch := first | omega | (simp only [ln]; first | done | omega)) only [walkAll, walkL, walkK, wk, E, Nat.reduceEqDiff, Nat.reduceAdd, Nat.reduceSub, Nat.reduceLeDiff, Int.reduceLT, Int.reduceLE, Int.reduceAdd, Int.reduceSub, Int.reduceToNat, ↓reduceIte, l8_0x, l8_0b, h0, h8, hlen, hb, hb2]
      exact fin _ (by simp [put, h1]) (by simp [put, h5]) (by simp [put, h6]) (by simp [put, h7])
  | succ f ih =>
    intro i v ρ τ e hif hs hL h0 h1 h5 h6 h7 h8 hx hr
    have hlen := (hRd τ).len
    rw [List.length_map] at hlen
    have hi : i < l.length := by omega
    have hb : decide ((i : Int) < (l.length : Int)) = true := by simp; omega
    have hb2 : decide ((i : Int) < 20) = true := by simp; omega
    obtain ⟨s, hc⟩ : ∃ s, l[i]? = some s := ⟨l[i], List.getElem?_eq_getElem hi⟩
    have w1 : IntKind.i64.wrap ((i : Int) + 1) = ((i + 1 : Nat) : Int) := by rw [wrap_i64 _ (by omega) (by omega)]; rfl
    have htk : l.take (i + 1) = l.take i ++ [s] := by rw [List.take_succ, hc]; rfl
    obtain ⟨p, hp, hpt⟩ := (hRd τ).at (i := i) (c := stc s) (by rw [List.getElem?_map, hc]; rfl) .i64
    have hld := hpt.one
    have hll : (textsL kids (l.take i)).length ≤ 40 := by
      rw [textsL_len]
      have : (l.take i).length ≤ 20 := by simp; omega
      split <;> omega
    have hfl : (l.take i).flatten.length ≤ 1000 := by
      have h1 := flat_le 50 _ hs
      have : (l.take i).length ≤ 20 := by simp; omega
      have : (l.take i).length * 50 ≤ 20 * 50 := Nat.mul_le_mul this (Nat.le_refl _)
      omega
    refine LoopC_unfold tok fm ?_
    cases q : decide ((50 : Int) < (s.length : Int)) with
    | true =>
      simp (disch := first | omega | (simp only [ln]; first | done | omega)) only [walkAll, walkL, walkK, wk, E, Nat.reduceEqDiff, Nat.reduceAdd, Nat.reduceSub, Nat.reduceLeDiff, Int.reduceLT, Int.reduceLE, Int.reduceAdd, Int.reduceSub, Int.reduceToNat, ↓reduceIte, l8_0x, l8_0b, h0, h8, hlen, hb, hb2, hp, hld, q]
      refine awake8_c ?_
      simp (disch := first | omega | (simp only [ln]; first | done | omega)) only [walkAll, walkL, walkK, wk, E, Nat.reduceEqDiff, Nat.reduceAdd, Nat.reduceSub, Nat.reduceLeDiff, Int.reduceLT, Int.reduceLE, Int.reduceAdd, Int.reduceSub, Int.reduceToNat, ↓reduceIte]
      exact hr _ _ (by simp [put])
    | false =>
      have hq := of_decide_eq_false q
      have hs' : ∀ x ∈ l.take (i + 1), x.length ≤ 50 := fun x hx => by
        rw [htk] at hx
        rcases List.mem_append.1 hx with hx | hx
        · exact hs x hx
        · have : x = s := by simpa using hx
          rw [this]; omega
      simp (disch := first | omega | (simp only [ln]; first | done | omega)) only [walkAll, walkL, walkK, wk, E, Nat.reduceEqDiff, Nat.reduceAdd, Nat.reduceSub, Nat.reduceLeDiff, Int.reduceLT, Int.reduceLE, Int.reduceAdd, Int.reduceSub, Int.reduceToNat, ↓reduceIte, l8_0x, l8_0b, h0, h5, h8, hlen, hb, hb2, hp, hld, q]
      refine app_one (e := 30) (z := 5) (b := 72) (c := (tx s).c) hL rfl rfl (by simp; omega) (fun v1 σ1 ρ1 hL1 hb1 => ?_)
      obtain ⟨p', hp', hpt'⟩ := (hRd σ1).at (i := i) (c := stc s) (by rw [List.getElem?_map, hc]; rfl) .i64
      have hld' := hpt'.one
      have next : ∀ (e' : Env) (u : AV) (τ' : St) (ρ' : Option Nat), Lst 30 5 τ' u ((aO :: textsL kids (l.take (i + 1))).map Tok.c) ρ' → e' 0 = some v0 → e' 1 = some (.bool kids) → e' 5 = some u → e' 6 = some (.str ((l.take i).flatten ++ s)) → e' 7 = some (.bool (inkB (l.take i) || !blankS s)) → e' 8 = some (.int .i64 (i + 1 : Nat)) → LoopC Tryz.prog tt (gD m) l8_0 Q e' τ' := fun e' u τ' ρ' a b c d g1 g2 g3 =>
        ih (i + 1) u ρ' τ' e' (by omega) hs' a b c d (by rw [g1, htk]; simp) (by rw [g2, htk, inkB_snoc]) g3 hx hr
      cases kids with
      | true =>
        have eT : ((aO :: textsL true (l.take i)).map Tok.c ++ [(tx s).c]) ++ [bE.c] = (aO :: textsL true (l.take (i + 1))).map Tok.c := by rw [htk, textsL_app]; simp [textsL]
        have hlL1 : ((aO :: textsL true (l.take i)).map Tok.c ++ [(tx s).c]).length ≤ 42 := by simp; omega
        cases q7 : inkB (l.take i) with
        | true =>
          rw [q7] at h7 next
          simp (disch := first | omega | (simp only [ln]; first | done | omega)) only [walkAll, walkL, walkK, wk, E, Nat.reduceEqDiff, Nat.reduceAdd, Nat.reduceSub, Nat.reduceLeDiff, Int.reduceLT, Int.reduceLE, Int.reduceAdd, Int.reduceSub, Int.reduceToNat, ↓reduceIte, h0, h1, h5, h6, h7, h8, hp', hld', w1]
          refine app_one (e := 30) (z := 5) (b := 72) (c := bE.c) hL1 rfl rfl (by omega) (fun v2 σ2 ρ2 hL2 hb2 => ?_)
          simp (disch := first | omega | (simp only [ln]; first | done | omega)) only [walkAll, walkL, walkK, wk, E, Nat.reduceEqDiff, Nat.reduceAdd, Nat.reduceSub, Nat.reduceLeDiff, Int.reduceLT, Int.reduceLE, Int.reduceAdd, Int.reduceSub, Int.reduceToNat, ↓reduceIte, h8, w1]
          exact next _ v2 σ2 ρ2 (by rw [← eT]; exact hL2) (by simp [put, putE, h0]) (by simp [put, putE, h1]) (by simp [put, putE]) (by simp [put, putE]) (by simp [put, putE]) (by simp [put, putE])
        | false =>
          rw [q7] at h7 next
          simp (disch := first | omega | (simp only [ln]; first | done | omega)) only [walkAll, walkL, walkK, wk, E, Nat.reduceEqDiff, Nat.reduceAdd, Nat.reduceSub, Nat.reduceLeDiff, Int.reduceLT, Int.reduceLE, Int.reduceAdd, Int.reduceSub, Int.reduceToNat, ↓reduceIte, h0, h1, h5, h6, h7, h8, hp', hld', w1]
          refine rBlank_c s (by omega) ?_
          simp (disch := first | omega | (simp only [ln]; first | done | omega)) only [walkAll, walkL, walkK, wk, E, Nat.reduceEqDiff, Nat.reduceAdd, Nat.reduceSub, Nat.reduceLeDiff, Int.reduceLT, Int.reduceLE, Int.reduceAdd, Int.reduceSub, Int.reduceToNat, ↓reduceIte, h0, h1, h5, h6, h7, h8, hp', hld', w1]
          refine app_one (e := 30) (z := 5) (b := 72) (c := bE.c) hL1 rfl rfl (by omega) (fun v2 σ2 ρ2 hL2 hb2 => ?_)
          simp (disch := first | omega | (simp only [ln]; first | done | omega)) only [walkAll, walkL, walkK, wk, E, Nat.reduceEqDiff, Nat.reduceAdd, Nat.reduceSub, Nat.reduceLeDiff, Int.reduceLT, Int.reduceLE, Int.reduceAdd, Int.reduceSub, Int.reduceToNat, ↓reduceIte, h8, w1]
          exact next _ v2 σ2 ρ2 (by rw [← eT]; exact hL2) (by simp [put, putE, h0]) (by simp [put, putE, h1]) (by simp [put, putE]) (by simp [put, putE]) (by simp [put, putE]) (by simp [put, putE])
      | false =>
        have eT : ((aO :: textsL false (l.take i)).map Tok.c ++ [(tx s).c]) = (aO :: textsL false (l.take (i + 1))).map Tok.c := by rw [htk, textsL_app]; simp [textsL]
        cases q7 : inkB (l.take i) with
        | true =>
          rw [q7] at h7 next
          simp (disch := first | omega | (simp only [ln]; first | done | omega)) only [walkAll, walkL, walkK, wk, E, Nat.reduceEqDiff, Nat.reduceAdd, Nat.reduceSub, Nat.reduceLeDiff, Int.reduceLT, Int.reduceLE, Int.reduceAdd, Int.reduceSub, Int.reduceToNat, ↓reduceIte, h0, h1, h5, h6, h7, h8, hp', hld', w1]
          exact next _ v1 σ1 ρ1 (by rw [← eT]; exact hL1) (by simp [put, putE, h0]) (by simp [put, putE, h1]) (by simp [put, putE]) (by simp [put, putE]) (by simp [put, putE]) (by simp [put, putE])
        | false =>
          rw [q7] at h7 next
          simp (disch := first | omega | (simp only [ln]; first | done | omega)) only [walkAll, walkL, walkK, wk, E, Nat.reduceEqDiff, Nat.reduceAdd, Nat.reduceSub, Nat.reduceLeDiff, Int.reduceLT, Int.reduceLE, Int.reduceAdd, Int.reduceSub, Int.reduceToNat, ↓reduceIte, h0, h1, h5, h6, h7, h8, hp', hld', w1]
          refine rBlank_c s (by omega) ?_
          simp (disch := first | omega | (simp only [ln]; first | done | omega)) only [walkAll, walkL, walkK, wk, E, Nat.reduceEqDiff, Nat.reduceAdd, Nat.reduceSub, Nat.reduceLeDiff, Int.reduceLT, Int.reduceLE, Int.reduceAdd, Int.reduceSub, Int.reduceToNat, ↓reduceIte, h0, h1, h5, h6, h7, h8, hp', hld', w1]
          exact next _ v1 σ1 ρ1 (by rw [← eT]; exact hL1) (by simp [put, putE, h0]) (by simp [put, putE, h1]) (by simp [put, putE]) (by simp [put, putE]) (by simp [put, putE]) (by simp [put, putE])
theorem lst_one (c : List AV) (hc : c.length = 5) : Lst 30 5 ⟨[], [some ⟨30, 5, 0, [c]⟩]⟩ (.os 0 0 1) [c] (some 0) :=
  ⟨fun x hx => by have : x = c := by simpa using hx
                  rw [this]; exact hc, .inr ⟨by simp, 0, ⟨30, 5, 0, [c]⟩, rfl, rfl, rfl, rfl, rfl, rfl, by simp⟩⟩
theorem TreeTexts_law (l : List (List UInt8)) (v0 : AV) (hl : l.length ≤ 9223372036854775807) (hRd : ∀ τ, Rd 1 τ v0 (l.map stc)) (kids : Bool) : ACalls Tryz.prog (gD m) 8 [v0, .bool kids] ⟨[], []⟩ (fun r _ => r = .bool true) := by
  refine ACalls_fn tok fm (fk8 _) ?_
  simp (disch := first | omega | (simp only [ln]; first | done | omega)) only [walkAll, walkL, walkK, wk, E, Nat.reduceEqDiff, Nat.reduceAdd, Nat.reduceSub, Nat.reduceLeDiff, Int.reduceLT, Int.reduceLE, Int.reduceAdd, Int.reduceSub, Int.reduceToNat, ↓reduceIte, c8]
  refine texts_loop l v0 hl hRd kids (min l.length 20) 0 (.os 0 0 1) (some 0) _ _ (by omega) (by simp) (lst_one aO.c rfl) (by simp [put, E]) (by simp [put, E]) (by simp [put, E]) (by simp [put, E]) (by simp [put, E, inkB]) (by simp [put, E]) (fun e' τ' v' ρ' L hLn hLs hLst k1 k5 k6 k7 => ?_) (fun e' τ' k4 => ?_)
  case _ =>
    simp (disch := first | omega | (simp only [ln]; first | done | omega)) only [walkAll, walkL, walkK, wk, E, Nat.reduceEqDiff, Nat.reduceAdd, Nat.reduceSub, Nat.reduceLeDiff, Int.reduceLT, Int.reduceLE, Int.reduceAdd, Int.reduceSub, Int.reduceToNat, ↓reduceIte, k5]
    have hlt := textsL_len kids L
    have hll : (textsL kids L).length ≤ 40 := by rw [hlt]; split <;> omega
    refine app_one (e := 30) (z := 5) (b := 72) (c := aC.c) hLst rfl rfl (by simp; omega) (fun v2 σ2 ρ2 hL2 hb2 => ?_)
    have eT : (aO :: textsL kids L).map Tok.c ++ [aC.c] = (aO :: (textsL kids L ++ [aC])).map Tok.c := by simp
    rw [eT] at hL2
    obtain ⟨σ3, hgive, hvars⟩ := hL2.give
    have hmem : ∀ t ∈ aO :: (textsL kids L ++ [aC]), t.attrs = [] ∧ t.text.length ≤ 50 := fun t ht => by
      rcases List.mem_cons.1 ht with rfl | ht
      · exact ⟨rfl, by decide⟩
      · rcases List.mem_append.1 ht with ht | ht
        · exact textsL_mem kids L hLs t ht
        · have : t = aC := by simpa using ht
          rw [this]; exact ⟨rfl, by decide⟩
    simp (disch := first | omega | (simp only [ln]; first | done | omega)) only [walkAll, walkL, walkK, wk, E, Nat.reduceEqDiff, Nat.reduceAdd, Nat.reduceSub, Nat.reduceLeDiff, Int.reduceLT, Int.reduceLE, Int.reduceAdd, Int.reduceSub, Int.reduceToNat, ↓reduceIte, k5]
    refine ACalls.give1 hgive ?_
    refine Build_c (aO :: (textsL kids L ++ [aC])) (by simp; omega) (fun t ht => ?_) ?_ (data_flat fun t _ => tok_data t) ?_
    · obtain ⟨a, b⟩ := hmem t ht
      rw [a]; exact ⟨by decide, by omega⟩
    · have h1 := sum_le (fun t : Tok => t.text.length) 50 (aO :: (textsL kids L ++ [aC])) (fun t ht => (hmem t ht).2)
      have h2 : (aO :: (textsL kids L ++ [aC])).length * 50 ≤ 42 * 50 := Nat.mul_le_mul (by simp; omega) (Nat.le_refl _)
      omega
    have z0 : ((0 : Int) == 0) = true := rfl
    have hvl := hLst.len
    rw [List.length_map, List.length_cons] at hvl
    have plain : ∀ (e2 : Env), e2 6 = some (.str L.flatten) → True := fun _ _ => trivial
    have zt : ((nodA L.flatten).text == L.flatten) = true := by simp [nodA]
    obtain ⟨p, hp, hpt⟩ := (rd_lsv (nd_len [nodA L.flatten]) σ3).at (i := 0) (c := (nodA L.flatten).c) rfl .i64
    obtain ⟨p2, hp2, hl2⟩ := hpt.fld 2 _ rfl
    have hp0 : ixsX 4 σ3 (lsv ([nodA L.flatten].map Nd.c)) (.int .i64 0) = some p := hp
    have hlen := lsv_len ([nodA L.flatten].map Nd.c)
    rw [List.length_map] at hlen
    have z1 : (([nodA L.flatten].length : Int) == 1) = true := rfl
    have z11 : ((1 : Int) == 1) = true := rfl
    cases kids with
    | false =>
      rw [texts_build L]
      simp (disch := first | omega | (simp only [ln]; first | done | omega)) only [walkAll, walkL, walkK, wk, E, Nat.reduceEqDiff, Nat.reduceAdd, Nat.reduceSub, Nat.reduceLeDiff, Int.reduceLT, Int.reduceLE, Int.reduceAdd, Int.reduceSub, Int.reduceToNat, ↓reduceIte, k1, k5, k6, k7]
      refine awake8_c ?_
      simp (disch := first | omega | (simp only [ln]; first | done | omega)) only [walkAll, walkL, walkK, wk, E, Nat.reduceEqDiff, Nat.reduceAdd, Nat.reduceSub, Nat.reduceLeDiff, Int.reduceLT, Int.reduceLE, Int.reduceAdd, Int.reduceSub, Int.reduceToNat, ↓reduceIte, k1, k5, k6, k7, z0, hlen, z1, z11, hp0, hp2, hl2, zt]
    | true =>
      by_cases hL0 : L = []
      · subst hL0
        have q1 : decide ((1 : Int) < ((textsL true []).length + 1 : Nat)) = false := rfl
        rw [show textsL true [] = textsL false [] from rfl, texts_build []]
        simp (disch := first | omega | (simp only [ln]; first | done | omega)) only [walkAll, walkL, walkK, wk, E, Nat.reduceEqDiff, Nat.reduceAdd, Nat.reduceSub, Nat.reduceLeDiff, Int.reduceLT, Int.reduceLE, Int.reduceAdd, Int.reduceSub, Int.reduceToNat, ↓reduceIte, k1, k5, k6, k7, hvl, q1]
        refine awake8_c ?_
        simp (disch := first | omega | (simp only [ln]; first | done | omega)) only [walkAll, walkL, walkK, wk, E, Nat.reduceEqDiff, Nat.reduceAdd, Nat.reduceSub, Nat.reduceLeDiff, Int.reduceLT, Int.reduceLE, Int.reduceAdd, Int.reduceSub, Int.reduceToNat, ↓reduceIte, k1, k5, k6, k7, z0, hlen, z1, z11, hp0, hp2, hl2, zt]
      · have hpos := List.length_pos_iff.2 hL0
        rw [if_pos rfl] at hlt
        have q1 : decide ((1 : Int) < ((textsL true L).length + 1 : Nat)) = true := decide_eq_true (by omega)
        cases hb : inkB L with
        | true =>
          have hbl : blankS L.flatten = false := by rw [blank_flat]; unfold inkB at hb; simpa using hb
          have z12 : ((12 : Int) == 12) = true := rfl
          rw [kids_mixed L hL0 (by omega) hbl]
          rw [hb] at k7
          simp (disch := first | omega | (simp only [ln]; first | done | omega)) only [walkAll, walkL, walkK, wk, E, Nat.reduceEqDiff, Nat.reduceAdd, Nat.reduceSub, Nat.reduceLeDiff, Int.reduceLT, Int.reduceLE, Int.reduceAdd, Int.reduceSub, Int.reduceToNat, ↓reduceIte, k1, k5, k6, k7, hvl, q1]
          refine awake8_c ?_
          simp (disch := first | omega | (simp only [ln]; first | done | omega)) only [walkAll, walkL, walkK, wk, E, Nat.reduceEqDiff, Nat.reduceAdd, Nat.reduceSub, Nat.reduceLeDiff, Int.reduceLT, Int.reduceLE, Int.reduceAdd, Int.reduceSub, Int.reduceToNat, ↓reduceIte, k1, k5, k6, k7, z12]
        | false =>
          have hbl : blankS L.flatten = true := by rw [blank_flat]; unfold inkB at hb; simpa using hb
          have hlen := lsv_len ((nodA [] :: List.replicate L.length nb).map Nd.c)
          rw [List.length_map, List.length_cons, List.length_replicate] at hlen
          have wq : IntKind.i64.wrap (((textsL true L).length + 1 : Nat) - 1 : Int) = ((2 * L.length : Nat) : Int) := by rw [wrap_i64 _ (by omega) (by omega)]; omega
          have wt : ((2 * L.length : Nat) : Int).tdiv 2 = (L.length : Int) := by
            rw [Int.tdiv_eq_ediv_of_nonneg (by omega)]; omega
          have wl : IntKind.i64.wrap (L.length : Int) = (L.length : Int) := wrap_i64 _ (by omega) (by omega)
          have w1 : IntKind.i64.wrap (1 + (L.length : Int)) = ((L.length + 1 : Nat) : Int) := by rw [wrap_i64 _ (by omega) (by omega)]; push_cast; omega
          have zn : (((L.length + 1 : Nat) : Int) == ((L.length + 1 : Nat) : Int)) = true := by simp
          have ze : ((nodA []).text == []) = true := rfl
          obtain ⟨p', hp', hpt'⟩ := (rd_lsv (nd_len (nodA [] :: List.replicate L.length nb)) σ3).at (i := 0) (c := (nodA []).c) rfl .i64
          obtain ⟨p2', hp2', hl2'⟩ := hpt'.fld 2 _ rfl
          have hp0' : ixsX 4 σ3 (lsv ((nodA [] :: List.replicate L.length nb).map Nd.c)) (.int .i64 0) = some p' := hp'
          rw [kids_build L hL0 (by omega) hbl]
          rw [hb] at k7
          simp (disch := first | omega | (simp only [ln]; first | done | omega)) only [walkAll, walkL, walkK, wk, E, Nat.reduceEqDiff, Nat.reduceAdd, Nat.reduceSub, Nat.reduceLeDiff, Int.reduceLT, Int.reduceLE, Int.reduceAdd, Int.reduceSub, Int.reduceToNat, ↓reduceIte, k1, k5, k6, k7, hvl, q1]
          refine awake8_c ?_
          simp (disch := first | omega | (simp only [ln]; first | done | omega)) only [walkAll, walkL, walkK, wk, E, Nat.reduceEqDiff, Nat.reduceAdd, Nat.reduceSub, Nat.reduceLeDiff, Int.reduceLT, Int.reduceLE, Int.reduceAdd, Int.reduceSub, Int.reduceToNat, ↓reduceIte, k1, k5, k6, k7, hvl, z0, hlen, wq, wt, wl, w1, zn, hp0', hp2', hl2', ze]
  case _ =>
    simp (disch := first | omega | (simp only [ln]; first | done | omega)) only [walkAll, walkL, walkK, wk, E, Nat.reduceEqDiff, Nat.reduceAdd, Nat.reduceSub, Nat.reduceLeDiff, Int.reduceLT, Int.reduceLE, Int.reduceAdd, Int.reduceSub, Int.reduceToNat, ↓reduceIte, k4]
end
end Go.Ab.Sz
