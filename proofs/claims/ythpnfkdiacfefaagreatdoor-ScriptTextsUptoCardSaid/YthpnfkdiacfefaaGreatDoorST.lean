/- Part of this work: see the text that closes the claim. -/
import Derived.Test.YthpnfkdiacfefaaGreatDoorSG
set_option linter.all false
set_option linter.unusedVariables false
set_option linter.unusedSimpArgs false
namespace Go.Ab.Ss
open Go Go.Ab Go.Proofs Go.RowKit
set_option maxRecDepth 40000
set_option linter.unusedSimpArgs false
theorem Bld.pushV {T e : TypeId} {σ : St} {b : Nat} {l : List UInt8} {ρ : Option Nat} (h : Bld T e σ b l ρ) (v : VB) : Bld T e (σ.pushV v) b l ρ := by
  obtain ⟨a, buf, h1, h2, h3⟩ := h
  exact ⟨a, buf, by simp only [getV, St.pushV] at *; rw [List.getElem?_append_left (List.getElem?_eq_some_iff.1 h1).1]; exact h1, h2, h3⟩
theorem Bld.setV {T e : TypeId} {σ : St} {b : Nat} {l : List UInt8} {ρ : Option Nat} (h : Bld T e σ b l ρ) {k : Nat} (hk : k ≠ b) (v : VB) : Bld T e (σ.setV k v) b l ρ := by
  obtain ⟨a, buf, h1, h2, h3⟩ := h
  exact ⟨a, buf, by simp only [getV, St.setV] at *; rw [List.getElem?_set_ne hk]; exact h1, h2, h3⟩
theorem lines_len : ∀ l : List Fr, l.length ≤ (l.map lineS).flatten.length
  | [] => Nat.le_refl _
  | f :: l => by
    have := lines_len l
    simp only [List.map_cons, List.flatten_cons, List.length_append, List.length_cons, lineS]
    omega
theorem steps_len : ∀ l : List Stp, 2 * l.length ≤ (textS l).length
  | [] => Nat.le_refl _
  | s :: l => by
    have := steps_len l
    simp only [textS, List.map_cons, List.flatten_cons, List.length_append, List.length_cons, stepS] at *
    simp only [List.length_nil] at *
    omega
/-- The builder of a text under way. -/
structure InvB (σ0 : St) (b : Nat) (τ : St) (l : List UInt8) (ρ : Option Nat) : Prop where
  bld : Bld 37 5 τ b l ρ
  grown : Grown σ0 τ
  lo : nvs σ0 ≤ b
  row : ∀ k, ρ = some k → nrs σ0 ≤ k
theorem InvB.pushV {σ0 τ : St} {b : Nat} {l : List UInt8} {ρ : Option Nat} (h : InvB σ0 b τ l ρ) (v : VB) : InvB σ0 b (τ.pushV v) l ρ := ⟨Bld.pushV h.bld v, h.grown.pushV, h.lo, h.row⟩
theorem InvB.lt {σ0 τ : St} {b : Nat} {l : List UInt8} {ρ : Option Nat} (h : InvB σ0 b τ l ρ) : b < nvs τ := by obtain ⟨a, buf, h1, _⟩ := h.bld; exact getV_lt h1
theorem InvB.setV {σ0 τ : St} {b : Nat} {l : List UInt8} {ρ : Option Nat} (h : InvB σ0 b τ l ρ) {k : Nat} (hk : b < k) (v : VB) : InvB σ0 b (τ.setV k v) l ρ := ⟨Bld.setV h.bld (by omega) v, h.grown.setV (by have := h.lo; omega), h.lo, h.row⟩
theorem InvB.but {σ0 τ τ' : St} {b : Nat} {l l' : List UInt8} {ρ ρ' : Option Nat} (h : InvB σ0 b τ l ρ) (hb : Bld 37 5 τ' b l' ρ') (hbut : But τ τ' b ρ ρ') : InvB σ0 b τ' l' ρ' :=
  ⟨hb, hbut.grown h.grown h.lo h.row, h.lo, fun k hk => by
    rcases hbut.new with e | ⟨r, e, hle⟩
    · exact h.row k (by rw [← e]; exact hk)
    · rw [e] at hk; cases hk; exact Nat.le_trans h.grown.nrs hle⟩
section
variable {m : Int} {σ : St} {K : AV → St → Prop}
theorem txt_in (σ0 : St) (b : Nat) (x : AV) (fs : List Fr) (hRd : ∀ τ, Rd 2 τ x (fs.map Fr.c)) {Q : EQ} : ∀ (rest : List Fr) (k : Nat) (pre : List UInt8) (τ : St) (ρ : Option Nat) (e : Env),
    fs.drop k = rest → fs.length ≤ 1000000000 → (pre ++ (rest.map lineS).flatten).length ≤ 1000000000 → InvB σ0 b τ pre ρ → e 3 = some (.vp b 0) → e 17 = some x → e 18 = some (.int .i64 fs.length) → e 19 = some (.int .i64 k) →
    (∀ e' τ' ρ', InvB σ0 b τ' (pre ++ (rest.map lineS).flatten) ρ' → (∀ n, n = 3 ∨ n = 11 ∨ n = 12 ∨ n = 13 → e' n = e n) → Q (.exit 2) e' τ') → LoopC Tryz.prog tt (gD m) l5_0 Q e τ := by
  intro rest
  induction rest with
  | nil =>
    intro k pre τ ρ e hd hfl hpl hB h3 h17 h18 h19 hx
    have hi : fs.length ≤ k := by simpa using hd
    have hb : decide ((k : Int) < (fs.length : Int)) = false := by simp; omega
    refine LoopC_unfold tok fm ?_
    simp (disch := first | omega | (simp only [ln]; first | done | omega)) only [walkAll, walkL, walkK, wk, E, Nat.reduceEqDiff, Nat.reduceAdd, Nat.reduceSub, Nat.reduceLeDiff, Int.reduceLT, Int.reduceLE, Int.reduceAdd, Int.reduceSub, Int.reduceToNat, ↓reduceIte, l5_0x, l5_0b, h18, h19, hb]
    refine hx _ τ ρ (by simpa using hB) ?_
    rintro n (rfl | rfl | rfl | rfl) <;> simp [put]
  | cons f rest ih =>
    intro k pre τ ρ e hd hfl hpl hB h3 h17 h18 h19 hx
    obtain ⟨hc, hd'⟩ := drop_cons hd
    have hi := (List.getElem?_eq_some_iff.1 hc).1
    have hb : decide ((k : Int) < (fs.length : Int)) = true := by simp; omega
    obtain ⟨p, hp, hpt⟩ := (hRd τ).at (i := k) (c := f.c) (by rw [List.getElem?_map, hc]; rfl) .i64
    have hld := hpt.all (n := 2) rfl
    have hhl : (hexS (frameS f.b)).length ≤ 8196 := by rw [hexS_len]; have := (frameS_len f.b).1; omega
    have hll : (lineS f).length = (hexS (frameS f.b)).length + 2 := by simp [lineS]
    have hpl' : pre.length + (lineS f).length + ((rest.map lineS).flatten).length ≤ 1000000000 := by simpa [Nat.add_assoc] using hpl
    refine LoopC_unfold tok fm ?_
    simp (disch := first | omega | (simp only [ln]; first | done | omega)) only [walkAll, walkL, walkK, wk, E, Nat.reduceEqDiff, Nat.reduceAdd, Nat.reduceSub, Nat.reduceLeDiff, Int.reduceLT, Int.reduceLE, Int.reduceAdd, Int.reduceSub, Int.reduceToNat, ↓reduceIte, l5_0x, l5_0b, h3, h17, h18, h19, hb, hp, hld, Fr.c, lsq_cells, lsq_one]
    have go : ∀ (e' : Env) (τ' : St) (ρ' : Option Nat), InvB σ0 b τ' (pre ++ lineS f) ρ' → e' 3 = some (.vp b 0) → e' 17 = some x → e' 18 = some (.int .i64 fs.length) → e' 19 = some (.int .i64 (k + 1 : Nat)) → (∀ n, n = 3 ∨ n = 11 ∨ n = 12 ∨ n = 13 → e' n = e n) → LoopC Tryz.prog tt (gD m) l5_0 Q e' τ' := fun e' τ' ρ' hB' a3 a17 a18 a19 hn => by
      refine ih (k + 1) (pre ++ lineS f) τ' ρ' e' hd' hfl (by simp only [List.length_append] at hpl' ⊢; omega) hB' a3 a17 a18 a19 (fun e2 τ2 ρ2 hB2 hn2 => hx e2 τ2 ρ2 ?_ (fun n hn3 => (hn2 n hn3).trans (hn n hn3)))
      simpa using hB2
    have hbt := hB.lt
    have hlt0 : nvs τ < nvs τ + 1 := Nat.lt_succ_self _
    cases hs : (f.side == 0) with
    | true =>
      have hL : lineS f = 88 :: (hexS (frameS f.b) ++ [10]) := by simp only [lineS, hs, if_true]
      simp (disch := first | omega | (simp only [ln]; first | done | omega)) only [walkAll, walkL, walkK, wk, E, Nat.reduceEqDiff, Nat.reduceAdd, Nat.reduceSub, Nat.reduceLeDiff, Int.reduceLT, Int.reduceLE, Int.reduceAdd, Int.reduceSub, Int.reduceToNat, ↓reduceIte, h3, h17, h18, h19]
      have hBp := hB.pushV (.cells 26 [.int .i64 f.side, lsq f.nn (bytesE f.b)])
      refine linkFrame_c f.nn f.b ?_
      simp (disch := first | omega | (simp only [ln]; first | done | omega)) only [walkAll, walkL, walkK, wk, E, Nat.reduceEqDiff, Nat.reduceAdd, Nat.reduceSub, Nat.reduceLeDiff, Int.reduceLT, Int.reduceLE, Int.reduceAdd, Int.reduceSub, Int.reduceToNat, ↓reduceIte, h3, h17, h18, h19]
      refine digitsHex_c (frameS f.b) (by have := (frameS_len f.b).1; omega) ?_
      simp (disch := first | omega | (simp only [ln]; first | done | omega)) only [walkAll, walkL, walkK, wk, E, Nat.reduceEqDiff, Nat.reduceAdd, Nat.reduceSub, Nat.reduceLeDiff, Int.reduceLT, Int.reduceLE, Int.reduceAdd, Int.reduceSub, Int.reduceToNat, ↓reduceIte, h3, h17, h18, h19]
      refine WriteString_c b pre _ ρ hBp.bld (by simp; omega) fun τ1 ρ1 hB1 hbut => ?_
      simp (disch := first | omega | (simp only [ln]; first | done | omega)) only [walkAll, walkL, walkK, wk, E, Nat.reduceEqDiff, Nat.reduceAdd, Nat.reduceSub, Nat.reduceLeDiff, Int.reduceLT, Int.reduceLE, Int.reduceAdd, Int.reduceSub, Int.reduceToNat, ↓reduceIte, h3, h17, h18, h19]
      refine go _ τ1 ρ1 (hBp.but ?_ hbut) (by simp [put, h3]) (by simp [put, h17]) (by simp [put, h18]) (by simp [put]) ?_
      · rw [hL]; simpa using hB1
      · rintro n (rfl | rfl | rfl | rfl) <;> simp [put]
    | false =>
      have hL : lineS f = 66 :: (hexS (frameS f.b) ++ [10]) := by simp [lineS, hs]
      simp (disch := first | omega | (simp only [ln]; first | done | omega)) only [walkAll, walkL, walkK, wk, E, Nat.reduceEqDiff, Nat.reduceAdd, Nat.reduceSub, Nat.reduceLeDiff, Int.reduceLT, Int.reduceLE, Int.reduceAdd, Int.reduceSub, Int.reduceToNat, ↓reduceIte, h3, h17, h18, h19]
      have hBp := hB.pushV (.cells 26 [.int .i64 f.side, lsq f.nn (bytesE f.b)])
      refine linkFrame_c f.nn f.b ?_
      simp (disch := first | omega | (simp only [ln]; first | done | omega)) only [walkAll, walkL, walkK, wk, E, Nat.reduceEqDiff, Nat.reduceAdd, Nat.reduceSub, Nat.reduceLeDiff, Int.reduceLT, Int.reduceLE, Int.reduceAdd, Int.reduceSub, Int.reduceToNat, ↓reduceIte, h3, h17, h18, h19]
      refine digitsHex_c (frameS f.b) (by have := (frameS_len f.b).1; omega) ?_
      simp (disch := first | omega | (simp only [ln]; first | done | omega)) only [walkAll, walkL, walkK, wk, E, Nat.reduceEqDiff, Nat.reduceAdd, Nat.reduceSub, Nat.reduceLeDiff, Int.reduceLT, Int.reduceLE, Int.reduceAdd, Int.reduceSub, Int.reduceToNat, ↓reduceIte, h3, h17, h18, h19]
      refine WriteString_c b pre _ ρ hBp.bld (by simp; omega) fun τ1 ρ1 hB1 hbut => ?_
      simp (disch := first | omega | (simp only [ln]; first | done | omega)) only [walkAll, walkL, walkK, wk, E, Nat.reduceEqDiff, Nat.reduceAdd, Nat.reduceSub, Nat.reduceLeDiff, Int.reduceLT, Int.reduceLE, Int.reduceAdd, Int.reduceSub, Int.reduceToNat, ↓reduceIte, h3, h17, h18, h19]
      refine go _ τ1 ρ1 (hBp.but ?_ hbut) (by simp [put, h3]) (by simp [put, h17]) (by simp [put, h18]) (by simp [put]) ?_
      · rw [hL]; simpa using hB1
      · rintro n (rfl | rfl | rfl | rfl) <;> simp [put]
theorem txt_out (σ0 : St) (b : Nat) (x : AV) (ls : List Stp) {Q : EQ} (hRd : ∀ τ, Grown σ0 τ → Rd 1 τ x (ls.map Stp.c)) : ∀ (rest : List Stp) (k : Nat) (pre : List UInt8) (τ : St) (ρ : Option Nat) (e : Env),
    ls.drop k = rest → ls.length ≤ 1000000000 → (pre ++ textS rest).length ≤ 1000000000 → InvB σ0 b τ pre ρ → e 3 = some (.vp b 0) → e 11 = some x → e 12 = some (.int .i64 ls.length) → e 13 = some (.int .i64 k) →
    (∀ e' τ' ρ', InvB σ0 b τ' (pre ++ textS rest) ρ' → e' 3 = some (.vp b 0) → Q (.exit 0) e' τ') → LoopC Tryz.prog tt (gD m) l5_1 Q e τ := by
  intro rest
  induction rest with
  | nil =>
    intro k pre τ ρ e hd hfl hpl hB h3 h11 h12 h13 hx
    have hi : ls.length ≤ k := by simpa using hd
    have hb : decide ((k : Int) < (ls.length : Int)) = false := by simp; omega
    refine LoopC_unfold tok fm ?_
    simp (disch := first | omega | (simp only [ln]; first | done | omega)) only [walkAll, walkL, walkK, wk, E, Nat.reduceEqDiff, Nat.reduceAdd, Nat.reduceSub, Nat.reduceLeDiff, Int.reduceLT, Int.reduceLE, Int.reduceAdd, Int.reduceSub, Int.reduceToNat, ↓reduceIte, l5_1x, l5_1b, h12, h13, hb]
    exact hx _ τ ρ (by simpa [textS] using hB) (by simp [put, h3])
  | cons s rest ih =>
    intro k pre τ ρ e hd hfl hpl hB h3 h11 h12 h13 hx
    obtain ⟨hc, hd'⟩ := drop_cons hd
    have hi := (List.getElem?_eq_some_iff.1 hc).1
    have hb : decide ((k : Int) < (ls.length : Int)) = true := by simp; omega
    obtain ⟨p, hp, hpt⟩ := (hRd τ hB.grown).at (i := k) (c := s.c) (by rw [List.getElem?_map, hc]; rfl) .i64
    have hld : ldX none τ p = some (lsq s.nn (s.l.map Fr.c)) := hpt.one
    have hln : lenlX (lsq s.nn (s.l.map Fr.c)) = some (.int .i64 s.l.length) := by rw [lenlX_lsq, List.length_map]
    have ht : textS (s :: rest) = stepS s ++ textS rest := rfl
    rw [ht] at hpl
    have hsl : (stepS s).length = ((s.l.map lineS).flatten).length + 2 := by simp [stepS]
    have hpl' : pre.length + (stepS s).length + (textS rest).length ≤ 1000000000 := by simpa [Nat.add_assoc] using hpl
    have hll := lines_len s.l
    refine LoopC_unfold tok fm ?_
    simp (disch := first | omega | (simp only [ln]; first | done | omega)) only [walkAll, walkL, walkK, wk, E, Nat.reduceEqDiff, Nat.reduceAdd, Nat.reduceSub, Nat.reduceLeDiff, Int.reduceLT, Int.reduceLE, Int.reduceAdd, Int.reduceSub, Int.reduceToNat, ↓reduceIte, l5_1x, l5_1b, h3, h11, h12, h13, hb, hp, hld, hln]
    refine txt_in σ0 b _ s.l (fun τ => rd_lsq s.nn (fr_len s.l) τ) s.l 0 pre τ ρ _ rfl (by omega) (by simp only [List.length_append]; omega) hB (by simp [put, h3]) (by simp [put]) (by simp [put]) (by simp [put]) fun e1 τ1 ρ1 hB1 hn1 => ?_
    have a3 : e1 3 = some (.vp b 0) := by rw [hn1 3 (by simp)]; simp [put, h3]
    have a11 : e1 11 = some x := by rw [hn1 11 (by simp)]; simp [put, h11]
    have a12 : e1 12 = some (.int .i64 ls.length) := by rw [hn1 12 (by simp)]; simp [put, h12]
    have a13 : e1 13 = some (.int .i64 k) := by rw [hn1 13 (by simp)]; simp [put, h13]
    simp (disch := first | omega | (simp only [ln]; first | done | omega)) only [walkAll, walkL, walkK, wk, E, Nat.reduceEqDiff, Nat.reduceAdd, Nat.reduceSub, Nat.reduceLeDiff, Int.reduceLT, Int.reduceLE, Int.reduceAdd, Int.reduceSub, Int.reduceToNat, ↓reduceIte, a3, a11, a12, a13]
    refine WriteString_c b _ _ ρ1 hB1.bld (by simp only [List.length_append, List.length_cons, List.length_nil]; omega) fun τ2 ρ2 hB2 hbut => ?_
    simp (disch := first | omega | (simp only [ln]; first | done | omega)) only [walkAll, walkL, walkK, wk, E, Nat.reduceEqDiff, Nat.reduceAdd, Nat.reduceSub, Nat.reduceLeDiff, Int.reduceLT, Int.reduceLE, Int.reduceAdd, Int.reduceSub, Int.reduceToNat, ↓reduceIte, a3, a11, a12, a13]
    refine ih (k + 1) (pre ++ stepS s) τ2 ρ2 _ hd' hfl (by simp only [List.length_append]; omega) (hB1.but ?_ hbut) (by simp [put, a3]) (by simp [put, a11]) (by simp [put, a12]) (by simp [put]) (fun e2 τ3 ρ3 hB3 h33 => hx e2 τ3 ρ3 (by rw [ht]; simpa using hB3) h33)
    simpa [stepS] using hB2
theorem scriptText_c (v : AV) (ls : List Stp) (hT : (textS ls).length ≤ 1000000000) (hRd : Rd 1 σ v (ls.map Stp.c)) (h : K (.str (textS ls)) σ) : ACalls Tryz.prog (gD m) 5 [v] σ K := by
  refine ACalls.close σ _ (.refl σ) (.str (textS ls)) ?_ h
  have hln : lenlX v = some (.int .i64 ls.length) := by have := hRd.len; rwa [List.length_map] at this
  have hsl := steps_len ls
  have hRd' : ∀ τ, Grown σ τ → Rd 1 τ v (ls.map Stp.c) := fun τ h => hRd.grown' h
  refine ACalls_fn tok fm (fk5 _) ?_
  simp (disch := first | omega | (simp only [ln]; first | done | omega)) only [walkAll, walkL, walkK, wk, E, Nat.reduceEqDiff, Nat.reduceAdd, Nat.reduceSub, Nat.reduceLeDiff, Int.reduceLT, Int.reduceLE, Int.reduceAdd, Int.reduceSub, Int.reduceToNat, ↓reduceIte, c5, hln]
  refine txt_out σ (nvs σ) v ls hRd' ls 0 [] _ none _ rfl (by omega) (by simpa using hT) ⟨⟨.nilp, .nils, by simp [getV, nvs, St.pushV], .inl rfl, .inl ⟨rfl, rfl, rfl⟩⟩, (Grown.refl σ).pushV, Nat.le_refl _, fun _ h => by cases h⟩ (by simp [put]) (by simp [put]) (by simp [put]) (by simp [put]) fun e' τ' ρ' hB' h3 => ?_
  simp (disch := first | omega | (simp only [ln]; first | done | omega)) only [walkAll, walkL, walkK, wk, E, Nat.reduceEqDiff, Nat.reduceAdd, Nat.reduceSub, Nat.reduceLeDiff, Int.reduceLT, Int.reduceLE, Int.reduceAdd, Int.reduceSub, Int.reduceToNat, ↓reduceIte, h3]
  refine String_c (nvs σ) _ ρ' hB'.bld (by simp; omega) fun σ' hbut => ?_
  simp (disch := first | omega | (simp only [ln]; first | done | omega)) only [walkAll, walkL, walkK, wk, E, Nat.reduceEqDiff, Nat.reduceAdd, Nat.reduceSub, Nat.reduceLeDiff, Int.reduceLT, Int.reduceLE, Int.reduceAdd, Int.reduceSub, Int.reduceToNat, ↓reduceIte]
  exact ⟨hbut.grown hB'.grown hB'.lo hB'.row, .inl (by simp)⟩
end
end Go.Ab.Ss
namespace Go.Ab.Ss
open Go Go.Ab Go.Proofs Go.RowKit
set_option maxRecDepth 40000
set_option linter.unusedSimpArgs false
section
variable {m : Int} {σ : St} {K : AV → St → Prop}
theorem rtxt_in (σ0 : St) (x y : AV) (k0 : Nat) (fs : List Fr) (hRd : ∀ τ, Rd 2 τ y (fs.map Fr.c)) (hat : ∀ τ, Grown σ0 τ → ∃ p, ixsX 1 τ x (.int .i64 k0) = some p ∧ ldX none τ p = some y) {Q : EQ} : ∀ (rest : List Fr) (k : Nat) (pre : List UInt8) (τ : St) (e : Env),
    fs.drop k = rest → fs.length ≤ 1000000000 → (pre ++ (rest.map lineS).flatten).length ≤ 1000000000 → Grown σ0 τ → e 0 = some x → e 4 = some (.int .i64 k0) → e 3 = some (.str pre) → e 5 = some (.int .i64 k) →
    (∀ e' τ', Grown σ0 τ' → e' 3 = some (.str (pre ++ (rest.map lineS).flatten)) → e' 0 = some x → e' 4 = some (.int .i64 k0) → Q (.exit 2) e' τ') → LoopC Tryz.prog tt (gD m) l6_0 Q e τ := by
  intro rest
  induction rest with
  | nil =>
    intro k pre τ e hd hfl hpl hB h0 h4 h3 h5 hx
    have hi : fs.length ≤ k := by simpa using hd
    have hb : decide ((k : Int) < (fs.length : Int)) = false := by simp; omega
    obtain ⟨p, hp, hl⟩ := hat τ hB
    have hln : lenlX y = some (.int .i64 fs.length) := by have := (hRd τ).len; rwa [List.length_map] at this
    refine LoopC_unfold tok fm ?_
    simp (disch := first | omega | (simp only [ln]; first | done | omega)) only [walkAll, walkL, walkK, wk, E, Nat.reduceEqDiff, Nat.reduceAdd, Nat.reduceSub, Nat.reduceLeDiff, Int.reduceLT, Int.reduceLE, Int.reduceAdd, Int.reduceSub, Int.reduceToNat, ↓reduceIte, l6_0x, l6_0b, h0, h4, h5, hp, hl, hln, hb]
    exact hx _ τ hB (by simp [put, h3]) (by simp [put, h0]) (by simp [put, h4])
  | cons f rest ih =>
    intro k pre τ e hd hfl hpl hB h0 h4 h3 h5 hx
    obtain ⟨hc, hd'⟩ := drop_cons hd
    have hi := (List.getElem?_eq_some_iff.1 hc).1
    have hb : decide ((k : Int) < (fs.length : Int)) = true := by simp; omega
    obtain ⟨p, hp, hl⟩ := hat τ hB
    have hln : lenlX y = some (.int .i64 fs.length) := by have := (hRd τ).len; rwa [List.length_map] at this
    obtain ⟨q, hq, hqt⟩ := (hRd τ).at (i := k) (c := f.c) (by rw [List.getElem?_map, hc]; rfl) .i64
    have hld := hqt.all (n := 2) rfl
    have hhl : (hexS (frameS f.b)).length ≤ 8196 := by rw [hexS_len]; have := (frameS_len f.b).1; omega
    have hll : (lineS f).length = (hexS (frameS f.b)).length + 2 := by simp [lineS]
    have hpl' : pre.length + (lineS f).length + ((rest.map lineS).flatten).length ≤ 1000000000 := by simpa [Nat.add_assoc] using hpl
    refine LoopC_unfold tok fm ?_
    simp (disch := first | omega | (simp only [ln]; first | done | omega)) only [walkAll, walkL, walkK, wk, E, Nat.reduceEqDiff, Nat.reduceAdd, Nat.reduceSub, Nat.reduceLeDiff, Int.reduceLT, Int.reduceLE, Int.reduceAdd, Int.reduceSub, Int.reduceToNat, ↓reduceIte, l6_0x, l6_0b, h0, h3, h4, h5, hb, hp, hl, hln, hq, hld, Fr.c, lsq_cells, lsq_one]
    have go : ∀ (e' : Env) (τ' : St), Grown σ0 τ' → e' 0 = some x → e' 4 = some (.int .i64 k0) → e' 3 = some (.str (pre ++ lineS f)) → e' 5 = some (.int .i64 (k + 1 : Nat)) → LoopC Tryz.prog tt (gD m) l6_0 Q e' τ' := fun e' τ' hB' a0 a4 a3 a5 => by
      refine ih (k + 1) (pre ++ lineS f) τ' e' hd' hfl (by simp only [List.length_append] at hpl' ⊢; omega) hB' a0 a4 a3 a5 (fun e2 τ2 hB2 b3 b0 b4 => hx e2 τ2 hB2 ?_ b0 b4)
      simpa using b3
    cases hs : (f.side == 0) with
    | true =>
      have hL : lineS f = 88 :: (hexS (frameS f.b) ++ [10]) := by simp only [lineS, hs, if_true]
      simp (disch := first | omega | (simp only [ln]; first | done | omega)) only [walkAll, walkL, walkK, wk, E, Nat.reduceEqDiff, Nat.reduceAdd, Nat.reduceSub, Nat.reduceLeDiff, Int.reduceLT, Int.reduceLE, Int.reduceAdd, Int.reduceSub, Int.reduceToNat, ↓reduceIte, h0, h3, h4, h5]
      refine refFramed_c f.nn f.b ?_
      simp (disch := first | omega | (simp only [ln]; first | done | omega)) only [walkAll, walkL, walkK, wk, E, Nat.reduceEqDiff, Nat.reduceAdd, Nat.reduceSub, Nat.reduceLeDiff, Int.reduceLT, Int.reduceLE, Int.reduceAdd, Int.reduceSub, Int.reduceToNat, ↓reduceIte, h0, h3, h4, h5]
      refine refHex_c (frameS f.b) (by have := (frameS_len f.b).1; omega) ?_
      simp (disch := first | omega | (simp only [ln]; first | done | omega)) only [walkAll, walkL, walkK, wk, E, Nat.reduceEqDiff, Nat.reduceAdd, Nat.reduceSub, Nat.reduceLeDiff, Int.reduceLT, Int.reduceLE, Int.reduceAdd, Int.reduceSub, Int.reduceToNat, ↓reduceIte, h0, h3, h4, h5]
      exact go _ _ hB.pushV (by simp [put, h0]) (by simp [put, h4]) (by simp [put, hL]) (by simp [put])
    | false =>
      have hL : lineS f = 66 :: (hexS (frameS f.b) ++ [10]) := by simp [lineS, hs]
      simp (disch := first | omega | (simp only [ln]; first | done | omega)) only [walkAll, walkL, walkK, wk, E, Nat.reduceEqDiff, Nat.reduceAdd, Nat.reduceSub, Nat.reduceLeDiff, Int.reduceLT, Int.reduceLE, Int.reduceAdd, Int.reduceSub, Int.reduceToNat, ↓reduceIte, h0, h3, h4, h5]
      refine refFramed_c f.nn f.b ?_
      simp (disch := first | omega | (simp only [ln]; first | done | omega)) only [walkAll, walkL, walkK, wk, E, Nat.reduceEqDiff, Nat.reduceAdd, Nat.reduceSub, Nat.reduceLeDiff, Int.reduceLT, Int.reduceLE, Int.reduceAdd, Int.reduceSub, Int.reduceToNat, ↓reduceIte, h0, h3, h4, h5]
      refine refHex_c (frameS f.b) (by have := (frameS_len f.b).1; omega) ?_
      simp (disch := first | omega | (simp only [ln]; first | done | omega)) only [walkAll, walkL, walkK, wk, E, Nat.reduceEqDiff, Nat.reduceAdd, Nat.reduceSub, Nat.reduceLeDiff, Int.reduceLT, Int.reduceLE, Int.reduceAdd, Int.reduceSub, Int.reduceToNat, ↓reduceIte, h0, h3, h4, h5]
      exact go _ _ hB.pushV (by simp [put, h0]) (by simp [put, h4]) (by simp [put, hL]) (by simp [put])
theorem rtxt_out (σ0 : St) (x : AV) (ls : List Stp) {Q : EQ} (hRd : ∀ τ, Grown σ0 τ → Rd 1 τ x (ls.map Stp.c)) : ∀ (rest : List Stp) (k : Nat) (pre : List UInt8) (τ : St) (e : Env),
    ls.drop k = rest → ls.length ≤ 1000000000 → (pre ++ textS rest).length ≤ 1000000000 → Grown σ0 τ → e 0 = some x → e 3 = some (.str pre) → e 4 = some (.int .i64 k) →
    (∀ e' τ', Grown σ0 τ' → e' 3 = some (.str (pre ++ textS rest)) → Q (.exit 0) e' τ') → LoopC Tryz.prog tt (gD m) l6_1 Q e τ := by
  intro rest
  induction rest with
  | nil =>
    intro k pre τ e hd hfl hpl hB h0 h3 h4 hx
    have hi : ls.length ≤ k := by simpa using hd
    have hb : decide ((k : Int) < (ls.length : Int)) = false := by simp; omega
    have hln : lenlX x = some (.int .i64 ls.length) := by have := (hRd τ hB).len; rwa [List.length_map] at this
    refine LoopC_unfold tok fm ?_
    simp (disch := first | omega | (simp only [ln]; first | done | omega)) only [walkAll, walkL, walkK, wk, E, Nat.reduceEqDiff, Nat.reduceAdd, Nat.reduceSub, Nat.reduceLeDiff, Int.reduceLT, Int.reduceLE, Int.reduceAdd, Int.reduceSub, Int.reduceToNat, ↓reduceIte, l6_1x, l6_1b, h0, h4, hln, hb]
    exact hx _ τ hB (by simp [put, h3, textS])
  | cons s rest ih =>
    intro k pre τ e hd hfl hpl hB h0 h3 h4 hx
    obtain ⟨hc, hd'⟩ := drop_cons hd
    have hi := (List.getElem?_eq_some_iff.1 hc).1
    have hb : decide ((k : Int) < (ls.length : Int)) = true := by simp; omega
    have hat : ∀ τ, Grown σ0 τ → ∃ p, ixsX 1 τ x (.int .i64 k) = some p ∧ ldX none τ p = some (lsq s.nn (s.l.map Fr.c)) := fun τ hτ => by
      obtain ⟨p, hp, hpt⟩ := (hRd τ hτ).at (i := k) (c := s.c) (by rw [List.getElem?_map, hc]; rfl) .i64
      exact ⟨p, hp, hpt.one⟩
    have hln : lenlX x = some (.int .i64 ls.length) := by have := (hRd τ hB).len; rwa [List.length_map] at this
    have ht : textS (s :: rest) = stepS s ++ textS rest := rfl
    rw [ht] at hpl
    have hsl : (stepS s).length = ((s.l.map lineS).flatten).length + 2 := by simp [stepS]
    have hpl' : pre.length + (stepS s).length + (textS rest).length ≤ 1000000000 := by simpa [Nat.add_assoc] using hpl
    have hll := lines_len s.l
    refine LoopC_unfold tok fm ?_
    simp (disch := first | omega | (simp only [ln]; first | done | omega)) only [walkAll, walkL, walkK, wk, E, Nat.reduceEqDiff, Nat.reduceAdd, Nat.reduceSub, Nat.reduceLeDiff, Int.reduceLT, Int.reduceLE, Int.reduceAdd, Int.reduceSub, Int.reduceToNat, ↓reduceIte, l6_1x, l6_1b, h0, h3, h4, hln, hb]
    refine rtxt_in σ0 x _ k s.l (fun τ => rd_lsq s.nn (fr_len s.l) τ) hat s.l 0 pre τ _ rfl (by omega) (by simp only [List.length_append]; omega) hB (by simp [put, h0]) (by simp [put, h4]) (by simp [put, h3]) (by simp [put]) fun e1 τ1 hB1 a3 a0 a4 => ?_
    simp (disch := first | omega | (simp only [ln]; first | done | omega)) only [walkAll, walkL, walkK, wk, E, Nat.reduceEqDiff, Nat.reduceAdd, Nat.reduceSub, Nat.reduceLeDiff, Int.reduceLT, Int.reduceLE, Int.reduceAdd, Int.reduceSub, Int.reduceToNat, ↓reduceIte, a3, a0, a4]
    refine ih (k + 1) (pre ++ stepS s) τ1 _ hd' hfl (by simp only [List.length_append]; omega) hB1 (by simp [put, a0]) (by simp [put, stepS]) (by simp [put]) (fun e2 τ3 hB3 h33 => hx e2 τ3 hB3 (by rw [ht]; simpa using h33))
theorem refText_c (v : AV) (ls : List Stp) (hT : (textS ls).length ≤ 1000000000) (hRd : Rd 1 σ v (ls.map Stp.c)) (h : K (.str (textS ls)) σ) : ACalls Tryz.prog (gD m) 6 [v] σ K := by
  refine ACalls.close σ _ (.refl σ) (.str (textS ls)) ?_ h
  have hsl := steps_len ls
  have hRd' : ∀ τ, Grown σ τ → Rd 1 τ v (ls.map Stp.c) := fun τ h => hRd.grown' h
  refine ACalls_fn tok fm (fk6 _) ?_
  simp (disch := first | omega | (simp only [ln]; first | done | omega)) only [walkAll, walkL, walkK, wk, E, Nat.reduceEqDiff, Nat.reduceAdd, Nat.reduceSub, Nat.reduceLeDiff, Int.reduceLT, Int.reduceLE, Int.reduceAdd, Int.reduceSub, Int.reduceToNat, ↓reduceIte, c6]
  refine rtxt_out σ v ls hRd' ls 0 [] _ _ rfl (by omega) (by simpa using hT) (Grown.refl σ) (by simp [put, E]) (by simp [put]) (by simp [put]) fun e' τ' hB' h3 => ?_
  simp (disch := first | omega | (simp only [ln]; first | done | omega)) only [walkAll, walkL, walkK, wk, E, Nat.reduceEqDiff, Nat.reduceAdd, Nat.reduceSub, Nat.reduceLeDiff, Int.reduceLT, Int.reduceLE, Int.reduceAdd, Int.reduceSub, Int.reduceToNat, ↓reduceIte, h3]
  exact ⟨hB', .inl (by simp)⟩
end
end Go.Ab.Ss
namespace Go.Ab.Ss
open Go Go.Ab Go.Proofs Go.RowKit
set_option maxRecDepth 40000
set_option linter.unusedSimpArgs false
theorem ACalls_args {P : Program} {G : GT} {f : FuncId} {args : List AV} {σ : St} {Q : AV → St → Prop} {r : Nat} {row : Row} (hr : getR σ r = some (some row)) (h : ACalls P G f (frzL r row.els args) (σ.setR r none) Q) : ACalls P G f args σ Q := fun C w vs h0 hg ha => by
  obtain ⟨D, hle, hrel, hrep⟩ := conv_frz (a := .tup args) hr C w _ h0 (.tup args vs ha)
  simp only [frz] at hrep
  cases hrep with
  | tup _ _ hrep => exact (h D w vs hrel (hg.mono hle) hrep).mono (fun v w' ⟨r, σ', C', l, h1, h2, h3⟩ => ⟨r, σ', C', hle.trans l, h1, h2, h3⟩)
section
variable {m : Int} {σ : St} {K : AV → St → Prop}
theorem step_c (h : K (.agg [.int .i64 2, .int .i64 0, .nils, .int .u64 5, .int .i64 (-1), .int .i64 (-1)]) σ) : ACalls Tryz.prog (gD m) 14 [.agg [.int .i64 0, .int .i64 5, .int .i64 0, .int .i64 0, .int .i64 0, .int .i64 0]] σ K := by
  refine (ACalls.frame gD_data (by simp only [dataR, and_true]) (Q := fun r => r = .agg [.int .i64 2, .int .i64 0, .nils, .int .u64 5, .int .i64 (-1), .int .i64 (-1)]) ?_ σ).mono (fun r σ' hr => by rw [hr.1, hr.2]; exact h)
  refine ACalls_fn tok fm (fk14 _) ?_
  have t0 : (Int.tmod 0 8 == 0) = true := rfl
  have t1 : IntKind.u64.wrap 5 = 5 := rfl
  simp (disch := first | omega | (simp only [ln]; first | done | omega)) only [walkAll, walkL, walkK, wk, E, Nat.reduceEqDiff, Nat.reduceAdd, Nat.reduceSub, Nat.reduceLeDiff, Int.reduceLT, Int.reduceLE, Int.reduceAdd, Int.reduceSub, Int.reduceToNat, ↓reduceIte, c14, t0, t1]
  simp only [dataR, and_true]
def awB : List (List AV) := bytesE [0, 5, 0, 0, 0, 0]
def awS : List AV := [.int .i64 2, .int .i64 0, .nils, .int .u64 5, .int .i64 (-1), .int .i64 (-1)]
theorem decode_c (h : K (.sl [awS]) σ) : ACalls Tryz.prog (gD m) 7 [.sl awB] σ K := by
  refine (ACalls.frame_frz gD_data (args := [.sl awB]) (.cons _ _ (.sl _ (bytes_data _)) .nil) (Q := fun r => r = .sl [awS]) ?_ σ).mono (fun r σ' hr => by rw [hr.1, hr.2]; exact h)
  have mn6 : (if (6 : Int) < 6 then (6 : Int) else 6) = 6 := rfl
  have hw : awB = [[.int .u8 0], [.int .u8 5], [.int .u8 0], [.int .u8 0], [.int .u8 0], [.int .u8 0]] := rfl
  have s1 : ∀ τ, slsX 1 τ (.sl awB) none (some (.int .i64 6)) none = some (.sl awB) := fun _ => rfl
  have s2 : ∀ τ, slsX 1 τ (.sl awB) (some (.int .i64 6)) none none = some (.sl []) := fun _ => rfl
  have hl : lenlX (.sl awB) = some (.int .i64 6) := rfl
  have hl0 : lenlX (.sl []) = some (.int .i64 0) := rfl
  have i0 : ∀ τ, ixsX 1 τ (.sl awB) (.int .i64 0) = some (.rp [.int .u8 0]) := fun _ => rfl
  have i1 : ∀ τ, ixsX 1 τ (.sl awB) (.int .i64 1) = some (.rp [.int .u8 5]) := fun _ => rfl
  have i2 : ∀ τ, ixsX 1 τ (.sl awB) (.int .i64 2) = some (.rp [.int .u8 0]) := fun _ => rfl
  have i3 : ∀ τ, ixsX 1 τ (.sl awB) (.int .i64 3) = some (.rp [.int .u8 0]) := fun _ => rfl
  have i4 : ∀ τ, ixsX 1 τ (.sl awB) (.int .i64 4) = some (.rp [.int .u8 0]) := fun _ => rfl
  have i5 : ∀ τ, ixsX 1 τ (.sl awB) (.int .i64 5) = some (.rp [.int .u8 0]) := fun _ => rfl
  have a0 : ixaX 6 1 (.vp 0 0) (.int .i64 0) = some (.vp 0 0) := rfl
  have a1 : ixaX 6 1 (.vp 0 0) (.int .i64 1) = some (.vp 0 1) := rfl
  have a2 : ixaX 6 1 (.vp 0 0) (.int .i64 2) = some (.vp 0 2) := rfl
  have a3 : ixaX 6 1 (.vp 0 0) (.int .i64 3) = some (.vp 0 3) := rfl
  have a4 : ixaX 6 1 (.vp 0 0) (.int .i64 4) = some (.vp 0 4) := rfl
  have a5 : ixaX 6 1 (.vp 0 0) (.int .i64 5) = some (.vp 0 5) := rfl
  have w6 : ∀ z : Int, z = 0 ∨ z = 5 → IntKind.i64.wrap z = z := fun z hz => by rcases hz with rfl | rfl <;> rfl
  generalize (.sl [] : AV) = y at s2 hl0
  generalize (.sl awB : AV) = x at s1 s2 hl i0 i1 i2 i3 i4 i5
  refine ACalls_fn tok fm (fk7 _) ?_
  simp (disch := first | omega | (simp only [ln]; first | done | omega)) only [walkAll, walkL, walkK, wk, E, Nat.reduceEqDiff, Nat.reduceAdd, Nat.reduceSub, Nat.reduceLeDiff, Int.reduceLT, Int.reduceLE, Int.reduceAdd, Int.reduceSub, Int.reduceToNat, ↓reduceIte, c7]
  refine LoopC_unfold tok fm ?_
  have ln0 : lenlX .nils = some (.int .i64 0) := rfl
  simp (disch := first | omega | (simp only [ln]; first | done | omega)) only [walkAll, walkL, walkK, wk, E, Nat.reduceEqDiff, Nat.reduceAdd, Nat.reduceSub, Nat.reduceLeDiff, Int.reduceLT, Int.reduceLE, Int.reduceAdd, Int.reduceSub, Int.reduceToNat, ↓reduceIte, l7_1x, l7_1b, ln0, hl, mn6, s1]
  refine LoopC_unfold tok fm ?_
  simp (disch := first | omega | (simp only [ln]; first | done | omega)) only [walkAll, walkL, walkK, wk, E, Nat.reduceEqDiff, Nat.reduceAdd, Nat.reduceSub, Nat.reduceLeDiff, Int.reduceLT, Int.reduceLE, Int.reduceAdd, Int.reduceSub, Int.reduceToNat, ↓reduceIte, l7_0x, l7_0b, i0]
  refine LoopC_unfold tok fm ?_
  simp (disch := first | omega | (simp only [ln]; first | done | omega)) only [walkAll, walkL, walkK, wk, E, Nat.reduceEqDiff, Nat.reduceAdd, Nat.reduceSub, Nat.reduceLeDiff, Int.reduceLT, Int.reduceLE, Int.reduceAdd, Int.reduceSub, Int.reduceToNat, ↓reduceIte, l7_0x, l7_0b, i1]
  refine LoopC_unfold tok fm ?_
  simp (disch := first | omega | (simp only [ln]; first | done | omega)) only [walkAll, walkL, walkK, wk, E, Nat.reduceEqDiff, Nat.reduceAdd, Nat.reduceSub, Nat.reduceLeDiff, Int.reduceLT, Int.reduceLE, Int.reduceAdd, Int.reduceSub, Int.reduceToNat, ↓reduceIte, l7_0x, l7_0b, i2]
  refine LoopC_unfold tok fm ?_
  simp (disch := first | omega | (simp only [ln]; first | done | omega)) only [walkAll, walkL, walkK, wk, E, Nat.reduceEqDiff, Nat.reduceAdd, Nat.reduceSub, Nat.reduceLeDiff, Int.reduceLT, Int.reduceLE, Int.reduceAdd, Int.reduceSub, Int.reduceToNat, ↓reduceIte, l7_0x, l7_0b, i3]
  refine LoopC_unfold tok fm ?_
  simp (disch := first | omega | (simp only [ln]; first | done | omega)) only [walkAll, walkL, walkK, wk, E, Nat.reduceEqDiff, Nat.reduceAdd, Nat.reduceSub, Nat.reduceLeDiff, Int.reduceLT, Int.reduceLE, Int.reduceAdd, Int.reduceSub, Int.reduceToNat, ↓reduceIte, l7_0x, l7_0b, i4]
  refine LoopC_unfold tok fm ?_
  simp (disch := first | omega | (simp only [ln]; first | done | omega)) only [walkAll, walkL, walkK, wk, E, Nat.reduceEqDiff, Nat.reduceAdd, Nat.reduceSub, Nat.reduceLeDiff, Int.reduceLT, Int.reduceLE, Int.reduceAdd, Int.reduceSub, Int.reduceToNat, ↓reduceIte, l7_0x, l7_0b, i5]
  refine LoopC_unfold tok fm ?_
  simp (disch := first | omega | (simp only [ln]; first | done | omega)) only [walkAll, walkL, walkK, wk, E, Nat.reduceEqDiff, Nat.reduceAdd, Nat.reduceSub, Nat.reduceLeDiff, Int.reduceLT, Int.reduceLE, Int.reduceAdd, Int.reduceSub, Int.reduceToNat, ↓reduceIte, l7_0x, l7_0b, s2, List.set_cons_zero, List.set_cons_succ, Nat.reduceMul, a0, a1, a2, a3, a4, a5]
  refine step_c ?_
  simp (disch := first | omega | (simp only [ln]; first | done | omega)) only [walkAll, walkL, walkK, wk, E, Nat.reduceEqDiff, Nat.reduceAdd, Nat.reduceSub, Nat.reduceLeDiff, Int.reduceLT, Int.reduceLE, Int.reduceAdd, Int.reduceSub, Int.reduceToNat, ↓reduceIte]
  refine own_appx (c := awS) (Own.nil 34 6 _) (elsA_one rfl) rfl rfl (by decide) fun v1 σ1 ρ1 ho1 hb1 => ?_
  simp (disch := first | omega | (simp only [ln]; first | done | omega)) only [walkAll, walkL, walkK, wk, E, Nat.reduceEqDiff, Nat.reduceAdd, Nat.reduceSub, Nat.reduceLeDiff, Int.reduceLT, Int.reduceLE, Int.reduceAdd, Int.reduceSub, Int.reduceToNat, ↓reduceIte]
  refine LoopC_unfold tok fm ?_
  simp (disch := first | omega | (simp only [ln]; first | done | omega)) only [walkAll, walkL, walkK, wk, E, Nat.reduceEqDiff, Nat.reduceAdd, Nat.reduceSub, Nat.reduceLeDiff, Int.reduceLT, Int.reduceLE, Int.reduceAdd, Int.reduceSub, Int.reduceToNat, ↓reduceIte, l7_1x, l7_1b, hl0]
  exact ⟨_, frz_own ho1 (by simp) id (fun _ _ => rfl), .sl _ (by simp only [List.nil_append, List.flatten_cons, List.flatten_nil, List.append_nil, awS, dataR, and_true]), rfl⟩
theorem awake_c (h : K (.bool true) σ) : ACalls Tryz.prog (gD m) 4 [] σ K := by
  refine (ACalls.frame gD_data (args := []) .nil (Q := fun r => r = .bool true) ?_ σ).mono (fun r σ' hr => by rw [hr.1, hr.2]; exact h)
  refine ACalls_fn tok fm (fk4 _) ?_
  simp (disch := first | omega | (simp only [ln]; first | done | omega)) only [walkAll, walkL, walkK, wk, E, Nat.reduceEqDiff, Nat.reduceAdd, Nat.reduceSub, Nat.reduceLeDiff, Int.reduceLT, Int.reduceLE, Int.reduceAdd, Int.reduceSub, Int.reduceToNat, ↓reduceIte, c4]
  refine ACalls_args (r := 0) (row := ⟨5, 1, 0, awB⟩) rfl ?_
  refine decode_c ?_
  have hl : lenlX (.sl [awS]) = some (.int .i64 1) := rfl
  have hi : ∀ τ, ixsX 6 τ (.sl [awS]) (.int .i64 0) = some (.rp awS) := fun _ => rfl
  generalize (.sl [awS] : AV) = x at hl hi ⊢
  have q1 : ((1 : Int) == 1) = true := rfl
  have q2 : ((2 : Int) == 2) = true := rfl
  have q5 : ((5 : Int) == 5) = true := rfl
  have qm : ((-1 : Int) == -1) = true := rfl
  simp (disch := first | omega | (simp only [ln]; first | done | omega)) only [walkAll, walkL, walkK, wk, E, Nat.reduceEqDiff, Nat.reduceAdd, Nat.reduceSub, Nat.reduceLeDiff, Int.reduceLT, Int.reduceLE, Int.reduceAdd, Int.reduceSub, Int.reduceToNat, ↓reduceIte, hl, hi, awS, q1, q2, q5, qm]
  have tx : textS [⟨[], false⟩] = [46, 10] := rfl
  refine scriptText_c _ [⟨[], false⟩] (by decide) ⟨by decide, .inr (.inr (.inr ⟨1, 0, _, rfl, rfl, rfl, rfl⟩))⟩ ?_
  rw [tx]
  have qt : (([46, 10] : List UInt8) == [46, 10]) = true := rfl
  simp (disch := first | omega | (simp only [ln]; first | done | omega)) only [walkAll, walkL, walkK, wk, E, Nat.reduceEqDiff, Nat.reduceAdd, Nat.reduceSub, Nat.reduceLeDiff, Int.reduceLT, Int.reduceLE, Int.reduceAdd, Int.reduceSub, Int.reduceToNat, ↓reduceIte, qt]
  exact .bool _
end
end Go.Ab.Ss
namespace Go.Ab.Ss
open Go Go.Ab Go.Proofs Go.RowKit
set_option maxRecDepth 40000
set_option linter.unusedSimpArgs false
theorem rd_own {e z : Nat} {σ' : St} {v : AV} {l : List (List AV)} {ρ : Option Nat} (h : Own e z σ' v l ρ) : Rd z σ' v l := by
  refine ⟨h.1, ?_⟩
  rcases h.2 with ⟨rfl, rfl, _⟩ | ⟨r, row, _, rfl, hr, hln, ht, hz, _⟩
  · exact .inl ⟨rfl, rfl⟩
  · exact .inr (.inr (.inr ⟨r, 0, row, rfl, hr, hz, by rw [List.drop_zero, ht]⟩))
theorem stp_ones (l : List Stp) : (l.map Stp.c).all (fun c => c.all AV.one) = true := by
  rw [List.all_eq_true]; intro c hc; obtain ⟨b, _, rfl⟩ := List.mem_map.1 hc
  simp [Stp.c, lsq_one]
def sumF (l : List Fr) : Nat := (l.map fun f => 10 + f.b.length).sum
def sumS (l : List Stp) : Nat := (l.map fun s => sumF s.l).sum
theorem sumF_cons (f : Fr) (l : List Fr) : sumF (f :: l) = 10 + f.b.length + sumF l := by simp [sumF]
theorem sumS_cons (f : Stp) (l : List Stp) : sumS (f :: l) = sumF f.l + sumS l := by simp [sumS]
theorem sumF_len : ∀ l : List Fr, l.length ≤ sumF l ∧ ((l.map lineS).flatten).length ≤ 2 * sumF l
  | [] => by simp [sumF]
  | f :: l => by
    have := sumF_len l
    have h2 := lineS_len f
    rw [sumF_cons]
    simp only [List.length_cons, List.map_cons, List.flatten_cons, List.length_append]
    omega
theorem textS_len : ∀ l : List Stp, (textS l).length ≤ 2 * sumS l + 2 * l.length
  | [] => by simp [textS]
  | s :: l => by
    have := textS_len l
    have h2 := (sumF_len s.l).2
    rw [sumS_cons]
    simp only [textS, List.length_cons, List.map_cons, List.flatten_cons, List.length_append, stepS, List.length_nil] at *
    omega
section
variable {m : Int} {σ : St} {K : AV → St → Prop}
theorem sum_in (x y : AV) (k0 : Nat) (fs : List Fr) (hRd : Rd 2 σ y (fs.map Fr.c)) (hat : ∃ p, ixsX 1 σ x (.int .i64 k0) = some p ∧ ldX none σ p = some y) {Q : EQ} : ∀ (rest : List Fr) (k acc : Nat) (e : Env),
    fs.drop k = rest → fs.length ≤ 1000000000 → acc + sumF rest ≤ 1000000000 → e 6 = some x → e 7 = some (.int .i64 k0) → e 5 = some (.int .i64 acc) → e 8 = some (.int .i64 k) →
    (∀ e', e' 5 = some (.int .i64 (acc + sumF rest : Nat)) → (∀ n, n = 0 ∨ n = 1 ∨ n = 6 ∨ n = 7 → e' n = e n) → Q (.exit 2) e' σ) → LoopC Tryz.prog tt (gD m) l3_0 Q e σ := by
  obtain ⟨p, hp, hl⟩ := hat
  have hln : lenlX y = some (.int .i64 fs.length) := by have := hRd.len; rwa [List.length_map] at this
  intro rest
  induction rest with
  | nil =>
    intro k acc e hd hfl hpl h6 h7 h5 h8 hx
    have hi : fs.length ≤ k := by simpa using hd
    have hb : decide ((k : Int) < (fs.length : Int)) = false := by simp; omega
    refine LoopC_unfold tok fm ?_
    simp (disch := first | omega | (simp only [ln]; first | done | omega)) only [walkAll, walkL, walkK, wk, E, Nat.reduceEqDiff, Nat.reduceAdd, Nat.reduceSub, Nat.reduceLeDiff, Int.reduceLT, Int.reduceLE, Int.reduceAdd, Int.reduceSub, Int.reduceToNat, ↓reduceIte, l3_0x, l3_0b, h6, h7, h8, hp, hl, hln, hb]
    refine hx _ (by simp [put, h5, sumF]) ?_
    rintro n (rfl | rfl | rfl | rfl) <;> simp [put]
  | cons f rest ih =>
    intro k acc e hd hfl hpl h6 h7 h5 h8 hx
    obtain ⟨hc, hd'⟩ := drop_cons hd
    have hi := (List.getElem?_eq_some_iff.1 hc).1
    have hb : decide ((k : Int) < (fs.length : Int)) = true := by simp; omega
    obtain ⟨q, hq, hqt⟩ := hRd.at (i := k) (c := f.c) (by rw [List.getElem?_map, hc]; rfl) .i64
    obtain ⟨q1, hq1, hld⟩ := hqt.fld 1 (lsq f.nn (bytesE f.b)) rfl
    have hfl2 : lenlX (lsq f.nn (bytesE f.b)) = some (.int .i64 f.b.length) := by rw [lenlX_lsq, bytesE_length]
    rw [sumF_cons] at hpl
    refine LoopC_unfold tok fm ?_
    simp (disch := first | omega | (simp only [ln]; first | done | omega)) only [walkAll, walkL, walkK, wk, E, Nat.reduceEqDiff, Nat.reduceAdd, Nat.reduceSub, Nat.reduceLeDiff, Int.reduceLT, Int.reduceLE, Int.reduceAdd, Int.reduceSub, Int.reduceToNat, ↓reduceIte, l3_0x, l3_0b, h6, h7, h8, h5, hp, hl, hln, hb, hq, hq1, hld, hfl2]
    refine ih (k + 1) (acc + (10 + f.b.length)) _ hd' hfl (by omega) (by simp [put, h6]) (by simp [put, h7]) (by simp [put]; omega) (by simp [put]) (fun e' a5 hn => hx e' ?_ (fun n hn3 => (hn n hn3).trans ?_))
    · rw [a5, sumF_cons]
      congr 2; omega
    · rcases hn3 with rfl | rfl | rfl | rfl <;> simp [put]
theorem sum_out (x : AV) (ls : List Stp) (hRd : Rd 1 σ x (ls.map Stp.c)) {Q : EQ} : ∀ (rest : List Stp) (k acc : Nat) (e : Env),
    ls.drop k = rest → ls.length ≤ 1000000000 → acc + sumS rest ≤ 1000000000 → e 6 = some x → e 7 = some (.int .i64 k) → e 5 = some (.int .i64 acc) →
    (∀ e', e' 5 = some (.int .i64 (acc + sumS rest : Nat)) → (∀ n, n = 0 ∨ n = 1 ∨ n = 6 → e' n = e n) → Q (.exit 0) e' σ) → LoopC Tryz.prog tt (gD m) l3_1 Q e σ := by
  have hln : lenlX x = some (.int .i64 ls.length) := by have := hRd.len; rwa [List.length_map] at this
  intro rest
  induction rest with
  | nil =>
    intro k acc e hd hfl hpl h6 h7 h5 hx
    have hi : ls.length ≤ k := by simpa using hd
    have hb : decide ((k : Int) < (ls.length : Int)) = false := by simp; omega
    refine LoopC_unfold tok fm ?_
    simp (disch := first | omega | (simp only [ln]; first | done | omega)) only [walkAll, walkL, walkK, wk, E, Nat.reduceEqDiff, Nat.reduceAdd, Nat.reduceSub, Nat.reduceLeDiff, Int.reduceLT, Int.reduceLE, Int.reduceAdd, Int.reduceSub, Int.reduceToNat, ↓reduceIte, l3_1x, l3_1b, h6, h7, hln, hb]
    refine hx _ (by simp [put, h5, sumS]) ?_
    rintro n (rfl | rfl | rfl) <;> simp [put]
  | cons s rest ih =>
    intro k acc e hd hfl hpl h6 h7 h5 hx
    obtain ⟨hc, hd'⟩ := drop_cons hd
    have hi := (List.getElem?_eq_some_iff.1 hc).1
    have hb : decide ((k : Int) < (ls.length : Int)) = true := by simp; omega
    obtain ⟨p, hp, hpt⟩ := hRd.at (i := k) (c := s.c) (by rw [List.getElem?_map, hc]; rfl) .i64
    have hll := (sumF_len s.l).1
    rw [sumS_cons] at hpl
    refine LoopC_unfold tok fm ?_
    simp (disch := first | omega | (simp only [ln]; first | done | omega)) only [walkAll, walkL, walkK, wk, E, Nat.reduceEqDiff, Nat.reduceAdd, Nat.reduceSub, Nat.reduceLeDiff, Int.reduceLT, Int.reduceLE, Int.reduceAdd, Int.reduceSub, Int.reduceToNat, ↓reduceIte, l3_1x, l3_1b, h6, h7, h5, hln, hb]
    refine sum_in x _ k s.l (rd_lsq s.nn (fr_len s.l) σ) ⟨p, hp, hpt.one⟩ s.l 0 acc _ rfl (by omega) (by omega) (by simp [put, h6]) (by simp [put, h7]) (by simp [put, h5]) (by simp [put]) fun e1 a5 hn => ?_
    have a6 : e1 6 = some x := by rw [hn 6 (by simp)]; simp [put, h6]
    have a7 : e1 7 = some (.int .i64 k) := by rw [hn 7 (by simp)]; simp [put, h7]
    have a0 : e1 0 = e 0 := by rw [hn 0 (by simp)]; simp [put]
    have a1 : e1 1 = e 1 := by rw [hn 1 (by simp)]; simp [put]
    simp (disch := first | omega | (simp only [ln]; first | done | omega)) only [walkAll, walkL, walkK, wk, E, Nat.reduceEqDiff, Nat.reduceAdd, Nat.reduceSub, Nat.reduceLeDiff, Int.reduceLT, Int.reduceLE, Int.reduceAdd, Int.reduceSub, Int.reduceToNat, ↓reduceIte, a6, a7]
    refine ih (k + 1) (acc + sumF s.l) _ hd' hfl (by omega) (by simp [put, a6]) (by simp [put]) (by simp [put, a5]) (fun e' b5 hn2 => hx e' ?_ (fun n hn3 => (hn2 n hn3).trans ?_))
    · rw [b5, sumS_cons]
      congr 2; omega
    · rcases hn3 with rfl | rfl | rfl
      · simp [put, a0]
      · simp [put, a1]
      · simp [put, a6, h6]
/-- The law of the texts of scripts. -/
theorem ScriptTexts_law (la lb : List Stp) (va vb : AV) (hda : Data va) (hdb : Data vb) (hra : ∀ τ, Rd 1 τ va (la.map Stp.c)) (hrb : ∀ τ, Rd 1 τ vb (lb.map Stp.c)) (hea : ∀ τ, elsA τ va = some (la.map Stp.c)) (heb : ∀ τ, elsA τ vb = some (lb.map Stp.c))
    (hsz : la.length + lb.length ≤ 10000000 ∧ sumS (la ++ lb) ≤ 100000000) : ACalls Tryz.prog (gD m) 3 [va, vb] ⟨[], []⟩ (fun r _ => r = .bool true) := by
  refine ACalls_fn tok fm (fk3 _) ?_
  simp (disch := first | omega | (simp only [ln]; first | done | omega)) only [walkAll, walkL, walkK, wk, E, Nat.reduceEqDiff, Nat.reduceAdd, Nat.reduceSub, Nat.reduceLeDiff, Int.reduceLT, Int.reduceLE, Int.reduceAdd, Int.reduceSub, Int.reduceToNat, ↓reduceIte, c3]
  refine data_copy (hea _) (stp_len la) (stp_ones la) (by simp; omega) fun v1 σ1 ρ1 ho1 hb1 _ _ => ?_
  simp (disch := first | omega | (simp only [ln]; first | done | omega)) only [walkAll, walkL, walkK, wk, E, Nat.reduceEqDiff, Nat.reduceAdd, Nat.reduceSub, Nat.reduceLeDiff, Int.reduceLT, Int.reduceLE, Int.reduceAdd, Int.reduceSub, Int.reduceToNat, ↓reduceIte]
  refine own_appy ho1 (heb _) (stp_len lb) (stp_ones lb) (by simp; omega) fun v2 σ2 ρ2 ho2 hb2 => ?_
  rw [← List.map_append] at ho2
  have hrd := rd_own ho2
  simp (disch := first | omega | (simp only [ln]; first | done | omega)) only [walkAll, walkL, walkK, wk, E, Nat.reduceEqDiff, Nat.reduceAdd, Nat.reduceSub, Nat.reduceLeDiff, Int.reduceLT, Int.reduceLE, Int.reduceAdd, Int.reduceSub, Int.reduceToNat, ↓reduceIte]
  refine sum_out v2 (la ++ lb) hrd (la ++ lb) 0 0 _ rfl (by simp; omega) (by omega) (by simp [put]) (by simp [put]) (by simp [put]) fun e1 a5 hn => ?_
  have a0 : e1 0 = some va := by rw [hn 0 (by simp)]; simp [put, E]
  have a1 : e1 1 = some vb := by rw [hn 1 (by simp)]; simp [put, E]
  have a6 : e1 6 = some v2 := by rw [hn 6 (by simp)]; simp [put]
  have hln : lenlX v2 = some (.int .i64 ((la ++ lb).length : Nat)) := by have := hrd.len; rwa [List.length_map] at this
  rw [Nat.zero_add] at a5
  have hT := textS_len (la ++ lb)
  rw [textS_append, List.length_append] at hT
  have hlen : (la ++ lb).length = la.length + lb.length := List.length_append
  have hta : (textS la).length ≤ 1000000000 := by omega
  have htb : (textS lb).length ≤ 1000000000 := by omega
  have htl : (textS la).length + (textS lb).length ≤ 1000000000 := by omega
  have htc : (textS (la ++ lb)).length ≤ 1000000000 := by rw [textS_append, List.length_append]; exact htl
  have q1 : (textS (la ++ lb) == textS (la ++ lb)) = true := by simp
  have q2 : (textS (la ++ lb) == textS la ++ textS lb) = true := by rw [textS_append]; simp
  cases g1 : decide ((50 : Int) < ((la ++ lb).length : Nat)) with
  | true =>
    simp (disch := first | omega | (simp only [ln]; first | done | omega)) only [walkAll, walkL, walkK, wk, E, Nat.reduceEqDiff, Nat.reduceAdd, Nat.reduceSub, Nat.reduceLeDiff, Int.reduceLT, Int.reduceLE, Int.reduceAdd, Int.reduceSub, Int.reduceToNat, ↓reduceIte, a0, a1, a5, a6, hln, g1]
    refine awake_c ?_
    simp (disch := first | omega | (simp only [ln]; first | done | omega)) only [walkAll, walkL, walkK, wk, E, Nat.reduceEqDiff, Nat.reduceAdd, Nat.reduceSub, Nat.reduceLeDiff, Int.reduceLT, Int.reduceLE, Int.reduceAdd, Int.reduceSub, Int.reduceToNat, ↓reduceIte]
  | false =>
    cases g2 : decide ((20000 : Int) < (sumS (la ++ lb) : Nat)) with
    | true =>
      simp (disch := first | omega | (simp only [ln]; first | done | omega)) only [walkAll, walkL, walkK, wk, E, Nat.reduceEqDiff, Nat.reduceAdd, Nat.reduceSub, Nat.reduceLeDiff, Int.reduceLT, Int.reduceLE, Int.reduceAdd, Int.reduceSub, Int.reduceToNat, ↓reduceIte, a0, a1, a5, a6, hln, g1, g2, Bool.not_false]
      refine awake_c ?_
      simp (disch := first | omega | (simp only [ln]; first | done | omega)) only [walkAll, walkL, walkK, wk, E, Nat.reduceEqDiff, Nat.reduceAdd, Nat.reduceSub, Nat.reduceLeDiff, Int.reduceLT, Int.reduceLE, Int.reduceAdd, Int.reduceSub, Int.reduceToNat, ↓reduceIte]
    | false =>
      simp (disch := first | omega | (simp only [ln]; first | done | omega)) only [walkAll, walkL, walkK, wk, E, Nat.reduceEqDiff, Nat.reduceAdd, Nat.reduceSub, Nat.reduceLeDiff, Int.reduceLT, Int.reduceLE, Int.reduceAdd, Int.reduceSub, Int.reduceToNat, ↓reduceIte, a0, a1, a5, a6, hln, g1, g2, Bool.not_false]
      refine awake_c ?_
      simp (disch := first | omega | (simp only [ln]; first | done | omega)) only [walkAll, walkL, walkK, wk, E, Nat.reduceEqDiff, Nat.reduceAdd, Nat.reduceSub, Nat.reduceLeDiff, Int.reduceLT, Int.reduceLE, Int.reduceAdd, Int.reduceSub, Int.reduceToNat, ↓reduceIte, a0, a1, a6]
      refine scriptText_c v2 (la ++ lb) htc hrd ?_
      simp (disch := first | omega | (simp only [ln]; first | done | omega)) only [walkAll, walkL, walkK, wk, E, Nat.reduceEqDiff, Nat.reduceAdd, Nat.reduceSub, Nat.reduceLeDiff, Int.reduceLT, Int.reduceLE, Int.reduceAdd, Int.reduceSub, Int.reduceToNat, ↓reduceIte, a0, a1, a6]
      refine refText_c v2 (la ++ lb) htc hrd ?_
      simp (disch := first | omega | (simp only [ln]; first | done | omega)) only [walkAll, walkL, walkK, wk, E, Nat.reduceEqDiff, Nat.reduceAdd, Nat.reduceSub, Nat.reduceLeDiff, Int.reduceLT, Int.reduceLE, Int.reduceAdd, Int.reduceSub, Int.reduceToNat, ↓reduceIte, a0, a1, a6, q1]
      refine scriptText_c v2 (la ++ lb) htc hrd ?_
      simp (disch := first | omega | (simp only [ln]; first | done | omega)) only [walkAll, walkL, walkK, wk, E, Nat.reduceEqDiff, Nat.reduceAdd, Nat.reduceSub, Nat.reduceLeDiff, Int.reduceLT, Int.reduceLE, Int.reduceAdd, Int.reduceSub, Int.reduceToNat, ↓reduceIte, a0, a1, a6]
      refine scriptText_c va la hta (hra _) ?_
      simp (disch := first | omega | (simp only [ln]; first | done | omega)) only [walkAll, walkL, walkK, wk, E, Nat.reduceEqDiff, Nat.reduceAdd, Nat.reduceSub, Nat.reduceLeDiff, Int.reduceLT, Int.reduceLE, Int.reduceAdd, Int.reduceSub, Int.reduceToNat, ↓reduceIte, a0, a1, a6]
      refine scriptText_c vb lb htb (hrb _) ?_
      simp (disch := first | omega | (simp only [ln]; first | done | omega)) only [walkAll, walkL, walkK, wk, E, Nat.reduceEqDiff, Nat.reduceAdd, Nat.reduceSub, Nat.reduceLeDiff, Int.reduceLT, Int.reduceLE, Int.reduceAdd, Int.reduceSub, Int.reduceToNat, ↓reduceIte, a0, a1, a6, q2]
end
end Go.Ab.Ss
