/-
  How long the texts of tokens may be: a plain law.
-/
import Derived.Test.YtpejbkckppnamaaGreatDoorR7
import Derived.Test.YtpejbkckppnamaaGreatDoorRef
set_option linter.all false
set_option linter.unusedVariables false
set_option linter.unusedSimpArgs false
namespace Go.Ab.Sz
open Go Go.Ab Go.Proofs Go.RowKit
set_option maxRecDepth 40000
set_option linter.unusedSimpArgs false
section
variable {m : Int} {σ : St} {K : AV → St → Prop}
theorem trimR_loop (b : Nat) (ty : TypeId) (l : List AV) (p : UInt8 → Bool) (hv : getV σ b = some (.cells ty l)) (hl : l.length = 256) (hp : ∀ x : UInt8, l[x.toNat]? = some (.bool (p x))) {Q : EQ} :
    ∀ (r s : List UInt8) (e : Env), s = r.reverse → s.length < 9223372036854775808 → e 0 = some (.str s) → e 1 = some (.vp b 0) → (∀ e', e' 0 = some (.str (r.dropWhile p).reverse) → Q (.exit 0) e' σ) → LoopC Tryz.prog tt (gD m) l109_0 Q e σ := by
  intro r
  induction r with
  | nil =>
    intro s e he hs h0 h1 hq
    have : s = [] := he
    subst this
    refine LoopC_unfold tok fm ?_
    simp (disch := first | omega | (simp only [ln]; first | done | omega)) only [walkAll, walkL, walkK, wk, E, Nat.reduceEqDiff, Nat.reduceAdd, Nat.reduceSub, Nat.reduceLeDiff, Int.reduceLT, Int.reduceLE, Int.reduceAdd, Int.reduceSub, Int.reduceToNat, ↓reduceIte, l109_0x, l109_0b, h0]
    exact hq _ (by simp [put, h0])
  | cons x r ih =>
    intro s e he hs h0 h1 hq
    have hlen : s.length = r.length + 1 := by rw [he]; simp
    have d : decide ((0 : Int) < (s.length : Int)) = true := by simp; omega
    have w1 : IntKind.i64.wrap ((s.length : Int) - 1) = ((r.length : Nat) : Int) := by rw [wrap_i64 _ (by omega) (by omega)]; omega
    have hat : s[r.length]? = some x := by rw [he, List.reverse_cons, List.getElem?_append_right (by simp)]; simp
    have htk : (s.drop 0).take r.length = r.reverse := by rw [he]; simp
    have t0 : r.length - 0 = r.length := rfl
    have d2 : (r.length : Int).toNat = r.length := by omega
    refine LoopC_unfold tok fm ?_
    simp (disch := first | omega | (simp only [ln]; first | done | omega)) only [walkAll, walkL, walkK, wk, E, Nat.reduceEqDiff, Nat.reduceAdd, Nat.reduceSub, Nat.reduceLeDiff, Int.reduceLT, Int.reduceLE, Int.reduceAdd, Int.reduceSub, Int.reduceToNat, ↓reduceIte, l109_0x, l109_0b, h0, h1, d, w1, hat, d2]
    refine contains_c b x ty l (p x) hv hl (hp x) ?_
    cases q : p x with
    | false =>
      simp (disch := first | omega | (simp only [ln]; first | done | omega)) only [walkAll, walkL, walkK, wk, E, Nat.reduceEqDiff, Nat.reduceAdd, Nat.reduceSub, Nat.reduceLeDiff, Int.reduceLT, Int.reduceLE, Int.reduceAdd, Int.reduceSub, Int.reduceToNat, ↓reduceIte, h0, h1]
      exact hq _ (by simp [put, h0, List.dropWhile_cons, q, he])
    | true =>
      simp (disch := first | omega | (simp only [ln]; first | done | omega)) only [walkAll, walkL, walkK, wk, E, Nat.reduceEqDiff, Nat.reduceAdd, Nat.reduceSub, Nat.reduceLeDiff, Int.reduceLT, Int.reduceLE, Int.reduceAdd, Int.reduceSub, Int.reduceToNat, ↓reduceIte, h0, h1, w1, d2]
      refine ih r.reverse _ rfl (by simp; omega) ?_ (by simp [put, h1]) (fun e' he' => hq e' (by rw [he', List.dropWhile_cons_of_pos q]))
      simp [put, he]
theorem trimRASCII_c (b : Nat) (ty : TypeId) (l : List AV) (p : UInt8 → Bool) (s : List UInt8) (hv : getV σ b = some (.cells ty l)) (hl : l.length = 256) (hp : ∀ x : UInt8, l[x.toNat]? = some (.bool (p x))) (hs : s.length < 9223372036854775808)
    (h : K (.str (s.reverse.dropWhile p).reverse) σ) : ACalls Tryz.prog (gD m) 109 [.str s, .vp b 0] σ K := by
  refine ACalls_fn tok fm (fk109 _) ?_
  simp (disch := first | omega | (simp only [ln]; first | done | omega)) only [walkAll, walkL, walkK, wk, E, Nat.reduceEqDiff, Nat.reduceAdd, Nat.reduceSub, Nat.reduceLeDiff, Int.reduceLT, Int.reduceLE, Int.reduceAdd, Int.reduceSub, Int.reduceToNat, ↓reduceIte, c109]
  refine trimR_loop b ty l p hv hl hp s.reverse s _ (by simp) hs (by simp [put, E]) (by simp [put, E]) (fun e' he' => ?_)
  simp (disch := first | omega | (simp only [ln]; first | done | omega)) only [walkAll, walkL, walkK, wk, E, Nat.reduceEqDiff, Nat.reduceAdd, Nat.reduceSub, Nat.reduceLeDiff, Int.reduceLT, Int.reduceLE, Int.reduceAdd, Int.reduceSub, Int.reduceToNat, ↓reduceIte, he']
  exact h
theorem Trim_c (s set : List UInt8) (hs : s.length < 9223372036854775808) (h2 : 2 ≤ set.length) (h3 : set.length < 4294967281) (ha : ∀ b ∈ set, b.toNat < 128) (h : K (.str ((cutR set s).dropWhile set.contains)) σ) :
    ACalls Tryz.prog (gD m) 87 [.str s, .str set] σ K := by
  refine (ACalls.frame gD_data (.cons _ _ (.str _) (.cons _ _ (.str _) .nil)) (Q := fun r => r = .str ((cutR set s).dropWhile set.contains)) ?_ σ).mono (fun r σ' hr => by rw [hr.1, hr.2]; exact h)
  have hne : (set == []) = false := by cases set with
    | nil => simp at h2
    | cons a l => rfl
  have h1 : ((set.length : Int) == 1) = false := by simp; omega
  have ho : onesN 256 (setL256 set) = true := by
    rw [onesN_eq]
    exact ⟨setL256_len _, by simp [setL256, AV.one]⟩
  have hl : setL (List.replicate 256 (AV.bool false)) 0 (setL256 set) = setL256 set := setL_all (by rw [setL256_len]; simp)
  have hle : (0 + (setL256 set).length ≤ (List.replicate 256 (AV.bool false)).length) = True := by rw [setL256_len]; simp
  refine ACalls_fn tok fm (fk87 _) ?_
  simp (disch := first | omega | (simp only [ln]; first | done | omega)) only [walkAll, walkL, walkK, wk, E, Nat.reduceEqDiff, Nat.reduceAdd, Nat.reduceSub, Nat.reduceLeDiff, Int.reduceLT, Int.reduceLE, Int.reduceAdd, Int.reduceSub, Int.reduceToNat, ↓reduceIte, c87, hne, h1]
  cases hb : (s == []) with
  | true =>
    simp (disch := first | omega | (simp only [ln]; first | done | omega)) only [walkAll, walkL, walkK, wk, E, Nat.reduceEqDiff, Nat.reduceAdd, Nat.reduceSub, Nat.reduceLeDiff, Int.reduceLT, Int.reduceLE, Int.reduceAdd, Int.reduceSub, Int.reduceToNat, ↓reduceIte, hb, hne, h1]
    have : s = [] := by simpa using hb
    subst this
    exact ⟨.str _, rfl⟩
  | false =>
    simp (disch := first | omega | (simp only [ln]; first | done | omega)) only [walkAll, walkL, walkK, wk, E, Nat.reduceEqDiff, Nat.reduceAdd, Nat.reduceSub, Nat.reduceLeDiff, Int.reduceLT, Int.reduceLE, Int.reduceAdd, Int.reduceSub, Int.reduceToNat, ↓reduceIte, hb, hne, h1]
    refine makeASCIISet_c set h3 ha ?_
    simp (disch := first | omega | (simp only [ln]; first | done | omega)) only [walkAll, walkL, walkK, wk, E, Nat.reduceEqDiff, Nat.reduceAdd, Nat.reduceSub, Nat.reduceLeDiff, Int.reduceLT, Int.reduceLE, Int.reduceAdd, Int.reduceSub, Int.reduceToNat, ↓reduceIte, hne, h1, hb, ho, hl, hle]
    have hg : getV (St.pushV ⟨[], []⟩ (.cells 137 (setL256 set))) 0 = some (.cells 137 (setL256 set)) := rfl
    refine trimRASCII_c 0 137 (setL256 set) set.contains s ?_ (setL256_len _) (setL256_at set) hs ?_
    · simp (disch := first | omega | (simp only [ln]; first | done | omega)) only [walkAll, walkL, walkK, wk, E, Nat.reduceEqDiff, Nat.reduceAdd, Nat.reduceSub, Nat.reduceLeDiff, Int.reduceLT, Int.reduceLE, Int.reduceAdd, Int.reduceSub, Int.reduceToNat, ↓reduceIte]
    simp (disch := first | omega | (simp only [ln]; first | done | omega)) only [walkAll, walkL, walkK, wk, E, Nat.reduceEqDiff, Nat.reduceAdd, Nat.reduceSub, Nat.reduceLeDiff, Int.reduceLT, Int.reduceLE, Int.reduceAdd, Int.reduceSub, Int.reduceToNat, ↓reduceIte]
    refine trimASCII_c 0 137 (setL256 set) set.contains _ ?_ (setL256_len _) (setL256_at set) ?_ ?_
    · simp (disch := first | omega | (simp only [ln]; first | done | omega)) only [walkAll, walkL, walkK, wk, E, Nat.reduceEqDiff, Nat.reduceAdd, Nat.reduceSub, Nat.reduceLeDiff, Int.reduceLT, Int.reduceLE, Int.reduceAdd, Int.reduceSub, Int.reduceToNat, ↓reduceIte]
    · have := dropWhile_len set.contains s.reverse
      simp at this ⊢; omega
    simp (disch := first | omega | (simp only [ln]; first | done | omega)) only [walkAll, walkL, walkK, wk, E, Nat.reduceEqDiff, Nat.reduceAdd, Nat.reduceSub, Nat.reduceLeDiff, Int.reduceLT, Int.reduceLE, Int.reduceAdd, Int.reduceSub, Int.reduceToNat, ↓reduceIte]
    exact ⟨.str _, rfl⟩
/-- Of blanks alone? -/
def blankS (s : List UInt8) : Bool := s.all blanksL.contains
theorem trim_all (p : UInt8 → Bool) (s : List UInt8) : (((s.reverse.dropWhile p).reverse.dropWhile p) == []) = s.all p := by
  rw [Bool.eq_iff_iff, beq_iff_eq, List.all_eq_true]
  constructor
  · intro h x hx
    have h1 : (s.reverse.dropWhile p).reverse = [] := by
      cases hd : s.reverse.dropWhile p with
      | nil => rfl
      | cons a l =>
        exfalso
        have ha : p a = false := by
          have := List.head?_dropWhile_not p s.reverse
          rw [hd] at this
          simpa using this
        rw [hd] at h
        have := dropWhile_nil h a (by simp)
        rw [this] at ha; cases ha
    have h2 : s.reverse.dropWhile p = [] := by simpa using h1
    exact dropWhile_nil h2 x (by simpa using hx)
  · intro h
    rw [dropWhile_all p s.reverse (fun c hc => h c (by simpa using hc))]
    rfl
theorem tblank_c (s : List UInt8) (hs : s.length < 9223372036854775808) (h : K (.bool (blankS s)) σ) : ACalls Tryz.prog (gD m) 63 [.str s] σ K := by
  refine ACalls_fn tok fm (fk63 _) ?_
  simp (disch := first | omega | (simp only [ln]; first | done | omega)) only [walkAll, walkL, walkK, wk, E, Nat.reduceEqDiff, Nat.reduceAdd, Nat.reduceSub, Nat.reduceLeDiff, Int.reduceLT, Int.reduceLE, Int.reduceAdd, Int.reduceSub, Int.reduceToNat, ↓reduceIte, c63]
  refine Trim_c s _ hs (by decide) (by decide) (by decide) ?_
  have e : ((cutR [9, 10, 13, 32] s).dropWhile ([9, 10, 13, 32] : List UInt8).contains == []) = blankS s := trim_all _ s
  simp (disch := first | omega | (simp only [ln]; first | done | omega)) only [walkAll, walkL, walkK, wk, E, Nat.reduceEqDiff, Nat.reduceAdd, Nat.reduceSub, Nat.reduceLeDiff, Int.reduceLT, Int.reduceLE, Int.reduceAdd, Int.reduceSub, Int.reduceToNat, ↓reduceIte, e]
  exact h
end
end Go.Ab.Sz
namespace Go.Ab.Sz
open Go Go.Ab Go.Proofs Go.RowKit
set_option maxRecDepth 40000
set_option linter.unusedSimpArgs false
theorem rOpenL_att : ∀ (n : Nat) (r : List UInt8) (al l : List (List UInt8 × List UInt8)) (em : Bool) (t : List UInt8), rOpenL n r al = some (l, em, t) → l.length ≤ al.length + r.length
  | 0, r, al, l, em, t, h => by cases h
  | n + 1, r, al, l, em, t, h => by
    have d1 := dropWhile_len blanksL.contains r
    simp only [rOpenL] at h
    split at h
    · cases h; omega
    · split at h
      · cases h; omega
      · split at h
        · cases h
        · split at h
          · cases h
          · rename_i x hx
            have := rAttr_len (n := x.1) (v := x.2.1) (t := x.2.2) hx
            split at h
            · have := rOpenL_att n _ _ _ _ _ h
              simp only [List.length_append, List.length_singleton] at this
              omega
            · cases h
theorem rTok_att {r t : List UInt8} {k : Tok} (h : rTok r = some (k, t)) : k.attrs.length ≤ r.length := by
  unfold rTok at h
  split at h
  · split at h
    · cases h
    · cases h; simp
  · split at h
    · unfold rOpen at h
      split at h
      · cases h
      · cases hq : rOpenL (((r.drop 1).dropWhile withins.contains).length + 1) ((r.drop 1).dropWhile withins.contains) [] with
        | none => rw [hq] at h; cases h
        | some x =>
          rw [hq] at h
          have := rOpenL_att _ _ _ x.1 x.2.1 x.2.2 hq
          have d1 := dropWhile_len withins.contains (r.drop 1)
          simp only [Option.map_some, Option.some.injEq, Prod.mk.injEq, List.length_nil, List.length_drop] at h this d1
          rw [← h.1]; simp only; omega
    · split at h
      · cases h; simp
      · cases h
theorem rToksL_len : ∀ (n : Nat) (s : List UInt8) (l : List Tok), rToksL n s = some l → l.length ≤ s.length ∧ ∀ t ∈ l, t.attrs.length ≤ s.length
  | 0, _, _, h => by cases h
  | n + 1, s, l, h => by
    simp only [rToksL] at h
    split at h
    · cases h; exact ⟨by simp, fun t ht => by cases ht⟩
    · rename_i h0
      split at h
      · cases h
      · rename_i x hx
        have h1 := rTok_len (k := x.1) (t := x.2) (by intro e; rw [e] at h0; exact h0 rfl) hx
        have h2 := rTok_att (k := x.1) (t := x.2) hx
        cases hq : rToksL n x.2 with
        | none => rw [hq] at h; cases h
        | some l' =>
          rw [hq] at h
          cases h
          have := rToksL_len n _ _ hq
          refine ⟨by simp only [List.length_cons]; omega, fun t ht => ?_⟩
          rcases List.mem_cons.1 ht with rfl | ht
          · exact h2
          · exact Nat.le_trans (this.2 t ht) (by omega)
theorem toksS_len (s : List UInt8) : (toksS s).1.length ≤ s.length ∧ ∀ t ∈ (toksS s).1, t.attrs.length ≤ s.length := by
  rw [← toks_eq]
  have hp := trimPrefix_le s prologL
  unfold rToks
  split
  · exact ⟨by simp, fun t ht => by cases ht⟩
  · split
    · exact ⟨by simp, fun t ht => by cases ht⟩
    · split
      · rename_i l hl
        have := rToksL_len _ _ _ hl
        exact ⟨Nat.le_trans this.1 hp, fun t ht => Nat.le_trans (this.2 t ht) hp⟩
      · exact ⟨by simp, fun t ht => by cases ht⟩
section
variable {m : Int} {σ : St} {K : AV → St → Prop}
end
end Go.Ab.Sz
namespace Go.Ab.Sz
open Go Go.Ab Go.Proofs Go.RowKit
set_option maxRecDepth 40000
theorem valueS_len : ∀ (n : Nat) (s out : List UInt8), (valueS n s out).1.length ≤ out.length + 4 * s.length
  | 0, s, out => by simp [valueS]
  | n + 1, s, out => by
    have h1 := cut_len s 38
    have h2 := cut_len (Lib.cut s [38]).2.1 59
    have h3 := signS_len (Lib.cut (Lib.cut s [38]).2.1 [59]).1
    rw [valueS]
    split
    · rename_i g
      split
      · simp
      · rename_i g2
        have h4 := valueS_len n (Lib.cut (Lib.cut s [38]).2.1 [59]).2.1 (out ++ (Lib.cut s [38]).1 ++ signS (Lib.cut (Lib.cut s [38]).2.1 [59]).1)
        simp only [List.length_append] at h4
        have h5 := h1.2 g
        have h6 := h2.1
        omega
    · simp only [List.length_append]
      have := h1.1
      omega
theorem valS_len (s : List UInt8) : (valS s).1.length ≤ 4 * s.length := by
  have := valueS_len (s.length + 1) s []
  simpa [valS] using this
theorem rTok_txt {r t : List UInt8} {k : Tok} (h : rTok r = some (k, t)) : k.text.length ≤ 4 * r.length := by
  unfold rTok at h
  split at h
  · split at h
    · cases h
    · cases h; simp
  · split at h
    · unfold rOpen at h
      split at h
      · cases h
      · cases hq : rOpenL (((r.drop 1).dropWhile withins.contains).length + 1) ((r.drop 1).dropWhile withins.contains) [] with
        | none => rw [hq] at h; cases h
        | some x =>
          rw [hq] at h
          simp only [Option.map_some, Option.some.injEq, Prod.mk.injEq] at h
          rw [← h.1]; simp
    · split at h
      · cases h
        have := valS_len (r.takeWhile (· != 60))
        have h2 := (List.takeWhile_prefix (l := r) (· != 60)).length_le
        simp only; omega
      · cases h
theorem rToksL_txt : ∀ (n : Nat) (s : List UInt8) (l : List Tok), rToksL n s = some l → ∀ t ∈ l, t.text.length ≤ 4 * s.length
  | 0, _, _, h => by cases h
  | n + 1, s, l, h => by
    simp only [rToksL] at h
    split at h
    · cases h; exact fun t ht => by cases ht
    · rename_i h0
      split at h
      · cases h
      · rename_i x hx
        have h1 := rTok_len (k := x.1) (t := x.2) (by intro e; rw [e] at h0; exact h0 rfl) hx
        have h2 := rTok_txt (k := x.1) (t := x.2) hx
        cases hq : rToksL n x.2 with
        | none => rw [hq] at h; cases h
        | some l' =>
          rw [hq] at h
          cases h
          have := rToksL_txt n _ _ hq
          intro t ht
          rcases List.mem_cons.1 ht with rfl | ht
          · exact h2
          · exact Nat.le_trans (this t ht) (by omega)
theorem toksS_txt (s : List UInt8) : ∀ t ∈ (toksS s).1, t.text.length ≤ 4 * s.length := by
  rw [← toks_eq]
  have hp := trimPrefix_le s prologL
  unfold rToks
  split
  · exact fun t ht => by cases ht
  · split
    · exact fun t ht => by cases ht
    · split
      · rename_i l hl
        intro t ht
        exact Nat.le_trans (rToksL_txt _ _ _ hl t ht) (by omega)
      · exact fun t ht => by cases ht
theorem sum_le {α : Type} (f : α → Nat) (X : Nat) : ∀ (l : List α), (∀ a ∈ l, f a ≤ X) → (l.map f).sum ≤ l.length * X
  | [], _ => by simp
  | a :: l, h => by
    have h1 := h a (by simp)
    have h2 := sum_le f X l fun b hb => h b (by simp [hb])
    simp only [List.map_cons, List.sum_cons, List.length_cons, Nat.add_mul]
    omega
end Go.Ab.Sz
