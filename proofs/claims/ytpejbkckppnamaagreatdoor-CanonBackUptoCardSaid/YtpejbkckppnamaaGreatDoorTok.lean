/- Part of this work: see the text that closes the claim. -/
import Derived.Test.YtpejbkckppnamaaGreatDoorLib
import Derived.Test.YtpejbkckppnamaaGreatDoorAbB
set_option linter.all false
set_option linter.unusedVariables false
set_option linter.unusedSimpArgs false
namespace Go.Ab.Sz
open Go Go.Ab Go.Proofs Go.RowKit
set_option maxRecDepth 40000
set_option linter.unusedSimpArgs false
section
variable {m : Int} {σ : St} {K : AV → St → Prop}
def blanksL : List UInt8 := [9, 10, 13, 32]
def valS (s : List UInt8) : List UInt8 × Bool := valueS (s.length + 1) s []
def quoted1 (s q : List UInt8) : List UInt8 × Bool × List UInt8 :=
  ((valS (Lib.cut (Lib.trimPrefix s q) q).1).1, (Lib.cut (Lib.trimPrefix s q) q).2.2 && (valS (Lib.cut (Lib.trimPrefix s q) q).1).2 && !Lib.contains (Lib.cut (Lib.trimPrefix s q) q).1 [60], (Lib.cut (Lib.trimPrefix s q) q).2.1)
def quotedS (s : List UInt8) : List UInt8 × Bool × List UInt8 := if Lib.hasPrefix s [34] then quoted1 s [34] else if Lib.hasPrefix s [39] then quoted1 s [39] else ([], false, s)
theorem trimPrefix_no {s p : List UInt8} (h : Lib.hasPrefix s p = false) : Lib.trimPrefix s p = s := by unfold Lib.trimPrefix; rw [h]; rfl
theorem val_c (s : List UInt8) (hs : s.length < 4294967281) (h : K (.tup [.str (valS s).1, .bool (valS s).2]) σ) : ACalls Tryz.prog (gD m) 79 [.str s] σ K := value_c s hs h
theorem quoted_c (b : Nat) (s : List UInt8) (ty : TypeId) (hv : W σ b ty s) (hs : s.length < 4294967281)
    (h : K (.tup [.str (quotedS s).1, .bool (quotedS s).2.1]) (σ.setV b (.cells ty [.str (quotedS s).2.2]))) : ACalls Tryz.prog (gD m) 96 [.vp b 0] σ K := by
  refine ACalls.close (σ.setV b (.cells ty [.str (quotedS s).2.2])) _ (Near.setV (.refl σ) (by simp only [dataR])) (by simp only [dataR]) ?_ h
  have hlt := getV_lt hv
  have l1 := trimPrefix_le s [34]
  have l2 := trimPrefix_le s [39]
  have k1 := (cut_len (Lib.trimPrefix s [34]) 34).1
  have k2 := (cut_len (Lib.trimPrefix s [39]) 39).1
  refine ACalls_fn tok fm (fk96 _) ?_
  simp (disch := first | omega | (simp only [ln]; first | done | omega)) only [walkAll, walkL, walkK, wk, E, Nat.reduceEqDiff, Nat.reduceAdd, Nat.reduceSub, Nat.reduceLeDiff, Int.reduceLT, Int.reduceLE, Int.reduceAdd, Int.reduceSub, Int.reduceToNat, ↓reduceIte, c96, hv]
  have hr : ∀ τ : St, getR (τ.pushR ⟨9, 1, 0, [[.str [34]], [.str [39]]]⟩) (nrs τ) = some (some ⟨9, 1, 0, [[.str [34]], [.str [39]]]⟩) := fun τ => by simp [getR, nrs, St.pushR]
  refine LoopC_unfold tok fm ?_
  simp (disch := first | omega | (simp only [ln]; first | done | omega)) only [walkAll, walkL, walkK, wk, E, Nat.reduceEqDiff, Nat.reduceAdd, Nat.reduceSub, Nat.reduceLeDiff, Int.reduceLT, Int.reduceLE, Int.reduceAdd, Int.reduceSub, Int.reduceToNat, ↓reduceIte, l96_0x, l96_0b, hv, hr, Int.toNat_zero]
  refine pass_c b s [34] ty hv ?_
  cases p1 : Lib.hasPrefix s [34] with
  | true =>
    simp (disch := first | omega | (simp only [ln]; first | done | omega)) only [walkAll, walkL, walkK, wk, E, Nat.reduceEqDiff, Nat.reduceAdd, Nat.reduceSub, Nat.reduceLeDiff, Int.reduceLT, Int.reduceLE, Int.reduceAdd, Int.reduceSub, Int.reduceToNat, ↓reduceIte, hv]
    refine Cut_c _ _ (by omega) ?_
    simp (disch := first | omega | (simp only [ln]; first | done | omega)) only [walkAll, walkL, walkK, wk, E, Nat.reduceEqDiff, Nat.reduceAdd, Nat.reduceSub, Nat.reduceLeDiff, Int.reduceLT, Int.reduceLE, Int.reduceAdd, Int.reduceSub, Int.reduceToNat, ↓reduceIte, hv]
    refine val_c _ (by omega) ?_
    simp (disch := first | omega | (simp only [ln]; first | done | omega)) only [walkAll, walkL, walkK, wk, E, Nat.reduceEqDiff, Nat.reduceAdd, Nat.reduceSub, Nat.reduceLeDiff, Int.reduceLT, Int.reduceLE, Int.reduceAdd, Int.reduceSub, Int.reduceToNat, ↓reduceIte, hv]
    have e : quotedS s = quoted1 s [34] := by unfold quotedS; rw [p1]; rfl
    rw [e]
    simp only [quoted1]
    cases i1 : (Lib.cut (Lib.trimPrefix s [34]) [34]).2.2 <;> cases i2 : (valS (Lib.cut (Lib.trimPrefix s [34]) [34]).1).2 <;> simp (disch := first | omega | (simp only [ln]; first | done | omega)) only [walkAll, walkL, walkK, wk, E, Nat.reduceEqDiff, Nat.reduceAdd, Nat.reduceSub, Nat.reduceLeDiff, Int.reduceLT, Int.reduceLE, Int.reduceAdd, Int.reduceSub, Int.reduceToNat, ↓reduceIte, hv]
    all_goals first
      | (refine ⟨?_, .inl rfl⟩; repeat first | exact Grown.refl _ | assumption | apply Grown.pushV | apply Grown.pushR | (refine Grown.setV ?_ (by first | omega | (simp only [nvsR]; first | done | omega))) | (refine Grown.setOld ‹_› (by first | omega | (simp only [nvsR]; first | done | omega)) _) | (refine Grown.setOld0 ?_ (by first | omega | (simp only [nvsR]; first | done | omega)) _))
      | skip
    refine Contains_c _ _ (by omega) ?_
    simp (disch := first | omega | (simp only [ln]; first | done | omega)) only [walkAll, walkL, walkK, wk, E, Nat.reduceEqDiff, Nat.reduceAdd, Nat.reduceSub, Nat.reduceLeDiff, Int.reduceLT, Int.reduceLE, Int.reduceAdd, Int.reduceSub, Int.reduceToNat, ↓reduceIte, hv]
    refine ⟨?_, .inl rfl⟩
    repeat first | exact Grown.refl _ | assumption | apply Grown.pushV | apply Grown.pushR | (refine Grown.setV ?_ (by first | omega | (simp only [nvsR]; first | done | omega))) | (refine Grown.setOld ‹_› (by first | omega | (simp only [nvsR]; first | done | omega)) _) | (refine Grown.setOld0 ?_ (by first | omega | (simp only [nvsR]; first | done | omega)) _)
  | false =>
    rw [trimPrefix_no p1]
    simp (disch := first | omega | (simp only [ln]; first | done | omega)) only [walkAll, walkL, walkK, wk, E, Nat.reduceEqDiff, Nat.reduceAdd, Nat.reduceSub, Nat.reduceLeDiff, Int.reduceLT, Int.reduceLE, Int.reduceAdd, Int.reduceSub, Int.reduceToNat, ↓reduceIte, hv]
    rw [setV_same hv]
    refine LoopC_unfold tok fm ?_
    simp (disch := first | omega | (simp only [ln]; first | done | omega)) only [walkAll, walkL, walkK, wk, E, Nat.reduceEqDiff, Nat.reduceAdd, Nat.reduceSub, Nat.reduceLeDiff, Int.reduceLT, Int.reduceLE, Int.reduceAdd, Int.reduceSub, Int.reduceToNat, ↓reduceIte, l96_0x, l96_0b, hv, hr]
    refine pass_c b s [39] ty hv ?_
    cases p2 : Lib.hasPrefix s [39] with
    | true =>
      simp (disch := first | omega | (simp only [ln]; first | done | omega)) only [walkAll, walkL, walkK, wk, E, Nat.reduceEqDiff, Nat.reduceAdd, Nat.reduceSub, Nat.reduceLeDiff, Int.reduceLT, Int.reduceLE, Int.reduceAdd, Int.reduceSub, Int.reduceToNat, ↓reduceIte, hv]
      refine Cut_c _ _ (by omega) ?_
      simp (disch := first | omega | (simp only [ln]; first | done | omega)) only [walkAll, walkL, walkK, wk, E, Nat.reduceEqDiff, Nat.reduceAdd, Nat.reduceSub, Nat.reduceLeDiff, Int.reduceLT, Int.reduceLE, Int.reduceAdd, Int.reduceSub, Int.reduceToNat, ↓reduceIte, hv]
      refine val_c _ (by omega) ?_
      simp (disch := first | omega | (simp only [ln]; first | done | omega)) only [walkAll, walkL, walkK, wk, E, Nat.reduceEqDiff, Nat.reduceAdd, Nat.reduceSub, Nat.reduceLeDiff, Int.reduceLT, Int.reduceLE, Int.reduceAdd, Int.reduceSub, Int.reduceToNat, ↓reduceIte, hv]
      have e : quotedS s = quoted1 s [39] := by unfold quotedS; rw [p1, p2]; rfl
      rw [e]
      simp only [quoted1]
      cases i1 : (Lib.cut (Lib.trimPrefix s [39]) [39]).2.2 <;> cases i2 : (valS (Lib.cut (Lib.trimPrefix s [39]) [39]).1).2 <;> simp (disch := first | omega | (simp only [ln]; first | done | omega)) only [walkAll, walkL, walkK, wk, E, Nat.reduceEqDiff, Nat.reduceAdd, Nat.reduceSub, Nat.reduceLeDiff, Int.reduceLT, Int.reduceLE, Int.reduceAdd, Int.reduceSub, Int.reduceToNat, ↓reduceIte, hv]
      all_goals first
        | (refine ⟨?_, .inl rfl⟩; repeat first | exact Grown.refl _ | assumption | apply Grown.pushV | apply Grown.pushR | (refine Grown.setV ?_ (by first | omega | (simp only [nvsR]; first | done | omega))) | (refine Grown.setOld ‹_› (by first | omega | (simp only [nvsR]; first | done | omega)) _) | (refine Grown.setOld0 ?_ (by first | omega | (simp only [nvsR]; first | done | omega)) _))
        | skip
      refine Contains_c _ _ (by omega) ?_
      simp (disch := first | omega | (simp only [ln]; first | done | omega)) only [walkAll, walkL, walkK, wk, E, Nat.reduceEqDiff, Nat.reduceAdd, Nat.reduceSub, Nat.reduceLeDiff, Int.reduceLT, Int.reduceLE, Int.reduceAdd, Int.reduceSub, Int.reduceToNat, ↓reduceIte, hv]
      refine ⟨?_, .inl rfl⟩
      repeat first | exact Grown.refl _ | assumption | apply Grown.pushV | apply Grown.pushR | (refine Grown.setV ?_ (by first | omega | (simp only [nvsR]; first | done | omega))) | (refine Grown.setOld ‹_› (by first | omega | (simp only [nvsR]; first | done | omega)) _) | (refine Grown.setOld0 ?_ (by first | omega | (simp only [nvsR]; first | done | omega)) _)
    | false =>
      rw [trimPrefix_no p2]
      simp (disch := first | omega | (simp only [ln]; first | done | omega)) only [walkAll, walkL, walkK, wk, E, Nat.reduceEqDiff, Nat.reduceAdd, Nat.reduceSub, Nat.reduceLeDiff, Int.reduceLT, Int.reduceLE, Int.reduceAdd, Int.reduceSub, Int.reduceToNat, ↓reduceIte, hv]
      rw [setV_same hv]
      refine LoopC_unfold tok fm ?_
      simp (disch := first | omega | (simp only [ln]; first | done | omega)) only [walkAll, walkL, walkK, wk, E, Nat.reduceEqDiff, Nat.reduceAdd, Nat.reduceSub, Nat.reduceLeDiff, Int.reduceLT, Int.reduceLE, Int.reduceAdd, Int.reduceSub, Int.reduceToNat, ↓reduceIte, l96_0x, l96_0b, hv, hr]
      have e : quotedS s = ([], false, s) := by unfold quotedS; rw [p1, p2]; rfl
      rw [e]
      refine ⟨?_, .inl rfl⟩
      rw [setV_same hv]
      repeat first | exact Grown.refl _ | assumption | apply Grown.pushV | apply Grown.pushR | (refine Grown.setV ?_ (by first | omega | (simp only [nvsR]; first | done | omega))) | (refine Grown.setOld ‹_› (by first | omega | (simp only [nvsR]; first | done | omega)) _) | (refine Grown.setOld0 ?_ (by first | omega | (simp only [nvsR]; first | done | omega)) _)
theorem dropWhile_len (p : UInt8 → Bool) (s : List UInt8) : (s.dropWhile p).length ≤ s.length := (List.dropWhile_suffix p).length_le
theorem nameS_len (s : List UInt8) : (nameS s).2.length ≤ s.length := by
  unfold nameS; split
  · simp
  · exact dropWhile_len _ _
theorem quotedS_len (s : List UInt8) : (quotedS s).2.2.length ≤ s.length := by
  have h : ∀ q : UInt8, (quoted1 s [q]).2.2.length ≤ s.length := fun q => by
    have := (cut_len (Lib.trimPrefix s [q]) q).1
    have := trimPrefix_le s [q]
    simp only [quoted1]; omega
  unfold quotedS; split
  · exact h 34
  · split
    · exact h 39
    · simp
/-- An attribute: its name, its value, whether it is one, and what is left. -/
def attr2 (s : List UInt8) : List UInt8 := (nameS s).2.dropWhile blanksL.contains
def attr4 (s : List UInt8) : List UInt8 := (Lib.trimPrefix (attr2 s) [61]).dropWhile blanksL.contains
def attrS (s : List UInt8) : List UInt8 × List UInt8 × Bool × List UInt8 :=
  if (nameS s).1 == [] then ((nameS s).1, [], false, attr2 s)
  else if !Lib.hasPrefix (attr2 s) [61] then ((nameS s).1, [], false, attr2 s)
  else ((nameS s).1, (quotedS (attr4 s)).1, (quotedS (attr4 s)).2.1, (quotedS (attr4 s)).2.2)
theorem attr2_len (s : List UInt8) : (attr2 s).length ≤ s.length := Nat.le_trans (dropWhile_len _ _) (nameS_len s)
theorem attr4_len (s : List UInt8) : (attr4 s).length ≤ s.length := Nat.le_trans (dropWhile_len _ _) (Nat.le_trans (trimPrefix_le _ _) (attr2_len s))
theorem attr_c (b : Nat) (s : List UInt8) (ty : TypeId) (hv : W σ b ty s) (hs : s.length < 4294967281)
    (h : K (.tup [.agg [.str (attrS s).1, .str (attrS s).2.1], .bool (attrS s).2.2.1]) (σ.setV b (.cells ty [.str (attrS s).2.2.2]))) : ACalls Tryz.prog (gD m) 75 [.vp b 0] σ K := by
  refine ACalls.close (σ.setV b (.cells ty [.str (attrS s).2.2.2])) _ (Near.setV (.refl σ) (by simp only [dataR])) (by simp only [dataR]) ?_ h
  have hlt := getV_lt hv
  have n1 := nameS_len s
  have n2 := attr2_len s
  have n4 := attr4_len s
  have n3 := trimPrefix_le (attr2 s) [61]
  refine ACalls_fn tok fm (fk75 _) ?_
  simp (disch := first | omega | (simp only [ln]; first | done | omega)) only [walkAll, walkL, walkK, wk, E, Nat.reduceEqDiff, Nat.reduceAdd, Nat.reduceSub, Nat.reduceLeDiff, Int.reduceLT, Int.reduceLE, Int.reduceAdd, Int.reduceSub, Int.reduceToNat, ↓reduceIte, c75, hv]
  refine name_c b s ty (by simp (disch := first | omega | (simp only [ln]; first | done | omega)) only [walkAll, walkL, walkK, wk, E, Nat.reduceEqDiff, Nat.reduceAdd, Nat.reduceSub, Nat.reduceLeDiff, Int.reduceLT, Int.reduceLE, Int.reduceAdd, Int.reduceSub, Int.reduceToNat, ↓reduceIte, W, hv]) (by omega) ?_
  simp (disch := first | omega | (simp only [ln]; first | done | omega)) only [walkAll, walkL, walkK, wk, E, Nat.reduceEqDiff, Nat.reduceAdd, Nat.reduceSub, Nat.reduceLeDiff, Int.reduceLT, Int.reduceLE, Int.reduceAdd, Int.reduceSub, Int.reduceToNat, ↓reduceIte, hv]
  refine run_c b (nameS s).2 _ ty ?_ (by omega) (by decide) (by decide) (by decide) ?_
  · simp (disch := first | omega | (simp only [ln]; first | done | omega)) only [walkAll, walkL, walkK, wk, E, Nat.reduceEqDiff, Nat.reduceAdd, Nat.reduceSub, Nat.reduceLeDiff, Int.reduceLT, Int.reduceLE, Int.reduceAdd, Int.reduceSub, Int.reduceToNat, ↓reduceIte, W, hv]
  rw [show ((nameS s).2.dropWhile ([9, 10, 13, 32] : List UInt8).contains) = attr2 s from rfl]
  simp (disch := first | omega | (simp only [ln]; first | done | omega)) only [walkAll, walkL, walkK, wk, E, Nat.reduceEqDiff, Nat.reduceAdd, Nat.reduceSub, Nat.reduceLeDiff, Int.reduceLT, Int.reduceLE, Int.reduceAdd, Int.reduceSub, Int.reduceToNat, ↓reduceIte, hv]
  cases e1 : ((nameS s).1 == []) with
  | true =>
    simp (disch := first | omega | (simp only [ln]; first | done | omega)) only [walkAll, walkL, walkK, wk, E, Nat.reduceEqDiff, Nat.reduceAdd, Nat.reduceSub, Nat.reduceLeDiff, Int.reduceLT, Int.reduceLE, Int.reduceAdd, Int.reduceSub, Int.reduceToNat, ↓reduceIte, hv, e1]
    have e : attrS s = ((nameS s).1, [], false, attr2 s) := by simp only [attrS, e1]; rfl
    rw [e]
    refine ⟨?_, .inl rfl⟩
    repeat first | exact Grown.refl _ | assumption | apply Grown.pushV | apply Grown.pushR | (refine Grown.setV ?_ (by first | omega | (simp only [nvsR]; first | done | omega))) | (refine Grown.setOld ‹_› (by first | omega | (simp only [nvsR]; first | done | omega)) _) | (refine Grown.setOld0 ?_ (by first | omega | (simp only [nvsR]; first | done | omega)) _)
  | false =>
    simp (disch := first | omega | (simp only [ln]; first | done | omega)) only [walkAll, walkL, walkK, wk, E, Nat.reduceEqDiff, Nat.reduceAdd, Nat.reduceSub, Nat.reduceLeDiff, Int.reduceLT, Int.reduceLE, Int.reduceAdd, Int.reduceSub, Int.reduceToNat, ↓reduceIte, hv, e1]
    refine pass_c b (attr2 s) [61] ty (by simp (disch := first | omega | (simp only [ln]; first | done | omega)) only [walkAll, walkL, walkK, wk, E, Nat.reduceEqDiff, Nat.reduceAdd, Nat.reduceSub, Nat.reduceLeDiff, Int.reduceLT, Int.reduceLE, Int.reduceAdd, Int.reduceSub, Int.reduceToNat, ↓reduceIte, W, hv]) ?_
    cases p1 : Lib.hasPrefix (attr2 s) [61] with
    | false =>
      rw [trimPrefix_no p1]
      simp (disch := first | omega | (simp only [ln]; first | done | omega)) only [walkAll, walkL, walkK, wk, E, Nat.reduceEqDiff, Nat.reduceAdd, Nat.reduceSub, Nat.reduceLeDiff, Int.reduceLT, Int.reduceLE, Int.reduceAdd, Int.reduceSub, Int.reduceToNat, ↓reduceIte, hv, e1]
      have e : attrS s = ((nameS s).1, [], false, attr2 s) := by simp only [attrS, e1, p1]; rfl
      rw [e]
      refine ⟨?_, .inl rfl⟩
      repeat first | exact Grown.refl _ | assumption | apply Grown.pushV | apply Grown.pushR | (refine Grown.setV ?_ (by first | omega | (simp only [nvsR]; first | done | omega))) | (refine Grown.setOld ‹_› (by first | omega | (simp only [nvsR]; first | done | omega)) _) | (refine Grown.setOld0 ?_ (by first | omega | (simp only [nvsR]; first | done | omega)) _)
    | true =>
      simp (disch := first | omega | (simp only [ln]; first | done | omega)) only [walkAll, walkL, walkK, wk, E, Nat.reduceEqDiff, Nat.reduceAdd, Nat.reduceSub, Nat.reduceLeDiff, Int.reduceLT, Int.reduceLE, Int.reduceAdd, Int.reduceSub, Int.reduceToNat, ↓reduceIte, hv, e1]
      refine run_c b (Lib.trimPrefix (attr2 s) [61]) _ ty ?_ (by omega) (by decide) (by decide) (by decide) ?_
      · simp (disch := first | omega | (simp only [ln]; first | done | omega)) only [walkAll, walkL, walkK, wk, E, Nat.reduceEqDiff, Nat.reduceAdd, Nat.reduceSub, Nat.reduceLeDiff, Int.reduceLT, Int.reduceLE, Int.reduceAdd, Int.reduceSub, Int.reduceToNat, ↓reduceIte, W, hv]
      rw [show ((Lib.trimPrefix (attr2 s) [61]).dropWhile ([9, 10, 13, 32] : List UInt8).contains) = attr4 s from rfl]
      simp (disch := first | omega | (simp only [ln]; first | done | omega)) only [walkAll, walkL, walkK, wk, E, Nat.reduceEqDiff, Nat.reduceAdd, Nat.reduceSub, Nat.reduceLeDiff, Int.reduceLT, Int.reduceLE, Int.reduceAdd, Int.reduceSub, Int.reduceToNat, ↓reduceIte, hv]
      refine quoted_c b (attr4 s) ty (by simp (disch := first | omega | (simp only [ln]; first | done | omega)) only [walkAll, walkL, walkK, wk, E, Nat.reduceEqDiff, Nat.reduceAdd, Nat.reduceSub, Nat.reduceLeDiff, Int.reduceLT, Int.reduceLE, Int.reduceAdd, Int.reduceSub, Int.reduceToNat, ↓reduceIte, W, hv]) (by omega) ?_
      simp (disch := first | omega | (simp only [ln]; first | done | omega)) only [walkAll, walkL, walkK, wk, E, Nat.reduceEqDiff, Nat.reduceAdd, Nat.reduceSub, Nat.reduceLeDiff, Int.reduceLT, Int.reduceLE, Int.reduceAdd, Int.reduceSub, Int.reduceToNat, ↓reduceIte, hv]
      have e : attrS s = ((nameS s).1, (quotedS (attr4 s)).1, (quotedS (attr4 s)).2.1, (quotedS (attr4 s)).2.2) := by simp only [attrS, e1, p1]; rfl
      rw [e]
      refine ⟨?_, .inl rfl⟩
      repeat first | exact Grown.refl _ | assumption | apply Grown.pushV | apply Grown.pushR | (refine Grown.setV ?_ (by first | omega | (simp only [nvsR]; first | done | omega))) | (refine Grown.setOld ‹_› (by first | omega | (simp only [nvsR]; first | done | omega)) _) | (refine Grown.setOld0 ?_ (by first | omega | (simp only [nvsR]; first | done | omega)) _)
end
end Go.Ab.Sz
namespace Go.Ab.Sz
open Go Go.Ab Go.Proofs Go.RowKit
set_option maxRecDepth 40000
set_option linter.unusedSimpArgs false
section
variable {m : Int} {σ : St} {K : AV → St → Prop}
theorem drop_cons {α : Type} {l : List α} {i : Nat} {c : α} {r : List α} (h : l.drop i = c :: r) : l[i]? = some c ∧ l.drop (i + 1) = r := by
  constructor
  · have := congrArg (fun x => x[0]?) h
    simpa using this
  · rw [← List.drop_drop, h]; rfl
theorem idxF_loop (v : AV) (l : List (List AV)) (g : Nat) (cap : List AV) (p : List AV → Bool) (hR : Rd 2 σ v l) (hl : l.length < 9223372036854775807) (hp : ∀ c ∈ l, ∀ K : AV → St → Prop, K (.bool (p c)) σ → ACalls Tryz.prog (gD m) g (.agg c :: cap) σ K) {Q : EQ} :
    ∀ (rest : List (List AV)) (i : Nat) (e : Env), l.drop i = rest → e 8 = some (.int .i64 i) → e 7 = some (.int .i64 l.length) → e 0 = some v → e 1 = some (.fn (.func g) [] cap) →
    (rest.any p = false → ∀ e', Q (.exit 0) e' σ) → (rest.any p = true → ∀ e' (j : Int), 0 ≤ j → e' 4 = some (.int .i64 j) → Q .ret e' σ) →
    LoopC Tryz.prog tt (gD m) l97_0 Q e σ := by
  intro rest
  induction rest with
  | nil =>
    intro i e hd h8 h7 h0 h1 hx hr
    have hi : l.length ≤ i := by simpa using hd
    refine LoopC_unfold tok fm ?_
    have hb : decide ((i : Int) < (l.length : Int)) = false := by simp; omega
    simp (disch := first | omega | (simp only [ln]; first | done | omega)) only [walkAll, walkL, walkK, wk, E, Nat.reduceEqDiff, Nat.reduceAdd, Nat.reduceSub, Nat.reduceLeDiff, Int.reduceLT, Int.reduceLE, Int.reduceAdd, Int.reduceSub, Int.reduceToNat, ↓reduceIte, l97_0x, l97_0b, h8, h7, hb]
    exact hx rfl _
  | cons c rest ih =>
    intro i e hd h8 h7 h0 h1 hx hr
    obtain ⟨hc, hd'⟩ := drop_cons hd
    have hi := (List.getElem?_eq_some_iff.1 hc).1
    obtain ⟨q, hq, hpt⟩ := hR.at hc .i64
    have hcl := hR.1 c (List.mem_of_getElem? hc)
    have hld := hpt.all hcl
    refine LoopC_unfold tok fm ?_
    have hb : decide ((i : Int) < (l.length : Int)) = true := by simp; omega
    simp (disch := first | omega | (simp only [ln]; first | done | omega)) only [walkAll, walkL, walkK, wk, E, Nat.reduceEqDiff, Nat.reduceAdd, Nat.reduceSub, Nat.reduceLeDiff, Int.reduceLT, Int.reduceLE, Int.reduceAdd, Int.reduceSub, Int.reduceToNat, ↓reduceIte, l97_0x, l97_0b, h8, h7, h0, h1, hb, hq, hld]
    refine hp c (List.mem_of_getElem? hc) _ ?_
    cases hpc : p c with
    | true =>
      simp (disch := first | omega | (simp only [ln]; first | done | omega)) only [walkAll, walkL, walkK, wk, E, Nat.reduceEqDiff, Nat.reduceAdd, Nat.reduceSub, Nat.reduceLeDiff, Int.reduceLT, Int.reduceLE, Int.reduceAdd, Int.reduceSub, Int.reduceToNat, ↓reduceIte]
      exact hr (by simp [hpc]) _ i (by omega) (by simp [put])
    | false =>
      simp (disch := first | omega | (simp only [ln]; first | done | omega)) only [walkAll, walkL, walkK, wk, E, Nat.reduceEqDiff, Nat.reduceAdd, Nat.reduceSub, Nat.reduceLeDiff, Int.reduceLT, Int.reduceLE, Int.reduceAdd, Int.reduceSub, Int.reduceToNat, ↓reduceIte, h8]
      refine ih (i + 1) _ hd' (by simp [put]) (by simp [put, h7]) (by simp [put, h0]) (by simp [put, h1]) (fun h => hx (by simp [hpc, h])) (fun h => hr (by simp [hpc, h]))
theorem ContainsFunc_c (v : AV) (l : List (List AV)) (g : Nat) (cap : List AV) (p : List AV → Bool) (hR : Rd 2 σ v l) (hl : l.length < 9223372036854775807) (hp : ∀ c ∈ l, ∀ K : AV → St → Prop, K (.bool (p c)) σ → ACalls Tryz.prog (gD m) g (.agg c :: cap) σ K)
    (h : K (.bool (l.any p)) σ) : ACalls Tryz.prog (gD m) 76 [v, .fn (.func g) [] cap] σ K := by
  refine ACalls_fn tok fm (fk76 _) ?_
  simp (disch := first | omega | (simp only [ln]; first | done | omega)) only [walkAll, walkL, walkK, wk, E, Nat.reduceEqDiff, Nat.reduceAdd, Nat.reduceSub, Nat.reduceLeDiff, Int.reduceLT, Int.reduceLE, Int.reduceAdd, Int.reduceSub, Int.reduceToNat, ↓reduceIte, c76]
  refine ACalls_fn tok fm (fk97 _) ?_
  simp (disch := first | omega | (simp only [ln]; first | done | omega)) only [walkAll, walkL, walkK, wk, E, Nat.reduceEqDiff, Nat.reduceAdd, Nat.reduceSub, Nat.reduceLeDiff, Int.reduceLT, Int.reduceLE, Int.reduceAdd, Int.reduceSub, Int.reduceToNat, ↓reduceIte, c97, hR.len]
  refine idxF_loop v l g cap p hR hl hp l 0 _ rfl (by simp [put]) (by simp [put]) (by simp [put, E]) (by simp [put, E]) (fun ha e' => ?_) (fun ha e' j hj h4 => ?_)
  · simp (disch := first | omega | (simp only [ln]; first | done | omega)) only [walkAll, walkL, walkK, wk, E, Nat.reduceEqDiff, Nat.reduceAdd, Nat.reduceSub, Nat.reduceLeDiff, Int.reduceLT, Int.reduceLE, Int.reduceAdd, Int.reduceSub, Int.reduceToNat, ↓reduceIte]
    rw [ha] at h
    exact h
  · have hb : decide (0 ≤ j) = true := by simpa using hj
    simp (disch := first | omega | (simp only [ln]; first | done | omega)) only [walkAll, walkL, walkK, wk, E, Nat.reduceEqDiff, Nat.reduceAdd, Nat.reduceSub, Nat.reduceLeDiff, Int.reduceLT, Int.reduceLE, Int.reduceAdd, Int.reduceSub, Int.reduceToNat, ↓reduceIte, h4, hb]
    rw [ha] at h
    exact h
def atc (a : List UInt8 × List UInt8) : List AV := [.str a.1, .str a.2]
theorem open1_c (j : Nat) (x : List UInt8 × List UInt8) (n v : List UInt8) (ty : TypeId) (hv : getV σ j = some (.cells ty [.str n, .str v])) (h : K (.bool (x.1 == n)) σ) :
    ACalls Tryz.prog (gD m) 77 [.agg (atc x), .vp j 0] σ K := by
  refine ACalls.close σ _ (.refl σ) (by simp only [dataR]) ?_ h
  have hlt := getV_lt hv
  refine ACalls_fn tok fm (fk77 _) ?_
  simp (disch := first | omega | (simp only [ln]; first | done | omega)) only [walkAll, walkL, walkK, wk, E, Nat.reduceEqDiff, Nat.reduceAdd, Nat.reduceSub, Nat.reduceLeDiff, Int.reduceLT, Int.reduceLE, Int.reduceAdd, Int.reduceSub, Int.reduceToNat, ↓reduceIte, c77, hv, atc]
  exact ⟨by repeat first | exact Grown.refl _ | assumption | apply Grown.pushV | apply Grown.pushR | (refine Grown.setV ?_ (by first | omega | (simp only [nvsR]; first | done | omega))) | (refine Grown.setOld ‹_› (by first | omega | (simp only [nvsR]; first | done | omega)) _) | (refine Grown.setOld0 ?_ (by first | omega | (simp only [nvsR]; first | done | omega)) _), .inl rfl⟩
/-- A token. -/
structure Tok where
  kind : Int
  name : List UInt8
  text : List UInt8
  attrs : List (List UInt8 × List UInt8)
  empty : Bool
  deriving DecidableEq
def Tok.c (t : Tok) : List AV := [.int .i64 t.kind, .str t.name, .str t.text, lsv (t.attrs.map atc), .bool t.empty]
theorem atc_data (l : List (List UInt8 × List UInt8)) : DataL (l.map atc).flatten := data_flat fun x _ => by simp only [atc, dataR]
theorem tok_data (t : Tok) : DataL t.c := by
  simp only [Tok.c, dataR]
  exact ⟨lsv_data (atc_data _), trivial⟩
theorem hasPrefix_len {s p : List UInt8} (h : Lib.hasPrefix s p = true) : (Lib.trimPrefix s p).length + p.length = s.length := by
  unfold Lib.trimPrefix
  rw [if_pos h]
  simp only [Lib.hasPrefix] at h
  have := List.IsPrefix.length_le (List.isPrefixOf_iff_prefix.1 h)
  simp; omega
theorem attrS_lt {s : List UInt8} (h : (attrS s).2.2.1 = true) : (attrS s).2.2.2.length < s.length := by
  unfold attrS at *
  split at h
  · cases h
  · split at h
    · cases h
    · rename_i h1 h2
      simp only [Bool.not_eq_true', Bool.not_eq_false] at h2
      rw [if_neg h1, if_neg (by simp [h2])]
      have := quotedS_len (attr4 s)
      have h3 := hasPrefix_len h2
      have h4 := dropWhile_len blanksL.contains (Lib.trimPrefix (attr2 s) [61])
      have h5 := attr2_len s
      simp only [attr4, List.length_singleton] at *
      omega
theorem attrS_len (s : List UInt8) : (attrS s).2.2.2.length ≤ s.length := by
  unfold attrS
  have h1 := attr2_len s
  have h2 := quotedS_len (attr4 s)
  have h3 := attr4_len s
  split
  · exact h1
  · split
    · exact h1
    · simp only; omega
/-- The rest of a beginning: its attributes, whether it is an empty one, whether it is one, and what is left. -/
def openL : Nat → List UInt8 → List (List UInt8 × List UInt8) → List (List UInt8 × List UInt8) × Bool × Bool × List UInt8
  | 0, s, al => (al, false, false, s)
  | n + 1, s, al =>
    if Lib.hasPrefix (s.dropWhile blanksL.contains) [62] then (al, false, true, Lib.trimPrefix (s.dropWhile blanksL.contains) [62])
    else if Lib.hasPrefix (s.dropWhile blanksL.contains) [47, 62] then (al, true, true, Lib.trimPrefix (s.dropWhile blanksL.contains) [47, 62])
    else if (s.takeWhile blanksL.contains == []) || !(attrS (s.dropWhile blanksL.contains)).2.2.1 || al.any (fun x => x.1 == (attrS (s.dropWhile blanksL.contains)).1) then (al, false, false, (attrS (s.dropWhile blanksL.contains)).2.2.2)
    else openL n (attrS (s.dropWhile blanksL.contains)).2.2.2 (al ++ [((attrS (s.dropWhile blanksL.contains)).1, (attrS (s.dropWhile blanksL.contains)).2.1)])
def openS (s : List UInt8) : Tok × Bool × List UInt8 :=
  if (nameS s).1 == [] then (⟨1, (nameS s).1, [], [], false⟩, false, (nameS s).2)
  else (⟨1, (nameS s).1, [], (openL ((nameS s).2.length + 1) (nameS s).2 []).1, (openL ((nameS s).2.length + 1) (nameS s).2 []).2.1⟩, (openL ((nameS s).2.length + 1) (nameS s).2 []).2.2.1, (openL ((nameS s).2.length + 1) (nameS s).2 []).2.2.2)
end
end Go.Ab.Sz
namespace Go.Ab.Sz
open Go Go.Ab Go.Proofs Go.RowKit
set_option maxRecDepth 40000
set_option linter.unusedSimpArgs false
section
variable {m : Int} {σ : St} {K : AV → St → Prop}
theorem open_loop (b : Nat) (ty : TypeId) (name : List UInt8) (hnm : (name == []) = false) (hb : b < nvs σ) {Q : EQ} : ∀ (n : Nat) (s : List UInt8) (al : List (List UInt8 × List UInt8)) (v : AV) (ρ : Option Nat) (τ : St) (e : Env) (x : List AV),
    s.length < n → al.length + s.length < 4294967281 → Lst 64 2 τ v (al.map atc) ρ → (∀ k, ρ = some k → nrs σ ≤ k) → Grown (σ.setV b (.cells ty [.str s])) τ → getV τ b = some (.cells ty [.str s]) →
    getV τ (nvs σ) = some (.cells 30 x) → x.length = 5 → getV τ (nvs σ + 1) = some (.cells 30 [.int .i64 1, .str name, .str [], v, .bool false]) →
    e 0 = some (.vp b 0) → e 2 = some (.vp (nvs σ) 0) → e 4 = some (.vp (nvs σ + 1) 0) →
    (∀ e' τ' v' ρ', Lst 64 2 τ' v' ((openL n s al).1.map atc) ρ' → (∀ k, ρ' = some k → nrs σ ≤ k) → Grown (σ.setV b (.cells ty [.str (openL n s al).2.2.2])) τ' →
      getV τ' (nvs σ) = some (.cells 30 [.int .i64 1, .str name, .str [], v', .bool (openL n s al).2.1]) → e' 2 = some (.vp (nvs σ) 0) → e' 3 = some (.bool (openL n s al).2.2.1) → Q .ret e' τ') →
    LoopC Tryz.prog tt (gD m) l51_0 Q e τ := by
  intro n
  induction n with
  | zero => intro s al v ρ τ e x h; omega
  | succ n ih =>
    intro s al v ρ τ e x hn hs hl hk hg hv hr hx ht h0 h2 h4 hq
    obtain ⟨x0, x1, x2, x3, x4, rfl⟩ : ∃ x0 x1 x2 x3 x4, x = [x0, x1, x2, x3, x4] := by
      match x, hx with
      | [a, b, c, d, e], _ => exact ⟨_, _, _, _, _, rfl⟩
    have hnv := hg.nvs
    simp only [nvsR] at hnv
    have hlt := getV_lt ht
    obtain ⟨hvc, hvo⟩ := hl.cells
    have d1 := dropWhile_len blanksL.contains s
    refine LoopC_unfold tok fm ?_
    simp (disch := first | omega | (simp only [ln]; first | done | omega)) only [walkAll, walkL, walkK, wk, E, Nat.reduceEqDiff, Nat.reduceAdd, Nat.reduceSub, Nat.reduceLeDiff, Int.reduceLT, Int.reduceLE, Int.reduceAdd, Int.reduceSub, Int.reduceToNat, ↓reduceIte, l51_0x, l51_0b, h0, h2, h4, ht, hr, hnm]
    refine run_c b s _ ty hv (by omega) (by decide) (by decide) (by decide) ?_
    rw [show (s.dropWhile ([9, 10, 13, 32] : List UInt8).contains) = s.dropWhile blanksL.contains from rfl, show (s.takeWhile ([9, 10, 13, 32] : List UInt8).contains) = s.takeWhile blanksL.contains from rfl]
    generalize hs1 : s.dropWhile blanksL.contains = s1 at *
    have a1 := attrS_len s1
    simp (disch := first | omega | (simp only [ln]; first | done | omega)) only [walkAll, walkL, walkK, wk, E, Nat.reduceEqDiff, Nat.reduceAdd, Nat.reduceSub, Nat.reduceLeDiff, Int.reduceLT, Int.reduceLE, Int.reduceAdd, Int.reduceSub, Int.reduceToNat, ↓reduceIte, h0, h2, h4, ht, hr]
    refine pass_c b s1 _ ty ?_ ?_
    · simp (disch := first | omega | (simp only [ln]; first | done | omega)) only [walkAll, walkL, walkK, wk, E, Nat.reduceEqDiff, Nat.reduceAdd, Nat.reduceSub, Nat.reduceLeDiff, Int.reduceLT, Int.reduceLE, Int.reduceAdd, Int.reduceSub, Int.reduceToNat, ↓reduceIte, W, hv]
    cases p1 : Lib.hasPrefix s1 [62] with
    | true =>
      simp (disch := first | omega | (simp only [ln]; first | done | omega)) only [walkAll, walkL, walkK, wk, E, Nat.reduceEqDiff, Nat.reduceAdd, Nat.reduceSub, Nat.reduceLeDiff, Int.reduceLT, Int.reduceLE, Int.reduceAdd, Int.reduceSub, Int.reduceToNat, ↓reduceIte, h0, h2, h4, ht, hr, hvc, hvo]
      have ev : openL (n + 1) s al = (al, false, true, Lib.trimPrefix s1 [62]) := by simp only [openL, hs1, p1]; rfl
      rw [ev] at hq
      refine hq _ _ v ρ (by exact hl) hk ?_ ?_ ?_ ?_
      · repeat first | exact Grown.refl _ | assumption | apply Grown.pushV | apply Grown.pushR | (refine Grown.setV ?_ (by first | omega | (simp only [nvsR]; first | done | omega))) | (refine Grown.setOld ‹_› (by first | omega | (simp only [nvsR]; first | done | omega)) _) | (refine Grown.setOld0 ?_ (by first | omega | (simp only [nvsR]; first | done | omega)) _)
      · simp (disch := first | omega | (simp only [ln]; first | done | omega)) only [walkAll, walkL, walkK, wk, E, Nat.reduceEqDiff, Nat.reduceAdd, Nat.reduceSub, Nat.reduceLeDiff, Int.reduceLT, Int.reduceLE, Int.reduceAdd, Int.reduceSub, Int.reduceToNat, ↓reduceIte]
      · simp [put, h2]
      · simp [put]
    | false =>
      rw [trimPrefix_no p1]
      simp (disch := first | omega | (simp only [ln]; first | done | omega)) only [walkAll, walkL, walkK, wk, E, Nat.reduceEqDiff, Nat.reduceAdd, Nat.reduceSub, Nat.reduceLeDiff, Int.reduceLT, Int.reduceLE, Int.reduceAdd, Int.reduceSub, Int.reduceToNat, ↓reduceIte, h0, h2, h4, ht, hr]
      refine pass_c b s1 _ ty ?_ ?_
      · simp (disch := first | omega | (simp only [ln]; first | done | omega)) only [walkAll, walkL, walkK, wk, E, Nat.reduceEqDiff, Nat.reduceAdd, Nat.reduceSub, Nat.reduceLeDiff, Int.reduceLT, Int.reduceLE, Int.reduceAdd, Int.reduceSub, Int.reduceToNat, ↓reduceIte, W, hv]
      cases p2 : Lib.hasPrefix s1 [47, 62] with
      | true =>
        simp (disch := first | omega | (simp only [ln]; first | done | omega)) only [walkAll, walkL, walkK, wk, E, Nat.reduceEqDiff, Nat.reduceAdd, Nat.reduceSub, Nat.reduceLeDiff, Int.reduceLT, Int.reduceLE, Int.reduceAdd, Int.reduceSub, Int.reduceToNat, ↓reduceIte, h0, h2, h4, ht, hr, hvc, hvo]
        have ev : openL (n + 1) s al = (al, true, true, Lib.trimPrefix s1 [47, 62]) := by simp only [openL, hs1, p1, p2]; rfl
        rw [ev] at hq
        refine hq _ _ v ρ (by exact hl) hk ?_ ?_ ?_ ?_
        · repeat first | exact Grown.refl _ | assumption | apply Grown.pushV | apply Grown.pushR | (refine Grown.setV ?_ (by first | omega | (simp only [nvsR]; first | done | omega))) | (refine Grown.setOld ‹_› (by first | omega | (simp only [nvsR]; first | done | omega)) _) | (refine Grown.setOld0 ?_ (by first | omega | (simp only [nvsR]; first | done | omega)) _)
        · simp (disch := first | omega | (simp only [ln]; first | done | omega)) only [walkAll, walkL, walkK, wk, E, Nat.reduceEqDiff, Nat.reduceAdd, Nat.reduceSub, Nat.reduceLeDiff, Int.reduceLT, Int.reduceLE, Int.reduceAdd, Int.reduceSub, Int.reduceToNat, ↓reduceIte]
        · simp [put, h2]
        · simp [put]
      | false =>
        rw [trimPrefix_no p2]
        simp (disch := first | omega | (simp only [ln]; first | done | omega)) only [walkAll, walkL, walkK, wk, E, Nat.reduceEqDiff, Nat.reduceAdd, Nat.reduceSub, Nat.reduceLeDiff, Int.reduceLT, Int.reduceLE, Int.reduceAdd, Int.reduceSub, Int.reduceToNat, ↓reduceIte, h0, h2, h4, ht, hr]
        refine attr_c b s1 ty ?_ (by omega) ?_
        · simp (disch := first | omega | (simp only [ln]; first | done | omega)) only [walkAll, walkL, walkK, wk, E, Nat.reduceEqDiff, Nat.reduceAdd, Nat.reduceSub, Nat.reduceLeDiff, Int.reduceLT, Int.reduceLE, Int.reduceAdd, Int.reduceSub, Int.reduceToNat, ↓reduceIte, W, hv]
        have hq0 : ∀ (τ' : St) (e' : Env), ((s.takeWhile blanksL.contains == []) || !(attrS s1).2.2.1 || al.any (fun x => x.1 == (attrS s1).1)) = true → Grown (σ.setV b (.cells ty [.str (attrS s1).2.2.2])) τ' → Lst 64 2 τ' v (al.map atc) ρ →
            getV τ' (nvs σ) = some (.cells 30 [.int .i64 1, .str name, .str [], v, .bool false]) → e' 2 = some (.vp (nvs σ) 0) → e' 3 = some (.bool false) → Q .ret e' τ' := fun τ' e' hc k1 k2 k3 k4 k5 => by
          have ev : openL (n + 1) s al = (al, false, false, (attrS s1).2.2.2) := by simp only [openL, hs1, p1, p2, hc]; rfl
          rw [ev] at hq
          exact hq e' τ' v ρ k2 hk k1 k3 k4 k5
        simp (disch := first | omega | (simp only [ln]; first | done | omega)) only [walkAll, walkL, walkK, wk, E, Nat.reduceEqDiff, Nat.reduceAdd, Nat.reduceSub, Nat.reduceLeDiff, Int.reduceLT, Int.reduceLE, Int.reduceAdd, Int.reduceSub, Int.reduceToNat, ↓reduceIte, h0, h2, h4, ht, hr]
        cases g1 : (s.takeWhile blanksL.contains == []) with
        | true =>
          simp (disch := first | omega | (simp only [ln]; first | done | omega)) only [walkAll, walkL, walkK, wk, E, Nat.reduceEqDiff, Nat.reduceAdd, Nat.reduceSub, Nat.reduceLeDiff, Int.reduceLT, Int.reduceLE, Int.reduceAdd, Int.reduceSub, Int.reduceToNat, ↓reduceIte, h0, h2, h4, ht, hr, hvc, hvo]
          refine hq0 _ _ (by rw [g1]; rfl) ?_ hl ?_ ?_ ?_
          · repeat first | exact Grown.refl _ | assumption | apply Grown.pushV | apply Grown.pushR | (refine Grown.setV ?_ (by first | omega | (simp only [nvsR]; first | done | omega))) | (refine Grown.setOld ‹_› (by first | omega | (simp only [nvsR]; first | done | omega)) _) | (refine Grown.setOld0 ?_ (by first | omega | (simp only [nvsR]; first | done | omega)) _)
          · simp (disch := first | omega | (simp only [ln]; first | done | omega)) only [walkAll, walkL, walkK, wk, E, Nat.reduceEqDiff, Nat.reduceAdd, Nat.reduceSub, Nat.reduceLeDiff, Int.reduceLT, Int.reduceLE, Int.reduceAdd, Int.reduceSub, Int.reduceToNat, ↓reduceIte]
          · simp [put, h2]
          · simp [put]
        | false =>
          cases g2 : (attrS s1).2.2.1 with
          | false =>
            simp (disch := first | omega | (simp only [ln]; first | done | omega)) only [walkAll, walkL, walkK, wk, E, Nat.reduceEqDiff, Nat.reduceAdd, Nat.reduceSub, Nat.reduceLeDiff, Int.reduceLT, Int.reduceLE, Int.reduceAdd, Int.reduceSub, Int.reduceToNat, ↓reduceIte, h0, h2, h4, ht, hr, hvc, hvo]
            refine hq0 _ _ (by rw [g1, g2]; rfl) ?_ hl ?_ ?_ ?_
            · repeat first | exact Grown.refl _ | assumption | apply Grown.pushV | apply Grown.pushR | (refine Grown.setV ?_ (by first | omega | (simp only [nvsR]; first | done | omega))) | (refine Grown.setOld ‹_› (by first | omega | (simp only [nvsR]; first | done | omega)) _) | (refine Grown.setOld0 ?_ (by first | omega | (simp only [nvsR]; first | done | omega)) _)
            · simp (disch := first | omega | (simp only [ln]; first | done | omega)) only [walkAll, walkL, walkK, wk, E, Nat.reduceEqDiff, Nat.reduceAdd, Nat.reduceSub, Nat.reduceLeDiff, Int.reduceLT, Int.reduceLE, Int.reduceAdd, Int.reduceSub, Int.reduceToNat, ↓reduceIte]
            · simp [put, h2]
            · simp [put]
          | true =>
            simp (disch := first | omega | (simp only [ln]; first | done | omega)) only [walkAll, walkL, walkK, wk, E, Nat.reduceEqDiff, Nat.reduceAdd, Nat.reduceSub, Nat.reduceLeDiff, Int.reduceLT, Int.reduceLE, Int.reduceAdd, Int.reduceSub, Int.reduceToNat, ↓reduceIte, h0, h2, h4, ht, hr, hvc, hvo]
            refine ContainsFunc_c v (al.map atc) 77 [.vp (nvs τ) 0] (fun c => match c with | [.str x, _] => x == (attrS s1).1 | _ => false) (by exact hl.rd) (by simp; omega) ?_ ?_
            · intro c hc K hK
              obtain ⟨a, _, rfl⟩ := List.mem_map.1 hc
              refine open1_c (nvs τ) a (attrS s1).1 (attrS s1).2.1 64 ?_ hK
              simp (disch := first | omega | (simp only [ln]; first | done | omega)) only [walkAll, walkL, walkK, wk, E, Nat.reduceEqDiff, Nat.reduceAdd, Nat.reduceSub, Nat.reduceLeDiff, Int.reduceLT, Int.reduceLE, Int.reduceAdd, Int.reduceSub, Int.reduceToNat, ↓reduceIte]
            rw [show (al.map atc).any (fun c => match c with | [.str x, _] => x == (attrS s1).1 | _ => false) = al.any (fun x => x.1 == (attrS s1).1) from by rw [List.any_map]; rfl]
            cases g3 : al.any (fun x => x.1 == (attrS s1).1) with
            | true =>
              simp (disch := first | omega | (simp only [ln]; first | done | omega)) only [walkAll, walkL, walkK, wk, E, Nat.reduceEqDiff, Nat.reduceAdd, Nat.reduceSub, Nat.reduceLeDiff, Int.reduceLT, Int.reduceLE, Int.reduceAdd, Int.reduceSub, Int.reduceToNat, ↓reduceIte, h0, h2, h4, ht, hr, hvc, hvo]
              refine hq0 _ _ (by rw [g1, g2, g3]; rfl) ?_ hl ?_ ?_ ?_
              · repeat first | exact Grown.refl _ | assumption | apply Grown.pushV | apply Grown.pushR | (refine Grown.setV ?_ (by first | omega | (simp only [nvsR]; first | done | omega))) | (refine Grown.setOld ‹_› (by first | omega | (simp only [nvsR]; first | done | omega)) _) | (refine Grown.setOld0 ?_ (by first | omega | (simp only [nvsR]; first | done | omega)) _)
              · simp (disch := first | omega | (simp only [ln]; first | done | omega)) only [walkAll, walkL, walkK, wk, E, Nat.reduceEqDiff, Nat.reduceAdd, Nat.reduceSub, Nat.reduceLeDiff, Int.reduceLT, Int.reduceLE, Int.reduceAdd, Int.reduceSub, Int.reduceToNat, ↓reduceIte]
              · simp [put, h2]
              · simp [put]
            | false =>
              simp (disch := first | omega | (simp only [ln]; first | done | omega)) only [walkAll, walkL, walkK, wk, E, Nat.reduceEqDiff, Nat.reduceAdd, Nat.reduceSub, Nat.reduceLeDiff, Int.reduceLT, Int.reduceLE, Int.reduceAdd, Int.reduceSub, Int.reduceToNat, ↓reduceIte, h0, h2, h4, ht, hr, hvc, hvo]
              refine app_one (l := al.map atc) (ρ := ρ) hl rfl rfl (by simp; omega) (fun v' σ' ρ' hl' hB => ?_)
              have hgv : ∀ j, getV σ' j = getV ((τ.setV b (.cells ty [.str (attrS s1).2.2.2])).pushV (.cells 64 [.str (attrS s1).1, .str (attrS s1).2.1])) j := hB.getV
              have hnv' : nvs σ' = nvs τ + 1 := by rw [hB.nvs]; simp only [nvsR]
              obtain ⟨hvc', hvo'⟩ := hl'.cells
              have hv1 : getV σ' b = some (.cells ty [.str (attrS s1).2.2.2]) := by rw [hgv]; simp (disch := first | omega | (simp only [ln]; first | done | omega)) only [walkAll, walkL, walkK, wk, E, Nat.reduceEqDiff, Nat.reduceAdd, Nat.reduceSub, Nat.reduceLeDiff, Int.reduceLT, Int.reduceLE, Int.reduceAdd, Int.reduceSub, Int.reduceToNat, ↓reduceIte]
              have hv2 : getV σ' (nvs σ) = some (.cells 30 [x0, x1, x2, x3, x4]) := by rw [hgv]; simp (disch := first | omega | (simp only [ln]; first | done | omega)) only [walkAll, walkL, walkK, wk, E, Nat.reduceEqDiff, Nat.reduceAdd, Nat.reduceSub, Nat.reduceLeDiff, Int.reduceLT, Int.reduceLE, Int.reduceAdd, Int.reduceSub, Int.reduceToNat, ↓reduceIte, hr]
              have hv3 : getV σ' (nvs σ + 1) = some (.cells 30 [.int .i64 1, .str name, .str [], v, .bool false]) := by rw [hgv]; simp (disch := first | omega | (simp only [ln]; first | done | omega)) only [walkAll, walkL, walkK, wk, E, Nat.reduceEqDiff, Nat.reduceAdd, Nat.reduceSub, Nat.reduceLeDiff, Int.reduceLT, Int.reduceLE, Int.reduceAdd, Int.reduceSub, Int.reduceToNat, ↓reduceIte, ht]
              simp (disch := first | omega | (simp only [ln]; first | done | omega)) only [walkAll, walkL, walkK, wk, E, Nat.reduceEqDiff, Nat.reduceAdd, Nat.reduceSub, Nat.reduceLeDiff, Int.reduceLT, Int.reduceLE, Int.reduceAdd, Int.reduceSub, Int.reduceToNat, ↓reduceIte, h0, h2, h4, hv1, hv2, hv3, hvc', hvo']
              have ev : openL (n + 1) s al = openL n (attrS s1).2.2.2 (al ++ [((attrS s1).1, (attrS s1).2.1)]) := by simp only [openL, hs1, p1, p2, g1, g2, g3]; rfl
              rw [ev] at hq
              have a2 := attrS_lt g2
              have hsl : s1.length < s.length := by
                have h3 := congrArg List.length (List.takeWhile_append_dropWhile (p := blanksL.contains) (l := s))
                rw [hs1, List.length_append] at h3
                have : s.takeWhile blanksL.contains ≠ [] := by intro h; rw [h] at g1; cases g1
                have := List.length_pos_iff.2 this
                omega
              refine ih (attrS s1).2.2.2 (al ++ [((attrS s1).1, (attrS s1).2.1)]) v' ρ' _ _ [x0, x1, x2, x3, x4] (by omega) (by simp; omega) ?_ ?_ ?_ ?_ ?_ rfl ?_ ?_ ?_ ?_ hq
              · rw [List.map_append]; exact hl'
              · intro k hk'
                rcases hB.new with h | ⟨r, h, hle⟩
                · exact hk k (h ▸ hk')
                · rw [hk'] at h; cases h
                  have := hg.nrs
                  simp only [nvsR] at this hle
                  omega
              · refine Grown.setV ?_ (by simp only [nvsR]; omega)
                refine hB.grown ?_ (fun k h => by simp only [nvsR]; exact hk k h)
                repeat first | exact Grown.refl _ | assumption | apply Grown.pushV | apply Grown.pushR | (refine Grown.setV ?_ (by first | omega | (simp only [nvsR]; first | done | omega))) | (refine Grown.setOld ‹_› (by first | omega | (simp only [nvsR]; first | done | omega)) _) | (refine Grown.setOld0 ?_ (by first | omega | (simp only [nvsR]; first | done | omega)) _)
              · simp (disch := first | omega | (simp only [ln]; first | done | omega)) only [walkAll, walkL, walkK, wk, E, Nat.reduceEqDiff, Nat.reduceAdd, Nat.reduceSub, Nat.reduceLeDiff, Int.reduceLT, Int.reduceLE, Int.reduceAdd, Int.reduceSub, Int.reduceToNat, ↓reduceIte, hv1]
              · simp (disch := first | omega | (simp only [ln]; first | done | omega)) only [walkAll, walkL, walkK, wk, E, Nat.reduceEqDiff, Nat.reduceAdd, Nat.reduceSub, Nat.reduceLeDiff, Int.reduceLT, Int.reduceLE, Int.reduceAdd, Int.reduceSub, Int.reduceToNat, ↓reduceIte, hv2]
              · simp (disch := first | omega | (simp only [ln]; first | done | omega)) only [walkAll, walkL, walkK, wk, E, Nat.reduceEqDiff, Nat.reduceAdd, Nat.reduceSub, Nat.reduceLeDiff, Int.reduceLT, Int.reduceLE, Int.reduceAdd, Int.reduceSub, Int.reduceToNat, ↓reduceIte, hv3]
              · simp [put, h0]
              · simp [put, h2]
              · simp [put, h4]
theorem openL_len : ∀ (n : Nat) (s : List UInt8) (al : List (List UInt8 × List UInt8)), (openL n s al).2.2.2.length ≤ s.length
  | 0, s, al => by simp [openL]
  | n + 1, s, al => by
    have d1 := dropWhile_len blanksL.contains s
    have a1 := attrS_len (s.dropWhile blanksL.contains)
    simp only [openL]
    split
    · exact Nat.le_trans (trimPrefix_le _ _) d1
    · split
      · exact Nat.le_trans (trimPrefix_le _ _) d1
      · split
        · simp only; omega
        · exact Nat.le_trans (openL_len n _ _) (by omega)
theorem open_c (b : Nat) (s : List UInt8) (ty : TypeId) (hv : W σ b ty s) (hs : s.length < 4294967281)
    (h : K (.tup [.agg (openS s).1.c, .bool (openS s).2.1]) (σ.setV b (.cells ty [.str (openS s).2.2]))) : ACalls Tryz.prog (gD m) 51 [.vp b 0] σ K := by
  refine ACalls.close (σ.setV b (.cells ty [.str (openS s).2.2])) _ (Near.setV (.refl σ) (by simp only [dataR])) (by simp only [dataR, tok_data]) ?_ h
  have hlt := getV_lt hv
  have n1 := nameS_len s
  refine ACalls_fn tok fm (fk51 _) ?_
  simp (disch := first | omega | (simp only [ln]; first | done | omega)) only [walkAll, walkL, walkK, wk, E, Nat.reduceEqDiff, Nat.reduceAdd, Nat.reduceSub, Nat.reduceLeDiff, Int.reduceLT, Int.reduceLE, Int.reduceAdd, Int.reduceSub, Int.reduceToNat, ↓reduceIte, c51, hv]
  refine name_c b s ty ?_ (by omega) ?_
  · simp (disch := first | omega | (simp only [ln]; first | done | omega)) only [walkAll, walkL, walkK, wk, E, Nat.reduceEqDiff, Nat.reduceAdd, Nat.reduceSub, Nat.reduceLeDiff, Int.reduceLT, Int.reduceLE, Int.reduceAdd, Int.reduceSub, Int.reduceToNat, ↓reduceIte, W, hv]
  simp (disch := first | omega | (simp only [ln]; first | done | omega)) only [walkAll, walkL, walkK, wk, E, Nat.reduceEqDiff, Nat.reduceAdd, Nat.reduceSub, Nat.reduceLeDiff, Int.reduceLT, Int.reduceLE, Int.reduceAdd, Int.reduceSub, Int.reduceToNat, ↓reduceIte, hv]
  cases e1 : ((nameS s).1 == []) with
  | true =>
    refine LoopC_unfold tok fm ?_
    simp (disch := first | omega | (simp only [ln]; first | done | omega)) only [walkAll, walkL, walkK, wk, E, Nat.reduceEqDiff, Nat.reduceAdd, Nat.reduceSub, Nat.reduceLeDiff, Int.reduceLT, Int.reduceLE, Int.reduceAdd, Int.reduceSub, Int.reduceToNat, ↓reduceIte, l51_0x, l51_0b, e1]
    have e : openS s = (⟨1, (nameS s).1, [], [], false⟩, false, (nameS s).2) := by simp only [openS, e1]; rfl
    rw [e]
    refine ⟨?_, .inl rfl⟩
    repeat first | exact Grown.refl _ | assumption | apply Grown.pushV | apply Grown.pushR | (refine Grown.setV ?_ (by first | omega | (simp only [nvsR]; first | done | omega))) | (refine Grown.setOld ‹_› (by first | omega | (simp only [nvsR]; first | done | omega)) _) | (refine Grown.setOld0 ?_ (by first | omega | (simp only [nvsR]; first | done | omega)) _)
  | false =>
    have e : openS s = (⟨1, (nameS s).1, [], (openL ((nameS s).2.length + 1) (nameS s).2 []).1, (openL ((nameS s).2.length + 1) (nameS s).2 []).2.1⟩, (openL ((nameS s).2.length + 1) (nameS s).2 []).2.2.1, (openL ((nameS s).2.length + 1) (nameS s).2 []).2.2.2) := by simp only [openS, e1]; rfl
    rw [e]
    refine open_loop b ty (nameS s).1 e1 hlt ((nameS s).2.length + 1) (nameS s).2 [] .nils none _ _ [.int .i64 0, .str [], .str [], .nils, .bool false] (by omega) (by simp; omega) (Lst.nil _ _ _) (fun k h => by cases h) ?_ ?_ ?_ rfl ?_ (by simp [put, E]) (by simp [put]) (by simp [put]) (fun e' τ' v' ρ' hl hk hg hr h2 h3 => ?_)
    · repeat first | exact Grown.refl _ | assumption | apply Grown.pushV | apply Grown.pushR | (refine Grown.setV ?_ (by first | omega | (simp only [nvsR]; first | done | omega))) | (refine Grown.setOld ‹_› (by first | omega | (simp only [nvsR]; first | done | omega)) _) | (refine Grown.setOld0 ?_ (by first | omega | (simp only [nvsR]; first | done | omega)) _)
    · simp (disch := first | omega | (simp only [ln]; first | done | omega)) only [walkAll, walkL, walkK, wk, E, Nat.reduceEqDiff, Nat.reduceAdd, Nat.reduceSub, Nat.reduceLeDiff, Int.reduceLT, Int.reduceLE, Int.reduceAdd, Int.reduceSub, Int.reduceToNat, ↓reduceIte]
    · simp (disch := first | omega | (simp only [ln]; first | done | omega)) only [walkAll, walkL, walkK, wk, E, Nat.reduceEqDiff, Nat.reduceAdd, Nat.reduceSub, Nat.reduceLeDiff, Int.reduceLT, Int.reduceLE, Int.reduceAdd, Int.reduceSub, Int.reduceToNat, ↓reduceIte]
    · simp (disch := first | omega | (simp only [ln]; first | done | omega)) only [walkAll, walkL, walkK, wk, E, Nat.reduceEqDiff, Nat.reduceAdd, Nat.reduceSub, Nat.reduceLeDiff, Int.reduceLT, Int.reduceLE, Int.reduceAdd, Int.reduceSub, Int.reduceToNat, ↓reduceIte]
    · obtain ⟨hvc, hvo⟩ := hl.cells
      simp (disch := first | omega | (simp only [ln]; first | done | omega)) only [walkAll, walkL, walkK, wk, E, Nat.reduceEqDiff, Nat.reduceAdd, Nat.reduceSub, Nat.reduceLeDiff, Int.reduceLT, Int.reduceLE, Int.reduceAdd, Int.reduceSub, Int.reduceToNat, ↓reduceIte, h2, h3, hr]
      exact close_lst hl hg hk (fun a => .tup [.agg [.int .i64 1, .str (nameS s).1, .str [], a, .bool (openL ((nameS s).2.length + 1) (nameS s).2 []).2.1], .bool (openL ((nameS s).2.length + 1) (nameS s).2 []).2.2.1]) (fun k els => by simp only [frzR])
theorem openS_len (s : List UInt8) : (openS s).2.2.length ≤ s.length := by
  have n1 := nameS_len s
  unfold openS; split
  · exact n1
  · exact Nat.le_trans (openL_len _ _ _) n1
def endS (s : List UInt8) : Tok × Bool × List UInt8 :=
  if (nameS s).1 == [] then (⟨2, (nameS s).1, [], [], false⟩, false, (nameS s).2.dropWhile blanksL.contains)
  else (⟨2, (nameS s).1, [], [], false⟩, Lib.hasPrefix ((nameS s).2.dropWhile blanksL.contains) [62], Lib.trimPrefix ((nameS s).2.dropWhile blanksL.contains) [62])
theorem end_c (b : Nat) (s : List UInt8) (ty : TypeId) (hv : W σ b ty s) (hs : s.length < 4294967281)
    (h : K (.tup [.agg (endS s).1.c, .bool (endS s).2.1]) (σ.setV b (.cells ty [.str (endS s).2.2]))) : ACalls Tryz.prog (gD m) 50 [.vp b 0] σ K := by
  refine ACalls.close (σ.setV b (.cells ty [.str (endS s).2.2])) _ (Near.setV (.refl σ) (by simp only [dataR])) (by simp only [dataR, tok_data]) ?_ h
  have hlt := getV_lt hv
  have n1 := nameS_len s
  refine ACalls_fn tok fm (fk50 _) ?_
  simp (disch := first | omega | (simp only [ln]; first | done | omega)) only [walkAll, walkL, walkK, wk, E, Nat.reduceEqDiff, Nat.reduceAdd, Nat.reduceSub, Nat.reduceLeDiff, Int.reduceLT, Int.reduceLE, Int.reduceAdd, Int.reduceSub, Int.reduceToNat, ↓reduceIte, c50, hv]
  refine name_c b s ty ?_ (by omega) ?_
  · simp (disch := first | omega | (simp only [ln]; first | done | omega)) only [walkAll, walkL, walkK, wk, E, Nat.reduceEqDiff, Nat.reduceAdd, Nat.reduceSub, Nat.reduceLeDiff, Int.reduceLT, Int.reduceLE, Int.reduceAdd, Int.reduceSub, Int.reduceToNat, ↓reduceIte, W, hv]
  simp (disch := first | omega | (simp only [ln]; first | done | omega)) only [walkAll, walkL, walkK, wk, E, Nat.reduceEqDiff, Nat.reduceAdd, Nat.reduceSub, Nat.reduceLeDiff, Int.reduceLT, Int.reduceLE, Int.reduceAdd, Int.reduceSub, Int.reduceToNat, ↓reduceIte, hv]
  refine run_c b (nameS s).2 _ ty ?_ (by omega) (by decide) (by decide) (by decide) ?_
  · simp (disch := first | omega | (simp only [ln]; first | done | omega)) only [walkAll, walkL, walkK, wk, E, Nat.reduceEqDiff, Nat.reduceAdd, Nat.reduceSub, Nat.reduceLeDiff, Int.reduceLT, Int.reduceLE, Int.reduceAdd, Int.reduceSub, Int.reduceToNat, ↓reduceIte, W, hv]
  rw [show ((nameS s).2.dropWhile ([9, 10, 13, 32] : List UInt8).contains) = (nameS s).2.dropWhile blanksL.contains from rfl]
  simp (disch := first | omega | (simp only [ln]; first | done | omega)) only [walkAll, walkL, walkK, wk, E, Nat.reduceEqDiff, Nat.reduceAdd, Nat.reduceSub, Nat.reduceLeDiff, Int.reduceLT, Int.reduceLE, Int.reduceAdd, Int.reduceSub, Int.reduceToNat, ↓reduceIte, hv]
  cases e1 : ((nameS s).1 == []) with
  | true =>
    simp (disch := first | omega | (simp only [ln]; first | done | omega)) only [walkAll, walkL, walkK, wk, E, Nat.reduceEqDiff, Nat.reduceAdd, Nat.reduceSub, Nat.reduceLeDiff, Int.reduceLT, Int.reduceLE, Int.reduceAdd, Int.reduceSub, Int.reduceToNat, ↓reduceIte, hv]
    have e : endS s = (⟨2, (nameS s).1, [], [], false⟩, false, (nameS s).2.dropWhile blanksL.contains) := by simp only [endS, e1]; rfl
    rw [e]
    refine ⟨?_, .inl rfl⟩
    repeat first | exact Grown.refl _ | assumption | apply Grown.pushV | apply Grown.pushR | (refine Grown.setV ?_ (by first | omega | (simp only [nvsR]; first | done | omega))) | (refine Grown.setOld ‹_› (by first | omega | (simp only [nvsR]; first | done | omega)) _) | (refine Grown.setOld0 ?_ (by first | omega | (simp only [nvsR]; first | done | omega)) _)
  | false =>
    simp (disch := first | omega | (simp only [ln]; first | done | omega)) only [walkAll, walkL, walkK, wk, E, Nat.reduceEqDiff, Nat.reduceAdd, Nat.reduceSub, Nat.reduceLeDiff, Int.reduceLT, Int.reduceLE, Int.reduceAdd, Int.reduceSub, Int.reduceToNat, ↓reduceIte, hv]
    refine pass_c b ((nameS s).2.dropWhile blanksL.contains) _ ty ?_ ?_
    · simp (disch := first | omega | (simp only [ln]; first | done | omega)) only [walkAll, walkL, walkK, wk, E, Nat.reduceEqDiff, Nat.reduceAdd, Nat.reduceSub, Nat.reduceLeDiff, Int.reduceLT, Int.reduceLE, Int.reduceAdd, Int.reduceSub, Int.reduceToNat, ↓reduceIte, W, hv]
    simp (disch := first | omega | (simp only [ln]; first | done | omega)) only [walkAll, walkL, walkK, wk, E, Nat.reduceEqDiff, Nat.reduceAdd, Nat.reduceSub, Nat.reduceLeDiff, Int.reduceLT, Int.reduceLE, Int.reduceAdd, Int.reduceSub, Int.reduceToNat, ↓reduceIte, hv]
    have e : endS s = (⟨2, (nameS s).1, [], [], false⟩, Lib.hasPrefix ((nameS s).2.dropWhile blanksL.contains) [62], Lib.trimPrefix ((nameS s).2.dropWhile blanksL.contains) [62]) := by simp only [endS, e1]; rfl
    rw [e]
    refine ⟨?_, .inl rfl⟩
    repeat first | exact Grown.refl _ | assumption | apply Grown.pushV | apply Grown.pushR | (refine Grown.setV ?_ (by first | omega | (simp only [nvsR]; first | done | omega))) | (refine Grown.setOld ‹_› (by first | omega | (simp only [nvsR]; first | done | omega)) _) | (refine Grown.setOld0 ?_ (by first | omega | (simp only [nvsR]; first | done | omega)) _)
end
end Go.Ab.Sz
namespace Go.Ab.Sz
open Go Go.Ab Go.Proofs Go.RowKit
set_option maxRecDepth 40000
set_option linter.unusedSimpArgs false
section
variable {m : Int} {σ : St} {K : AV → St → Prop}
def plainS (s : List UInt8) : Tok × Bool × List UInt8 := (⟨3, [], (valS (s.take (plainN s))).1, [], false⟩, (valS (s.take (plainN s))).2, s.drop (plainN s))
/-- The next token, whether it is one, what is left. -/
def tokS (s : List UInt8) : Tok × Bool × List UInt8 :=
  if Lib.hasPrefix s [60, 47] then endS (Lib.trimPrefix s [60, 47]) else if Lib.hasPrefix s [60] then openS (Lib.trimPrefix s [60]) else plainS s
def tokN : Nat → List UInt8 → Option (List Tok)
  | 0, _ => none
  | n + 1, s => if s == [] then some [] else if (tokS s).2.1 then (tokN n (tokS s).2.2).map ((tokS s).1 :: ·) else none
def prologL : List UInt8 := [60, 63, 120, 109, 108, 32, 118, 101, 114, 115, 105, 111, 110, 61, 34, 49, 46, 48, 34, 32, 101, 110, 99, 111, 100, 105, 110, 103, 61, 34, 85, 84, 70, 45, 56, 34, 63, 62]
def toksS (s : List UInt8) : List Tok × Int :=
  if 4096 < s.length then ([], 4) else if !utf8S s then ([], 7) else match tokN ((Lib.trimPrefix s prologL).length + 1) (Lib.trimPrefix s prologL) with
    | some l => (l, 0)
    | none => ([], 9)
theorem plainS_c (b : Nat) (s : List UInt8) (ty : TypeId) (hv : W σ b ty s) (hs : s.length < 4294967281)
    (h : K (.tup [.agg (plainS s).1.c, .bool (plainS s).2.1]) (σ.setV b (.cells ty [.str (plainS s).2.2]))) : ACalls Tryz.prog (gD m) 52 [.vp b 0] σ K := by
  refine plain_c b s ty hv hs ?_
  have e : (s.take (plainN s)).length = plainN s := by have := plainN_le s; simp; omega
  simp only [plainS, Tok.c, valS, e, List.map_nil, lsv_nil] at h
  exact h
/-- A step, and its token. -/
theorem tok_c (b : Nat) (s : List UInt8) (ty : TypeId) (hv : W σ b ty s) (hs : s.length < 4294967281) {K1 : AV → St → Prop}
    (hK : ∀ g τ, ACalls Tryz.prog (gD m) g [.vp b 0] τ (fun r σ' => r = .tup [.agg (tokS s).1.c, .bool (tokS s).2.1] ∧ σ' = σ.setV b (.cells ty [.str (tokS s).2.2])) → K1 (.fn (.func g) [.vp b 0] []) τ) :
    ACalls Tryz.prog (gD m) 31 [.vp b 0] σ K1 := by
  have hlt := getV_lt hv
  have hset : ∀ x, getV (σ.setV b (.cells ty [.str x])) b = some (.cells ty [.str x]) := fun x => by simp (disch := first | omega | (simp only [ln]; first | done | omega)) only [walkAll, walkL, walkK, wk, E, Nat.reduceEqDiff, Nat.reduceAdd, Nat.reduceSub, Nat.reduceLeDiff, Int.reduceLT, Int.reduceLE, Int.reduceAdd, Int.reduceSub, Int.reduceToNat, ↓reduceIte]
  refine step_c b s ty hv (fun h1 => hK _ _ ?_) (fun h1 h2 => hK _ _ ?_) (fun h1 h2 => hK _ _ ?_)
  · have := hasPrefix_len h1
    refine end_c b _ ty (hset _) (by omega) ?_
    have e : tokS s = endS (Lib.trimPrefix s [60, 47]) := by unfold tokS; rw [if_pos h1]
    rw [e]
    exact ⟨rfl, by simp (disch := first | omega | (simp only [ln]; first | done | omega)) only [walkAll, walkL, walkK, wk, E, Nat.reduceEqDiff, Nat.reduceAdd, Nat.reduceSub, Nat.reduceLeDiff, Int.reduceLT, Int.reduceLE, Int.reduceAdd, Int.reduceSub, Int.reduceToNat, ↓reduceIte]⟩
  · have := hasPrefix_len h2
    refine open_c b _ ty (hset _) (by omega) ?_
    have e : tokS s = openS (Lib.trimPrefix s [60]) := by unfold tokS; rw [if_neg (by simp [h1]), if_pos h2]
    rw [e]
    exact ⟨rfl, by simp (disch := first | omega | (simp only [ln]; first | done | omega)) only [walkAll, walkL, walkK, wk, E, Nat.reduceEqDiff, Nat.reduceAdd, Nat.reduceSub, Nat.reduceLeDiff, Int.reduceLT, Int.reduceLE, Int.reduceAdd, Int.reduceSub, Int.reduceToNat, ↓reduceIte]⟩
  · refine plainS_c b s ty hv hs ?_
    have e : tokS s = plainS s := by unfold tokS; rw [if_neg (by simp [h1]), if_neg (by simp [h2])]
    rw [e]
    exact ⟨rfl, rfl⟩
theorem endS_len (s : List UInt8) : (endS s).2.2.length ≤ s.length := by
  have n1 := nameS_len s
  have n2 := dropWhile_len blanksL.contains (nameS s).2
  have n3 := trimPrefix_le ((nameS s).2.dropWhile blanksL.contains) [62]
  unfold endS; split <;> simp only <;> omega
theorem indexByte_zero {c : UInt8} {s : List UInt8} (h : Lib.indexByte s c = 0) : ∃ r, s = c :: r := by
  cases s with
  | nil => cases h
  | cons b l =>
    unfold Lib.indexByte at h
    have := indexByte_range c l
    split at h
    · rename_i hb; simp at hb; subst hb; exact ⟨l, rfl⟩
    · split at h
      · cases h
      · rename_i h2; simp at h2; omega
theorem tokS_len {s : List UInt8} (h : s ≠ []) : (tokS s).2.2.length < s.length := by
  unfold tokS
  split
  · rename_i h1
    have := hasPrefix_len h1
    have := endS_len (Lib.trimPrefix s [60, 47])
    simp at *; omega
  · split
    · rename_i h1
      have := hasPrefix_len h1
      have := openS_len (Lib.trimPrefix s [60])
      simp at *; omega
    · rename_i h1 h2
      have hp : 0 < plainN s := by
        unfold plainN
        have := indexByte_range 60 s
        split
        · exact List.length_pos_iff.2 h
        · rename_i hlt
          by_cases h0 : Lib.indexByte s 60 = 0
          · obtain ⟨r, rfl⟩ := indexByte_zero h0
            exact absurd rfl h2
          · omega
      simp only [plainS, List.length_drop]
      have := List.length_pos_iff.2 h
      omega
theorem toks_loop {Q : EQ} : ∀ (n : Nat) (s : List UInt8) (acc : List Tok) (v : AV) (ρ : Option Nat) (τ : St) (e : Env), s.length < n → acc.length + s.length < 5000 → Lst 30 5 τ v (acc.map Tok.c) ρ → getV τ 0 = some (.cells 55 [.str s]) →
    e 4 = some (.vp 0 0) → e 5 = some v →
    (∀ l e' τ' v' ρ', tokN n s = some l → Lst 30 5 τ' v' ((acc ++ l).map Tok.c) ρ' → e' 5 = some v' → Q (.exit 1) e' τ') →
    (∀ e' τ', tokN n s = none → e' 2 = some .nils → e' 3 = some (.int .i64 9) → Q .ret e' τ') → LoopC Tryz.prog tt (gD m) l12_0 Q e τ := by
  intro n
  induction n with
  | zero => intro s acc v ρ τ e h; omega
  | succ n ih =>
    intro s acc v ρ τ e hn hs hl hv h4 h5 hx hr
    refine LoopC_unfold tok fm ?_
    simp (disch := first | omega | (simp only [ln]; first | done | omega)) only [walkAll, walkL, walkK, wk, E, Nat.reduceEqDiff, Nat.reduceAdd, Nat.reduceSub, Nat.reduceLeDiff, Int.reduceLT, Int.reduceLE, Int.reduceAdd, Int.reduceSub, Int.reduceToNat, ↓reduceIte, l12_0x, l12_0b, h4, hv]
    cases e0 : (s == []) with
    | true =>
      simp (disch := first | omega | (simp only [ln]; first | done | omega)) only [walkAll, walkL, walkK, wk, E, Nat.reduceEqDiff, Nat.reduceAdd, Nat.reduceSub, Nat.reduceLeDiff, Int.reduceLT, Int.reduceLE, Int.reduceAdd, Int.reduceSub, Int.reduceToNat, ↓reduceIte, h4]
      exact hx [] _ _ v ρ (by simp only [tokN, e0, if_true]) (by simpa using hl) (by simp [put, h5])
    | false =>
      have hne : s ≠ [] := by intro h; rw [h] at e0; cases e0
      have hlt := getV_lt hv
      have hlen := tokS_len hne
      simp (disch := first | omega | (simp only [ln]; first | done | omega)) only [walkAll, walkL, walkK, wk, E, Nat.reduceEqDiff, Nat.reduceAdd, Nat.reduceSub, Nat.reduceLeDiff, Int.reduceLT, Int.reduceLE, Int.reduceAdd, Int.reduceSub, Int.reduceToNat, ↓reduceIte, h4]
      refine tok_c 0 s 55 hv (by omega) (fun g τ' hc => ?_)
      simp (disch := first | omega | (simp only [ln]; first | done | omega)) only [walkAll, walkL, walkK, wk, E, Nat.reduceEqDiff, Nat.reduceAdd, Nat.reduceSub, Nat.reduceLeDiff, Int.reduceLT, Int.reduceLE, Int.reduceAdd, Int.reduceSub, Int.reduceToNat, ↓reduceIte, h4]
      refine hc.mono ?_
      rintro r σ' ⟨rfl, rfl⟩
      simp (disch := first | omega | (simp only [ln]; first | done | omega)) only [walkAll, walkL, walkK, wk, E, Nat.reduceEqDiff, Nat.reduceAdd, Nat.reduceSub, Nat.reduceLeDiff, Int.reduceLT, Int.reduceLE, Int.reduceAdd, Int.reduceSub, Int.reduceToNat, ↓reduceIte, h4, Tok.c, lsv_cells, lsv_one]
      cases e1 : (tokS s).2.1 with
      | false =>
        simp (disch := first | omega | (simp only [ln]; first | done | omega)) only [walkAll, walkL, walkK, wk, E, Nat.reduceEqDiff, Nat.reduceAdd, Nat.reduceSub, Nat.reduceLeDiff, Int.reduceLT, Int.reduceLE, Int.reduceAdd, Int.reduceSub, Int.reduceToNat, ↓reduceIte, h4]
        exact hr _ _ (by simp only [tokN, e0, e1]; rfl) (by simp [put]) (by simp [put])
      | true =>
        simp (disch := first | omega | (simp only [ln]; first | done | omega)) only [walkAll, walkL, walkK, wk, E, Nat.reduceEqDiff, Nat.reduceAdd, Nat.reduceSub, Nat.reduceLeDiff, Int.reduceLT, Int.reduceLE, Int.reduceAdd, Int.reduceSub, Int.reduceToNat, ↓reduceIte, h4, h5, lsv_cells, lsv_one]
        refine app_one (l := acc.map Tok.c) (ρ := ρ) hl rfl (by simp only [List.all_cons, List.all_nil, walkO, lsv_one, Bool.and_self]) (by simp; omega) (fun v' σ' ρ' hl' hB => ?_)
        simp (disch := first | omega | (simp only [ln]; first | done | omega)) only [walkAll, walkL, walkK, wk, E, Nat.reduceEqDiff, Nat.reduceAdd, Nat.reduceSub, Nat.reduceLeDiff, Int.reduceLT, Int.reduceLE, Int.reduceAdd, Int.reduceSub, Int.reduceToNat, ↓reduceIte, h4]
        refine ih (tokS s).2.2 (acc ++ [(tokS s).1]) v' ρ' _ _ (by omega) (by simp; omega) ?_ ?_ (by simp [put, h4]) (by simp [put]) (fun l e' τ'' v'' ρ'' ht hl'' h5' => ?_) (fun e' τ'' ht h2' h3' => ?_)
        · rw [List.map_append]; exact hl'
        · rw [hB.getV]; simp (disch := first | omega | (simp only [ln]; first | done | omega)) only [walkAll, walkL, walkK, wk, E, Nat.reduceEqDiff, Nat.reduceAdd, Nat.reduceSub, Nat.reduceLeDiff, Int.reduceLT, Int.reduceLE, Int.reduceAdd, Int.reduceSub, Int.reduceToNat, ↓reduceIte]
        · refine hx ((tokS s).1 :: l) e' τ'' v'' ρ'' (by simp only [tokN, e0, e1, ht]; rfl) (by simpa using hl'') h5'
        · exact hr e' τ'' (by simp only [tokN, e0, e1, ht]; rfl) h2' h3'
theorem Tokens_c (s : List UInt8) (hs : s.length ≤ 9223372036854775807) (h : K (.tup [lsv ((toksS s).1.map Tok.c), .int .i64 (toksS s).2]) σ) : ACalls Tryz.prog (gD m) 12 [.str s] σ K := by
  refine (ACalls.frame_frz gD_data (.cons _ _ (.str _) .nil) (Q := fun r => r = .tup [lsv ((toksS s).1.map Tok.c), .int .i64 (toksS s).2]) ?_ σ).mono (fun r σ' hr => by rw [hr.1, hr.2]; exact h)
  have fin : ∀ (τ : St) (l : List Tok) (x : Int) (v : AV) (ρ : Option Nat), toksS s = (l, x) → Lst 30 5 τ v (l.map Tok.c) ρ →
      ∃ r0, Frz τ (.tup [v, .int .i64 x]) r0 ∧ Data r0 ∧ r0 = .tup [lsv ((toksS s).1.map Tok.c), .int .i64 (toksS s).2] := fun τ l x v ρ he hl => by
    refine ⟨.tup [lsv (l.map Tok.c), .int .i64 x], frz_lst hl (fun a => .tup [a, .int .i64 x]) (fun k els => by simp only [frzR]), ?_, by rw [he]⟩
    simp only [dataR, and_true]
    exact lsv_data (data_flat fun t _ => tok_data t)
  have fin0 : ∀ (τ : St) (x : Int), toksS s = ([], x) → ∃ r0, Frz τ (.tup [.nils, .int .i64 x]) r0 ∧ Data r0 ∧ r0 = .tup [lsv ((toksS s).1.map Tok.c), .int .i64 (toksS s).2] := fun τ x he => fin τ [] x .nils none he (Lst.nil _ _ _)
  refine ACalls_fn tok fm (fk12 _) ?_
  simp (disch := first | omega | (simp only [ln]; first | done | omega)) only [walkAll, walkL, walkK, wk, E, Nat.reduceEqDiff, Nat.reduceAdd, Nat.reduceSub, Nat.reduceLeDiff, Int.reduceLT, Int.reduceLE, Int.reduceAdd, Int.reduceSub, Int.reduceToNat, ↓reduceIte, c12]
  cases e1 : decide (4096 < (s.length : Int)) with
  | true =>
    simp (disch := first | omega | (simp only [ln]; first | done | omega)) only [walkAll, walkL, walkK, wk, E, Nat.reduceEqDiff, Nat.reduceAdd, Nat.reduceSub, Nat.reduceLeDiff, Int.reduceLT, Int.reduceLE, Int.reduceAdd, Int.reduceSub, Int.reduceToNat, ↓reduceIte]
    have : 4096 < s.length := by have := of_decide_eq_true e1; omega
    exact fin0 _ 4 (by unfold toksS; rw [if_pos this])
  | false =>
    have h1 : ¬ 4096 < s.length := by have := of_decide_eq_false e1; omega
    simp (disch := first | omega | (simp only [ln]; first | done | omega)) only [walkAll, walkL, walkK, wk, E, Nat.reduceEqDiff, Nat.reduceAdd, Nat.reduceSub, Nat.reduceLeDiff, Int.reduceLT, Int.reduceLE, Int.reduceAdd, Int.reduceSub, Int.reduceToNat, ↓reduceIte]
    refine Utf8_c s hs ?_
    cases e2 : utf8S s with
    | false =>
      simp (disch := first | omega | (simp only [ln]; first | done | omega)) only [walkAll, walkL, walkK, wk, E, Nat.reduceEqDiff, Nat.reduceAdd, Nat.reduceSub, Nat.reduceLeDiff, Int.reduceLT, Int.reduceLE, Int.reduceAdd, Int.reduceSub, Int.reduceToNat, ↓reduceIte]
      exact fin0 _ 7 (by unfold toksS; rw [if_neg h1, e2]; rfl)
    | true =>
      simp (disch := first | omega | (simp only [ln]; first | done | omega)) only [walkAll, walkL, walkK, wk, E, Nat.reduceEqDiff, Nat.reduceAdd, Nat.reduceSub, Nat.reduceLeDiff, Int.reduceLT, Int.reduceLE, Int.reduceAdd, Int.reduceSub, Int.reduceToNat, ↓reduceIte]
      refine pass_c 0 s _ 55 rfl ?_
      have hp := trimPrefix_le s prologL
      rw [show Lib.trimPrefix s [60, 63, 120, 109, 108, 32, 118, 101, 114, 115, 105, 111, 110, 61, 34, 49, 46, 48, 34, 32, 101, 110, 99, 111, 100, 105, 110, 103, 61, 34, 85, 84, 70, 45, 56, 34, 63, 62] = Lib.trimPrefix s prologL from rfl]
      simp (disch := first | omega | (simp only [ln]; first | done | omega)) only [walkAll, walkL, walkK, wk, E, Nat.reduceEqDiff, Nat.reduceAdd, Nat.reduceSub, Nat.reduceLeDiff, Int.reduceLT, Int.reduceLE, Int.reduceAdd, Int.reduceSub, Int.reduceToNat, ↓reduceIte]
      refine toks_loop ((Lib.trimPrefix s prologL).length + 1) (Lib.trimPrefix s prologL) [] .nils none _ _ (by omega) (by simp; omega) (Lst.nil _ _ _) rfl (by simp [put, E]) (by simp [put]) (fun l e' τ' v' ρ' ht hl h5 => ?_) (fun e' τ' ht h2 h3 => ?_)
      · simp (disch := first | omega | (simp only [ln]; first | done | omega)) only [walkAll, walkL, walkK, wk, E, Nat.reduceEqDiff, Nat.reduceAdd, Nat.reduceSub, Nat.reduceLeDiff, Int.reduceLT, Int.reduceLE, Int.reduceAdd, Int.reduceSub, Int.reduceToNat, ↓reduceIte, h5]
        exact fin _ l 0 _ ρ' (by unfold toksS; rw [if_neg h1, e2]; simp only [Bool.not_true, Bool.false_eq_true, if_false, ht]) (by simpa using hl)
      · simp (disch := first | omega | (simp only [ln]; first | done | omega)) only [walkAll, walkL, walkK, wk, E, Nat.reduceEqDiff, Nat.reduceAdd, Nat.reduceSub, Nat.reduceLeDiff, Int.reduceLT, Int.reduceLE, Int.reduceAdd, Int.reduceSub, Int.reduceToNat, ↓reduceIte, h2, h3]
        exact fin0 _ 9 (by unfold toksS; rw [if_neg h1, e2]; simp only [Bool.not_true, Bool.false_eq_true, if_false, ht])
end
end Go.Ab.Sz
