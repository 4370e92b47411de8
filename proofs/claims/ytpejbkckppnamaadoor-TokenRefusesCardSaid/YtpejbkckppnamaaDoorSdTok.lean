/- Part of this work: see the text that closes the claim. -/
import Derived.Test.YtpejbkckppnamaaDoorSdTrim
set_option linter.all false
set_option linter.unusedVariables false
set_option linter.unusedSimpArgs false
namespace Go.Ab.Sd
open Go Go.Ab Go.Proofs Go.RowKit
set_option maxRecDepth 20000
set_option linter.unusedSimpArgs false
section
variable {m : Int} {σ : St} {K : AV → St → Prop}
def mayS (r : Int) : Bool := r == 9 || r == 10 || r == 13 || (decide (32 ≤ r) && r != 65534 && r != 65535)
theorem may_c (r : Int) (h : K (.bool (mayS r)) σ) : ACalls Tryd.prog (gD m) 24 [.int .i32 r] σ K := by
  refine ACalls_fn tok fm (fk24 _) ?_
  simp only [c24, walkAll, walkL, E, Nat.reduceEqDiff, ↓reduceIte]
  repeat' (refine brG_split (fun hb => ?_) (fun hb => ?_) <;> (try simp only [beq_true, beq_false, Bool.not_eq_true', Bool.not_eq_false'] at hb) <;> simp only [hb, walkAll, walkL, Nat.reduceEqDiff, ↓reduceIte])
  all_goals (refine cast (congrArg (fun b => K (.bool b) σ) ?_) h; simp [mayS, *])
/-- What a name and a sign stand for. -/
abbrev W (σ : St) (b : Nat) (ty : TypeId) (s : List UInt8) : Prop := getV σ b = some (.cells ty [.str s])
theorem pass_c (b : Nat) (s x : List UInt8) (ty : TypeId) (hv : W σ b ty s) (h : K (.bool (Lib.hasPrefix s x)) (σ.setV b (.cells ty [.str (Lib.trimPrefix s x)]))) :
    ACalls Tryd.prog (gD m) 17 [.vp b 0, .str x] σ K := by
  refine ACalls_fn tok fm (fk17 _) ?_
  have hlt := getV_lt hv
  simp (disch := omega) only [c17, walkAll, walkL, E, hv, nilA, faX, Nat.reduceEqDiff, Nat.reduceAdd, Nat.reduceSub, Nat.reduceLeDiff, Nat.le_refl, ↓reduceIte]
  refine CutPrefix_c _ _ ?_
  simp (disch := omega) only [walkAll, walkL, E, hv, nilA, faX, Nat.reduceEqDiff, Nat.reduceAdd, Nat.reduceSub, Nat.reduceLeDiff, Nat.le_refl, ↓reduceIte]
  exact h
theorem dropWhile_le (p : UInt8 → Bool) (s : List UInt8) : (s.dropWhile p).length ≤ s.length := (List.dropWhile_suffix p).length_le
theorem take_run (p : UInt8 → Bool) (s : List UInt8) : s.take (s.length - (s.dropWhile p).length) = s.takeWhile p := by
  have h := List.takeWhile_append_dropWhile (p := p) (l := s)
  have hl : s.length - (s.dropWhile p).length = (s.takeWhile p).length := by
    have := congrArg List.length h; rw [List.length_append] at this; omega
  rw [hl]
  have k := List.take_left (l₁ := s.takeWhile p) (l₂ := s.dropWhile p)
  rw [h] at k; exact k
theorem run_c (b : Nat) (s x : List UInt8) (ty : TypeId) (hv : W σ b ty s) (hs : s.length < 9223372036854775808) (h2 : 2 ≤ x.length) (h3 : x.length < 4294967281) (ha : ∀ b ∈ x, b.toNat < 128)
    (h : K (.str (s.takeWhile x.contains)) (σ.setV b (.cells ty [.str (s.dropWhile x.contains)]))) :
    ACalls Tryd.prog (gD m) 35 [.vp b 0, .str x] σ K := by
  refine ACalls_fn tok fm (fk35 _) ?_
  have hlt := getV_lt hv
  simp (disch := omega) only [c35, walkAll, walkL, E, hv, nilA, faX, Nat.reduceEqDiff, Nat.reduceAdd, Nat.reduceSub, Nat.reduceLeDiff, Nat.le_refl, ↓reduceIte]
  refine TrimLeft_c s x hs h2 h3 ha ?_
  have hd := dropWhile_le x.contains s
  have e1 : ((s.length : Int) - ((s.dropWhile x.contains).length : Int)).toNat = s.length - (s.dropWhile x.contains).length := by omega
  simp (disch := omega) only [walkAll, walkL, E, hv, nilA, faX, wrap_i64, e1, take_run, Nat.sub_zero, Nat.reduceEqDiff, Nat.reduceAdd, Nat.reduceSub, Nat.reduceLeDiff, Nat.le_refl, ↓reduceIte]
  exact h
def firsts : List UInt8 := [97, 98, 99, 100, 101, 102, 103, 104, 105, 106, 107, 108, 109, 110, 111, 112, 113, 114, 115, 116, 117, 118, 119, 120, 121, 122, 65, 66, 67, 68, 69, 70, 71, 72, 73, 74, 75, 76, 77, 78, 79, 80, 81, 82, 83, 84, 85, 86, 87, 88, 89, 90, 95]
def withins : List UInt8 := [97, 98, 99, 100, 101, 102, 103, 104, 105, 106, 107, 108, 109, 110, 111, 112, 113, 114, 115, 116, 117, 118, 119, 120, 121, 122, 65, 66, 67, 68, 69, 70, 71, 72, 73, 74, 75, 76, 77, 78, 79, 80, 81, 82, 83, 84, 85, 86, 87, 88, 89, 90, 48, 49, 50, 51, 52, 53, 54, 55, 56, 57, 95, 45, 46, 58]
def nameS (s : List UInt8) : List UInt8 × List UInt8 := if s == [] || !Lib.contains firsts (s.take 1) then ([], s) else (s.takeWhile withins.contains, s.dropWhile withins.contains)
theorem name_c (b : Nat) (s : List UInt8) (ty : TypeId) (hv : W σ b ty s) (hs : s.length < 9223372036854775808)
    (h : K (.str (nameS s).1) (σ.setV b (.cells ty [.str (nameS s).2]))) : ACalls Tryd.prog (gD m) 34 [.vp b 0] σ K := by
  refine ACalls_fn tok fm (fk34 _) ?_
  have hlt := getV_lt hv
  simp (disch := omega) only [c34, walkAll, walkL, E, hv, nilA, faX, Nat.reduceEqDiff, Nat.reduceAdd, Nat.reduceSub, Nat.reduceLeDiff, Nat.le_refl, ↓reduceIte]
  refine brG_split (fun hb => ?_) (fun hb => ?_)
  · simp only [Bool.not_eq_true'] at hb
    have h1 : 1 ≤ s.length := by cases s with
      | nil => cases hb
      | cons a l => simp
    simp (disch := omega) only [hb, walkAll, walkL, E, hv, nilA, faX, Nat.sub_zero, Int.toNat_one, Nat.reduceEqDiff, Nat.reduceAdd, Nat.reduceSub, Nat.reduceLeDiff, Nat.le_refl, ↓reduceIte]
    refine Contains_c _ _ (by decide) ?_
    simp (disch := omega) only [hb, walkAll, walkL, E, hv, nilA, faX, Nat.reduceEqDiff, Nat.reduceAdd, Nat.reduceSub, Nat.reduceLeDiff, Nat.le_refl, ↓reduceIte]
    refine brC_split (fun hc => ?_) (fun hc => ?_)
    · simp (disch := omega) only [hb, walkAll, walkL, E, hv, nilA, faX, Nat.reduceEqDiff, Nat.reduceAdd, Nat.reduceSub, Nat.reduceLeDiff, Nat.le_refl, ↓reduceIte]
      have e : nameS s = ([], s) := by simp only [nameS, hb, firsts, hc]; rfl
      rw [e, setV_same hv] at h
      exact h
    · simp (disch := omega) only [hb, walkAll, walkL, E, hv, nilA, faX, Nat.reduceEqDiff, Nat.reduceAdd, Nat.reduceSub, Nat.reduceLeDiff, Nat.le_refl, ↓reduceIte]
      have e : nameS s = (s.takeWhile withins.contains, s.dropWhile withins.contains) := by simp only [nameS, hb, firsts, hc]; rfl
      rw [e] at h
      refine run_c b s withins ty hv hs (by decide) (by decide) (by decide) ?_
      simp (disch := omega) only [hb, walkAll, walkL, E, hv, nilA, faX, Nat.reduceEqDiff, Nat.reduceAdd, Nat.reduceSub, Nat.reduceLeDiff, Nat.le_refl, ↓reduceIte]
      exact h
  · simp only [Bool.not_eq_false'] at hb
    simp (disch := omega) only [hb, walkAll, walkL, E, hv, nilA, faX, Nat.reduceEqDiff, Nat.reduceAdd, Nat.reduceSub, Nat.reduceLeDiff, Nat.le_refl, ↓reduceIte]
    have e : nameS s = ([], s) := by simp only [nameS, hb]; rfl
    rw [e, setV_same hv] at h
    exact h
end
end Go.Ab.Sd
