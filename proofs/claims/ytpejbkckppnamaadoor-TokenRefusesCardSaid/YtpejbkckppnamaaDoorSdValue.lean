/- Part of this work: see the text that closes the claim. -/
import Derived.Test.YtpejbkckppnamaaDoorSdSign
import Derived.Test.YtpejbkckppnamaaDoorSdBuilder
set_option linter.all false
set_option linter.unusedVariables false
set_option linter.unusedSimpArgs false
namespace Go.Ab.Sd
open Go Go.Ab Go.Proofs Go.RowKit
set_option maxRecDepth 40000
set_option linter.unusedSimpArgs false
section
variable {m : Int} {σ : St} {K : AV → St → Prop}
/-- The value of a text behind what is out already. -/
def valueS : Nat → List UInt8 → List UInt8 → List UInt8 × Bool
  | 0, _, _ => ([], false)
  | n + 1, s, out =>
    if (Lib.cut s [38]).2.2 then
      if !(Lib.cut (Lib.cut s [38]).2.1 [59]).2.2 || signS (Lib.cut (Lib.cut s [38]).2.1 [59]).1 == [] then ([], false)
      else valueS n (Lib.cut (Lib.cut s [38]).2.1 [59]).2.1 (out ++ (Lib.cut s [38]).1 ++ signS (Lib.cut (Lib.cut s [38]).2.1 [59]).1)
    else (out ++ (Lib.cut s [38]).1, true)
theorem numberS_len (set : List UInt8) (most B : Nat) (s : List UInt8) : (numberS set most B s).length ≤ 4 := by
  unfold numberS
  split
  · simp
  · split
    · simp
    · split
      · exact encode_len _
      · simp
theorem signS_len (s : List UInt8) : (signS s).length ≤ 4 := by
  unfold signS
  repeat' split
  all_goals first | (simp; done) | exact numberS_len _ _ _ _
theorem cut_len (s : List UInt8) (b : UInt8) : (Lib.cut s [b]).1.length + (Lib.cut s [b]).2.1.length ≤ s.length ∧ ((Lib.cut s [b]).2.2 = true → (Lib.cut s [b]).1.length + (Lib.cut s [b]).2.1.length + 1 ≤ s.length) := by
  unfold Lib.cut
  split
  · rename_i h
    have := Lib.index_room s [b] h
    simp only [List.length_singleton] at this
    simp only [List.length_take, List.length_drop, List.length_singleton]
    exact ⟨by omega, fun _ => by omega⟩
  · simp
theorem value_loop (b : Nat) {Q : EQ} : ∀ (n : Nat) (s out : List UInt8) (e : Env) (σ : St) (ρ : Option Nat), s.length < n → s.length < 4294967281 → out.length + 4 * s.length ≤ 140737488355328 → Bld 78 5 σ b out ρ → e 0 = some (.str s) → e 4 = some (.vp b 0) →
    (∀ e' σ', e' 2 = some (.str (valueS n s out).1) → e' 3 = some (.bool (valueS n s out).2) → Q .ret e' σ') → LoopC Tryd.prog tt (gD m) l40_0 Q e σ := by
  intro n
  induction n with
  | zero => intro s out e σ ρ h; omega
  | succ n ih =>
    intro s out e σ ρ hn hs hl hb h0 h4 hq
    obtain ⟨k1, k2⟩ := cut_len s 38
    refine LoopC_unfold tok fm ?_
    simp only [l40_0x, l40_0b, walkAll, walkL, h0, h4, Nat.reduceEqDiff, ↓reduceIte]
    refine Cut_c _ _ hs ?_
    simp only [walkAll, walkL, h0, h4, Nat.reduceEqDiff, ↓reduceIte]
    refine WriteString_c b out _ ρ hb (by omega) (fun σ1 ρ1 hb1 _ => ?_)
    simp only [walkAll, walkL, h0, h4, Nat.reduceEqDiff, ↓reduceIte]
    cases hi : (Lib.cut s [38]).2.2 with
    | false =>
      simp only [hi, walkAll, walkL, h0, h4, Nat.reduceEqDiff, ↓reduceIte]
      refine String_c b _ ρ1 hb1 (by rw [List.length_append]; omega) (fun σ2 _ => ?_)
      simp only [walkAll, walkL, h0, h4, Nat.reduceEqDiff, ↓reduceIte]
      have ev : valueS (n + 1) s out = (out ++ (Lib.cut s [38]).1, true) := by simp only [valueS, hi]; rfl
      rw [ev] at hq
      exact hq _ _ (by simp [put]) (by simp [put])
    | true =>
      have k3 := k2 hi
      obtain ⟨k4, k5⟩ := cut_len (Lib.cut s [38]).2.1 59
      simp only [hi, walkAll, walkL, h0, h4, Nat.reduceEqDiff, ↓reduceIte]
      refine Cut_c _ _ (by omega) ?_
      simp only [walkAll, walkL, h0, h4, Nat.reduceEqDiff, ↓reduceIte]
      refine sign_c _ (by omega) ?_
      simp only [walkAll, walkL, h0, h4, Nat.reduceEqDiff, ↓reduceIte]
      have k6 := signS_len (Lib.cut (Lib.cut s [38]).2.1 [59]).1
      cases hj : (Lib.cut (Lib.cut s [38]).2.1 [59]).2.2 with
      | false =>
        simp only [hj, walkAll, walkL, h0, h4, Nat.reduceEqDiff, ↓reduceIte]
        have ev : valueS (n + 1) s out = ([], false) := by simp only [valueS, hi, hj]; rfl
        rw [ev] at hq
        exact hq _ _ (by simp [put]) (by simp [put])
      | true =>
        have k7 := k5 hj
        simp only [hj, walkAll, walkL, h0, h4, Nat.reduceEqDiff, ↓reduceIte]
        cases hc : signS (Lib.cut (Lib.cut s [38]).2.1 [59]).1 == [] with
        | true =>
          simp only [hc, walkAll, walkL, h0, h4, Nat.reduceEqDiff, ↓reduceIte]
          have ev : valueS (n + 1) s out = ([], false) := by simp only [valueS, hi, hj, hc]; rfl
          rw [ev] at hq
          exact hq _ _ (by simp [put]) (by simp [put])
        | false =>
          simp only [hc, walkAll, walkL, h0, h4, Nat.reduceEqDiff, ↓reduceIte]
          refine WriteString_c b _ _ ρ1 hb1 (by rw [List.length_append]; omega) (fun σ2 ρ2 hb2 _ => ?_)
          simp only [walkAll, walkL, h0, h4, Nat.reduceEqDiff, ↓reduceIte]
          have ev : valueS (n + 1) s out = valueS n (Lib.cut (Lib.cut s [38]).2.1 [59]).2.1 (out ++ (Lib.cut s [38]).1 ++ signS (Lib.cut (Lib.cut s [38]).2.1 [59]).1) := by simp only [valueS, hi, hj, hc]; rfl
          rw [ev] at hq
          exact ih _ _ _ σ2 ρ2 (by omega) (by omega) (by simp only [List.length_append]; omega) hb2 (by simp [put]) (by simp [put, h4]) hq
theorem value_c (s : List UInt8) (hs : s.length < 4294967281) (h : K (.tup [.str (valueS (s.length + 1) s []).1, .bool (valueS (s.length + 1) s []).2]) σ) : ACalls Tryd.prog (gD m) 40 [.str s] σ K := by
  refine (ACalls.frame gD_data (.cons _ _ (.str _) .nil) (Q := fun r => r = .tup [.str (valueS (s.length + 1) s []).1, .bool (valueS (s.length + 1) s []).2]) ?_ σ).mono (fun r σ' hr => by rw [hr.1, hr.2]; exact h)
  refine ACalls_fn tok fm (fk40 _) ?_
  simp only [c40, walkAll, walkL, E, Nat.reduceEqDiff, ↓reduceIte]
  refine value_loop 0 (s.length + 1) s [] _ _ none (by omega) hs (by simp; omega) ⟨.nilp, .nils, rfl, .inl rfl, .inl ⟨rfl, rfl, rfl⟩⟩ (by simp [put, E]) (by simp [put]) (fun e' σ' h2 h3 => ?_)
  simp only [walkAll, walkL, h2, h3, Nat.reduceEqDiff, ↓reduceIte]
  exact .tup _ (.cons _ _ (.str _) (.cons _ _ (.bool _) .nil))
end
end Go.Ab.Sd
