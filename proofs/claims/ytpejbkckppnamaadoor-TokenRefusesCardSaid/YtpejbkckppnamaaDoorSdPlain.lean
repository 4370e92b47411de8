/- Part of this work: see the text that closes the claim. -/
import Derived.Test.YtpejbkckppnamaaDoorSdValue
import Derived.Test.YtpejbkckppnamaaDoorAbForget
set_option linter.all false
set_option linter.unusedVariables false
set_option linter.unusedSimpArgs false
namespace Go.Ab.Sd
open Go Go.Ab Go.Proofs Go.RowKit
set_option maxRecDepth 40000
set_option linter.unusedSimpArgs false
section
variable {m : Int} {σ : St} {K : AV → St → Prop}
theorem indexByte_range (c : UInt8) : ∀ l : List UInt8, Lib.indexByte l c = -1 ∨ (0 ≤ Lib.indexByte l c ∧ Lib.indexByte l c < l.length)
  | [] => .inl rfl
  | b :: l => by
    unfold Lib.indexByte
    have := indexByte_range c l
    split
    · right; simp
    · split
      · exact .inl rfl
      · rename_i h
        simp at h
        rcases this with h2 | h2
        · exact absurd h2 h
        · right; simp; omega
/-- How far a text goes. -/
def plainN (s : List UInt8) : Nat := if Lib.indexByte s 60 < 0 then s.length else (Lib.indexByte s 60).toNat
theorem plainN_le (s : List UInt8) : plainN s ≤ s.length := by
  unfold plainN
  have := indexByte_range 60 s
  split <;> omega
theorem plain_c (b : Nat) (s : List UInt8) (ty : TypeId) (hv : W σ b ty s) (hs : s.length < 4294967281)
    (h : K (.tup [.agg [.int .i64 3, .str [], .str (valueS (plainN s + 1) (s.take (plainN s)) []).1, .nils, .bool false], .bool (valueS (plainN s + 1) (s.take (plainN s)) []).2]) (σ.setV b (.cells ty [.str (s.drop (plainN s))]))) :
    ACalls Tryd.prog (gD m) 28 [.vp b 0] σ K := by
  refine ACalls.forget_set (b := b) (v := .cells ty [.str (s.drop (plainN s))]) (DataL.cons _ _ (.str _) .nil) (.tup _ (.cons _ _ (.agg _ (.cons _ _ (.int _ _) (.cons _ _ (.str _) (.cons _ _ (.str _) (.cons _ _ .nils (.cons _ _ (.bool _) .nil)))))) (.cons _ _ (.bool _) .nil))) ?_ h
  have hlt := getV_lt hv
  have hle := plainN_le s
  refine ACalls_fn tok fm (fk28 _) ?_
  simp (disch := omega) only [c28, walkAll, walkL, E, hv, Nat.reduceEqDiff, Nat.reduceAdd, Nat.reduceSub, Nat.reduceLeDiff, Nat.le_refl, ↓reduceIte]
  refine IndexByte_c s 60 ?_
  simp (disch := omega) only [walkAll, walkL, E, hv, Nat.reduceEqDiff, Nat.reduceAdd, Nat.reduceSub, Nat.reduceLeDiff, Nat.le_refl, ↓reduceIte]
  have e60 : (Int.toNat 60).toUInt8 = (60 : UInt8) := by decide
  rw [e60]
  have hvs : (s.take (plainN s)).length = plainN s := by simp; omega
  have hN : ∀ (i : Int), i = (plainN s : Int) → i.toNat = plainN s := fun i hi => by omega
  have hv2 : getV (σ.pushV (.cells 31 [.int .i64 0, .str [], .str [], .nils, .bool false])) b = some (.cells ty [.str s]) := by
    simp only [getV, nvs, St.pushV] at *; rw [List.getElem?_append_left hlt]; exact hv
  have g1 : ∀ v u, getV ((σ.setV b v).pushV u) (nvs σ) = some u := fun v u => by simp [getV, nvs, St.pushV, St.setV]
  have g2 : ∀ v u u', ((σ.setV b v).pushV u).setV (nvs σ) u' = (σ.setV b v).pushV u' := fun v u u' => by simp [nvs, St.pushV, St.setV]
  have g3 : ∀ v u, (σ.setV b v).pushV u = ⟨σ.vars.set b v ++ [u], σ.rows ++ []⟩ := fun v u => by simp [St.pushV, St.setV]
  cases hi : decide (Lib.indexByte s 60 < 0) with
  | true =>
    have hp : plainN s = s.length := by unfold plainN; rw [if_pos (by simpa using hi)]
    simp (disch := omega) only [walkAll, walkL, E, hv, hv2, Nat.sub_zero, List.take_length, List.drop_length, Nat.sub_self, Nat.reduceEqDiff, Nat.reduceAdd, Nat.reduceSub, Nat.reduceLeDiff, Nat.le_refl, ↓reduceIte]
    refine value_c s hs ?_
    rw [hp, List.drop_length]
    simp (disch := omega) only [walkAll, walkL, E, g1, g2, Nat.reduceEqDiff, Nat.reduceAdd, Nat.reduceSub, Nat.reduceLeDiff, Nat.le_refl, ↓reduceIte]
    exact ⟨_, _, g3 _ _⟩
  | false =>
    have hr := indexByte_range 60 s
    have hp : plainN s = (Lib.indexByte s 60).toNat := by unfold plainN; rw [if_neg (by simpa using hi)]
    have hi' : 0 ≤ Lib.indexByte s 60 := by simpa using hi
    have hpi : Lib.indexByte s 60 = (plainN s : Int) := by omega
    rw [hpi]
    simp (disch := omega) only [walkAll, walkL, E, hv, hv2, Nat.sub_zero, Nat.reduceEqDiff, Nat.reduceAdd, Nat.reduceSub, Nat.reduceLeDiff, Nat.le_refl, ↓reduceIte]
    refine value_c (s.take (plainN s)) (by rw [hvs]; omega) ?_
    rw [hvs]
    have e3 : (s.drop (plainN s)).take (s.length - plainN s) = s.drop (plainN s) := List.take_of_length_le (by simp)
    simp (disch := omega) only [walkAll, walkL, E, g1, g2, e3, Nat.reduceEqDiff, Nat.reduceAdd, Nat.reduceSub, Nat.reduceLeDiff, Nat.le_refl, ↓reduceIte]
    exact ⟨_, _, g3 _ _⟩
end
end Go.Ab.Sd
