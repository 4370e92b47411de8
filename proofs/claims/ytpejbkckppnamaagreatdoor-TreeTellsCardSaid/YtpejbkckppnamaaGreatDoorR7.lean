/-
  The reference's tokens are the program's: a plain law.
-/
import Derived.Test.YtpejbkckppnamaaGreatDoorRef
import Derived.Laws.Cover4
import Derived.Test.YtpejbkckppnamaaGreatDoorAbB
set_option linter.all false
set_option linter.unusedVariables false
set_option linter.unusedSimpArgs false
namespace Go.Ab.Sz
open Go Go.Ab Go.Proofs Go.RowKit
set_option maxRecDepth 100000
set_option maxHeartbeats 1000000 in
theorem utf_calls (n : Int) (w : World) :
    Calls Tryz.prog 104 #[.int .i64 n] w fun e w' => e = .returned (.string (Utf8.encode (wrap32 n))) ∧ Below w.heap.size w w' := by
  have hcv : ∀ w' : World, w'.cell? ⟨w.heap.size, 0, none⟩ = some (.int .i32 (wrap32 n)) → (convert 161 9 (.slice (some { block := w.heap.size, off := 0 }) 1 1)).run Tryz.prog w' = .ok (.string (Utf8.encode (wrap32 n))) w' := fun w' h => by
    have := run_convert_runes (P := Tryz.prog) w' 161 9 21 ⟨w.heap.size, 0, none⟩ 1 1 [wrap32 n] (by simp) Tryz.underlying161 Tryz.underlying21 Tryz.underlying9 (fun j hj => by
      obtain rfl : j = 0 := by simpa using hj
      exact h)
    rw [this]
    simp [runesBytes]
  go_enter Tryz.func104, Tryz.ntmps104
  go_wp2_with (simp (disch := (trace_state; simp [World.cell?])) only [hcv])
  go_ret
  exact ⟨rfl, (Below.refl _ _).alloc (Nat.le_refl _) _⟩
section
variable {m : Int} {σ : St} {K : AV → St → Prop}
theorem utf_c (n : Nat) (hn : n < 1114112) (h : K (.str (Utf8.encode n).data.toList) σ) : ACalls Tryz.prog (gD m) 104 [.int .i64 n] σ K := by
  have hw : wrap32 (n : Int) = n := by unfold wrap32; omega
  have key : ∀ (C : Cz) (b : ByteArray), Rep C (.str b.data.toList) (.string b) := fun C b => .str _
  exact ACalls.of_calls Tryz.func104 rfl (by decide) (fun C w vs _ _ ha => by
    rw [ha.i_inv]
    refine (utf_calls _ w).mono fun e w' ⟨h1, h2⟩ => ⟨_, h1, by rw [hw]; exact key C _, h2⟩) h
end
end Go.Ab.Sz
namespace Go.Ab.Sz
open Go Go.Ab Go.Proofs Go.RowKit
set_option maxRecDepth 40000
set_option linter.unusedSimpArgs false
section
variable {m : Int} {σ : St} {K : AV → St → Prop}
theorem all_u8 {p : UInt8 → Bool} (h : ∀ n, n < 256 → p (UInt8.ofNat n) = true) (c : UInt8) : p c = true := by
  have := h c.toNat c.toNat_lt
  simpa using this
theorem blank_key (c : UInt8) : blanksL.contains c = ((c.toNat : Int) == 9 || ((c.toNat : Int) == 10 || ((c.toNat : Int) == 13 || (c.toNat : Int) == 32))) := by
  have := all_u8 (p := fun c => blanksL.contains c == ((c.toNat : Int) == 9 || ((c.toNat : Int) == 10 || ((c.toNat : Int) == 13 || (c.toNat : Int) == 32)))) (by decide +kernel) c
  simpa using this
theorem blank_c (c : UInt8) (h : K (.bool (blanksL.contains c)) σ) : ACalls Tryz.prog (gD m) 41 [.int .u8 c.toNat] σ K := by
  rw [blank_key] at h
  refine ACalls_fn tok fm (fk41 _) ?_
  simp (disch := first | omega | (simp only [ln]; first | done | omega)) only [walkAll, walkL, walkK, wk, E, Nat.reduceEqDiff, Nat.reduceAdd, Nat.reduceSub, Nat.reduceLeDiff, Int.reduceLT, Int.reduceLE, Int.reduceAdd, Int.reduceSub, Int.reduceToNat, ↓reduceIte, c41]
  cases q1 : ((c.toNat : Int) == 9) <;> rw [q1] at h <;> simp (disch := first | omega | (simp only [ln]; first | done | omega)) only [walkAll, walkL, walkK, wk, E, Nat.reduceEqDiff, Nat.reduceAdd, Nat.reduceSub, Nat.reduceLeDiff, Int.reduceLT, Int.reduceLE, Int.reduceAdd, Int.reduceSub, Int.reduceToNat, ↓reduceIte]
  case true => exact h
  cases q2 : ((c.toNat : Int) == 10) <;> rw [q2] at h <;> simp (disch := first | omega | (simp only [ln]; first | done | omega)) only [walkAll, walkL, walkK, wk, E, Nat.reduceEqDiff, Nat.reduceAdd, Nat.reduceSub, Nat.reduceLeDiff, Int.reduceLT, Int.reduceLE, Int.reduceAdd, Int.reduceSub, Int.reduceToNat, ↓reduceIte]
  case true => exact h
  cases q3 : ((c.toNat : Int) == 13) <;> rw [q3] at h <;> simp (disch := first | omega | (simp only [ln]; first | done | omega)) only [walkAll, walkL, walkK, wk, E, Nat.reduceEqDiff, Nat.reduceAdd, Nat.reduceSub, Nat.reduceLeDiff, Int.reduceLT, Int.reduceLE, Int.reduceAdd, Int.reduceSub, Int.reduceToNat, ↓reduceIte]
  case true => exact h
  exact h
theorem first_key (c : UInt8) : firsts.contains c = (decide (65 ≤ (c.toNat : Int)) && decide ((c.toNat : Int) ≤ 90) || (decide (97 ≤ (c.toNat : Int)) && decide ((c.toNat : Int) ≤ 122) || (c.toNat : Int) == 95)) := by
  have := all_u8 (p := fun c => firsts.contains c == (decide (65 ≤ (c.toNat : Int)) && decide ((c.toNat : Int) ≤ 90) || (decide (97 ≤ (c.toNat : Int)) && decide ((c.toNat : Int) ≤ 122) || (c.toNat : Int) == 95))) (by decide +kernel) c
  simpa using this
theorem first_c (c : UInt8) (h : K (.bool (firsts.contains c)) σ) : ACalls Tryz.prog (gD m) 102 [.int .u8 c.toNat] σ K := by
  rw [first_key] at h
  refine ACalls_fn tok fm (fk102 _) ?_
  simp (disch := first | omega | (simp only [ln]; first | done | omega)) only [walkAll, walkL, walkK, wk, E, Nat.reduceEqDiff, Nat.reduceAdd, Nat.reduceSub, Nat.reduceLeDiff, Int.reduceLT, Int.reduceLE, Int.reduceAdd, Int.reduceSub, Int.reduceToNat, ↓reduceIte, c102]
  cases q1 : decide (65 ≤ (c.toNat : Int)) <;> cases q2 : decide ((c.toNat : Int) ≤ 90) <;> cases q3 : decide (97 ≤ (c.toNat : Int)) <;> cases q4 : decide ((c.toNat : Int) ≤ 122) <;> rw [q1, q2, q3, q4] at h <;> simp (disch := first | omega | (simp only [ln]; first | done | omega)) only [walkAll, walkL, walkK, wk, E, Nat.reduceEqDiff, Nat.reduceAdd, Nat.reduceSub, Nat.reduceLeDiff, Int.reduceLT, Int.reduceLE, Int.reduceAdd, Int.reduceSub, Int.reduceToNat, ↓reduceIte, q1, q2, q3, q4] <;> exact h
theorem within_key (c : UInt8) : withins.contains c = (firsts.contains c || (decide (48 ≤ (c.toNat : Int)) && decide ((c.toNat : Int) ≤ 57) || ((c.toNat : Int) == 45 || ((c.toNat : Int) == 46 || (c.toNat : Int) == 58)))) := by
  have := all_u8 (p := fun c => withins.contains c == (firsts.contains c || (decide (48 ≤ (c.toNat : Int)) && decide ((c.toNat : Int) ≤ 57) || ((c.toNat : Int) == 45 || ((c.toNat : Int) == 46 || (c.toNat : Int) == 58))))) (by decide +kernel) c
  simpa using this
theorem within_c (c : UInt8) (h : K (.bool (withins.contains c)) σ) : ACalls Tryz.prog (gD m) 81 [.int .u8 c.toNat] σ K := by
  rw [within_key] at h
  refine ACalls_fn tok fm (fk81 _) ?_
  simp (disch := first | omega | (simp only [ln]; first | done | omega)) only [walkAll, walkL, walkK, wk, E, Nat.reduceEqDiff, Nat.reduceAdd, Nat.reduceSub, Nat.reduceLeDiff, Int.reduceLT, Int.reduceLE, Int.reduceAdd, Int.reduceSub, Int.reduceToNat, ↓reduceIte, c81]
  refine first_c c ?_
  cases q0 : firsts.contains c <;> rw [q0] at h <;> simp (disch := first | omega | (simp only [ln]; first | done | omega)) only [walkAll, walkL, walkK, wk, E, Nat.reduceEqDiff, Nat.reduceAdd, Nat.reduceSub, Nat.reduceLeDiff, Int.reduceLT, Int.reduceLE, Int.reduceAdd, Int.reduceSub, Int.reduceToNat, ↓reduceIte, q0]
  case true => exact h
  cases q1 : decide (48 ≤ (c.toNat : Int)) <;> cases q2 : decide ((c.toNat : Int) ≤ 57) <;> rw [q1, q2] at h <;> simp (disch := first | omega | (simp only [ln]; first | done | omega)) only [walkAll, walkL, walkK, wk, E, Nat.reduceEqDiff, Nat.reduceAdd, Nat.reduceSub, Nat.reduceLeDiff, Int.reduceLT, Int.reduceLE, Int.reduceAdd, Int.reduceSub, Int.reduceToNat, ↓reduceIte, q1, q2]
  case true.true => exact h
  all_goals
    cases q3 : ((c.toNat : Int) == 45) <;> rw [q3] at h <;> simp (disch := first | omega | (simp only [ln]; first | done | omega)) only [walkAll, walkL, walkK, wk, E, Nat.reduceEqDiff, Nat.reduceAdd, Nat.reduceSub, Nat.reduceLeDiff, Int.reduceLT, Int.reduceLE, Int.reduceAdd, Int.reduceSub, Int.reduceToNat, ↓reduceIte, q3]
    case true => exact h
    cases q4 : ((c.toNat : Int) == 46) <;> rw [q4] at h <;> simp (disch := first | omega | (simp only [ln]; first | done | omega)) only [walkAll, walkL, walkK, wk, E, Nat.reduceEqDiff, Nat.reduceAdd, Nat.reduceSub, Nat.reduceLeDiff, Int.reduceLT, Int.reduceLE, Int.reduceAdd, Int.reduceSub, Int.reduceToNat, ↓reduceIte, q4]
    case true => exact h
    exact h
/-- Is it a name? -/
def nameB (s : List UInt8) : Bool := s.all withins.contains && (s != [] && firsts.contains (s.getD 0 0))
theorem Name_loop (s : List UInt8) (hs : s.length < 1000000000000) {Q : EQ} : ∀ (rest : List UInt8) (i : Nat) (e : Env), s.drop i = rest → e 0 = some (.str s) → e 3 = some (.int .i64 i) →
    (rest.all withins.contains = true → ∀ e', e' 0 = some (.str s) → Q (.exit 0) e' σ) → (rest.all withins.contains = false → ∀ e', e' 2 = some (.bool false) → Q .ret e' σ) → LoopC Tryz.prog tt (gD m) l82_0 Q e σ := by
  intro rest
  induction rest with
  | nil =>
    intro i e hd h0 h3 hx hr
    have hi : s.length ≤ i := by simpa using hd
    have hb : decide ((i : Int) < (s.length : Int)) = false := by simp; omega
    refine LoopC_unfold tok fm ?_
    simp (disch := first | omega | (simp only [ln]; first | done | omega)) only [walkAll, walkL, walkK, wk, E, Nat.reduceEqDiff, Nat.reduceAdd, Nat.reduceSub, Nat.reduceLeDiff, Int.reduceLT, Int.reduceLE, Int.reduceAdd, Int.reduceSub, Int.reduceToNat, ↓reduceIte, l82_0x, l82_0b, h0, h3, hb]
    exact hx rfl _ (by simp [put, h0])
  | cons c rest ih =>
    intro i e hd h0 h3 hx hr
    obtain ⟨hc, hd'⟩ := drop_cons hd
    have hi := (List.getElem?_eq_some_iff.1 hc).1
    have hb : decide ((i : Int) < (s.length : Int)) = true := by simp; omega
    refine LoopC_unfold tok fm ?_
    simp (disch := first | omega | (simp only [ln]; first | done | omega)) only [walkAll, walkL, walkK, wk, E, Nat.reduceEqDiff, Nat.reduceAdd, Nat.reduceSub, Nat.reduceLeDiff, Int.reduceLT, Int.reduceLE, Int.reduceAdd, Int.reduceSub, Int.reduceToNat, ↓reduceIte, l82_0x, l82_0b, h0, h3, hb, hc, Int.toNat_natCast]
    refine within_c c ?_
    cases q : withins.contains c with
    | false =>
      simp (disch := first | omega | (simp only [ln]; first | done | omega)) only [walkAll, walkL, walkK, wk, E, Nat.reduceEqDiff, Nat.reduceAdd, Nat.reduceSub, Nat.reduceLeDiff, Int.reduceLT, Int.reduceLE, Int.reduceAdd, Int.reduceSub, Int.reduceToNat, ↓reduceIte, h0, h3, q]
      exact hr (by simp only [List.all_cons, q, Bool.false_and]) _ (by simp [put])
    | true =>
      simp (disch := first | omega | (simp only [ln]; first | done | omega)) only [walkAll, walkL, walkK, wk, E, Nat.reduceEqDiff, Nat.reduceAdd, Nat.reduceSub, Nat.reduceLeDiff, Int.reduceLT, Int.reduceLE, Int.reduceAdd, Int.reduceSub, Int.reduceToNat, ↓reduceIte, h0, h3, q]
      refine ih (i + 1) _ hd' (by simp [put, h0]) (by simp [put]) (fun h => hx (by simp only [List.all_cons, q, h, Bool.true_and])) (fun h => hr (by simp only [List.all_cons, q, h, Bool.true_and]))
theorem Name_c (s : List UInt8) (hs : s.length < 1000000000000) (h : K (.bool (nameB s)) σ) : ACalls Tryz.prog (gD m) 82 [.str s] σ K := by
  refine ACalls_fn tok fm (fk82 _) ?_
  simp (disch := first | omega | (simp only [ln]; first | done | omega)) only [walkAll, walkL, walkK, wk, E, Nat.reduceEqDiff, Nat.reduceAdd, Nat.reduceSub, Nat.reduceLeDiff, Int.reduceLT, Int.reduceLE, Int.reduceAdd, Int.reduceSub, Int.reduceToNat, ↓reduceIte, c82]
  refine Name_loop s hs s 0 _ rfl (by simp [put, E]) (by simp [put]) (fun ha e' h0 => ?_) (fun ha e' h2 => ?_)
  · have e : nameB s = (s != [] && firsts.contains (s.getD 0 0)) := by unfold nameB; rw [ha, Bool.true_and]
    rw [e] at h
    cases s with
    | nil => simp (disch := first | omega | (simp only [ln]; first | done | omega)) only [walkAll, walkL, walkK, wk, E, Nat.reduceEqDiff, Nat.reduceAdd, Nat.reduceSub, Nat.reduceLeDiff, Int.reduceLT, Int.reduceLE, Int.reduceAdd, Int.reduceSub, Int.reduceToNat, ↓reduceIte, h0]; exact h
    | cons c s =>
      have q0 : (c :: s == []) = false := rfl
      simp (disch := first | omega | (simp only [ln]; first | done | omega)) only [walkAll, walkL, walkK, wk, E, Nat.reduceEqDiff, Nat.reduceAdd, Nat.reduceSub, Nat.reduceLeDiff, Int.reduceLT, Int.reduceLE, Int.reduceAdd, Int.reduceSub, Int.reduceToNat, ↓reduceIte, h0, q0, Bool.not_false, List.getElem?_cons_zero]
      refine first_c c ?_
      simp (disch := first | omega | (simp only [ln]; first | done | omega)) only [walkAll, walkL, walkK, wk, E, Nat.reduceEqDiff, Nat.reduceAdd, Nat.reduceSub, Nat.reduceLeDiff, Int.reduceLT, Int.reduceLE, Int.reduceAdd, Int.reduceSub, Int.reduceToNat, ↓reduceIte]
      exact h
  · have e : nameB s = false := by unfold nameB; rw [ha, Bool.false_and]
    rw [e] at h
    simp (disch := first | omega | (simp only [ln]; first | done | omega)) only [walkAll, walkL, walkK, wk, E, Nat.reduceEqDiff, Nat.reduceAdd, Nat.reduceSub, Nat.reduceLeDiff, Int.reduceLT, Int.reduceLE, Int.reduceAdd, Int.reduceSub, Int.reduceToNat, ↓reduceIte, h2]
    exact h
end
end Go.Ab.Sz
namespace Go.Ab.Sz
open Go Go.Ab Go.Proofs Go.RowKit
set_option maxRecDepth 40000
set_option linter.unusedSimpArgs false
section
variable {m : Int} {σ : St} {K : AV → St → Prop}
def dR (c : UInt8) : Nat := if 48 ≤ c.toNat ∧ c.toNat ≤ 57 then c.toNat - 48 else if 97 ≤ c.toNat ∧ c.toNat ≤ 102 then c.toNat - 97 + 10 else if 65 ≤ c.toNat ∧ c.toNat ≤ 70 then c.toNat - 65 + 10 else 99
def numL (B : Nat) : List UInt8 → Nat → Option Nat
  | [], v => some v
  | c :: l, v => if B ≤ dR c then none else numL B l (v * B + dR c)
theorem num_loop (s : List UInt8) (hs : s.length ≤ 7) (B : Nat) (hB : B = 10 ∨ B = 16) {Q : EQ} : ∀ (rest : List UInt8) (i v : Nat) (e : Env), s.drop i = rest → v < 16 ^ i → e 0 = some (.str s) → e 1 = some (.int .i64 B) → e 7 = some (.int .i64 v) → e 8 = some (.int .i64 i) →
    (∀ x, numL B rest v = some x → ∀ e', e' 7 = some (.int .i64 (x : Nat)) → Q (.exit 0) e' σ) → (numL B rest v = none → ∀ e', e' 6 = some (.int .i64 (-1)) → Q .ret e' σ) → LoopC Tryz.prog tt (gD m) l103_0 Q e σ := by
  intro rest
  induction rest with
  | nil =>
    intro i v e hd hv h0 h1 h7 h8 hx hr
    have hi : s.length ≤ i := by simpa using hd
    have hb : decide ((i : Int) < (s.length : Int)) = false := by simp; omega
    refine LoopC_unfold tok fm ?_
    simp (disch := first | omega | (simp only [ln]; first | done | omega)) only [walkAll, walkL, walkK, wk, E, Nat.reduceEqDiff, Nat.reduceAdd, Nat.reduceSub, Nat.reduceLeDiff, Int.reduceLT, Int.reduceLE, Int.reduceAdd, Int.reduceSub, Int.reduceToNat, ↓reduceIte, l103_0x, l103_0b, h0, h8, hb]
    exact hx v rfl _ (by simp [put, h7])
  | cons c rest ih =>
    intro i v e hd hv h0 h1 h7 h8 hx hr
    obtain ⟨hc, hd'⟩ := drop_cons hd
    have hi := (List.getElem?_eq_some_iff.1 hc).1
    have hb : decide ((i : Int) < (s.length : Int)) = true := by simp; omega
    have hlt := c.toNat_lt
    have hp : 16 ^ i ≤ 16 ^ 6 := Nat.pow_le_pow_right (by decide) (by omega)
    have hv' : v < 16777216 := Nat.lt_of_lt_of_le hv (by simpa using hp)
    have iv : c.toNat < 48 ∨ (48 ≤ c.toNat ∧ c.toNat ≤ 57) ∨ (57 < c.toNat ∧ c.toNat < 65) ∨ (65 ≤ c.toNat ∧ c.toNat ≤ 70) ∨ (70 < c.toNat ∧ c.toNat < 97) ∨ (97 ≤ c.toNat ∧ c.toNat ≤ 102) ∨ 102 < c.toNat := by omega
    refine LoopC_unfold tok fm ?_
    simp (disch := first | omega | (simp only [ln]; first | done | omega)) only [walkAll, walkL, walkK, wk, E, Nat.reduceEqDiff, Nat.reduceAdd, Nat.reduceSub, Nat.reduceLeDiff, Int.reduceLT, Int.reduceLE, Int.reduceAdd, Int.reduceSub, Int.reduceToNat, ↓reduceIte, l103_0x, l103_0b, h0, h1, h7, h8, hb, hc, Int.toNat_natCast]
    have last : B ≤ dR c → numL B (c :: rest) v = none := fun h => by simp only [numL, if_pos h]
    have more : dR c < B → numL B (c :: rest) v = numL B rest (v * B + dR c) := fun h => by simp only [numL]; rw [if_neg (by omega)]
    rcases iv with i' | i' | i' | i' | i' | i' | i' <;> (first | have g1 : decide (48 ≤ (c.toNat : Int)) = true := decide_eq_true (by omega) | have g1 : decide (48 ≤ (c.toNat : Int)) = false := decide_eq_false (by omega)) <;> (first | have g2 : decide ((c.toNat : Int) ≤ 57) = true := decide_eq_true (by omega) | have g2 : decide ((c.toNat : Int) ≤ 57) = false := decide_eq_false (by omega)) <;> (first | have g3 : decide (97 ≤ (c.toNat : Int)) = true := decide_eq_true (by omega) | have g3 : decide (97 ≤ (c.toNat : Int)) = false := decide_eq_false (by omega)) <;> (first | have g4 : decide ((c.toNat : Int) ≤ 102) = true := decide_eq_true (by omega) | have g4 : decide ((c.toNat : Int) ≤ 102) = false := decide_eq_false (by omega)) <;> (first | have g5 : decide (65 ≤ (c.toNat : Int)) = true := decide_eq_true (by omega) | have g5 : decide (65 ≤ (c.toNat : Int)) = false := decide_eq_false (by omega)) <;> (first | have g6 : decide ((c.toNat : Int) ≤ 70) = true := decide_eq_true (by omega) | have g6 : decide ((c.toNat : Int) ≤ 70) = false := decide_eq_false (by omega)) <;>
      simp (disch := first | omega | (simp only [ln]; first | done | omega)) only [walkAll, walkL, walkK, wk, E, Nat.reduceEqDiff, Nat.reduceAdd, Nat.reduceSub, Nat.reduceLeDiff, Int.reduceLT, Int.reduceLE, Int.reduceAdd, Int.reduceSub, Int.reduceToNat, ↓reduceIte, h0, h1, h7, h8, g1, g2, g3, g4, g5, g6]
    all_goals
      first
        | rw [show (c.toNat : Int) - 48 = (dR c : Nat) by unfold dR; rw [if_pos (by omega)]; omega]
        | rw [show (c.toNat : Int) - 97 + 10 = (dR c : Nat) by unfold dR; rw [if_neg (by omega), if_pos (by omega)]; omega]
        | rw [show (c.toNat : Int) - 65 + 10 = (dR c : Nat) by unfold dR; rw [if_neg (by omega), if_neg (by omega), if_pos (by omega)]; omega]
        | rw [show (99 : Int) = (dR c : Nat) by unfold dR; rw [if_neg (by omega), if_neg (by omega), if_neg (by omega)]; rfl]
      by_cases hq : B ≤ dR c
      · have q : decide ((B : Int) ≤ (dR c : Nat)) = true := decide_eq_true (by omega)
        simp (disch := first | omega | (simp only [ln]; first | done | omega)) only [walkAll, walkL, walkK, wk, E, Nat.reduceEqDiff, Nat.reduceAdd, Nat.reduceSub, Nat.reduceLeDiff, Int.reduceLT, Int.reduceLE, Int.reduceAdd, Int.reduceSub, Int.reduceToNat, ↓reduceIte, q, h0, h1, h7, h8]
        exact hr (last hq) _ (by simp [put])
      · have q : decide ((B : Int) ≤ (dR c : Nat)) = false := decide_eq_false (by omega)
        have q16 : dR c < 16 := by omega
        have hvb : v * B ≤ v * 16 := Nat.mul_le_mul_left _ (by omega)
        have w1 : IntKind.i64.wrap ((v : Int) * (B : Int)) = ((v * B : Nat) : Int) := by rw [← Int.natCast_mul]; exact wrap_i64 _ (by omega) (by omega)
        have w2 : IntKind.i64.wrap (((v * B : Nat) : Int) + (dR c : Nat)) = ((v * B + dR c : Nat) : Int) := by rw [← Int.natCast_add]; exact wrap_i64 _ (by omega) (by omega)
        simp (disch := first | omega | (simp only [ln]; first | done | omega)) only [walkAll, walkL, walkK, wk, E, Nat.reduceEqDiff, Nat.reduceAdd, Nat.reduceSub, Nat.reduceLeDiff, Int.reduceLT, Int.reduceLE, Int.reduceAdd, Int.reduceSub, Int.reduceToNat, ↓reduceIte, q, h0, h1, h7, h8, w1, w2]
        rw [more (by omega)] at hx hr
        refine ih (i + 1) (v * B + dR c) _ hd' (by rw [Nat.pow_succ]; omega) (by simp [put, h0]) (by simp [put, h1]) (by simp [put]) (by simp [put]) hx hr
def numR (B most : Nat) (s : List UInt8) : Int := if s.length < 1 ∨ most < s.length then -1 else match numL B s 0 with
  | some v => v
  | none => -1
theorem numeral_c (B most : Nat) (hB : B = 10 ∨ B = 16) (hm : most ≤ 7) (s : List UInt8) (h : K (.int .i64 (numR B most s)) σ) : ACalls Tryz.prog (gD m) 103 [.str s, .int .i64 B, .int .i64 most] σ K := by
  refine ACalls_fn tok fm (fk103 _) ?_
  simp (disch := first | omega | (simp only [ln]; first | done | omega)) only [walkAll, walkL, walkK, wk, E, Nat.reduceEqDiff, Nat.reduceAdd, Nat.reduceSub, Nat.reduceLeDiff, Int.reduceLT, Int.reduceLE, Int.reduceAdd, Int.reduceSub, Int.reduceToNat, ↓reduceIte, c103]
  by_cases h1 : s.length < 1
  · have q : decide ((s.length : Int) < 1) = true := decide_eq_true (by omega)
    simp (disch := first | omega | (simp only [ln]; first | done | omega)) only [walkAll, walkL, walkK, wk, E, Nat.reduceEqDiff, Nat.reduceAdd, Nat.reduceSub, Nat.reduceLeDiff, Int.reduceLT, Int.reduceLE, Int.reduceAdd, Int.reduceSub, Int.reduceToNat, ↓reduceIte, q]
    rw [show numR B most s = -1 by unfold numR; rw [if_pos (.inl h1)]] at h
    exact h
  have q : decide ((s.length : Int) < 1) = false := decide_eq_false (by omega)
  by_cases h2 : most < s.length
  · have q2 : decide ((most : Int) < (s.length : Int)) = true := decide_eq_true (by omega)
    simp (disch := first | omega | (simp only [ln]; first | done | omega)) only [walkAll, walkL, walkK, wk, E, Nat.reduceEqDiff, Nat.reduceAdd, Nat.reduceSub, Nat.reduceLeDiff, Int.reduceLT, Int.reduceLE, Int.reduceAdd, Int.reduceSub, Int.reduceToNat, ↓reduceIte, q, q2]
    rw [show numR B most s = -1 by unfold numR; rw [if_pos (.inr h2)]] at h
    exact h
  have q2 : decide ((most : Int) < (s.length : Int)) = false := decide_eq_false (by omega)
  simp (disch := first | omega | (simp only [ln]; first | done | omega)) only [walkAll, walkL, walkK, wk, E, Nat.reduceEqDiff, Nat.reduceAdd, Nat.reduceSub, Nat.reduceLeDiff, Int.reduceLT, Int.reduceLE, Int.reduceAdd, Int.reduceSub, Int.reduceToNat, ↓reduceIte, q, q2]
  have e : numR B most s = match numL B s 0 with
    | some v => (v : Int)
    | none => -1 := by unfold numR; rw [if_neg (by omega)]
  rw [e] at h
  refine num_loop s (by omega) B hB s 0 0 _ rfl (by decide) (by simp [put, E]) (by simp [put, E]) (by simp [put]) (by simp [put]) (fun x hx e' h7 => ?_) (fun hx e' h6 => ?_)
  · rw [hx] at h
    simp (disch := first | omega | (simp only [ln]; first | done | omega)) only [walkAll, walkL, walkK, wk, E, Nat.reduceEqDiff, Nat.reduceAdd, Nat.reduceSub, Nat.reduceLeDiff, Int.reduceLT, Int.reduceLE, Int.reduceAdd, Int.reduceSub, Int.reduceToNat, ↓reduceIte, h7]
    exact h
  · rw [hx] at h
    simp (disch := first | omega | (simp only [ln]; first | done | omega)) only [walkAll, walkL, walkK, wk, E, Nat.reduceEqDiff, Nat.reduceAdd, Nat.reduceSub, Nat.reduceLeDiff, Int.reduceLT, Int.reduceLE, Int.reduceAdd, Int.reduceSub, Int.reduceToNat, ↓reduceIte, h6]
    exact h
/-- The character of a number that was told. -/
def numO (v : Int) : List UInt8 := if decide (v < 0) || !charB v then [] else (Utf8.encode v).data.toList
def entN (s : List UInt8) : Int :=
  if decide (2 < s.length) && s.take 2 == [35, 120] then numR 16 6 (s.drop 2) else if decide (1 < s.length) && s.getD 0 0 == 35 then numR 10 7 (s.drop 1) else -1
def entS (s : List UInt8) : List UInt8 :=
  if [108, 116] == s then [60] else if [103, 116] == s then [62] else if [97, 109, 112] == s then [38] else if [113, 117, 111, 116] == s then [34] else if [97, 112, 111, 115] == s then [39] else numO (entN s)
end
end Go.Ab.Sz
namespace Go.Ab.Sz
open Go Go.Ab Go.Proofs Go.RowKit
set_option maxRecDepth 40000
set_option linter.unusedSimpArgs false
section
variable {m : Int} {σ : St} {K : AV → St → Prop}
theorem utfv_c (v : Int) (h1 : (decide (v < 0) || !charB v) = false) (h : K (.str (numO v)) σ) : ACalls Tryz.prog (gD m) 104 [.int .i64 v] σ K := by
  obtain ⟨h2, h3⟩ : decide (v < 0) = false ∧ charB v = true := by simpa using h1
  have h4 : 0 ≤ v := by have := of_decide_eq_false h2; omega
  obtain ⟨n, rfl⟩ := Int.eq_ofNat_of_zero_le h4
  have hn : n < 1114112 := by
    rw [charB_N] at h3
    simp only [Bool.and_eq_true, decide_eq_true_eq] at h3
    omega
  unfold numO at h
  rw [h1] at h
  exact utf_c n hn h
theorem entity_c (s : List UInt8) (h : K (.str (entS s)) σ) : ACalls Tryz.prog (gD m) 84 [.str s] σ K := by
  refine (ACalls.frame gD_data (.cons _ _ (.str _) .nil) (Q := fun r => r = .str (entS s)) ?_ σ).mono (fun r σ' hr => by rw [hr.1, hr.2]; exact h)
  have fin : ∀ r : AV, r = .str (entS s) → Data r ∧ r = .str (entS s) := fun r hr => by
    rw [hr]; simp only [dataR, and_self]
  have hr0 : getR ⟨[], [some ⟨9, 1, 0, [[.str [108, 116]], [.str [103, 116]], [.str [97, 109, 112]], [.str [113, 117, 111, 116]], [.str [97, 112, 111, 115]]]⟩, some ⟨9, 1, 0, [[.str [60]], [.str [62]], [.str [38]], [.str [34]], [.str [39]]]⟩]⟩ 0 = some (some ⟨9, 1, 0, [[.str [108, 116]], [.str [103, 116]], [.str [97, 109, 112]], [.str [113, 117, 111, 116]], [.str [97, 112, 111, 115]]]⟩) := rfl
  have hr1 : getR ⟨[], [some ⟨9, 1, 0, [[.str [108, 116]], [.str [103, 116]], [.str [97, 109, 112]], [.str [113, 117, 111, 116]], [.str [97, 112, 111, 115]]]⟩, some ⟨9, 1, 0, [[.str [60]], [.str [62]], [.str [38]], [.str [34]], [.str [39]]]⟩]⟩ 1 = some (some ⟨9, 1, 0, [[.str [60]], [.str [62]], [.str [38]], [.str [34]], [.str [39]]]⟩) := rfl
  refine ACalls_fn tok fm (fk84 _) ?_
  simp (disch := first | omega | (simp only [ln]; first | done | omega)) only [walkAll, walkL, walkK, wk, E, Nat.reduceEqDiff, Nat.reduceAdd, Nat.reduceSub, Nat.reduceLeDiff, Int.reduceLT, Int.reduceLE, Int.reduceAdd, Int.reduceSub, Int.reduceToNat, ↓reduceIte, c84]
  refine LoopC_unfold tok fm ?_
  simp (disch := first | omega | (simp only [ln]; first | done | omega)) only [walkAll, walkL, walkK, wk, E, Nat.reduceEqDiff, Nat.reduceAdd, Nat.reduceSub, Nat.reduceLeDiff, Int.reduceLT, Int.reduceLE, Int.reduceAdd, Int.reduceSub, Int.reduceToNat, ↓reduceIte, l84_0x, l84_0b, hr0, hr1, List.getElem?_cons_zero, List.getElem?_cons_succ, Nat.zero_add]
  cases q0 : ([108, 116] == s)
  case true =>
    simp (disch := first | omega | (simp only [ln]; first | done | omega)) only [walkAll, walkL, walkK, wk, E, Nat.reduceEqDiff, Nat.reduceAdd, Nat.reduceSub, Nat.reduceLeDiff, Int.reduceLT, Int.reduceLE, Int.reduceAdd, Int.reduceSub, Int.reduceToNat, ↓reduceIte, hr0, hr1, List.getElem?_cons_zero, List.getElem?_cons_succ, Nat.zero_add]
    exact fin _ (by unfold entS; simp only [q0, if_true, if_false, Bool.false_eq_true])
  simp (disch := first | omega | (simp only [ln]; first | done | omega)) only [walkAll, walkL, walkK, wk, E, Nat.reduceEqDiff, Nat.reduceAdd, Nat.reduceSub, Nat.reduceLeDiff, Int.reduceLT, Int.reduceLE, Int.reduceAdd, Int.reduceSub, Int.reduceToNat, ↓reduceIte]
  refine LoopC_unfold tok fm ?_
  simp (disch := first | omega | (simp only [ln]; first | done | omega)) only [walkAll, walkL, walkK, wk, E, Nat.reduceEqDiff, Nat.reduceAdd, Nat.reduceSub, Nat.reduceLeDiff, Int.reduceLT, Int.reduceLE, Int.reduceAdd, Int.reduceSub, Int.reduceToNat, ↓reduceIte, l84_0x, l84_0b, hr0, hr1, List.getElem?_cons_zero, List.getElem?_cons_succ, Nat.zero_add]
  cases q1 : ([103, 116] == s)
  case true =>
    simp (disch := first | omega | (simp only [ln]; first | done | omega)) only [walkAll, walkL, walkK, wk, E, Nat.reduceEqDiff, Nat.reduceAdd, Nat.reduceSub, Nat.reduceLeDiff, Int.reduceLT, Int.reduceLE, Int.reduceAdd, Int.reduceSub, Int.reduceToNat, ↓reduceIte, hr0, hr1, List.getElem?_cons_zero, List.getElem?_cons_succ, Nat.zero_add]
    exact fin _ (by unfold entS; simp only [q0, q1, if_true, if_false, Bool.false_eq_true])
  simp (disch := first | omega | (simp only [ln]; first | done | omega)) only [walkAll, walkL, walkK, wk, E, Nat.reduceEqDiff, Nat.reduceAdd, Nat.reduceSub, Nat.reduceLeDiff, Int.reduceLT, Int.reduceLE, Int.reduceAdd, Int.reduceSub, Int.reduceToNat, ↓reduceIte]
  refine LoopC_unfold tok fm ?_
  simp (disch := first | omega | (simp only [ln]; first | done | omega)) only [walkAll, walkL, walkK, wk, E, Nat.reduceEqDiff, Nat.reduceAdd, Nat.reduceSub, Nat.reduceLeDiff, Int.reduceLT, Int.reduceLE, Int.reduceAdd, Int.reduceSub, Int.reduceToNat, ↓reduceIte, l84_0x, l84_0b, hr0, hr1, List.getElem?_cons_zero, List.getElem?_cons_succ, Nat.zero_add]
  cases q2 : ([97, 109, 112] == s)
  case true =>
    simp (disch := first | omega | (simp only [ln]; first | done | omega)) only [walkAll, walkL, walkK, wk, E, Nat.reduceEqDiff, Nat.reduceAdd, Nat.reduceSub, Nat.reduceLeDiff, Int.reduceLT, Int.reduceLE, Int.reduceAdd, Int.reduceSub, Int.reduceToNat, ↓reduceIte, hr0, hr1, List.getElem?_cons_zero, List.getElem?_cons_succ, Nat.zero_add]
    exact fin _ (by unfold entS; simp only [q0, q1, q2, if_true, if_false, Bool.false_eq_true])
  simp (disch := first | omega | (simp only [ln]; first | done | omega)) only [walkAll, walkL, walkK, wk, E, Nat.reduceEqDiff, Nat.reduceAdd, Nat.reduceSub, Nat.reduceLeDiff, Int.reduceLT, Int.reduceLE, Int.reduceAdd, Int.reduceSub, Int.reduceToNat, ↓reduceIte]
  refine LoopC_unfold tok fm ?_
  simp (disch := first | omega | (simp only [ln]; first | done | omega)) only [walkAll, walkL, walkK, wk, E, Nat.reduceEqDiff, Nat.reduceAdd, Nat.reduceSub, Nat.reduceLeDiff, Int.reduceLT, Int.reduceLE, Int.reduceAdd, Int.reduceSub, Int.reduceToNat, ↓reduceIte, l84_0x, l84_0b, hr0, hr1, List.getElem?_cons_zero, List.getElem?_cons_succ, Nat.zero_add]
  cases q3 : ([113, 117, 111, 116] == s)
  case true =>
    simp (disch := first | omega | (simp only [ln]; first | done | omega)) only [walkAll, walkL, walkK, wk, E, Nat.reduceEqDiff, Nat.reduceAdd, Nat.reduceSub, Nat.reduceLeDiff, Int.reduceLT, Int.reduceLE, Int.reduceAdd, Int.reduceSub, Int.reduceToNat, ↓reduceIte, hr0, hr1, List.getElem?_cons_zero, List.getElem?_cons_succ, Nat.zero_add]
    exact fin _ (by unfold entS; simp only [q0, q1, q2, q3, if_true, if_false, Bool.false_eq_true])
  simp (disch := first | omega | (simp only [ln]; first | done | omega)) only [walkAll, walkL, walkK, wk, E, Nat.reduceEqDiff, Nat.reduceAdd, Nat.reduceSub, Nat.reduceLeDiff, Int.reduceLT, Int.reduceLE, Int.reduceAdd, Int.reduceSub, Int.reduceToNat, ↓reduceIte]
  refine LoopC_unfold tok fm ?_
  simp (disch := first | omega | (simp only [ln]; first | done | omega)) only [walkAll, walkL, walkK, wk, E, Nat.reduceEqDiff, Nat.reduceAdd, Nat.reduceSub, Nat.reduceLeDiff, Int.reduceLT, Int.reduceLE, Int.reduceAdd, Int.reduceSub, Int.reduceToNat, ↓reduceIte, l84_0x, l84_0b, hr0, hr1, List.getElem?_cons_zero, List.getElem?_cons_succ, Nat.zero_add]
  cases q4 : ([97, 112, 111, 115] == s)
  case true =>
    simp (disch := first | omega | (simp only [ln]; first | done | omega)) only [walkAll, walkL, walkK, wk, E, Nat.reduceEqDiff, Nat.reduceAdd, Nat.reduceSub, Nat.reduceLeDiff, Int.reduceLT, Int.reduceLE, Int.reduceAdd, Int.reduceSub, Int.reduceToNat, ↓reduceIte, hr0, hr1, List.getElem?_cons_zero, List.getElem?_cons_succ, Nat.zero_add]
    exact fin _ (by unfold entS; simp only [q0, q1, q2, q3, q4, if_true, if_false, Bool.false_eq_true])
  simp (disch := first | omega | (simp only [ln]; first | done | omega)) only [walkAll, walkL, walkK, wk, E, Nat.reduceEqDiff, Nat.reduceAdd, Nat.reduceSub, Nat.reduceLeDiff, Int.reduceLT, Int.reduceLE, Int.reduceAdd, Int.reduceSub, Int.reduceToNat, ↓reduceIte]
  refine LoopC_unfold tok fm ?_
  simp (disch := first | omega | (simp only [ln]; first | done | omega)) only [walkAll, walkL, walkK, wk, E, Nat.reduceEqDiff, Nat.reduceAdd, Nat.reduceSub, Nat.reduceLeDiff, Int.reduceLT, Int.reduceLE, Int.reduceAdd, Int.reduceSub, Int.reduceToNat, ↓reduceIte, l84_0x, l84_0b]
  have e1 : entS s = numO (entN s) := by unfold entS; simp only [q0, q1, q2, q3, q4, if_false, Bool.false_eq_true]
  have fin : ∀ r : AV, r = .str (numO (entN s)) → Data r ∧ r = .str (entS s) := fun r hr => fin r (by rw [hr, e1])
  have t2 : (s.drop 2).take (s.length - 2) = s.drop 2 := List.take_of_length_le (by simp)
  have t1 : (s.drop 1).take (s.length - 1) = s.drop 1 := List.take_of_length_le (by simp)
  have t0 : (s.drop 0).take (2 - 0) = s.take 2 := rfl
  have small : ∀ hN : entN s = -1, AV.str [] = .str (numO (entN s)) := fun hN => by rw [hN]; rfl
  have k35 : ((((s.getD 0 0).toNat : Nat) : Int) == 35) = (s.getD 0 0 == 35) := by
    rw [show (35 : Int) = ((35 : Nat) : Int) from rfl, u8_eq _ 35 (by decide), Bool.eq_iff_iff]; simp
  have hz : 0 < s.length → s[0]? = some (s.getD 0 0) := fun h => by
    rw [List.getElem?_eq_getElem h]; simp [List.getD_eq_getElem?_getD, h]
  by_cases l2 : 2 < s.length
  · have p2 : decide (2 < (s.length : Int)) = true := decide_eq_true (by omega)
    have p2' : decide (2 < s.length) = true := decide_eq_true (by omega)
    have p1 : decide (1 < (s.length : Int)) = true := decide_eq_true (by omega)
    have p1' : decide (1 < s.length) = true := decide_eq_true (by omega)
    have hz := hz (by omega)
    simp (disch := first | omega | (simp only [ln]; first | done | omega)) only [walkAll, walkL, walkK, wk, E, Nat.reduceEqDiff, Nat.reduceAdd, Nat.reduceSub, Nat.reduceLeDiff, Int.reduceLT, Int.reduceLE, Int.reduceAdd, Int.reduceSub, Int.reduceToNat, ↓reduceIte, p2]
    cases k2 : (s.take 2 == [35, 120])
    case true =>
      have hN : entN s = numR 16 6 (s.drop 2) := by unfold entN; rw [p2', k2]; rfl
      simp (disch := first | omega | (simp only [ln]; first | done | omega)) only [walkAll, walkL, walkK, wk, E, Nat.reduceEqDiff, Nat.reduceAdd, Nat.reduceSub, Nat.reduceLeDiff, Int.reduceLT, Int.reduceLE, Int.reduceAdd, Int.reduceSub, Int.reduceToNat, ↓reduceIte, p2, k2, t2]
      refine numeral_c 16 6 (.inr rfl) (by decide) _ ?_
      simp (disch := first | omega | (simp only [ln]; first | done | omega)) only [walkAll, walkL, walkK, wk, E, Nat.reduceEqDiff, Nat.reduceAdd, Nat.reduceSub, Nat.reduceLeDiff, Int.reduceLT, Int.reduceLE, Int.reduceAdd, Int.reduceSub, Int.reduceToNat, ↓reduceIte]
      cases g : decide (numR 16 6 (s.drop 2) < 0)
      case true =>
        simp (disch := first | omega | (simp only [ln]; first | done | omega)) only [walkAll, walkL, walkK, wk, E, Nat.reduceEqDiff, Nat.reduceAdd, Nat.reduceSub, Nat.reduceLeDiff, Int.reduceLT, Int.reduceLE, Int.reduceAdd, Int.reduceSub, Int.reduceToNat, ↓reduceIte, g]
        exact fin _ (by rw [hN]; unfold numO; rw [g]; rfl)
      simp (disch := first | omega | (simp only [ln]; first | done | omega)) only [walkAll, walkL, walkK, wk, E, Nat.reduceEqDiff, Nat.reduceAdd, Nat.reduceSub, Nat.reduceLeDiff, Int.reduceLT, Int.reduceLE, Int.reduceAdd, Int.reduceSub, Int.reduceToNat, ↓reduceIte, g]
      refine Char_c _ ?_
      cases g2 : charB (numR 16 6 (s.drop 2))
      case false =>
        simp (disch := first | omega | (simp only [ln]; first | done | omega)) only [walkAll, walkL, walkK, wk, E, Nat.reduceEqDiff, Nat.reduceAdd, Nat.reduceSub, Nat.reduceLeDiff, Int.reduceLT, Int.reduceLE, Int.reduceAdd, Int.reduceSub, Int.reduceToNat, ↓reduceIte, g2]
        exact fin _ (by rw [hN]; unfold numO; rw [g, g2]; rfl)
      simp (disch := first | omega | (simp only [ln]; first | done | omega)) only [walkAll, walkL, walkK, wk, E, Nat.reduceEqDiff, Nat.reduceAdd, Nat.reduceSub, Nat.reduceLeDiff, Int.reduceLT, Int.reduceLE, Int.reduceAdd, Int.reduceSub, Int.reduceToNat, ↓reduceIte, g2]
      refine utfv_c _ (by rw [g, g2]; rfl) ?_
      simp (disch := first | omega | (simp only [ln]; first | done | omega)) only [walkAll, walkL, walkK, wk, E, Nat.reduceEqDiff, Nat.reduceAdd, Nat.reduceSub, Nat.reduceLeDiff, Int.reduceLT, Int.reduceLE, Int.reduceAdd, Int.reduceSub, Int.reduceToNat, ↓reduceIte]
      exact fin _ (by rw [hN])
    have hN0 : entN s = if s.getD 0 0 == 35 then numR 10 7 (s.drop 1) else -1 := by unfold entN; rw [p2', k2, p1']; simp
    simp (disch := first | omega | (simp only [ln]; first | done | omega)) only [walkAll, walkL, walkK, wk, E, Nat.reduceEqDiff, Nat.reduceAdd, Nat.reduceSub, Nat.reduceLeDiff, Int.reduceLT, Int.reduceLE, Int.reduceAdd, Int.reduceSub, Int.reduceToNat, ↓reduceIte, p2, k2, p1, hz]
    cases k1 : ((((s.getD 0 0).toNat : Nat) : Int) == 35)
    case true =>
      have k1' : (s.getD 0 0 == 35) = true := by rw [← k35]; exact k1
      have hN : entN s = numR 10 7 (s.drop 1) := by rw [hN0, k1']; rfl
      simp (disch := first | omega | (simp only [ln]; first | done | omega)) only [walkAll, walkL, walkK, wk, E, Nat.reduceEqDiff, Nat.reduceAdd, Nat.reduceSub, Nat.reduceLeDiff, Int.reduceLT, Int.reduceLE, Int.reduceAdd, Int.reduceSub, Int.reduceToNat, ↓reduceIte, p2, k2, p1, hz, k1, t1]
      refine numeral_c 10 7 (.inl rfl) (by decide) _ ?_
      simp (disch := first | omega | (simp only [ln]; first | done | omega)) only [walkAll, walkL, walkK, wk, E, Nat.reduceEqDiff, Nat.reduceAdd, Nat.reduceSub, Nat.reduceLeDiff, Int.reduceLT, Int.reduceLE, Int.reduceAdd, Int.reduceSub, Int.reduceToNat, ↓reduceIte]
      cases g : decide (numR 10 7 (s.drop 1) < 0)
      case true =>
        simp (disch := first | omega | (simp only [ln]; first | done | omega)) only [walkAll, walkL, walkK, wk, E, Nat.reduceEqDiff, Nat.reduceAdd, Nat.reduceSub, Nat.reduceLeDiff, Int.reduceLT, Int.reduceLE, Int.reduceAdd, Int.reduceSub, Int.reduceToNat, ↓reduceIte, g]
        exact fin _ (by rw [hN]; unfold numO; rw [g]; rfl)
      simp (disch := first | omega | (simp only [ln]; first | done | omega)) only [walkAll, walkL, walkK, wk, E, Nat.reduceEqDiff, Nat.reduceAdd, Nat.reduceSub, Nat.reduceLeDiff, Int.reduceLT, Int.reduceLE, Int.reduceAdd, Int.reduceSub, Int.reduceToNat, ↓reduceIte, g]
      refine Char_c _ ?_
      cases g2 : charB (numR 10 7 (s.drop 1))
      case false =>
        simp (disch := first | omega | (simp only [ln]; first | done | omega)) only [walkAll, walkL, walkK, wk, E, Nat.reduceEqDiff, Nat.reduceAdd, Nat.reduceSub, Nat.reduceLeDiff, Int.reduceLT, Int.reduceLE, Int.reduceAdd, Int.reduceSub, Int.reduceToNat, ↓reduceIte, g2]
        exact fin _ (by rw [hN]; unfold numO; rw [g, g2]; rfl)
      simp (disch := first | omega | (simp only [ln]; first | done | omega)) only [walkAll, walkL, walkK, wk, E, Nat.reduceEqDiff, Nat.reduceAdd, Nat.reduceSub, Nat.reduceLeDiff, Int.reduceLT, Int.reduceLE, Int.reduceAdd, Int.reduceSub, Int.reduceToNat, ↓reduceIte, g2]
      refine utfv_c _ (by rw [g, g2]; rfl) ?_
      simp (disch := first | omega | (simp only [ln]; first | done | omega)) only [walkAll, walkL, walkK, wk, E, Nat.reduceEqDiff, Nat.reduceAdd, Nat.reduceSub, Nat.reduceLeDiff, Int.reduceLT, Int.reduceLE, Int.reduceAdd, Int.reduceSub, Int.reduceToNat, ↓reduceIte]
      exact fin _ (by rw [hN])
    have k1' : (s.getD 0 0 == 35) = false := by rw [← k35]; exact k1
    simp (disch := first | omega | (simp only [ln]; first | done | omega)) only [walkAll, walkL, walkK, wk, E, Nat.reduceEqDiff, Nat.reduceAdd, Nat.reduceSub, Nat.reduceLeDiff, Int.reduceLT, Int.reduceLE, Int.reduceAdd, Int.reduceSub, Int.reduceToNat, ↓reduceIte, p2, k2, p1, hz, k1]
    exact fin _ (small (by rw [hN0, k1']; rfl))
  · have p2 : decide (2 < (s.length : Int)) = false := decide_eq_false (by omega)
    have p2' : decide (2 < s.length) = false := decide_eq_false (by omega)
    simp (disch := first | omega | (simp only [ln]; first | done | omega)) only [walkAll, walkL, walkK, wk, E, Nat.reduceEqDiff, Nat.reduceAdd, Nat.reduceSub, Nat.reduceLeDiff, Int.reduceLT, Int.reduceLE, Int.reduceAdd, Int.reduceSub, Int.reduceToNat, ↓reduceIte, p2]
    by_cases l1 : 1 < s.length
    case neg =>
      have p1 : decide (1 < (s.length : Int)) = false := decide_eq_false (by omega)
      have p1' : decide (1 < s.length) = false := decide_eq_false (by omega)
      simp (disch := first | omega | (simp only [ln]; first | done | omega)) only [walkAll, walkL, walkK, wk, E, Nat.reduceEqDiff, Nat.reduceAdd, Nat.reduceSub, Nat.reduceLeDiff, Int.reduceLT, Int.reduceLE, Int.reduceAdd, Int.reduceSub, Int.reduceToNat, ↓reduceIte, p2, p1]
      exact fin _ (small (by unfold entN; rw [p2', p1']; rfl))
    have p1 : decide (1 < (s.length : Int)) = true := decide_eq_true (by omega)
    have p1' : decide (1 < s.length) = true := decide_eq_true (by omega)
    have hz := hz (by omega)
    have hN0 : entN s = if s.getD 0 0 == 35 then numR 10 7 (s.drop 1) else -1 := by unfold entN; rw [p2', p1']; simp
    simp (disch := first | omega | (simp only [ln]; first | done | omega)) only [walkAll, walkL, walkK, wk, E, Nat.reduceEqDiff, Nat.reduceAdd, Nat.reduceSub, Nat.reduceLeDiff, Int.reduceLT, Int.reduceLE, Int.reduceAdd, Int.reduceSub, Int.reduceToNat, ↓reduceIte, p2, p1, hz]
    cases k1 : ((((s.getD 0 0).toNat : Nat) : Int) == 35)
    case true =>
      have k1' : (s.getD 0 0 == 35) = true := by rw [← k35]; exact k1
      have hN : entN s = numR 10 7 (s.drop 1) := by rw [hN0, k1']; rfl
      simp (disch := first | omega | (simp only [ln]; first | done | omega)) only [walkAll, walkL, walkK, wk, E, Nat.reduceEqDiff, Nat.reduceAdd, Nat.reduceSub, Nat.reduceLeDiff, Int.reduceLT, Int.reduceLE, Int.reduceAdd, Int.reduceSub, Int.reduceToNat, ↓reduceIte, p2, p1, hz, k1, t1]
      refine numeral_c 10 7 (.inl rfl) (by decide) _ ?_
      simp (disch := first | omega | (simp only [ln]; first | done | omega)) only [walkAll, walkL, walkK, wk, E, Nat.reduceEqDiff, Nat.reduceAdd, Nat.reduceSub, Nat.reduceLeDiff, Int.reduceLT, Int.reduceLE, Int.reduceAdd, Int.reduceSub, Int.reduceToNat, ↓reduceIte]
      cases g : decide (numR 10 7 (s.drop 1) < 0)
      case true =>
        simp (disch := first | omega | (simp only [ln]; first | done | omega)) only [walkAll, walkL, walkK, wk, E, Nat.reduceEqDiff, Nat.reduceAdd, Nat.reduceSub, Nat.reduceLeDiff, Int.reduceLT, Int.reduceLE, Int.reduceAdd, Int.reduceSub, Int.reduceToNat, ↓reduceIte, g]
        exact fin _ (by rw [hN]; unfold numO; rw [g]; rfl)
      simp (disch := first | omega | (simp only [ln]; first | done | omega)) only [walkAll, walkL, walkK, wk, E, Nat.reduceEqDiff, Nat.reduceAdd, Nat.reduceSub, Nat.reduceLeDiff, Int.reduceLT, Int.reduceLE, Int.reduceAdd, Int.reduceSub, Int.reduceToNat, ↓reduceIte, g]
      refine Char_c _ ?_
      cases g2 : charB (numR 10 7 (s.drop 1))
      case false =>
        simp (disch := first | omega | (simp only [ln]; first | done | omega)) only [walkAll, walkL, walkK, wk, E, Nat.reduceEqDiff, Nat.reduceAdd, Nat.reduceSub, Nat.reduceLeDiff, Int.reduceLT, Int.reduceLE, Int.reduceAdd, Int.reduceSub, Int.reduceToNat, ↓reduceIte, g2]
        exact fin _ (by rw [hN]; unfold numO; rw [g, g2]; rfl)
      simp (disch := first | omega | (simp only [ln]; first | done | omega)) only [walkAll, walkL, walkK, wk, E, Nat.reduceEqDiff, Nat.reduceAdd, Nat.reduceSub, Nat.reduceLeDiff, Int.reduceLT, Int.reduceLE, Int.reduceAdd, Int.reduceSub, Int.reduceToNat, ↓reduceIte, g2]
      refine utfv_c _ (by rw [g, g2]; rfl) ?_
      simp (disch := first | omega | (simp only [ln]; first | done | omega)) only [walkAll, walkL, walkK, wk, E, Nat.reduceEqDiff, Nat.reduceAdd, Nat.reduceSub, Nat.reduceLeDiff, Int.reduceLT, Int.reduceLE, Int.reduceAdd, Int.reduceSub, Int.reduceToNat, ↓reduceIte]
      exact fin _ (by rw [hN])
    have k1' : (s.getD 0 0 == 35) = false := by rw [← k35]; exact k1
    simp (disch := first | omega | (simp only [ln]; first | done | omega)) only [walkAll, walkL, walkK, wk, E, Nat.reduceEqDiff, Nat.reduceAdd, Nat.reduceSub, Nat.reduceLeDiff, Int.reduceLT, Int.reduceLE, Int.reduceAdd, Int.reduceSub, Int.reduceToNat, ↓reduceIte, p2, p1, hz, k1]
    exact fin _ (small (by rw [hN0, k1']; rfl))
end
end Go.Ab.Sz
namespace Go.Ab.Sz
open Go Go.Ab Go.Proofs Go.RowKit
set_option maxRecDepth 40000
set_option linter.unusedSimpArgs false
theorem tens_key (c : UInt8) : tens.contains c = decide (dR c < 10) ∧ (tens.contains c = true → dR c = dgt c) := by
  have := all_u8 (p := fun c => tens.contains c == decide (dR c < 10) && (!tens.contains c || dR c == dgt c)) (by decide +kernel) c
  simp only [Bool.and_eq_true, beq_iff_eq, Bool.or_eq_true, Bool.not_eq_true'] at this
  exact ⟨this.1, fun h => by rcases this.2 with h' | h'; · rw [h] at h'; cases h'
                             · exact h'⟩
theorem hexes_key (c : UInt8) : hexes.contains c = decide (dR c < 16) ∧ (hexes.contains c = true → dR c = dgt c) := by
  have := all_u8 (p := fun c => hexes.contains c == decide (dR c < 16) && (!hexes.contains c || dR c == dgt c)) (by decide +kernel) c
  simp only [Bool.and_eq_true, beq_iff_eq, Bool.or_eq_true, Bool.not_eq_true'] at this
  exact ⟨this.1, fun h => by rcases this.2 with h' | h'; · rw [h] at h'; cases h'
                             · exact h'⟩
theorem numL_val (set : List UInt8) (B : Nat) (hk : ∀ c, set.contains c = decide (dR c < B) ∧ (set.contains c = true → dR c = dgt c)) :
    ∀ (s : List UInt8) (v : Nat), numL B s v = if s.all set.contains then some (s.foldl (fun a x => a * B + dgt x) v) else none
  | [], v => rfl
  | c :: s, v => by
    simp only [numL, List.all_cons, List.foldl_cons]
    by_cases q : set.contains c = true
    · have h1 : dR c < B := by have := (hk c).1; rw [q] at this; exact of_decide_eq_true this.symm
      rw [if_neg (by omega), numL_val set B hk s, (hk c).2 q]
      simp only [q, Bool.true_and]
    · have q' : set.contains c = false := by simpa using q
      have h1 : ¬ dR c < B := by have := (hk c).1; rw [q'] at this; exact of_decide_eq_false this.symm
      rw [if_pos (by omega)]
      simp only [q', Bool.false_and, Bool.false_eq_true, if_false]
theorem numR_bad {B most : Nat} {s : List UInt8} (h : s.length < 1 ∨ most < s.length) : numR B most s = -1 := if_pos h
theorem numO_neg : numO (-1) = [] := rfl
theorem num_eq (set : List UInt8) (B most : Nat) (hk : ∀ c, set.contains c = decide (dR c < B) ∧ (set.contains c = true → dR c = dgt c)) (s : List UInt8) : numO (numR B most s) = numberS set most B s := by
  by_cases h0 : s = []
  · rw [numR_bad (.inl (by rw [h0]; decide)), numO_neg]; unfold numberS; rw [if_pos (by rw [h0]; rfl)]
  have hl : ¬ s.length < 1 := by have := List.length_pos_iff.2 h0; omega
  by_cases h1 : most < s.length
  · rw [numR_bad (.inr h1), numO_neg]
    unfold numberS
    rw [if_pos (by rw [decide_eq_true h1]; simp)]
  rw [show numR B most s = match numL B s 0 with
    | some v => (v : Int)
    | none => -1 by (unfold numR; rw [if_neg (by omega)]; try rfl)]
  rw [numL_val set B hk]
  cases q : s.all set.contains with
  | true =>
    rw [number_val set most B s h0 (by omega) (fun c hc => by
      have := List.all_eq_true.1 q c hc
      simpa using this)]
    show numO (digitsV B s : Nat) = _
    unfold numO
    rw [decide_eq_false (by omega), Bool.false_or]
    cases charB (digitsV B s : Nat) <;> rfl
  | false =>
    show numO (-1) = _
    rw [numO_neg]
    unfold numberS
    rw [if_pos]
    · have : (cutR set (s.dropWhile set.contains) == []) = false := by
        rw [beq_eq_false_iff_ne]
        intro h
        have := all_of_cut h
        have : s.all set.contains = true := List.all_eq_true.2 fun x hx => List.contains_iff_mem.2 (this x hx)
        rw [this] at q; cases q
      rw [this]; simp
theorem beq_sym (a b : List UInt8) : (a == b) = (b == a) := by rw [Bool.eq_iff_iff, beq_iff_eq, beq_iff_eq]; exact ⟨Eq.symm, Eq.symm⟩
theorem ent_num (s : List UInt8) : numO (entN s) = if Lib.hasPrefix s [35, 120] then numberS hexes 6 16 (Lib.trimPrefix s [35, 120]) else if Lib.hasPrefix s [35] then numberS tens 7 10 (Lib.trimPrefix s [35]) else [] := by
  match s with
  | [] => rfl
  | [a] =>
    simp only [pre_cons, nil_pre, Bool.and_false, Bool.false_eq_true, if_false, pre_nil, Bool.and_true]
    by_cases ha : a = 35
    · subst ha; decide +kernel
    · have : ((35 : UInt8) == a) = false := by rw [beq_eq_false_iff_ne]; exact fun h => ha h.symm
      rw [this]; rfl
  | [a, b] =>
    simp only [pre_cons, nil_pre, pre_nil, Bool.and_true]
    by_cases ha : a = 35
    · subst ha
      by_cases hb : b = 120
      · subst hb; decide +kernel
      · have : ((35 : UInt8) == 35 && (120 : UInt8) == b) = false := by rw [show ((120 : UInt8) == b) = false by rw [beq_eq_false_iff_ne]; exact fun h => hb h.symm]; rfl
        rw [this]
        simp only [Bool.false_eq_true, if_false, beq_self_eq_true, if_true]
        rw [show entN [35, b] = numR 10 7 [b] from rfl, num_eq tens 10 7 tens_key]
        rfl
    · have : ((35 : UInt8) == a) = false := by rw [beq_eq_false_iff_ne]; exact fun h => ha h.symm
      rw [this]
      simp only [Bool.false_and, Bool.false_eq_true, if_false]
      rw [show entN [a, b] = -1 by unfold entN; simp [ha]]
      rfl
  | a :: b :: c :: r =>
    simp only [pre_cons, pre_nil, Bool.and_true]
    have hl : decide (2 < (a :: b :: c :: r).length) = true := by simp
    have hl' : decide (1 < (a :: b :: c :: r).length) = true := by simp
    by_cases ha : a = 35
    · subst ha
      by_cases hb : b = 120
      · subst hb
        rw [show entN (35 :: 120 :: c :: r) = numR 16 6 (c :: r) by unfold entN; rw [hl]; rfl, num_eq hexes 16 6 hexes_key]
        rw [show ((35 : UInt8) == 35 && (120 : UInt8) == 120) = true from rfl, show Lib.trimPrefix (35 :: 120 :: c :: r) [35, 120] = c :: r from trim_self [35, 120] (c :: r)]
        simp only [if_true]
      · have : ((35 : UInt8) == 35 && (120 : UInt8) == b) = false := by rw [show ((120 : UInt8) == b) = false by rw [beq_eq_false_iff_ne]; exact fun h => hb h.symm]; rfl
        rw [this]
        simp only [Bool.false_eq_true, if_false, beq_self_eq_true, if_true]
        rw [show entN (35 :: b :: c :: r) = numR 10 7 (b :: c :: r) by unfold entN; rw [hl, hl']; simp [hb], num_eq tens 10 7 tens_key, show Lib.trimPrefix (35 :: b :: c :: r) [35] = b :: c :: r from trim_self [35] (b :: c :: r)]
    · have : ((35 : UInt8) == a) = false := by rw [beq_eq_false_iff_ne]; exact fun h => ha h.symm
      rw [this]
      simp only [Bool.false_and, Bool.false_eq_true, if_false]
      rw [show entN (a :: b :: c :: r) = -1 by unfold entN; simp [ha]]
      rfl
theorem entS_eq (s : List UInt8) : entS s = signS s := by
  unfold entS signS
  rw [ent_num]
  simp only [beq_sym s]
/- The value, sign by sign. -/
theorem valueS_nil (n : Nat) (out : List UInt8) : valueS (n + 1) [] out = (out, true) := by
  rw [valueS, cut_none (by simp)]; simp
theorem valueS_cons {c : UInt8} (h : c ≠ 38) (n : Nat) (r out : List UInt8) : valueS (n + 1) (c :: r) out = valueS (n + 1) r (out ++ [c]) := by
  by_cases hm : (38 : UInt8) ∈ r
  · obtain ⟨a, t, rfl, ha⟩ := split_mem hm
    have ha' : (38 : UInt8) ∉ c :: a := by simp [ha, show ¬ (38 : UInt8) = c from fun h' => h h'.symm]
    rw [valueS, valueS, cut_at t ha, show c :: (a ++ 38 :: t) = (c :: a) ++ 38 :: t from rfl, cut_at t ha']
    simp only [List.append_assoc, List.cons_append, List.nil_append]
  · have ha' : (38 : UInt8) ∉ c :: r := by simp [hm, show ¬ (38 : UInt8) = c from fun h' => h h'.symm]
    rw [valueS, valueS, cut_none hm, cut_none ha']
    simp
theorem valueS_none (n : Nat) {r : List UInt8} (h : (59 : UInt8) ∉ r) (out : List UInt8) : valueS (n + 1) (38 :: r) out = ([], false) := by
  rw [valueS, cut_cons, cut_none h]; rfl
theorem valueS_some (n : Nat) {a : List UInt8} (t : List UInt8) (h : (59 : UInt8) ∉ a) (out : List UInt8) : valueS (n + 1) (38 :: (a ++ 59 :: t)) out = if signS a == [] then ([], false) else valueS n t (out ++ signS a) := by
  rw [valueS, cut_cons, cut_at t h]; simp
end Go.Ab.Sz
namespace Go.Ab.Sz
open Go Go.Ab Go.Proofs Go.RowKit
set_option maxRecDepth 40000
set_option linter.unusedSimpArgs false
theorem valueS_fuel : ∀ (k : Nat) (s : List UInt8), s.length ≤ k → ∀ (n m : Nat) (out : List UInt8), s.length < n → s.length < m → valueS n s out = valueS m s out
  | _, [], _, n + 1, m + 1, out, _, _ => by rw [valueS_nil, valueS_nil]
  | 0, _ :: _, h, _, _, _, _, _ => by simp at h
  | k + 1, c :: r, h, n + 1, m + 1, out, hn, hm => by
    simp only [List.length_cons] at h hn hm
    by_cases hc : c = 38
    · subst hc
      by_cases h59 : (59 : UInt8) ∈ r
      · obtain ⟨a, t, rfl, ha⟩ := split_mem h59
        simp only [List.length_append, List.length_cons] at h hn hm
        rw [valueS_some n t ha, valueS_some m t ha, valueS_fuel k t (by omega) n m _ (by omega) (by omega)]
      · rw [valueS_none n h59, valueS_none m h59]
    · rw [valueS_cons hc, valueS_cons hc]
      exact valueS_fuel k r (by omega) _ _ _ (by omega) (by omega)
theorem takeWhile_at {p : UInt8 → Bool} {a t : List UInt8} {c : UInt8} (h : ∀ x ∈ a, p x = true) (hc : p c = false) : (a ++ c :: t).takeWhile p = a := by
  induction a with
  | nil => simp [hc]
  | cons b a ih =>
    have hb := h b (by simp)
    have := ih fun x hx => h x (by simp [hx])
    simp only [List.cons_append, List.takeWhile_cons, hb, if_true, this]
theorem takeWhile_all {p : UInt8 → Bool} {a : List UInt8} (h : ∀ x ∈ a, p x = true) : a.takeWhile p = a := by
  induction a with
  | nil => rfl
  | cons b a ih =>
    have hb := h b (by simp)
    have := ih fun x hx => h x (by simp [hx])
    simp only [List.takeWhile_cons, hb, if_true, this]
section
variable {m : Int} {σ : St} {K : AV → St → Prop}
theorem vscan (s : List UInt8) (hs : s.length < 1000000000000) {Q : EQ} : ∀ (rest : List UInt8) (i : Nat) (e : Env), s.drop i = rest → i ≤ s.length → e 0 = some (.str s) → e 6 = some (.int .i64 i) →
    (∀ e', e' 0 = e 0 → e' 4 = e 4 → e' 5 = e 5 → e' 6 = some (.int .i64 (i + (rest.takeWhile (· != 59)).length : Nat)) → Q (.exit 2) e' σ) → LoopC Tryz.prog tt (gD m) l57_0 Q e σ := by
  intro rest
  induction rest with
  | nil =>
    intro i e hd hle h0 h6 hx
    have hi : s.length ≤ i := by simpa using hd
    have hb : decide ((i : Int) < (s.length : Int)) = false := by simp; omega
    refine LoopC_unfold tok fm ?_
    simp (disch := first | omega | (simp only [ln]; first | done | omega)) only [walkAll, walkL, walkK, wk, E, Nat.reduceEqDiff, Nat.reduceAdd, Nat.reduceSub, Nat.reduceLeDiff, Int.reduceLT, Int.reduceLE, Int.reduceAdd, Int.reduceSub, Int.reduceToNat, ↓reduceIte, l57_0x, l57_0b, h0, h6, hb]
    exact hx _ (by simp [put]) (by simp [put]) (by simp [put]) (by simp [put, h6])
  | cons c rest ih =>
    intro i e hd hle h0 h6 hx
    obtain ⟨hc, hd'⟩ := drop_cons hd
    have hi := (List.getElem?_eq_some_iff.1 hc).1
    have hb : decide ((i : Int) < (s.length : Int)) = true := by simp; omega
    have k59 : (((c.toNat : Nat) : Int) == 59) = decide (c = 59) := u8_eq c 59 (by decide)
    refine LoopC_unfold tok fm ?_
    simp (disch := first | omega | (simp only [ln]; first | done | omega)) only [walkAll, walkL, walkK, wk, E, Nat.reduceEqDiff, Nat.reduceAdd, Nat.reduceSub, Nat.reduceLeDiff, Int.reduceLT, Int.reduceLE, Int.reduceAdd, Int.reduceSub, Int.reduceToNat, ↓reduceIte, l57_0x, l57_0b, h0, h6, hb, hc, Int.toNat_natCast]
    cases q : (((c.toNat : Nat) : Int) == 59) with
    | true =>
      have hc9 : c = 59 := by rw [k59] at q; exact of_decide_eq_true q
      simp (disch := first | omega | (simp only [ln]; first | done | omega)) only [walkAll, walkL, walkK, wk, E, Nat.reduceEqDiff, Nat.reduceAdd, Nat.reduceSub, Nat.reduceLeDiff, Int.reduceLT, Int.reduceLE, Int.reduceAdd, Int.reduceSub, Int.reduceToNat, ↓reduceIte, h0, h6, bne, q, Bool.not_true]
      exact hx _ (by simp [put]) (by simp [put]) (by simp [put]) (by simp [put, h6, hc9])
    | false =>
      have hc9 : c ≠ 59 := by rw [k59] at q; exact of_decide_eq_false q
      simp (disch := first | omega | (simp only [ln]; first | done | omega)) only [walkAll, walkL, walkK, wk, E, Nat.reduceEqDiff, Nat.reduceAdd, Nat.reduceSub, Nat.reduceLeDiff, Int.reduceLT, Int.reduceLE, Int.reduceAdd, Int.reduceSub, Int.reduceToNat, ↓reduceIte, h0, h6, bne, q, Bool.not_false]
      have e1 : (c :: rest).takeWhile (· != 59) = c :: rest.takeWhile (· != 59) := by rw [List.takeWhile_cons]; simp [hc9]
      rw [e1] at hx
      refine ih (i + 1) _ hd' (by omega) (by simp [put, h0]) (by simp [put]) (fun e' k0 k4 k5 k6 => hx e' (by rw [k0]; simp [put]) (by rw [k4]; simp [put]) (by rw [k5]; simp [put]) ?_)
      rw [k6, List.length_cons]
      congr 3; omega
theorem value_round (s : List UInt8) (hs : s.length < 1000000000) {Q : EQ} : ∀ (k : Nat) (rest out : List UInt8) (i : Nat) (e : Env), rest.length ≤ k → s.drop i = rest → out.length + 4 * rest.length ≤ 4 * s.length → e 0 = some (.str s) → e 4 = some (.str out) → e 5 = some (.int .i64 i) →
    (∀ x, valueS (rest.length + 1) rest out = (x, true) → ∀ e', e' 4 = some (.str x) → Q (.exit 0) e' σ) →
    (valueS (rest.length + 1) rest out = ([], false) → ∀ e', e' 2 = some (.str []) → e' 3 = some (.bool false) → Q .ret e' σ) → LoopC Tryz.prog tt (gD m) l57_1 Q e σ := by
  intro k
  induction k with
  | zero =>
    intro rest out i e hk hd hl h0 h4 h5 hx hr
    have hnil : rest = [] := List.eq_nil_of_length_eq_zero (by omega)
    subst hnil
    have hi : s.length ≤ i := by simpa using hd
    have hb : decide ((i : Int) < (s.length : Int)) = false := by simp; omega
    refine LoopC_unfold tok fm ?_
    simp (disch := first | omega | (simp only [ln]; first | done | omega)) only [walkAll, walkL, walkK, wk, E, Nat.reduceEqDiff, Nat.reduceAdd, Nat.reduceSub, Nat.reduceLeDiff, Int.reduceLT, Int.reduceLE, Int.reduceAdd, Int.reduceSub, Int.reduceToNat, ↓reduceIte, l57_1x, l57_1b, h0, h4, h5, hb]
    exact hx out (valueS_nil _ _) _ (by simp [put, h4])
  | succ k ih =>
    intro rest out i e hk hd hl h0 h4 h5 hx hr
    cases rest with
    | nil =>
      have hi : s.length ≤ i := by simpa using hd
      have hb : decide ((i : Int) < (s.length : Int)) = false := by simp; omega
      refine LoopC_unfold tok fm ?_
      simp (disch := first | omega | (simp only [ln]; first | done | omega)) only [walkAll, walkL, walkK, wk, E, Nat.reduceEqDiff, Nat.reduceAdd, Nat.reduceSub, Nat.reduceLeDiff, Int.reduceLT, Int.reduceLE, Int.reduceAdd, Int.reduceSub, Int.reduceToNat, ↓reduceIte, l57_1x, l57_1b, h0, h4, h5, hb]
      exact hx out (valueS_nil _ _) _ (by simp [put, h4])
    | cons c r =>
      obtain ⟨hc, hd'⟩ := drop_cons hd
      have hi := (List.getElem?_eq_some_iff.1 hc).1
      have hb : decide ((i : Int) < (s.length : Int)) = true := by simp; omega
      have k38 : (((c.toNat : Nat) : Int) == 38) = decide (c = 38) := u8_eq c 38 (by decide)
      have t1 : ((i : Int) + 1).toNat = i + 1 := by omega
      have t2 : i + 1 - i = 1 := by omega
      have t3 : (s.drop i).take 1 = [c] := by rw [hd]; rfl
      simp only [List.length_cons] at hk hl
      have hlr : r.length + (i + 1) = s.length := by have := congrArg List.length hd'; simp at this; omega
      refine LoopC_unfold tok fm ?_
      simp (disch := first | omega | (simp only [ln]; first | done | omega)) only [walkAll, walkL, walkK, wk, E, Nat.reduceEqDiff, Nat.reduceAdd, Nat.reduceSub, Nat.reduceLeDiff, Int.reduceLT, Int.reduceLE, Int.reduceAdd, Int.reduceSub, Int.reduceToNat, ↓reduceIte, l57_1x, l57_1b, h0, h4, h5, hb, hc, Int.toNat_natCast]
      cases q : (((c.toNat : Nat) : Int) == 38) with
      | false =>
        have hc8 : c ≠ 38 := by rw [k38] at q; exact of_decide_eq_false q
        simp (disch := first | omega | (simp only [ln]; first | done | omega)) only [walkAll, walkL, walkK, wk, E, Nat.reduceEqDiff, Nat.reduceAdd, Nat.reduceSub, Nat.reduceLeDiff, Int.reduceLT, Int.reduceLE, Int.reduceAdd, Int.reduceSub, Int.reduceToNat, ↓reduceIte, h0, h4, h5, bne, q, Bool.not_false, t1, t2, t3]
        rw [List.length_cons, valueS_cons hc8, valueS_fuel (r.length + 1) r (by omega) (r.length + 1 + 1) (r.length + 1) _ (by omega) (by omega)] at hx hr
        exact ih r (out ++ [c]) (i + 1) _ (by omega) hd' (by simp; omega) (by simp [put, h0]) (by simp [put]) (by simp [put]) hx hr
      | true =>
        have hc8 : c = 38 := by rw [k38] at q; exact of_decide_eq_true q
        subst hc8
        simp (disch := first | omega | (simp only [ln]; first | done | omega)) only [walkAll, walkL, walkK, wk, E, Nat.reduceEqDiff, Nat.reduceAdd, Nat.reduceSub, Nat.reduceLeDiff, Int.reduceLT, Int.reduceLE, Int.reduceAdd, Int.reduceSub, Int.reduceToNat, ↓reduceIte, h0, h4, h5, bne, q, Bool.not_true]
        refine vscan s (by omega) (38 :: r) i _ hd (by omega) (by simp [put, h0]) (by simp [put]) (fun e' k0 k4 k5 k6 => ?_)
        have k0 : e' 0 = some (.str s) := by rw [k0]; simp [put, h0]
        have k4 : e' 4 = some (.str out) := by rw [k4]; simp [put, h4]
        have k5 : e' 5 = some (.int .i64 i) := by rw [k5]; simp [put, h5]
        by_cases h59 : (59 : UInt8) ∈ r
        · obtain ⟨a, t, rfl, ha⟩ := split_mem h59
          have hne : ∀ x ∈ a, (x != 59) = true := fun x hx => by simp; exact fun h => ha (h ▸ hx)
          have tw : ((38 : UInt8) :: (a ++ 59 :: t)).takeWhile (· != 59) = 38 :: a := by
            rw [List.takeWhile_cons, takeWhile_at hne (by simp)]; rfl
          rw [tw] at k6
          simp only [List.length_append, List.length_cons] at hlr hl hk k6
          have q2 : (((i + (a.length + 1) : Nat) : Int) == (s.length : Int)) = false := by rw [beq_eq_false_iff_ne]; omega
          have t4 : ((i + (a.length + 1) : Nat) : Int).toNat = i + (a.length + 1) := by omega
          have t5 : i + (a.length + 1) - (i + 1) = a.length := by omega
          have t6 : (s.drop (i + 1)).take a.length = a := by rw [hd']; simp
          simp (disch := first | omega | (simp only [ln]; first | done | omega)) only [walkAll, walkL, walkK, wk, E, Nat.reduceEqDiff, Nat.reduceAdd, Nat.reduceSub, Nat.reduceLeDiff, Int.reduceLT, Int.reduceLE, Int.reduceAdd, Int.reduceSub, Int.reduceToNat, ↓reduceIte, k0, k4, k5, k6, q2, t1, t4, t5, t6]
          refine entity_c a ?_
          rw [entS_eq]
          have sl := signS_len a
          have es := valueS_some ((38 :: (a ++ 59 :: t)).length) t ha out
          have ed : s.drop (i + (a.length + 1) + 1) = t := by
            rw [show i + (a.length + 1) + 1 = (i + 1) + (a.length + 1) by omega, ← List.drop_drop, hd']; simp
          simp (disch := first | omega | (simp only [ln]; first | done | omega)) only [walkAll, walkL, walkK, wk, E, Nat.reduceEqDiff, Nat.reduceAdd, Nat.reduceSub, Nat.reduceLeDiff, Int.reduceLT, Int.reduceLE, Int.reduceAdd, Int.reduceSub, Int.reduceToNat, ↓reduceIte, k0, k4, k5, k6]
          cases q3 : (signS a == []) with
          | true =>
            simp (disch := first | omega | (simp only [ln]; first | done | omega)) only [walkAll, walkL, walkK, wk, E, Nat.reduceEqDiff, Nat.reduceAdd, Nat.reduceSub, Nat.reduceLeDiff, Int.reduceLT, Int.reduceLE, Int.reduceAdd, Int.reduceSub, Int.reduceToNat, ↓reduceIte, k0, k4, k5, k6, q3]
            rw [q3, if_pos rfl] at es
            exact hr es _ (by simp [put]) (by simp [put])
          | false =>
            simp (disch := first | omega | (simp only [ln]; first | done | omega)) only [walkAll, walkL, walkK, wk, E, Nat.reduceEqDiff, Nat.reduceAdd, Nat.reduceSub, Nat.reduceLeDiff, Int.reduceLT, Int.reduceLE, Int.reduceAdd, Int.reduceSub, Int.reduceToNat, ↓reduceIte, k0, k4, k5, k6, q3]
            rw [q3, if_neg (by decide), valueS_fuel t.length t (by omega) _ (t.length + 1) _ (by simp; omega) (by omega)] at es
            rw [es] at hx hr
            exact ih t (out ++ signS a) (i + (a.length + 1) + 1) _ (by omega) ed (by simp; omega) (by simp [put, k0]) (by simp [put]) (by simp [put]) hx hr
        · have tw : ((38 : UInt8) :: r).takeWhile (· != 59) = 38 :: r := by
            rw [List.takeWhile_cons, takeWhile_all (fun x hx => by simp; exact fun h => h59 (h ▸ hx))]; rfl
          rw [tw] at k6
          simp only [List.length_cons] at k6
          have q2 : (((i + (r.length + 1) : Nat) : Int) == (s.length : Int)) = true := by rw [beq_iff_eq]; omega
          simp (disch := first | omega | (simp only [ln]; first | done | omega)) only [walkAll, walkL, walkK, wk, E, Nat.reduceEqDiff, Nat.reduceAdd, Nat.reduceSub, Nat.reduceLeDiff, Int.reduceLT, Int.reduceLE, Int.reduceAdd, Int.reduceSub, Int.reduceToNat, ↓reduceIte, k0, k4, k5, k6, q2]
          exact hr (valueS_none _ h59 _) _ (by simp [put]) (by simp [put])
theorem rvalue_c (s : List UInt8) (hs : s.length < 1000000000) (h : K (.tup [.str (valS s).1, .bool (valS s).2]) σ) : ACalls Tryz.prog (gD m) 57 [.str s] σ K := by
  refine ACalls_fn tok fm (fk57 _) ?_
  simp (disch := first | omega | (simp only [ln]; first | done | omega)) only [walkAll, walkL, walkK, wk, E, Nat.reduceEqDiff, Nat.reduceAdd, Nat.reduceSub, Nat.reduceLeDiff, Int.reduceLT, Int.reduceLE, Int.reduceAdd, Int.reduceSub, Int.reduceToNat, ↓reduceIte, c57]
  refine value_round s hs s.length s [] 0 _ (Nat.le_refl _) rfl (by simp) (by simp [put, E]) (by simp [put]) (by simp [put]) (fun x hx e' h4 => ?_) (fun hx e' h2 h3 => ?_)
  · rw [show valS s = (x, true) from hx] at h
    simp (disch := first | omega | (simp only [ln]; first | done | omega)) only [walkAll, walkL, walkK, wk, E, Nat.reduceEqDiff, Nat.reduceAdd, Nat.reduceSub, Nat.reduceLeDiff, Int.reduceLT, Int.reduceLE, Int.reduceAdd, Int.reduceSub, Int.reduceToNat, ↓reduceIte, h4]
    exact h
  · rw [show valS s = ([], false) from hx] at h
    simp (disch := first | omega | (simp only [ln]; first | done | omega)) only [walkAll, walkL, walkK, wk, E, Nat.reduceEqDiff, Nat.reduceAdd, Nat.reduceSub, Nat.reduceLeDiff, Int.reduceLT, Int.reduceLE, Int.reduceAdd, Int.reduceSub, Int.reduceToNat, ↓reduceIte, h2, h3]
    exact h
end
end Go.Ab.Sz
namespace Go.Ab.Sz
open Go Go.Ab Go.Proofs Go.RowKit
set_option maxRecDepth 40000
set_option linter.unusedSimpArgs false
section
variable {m : Int} {σ : St} {K : AV → St → Prop}
/-- A file, and a place in it. -/
abbrev Wk (σ : St) (b : Nat) (ty : TypeId) (s : List UInt8) (a : Nat) : Prop := getV σ b = some (.cells ty [.str s, .int .i64 a])
theorem blanks_loop (b : Nat) (s : List UInt8) (ty : TypeId) (hs : s.length < 1000000000) (hb : b < nvs σ) {Q : EQ} : ∀ (rest : List UInt8) (i n : Nat) (τ : St) (e : Env), s.drop i = rest → i ≤ s.length → n ≤ i → τ = σ.setV b (.cells ty [.str s, .int .i64 i]) → e 0 = some (.vp b 0) → e 3 = some (.int .i64 n) →
    (∀ e', e' 3 = some (.int .i64 (n + (rest.takeWhile blanksL.contains).length : Nat)) → Q (.exit 0) e' (σ.setV b (.cells ty [.str s, .int .i64 (i + (rest.takeWhile blanksL.contains).length : Nat)]))) →
    LoopC Tryz.prog tt (gD m) l55_0 Q e τ := by
  intro rest
  induction rest with
  | nil =>
    intro i n τ e hd hle hni hτ h0 h3 hx
    have hv : getV τ b = some (.cells ty [.str s, .int .i64 i]) := by rw [hτ]; simp (disch := first | omega | (simp only [ln]; first | done | omega)) only [walkAll, walkL, walkK, wk, E, Nat.reduceEqDiff, Nat.reduceAdd, Nat.reduceSub, Nat.reduceLeDiff, Int.reduceLT, Int.reduceLE, Int.reduceAdd, Int.reduceSub, Int.reduceToNat, ↓reduceIte]
    have hi : s.length ≤ i := by simpa using hd
    have hbb : decide ((i : Int) < (s.length : Int)) = false := by simp; omega
    refine LoopC_unfold tok fm ?_
    simp (disch := first | omega | (simp only [ln]; first | done | omega)) only [walkAll, walkL, walkK, wk, E, Nat.reduceEqDiff, Nat.reduceAdd, Nat.reduceSub, Nat.reduceLeDiff, Int.reduceLT, Int.reduceLE, Int.reduceAdd, Int.reduceSub, Int.reduceToNat, ↓reduceIte, l55_0x, l55_0b, h0, h3, hv, hbb]
    rw [hτ]
    exact hx _ (by simp [put, h3])
  | cons c rest ih =>
    intro i n τ e hd hle hni hτ h0 h3 hx
    have hv : getV τ b = some (.cells ty [.str s, .int .i64 i]) := by rw [hτ]; simp (disch := first | omega | (simp only [ln]; first | done | omega)) only [walkAll, walkL, walkK, wk, E, Nat.reduceEqDiff, Nat.reduceAdd, Nat.reduceSub, Nat.reduceLeDiff, Int.reduceLT, Int.reduceLE, Int.reduceAdd, Int.reduceSub, Int.reduceToNat, ↓reduceIte]
    obtain ⟨hc, hd'⟩ := drop_cons hd
    have hi := (List.getElem?_eq_some_iff.1 hc).1
    have hbb : decide ((i : Int) < (s.length : Int)) = true := by simp; omega
    have hlt : b < nvs τ := by rw [hτ]; simpa only [nvsR] using hb
    refine LoopC_unfold tok fm ?_
    simp (disch := first | omega | (simp only [ln]; first | done | omega)) only [walkAll, walkL, walkK, wk, E, Nat.reduceEqDiff, Nat.reduceAdd, Nat.reduceSub, Nat.reduceLeDiff, Int.reduceLT, Int.reduceLE, Int.reduceAdd, Int.reduceSub, Int.reduceToNat, ↓reduceIte, l55_0x, l55_0b, h0, h3, hv, hbb, hc, Int.toNat_natCast]
    refine blank_c c ?_
    cases q : blanksL.contains c with
    | false =>
      simp (disch := first | omega | (simp only [ln]; first | done | omega)) only [walkAll, walkL, walkK, wk, E, Nat.reduceEqDiff, Nat.reduceAdd, Nat.reduceSub, Nat.reduceLeDiff, Int.reduceLT, Int.reduceLE, Int.reduceAdd, Int.reduceSub, Int.reduceToNat, ↓reduceIte, h0, h3, hv, hbb, hc, q, Int.toNat_natCast]
      rw [hτ]
      have e0 : (c :: rest).takeWhile blanksL.contains = [] := by rw [List.takeWhile_cons, q]; rfl
      rw [e0] at hx
      exact hx _ (by simp [put, h3])
    | true =>
      simp (disch := first | omega | (simp only [ln]; first | done | omega)) only [walkAll, walkL, walkK, wk, E, Nat.reduceEqDiff, Nat.reduceAdd, Nat.reduceSub, Nat.reduceLeDiff, Int.reduceLT, Int.reduceLE, Int.reduceAdd, Int.reduceSub, Int.reduceToNat, ↓reduceIte, h0, h3, hv, hbb, hc, q, Int.toNat_natCast]
      have e1 : (c :: rest).takeWhile blanksL.contains = c :: rest.takeWhile blanksL.contains := by rw [List.takeWhile_cons, q]; rfl
      rw [e1] at hx
      refine ih (i + 1) (n + 1) _ _ hd' (by omega) (by omega) ?_ (by simp [put, h0]) (by simp [put]) (fun e' k3 => ?_)
      · rw [hτ]; simp (disch := first | omega | (simp only [ln]; first | done | omega)) only [walkAll, walkL, walkK, wk, E, Nat.reduceEqDiff, Nat.reduceAdd, Nat.reduceSub, Nat.reduceLeDiff, Int.reduceLT, Int.reduceLE, Int.reduceAdd, Int.reduceSub, Int.reduceToNat, ↓reduceIte]; try rfl
      · have := hx e' (by rw [k3, List.length_cons]; congr 3; omega)
        rw [List.length_cons] at this
        rw [show i + 1 + (rest.takeWhile blanksL.contains).length = i + ((rest.takeWhile blanksL.contains).length + 1) by omega]
        exact this
theorem blanks_c (b : Nat) (s : List UInt8) (ty : TypeId) (a : Nat) (hv : Wk σ b ty s a) (ha : a ≤ s.length) (hs : s.length < 1000000000)
    (h : K (.int .i64 (((s.drop a).takeWhile blanksL.contains).length : Nat)) (σ.setV b (.cells ty [.str s, .int .i64 (a + ((s.drop a).takeWhile blanksL.contains).length : Nat)]))) : ACalls Tryz.prog (gD m) 55 [.vp b 0] σ K := by
  have hlt := getV_lt hv
  refine ACalls_fn tok fm (fk55 _) ?_
  simp (disch := first | omega | (simp only [ln]; first | done | omega)) only [walkAll, walkL, walkK, wk, E, Nat.reduceEqDiff, Nat.reduceAdd, Nat.reduceSub, Nat.reduceLeDiff, Int.reduceLT, Int.reduceLE, Int.reduceAdd, Int.reduceSub, Int.reduceToNat, ↓reduceIte, c55]
  refine blanks_loop b s ty hs hlt (s.drop a) a 0 σ _ rfl ha (by omega) (setV_same hv).symm (by simp [put, E]) (by simp [put]) (fun e' h3 => ?_)
  simp (disch := first | omega | (simp only [ln]; first | done | omega)) only [walkAll, walkL, walkK, wk, E, Nat.reduceEqDiff, Nat.reduceAdd, Nat.reduceSub, Nat.reduceLeDiff, Int.reduceLT, Int.reduceLE, Int.reduceAdd, Int.reduceSub, Int.reduceToNat, ↓reduceIte, h3]
  rw [Nat.zero_add]
  exact h
theorem is_c (b : Nat) (s p : List UInt8) (ty : TypeId) (a : Nat) (hv : Wk σ b ty s a) (ha : a ≤ s.length) (hs : s.length < 1000000000) (hp : p.length < 1000)
    (hy : Lib.hasPrefix (s.drop a) p = true → K (.bool true) (σ.setV b (.cells ty [.str s, .int .i64 (a + p.length : Nat)]))) (hn : Lib.hasPrefix (s.drop a) p = false → K (.bool false) σ) : ACalls Tryz.prog (gD m) 33 [.vp b 0, .str p] σ K := by
  have hlt := getV_lt hv
  refine ACalls_fn tok fm (fk33 _) ?_
  simp (disch := first | omega | (simp only [ln]; first | done | omega)) only [walkAll, walkL, walkK, wk, E, Nat.reduceEqDiff, Nat.reduceAdd, Nat.reduceSub, Nat.reduceLeDiff, Int.reduceLT, Int.reduceLE, Int.reduceAdd, Int.reduceSub, Int.reduceToNat, ↓reduceIte, c33, hv]
  have t1 : ((a : Int) + (p.length : Nat)).toNat = a + p.length := by omega
  have t2 : a + p.length - a = p.length := by omega
  by_cases h1 : s.length < a + p.length
  · have q1 : decide ((s.length : Int) < (a : Int) + (p.length : Nat)) = true := decide_eq_true (by omega)
    have hp0 : Lib.hasPrefix (s.drop a) p = false := by
      rw [← Bool.not_eq_true]
      intro h
      have := hasPrefix_len h
      simp at this; omega
    simp (disch := first | omega | (simp only [ln]; first | done | omega)) only [walkAll, walkL, walkK, wk, E, Nat.reduceEqDiff, Nat.reduceAdd, Nat.reduceSub, Nat.reduceLeDiff, Int.reduceLT, Int.reduceLE, Int.reduceAdd, Int.reduceSub, Int.reduceToNat, ↓reduceIte, q1, hv]
    exact hn hp0
  · have q1 : decide ((s.length : Int) < (a : Int) + (p.length : Nat)) = false := decide_eq_false (by omega)
    have e1 : ((s.drop a).take p.length == p) = Lib.hasPrefix (s.drop a) p := by
      rw [Bool.eq_iff_iff, beq_iff_eq]
      unfold Lib.hasPrefix
      rw [List.isPrefixOf_iff_prefix, List.prefix_iff_eq_take]
      exact eq_comm
    simp (disch := first | omega | (simp only [ln]; first | done | omega)) only [walkAll, walkL, walkK, wk, E, Nat.reduceEqDiff, Nat.reduceAdd, Nat.reduceSub, Nat.reduceLeDiff, Int.reduceLT, Int.reduceLE, Int.reduceAdd, Int.reduceSub, Int.reduceToNat, ↓reduceIte, q1, hv, t1, t2]
    cases q2 : Lib.hasPrefix (s.drop a) p with
    | true =>
      simp (disch := first | omega | (simp only [ln]; first | done | omega)) only [walkAll, walkL, walkK, wk, E, Nat.reduceEqDiff, Nat.reduceAdd, Nat.reduceSub, Nat.reduceLeDiff, Int.reduceLT, Int.reduceLE, Int.reduceAdd, Int.reduceSub, Int.reduceToNat, ↓reduceIte, bne, e1, q2, Bool.not_true, hv, t1]
      exact hy q2
    | false =>
      simp (disch := first | omega | (simp only [ln]; first | done | omega)) only [walkAll, walkL, walkK, wk, E, Nat.reduceEqDiff, Nat.reduceAdd, Nat.reduceSub, Nat.reduceLeDiff, Int.reduceLT, Int.reduceLE, Int.reduceAdd, Int.reduceSub, Int.reduceToNat, ↓reduceIte, bne, e1, q2, Bool.not_false, hv, t1]
      exact hn q2
theorem rname_loop (b : Nat) (s : List UInt8) (ty : TypeId) (hs : s.length < 1000000000) (hb : b < nvs σ) {Q : EQ} : ∀ (rest : List UInt8) (i : Nat) (τ : St) (e : Env), s.drop i = rest → i ≤ s.length → τ = σ.setV b (.cells ty [.str s, .int .i64 i]) → e 0 = some (.vp b 0) →
    (∀ e', e' 0 = e 0 → e' 3 = e 3 → Q (.exit 0) e' (σ.setV b (.cells ty [.str s, .int .i64 (i + (rest.takeWhile withins.contains).length : Nat)]))) →
    LoopC Tryz.prog tt (gD m) l54_0 Q e τ := by
  intro rest
  induction rest with
  | nil =>
    intro i τ e hd hle hτ h0 hx
    have hv : getV τ b = some (.cells ty [.str s, .int .i64 i]) := by rw [hτ]; simp (disch := first | omega | (simp only [ln]; first | done | omega)) only [walkAll, walkL, walkK, wk, E, Nat.reduceEqDiff, Nat.reduceAdd, Nat.reduceSub, Nat.reduceLeDiff, Int.reduceLT, Int.reduceLE, Int.reduceAdd, Int.reduceSub, Int.reduceToNat, ↓reduceIte]
    have hi : s.length ≤ i := by simpa using hd
    have hbb : decide ((i : Int) < (s.length : Int)) = false := by simp; omega
    refine LoopC_unfold tok fm ?_
    simp (disch := first | omega | (simp only [ln]; first | done | omega)) only [walkAll, walkL, walkK, wk, E, Nat.reduceEqDiff, Nat.reduceAdd, Nat.reduceSub, Nat.reduceLeDiff, Int.reduceLT, Int.reduceLE, Int.reduceAdd, Int.reduceSub, Int.reduceToNat, ↓reduceIte, l54_0x, l54_0b, h0, hv, hbb]
    rw [hτ]
    exact hx _ (by simp [put]) (by simp [put])
  | cons c rest ih =>
    intro i τ e hd hle hτ h0 hx
    have hv : getV τ b = some (.cells ty [.str s, .int .i64 i]) := by rw [hτ]; simp (disch := first | omega | (simp only [ln]; first | done | omega)) only [walkAll, walkL, walkK, wk, E, Nat.reduceEqDiff, Nat.reduceAdd, Nat.reduceSub, Nat.reduceLeDiff, Int.reduceLT, Int.reduceLE, Int.reduceAdd, Int.reduceSub, Int.reduceToNat, ↓reduceIte]
    obtain ⟨hc, hd'⟩ := drop_cons hd
    have hi := (List.getElem?_eq_some_iff.1 hc).1
    have hbb : decide ((i : Int) < (s.length : Int)) = true := by simp; omega
    have hlt : b < nvs τ := by rw [hτ]; simpa only [nvsR] using hb
    refine LoopC_unfold tok fm ?_
    simp (disch := first | omega | (simp only [ln]; first | done | omega)) only [walkAll, walkL, walkK, wk, E, Nat.reduceEqDiff, Nat.reduceAdd, Nat.reduceSub, Nat.reduceLeDiff, Int.reduceLT, Int.reduceLE, Int.reduceAdd, Int.reduceSub, Int.reduceToNat, ↓reduceIte, l54_0x, l54_0b, h0, hv, hbb, hc, Int.toNat_natCast]
    refine within_c c ?_
    cases q : withins.contains c with
    | false =>
      simp (disch := first | omega | (simp only [ln]; first | done | omega)) only [walkAll, walkL, walkK, wk, E, Nat.reduceEqDiff, Nat.reduceAdd, Nat.reduceSub, Nat.reduceLeDiff, Int.reduceLT, Int.reduceLE, Int.reduceAdd, Int.reduceSub, Int.reduceToNat, ↓reduceIte, h0, hv, hbb, hc, q, Int.toNat_natCast]
      rw [hτ]
      have e0 : (c :: rest).takeWhile withins.contains = [] := by rw [List.takeWhile_cons, q]; rfl
      rw [e0] at hx
      exact hx _ (by simp [put]) (by simp [put])
    | true =>
      simp (disch := first | omega | (simp only [ln]; first | done | omega)) only [walkAll, walkL, walkK, wk, E, Nat.reduceEqDiff, Nat.reduceAdd, Nat.reduceSub, Nat.reduceLeDiff, Int.reduceLT, Int.reduceLE, Int.reduceAdd, Int.reduceSub, Int.reduceToNat, ↓reduceIte, h0, hv, hbb, hc, q, Int.toNat_natCast]
      have e1 : (c :: rest).takeWhile withins.contains = c :: rest.takeWhile withins.contains := by rw [List.takeWhile_cons, q]; rfl
      rw [e1] at hx
      refine ih (i + 1) _ _ hd' (by omega) ?_ (by simp [put, h0]) (fun e' k0 k3 => ?_)
      · rw [hτ]; simp (disch := first | omega | (simp only [ln]; first | done | omega)) only [walkAll, walkL, walkK, wk, E, Nat.reduceEqDiff, Nat.reduceAdd, Nat.reduceSub, Nat.reduceLeDiff, Int.reduceLT, Int.reduceLE, Int.reduceAdd, Int.reduceSub, Int.reduceToNat, ↓reduceIte]; try rfl
      · have := hx e' (by rw [k0]; simp [put]) (by rw [k3]; simp [put])
        rw [List.length_cons] at this
        rw [show i + 1 + (rest.takeWhile withins.contains).length = i + ((rest.takeWhile withins.contains).length + 1) by omega]
        exact this
/-- The name that was taken. -/
def nameR (w : List UInt8) : List UInt8 := if nameB w then w else []
theorem takeWhile_take (p : UInt8 → Bool) (l : List UInt8) : l.take (l.takeWhile p).length = l.takeWhile p := by
  have h := List.takeWhile_append_dropWhile (p := p) (l := l)
  calc l.take (l.takeWhile p).length = (l.takeWhile p ++ l.dropWhile p).take (l.takeWhile p).length := by rw [h]
    _ = l.takeWhile p := List.take_left' rfl
theorem rname_c (b : Nat) (s : List UInt8) (ty : TypeId) (a : Nat) (hv : Wk σ b ty s a) (ha : a ≤ s.length) (hs : s.length < 1000000000)
    (h : K (.str (nameR ((s.drop a).takeWhile withins.contains))) (σ.setV b (.cells ty [.str s, .int .i64 (a + ((s.drop a).takeWhile withins.contains).length : Nat)]))) : ACalls Tryz.prog (gD m) 54 [.vp b 0] σ K := by
  have hlt := getV_lt hv
  have hl : ((s.drop a).takeWhile withins.contains).length ≤ s.length - a := by
    have := (List.takeWhile_prefix (l := s.drop a) withins.contains).length_le
    rw [List.length_drop] at this
    exact this
  have ht := takeWhile_take withins.contains (s.drop a)
  refine ACalls_fn tok fm (fk54 _) ?_
  simp (disch := first | omega | (simp only [ln]; first | done | omega)) only [walkAll, walkL, walkK, wk, E, Nat.reduceEqDiff, Nat.reduceAdd, Nat.reduceSub, Nat.reduceLeDiff, Int.reduceLT, Int.reduceLE, Int.reduceAdd, Int.reduceSub, Int.reduceToNat, ↓reduceIte, c54, hv]
  refine rname_loop b s ty hs hlt (s.drop a) a σ _ rfl ha (setV_same hv).symm (by simp [put, E]) (fun e' h0 h3 => ?_)
  have h0 : e' 0 = some (.vp b 0) := by rw [h0]; simp [put, E]
  have h3 : e' 3 = some (.int .i64 a) := by rw [h3]; simp [put]
  generalize hw : (s.drop a).takeWhile withins.contains = w at *
  have t1 : a + w.length - a = w.length := by omega
  simp (disch := first | omega | (simp only [ln]; first | done | omega)) only [walkAll, walkL, walkK, wk, E, Nat.reduceEqDiff, Nat.reduceAdd, Nat.reduceSub, Nat.reduceLeDiff, Int.reduceLT, Int.reduceLE, Int.reduceAdd, Int.reduceSub, Int.reduceToNat, ↓reduceIte, h0, h3, hv, t1, ht]
  refine Name_c w (by omega) ?_
  unfold nameR at h
  cases q : nameB w with
  | true =>
    rw [q] at h
    simp (disch := first | omega | (simp only [ln]; first | done | omega)) only [walkAll, walkL, walkK, wk, E, Nat.reduceEqDiff, Nat.reduceAdd, Nat.reduceSub, Nat.reduceLeDiff, Int.reduceLT, Int.reduceLE, Int.reduceAdd, Int.reduceSub, Int.reduceToNat, ↓reduceIte, h0, h3, q]
    exact h
  | false =>
    rw [q] at h
    simp (disch := first | omega | (simp only [ln]; first | done | omega)) only [walkAll, walkL, walkK, wk, E, Nat.reduceEqDiff, Nat.reduceAdd, Nat.reduceSub, Nat.reduceLeDiff, Int.reduceLT, Int.reduceLE, Int.reduceAdd, Int.reduceSub, Int.reduceToNat, ↓reduceIte, h0, h3, q]
    exact h
end
end Go.Ab.Sz
namespace Go.Ab.Sz
open Go Go.Ab Go.Proofs Go.RowKit
set_option maxRecDepth 40000
set_option linter.unusedSimpArgs false
def rQ1 (q : UInt8) (r : List UInt8) : Option (List UInt8 × List UInt8) :=
  if (r.takeWhile (· != q)).contains 60 then none else match r.dropWhile (· != q) with
    | [] => none
    | _ :: t => some (r.takeWhile (· != q), t)
theorem rQ1_bad {q : UInt8} {r : List UInt8} (h : (r.takeWhile (· != q)).contains 60 = true) : rQ1 q r = none := if_pos h
theorem rQ1_nil {q : UInt8} {r : List UInt8} (h : (r.takeWhile (· != q)).contains 60 = false) (h2 : r.dropWhile (· != q) = []) : rQ1 q r = none := by
  unfold rQ1; rw [if_neg (by rw [h]; decide), h2]
theorem rQ1_cons {q x : UInt8} {r t : List UInt8} (h : (r.takeWhile (· != q)).contains 60 = false) (h2 : r.dropWhile (· != q) = x :: t) : rQ1 q r = some (r.takeWhile (· != q), t) := by
  unfold rQ1; rw [if_neg (by rw [h]; decide), h2]
def rQuote : List UInt8 → Option (List UInt8 × List UInt8)
  | [] => none
  | q :: r => if q == 34 || q == 39 then rQ1 q r else none
theorem rQuote_cons {q : UInt8} (r : List UInt8) (h : (q == 34 || q == 39) = true) : rQuote (q :: r) = rQ1 q r := if_pos h
def rA2 (r : List UInt8) : List UInt8 := (r.dropWhile withins.contains).dropWhile blanksL.contains
def rA4 (r : List UInt8) : List UInt8 := ((rA2 r).drop 1).dropWhile blanksL.contains
def rNm (r : List UInt8) : List UInt8 := nameR (r.takeWhile withins.contains)
/-- An attribute: its name, its value, what is left; none: none that may be. -/
def rAttr (al : List (List UInt8 × List UInt8)) (r : List UInt8) : Option (List UInt8 × (List UInt8 × Bool) × List UInt8) :=
  if al.any (fun x => x.1 == rNm r) then none else if rNm r == [] || !Lib.hasPrefix (rA2 r) [61] then none else (rQuote (rA4 r)).map fun x => (rNm r, valS x.1, x.2)
theorem drop_tw (p : UInt8 → Bool) (s : List UInt8) (a : Nat) : s.drop (a + ((s.drop a).takeWhile p).length) = (s.drop a).dropWhile p := by
  rw [← List.drop_drop]
  have h := List.takeWhile_append_dropWhile (p := p) (l := s.drop a)
  calc (s.drop a).drop ((s.drop a).takeWhile p).length = ((s.drop a).takeWhile p ++ (s.drop a).dropWhile p).drop ((s.drop a).takeWhile p).length := by rw [h]
    _ = (s.drop a).dropWhile p := List.drop_left' rfl
theorem tw_le (p : UInt8 → Bool) (s : List UInt8) (a : Nat) (ha : a ≤ s.length) : a + ((s.drop a).takeWhile p).length ≤ s.length := by
  have := (List.takeWhile_prefix (l := s.drop a) p).length_le
  rw [List.length_drop] at this
  omega
section
variable {m : Int} {σ : St} {K : AV → St → Prop}
theorem dup_loop (al : List (List UInt8 × List UInt8)) (v : AV) (n : List UInt8) (hl : al.length < 1000000000) (hR : Rd 2 σ v (al.map atc)) {Q : EQ} : ∀ (rest : List (List UInt8 × List UInt8)) (i : Nat) (e : Env), al.drop i = rest → e 1 = some v → e 6 = some (.str n) → e 7 = some (.int .i64 i) →
    (rest.any (fun x => x.1 == n) = false → ∀ e', e' 0 = e 0 → e' 1 = e 1 → e' 6 = e 6 → Q (.exit 0) e' σ) → (rest.any (fun x => x.1 == n) = true → ∀ e', e' 4 = some .nils → e' 5 = some (.bool false) → Q .ret e' σ) → LoopC Tryz.prog tt (gD m) l83_0 Q e σ := by
  intro rest
  induction rest with
  | nil =>
    intro i e hd h1 h6 h7 hx hr
    have hi : al.length ≤ i := by simpa using hd
    have hb : decide ((i : Int) < (al.length : Int)) = false := by simp; omega
    have hlen := hR.len
    rw [List.length_map] at hlen
    refine LoopC_unfold tok fm ?_
    simp (disch := first | omega | (simp only [ln]; first | done | omega)) only [walkAll, walkL, walkK, wk, E, Nat.reduceEqDiff, Nat.reduceAdd, Nat.reduceSub, Nat.reduceLeDiff, Int.reduceLT, Int.reduceLE, Int.reduceAdd, Int.reduceSub, Int.reduceToNat, ↓reduceIte, l83_0x, l83_0b, h1, h6, h7, hlen, hb]
    exact hx rfl _ (by simp [put]) (by simp [put]) (by simp [put])
  | cons c rest ih =>
    intro i e hd h1 h6 h7 hx hr
    obtain ⟨hc, hd'⟩ := drop_cons hd
    have hi := (List.getElem?_eq_some_iff.1 hc).1
    have hb : decide ((i : Int) < (al.length : Int)) = true := by simp; omega
    have hlen := hR.len
    rw [List.length_map] at hlen
    have hc' : (al.map atc)[i]? = some (atc c) := by rw [List.getElem?_map, hc]; rfl
    obtain ⟨q, hq, hpt⟩ := hR.at hc' .i64
    obtain ⟨q', hq', hld⟩ := hpt.fld 0 (.str c.1) rfl
    refine LoopC_unfold tok fm ?_
    simp (disch := first | omega | (simp only [ln]; first | done | omega)) only [walkAll, walkL, walkK, wk, E, Nat.reduceEqDiff, Nat.reduceAdd, Nat.reduceSub, Nat.reduceLeDiff, Int.reduceLT, Int.reduceLE, Int.reduceAdd, Int.reduceSub, Int.reduceToNat, ↓reduceIte, l83_0x, l83_0b, h1, h6, h7, hlen, hb, hq, hq', hld]
    cases g : (c.1 == n) with
    | true =>
      simp (disch := first | omega | (simp only [ln]; first | done | omega)) only [walkAll, walkL, walkK, wk, E, Nat.reduceEqDiff, Nat.reduceAdd, Nat.reduceSub, Nat.reduceLeDiff, Int.reduceLT, Int.reduceLE, Int.reduceAdd, Int.reduceSub, Int.reduceToNat, ↓reduceIte, h1, h6, h7, g]
      exact hr (by simp only [List.any_cons, g, Bool.true_or]) _ (by simp [put]) (by simp [put])
    | false =>
      simp (disch := first | omega | (simp only [ln]; first | done | omega)) only [walkAll, walkL, walkK, wk, E, Nat.reduceEqDiff, Nat.reduceAdd, Nat.reduceSub, Nat.reduceLeDiff, Int.reduceLT, Int.reduceLE, Int.reduceAdd, Int.reduceSub, Int.reduceToNat, ↓reduceIte, h1, h6, h7, g]
      refine ih (i + 1) _ hd' (by simp [put, h1]) (by simp [put, h6]) (by simp [put]) (fun h e' k0 k1 k6 => hx (by simp only [List.any_cons, g, h, Bool.false_or]) e' (by rw [k0]; simp [put]) (by rw [k1]; simp [put]) (by rw [k6]; simp [put])) (fun h => hr (by simp only [List.any_cons, g, h, Bool.false_or]))
theorem mark_loop (b : Nat) (s : List UInt8) (ty : TypeId) (q : UInt8) (hs : s.length < 1000000000) (hb : b < nvs σ) {Q : EQ} : ∀ (rest : List UInt8) (i : Nat) (τ : St) (e : Env), s.drop i = rest → i ≤ s.length → τ = σ.setV b (.cells ty [.str s, .int .i64 i]) → e 0 = some (.vp b 0) → e 8 = some (.int .u8 q.toNat) →
    ((rest.takeWhile (· != q)).contains 60 = false → ∀ e', e' 0 = e 0 → e' 1 = e 1 → e' 6 = e 6 → e' 9 = e 9 → Q (.exit 2) e' (σ.setV b (.cells ty [.str s, .int .i64 (i + (rest.takeWhile (· != q)).length : Nat)]))) →
    ((rest.takeWhile (· != q)).contains 60 = true → ∀ e' (a' : Nat), e' 4 = some .nils → e' 5 = some (.bool false) → Q .ret e' (σ.setV b (.cells ty [.str s, .int .i64 a']))) →
    LoopC Tryz.prog tt (gD m) l83_1 Q e τ := by
  intro rest
  induction rest with
  | nil =>
    intro i τ e hd hle hτ h0 h8 hx hr
    have hv : getV τ b = some (.cells ty [.str s, .int .i64 i]) := by rw [hτ]; simp (disch := first | omega | (simp only [ln]; first | done | omega)) only [walkAll, walkL, walkK, wk, E, Nat.reduceEqDiff, Nat.reduceAdd, Nat.reduceSub, Nat.reduceLeDiff, Int.reduceLT, Int.reduceLE, Int.reduceAdd, Int.reduceSub, Int.reduceToNat, ↓reduceIte]
    have hi : s.length ≤ i := by simpa using hd
    have hbb : decide ((i : Int) < (s.length : Int)) = false := by simp; omega
    refine LoopC_unfold tok fm ?_
    simp (disch := first | omega | (simp only [ln]; first | done | omega)) only [walkAll, walkL, walkK, wk, E, Nat.reduceEqDiff, Nat.reduceAdd, Nat.reduceSub, Nat.reduceLeDiff, Int.reduceLT, Int.reduceLE, Int.reduceAdd, Int.reduceSub, Int.reduceToNat, ↓reduceIte, l83_1x, l83_1b, h0, h8, hv, hbb]
    rw [hτ]
    exact hx rfl _ (by simp [put]) (by simp [put]) (by simp [put]) (by simp [put])
  | cons c rest ih =>
    intro i τ e hd hle hτ h0 h8 hx hr
    have hv : getV τ b = some (.cells ty [.str s, .int .i64 i]) := by rw [hτ]; simp (disch := first | omega | (simp only [ln]; first | done | omega)) only [walkAll, walkL, walkK, wk, E, Nat.reduceEqDiff, Nat.reduceAdd, Nat.reduceSub, Nat.reduceLeDiff, Int.reduceLT, Int.reduceLE, Int.reduceAdd, Int.reduceSub, Int.reduceToNat, ↓reduceIte]
    obtain ⟨hc, hd'⟩ := drop_cons hd
    have hi := (List.getElem?_eq_some_iff.1 hc).1
    have hbb : decide ((i : Int) < (s.length : Int)) = true := by simp; omega
    have hlt : b < nvs τ := by rw [hτ]; simpa only [nvsR] using hb
    have kq : (((c.toNat : Nat) : Int) == (q.toNat : Nat)) = (c == q) := by
      rw [u8_eq c q.toNat q.toNat_lt, Bool.eq_iff_iff]; simp
    have k60 : (((c.toNat : Nat) : Int) == 60) = decide (c = 60) := u8_eq c 60 (by decide)
    refine LoopC_unfold tok fm ?_
    simp (disch := first | omega | (simp only [ln]; first | done | omega)) only [walkAll, walkL, walkK, wk, E, Nat.reduceEqDiff, Nat.reduceAdd, Nat.reduceSub, Nat.reduceLeDiff, Int.reduceLT, Int.reduceLE, Int.reduceAdd, Int.reduceSub, Int.reduceToNat, ↓reduceIte, l83_1x, l83_1b, h0, h8, hv, hbb, hc, Int.toNat_natCast]
    cases g : (c == q) with
    | true =>
      simp (disch := first | omega | (simp only [ln]; first | done | omega)) only [walkAll, walkL, walkK, wk, E, Nat.reduceEqDiff, Nat.reduceAdd, Nat.reduceSub, Nat.reduceLeDiff, Int.reduceLT, Int.reduceLE, Int.reduceAdd, Int.reduceSub, Int.reduceToNat, ↓reduceIte, bne, kq, g, Bool.not_true, h0, h8, hv]
      have e0 : (c :: rest).takeWhile (· != q) = [] := by rw [List.takeWhile_cons]; simp only [bne, g]; rfl
      rw [e0] at hx
      rw [hτ]
      exact hx rfl _ (by simp [put]) (by simp [put]) (by simp [put]) (by simp [put])
    | false =>
      have e1 : (c :: rest).takeWhile (· != q) = c :: rest.takeWhile (· != q) := by rw [List.takeWhile_cons]; simp only [bne, g]; rfl
      rw [e1] at hx hr
      simp (disch := first | omega | (simp only [ln]; first | done | omega)) only [walkAll, walkL, walkK, wk, E, Nat.reduceEqDiff, Nat.reduceAdd, Nat.reduceSub, Nat.reduceLeDiff, Int.reduceLT, Int.reduceLE, Int.reduceAdd, Int.reduceSub, Int.reduceToNat, ↓reduceIte, bne, kq, g, Bool.not_false, h0, h8, hv, hc]
      cases g2 : (((c.toNat : Nat) : Int) == 60) with
      | true =>
        have hc6 : c = 60 := by rw [k60] at g2; exact of_decide_eq_true g2
        simp (disch := first | omega | (simp only [ln]; first | done | omega)) only [walkAll, walkL, walkK, wk, E, Nat.reduceEqDiff, Nat.reduceAdd, Nat.reduceSub, Nat.reduceLeDiff, Int.reduceLT, Int.reduceLE, Int.reduceAdd, Int.reduceSub, Int.reduceToNat, ↓reduceIte, g2, h0, h8, hv]
        rw [hτ]
        exact hr (by rw [hc6]; simp) _ i (by simp [put]) (by simp [put])
      | false =>
        have hc6 : c ≠ 60 := by rw [k60] at g2; exact of_decide_eq_false g2
        have e2 : (c :: rest.takeWhile (· != q)).contains 60 = (rest.takeWhile (· != q)).contains 60 := by
          rw [List.contains_cons, show ((60 : UInt8) == c) = false by rw [beq_eq_false_iff_ne]; exact fun h => hc6 h.symm, Bool.false_or]
        rw [e2] at hx hr
        simp (disch := first | omega | (simp only [ln]; first | done | omega)) only [walkAll, walkL, walkK, wk, E, Nat.reduceEqDiff, Nat.reduceAdd, Nat.reduceSub, Nat.reduceLeDiff, Int.reduceLT, Int.reduceLE, Int.reduceAdd, Int.reduceSub, Int.reduceToNat, ↓reduceIte, g2, h0, h8, hv]
        refine ih (i + 1) _ _ hd' (by omega) ?_ (by simp [put, h0]) (by simp [put, h8]) (fun h e' k0 k1 k6 k9 => ?_) hr
        · rw [hτ]; simp (disch := first | omega | (simp only [ln]; first | done | omega)) only [walkAll, walkL, walkK, wk, E, Nat.reduceEqDiff, Nat.reduceAdd, Nat.reduceSub, Nat.reduceLeDiff, Int.reduceLT, Int.reduceLE, Int.reduceAdd, Int.reduceSub, Int.reduceToNat, ↓reduceIte]; try rfl
        · have := hx h e' (by rw [k0]; simp [put]) (by rw [k1]; simp [put]) (by rw [k6]; simp [put]) (by rw [k9]; simp [put])
          rw [List.length_cons] at this
          rw [show i + 1 + (rest.takeWhile (· != q)).length = i + ((rest.takeWhile (· != q)).length + 1) by omega]
          exact this
end
end Go.Ab.Sz
namespace Go.Ab.Sz
open Go Go.Ab Go.Proofs Go.RowKit
set_option maxRecDepth 40000
set_option linter.unusedSimpArgs false
theorem pre_cell {s : List UInt8} {c : UInt8} (h : Lib.hasPrefix s [c] = true) : s = c :: s.drop 1 := by
  cases s with
  | nil => cases h
  | cons a r =>
    rw [pre_cons, pre_nil, Bool.and_true, beq_iff_eq] at h
    subst h; rfl
section
variable {m : Int} {σ : St} {K : AV → St → Prop}
set_option maxHeartbeats 1000000 in
theorem rattr_c (b : Nat) (s : List UInt8) (ty : TypeId) (a : Nat) (al : List (List UInt8 × List UInt8)) (v : AV) (ρ : Option Nat) (hv : Wk σ b ty s a) (ha : a ≤ s.length) (hs : s.length < 1000000000) (hal : al.length < 1000000) (hl : Lst 64 2 σ v (al.map atc) ρ)
    (hn : rAttr al (s.drop a) = none → ∀ a' : Nat, K (.tup [.nils, .bool false]) (σ.setV b (.cells ty [.str s, .int .i64 a'])))
    (hy : ∀ n x ok r, rAttr al (s.drop a) = some (n, (x, ok), r) → ∀ (a' : Nat) (v' : AV) (σ' : St) (ρ' : Option Nat), a' ≤ s.length → s.drop a' = r → Lst 64 2 σ' v' ((al ++ [(n, x)]).map atc) ρ' → RowsBut (σ.setV b (.cells ty [.str s, .int .i64 a'])) σ' ρ ρ' → K (.tup [v', .bool ok]) σ') :
    ACalls Tryz.prog (gD m) 83 [.vp b 0, v] σ K := by
  have hlt := getV_lt hv
  have hd1 := drop_tw withins.contains s a
  have ha1 := tw_le withins.contains s a ha
  have hnm : nameR ((s.drop a).takeWhile withins.contains) = rNm (s.drop a) := rfl
  refine ACalls_fn tok fm (fk83 _) ?_
  simp (disch := first | omega | (simp only [ln]; first | done | omega)) only [walkAll, walkL, walkK, wk, E, Nat.reduceEqDiff, Nat.reduceAdd, Nat.reduceSub, Nat.reduceLeDiff, Int.reduceLT, Int.reduceLE, Int.reduceAdd, Int.reduceSub, Int.reduceToNat, ↓reduceIte, c83]
  refine rname_c b s ty a hv ha hs ?_
  rw [hnm]
  generalize hr : s.drop a = r at *
  generalize a + (r.takeWhile withins.contains).length = a1 at *
  simp (disch := first | omega | (simp only [ln]; first | done | omega)) only [walkAll, walkL, walkK, wk, E, Nat.reduceEqDiff, Nat.reduceAdd, Nat.reduceSub, Nat.reduceLeDiff, Int.reduceLT, Int.reduceLE, Int.reduceAdd, Int.reduceSub, Int.reduceToNat, ↓reduceIte]
  refine dup_loop al v (rNm r) (by omega) (hl.rd.setV b _) al 0 _ rfl (by simp [put, E]) (by simp [put]) (by simp [put]) (fun hdup e' k0 k1 k6 => ?_) (fun hdup e' k4 k5 => ?_)
  rotate_left
  · simp (disch := first | omega | (simp only [ln]; first | done | omega)) only [walkAll, walkL, walkK, wk, E, Nat.reduceEqDiff, Nat.reduceAdd, Nat.reduceSub, Nat.reduceLeDiff, Int.reduceLT, Int.reduceLE, Int.reduceAdd, Int.reduceSub, Int.reduceToNat, ↓reduceIte, k4, k5]
    exact hn (by unfold rAttr; rw [if_pos hdup]) a1
  have k0 : e' 0 = some (.vp b 0) := by rw [k0]; simp [put, E]
  have k1 : e' 1 = some v := by rw [k1]; simp [put, E]
  have k6 : e' 6 = some (.str (rNm r)) := by rw [k6]; simp [put]
  have e1 : rAttr al r = if rNm r == [] || !Lib.hasPrefix (rA2 r) [61] then none else (rQuote (rA4 r)).map fun x => (rNm r, valS x.1, x.2) := by unfold rAttr; rw [if_neg (by rw [hdup]; decide)]
  have hd2 := drop_tw blanksL.contains s a1
  have ha2 := tw_le blanksL.contains s a1 ha1
  simp (disch := first | omega | (simp only [ln]; first | done | omega)) only [walkAll, walkL, walkK, wk, E, Nat.reduceEqDiff, Nat.reduceAdd, Nat.reduceSub, Nat.reduceLeDiff, Int.reduceLT, Int.reduceLE, Int.reduceAdd, Int.reduceSub, Int.reduceToNat, ↓reduceIte, k0, k1, k6]
  refine blanks_c b s ty a1 ?_ ha1 hs ?_
  · simp (disch := first | omega | (simp only [ln]; first | done | omega)) only [walkAll, walkL, walkK, wk, E, Nat.reduceEqDiff, Nat.reduceAdd, Nat.reduceSub, Nat.reduceLeDiff, Int.reduceLT, Int.reduceLE, Int.reduceAdd, Int.reduceSub, Int.reduceToNat, ↓reduceIte, Wk]
  rw [hd1] at hd2 ha2 ⊢
  rw [show (r.dropWhile withins.contains).dropWhile blanksL.contains = rA2 r from rfl] at hd2
  generalize a1 + ((r.dropWhile withins.contains).takeWhile blanksL.contains).length = a2 at *
  simp (disch := first | omega | (simp only [ln]; first | done | omega)) only [walkAll, walkL, walkK, wk, E, Nat.reduceEqDiff, Nat.reduceAdd, Nat.reduceSub, Nat.reduceLeDiff, Int.reduceLT, Int.reduceLE, Int.reduceAdd, Int.reduceSub, Int.reduceToNat, ↓reduceIte, k0, k1, k6]
  cases g1 : (rNm r == []) with
  | true =>
    simp (disch := first | omega | (simp only [ln]; first | done | omega)) only [walkAll, walkL, walkK, wk, E, Nat.reduceEqDiff, Nat.reduceAdd, Nat.reduceSub, Nat.reduceLeDiff, Int.reduceLT, Int.reduceLE, Int.reduceAdd, Int.reduceSub, Int.reduceToNat, ↓reduceIte, g1, k0, k1, k6]
    exact hn (by rw [e1, g1]; rfl) a2
  | false =>
    simp (disch := first | omega | (simp only [ln]; first | done | omega)) only [walkAll, walkL, walkK, wk, E, Nat.reduceEqDiff, Nat.reduceAdd, Nat.reduceSub, Nat.reduceLeDiff, Int.reduceLT, Int.reduceLE, Int.reduceAdd, Int.reduceSub, Int.reduceToNat, ↓reduceIte, g1, k0, k1, k6]
    refine is_c b s [61] ty a2 ?_ ha2 hs (by decide) (fun g2 => ?_) (fun g2 => ?_)
    · simp (disch := first | omega | (simp only [ln]; first | done | omega)) only [walkAll, walkL, walkK, wk, E, Nat.reduceEqDiff, Nat.reduceAdd, Nat.reduceSub, Nat.reduceLeDiff, Int.reduceLT, Int.reduceLE, Int.reduceAdd, Int.reduceSub, Int.reduceToNat, ↓reduceIte, Wk]
    rotate_left
    · rw [hd2] at g2
      simp (disch := first | omega | (simp only [ln]; first | done | omega)) only [walkAll, walkL, walkK, wk, E, Nat.reduceEqDiff, Nat.reduceAdd, Nat.reduceSub, Nat.reduceLeDiff, Int.reduceLT, Int.reduceLE, Int.reduceAdd, Int.reduceSub, Int.reduceToNat, ↓reduceIte, g1, k0, k1, k6]
      exact hn (by rw [e1, g1, g2]; rfl) a2
    rw [hd2] at g2
    have hc2 := pre_cell g2
    have ha3 : a2 + 1 ≤ s.length := by
      have := congrArg List.length hd2; rw [hc2] at this; simp at this; omega
    have hd3 : s.drop (a2 + 1) = (rA2 r).drop 1 := by rw [← List.drop_drop, hd2]
    have hd4 := drop_tw blanksL.contains s (a2 + 1)
    have ha4 := tw_le blanksL.contains s (a2 + 1) ha3
    simp (disch := first | omega | (simp only [ln]; first | done | omega)) only [walkAll, walkL, walkK, wk, E, Nat.reduceEqDiff, Nat.reduceAdd, Nat.reduceSub, Nat.reduceLeDiff, Int.reduceLT, Int.reduceLE, Int.reduceAdd, Int.reduceSub, Int.reduceToNat, ↓reduceIte, g1, k0, k1, k6]
    refine blanks_c b s ty (a2 + 1) ?_ ha3 hs ?_
    · simp (disch := first | omega | (simp only [ln]; first | done | omega)) only [walkAll, walkL, walkK, wk, E, Nat.reduceEqDiff, Nat.reduceAdd, Nat.reduceSub, Nat.reduceLeDiff, Int.reduceLT, Int.reduceLE, Int.reduceAdd, Int.reduceSub, Int.reduceToNat, ↓reduceIte, Wk]; try rfl
    rw [hd3] at hd4 ha4 ⊢
    rw [show ((rA2 r).drop 1).dropWhile blanksL.contains = rA4 r from rfl] at hd4
    generalize a2 + 1 + (((rA2 r).drop 1).takeWhile blanksL.contains).length = a4 at *
    have e2 : rAttr al r = (rQuote (rA4 r)).map fun x => (rNm r, valS x.1, x.2) := by rw [e1, g1, g2]; rfl
    generalize rA4 r = r4 at *
    have t0 : (((a4 : Nat) : Int)).toNat = a4 := by omega
    cases r4 with
    | nil =>
      have hi : s.length ≤ a4 := by simpa using hd4
      have q : decide ((s.length : Int) ≤ (a4 : Int)) = true := decide_eq_true (by omega)
      simp (disch := first | omega | (simp only [ln]; first | done | omega)) only [walkAll, walkL, walkK, wk, E, Nat.reduceEqDiff, Nat.reduceAdd, Nat.reduceSub, Nat.reduceLeDiff, Int.reduceLT, Int.reduceLE, Int.reduceAdd, Int.reduceSub, Int.reduceToNat, ↓reduceIte, k0, k1, k6, q]
      exact hn (by rw [e2]; rfl) a4
    | cons q r5 =>
      obtain ⟨hc, hd5⟩ := drop_cons hd4
      have hi := (List.getElem?_eq_some_iff.1 hc).1
      have q0 : decide ((s.length : Int) ≤ (a4 : Int)) = false := decide_eq_false (by omega)
      have q34 : (((q.toNat : Nat) : Int) == 34) = (q == 34) := u8_eq q 34 (by decide)
      have q39 : (((q.toNat : Nat) : Int) == 39) = (q == 39) := u8_eq q 39 (by decide)
      simp (disch := first | omega | (simp only [ln]; first | done | omega)) only [walkAll, walkL, walkK, wk, E, Nat.reduceEqDiff, Nat.reduceAdd, Nat.reduceSub, Nat.reduceLeDiff, Int.reduceLT, Int.reduceLE, Int.reduceAdd, Int.reduceSub, Int.reduceToNat, ↓reduceIte, k0, k1, k6, q0, hc, t0, bne, q34, q39]
      cases g3 : (q == 34 || q == 39) with
      | false =>
        obtain ⟨g4, g5⟩ := Bool.or_eq_false_iff.1 g3
        simp (disch := first | omega | (simp only [ln]; first | done | omega)) only [walkAll, walkL, walkK, wk, E, Nat.reduceEqDiff, Nat.reduceAdd, Nat.reduceSub, Nat.reduceLeDiff, Int.reduceLT, Int.reduceLE, Int.reduceAdd, Int.reduceSub, Int.reduceToNat, ↓reduceIte, k0, k1, k6, q0, hc, t0, bne, q34, q39, g4, g5, Bool.not_false]
        exact hn (by rw [e2]; simp only [rQuote, g3]; rfl) a4
      | true =>
        have e3 : rAttr al r = (rQ1 q r5).map fun x => (rNm r, valS x.1, x.2) := by rw [e2, rQuote_cons r5 g3]
        have goal1 : ∀ (P : Prop), (∀ g4 : (q == 34) = true, P) → (∀ g4 : (q == 34) = false, ∀ g5 : (q == 39) = true, P) → P := fun P h1 h2 => by
          cases g4 : (q == 34) with
          | true => exact h1 g4
          | false => rw [g4, Bool.false_or] at g3; exact h2 g4 g3
        apply goal1
        · intro g4
          simp (disch := first | omega | (simp only [ln]; first | done | omega)) only [walkAll, walkL, walkK, wk, E, Nat.reduceEqDiff, Nat.reduceAdd, Nat.reduceSub, Nat.reduceLeDiff, Int.reduceLT, Int.reduceLE, Int.reduceAdd, Int.reduceSub, Int.reduceToNat, ↓reduceIte, k0, k1, k6, q0, hc, t0, bne, q34, q39, g4, Bool.not_true]
          refine mark_loop (σ := σ) b s ty q hs hlt r5 (a4 + 1) _ _ hd5 (by omega) ?_ ?_ ?_ (fun h60 e2 j0 j1 j6 j9 => ?_) (fun h60 e2 a' j4 j5 => ?_)
          · rfl
          · simp [put, k0]
          · simp [put]
          rotate_left
          · simp (disch := first | omega | (simp only [ln]; first | done | omega)) only [walkAll, walkL, walkK, wk, E, Nat.reduceEqDiff, Nat.reduceAdd, Nat.reduceSub, Nat.reduceLeDiff, Int.reduceLT, Int.reduceLE, Int.reduceAdd, Int.reduceSub, Int.reduceToNat, ↓reduceIte, j4, j5]
            exact hn (by rw [e3, rQ1_bad h60]; rfl) a'
          have j0 : e2 0 = some (.vp b 0) := by rw [j0]; simp [put, k0]
          have j1 : e2 1 = some v := by rw [j1]; simp [put, k1]
          have j6 : e2 6 = some (.str (rNm r)) := by rw [j6]; simp [put, k6]
          have j9 : e2 9 = some (.int .i64 (a4 + 1 : Nat)) := by rw [j9]; simp [put]
          have hd6 := drop_tw (· != q) s (a4 + 1)
          have ha6 := tw_le (· != q) s (a4 + 1) (by omega)
          rw [hd5] at hd6 ha6
          have hA6 : ∃ a6, a6 = a4 + 1 + (r5.takeWhile (· != q)).length := ⟨_, rfl⟩
          obtain ⟨a6, hA6⟩ := hA6
          rw [← hA6] at hd6 ha6 ⊢
          have t1 : (((a4 + 1 : Nat) : Int)).toNat = a4 + 1 := by omega
          have t2 : a6 - (a4 + 1) = (r5.takeWhile (· != q)).length := by omega
          have t3 := takeWhile_take (· != q) r5
          have t4 : (((a6 : Nat) : Int)).toNat = a6 := by omega
          have tl : (r5.takeWhile (· != q)).length ≤ s.length := by omega
          cases hdw : r5.dropWhile (· != q) with
          | nil =>
            have hi : s.length ≤ a6 := by rw [hdw] at hd6; simpa using hd6
            have q7 : decide ((s.length : Int) ≤ (a6 : Int)) = true := decide_eq_true (by omega)
            simp (disch := first | omega | (simp only [ln]; first | done | omega)) only [walkAll, walkL, walkK, wk, E, Nat.reduceEqDiff, Nat.reduceAdd, Nat.reduceSub, Nat.reduceLeDiff, Int.reduceLT, Int.reduceLE, Int.reduceAdd, Int.reduceSub, Int.reduceToNat, ↓reduceIte, j0, j1, j6, j9, q7]
            exact hn (by rw [e3, rQ1_nil h60 hdw]; rfl) a6
          | cons x r6 =>
            rw [hdw] at hd6
            obtain ⟨hc6, hd7⟩ := drop_cons hd6
            have hi6 := (List.getElem?_eq_some_iff.1 hc6).1
            have q7 : decide ((s.length : Int) ≤ (a6 : Int)) = false := decide_eq_false (by omega)
            have e4 : rAttr al r = some (rNm r, ((valS (r5.takeWhile (· != q))).1, (valS (r5.takeWhile (· != q))).2), r6) := by rw [e3, rQ1_cons h60 hdw]; rfl
            simp (disch := first | omega | (simp only [ln]; first | done | omega)) only [walkAll, walkL, walkK, wk, E, Nat.reduceEqDiff, Nat.reduceAdd, Nat.reduceSub, Nat.reduceLeDiff, Int.reduceLT, Int.reduceLE, Int.reduceAdd, Int.reduceSub, Int.reduceToNat, ↓reduceIte, j0, j1, j6, j9, q7, t1, t2, t4, hd5, t3]
            refine rvalue_c (r5.takeWhile (· != q)) (by omega) ?_
            generalize valS (r5.takeWhile (· != q)) = vv at *
            simp (disch := first | omega | (simp only [ln]; first | done | omega)) only [walkAll, walkL, walkK, wk, E, Nat.reduceEqDiff, Nat.reduceAdd, Nat.reduceSub, Nat.reduceLeDiff, Int.reduceLT, Int.reduceLE, Int.reduceAdd, Int.reduceSub, Int.reduceToNat, ↓reduceIte, j0, j1, j6, j9, q7, t1, t2, t4, hd5, t3]
            refine app_one (l := al.map atc) (ρ := ρ) (hl.setV b _) rfl rfl (by simp; omega) (fun v' σ' ρ' hl' hB => ?_)
            simp (disch := first | omega | (simp only [ln]; first | done | omega)) only [walkAll, walkL, walkK, wk, E, Nat.reduceEqDiff, Nat.reduceAdd, Nat.reduceSub, Nat.reduceLeDiff, Int.reduceLT, Int.reduceLE, Int.reduceAdd, Int.reduceSub, Int.reduceToNat, ↓reduceIte, j0, j1, j6, j9]
            refine hy _ _ _ _ e4 (a6 + 1) v' σ' ρ' (by omega) hd7 ?_ ?_
            · rw [List.map_append]; exact hl'
            · exact hB
        · intro g4 g5
          simp (disch := first | omega | (simp only [ln]; first | done | omega)) only [walkAll, walkL, walkK, wk, E, Nat.reduceEqDiff, Nat.reduceAdd, Nat.reduceSub, Nat.reduceLeDiff, Int.reduceLT, Int.reduceLE, Int.reduceAdd, Int.reduceSub, Int.reduceToNat, ↓reduceIte, k0, k1, k6, q0, hc, t0, bne, q34, q39, g4, g5, Bool.not_true, Bool.not_false]
          refine mark_loop (σ := σ) b s ty q hs hlt r5 (a4 + 1) _ _ hd5 (by omega) ?_ ?_ ?_ (fun h60 e2 j0 j1 j6 j9 => ?_) (fun h60 e2 a' j4 j5 => ?_)
          · rfl
          · simp [put, k0]
          · simp [put]
          rotate_left
          · simp (disch := first | omega | (simp only [ln]; first | done | omega)) only [walkAll, walkL, walkK, wk, E, Nat.reduceEqDiff, Nat.reduceAdd, Nat.reduceSub, Nat.reduceLeDiff, Int.reduceLT, Int.reduceLE, Int.reduceAdd, Int.reduceSub, Int.reduceToNat, ↓reduceIte, j4, j5]
            exact hn (by rw [e3, rQ1_bad h60]; rfl) a'
          have j0 : e2 0 = some (.vp b 0) := by rw [j0]; simp [put, k0]
          have j1 : e2 1 = some v := by rw [j1]; simp [put, k1]
          have j6 : e2 6 = some (.str (rNm r)) := by rw [j6]; simp [put, k6]
          have j9 : e2 9 = some (.int .i64 (a4 + 1 : Nat)) := by rw [j9]; simp [put]
          have hd6 := drop_tw (· != q) s (a4 + 1)
          have ha6 := tw_le (· != q) s (a4 + 1) (by omega)
          rw [hd5] at hd6 ha6
          have hA6 : ∃ a6, a6 = a4 + 1 + (r5.takeWhile (· != q)).length := ⟨_, rfl⟩
          obtain ⟨a6, hA6⟩ := hA6
          rw [← hA6] at hd6 ha6 ⊢
          have t1 : (((a4 + 1 : Nat) : Int)).toNat = a4 + 1 := by omega
          have t2 : a6 - (a4 + 1) = (r5.takeWhile (· != q)).length := by omega
          have t3 := takeWhile_take (· != q) r5
          have t4 : (((a6 : Nat) : Int)).toNat = a6 := by omega
          have tl : (r5.takeWhile (· != q)).length ≤ s.length := by omega
          cases hdw : r5.dropWhile (· != q) with
          | nil =>
            have hi : s.length ≤ a6 := by rw [hdw] at hd6; simpa using hd6
            have q7 : decide ((s.length : Int) ≤ (a6 : Int)) = true := decide_eq_true (by omega)
            simp (disch := first | omega | (simp only [ln]; first | done | omega)) only [walkAll, walkL, walkK, wk, E, Nat.reduceEqDiff, Nat.reduceAdd, Nat.reduceSub, Nat.reduceLeDiff, Int.reduceLT, Int.reduceLE, Int.reduceAdd, Int.reduceSub, Int.reduceToNat, ↓reduceIte, j0, j1, j6, j9, q7]
            exact hn (by rw [e3, rQ1_nil h60 hdw]; rfl) a6
          | cons x r6 =>
            rw [hdw] at hd6
            obtain ⟨hc6, hd7⟩ := drop_cons hd6
            have hi6 := (List.getElem?_eq_some_iff.1 hc6).1
            have q7 : decide ((s.length : Int) ≤ (a6 : Int)) = false := decide_eq_false (by omega)
            have e4 : rAttr al r = some (rNm r, ((valS (r5.takeWhile (· != q))).1, (valS (r5.takeWhile (· != q))).2), r6) := by rw [e3, rQ1_cons h60 hdw]; rfl
            simp (disch := first | omega | (simp only [ln]; first | done | omega)) only [walkAll, walkL, walkK, wk, E, Nat.reduceEqDiff, Nat.reduceAdd, Nat.reduceSub, Nat.reduceLeDiff, Int.reduceLT, Int.reduceLE, Int.reduceAdd, Int.reduceSub, Int.reduceToNat, ↓reduceIte, j0, j1, j6, j9, q7, t1, t2, t4, hd5, t3]
            refine rvalue_c (r5.takeWhile (· != q)) (by omega) ?_
            generalize valS (r5.takeWhile (· != q)) = vv at *
            simp (disch := first | omega | (simp only [ln]; first | done | omega)) only [walkAll, walkL, walkK, wk, E, Nat.reduceEqDiff, Nat.reduceAdd, Nat.reduceSub, Nat.reduceLeDiff, Int.reduceLT, Int.reduceLE, Int.reduceAdd, Int.reduceSub, Int.reduceToNat, ↓reduceIte, j0, j1, j6, j9, q7, t1, t2, t4, hd5, t3]
            refine app_one (l := al.map atc) (ρ := ρ) (hl.setV b _) rfl rfl (by simp; omega) (fun v' σ' ρ' hl' hB => ?_)
            simp (disch := first | omega | (simp only [ln]; first | done | omega)) only [walkAll, walkL, walkK, wk, E, Nat.reduceEqDiff, Nat.reduceAdd, Nat.reduceSub, Nat.reduceLeDiff, Int.reduceLT, Int.reduceLE, Int.reduceAdd, Int.reduceSub, Int.reduceToNat, ↓reduceIte, j0, j1, j6, j9]
            refine hy _ _ _ _ e4 (a6 + 1) v' σ' ρ' (by omega) hd7 ?_ ?_
            · rw [List.map_append]; exact hl'
            · exact hB
end
end Go.Ab.Sz
namespace Go.Ab.Sz
open Go Go.Ab Go.Proofs Go.RowKit
set_option maxRecDepth 40000
set_option linter.unusedSimpArgs false
/-- The rest of a beginning: its attributes, whether it is an empty one, what is left; none: it is none. -/
def rOpenL : Nat → List UInt8 → List (List UInt8 × List UInt8) → Option (List (List UInt8 × List UInt8) × Bool × List UInt8)
  | 0, _, _ => none
  | n + 1, s, al =>
    if Lib.hasPrefix (s.dropWhile blanksL.contains) [47, 62] then some (al, true, (s.dropWhile blanksL.contains).drop 2)
    else if Lib.hasPrefix (s.dropWhile blanksL.contains) [62] then some (al, false, (s.dropWhile blanksL.contains).drop 1)
    else if s.takeWhile blanksL.contains == [] then none
    else match rAttr al (s.dropWhile blanksL.contains) with
      | none => none
      | some x => if x.2.1.2 then rOpenL n x.2.2 (al ++ [(x.1, x.2.1.1)]) else none
def rOpen (r : List UInt8) : Option (Tok × List UInt8) :=
  if rNm r == [] then none else (rOpenL ((r.dropWhile withins.contains).length + 1) (r.dropWhile withins.contains) []).map fun x => (⟨1, rNm r, [], x.1, x.2.1⟩, x.2.2)
theorem rQ1_len {q : UInt8} {r v t : List UInt8} (h : rQ1 q r = some (v, t)) : t.length < r.length := by
  unfold rQ1 at h
  split at h
  · cases h
  · split at h
    · cases h
    · rename_i hd
      cases h
      have := (List.dropWhile_suffix (l := r) (· != q)).length_le
      rw [hd] at this
      simp only [List.length_cons] at this
      omega
theorem rAttr_len {al : List (List UInt8 × List UInt8)} {r n : List UInt8} {v : List UInt8 × Bool} {t : List UInt8} (h : rAttr al r = some (n, v, t)) : t.length < r.length := by
  have h2 : (rA2 r).length ≤ r.length := Nat.le_trans (dropWhile_len _ _) (dropWhile_len _ _)
  have h4 : (rA4 r).length ≤ (rA2 r).length := Nat.le_trans (dropWhile_len _ _) (by simp)
  unfold rAttr at h
  split at h
  · cases h
  · split at h
    · cases h
    · revert h
      cases hr4 : rA4 r with
      | nil => intro h; cases h
      | cons q r5 =>
        rw [hr4] at h4
        simp only [List.length_cons] at h4
        intro h
        simp only [rQuote] at h
        split at h
        · cases hq : rQ1 q r5 with
          | none => rw [hq] at h; cases h
          | some x =>
            rw [hq] at h
            have := rQ1_len (v := x.1) (t := x.2) hq
            simp only [Option.map_some, Option.some.injEq, Prod.mk.injEq] at h
            rw [← h.2.2]; omega
        · cases h
section
variable {m : Int} {σ : St} {K : AV → St → Prop}
theorem ropen_loop (b : Nat) (ty : TypeId) (s : List UInt8) (hs : s.length < 100000) (name : List UInt8) (hb : b < nvs σ) {Q : EQ} : ∀ (n : Nat) (r : List UInt8) (a : Nat) (al : List (List UInt8 × List UInt8)) (v : AV) (ρ : Option Nat) (τ : St) (e : Env) (x : List AV),
    r.length < n → s.drop a = r → a ≤ s.length → al.length + r.length < 100000 → Lst 64 2 τ v (al.map atc) ρ → (∀ k, ρ = some k → nrs σ ≤ k) → Grown (σ.setV b (.cells ty [.str s, .int .i64 a])) τ → getV τ b = some (.cells ty [.str s, .int .i64 a]) →
    getV τ (nvs σ) = some (.cells 30 x) → x.length = 5 → getV τ (nvs σ + 1) = some (.cells 30 [.int .i64 1, .str name, .str [], v, .bool false]) →
    e 0 = some (.vp b 0) → e 2 = some (.vp (nvs σ) 0) → e 4 = some (.vp (nvs σ + 1) 0) → e 5 = some (.bool true) →
    (∀ e' τ' v' ρ' al' em t (a' : Nat), rOpenL n r al = some (al', em, t) → a' ≤ s.length → s.drop a' = t → Lst 64 2 τ' v' (al'.map atc) ρ' → (∀ k, ρ' = some k → nrs σ ≤ k) → Grown (σ.setV b (.cells ty [.str s, .int .i64 a'])) τ' →
      getV τ' (nvs σ) = some (.cells 30 [.int .i64 1, .str name, .str [], v', .bool em]) → e' 2 = some (.vp (nvs σ) 0) → e' 3 = some (.bool true) → Q .ret e' τ') →
    (∀ e' τ' v' ρ' (l' : List (List UInt8 × List UInt8)) (a' : Nat), rOpenL n r al = none → Lst 64 2 τ' v' (l'.map atc) ρ' → (∀ k, ρ' = some k → nrs σ ≤ k) → Grown (σ.setV b (.cells ty [.str s, .int .i64 a'])) τ' →
      getV τ' (nvs σ) = some (.cells 30 [.int .i64 1, .str name, .str [], v', .bool false]) → e' 2 = some (.vp (nvs σ) 0) → e' 3 = some (.bool false) → Q .ret e' τ') →
    (∀ e' τ' v' ρ' (l' : List (List UInt8 × List UInt8)) (a' : Nat) x', rOpenL n r al = none → Lst 64 2 τ' v' (l'.map atc) ρ' → (∀ k, ρ' = some k → nrs σ ≤ k) → Grown (σ.setV b (.cells ty [.str s, .int .i64 a'])) τ' →
      getV τ' (nvs σ) = some (.cells 30 x') → x'.length = 5 → getV τ' (nvs σ + 1) = some (.cells 30 [.int .i64 1, .str name, .str [], v', .bool false]) → e' 2 = some (.vp (nvs σ) 0) → e' 4 = some (.vp (nvs σ + 1) 0) → Q (.exit 0) e' τ') →
    LoopC Tryz.prog tt (gD m) l56_0 Q e τ := by
  intro n
  induction n with
  | zero => intro r a al v ρ τ e x h; omega
  | succ n ih =>
    intro r a al v ρ τ e x hn hd ha hl2 hl hk hg hv hr hx ht h0 h2 h4 h5 hy hf hz
    obtain ⟨x0, x1, x2, x3, x4, rfl⟩ : ∃ x0 x1 x2 x3 x4, x = [x0, x1, x2, x3, x4] := by
      match x, hx with
      | [a, b, c, d, e], _ => exact ⟨_, _, _, _, _, rfl⟩
    have hnv := hg.nvs
    simp only [nvsR] at hnv
    have hlt := getV_lt ht
    obtain ⟨hvc, hvo⟩ := hl.cells
    have hd1 := drop_tw blanksL.contains s a
    have ha1 := tw_le blanksL.contains s a ha
    have hlen : r.length + a = s.length := by rw [← hd]; simp; omega
    refine LoopC_unfold tok fm ?_
    simp (disch := first | omega | (simp only [ln]; first | done | omega)) only [walkAll, walkL, walkK, wk, E, Nat.reduceEqDiff, Nat.reduceAdd, Nat.reduceSub, Nat.reduceLeDiff, Int.reduceLT, Int.reduceLE, Int.reduceAdd, Int.reduceSub, Int.reduceToNat, ↓reduceIte, l56_0x, l56_0b, h0, h2, h4, h5, ht, hr]
    refine blanks_c b s ty a hv ha (by omega) ?_
    rw [hd] at hd1 ha1 ⊢
    obtain ⟨a1, hA1⟩ : ∃ a1, a1 = a + (r.takeWhile blanksL.contains).length := ⟨_, rfl⟩
    rw [← hA1] at hd1 ha1 ⊢
    have hlen1 : (r.dropWhile blanksL.contains).length + a1 = s.length := by rw [← hd1]; simp; omega
    have hdl := dropWhile_len blanksL.contains r
    simp (disch := first | omega | (simp only [ln]; first | done | omega)) only [walkAll, walkL, walkK, wk, E, Nat.reduceEqDiff, Nat.reduceAdd, Nat.reduceSub, Nat.reduceLeDiff, Int.reduceLT, Int.reduceLE, Int.reduceAdd, Int.reduceSub, Int.reduceToNat, ↓reduceIte, h0, h2, h4, h5, ht, hr]
    refine is_c b s [47, 62] ty a1 ?_ ha1 (by omega) (by decide) (fun g1 => ?_) (fun g1 => ?_)
    · simp (disch := first | omega | (simp only [ln]; first | done | omega)) only [walkAll, walkL, walkK, wk, E, Nat.reduceEqDiff, Nat.reduceAdd, Nat.reduceSub, Nat.reduceLeDiff, Int.reduceLT, Int.reduceLE, Int.reduceAdd, Int.reduceSub, Int.reduceToNat, ↓reduceIte, Wk]
    · rw [hd1] at g1
      have hp := hasPrefix_len g1
      have hp' : (r.dropWhile blanksL.contains).length ≥ 2 := by simp at hp; omega
      simp (disch := first | omega | (simp only [ln]; first | done | omega)) only [walkAll, walkL, walkK, wk, E, Nat.reduceEqDiff, Nat.reduceAdd, Nat.reduceSub, Nat.reduceLeDiff, Int.reduceLT, Int.reduceLE, Int.reduceAdd, Int.reduceSub, Int.reduceToNat, ↓reduceIte, h0, h2, h4, h5, ht, hr, hvc, hvo]
      refine hy _ _ v ρ al true ((r.dropWhile blanksL.contains).drop 2) (a1 + 2) ?_ ?_ ?_ hl hk ?_ ?_ ?_ ?_
      · simp only [rOpenL, g1]; rfl
      · omega
      · rw [← List.drop_drop, hd1]
      · repeat first | exact Grown.refl _ | assumption | apply Grown.pushV | apply Grown.pushR | (refine Grown.setV ?_ (by first | omega | (simp only [nvsR]; first | done | omega))) | (refine Grown.setOld ‹_› (by first | omega | (simp only [nvsR]; first | done | omega)) _) | (refine Grown.setOld0 ?_ (by first | omega | (simp only [nvsR]; first | done | omega)) _)
      · simp (disch := first | omega | (simp only [ln]; first | done | omega)) only [walkAll, walkL, walkK, wk, E, Nat.reduceEqDiff, Nat.reduceAdd, Nat.reduceSub, Nat.reduceLeDiff, Int.reduceLT, Int.reduceLE, Int.reduceAdd, Int.reduceSub, Int.reduceToNat, ↓reduceIte]
      · simp [put, h2]
      · simp [put]
    rw [hd1] at g1
    simp (disch := first | omega | (simp only [ln]; first | done | omega)) only [walkAll, walkL, walkK, wk, E, Nat.reduceEqDiff, Nat.reduceAdd, Nat.reduceSub, Nat.reduceLeDiff, Int.reduceLT, Int.reduceLE, Int.reduceAdd, Int.reduceSub, Int.reduceToNat, ↓reduceIte, h0, h2, h4, h5, ht, hr]
    refine is_c b s [62] ty a1 ?_ ha1 (by omega) (by decide) (fun g2 => ?_) (fun g2 => ?_)
    · simp (disch := first | omega | (simp only [ln]; first | done | omega)) only [walkAll, walkL, walkK, wk, E, Nat.reduceEqDiff, Nat.reduceAdd, Nat.reduceSub, Nat.reduceLeDiff, Int.reduceLT, Int.reduceLE, Int.reduceAdd, Int.reduceSub, Int.reduceToNat, ↓reduceIte, Wk]
    · rw [hd1] at g2
      have hp := hasPrefix_len g2
      have hp' : (r.dropWhile blanksL.contains).length ≥ 1 := by simp at hp; omega
      simp (disch := first | omega | (simp only [ln]; first | done | omega)) only [walkAll, walkL, walkK, wk, E, Nat.reduceEqDiff, Nat.reduceAdd, Nat.reduceSub, Nat.reduceLeDiff, Int.reduceLT, Int.reduceLE, Int.reduceAdd, Int.reduceSub, Int.reduceToNat, ↓reduceIte, h0, h2, h4, h5, ht, hr, hvc, hvo]
      refine hy _ _ v ρ al false ((r.dropWhile blanksL.contains).drop 1) (a1 + 1) ?_ ?_ ?_ hl hk ?_ ?_ ?_ ?_
      · simp only [rOpenL, g1, g2]; rfl
      · omega
      · rw [← List.drop_drop, hd1]
      · repeat first | exact Grown.refl _ | assumption | apply Grown.pushV | apply Grown.pushR | (refine Grown.setV ?_ (by first | omega | (simp only [nvsR]; first | done | omega))) | (refine Grown.setOld ‹_› (by first | omega | (simp only [nvsR]; first | done | omega)) _) | (refine Grown.setOld0 ?_ (by first | omega | (simp only [nvsR]; first | done | omega)) _)
      · simp (disch := first | omega | (simp only [ln]; first | done | omega)) only [walkAll, walkL, walkK, wk, E, Nat.reduceEqDiff, Nat.reduceAdd, Nat.reduceSub, Nat.reduceLeDiff, Int.reduceLT, Int.reduceLE, Int.reduceAdd, Int.reduceSub, Int.reduceToNat, ↓reduceIte]
      · simp [put, h2]
      · simp [put]
    rw [hd1] at g2
    simp (disch := first | omega | (simp only [ln]; first | done | omega)) only [walkAll, walkL, walkK, wk, E, Nat.reduceEqDiff, Nat.reduceAdd, Nat.reduceSub, Nat.reduceLeDiff, Int.reduceLT, Int.reduceLE, Int.reduceAdd, Int.reduceSub, Int.reduceToNat, ↓reduceIte, h0, h2, h4, h5, ht, hr]
    cases g3 : ((((r.takeWhile blanksL.contains).length : Nat) : Int) == 0) with
    | true =>
      have g3' : (r.takeWhile blanksL.contains == []) = true := by
        have : (r.takeWhile blanksL.contains).length = 0 := by have := beq_iff_eq.1 g3; omega
        rw [List.eq_nil_of_length_eq_zero this]; rfl
      simp (disch := first | omega | (simp only [ln]; first | done | omega)) only [walkAll, walkL, walkK, wk, E, Nat.reduceEqDiff, Nat.reduceAdd, Nat.reduceSub, Nat.reduceLeDiff, Int.reduceLT, Int.reduceLE, Int.reduceAdd, Int.reduceSub, Int.reduceToNat, ↓reduceIte, h0, h2, h4, h5, ht, hr, hvc, hvo, g3]
      refine hf _ _ v ρ al a1 ?_ hl hk ?_ ?_ ?_ ?_
      · simp only [rOpenL, g1, g2, g3']; rfl
      · repeat first | exact Grown.refl _ | assumption | apply Grown.pushV | apply Grown.pushR | (refine Grown.setV ?_ (by first | omega | (simp only [nvsR]; first | done | omega))) | (refine Grown.setOld ‹_› (by first | omega | (simp only [nvsR]; first | done | omega)) _) | (refine Grown.setOld0 ?_ (by first | omega | (simp only [nvsR]; first | done | omega)) _)
      · simp (disch := first | omega | (simp only [ln]; first | done | omega)) only [walkAll, walkL, walkK, wk, E, Nat.reduceEqDiff, Nat.reduceAdd, Nat.reduceSub, Nat.reduceLeDiff, Int.reduceLT, Int.reduceLE, Int.reduceAdd, Int.reduceSub, Int.reduceToNat, ↓reduceIte]
      · simp [put, h2]
      · simp [put]
    | false =>
      have g3' : (r.takeWhile blanksL.contains == []) = false := by
        rw [beq_eq_false_iff_ne] at g3 ⊢
        intro h; rw [h] at g3; exact g3 rfl
      have hpos : 0 < (r.takeWhile blanksL.contains).length := by rw [beq_eq_false_iff_ne] at g3; omega
      have hdl2 : (r.dropWhile blanksL.contains).length < r.length := by omega
      have ev : rOpenL (n + 1) r al = match rAttr al (r.dropWhile blanksL.contains) with
          | none => none
          | some x => if x.2.1.2 then rOpenL n x.2.2 (al ++ [(x.1, x.2.1.1)]) else none := by simp only [rOpenL, g1, g2, g3']; rfl
      simp (disch := first | omega | (simp only [ln]; first | done | omega)) only [walkAll, walkL, walkK, wk, E, Nat.reduceEqDiff, Nat.reduceAdd, Nat.reduceSub, Nat.reduceLeDiff, Int.reduceLT, Int.reduceLE, Int.reduceAdd, Int.reduceSub, Int.reduceToNat, ↓reduceIte, h0, h2, h4, h5, ht, hr, hvc, hvo, g3]
      refine rattr_c b s ty a1 al v ρ ?_ ha1 (by omega) (by omega) (by exact hl) (fun hN a' => ?_) (fun nm vv ok rr hS a' v' σ' ρ' ha' hd' hl' hB => ?_)
      · simp (disch := first | omega | (simp only [ln]; first | done | omega)) only [walkAll, walkL, walkK, wk, E, Nat.reduceEqDiff, Nat.reduceAdd, Nat.reduceSub, Nat.reduceLeDiff, Int.reduceLT, Int.reduceLE, Int.reduceAdd, Int.reduceSub, Int.reduceToNat, ↓reduceIte, Wk]
      · rw [hd1] at hN
        simp (disch := first | omega | (simp only [ln]; first | done | omega)) only [walkAll, walkL, walkK, wk, E, Nat.reduceEqDiff, Nat.reduceAdd, Nat.reduceSub, Nat.reduceLeDiff, Int.reduceLT, Int.reduceLE, Int.reduceAdd, Int.reduceSub, Int.reduceToNat, ↓reduceIte, h0, h2, h4, h5, ht, hr]
        refine LoopC_unfold tok fm ?_
        simp (disch := first | omega | (simp only [ln]; first | done | omega)) only [walkAll, walkL, walkK, wk, E, Nat.reduceEqDiff, Nat.reduceAdd, Nat.reduceSub, Nat.reduceLeDiff, Int.reduceLT, Int.reduceLE, Int.reduceAdd, Int.reduceSub, Int.reduceToNat, ↓reduceIte, l56_0x, l56_0b, h0, h2, h4, h5]
        refine hz _ _ .nils none [] a' [x0, x1, x2, x3, x4] ?_ (Lst.nil _ _ _) (fun k h => by cases h) ?_ ?_ rfl ?_ ?_ ?_
        · rw [ev, hN]
        · repeat first | exact Grown.refl _ | assumption | apply Grown.pushV | apply Grown.pushR | (refine Grown.setV ?_ (by first | omega | (simp only [nvsR]; first | done | omega))) | (refine Grown.setOld ‹_› (by first | omega | (simp only [nvsR]; first | done | omega)) _) | (refine Grown.setOld0 ?_ (by first | omega | (simp only [nvsR]; first | done | omega)) _)
        · simp (disch := first | omega | (simp only [ln]; first | done | omega)) only [walkAll, walkL, walkK, wk, E, Nat.reduceEqDiff, Nat.reduceAdd, Nat.reduceSub, Nat.reduceLeDiff, Int.reduceLT, Int.reduceLE, Int.reduceAdd, Int.reduceSub, Int.reduceToNat, ↓reduceIte, hr]
        · simp (disch := first | omega | (simp only [ln]; first | done | omega)) only [walkAll, walkL, walkK, wk, E, Nat.reduceEqDiff, Nat.reduceAdd, Nat.reduceSub, Nat.reduceLeDiff, Int.reduceLT, Int.reduceLE, Int.reduceAdd, Int.reduceSub, Int.reduceToNat, ↓reduceIte]
        · simp [put, h2]
        · simp [put, h4]
      · rw [hd1] at hS
        have hB0 : (τ.setV b (.cells ty [.str s, .int .i64 a1])).setV b (.cells ty [.str s, .int .i64 a']) = τ.setV b (.cells ty [.str s, .int .i64 a']) := by simp (disch := first | omega | (simp only [ln]; first | done | omega)) only [walkAll, walkL, walkK, wk, E, Nat.reduceEqDiff, Nat.reduceAdd, Nat.reduceSub, Nat.reduceLeDiff, Int.reduceLT, Int.reduceLE, Int.reduceAdd, Int.reduceSub, Int.reduceToNat, ↓reduceIte]
        rw [hB0] at hB
        have hlt2 := rAttr_len hS
        have hgv : ∀ j, getV σ' j = getV (τ.setV b (.cells ty [.str s, .int .i64 a'])) j := fun j => by rw [hB.getV]
        have hnv' : nvs σ' = nvs τ := by rw [hB.nvs]; simp only [nvsR]
        obtain ⟨hvc', hvo'⟩ := hl'.cells
        have hv1 : getV σ' b = some (.cells ty [.str s, .int .i64 a']) := by rw [hgv]; simp (disch := first | omega | (simp only [ln]; first | done | omega)) only [walkAll, walkL, walkK, wk, E, Nat.reduceEqDiff, Nat.reduceAdd, Nat.reduceSub, Nat.reduceLeDiff, Int.reduceLT, Int.reduceLE, Int.reduceAdd, Int.reduceSub, Int.reduceToNat, ↓reduceIte]
        have hv2 : getV σ' (nvs σ) = some (.cells 30 [x0, x1, x2, x3, x4]) := by rw [hgv]; simp (disch := first | omega | (simp only [ln]; first | done | omega)) only [walkAll, walkL, walkK, wk, E, Nat.reduceEqDiff, Nat.reduceAdd, Nat.reduceSub, Nat.reduceLeDiff, Int.reduceLT, Int.reduceLE, Int.reduceAdd, Int.reduceSub, Int.reduceToNat, ↓reduceIte, hr]
        have hv3 : getV σ' (nvs σ + 1) = some (.cells 30 [.int .i64 1, .str name, .str [], v, .bool false]) := by rw [hgv]; simp (disch := first | omega | (simp only [ln]; first | done | omega)) only [walkAll, walkL, walkK, wk, E, Nat.reduceEqDiff, Nat.reduceAdd, Nat.reduceSub, Nat.reduceLeDiff, Int.reduceLT, Int.reduceLE, Int.reduceAdd, Int.reduceSub, Int.reduceToNat, ↓reduceIte, ht]
        have hk' : ∀ k, ρ' = some k → nrs σ ≤ k := fun k hk1 => by
          rcases hB.new with h | ⟨r, h, hle⟩
          · exact hk k (h ▸ hk1)
          · rw [hk1] at h; cases h
            have := hg.nrs
            simp only [nvsR] at this hle
            omega
        have hgr : Grown (σ.setV b (.cells ty [.str s, .int .i64 a'])) σ' := by
          refine hB.grown ?_ (fun k h => by simp only [nvsR]; exact hk k h)
          repeat first | exact Grown.refl _ | assumption | apply Grown.pushV | apply Grown.pushR | (refine Grown.setV ?_ (by first | omega | (simp only [nvsR]; first | done | omega))) | (refine Grown.setOld ‹_› (by first | omega | (simp only [nvsR]; first | done | omega)) _) | (refine Grown.setOld0 ?_ (by first | omega | (simp only [nvsR]; first | done | omega)) _)
        simp (disch := first | omega | (simp only [ln]; first | done | omega)) only [walkAll, walkL, walkK, wk, E, Nat.reduceEqDiff, Nat.reduceAdd, Nat.reduceSub, Nat.reduceLeDiff, Int.reduceLT, Int.reduceLE, Int.reduceAdd, Int.reduceSub, Int.reduceToNat, ↓reduceIte, h0, h2, h4, hv1, hv2, hv3, hvc', hvo']
        cases ok with
        | false =>
          refine LoopC_unfold tok fm ?_
          simp (disch := first | omega | (simp only [ln]; first | done | omega)) only [walkAll, walkL, walkK, wk, E, Nat.reduceEqDiff, Nat.reduceAdd, Nat.reduceSub, Nat.reduceLeDiff, Int.reduceLT, Int.reduceLE, Int.reduceAdd, Int.reduceSub, Int.reduceToNat, ↓reduceIte, l56_0x, l56_0b, h0, h2, h4, h5]
          refine hz _ _ v' ρ' (al ++ [(nm, vv)]) a' [x0, x1, x2, x3, x4] ?_ hl' hk' ?_ ?_ rfl ?_ ?_ ?_
          · rw [ev, hS]; rfl
          · repeat first | exact Grown.refl _ | assumption | apply Grown.pushV | apply Grown.pushR | (refine Grown.setV ?_ (by first | omega | (simp only [nvsR]; first | done | omega))) | (refine Grown.setOld ‹_› (by first | omega | (simp only [nvsR]; first | done | omega)) _) | (refine Grown.setOld0 ?_ (by first | omega | (simp only [nvsR]; first | done | omega)) _)
          · simp (disch := first | omega | (simp only [ln]; first | done | omega)) only [walkAll, walkL, walkK, wk, E, Nat.reduceEqDiff, Nat.reduceAdd, Nat.reduceSub, Nat.reduceLeDiff, Int.reduceLT, Int.reduceLE, Int.reduceAdd, Int.reduceSub, Int.reduceToNat, ↓reduceIte, hv2]
          · simp (disch := first | omega | (simp only [ln]; first | done | omega)) only [walkAll, walkL, walkK, wk, E, Nat.reduceEqDiff, Nat.reduceAdd, Nat.reduceSub, Nat.reduceLeDiff, Int.reduceLT, Int.reduceLE, Int.reduceAdd, Int.reduceSub, Int.reduceToNat, ↓reduceIte]
          · simp [put, h2]
          · simp [put, h4]
        | true =>
          have ev2 : rOpenL (n + 1) r al = rOpenL n rr (al ++ [(nm, vv)]) := by rw [ev, hS]; rfl
          rw [ev2] at hy hf hz
          refine ih rr a' (al ++ [(nm, vv)]) v' ρ' _ _ [x0, x1, x2, x3, x4] (by omega) hd' ha' (by simp; omega) hl' hk' ?_ ?_ ?_ rfl ?_ ?_ ?_ ?_ ?_ hy hf hz
          · repeat first | exact Grown.refl _ | assumption | apply Grown.pushV | apply Grown.pushR | (refine Grown.setV ?_ (by first | omega | (simp only [nvsR]; first | done | omega))) | (refine Grown.setOld ‹_› (by first | omega | (simp only [nvsR]; first | done | omega)) _) | (refine Grown.setOld0 ?_ (by first | omega | (simp only [nvsR]; first | done | omega)) _)
          · simp (disch := first | omega | (simp only [ln]; first | done | omega)) only [walkAll, walkL, walkK, wk, E, Nat.reduceEqDiff, Nat.reduceAdd, Nat.reduceSub, Nat.reduceLeDiff, Int.reduceLT, Int.reduceLE, Int.reduceAdd, Int.reduceSub, Int.reduceToNat, ↓reduceIte, hv1]
          · simp (disch := first | omega | (simp only [ln]; first | done | omega)) only [walkAll, walkL, walkK, wk, E, Nat.reduceEqDiff, Nat.reduceAdd, Nat.reduceSub, Nat.reduceLeDiff, Int.reduceLT, Int.reduceLE, Int.reduceAdd, Int.reduceSub, Int.reduceToNat, ↓reduceIte, hv2]
          · simp (disch := first | omega | (simp only [ln]; first | done | omega)) only [walkAll, walkL, walkK, wk, E, Nat.reduceEqDiff, Nat.reduceAdd, Nat.reduceSub, Nat.reduceLeDiff, Int.reduceLT, Int.reduceLE, Int.reduceAdd, Int.reduceSub, Int.reduceToNat, ↓reduceIte, hv3]
          · simp [put, h0]
          · simp [put, h2]
          · simp [put, h4]
          · simp [put]
end
end Go.Ab.Sz
namespace Go.Ab.Sz
open Go Go.Ab Go.Proofs Go.RowKit
set_option maxRecDepth 40000
set_option linter.unusedSimpArgs false
def rTok (r : List UInt8) : Option (Tok × List UInt8) :=
  if Lib.hasPrefix r [60, 47] then if rNm (r.drop 2) == [] || !Lib.hasPrefix (rA2 (r.drop 2)) [62] then none else some (⟨2, rNm (r.drop 2), [], [], false⟩, (rA2 (r.drop 2)).drop 1)
  else if Lib.hasPrefix r [60] then rOpen (r.drop 1)
  else if (valS (r.takeWhile (· != 60))).2 then some (⟨3, [], (valS (r.takeWhile (· != 60))).1, [], false⟩, r.dropWhile (· != 60)) else none
def rToksL : Nat → List UInt8 → Option (List Tok)
  | 0, _ => none
  | n + 1, s => if s == [] then some [] else match rTok s with
    | none => none
    | some x => (rToksL n x.2).map (x.1 :: ·)
def rToks (s : List UInt8) : List Tok × Int :=
  if 4096 < s.length then ([], 4) else if !utfB s then ([], 7) else match rToksL ((Lib.trimPrefix s prologL).length + 1) (Lib.trimPrefix s prologL) with
    | some l => (l, 0)
    | none => ([], 9)
theorem rA2_len (r : List UInt8) : (rA2 r).length ≤ r.length := Nat.le_trans (dropWhile_len _ _) (dropWhile_len _ _)
theorem rOpenL_len : ∀ (n : Nat) (r : List UInt8) (al l : List (List UInt8 × List UInt8)) (em : Bool) (t : List UInt8), rOpenL n r al = some (l, em, t) → t.length ≤ r.length
  | 0, r, al, l, em, t, h => by cases h
  | n + 1, r, al, l, em, t, h => by
    have d1 := dropWhile_len blanksL.contains r
    simp only [rOpenL] at h
    split at h
    · cases h; simp; omega
    · split at h
      · cases h; simp; omega
      · split at h
        · cases h
        · split at h
          · cases h
          · rename_i x hx
            have := rAttr_len (n := x.1) (v := x.2.1) (t := x.2.2) hx
            split at h
            · have := rOpenL_len n _ _ _ _ _ h
              omega
            · cases h
theorem rOpen_len {r t : List UInt8} {k : Tok} (h : rOpen r = some (k, t)) : t.length ≤ r.length := by
  unfold rOpen at h
  split at h
  · cases h
  · cases hq : rOpenL ((r.dropWhile withins.contains).length + 1) (r.dropWhile withins.contains) [] with
    | none => rw [hq] at h; cases h
    | some x =>
      rw [hq] at h
      have := rOpenL_len _ _ _ x.1 x.2.1 x.2.2 hq
      have d1 := dropWhile_len withins.contains r
      simp only [Option.map_some, Option.some.injEq, Prod.mk.injEq] at h
      rw [← h.2]; omega
theorem rTok_len {r t : List UInt8} {k : Tok} (hr : r ≠ []) (h : rTok r = some (k, t)) : t.length < r.length := by
  unfold rTok at h
  split at h
  · rename_i h1
    have := hasPrefix_len h1
    have := rA2_len (r.drop 2)
    simp only [List.length_cons, List.length_nil, List.length_drop] at *
    split at h
    · cases h
    · cases h; simp only [List.length_drop] at *; omega
  · split at h
    · rename_i h1
      have := hasPrefix_len h1
      have := rOpen_len h
      simp only [List.length_cons, List.length_nil, List.length_drop] at *
      omega
    · rename_i h1
      split at h
      · cases h
        cases r with
        | nil => exact absurd rfl hr
        | cons c r =>
          have hc : c ≠ 60 := fun e => h1 (by rw [e, pre_cons, pre_nil]; rfl)
          rw [List.dropWhile_cons, if_pos (by simpa using hc)]
          have := dropWhile_len (· != 60) r
          simp only [List.length_cons]; omega
      · cases h
section
variable {m : Int} {σ : St} {K : AV → St → Prop}
theorem ropen_c (b : Nat) (s : List UInt8) (ty : TypeId) (a : Nat) (hv : Wk σ b ty s a) (ha : a ≤ s.length) (hs : s.length < 100000)
    (hn : rOpen (s.drop a) = none → ∀ (t : Tok) (a' : Nat), K (.tup [.agg t.c, .bool false]) (σ.setV b (.cells ty [.str s, .int .i64 a'])))
    (hy : ∀ t r, rOpen (s.drop a) = some (t, r) → ∀ a' : Nat, a' ≤ s.length → s.drop a' = r → K (.tup [.agg t.c, .bool true]) (σ.setV b (.cells ty [.str s, .int .i64 a']))) :
    ACalls Tryz.prog (gD m) 56 [.vp b 0] σ K := by
  refine ACalls.closeE ?_
  have hlt := getV_lt hv
  have near : ∀ a' : Nat, Near σ (σ.setV b (.cells ty [.str s, .int .i64 a'])) := fun a' => Near.setV (.refl σ) (by simp only [dataR])
  have hd1 := drop_tw withins.contains s a
  have ha1 := tw_le withins.contains s a ha
  have hnm : nameR ((s.drop a).takeWhile withins.contains) = rNm (s.drop a) := rfl
  refine ACalls_fn tok fm (fk56 _) ?_
  simp (disch := first | omega | (simp only [ln]; first | done | omega)) only [walkAll, walkL, walkK, wk, E, Nat.reduceEqDiff, Nat.reduceAdd, Nat.reduceSub, Nat.reduceLeDiff, Int.reduceLT, Int.reduceLE, Int.reduceAdd, Int.reduceSub, Int.reduceToNat, ↓reduceIte, c56, hv]
  refine rname_c b s ty a ?_ ha (by omega) ?_
  · simp (disch := first | omega | (simp only [ln]; first | done | omega)) only [walkAll, walkL, walkK, wk, E, Nat.reduceEqDiff, Nat.reduceAdd, Nat.reduceSub, Nat.reduceLeDiff, Int.reduceLT, Int.reduceLE, Int.reduceAdd, Int.reduceSub, Int.reduceToNat, ↓reduceIte, Wk, hv]
  rw [hnm]
  have hlr : (s.drop a).length ≤ s.length := by simp
  generalize hr : s.drop a = r at *
  have hdl := dropWhile_len withins.contains r
  obtain ⟨a1, hA1⟩ : ∃ a1, a1 = a + (r.takeWhile withins.contains).length := ⟨_, rfl⟩
  rw [← hA1] at hd1 ha1 ⊢
  simp (disch := first | omega | (simp only [ln]; first | done | omega)) only [walkAll, walkL, walkK, wk, E, Nat.reduceEqDiff, Nat.reduceAdd, Nat.reduceSub, Nat.reduceLeDiff, Int.reduceLT, Int.reduceLE, Int.reduceAdd, Int.reduceSub, Int.reduceToNat, ↓reduceIte, bne]
  cases g1 : (rNm r == []) with
  | true =>
    have er : rOpen r = none := by unfold rOpen; rw [g1]; rfl
    simp (disch := first | omega | (simp only [ln]; first | done | omega)) only [walkAll, walkL, walkK, wk, E, Nat.reduceEqDiff, Nat.reduceAdd, Nat.reduceSub, Nat.reduceLeDiff, Int.reduceLT, Int.reduceLE, Int.reduceAdd, Int.reduceSub, Int.reduceToNat, ↓reduceIte, Bool.not_true]
    refine LoopC_unfold tok fm ?_
    simp (disch := first | omega | (simp only [ln]; first | done | omega)) only [walkAll, walkL, walkK, wk, E, Nat.reduceEqDiff, Nat.reduceAdd, Nat.reduceSub, Nat.reduceLeDiff, Int.reduceLT, Int.reduceLE, Int.reduceAdd, Int.reduceSub, Int.reduceToNat, ↓reduceIte, l56_0x, l56_0b]
    refine ⟨_, _, near a1, ?_, ⟨?_, .inl rfl⟩, hn er ⟨1, rNm r, [], [], false⟩ a1⟩
    · simp only [dataR, tok_data]
    · repeat first | exact Grown.refl _ | assumption | apply Grown.pushV | apply Grown.pushR | (refine Grown.setV ?_ (by first | omega | (simp only [nvsR]; first | done | omega))) | (refine Grown.setOld ‹_› (by first | omega | (simp only [nvsR]; first | done | omega)) _) | (refine Grown.setOld0 ?_ (by first | omega | (simp only [nvsR]; first | done | omega)) _)
  | false =>
    simp (disch := first | omega | (simp only [ln]; first | done | omega)) only [walkAll, walkL, walkK, wk, E, Nat.reduceEqDiff, Nat.reduceAdd, Nat.reduceSub, Nat.reduceLeDiff, Int.reduceLT, Int.reduceLE, Int.reduceAdd, Int.reduceSub, Int.reduceToNat, ↓reduceIte, Bool.not_false]
    have er : rOpen r = (rOpenL ((r.dropWhile withins.contains).length + 1) (r.dropWhile withins.contains) []).map fun x => (⟨1, rNm r, [], x.1, x.2.1⟩, x.2.2) := by unfold rOpen; rw [g1]; rfl
    refine ropen_loop (σ := σ) b ty s hs (rNm r) hlt ((r.dropWhile withins.contains).length + 1) (r.dropWhile withins.contains) a1 [] .nils none _ _ [.int .i64 0, .str [], .str [], .nils, .bool false] (by omega) hd1 ha1 (by simp; omega) (Lst.nil _ _ _) (fun k h => by cases h) ?_ ?_ ?_ rfl ?_ (by simp [put, E]) (by simp [put]) (by simp [put]) (by simp [put]) ?_ ?_ ?_
    · repeat first | exact Grown.refl _ | assumption | apply Grown.pushV | apply Grown.pushR | (refine Grown.setV ?_ (by first | omega | (simp only [nvsR]; first | done | omega))) | (refine Grown.setOld ‹_› (by first | omega | (simp only [nvsR]; first | done | omega)) _) | (refine Grown.setOld0 ?_ (by first | omega | (simp only [nvsR]; first | done | omega)) _)
    · simp (disch := first | omega | (simp only [ln]; first | done | omega)) only [walkAll, walkL, walkK, wk, E, Nat.reduceEqDiff, Nat.reduceAdd, Nat.reduceSub, Nat.reduceLeDiff, Int.reduceLT, Int.reduceLE, Int.reduceAdd, Int.reduceSub, Int.reduceToNat, ↓reduceIte]
    · simp (disch := first | omega | (simp only [ln]; first | done | omega)) only [walkAll, walkL, walkK, wk, E, Nat.reduceEqDiff, Nat.reduceAdd, Nat.reduceSub, Nat.reduceLeDiff, Int.reduceLT, Int.reduceLE, Int.reduceAdd, Int.reduceSub, Int.reduceToNat, ↓reduceIte]
    · simp (disch := first | omega | (simp only [ln]; first | done | omega)) only [walkAll, walkL, walkK, wk, E, Nat.reduceEqDiff, Nat.reduceAdd, Nat.reduceSub, Nat.reduceLeDiff, Int.reduceLT, Int.reduceLE, Int.reduceAdd, Int.reduceSub, Int.reduceToNat, ↓reduceIte]
    · intro e' τ' v' ρ' al' em t a' hS ha' hd' hl hk hg hr2 h2 h3
      obtain ⟨hvc, hvo⟩ := hl.cells
      simp (disch := first | omega | (simp only [ln]; first | done | omega)) only [walkAll, walkL, walkK, wk, E, Nat.reduceEqDiff, Nat.reduceAdd, Nat.reduceSub, Nat.reduceLeDiff, Int.reduceLT, Int.reduceLE, Int.reduceAdd, Int.reduceSub, Int.reduceToNat, ↓reduceIte, h2, h3, hr2]
      exact ⟨_, _, near a', by (simp only [dataR, tok_data]; exact ⟨⟨lsv_data (atc_data _), trivial⟩, trivial⟩), close_lst hl hg hk (fun x => .tup [.agg [.int .i64 1, .str (rNm r), .str [], x, .bool em], .bool true]) (fun k els => by simp only [frzR]), hy ⟨1, rNm r, [], al', em⟩ t (by rw [er, hS]; rfl) a' ha' hd'⟩
    · intro e' τ' v' ρ' l' a' hS hl hk hg hr2 h2 h3
      obtain ⟨hvc, hvo⟩ := hl.cells
      simp (disch := first | omega | (simp only [ln]; first | done | omega)) only [walkAll, walkL, walkK, wk, E, Nat.reduceEqDiff, Nat.reduceAdd, Nat.reduceSub, Nat.reduceLeDiff, Int.reduceLT, Int.reduceLE, Int.reduceAdd, Int.reduceSub, Int.reduceToNat, ↓reduceIte, h2, h3, hr2]
      exact ⟨_, _, near a', by (simp only [dataR, tok_data]; exact ⟨⟨lsv_data (atc_data _), trivial⟩, trivial⟩), close_lst hl hg hk (fun x => .tup [.agg [.int .i64 1, .str (rNm r), .str [], x, .bool false], .bool false]) (fun k els => by simp only [frzR]), hn (by rw [er, hS]; rfl) ⟨1, rNm r, [], l', false⟩ a'⟩
    · intro e' τ' v' ρ' l' a' x' hS hl hk hg hr2 hx ht h2 h4
      obtain ⟨x0, x1, x2, x3, x4, rfl⟩ : ∃ x0 x1 x2 x3 x4, x' = [x0, x1, x2, x3, x4] := by
        match x', hx with
        | [a, b, c, d, e], _ => exact ⟨_, _, _, _, _, rfl⟩
      obtain ⟨hvc, hvo⟩ := hl.cells
      have hlt2 := getV_lt ht
      have hnv := hg.nvs
      simp only [nvsR] at hnv
      simp (disch := first | omega | (simp only [ln]; first | done | omega)) only [walkAll, walkL, walkK, wk, E, Nat.reduceEqDiff, Nat.reduceAdd, Nat.reduceSub, Nat.reduceLeDiff, Int.reduceLT, Int.reduceLE, Int.reduceAdd, Int.reduceSub, Int.reduceToNat, ↓reduceIte, h2, h4, hr2, ht, hvc, hvo]
      refine ⟨_, _, near a', ?_, close_lst (hl.setV _ _) (Grown.setV hg (by simp only [nvsR]; omega)) hk (fun x => .tup [.agg [.int .i64 1, .str (rNm r), .str [], x, .bool false], .bool false]) (fun k els => by simp only [frzR]), hn (by rw [er, hS]; rfl) ⟨1, rNm r, [], l', false⟩ a'⟩
      simp only [dataR, tok_data]
      exact ⟨⟨lsv_data (atc_data _), trivial⟩, trivial⟩
theorem txt_loop (b : Nat) (s : List UInt8) (ty : TypeId) (hs : s.length < 1000000000) (hb : b < nvs σ) (w0 : VB) {Q : EQ} : ∀ (rest : List UInt8) (i : Nat) (τ : St) (e : Env), s.drop i = rest → i ≤ s.length → τ = (σ.setV b (.cells ty [.str s, .int .i64 i])).pushV w0 → e 0 = some (.vp b 0) →
    (∀ e', e' 0 = e 0 → e' 2 = e 2 → e' 5 = e 5 → Q (.exit 0) e' ((σ.setV b (.cells ty [.str s, .int .i64 (i + (rest.takeWhile (· != 60)).length : Nat)])).pushV w0)) →
    LoopC Tryz.prog tt (gD m) l34_0 Q e τ := by
  intro rest
  induction rest with
  | nil =>
    intro i τ e hd hle hτ h0 hx
    have hv : getV τ b = some (.cells ty [.str s, .int .i64 i]) := by rw [hτ]; simp (disch := first | omega | (simp only [ln]; first | done | omega)) only [walkAll, walkL, walkK, wk, E, Nat.reduceEqDiff, Nat.reduceAdd, Nat.reduceSub, Nat.reduceLeDiff, Int.reduceLT, Int.reduceLE, Int.reduceAdd, Int.reduceSub, Int.reduceToNat, ↓reduceIte]
    have hi : s.length ≤ i := by simpa using hd
    have hbb : decide ((i : Int) < (s.length : Int)) = false := by simp; omega
    refine LoopC_unfold tok fm ?_
    simp (disch := first | omega | (simp only [ln]; first | done | omega)) only [walkAll, walkL, walkK, wk, E, Nat.reduceEqDiff, Nat.reduceAdd, Nat.reduceSub, Nat.reduceLeDiff, Int.reduceLT, Int.reduceLE, Int.reduceAdd, Int.reduceSub, Int.reduceToNat, ↓reduceIte, l34_0x, l34_0b, h0, hv, hbb]
    rw [hτ]
    exact hx _ (by simp [put]) (by simp [put]) (by simp [put])
  | cons c rest ih =>
    intro i τ e hd hle hτ h0 hx
    have hv : getV τ b = some (.cells ty [.str s, .int .i64 i]) := by rw [hτ]; simp (disch := first | omega | (simp only [ln]; first | done | omega)) only [walkAll, walkL, walkK, wk, E, Nat.reduceEqDiff, Nat.reduceAdd, Nat.reduceSub, Nat.reduceLeDiff, Int.reduceLT, Int.reduceLE, Int.reduceAdd, Int.reduceSub, Int.reduceToNat, ↓reduceIte]
    obtain ⟨hc, hd'⟩ := drop_cons hd
    have hi := (List.getElem?_eq_some_iff.1 hc).1
    have hbb : decide ((i : Int) < (s.length : Int)) = true := by simp; omega
    have hlt : b < nvs τ := by rw [hτ]; simp only [nvsR]; omega
    have k60 : (((c.toNat : Nat) : Int) == 60) = (c == 60) := u8_eq c 60 (by decide)
    refine LoopC_unfold tok fm ?_
    simp (disch := first | omega | (simp only [ln]; first | done | omega)) only [walkAll, walkL, walkK, wk, E, Nat.reduceEqDiff, Nat.reduceAdd, Nat.reduceSub, Nat.reduceLeDiff, Int.reduceLT, Int.reduceLE, Int.reduceAdd, Int.reduceSub, Int.reduceToNat, ↓reduceIte, l34_0x, l34_0b, h0, hv, hbb, hc, Int.toNat_natCast, bne, k60]
    cases g : (c == 60) with
    | true =>
      simp (disch := first | omega | (simp only [ln]; first | done | omega)) only [walkAll, walkL, walkK, wk, E, Nat.reduceEqDiff, Nat.reduceAdd, Nat.reduceSub, Nat.reduceLeDiff, Int.reduceLT, Int.reduceLE, Int.reduceAdd, Int.reduceSub, Int.reduceToNat, ↓reduceIte, g, Bool.not_true, h0, hv]
      have e0 : (c :: rest).takeWhile (· != 60) = [] := by rw [List.takeWhile_cons]; simp only [bne, g]; rfl
      rw [e0] at hx
      rw [hτ]
      exact hx _ (by simp [put]) (by simp [put]) (by simp [put])
    | false =>
      have e1 : (c :: rest).takeWhile (· != 60) = c :: rest.takeWhile (· != 60) := by rw [List.takeWhile_cons]; simp only [bne, g]; rfl
      rw [e1] at hx
      simp (disch := first | omega | (simp only [ln]; first | done | omega)) only [walkAll, walkL, walkK, wk, E, Nat.reduceEqDiff, Nat.reduceAdd, Nat.reduceSub, Nat.reduceLeDiff, Int.reduceLT, Int.reduceLE, Int.reduceAdd, Int.reduceSub, Int.reduceToNat, ↓reduceIte, g, Bool.not_false, h0, hv, hc]
      refine ih (i + 1) _ _ hd' (by omega) ?_ (by simp [put, h0]) (fun e' k0 k2 k5 => ?_)
      · rw [hτ]; simp (disch := first | omega | (simp only [ln]; first | done | omega)) only [walkAll, walkL, walkK, wk, E, Nat.reduceEqDiff, Nat.reduceAdd, Nat.reduceSub, Nat.reduceLeDiff, Int.reduceLT, Int.reduceLE, Int.reduceAdd, Int.reduceSub, Int.reduceToNat, ↓reduceIte]; try rfl
      · have := hx e' (by rw [k0]; simp [put]) (by rw [k2]; simp [put]) (by rw [k5]; simp [put])
        rw [List.length_cons] at this
        rw [show i + 1 + (rest.takeWhile (· != 60)).length = i + ((rest.takeWhile (· != 60)).length + 1) by omega]
        exact this
theorem rtok_c (b : Nat) (s : List UInt8) (ty : TypeId) (a : Nat) (hv : Wk σ b ty s a) (ha : a ≤ s.length) (hs : s.length < 100000)
    (hn : rTok (s.drop a) = none → ∀ (t : Tok) (a' : Nat), K (.tup [.agg t.c, .bool false]) (σ.setV b (.cells ty [.str s, .int .i64 a'])))
    (hy : ∀ t r, rTok (s.drop a) = some (t, r) → ∀ a' : Nat, a' ≤ s.length → s.drop a' = r → K (.tup [.agg t.c, .bool true]) (σ.setV b (.cells ty [.str s, .int .i64 a']))) :
    ACalls Tryz.prog (gD m) 34 [.vp b 0] σ K := by
  refine ACalls.closeE ?_
  have hlt := getV_lt hv
  have near : ∀ a' : Nat, Near σ (σ.setV b (.cells ty [.str s, .int .i64 a'])) := fun a' => Near.setV (.refl σ) (by simp only [dataR])
  have hlr : (s.drop a).length + a = s.length := by simp; omega
  generalize hr : s.drop a = r at *
  refine ACalls_fn tok fm (fk34 _) ?_
  simp (disch := first | omega | (simp only [ln]; first | done | omega)) only [walkAll, walkL, walkK, wk, E, Nat.reduceEqDiff, Nat.reduceAdd, Nat.reduceSub, Nat.reduceLeDiff, Int.reduceLT, Int.reduceLE, Int.reduceAdd, Int.reduceSub, Int.reduceToNat, ↓reduceIte, c34, hv]
  refine is_c b s [60, 47] ty a ?_ ha (by omega) (by decide) (fun g1 => ?_) (fun g1 => ?_)
  · simp (disch := first | omega | (simp only [ln]; first | done | omega)) only [walkAll, walkL, walkK, wk, E, Nat.reduceEqDiff, Nat.reduceAdd, Nat.reduceSub, Nat.reduceLeDiff, Int.reduceLT, Int.reduceLE, Int.reduceAdd, Int.reduceSub, Int.reduceToNat, ↓reduceIte, Wk, hv]
  · rw [hr] at g1
    have hp := hasPrefix_len g1
    have hp' : r.length ≥ 2 := by simp at hp; omega
    have et : rTok r = if rNm (r.drop 2) == [] || !Lib.hasPrefix (rA2 (r.drop 2)) [62] then none else some (⟨2, rNm (r.drop 2), [], [], false⟩, (rA2 (r.drop 2)).drop 1) := by unfold rTok; rw [g1]; rfl
    have hd0 : s.drop (a + 2) = r.drop 2 := by rw [← List.drop_drop, hr]
    have hd1 := drop_tw withins.contains s (a + 2)
    have ha1 := tw_le withins.contains s (a + 2) (by omega)
    have hnm : nameR ((s.drop (a + 2)).takeWhile withins.contains) = rNm (s.drop (a + 2)) := rfl
    simp (disch := first | omega | (simp only [ln]; first | done | omega)) only [walkAll, walkL, walkK, wk, E, Nat.reduceEqDiff, Nat.reduceAdd, Nat.reduceSub, Nat.reduceLeDiff, Int.reduceLT, Int.reduceLE, Int.reduceAdd, Int.reduceSub, Int.reduceToNat, ↓reduceIte]
    refine rname_c b s ty (a + 2) ?_ (by omega) (by omega) ?_
    · simp (disch := first | omega | (simp only [ln]; first | done | omega)) only [walkAll, walkL, walkK, wk, E, Nat.reduceEqDiff, Nat.reduceAdd, Nat.reduceSub, Nat.reduceLeDiff, Int.reduceLT, Int.reduceLE, Int.reduceAdd, Int.reduceSub, Int.reduceToNat, ↓reduceIte, Wk]; try rfl
    rw [hnm]
    rw [hd0] at hd1 ha1 ⊢
    generalize r.drop 2 = r2 at *
    obtain ⟨a1, hA1⟩ : ∃ a1, a1 = a + 2 + (r2.takeWhile withins.contains).length := ⟨_, rfl⟩
    rw [← hA1] at hd1 ha1 ⊢
    have hd2 := drop_tw blanksL.contains s a1
    have ha2 := tw_le blanksL.contains s a1 ha1
    simp (disch := first | omega | (simp only [ln]; first | done | omega)) only [walkAll, walkL, walkK, wk, E, Nat.reduceEqDiff, Nat.reduceAdd, Nat.reduceSub, Nat.reduceLeDiff, Int.reduceLT, Int.reduceLE, Int.reduceAdd, Int.reduceSub, Int.reduceToNat, ↓reduceIte]
    refine blanks_c b s ty a1 ?_ ha1 (by omega) ?_
    · simp (disch := first | omega | (simp only [ln]; first | done | omega)) only [walkAll, walkL, walkK, wk, E, Nat.reduceEqDiff, Nat.reduceAdd, Nat.reduceSub, Nat.reduceLeDiff, Int.reduceLT, Int.reduceLE, Int.reduceAdd, Int.reduceSub, Int.reduceToNat, ↓reduceIte, Wk]
    rw [hd1] at hd2 ha2 ⊢
    rw [show (r2.dropWhile withins.contains).dropWhile blanksL.contains = rA2 r2 from rfl] at hd2
    obtain ⟨a2, hA2⟩ : ∃ a2, a2 = a1 + ((r2.dropWhile withins.contains).takeWhile blanksL.contains).length := ⟨_, rfl⟩
    rw [← hA2] at hd2 ha2 ⊢
    simp (disch := first | omega | (simp only [ln]; first | done | omega)) only [walkAll, walkL, walkK, wk, E, Nat.reduceEqDiff, Nat.reduceAdd, Nat.reduceSub, Nat.reduceLeDiff, Int.reduceLT, Int.reduceLE, Int.reduceAdd, Int.reduceSub, Int.reduceToNat, ↓reduceIte, bne]
    cases g2 : (rNm r2 == []) with
    | true =>
      simp (disch := first | omega | (simp only [ln]; first | done | omega)) only [walkAll, walkL, walkK, wk, E, Nat.reduceEqDiff, Nat.reduceAdd, Nat.reduceSub, Nat.reduceLeDiff, Int.reduceLT, Int.reduceLE, Int.reduceAdd, Int.reduceSub, Int.reduceToNat, ↓reduceIte, bne, g2, Bool.not_true]
      refine ⟨_, _, near a2, ?_, ⟨?_, .inl rfl⟩, hn (by rw [et, g2]; rfl) ⟨2, rNm r2, [], [], false⟩ a2⟩
      · simp only [dataR, tok_data]
      · repeat first | exact Grown.refl _ | assumption | apply Grown.pushV | apply Grown.pushR | (refine Grown.setV ?_ (by first | omega | (simp only [nvsR]; first | done | omega))) | (refine Grown.setOld ‹_› (by first | omega | (simp only [nvsR]; first | done | omega)) _) | (refine Grown.setOld0 ?_ (by first | omega | (simp only [nvsR]; first | done | omega)) _)
    | false =>
      simp (disch := first | omega | (simp only [ln]; first | done | omega)) only [walkAll, walkL, walkK, wk, E, Nat.reduceEqDiff, Nat.reduceAdd, Nat.reduceSub, Nat.reduceLeDiff, Int.reduceLT, Int.reduceLE, Int.reduceAdd, Int.reduceSub, Int.reduceToNat, ↓reduceIte, bne, g2, Bool.not_false]
      refine is_c b s [62] ty a2 ?_ ha2 (by omega) (by decide) (fun g3 => ?_) (fun g3 => ?_)
      · simp (disch := first | omega | (simp only [ln]; first | done | omega)) only [walkAll, walkL, walkK, wk, E, Nat.reduceEqDiff, Nat.reduceAdd, Nat.reduceSub, Nat.reduceLeDiff, Int.reduceLT, Int.reduceLE, Int.reduceAdd, Int.reduceSub, Int.reduceToNat, ↓reduceIte, Wk]
      · rw [hd2] at g3
        have hc2 := pre_cell g3
        have ha3 : a2 + 1 ≤ s.length := by
          have := congrArg List.length hd2; rw [hc2] at this; simp at this; omega
        simp (disch := first | omega | (simp only [ln]; first | done | omega)) only [walkAll, walkL, walkK, wk, E, Nat.reduceEqDiff, Nat.reduceAdd, Nat.reduceSub, Nat.reduceLeDiff, Int.reduceLT, Int.reduceLE, Int.reduceAdd, Int.reduceSub, Int.reduceToNat, ↓reduceIte, bne, g2, Bool.not_false]
        refine ⟨_, _, near (a2 + 1), ?_, ⟨?_, .inl rfl⟩, hy ⟨2, rNm r2, [], [], false⟩ _ (by rw [et, g2, g3]; rfl) (a2 + 1) ha3 (by rw [← List.drop_drop, hd2])⟩
        · simp only [dataR, tok_data]
        · repeat first | exact Grown.refl _ | assumption | apply Grown.pushV | apply Grown.pushR | (refine Grown.setV ?_ (by first | omega | (simp only [nvsR]; first | done | omega))) | (refine Grown.setOld ‹_› (by first | omega | (simp only [nvsR]; first | done | omega)) _) | (refine Grown.setOld0 ?_ (by first | omega | (simp only [nvsR]; first | done | omega)) _)
      · rw [hd2] at g3
        simp (disch := first | omega | (simp only [ln]; first | done | omega)) only [walkAll, walkL, walkK, wk, E, Nat.reduceEqDiff, Nat.reduceAdd, Nat.reduceSub, Nat.reduceLeDiff, Int.reduceLT, Int.reduceLE, Int.reduceAdd, Int.reduceSub, Int.reduceToNat, ↓reduceIte, bne, g2, Bool.not_false]
        refine ⟨_, _, near a2, ?_, ⟨?_, .inl rfl⟩, hn (by rw [et, g2, g3]; rfl) ⟨2, rNm r2, [], [], false⟩ a2⟩
        · simp only [dataR, tok_data]
        · repeat first | exact Grown.refl _ | assumption | apply Grown.pushV | apply Grown.pushR | (refine Grown.setV ?_ (by first | omega | (simp only [nvsR]; first | done | omega))) | (refine Grown.setOld ‹_› (by first | omega | (simp only [nvsR]; first | done | omega)) _) | (refine Grown.setOld0 ?_ (by first | omega | (simp only [nvsR]; first | done | omega)) _)
  rw [hr] at g1
  simp (disch := first | omega | (simp only [ln]; first | done | omega)) only [walkAll, walkL, walkK, wk, E, Nat.reduceEqDiff, Nat.reduceAdd, Nat.reduceSub, Nat.reduceLeDiff, Int.reduceLT, Int.reduceLE, Int.reduceAdd, Int.reduceSub, Int.reduceToNat, ↓reduceIte]
  refine is_c b s [60] ty a ?_ ha (by omega) (by decide) (fun g2 => ?_) (fun g2 => ?_)
  · simp (disch := first | omega | (simp only [ln]; first | done | omega)) only [walkAll, walkL, walkK, wk, E, Nat.reduceEqDiff, Nat.reduceAdd, Nat.reduceSub, Nat.reduceLeDiff, Int.reduceLT, Int.reduceLE, Int.reduceAdd, Int.reduceSub, Int.reduceToNat, ↓reduceIte, Wk, hv]
  · rw [hr] at g2
    have hp := hasPrefix_len g2
    have hp' : r.length ≥ 1 := by simp at hp; omega
    have et : rTok r = rOpen (r.drop 1) := by unfold rTok; rw [g1, g2]; rfl
    have hd0 : s.drop (a + 1) = r.drop 1 := by rw [← List.drop_drop, hr]
    simp (disch := first | omega | (simp only [ln]; first | done | omega)) only [walkAll, walkL, walkK, wk, E, Nat.reduceEqDiff, Nat.reduceAdd, Nat.reduceSub, Nat.reduceLeDiff, Int.reduceLT, Int.reduceLE, Int.reduceAdd, Int.reduceSub, Int.reduceToNat, ↓reduceIte]
    refine ropen_c b s ty (a + 1) ?_ (by omega) (by omega) (fun hN t a' => ?_) (fun t rr hS a' ha' hd' => ?_)
    · simp (disch := first | omega | (simp only [ln]; first | done | omega)) only [walkAll, walkL, walkK, wk, E, Nat.reduceEqDiff, Nat.reduceAdd, Nat.reduceSub, Nat.reduceLeDiff, Int.reduceLT, Int.reduceLE, Int.reduceAdd, Int.reduceSub, Int.reduceToNat, ↓reduceIte, Wk]; try rfl
    · rw [hd0] at hN
      simp (disch := first | omega | (simp only [ln]; first | done | omega)) only [walkAll, walkL, walkK, wk, E, Nat.reduceEqDiff, Nat.reduceAdd, Nat.reduceSub, Nat.reduceLeDiff, Int.reduceLT, Int.reduceLE, Int.reduceAdd, Int.reduceSub, Int.reduceToNat, ↓reduceIte, Tok.c, lsv_cells, lsv_one]
      refine ⟨_, _, near a', ?_, ⟨?_, .inl rfl⟩, hn (by rw [et, hN]) t a'⟩
      · simp only [dataR, tok_data]; exact ⟨⟨lsv_data (atc_data _), trivial⟩, trivial⟩
      · repeat first | exact Grown.refl _ | assumption | apply Grown.pushV | apply Grown.pushR | (refine Grown.setV ?_ (by first | omega | (simp only [nvsR]; first | done | omega))) | (refine Grown.setOld ‹_› (by first | omega | (simp only [nvsR]; first | done | omega)) _) | (refine Grown.setOld0 ?_ (by first | omega | (simp only [nvsR]; first | done | omega)) _)
    · rw [hd0] at hS
      simp (disch := first | omega | (simp only [ln]; first | done | omega)) only [walkAll, walkL, walkK, wk, E, Nat.reduceEqDiff, Nat.reduceAdd, Nat.reduceSub, Nat.reduceLeDiff, Int.reduceLT, Int.reduceLE, Int.reduceAdd, Int.reduceSub, Int.reduceToNat, ↓reduceIte, Tok.c, lsv_cells, lsv_one]
      refine ⟨_, _, near a', ?_, ⟨?_, .inl rfl⟩, hy t rr (by rw [et, hS]) a' ha' hd'⟩
      · simp only [dataR, tok_data]; exact ⟨⟨lsv_data (atc_data _), trivial⟩, trivial⟩
      · repeat first | exact Grown.refl _ | assumption | apply Grown.pushV | apply Grown.pushR | (refine Grown.setV ?_ (by first | omega | (simp only [nvsR]; first | done | omega))) | (refine Grown.setOld ‹_› (by first | omega | (simp only [nvsR]; first | done | omega)) _) | (refine Grown.setOld0 ?_ (by first | omega | (simp only [nvsR]; first | done | omega)) _)
  rw [hr] at g2
  have et : rTok r = if (valS (r.takeWhile (· != 60))).2 then some (⟨3, [], (valS (r.takeWhile (· != 60))).1, [], false⟩, r.dropWhile (· != 60)) else none := by unfold rTok; rw [g1, g2]; rfl
  have hd1 := drop_tw (· != 60) s a
  have ha1 := tw_le (· != 60) s a ha
  simp (disch := first | omega | (simp only [ln]; first | done | omega)) only [walkAll, walkL, walkK, wk, E, Nat.reduceEqDiff, Nat.reduceAdd, Nat.reduceSub, Nat.reduceLeDiff, Int.reduceLT, Int.reduceLE, Int.reduceAdd, Int.reduceSub, Int.reduceToNat, ↓reduceIte, hv]
  refine txt_loop (σ := σ) b s ty (by omega) hlt (.cells 30 [.int .i64 0, .str [], .str [], .nils, .bool false]) r a _ _ hr ha ?_ ?_ (fun e' k0 k2 k5 => ?_)
  · rw [setV_same hv]
  · simp [put, E]
  have k0 : e' 0 = some (.vp b 0) := by rw [k0]; simp [put, E]
  have k2 : e' 2 = some (.vp (nvs σ) 0) := by rw [k2]; simp [put]
  have k5 : e' 5 = some (.int .i64 a) := by rw [k5]; simp [put]
  rw [hr] at hd1 ha1
  obtain ⟨a1, hA1⟩ : ∃ a1, a1 = a + (r.takeWhile (· != 60)).length := ⟨_, rfl⟩
  rw [← hA1] at hd1 ha1 ⊢
  have t2 : a1 - a = (r.takeWhile (· != 60)).length := by omega
  have t3 := takeWhile_take (· != 60) r
  simp (disch := first | omega | (simp only [ln]; first | done | omega)) only [walkAll, walkL, walkK, wk, E, Nat.reduceEqDiff, Nat.reduceAdd, Nat.reduceSub, Nat.reduceLeDiff, Int.reduceLT, Int.reduceLE, Int.reduceAdd, Int.reduceSub, Int.reduceToNat, ↓reduceIte, k0, k2, k5, hr, t2, t3]
  refine rvalue_c (r.takeWhile (· != 60)) (by omega) ?_
  generalize hvv : valS (r.takeWhile (· != 60)) = vv at *
  simp (disch := first | omega | (simp only [ln]; first | done | omega)) only [walkAll, walkL, walkK, wk, E, Nat.reduceEqDiff, Nat.reduceAdd, Nat.reduceSub, Nat.reduceLeDiff, Int.reduceLT, Int.reduceLE, Int.reduceAdd, Int.reduceSub, Int.reduceToNat, ↓reduceIte, k0, k2, k5, hr, t2, t3]
  cases g3 : vv.2 with
  | true =>
    refine ⟨_, _, near a1, ?_, ⟨?_, .inl rfl⟩, hy ⟨3, [], vv.1, [], false⟩ _ (by rw [et, g3]; rfl) a1 ha1 hd1⟩
    · simp only [dataR, tok_data]
    · repeat first | exact Grown.refl _ | assumption | apply Grown.pushV | apply Grown.pushR | (refine Grown.setV ?_ (by first | omega | (simp only [nvsR]; first | done | omega))) | (refine Grown.setOld ‹_› (by first | omega | (simp only [nvsR]; first | done | omega)) _) | (refine Grown.setOld0 ?_ (by first | omega | (simp only [nvsR]; first | done | omega)) _)
  | false =>
    refine ⟨_, _, near a1, ?_, ⟨?_, .inl rfl⟩, hn (by rw [et, g3]; rfl) ⟨3, [], vv.1, [], false⟩ a1⟩
    · simp only [dataR, tok_data]
    · repeat first | exact Grown.refl _ | assumption | apply Grown.pushV | apply Grown.pushR | (refine Grown.setV ?_ (by first | omega | (simp only [nvsR]; first | done | omega))) | (refine Grown.setOld ‹_› (by first | omega | (simp only [nvsR]; first | done | omega)) _) | (refine Grown.setOld0 ?_ (by first | omega | (simp only [nvsR]; first | done | omega)) _)
end
end Go.Ab.Sz
namespace Go.Ab.Sz
open Go Go.Ab Go.Proofs Go.RowKit
set_option maxRecDepth 40000
set_option linter.unusedSimpArgs false
section
variable {m : Int} {σ : St} {K : AV → St → Prop}
theorem rtoks_loop (s : List UInt8) (hs : s.length < 5000) {Q : EQ} : ∀ (n : Nat) (r : List UInt8) (a : Nat) (acc : List Tok) (v : AV) (ρ : Option Nat) (τ : St) (e : Env), r.length < n → s.drop a = r → a ≤ s.length → acc.length + r.length < 5000 → Lst 30 5 τ v (acc.map Tok.c) ρ → getV τ 0 = some (.cells 61 [.str s, .int .i64 a]) →
    e 0 = some (.str s) → e 4 = some (.vp 0 0) → e 5 = some v →
    (∀ l e' τ' v' ρ', rToksL n r = some l → Lst 30 5 τ' v' ((acc ++ l).map Tok.c) ρ' → e' 5 = some v' → Q (.exit 0) e' τ') →
    (∀ e' τ', rToksL n r = none → e' 2 = some .nils → e' 3 = some (.int .i64 9) → Q .ret e' τ') → LoopC Tryz.prog tt (gD m) l13_0 Q e τ := by
  intro n
  induction n with
  | zero => intro r a acc v ρ τ e h; omega
  | succ n ih =>
    intro r a acc v ρ τ e hn hd ha hs2 hl hv h0 h4 h5 hx hr
    have hlen : r.length + a = s.length := by rw [← hd]; simp; omega
    refine LoopC_unfold tok fm ?_
    cases r with
    | nil =>
      have q : decide ((a : Int) < (s.length : Int)) = false := by simp at hlen; simp; omega
      simp (disch := first | omega | (simp only [ln]; first | done | omega)) only [walkAll, walkL, walkK, wk, E, Nat.reduceEqDiff, Nat.reduceAdd, Nat.reduceSub, Nat.reduceLeDiff, Int.reduceLT, Int.reduceLE, Int.reduceAdd, Int.reduceSub, Int.reduceToNat, ↓reduceIte, l13_0x, l13_0b, h0, h4, hv, q]
      exact hx [] _ _ v ρ (by simp only [rToksL]; rfl) (by simpa using hl) (by simp [put, h5])
    | cons c r =>
      have q : decide ((a : Int) < (s.length : Int)) = true := by simp at hlen; simp; omega
      have hlt := getV_lt hv
      simp (disch := first | omega | (simp only [ln]; first | done | omega)) only [walkAll, walkL, walkK, wk, E, Nat.reduceEqDiff, Nat.reduceAdd, Nat.reduceSub, Nat.reduceLeDiff, Int.reduceLT, Int.reduceLE, Int.reduceAdd, Int.reduceSub, Int.reduceToNat, ↓reduceIte, l13_0x, l13_0b, h0, h4, hv, q]
      refine rtok_c 0 s 61 a hv ha (by omega) (fun hN t a' => ?_) (fun t rr hS a' ha' hd' => ?_)
      · rw [hd] at hN
        simp (disch := first | omega | (simp only [ln]; first | done | omega)) only [walkAll, walkL, walkK, wk, E, Nat.reduceEqDiff, Nat.reduceAdd, Nat.reduceSub, Nat.reduceLeDiff, Int.reduceLT, Int.reduceLE, Int.reduceAdd, Int.reduceSub, Int.reduceToNat, ↓reduceIte, h0, h4, Tok.c, lsv_cells, lsv_one]
        exact hr _ _ (by simp only [rToksL, hN]; rfl) (by simp [put]) (by simp [put])
      · rw [hd] at hS
        have hlen2 := rTok_len (by simp) hS
        simp (disch := first | omega | (simp only [ln]; first | done | omega)) only [walkAll, walkL, walkK, wk, E, Nat.reduceEqDiff, Nat.reduceAdd, Nat.reduceSub, Nat.reduceLeDiff, Int.reduceLT, Int.reduceLE, Int.reduceAdd, Int.reduceSub, Int.reduceToNat, ↓reduceIte, h0, h4, h5, Tok.c, lsv_cells, lsv_one]
        refine app_one (l := acc.map Tok.c) (ρ := ρ) hl rfl (by simp only [List.all_cons, List.all_nil, walkO, lsv_one, Bool.and_self]) (by simp; omega) (fun v' σ' ρ' hl' hB => ?_)
        simp (disch := first | omega | (simp only [ln]; first | done | omega)) only [walkAll, walkL, walkK, wk, E, Nat.reduceEqDiff, Nat.reduceAdd, Nat.reduceSub, Nat.reduceLeDiff, Int.reduceLT, Int.reduceLE, Int.reduceAdd, Int.reduceSub, Int.reduceToNat, ↓reduceIte, h0, h4]
        have ev : rToksL (n + 1) (c :: r) = (rToksL n rr).map (t :: ·) := by simp only [rToksL, hS]; rfl
        refine ih rr a' (acc ++ [t]) v' ρ' _ _ (by omega) hd' ha' (by simp at *; omega) ?_ ?_ (by simp [put, h0]) (by simp [put, h4]) (by simp [put]) (fun l e' τ'' v'' ρ'' ht hl'' h5' => ?_) (fun e' τ'' ht h2' h3' => ?_)
        · rw [List.map_append]; exact hl'
        · rw [hB.getV]; simp (disch := first | omega | (simp only [ln]; first | done | omega)) only [walkAll, walkL, walkK, wk, E, Nat.reduceEqDiff, Nat.reduceAdd, Nat.reduceSub, Nat.reduceLeDiff, Int.reduceLT, Int.reduceLE, Int.reduceAdd, Int.reduceSub, Int.reduceToNat, ↓reduceIte]
        · refine hx (t :: l) e' τ'' v'' ρ'' (by rw [ev, ht]; rfl) (by simpa using hl'') h5'
        · exact hr e' τ'' (by rw [ev, ht]; rfl) h2' h3'
theorem rTokens_c (s : List UInt8) (hs : s.length ≤ 100000000) (h : K (.tup [lsv ((rToks s).1.map Tok.c), .int .i64 (rToks s).2]) σ) : ACalls Tryz.prog (gD m) 13 [.str s] σ K := by
  refine (ACalls.frame_frz gD_data (.cons _ _ (.str _) .nil) (Q := fun r => r = .tup [lsv ((rToks s).1.map Tok.c), .int .i64 (rToks s).2]) ?_ σ).mono (fun r σ' hr => by rw [hr.1, hr.2]; exact h)
  have fin : ∀ (τ : St) (l : List Tok) (x : Int) (v : AV) (ρ : Option Nat), rToks s = (l, x) → Lst 30 5 τ v (l.map Tok.c) ρ →
      ∃ r0, Frz τ (.tup [v, .int .i64 x]) r0 ∧ Data r0 ∧ r0 = .tup [lsv ((rToks s).1.map Tok.c), .int .i64 (rToks s).2] := fun τ l x v ρ he hl => by
    refine ⟨.tup [lsv (l.map Tok.c), .int .i64 x], frz_lst hl (fun a => .tup [a, .int .i64 x]) (fun k els => by simp only [frzR]), ?_, by rw [he]⟩
    simp only [dataR, and_true]
    exact lsv_data (data_flat fun t _ => tok_data t)
  have fin0 : ∀ (τ : St) (x : Int), rToks s = ([], x) → ∃ r0, Frz τ (.tup [.nils, .int .i64 x]) r0 ∧ Data r0 ∧ r0 = .tup [lsv ((rToks s).1.map Tok.c), .int .i64 (rToks s).2] := fun τ x he => fin τ [] x .nils none he (Lst.nil _ _ _)
  refine ACalls_fn tok fm (fk13 _) ?_
  simp (disch := first | omega | (simp only [ln]; first | done | omega)) only [walkAll, walkL, walkK, wk, E, Nat.reduceEqDiff, Nat.reduceAdd, Nat.reduceSub, Nat.reduceLeDiff, Int.reduceLT, Int.reduceLE, Int.reduceAdd, Int.reduceSub, Int.reduceToNat, ↓reduceIte, c13]
  cases e1 : decide (4096 < (s.length : Int)) with
  | true =>
    simp (disch := first | omega | (simp only [ln]; first | done | omega)) only [walkAll, walkL, walkK, wk, E, Nat.reduceEqDiff, Nat.reduceAdd, Nat.reduceSub, Nat.reduceLeDiff, Int.reduceLT, Int.reduceLE, Int.reduceAdd, Int.reduceSub, Int.reduceToNat, ↓reduceIte]
    have : 4096 < s.length := by have := of_decide_eq_true e1; omega
    exact fin0 _ 4 (by unfold rToks; rw [if_pos this])
  | false =>
    have h1 : ¬ 4096 < s.length := by have := of_decide_eq_false e1; omega
    simp (disch := first | omega | (simp only [ln]; first | done | omega)) only [walkAll, walkL, walkK, wk, E, Nat.reduceEqDiff, Nat.reduceAdd, Nat.reduceSub, Nat.reduceLeDiff, Int.reduceLT, Int.reduceLE, Int.reduceAdd, Int.reduceSub, Int.reduceToNat, ↓reduceIte]
    refine refUtf_c s (by omega) ?_
    cases e2 : utfB s with
    | false =>
      simp (disch := first | omega | (simp only [ln]; first | done | omega)) only [walkAll, walkL, walkK, wk, E, Nat.reduceEqDiff, Nat.reduceAdd, Nat.reduceSub, Nat.reduceLeDiff, Int.reduceLT, Int.reduceLE, Int.reduceAdd, Int.reduceSub, Int.reduceToNat, ↓reduceIte]
      exact fin0 _ 7 (by unfold rToks; rw [if_neg h1, e2]; rfl)
    | true =>
      have fin2 : ∀ (τ : St) (a : Nat) (e : Env) (Q : EQ), a ≤ s.length → s.drop a = Lib.trimPrefix s prologL → getV τ 0 = some (.cells 61 [.str s, .int .i64 a]) → e 0 = some (.str s) → e 4 = some (.vp 0 0) → e 5 = some .nils →
          (∀ l e' τ' v' ρ', rToks s = (l, 0) → Lst 30 5 τ' v' (l.map Tok.c) ρ' → e' 5 = some v' → Q (.exit 0) e' τ') →
          (∀ e' τ', rToks s = ([], 9) → e' 2 = some .nils → e' 3 = some (.int .i64 9) → Q .ret e' τ') → LoopC Tryz.prog tt (gD m) l13_0 Q e τ := fun τ a e Q ha hd hv h0 h4 h5 hx hr => by
        have hp := trimPrefix_le s prologL
        refine rtoks_loop s (by omega) ((Lib.trimPrefix s prologL).length + 1) (Lib.trimPrefix s prologL) a [] .nils none τ e (by omega) hd ha (by simp; omega) (Lst.nil _ _ _) hv h0 h4 h5 (fun l e' τ' v' ρ' ht hl h5 => ?_) (fun e' τ' ht h2 h3 => ?_)
        · exact hx l e' τ' v' ρ' (by unfold rToks; rw [if_neg h1, e2]; simp only [Bool.not_true, Bool.false_eq_true, if_false, ht]) (by simpa using hl) h5
        · exact hr e' τ' (by unfold rToks; rw [if_neg h1, e2]; simp only [Bool.not_true, Bool.false_eq_true, if_false, ht]) h2 h3
      simp (disch := first | omega | (simp only [ln]; first | done | omega)) only [walkAll, walkL, walkK, wk, E, Nat.reduceEqDiff, Nat.reduceAdd, Nat.reduceSub, Nat.reduceLeDiff, Int.reduceLT, Int.reduceLE, Int.reduceAdd, Int.reduceSub, Int.reduceToNat, ↓reduceIte]
      refine is_c 0 s prologL 61 0 rfl (by omega) (by omega) (by decide) (fun g => ?_) (fun g => ?_)
      · rw [List.drop_zero] at g
        have hp := hasPrefix_len g
        simp (disch := first | omega | (simp only [ln]; first | done | omega)) only [walkAll, walkL, walkK, wk, E, Nat.reduceEqDiff, Nat.reduceAdd, Nat.reduceSub, Nat.reduceLeDiff, Int.reduceLT, Int.reduceLE, Int.reduceAdd, Int.reduceSub, Int.reduceToNat, ↓reduceIte]
        refine fin2 _ (0 + prologL.length) _ _ (by omega) (by unfold Lib.trimPrefix; rw [if_pos g]; rfl) ?_ (by simp [put, E]) (by simp [put]) (by simp [put]) (fun l e' τ' v' ρ' ht hl h5 => ?_) (fun e' τ' ht h2 h3 => ?_)
        · simp (disch := first | omega | (simp only [ln]; first | done | omega)) only [walkAll, walkL, walkK, wk, E, Nat.reduceEqDiff, Nat.reduceAdd, Nat.reduceSub, Nat.reduceLeDiff, Int.reduceLT, Int.reduceLE, Int.reduceAdd, Int.reduceSub, Int.reduceToNat, ↓reduceIte]; try rfl
        · simp (disch := first | omega | (simp only [ln]; first | done | omega)) only [walkAll, walkL, walkK, wk, E, Nat.reduceEqDiff, Nat.reduceAdd, Nat.reduceSub, Nat.reduceLeDiff, Int.reduceLT, Int.reduceLE, Int.reduceAdd, Int.reduceSub, Int.reduceToNat, ↓reduceIte, h5]
          exact fin _ l 0 _ ρ' ht hl
        · simp (disch := first | omega | (simp only [ln]; first | done | omega)) only [walkAll, walkL, walkK, wk, E, Nat.reduceEqDiff, Nat.reduceAdd, Nat.reduceSub, Nat.reduceLeDiff, Int.reduceLT, Int.reduceLE, Int.reduceAdd, Int.reduceSub, Int.reduceToNat, ↓reduceIte, h2, h3]
          exact fin0 _ 9 ht
      · rw [List.drop_zero] at g
        simp (disch := first | omega | (simp only [ln]; first | done | omega)) only [walkAll, walkL, walkK, wk, E, Nat.reduceEqDiff, Nat.reduceAdd, Nat.reduceSub, Nat.reduceLeDiff, Int.reduceLT, Int.reduceLE, Int.reduceAdd, Int.reduceSub, Int.reduceToNat, ↓reduceIte]
        refine fin2 _ 0 _ _ (by omega) (by rw [trimPrefix_no g]; rfl) rfl (by simp [put, E]) (by simp [put]) (by simp [put]) (fun l e' τ' v' ρ' ht hl h5 => ?_) (fun e' τ' ht h2 h3 => ?_)
        · simp (disch := first | omega | (simp only [ln]; first | done | omega)) only [walkAll, walkL, walkK, wk, E, Nat.reduceEqDiff, Nat.reduceAdd, Nat.reduceSub, Nat.reduceLeDiff, Int.reduceLT, Int.reduceLE, Int.reduceAdd, Int.reduceSub, Int.reduceToNat, ↓reduceIte, h5]
          exact fin _ l 0 _ ρ' ht hl
        · simp (disch := first | omega | (simp only [ln]; first | done | omega)) only [walkAll, walkL, walkK, wk, E, Nat.reduceEqDiff, Nat.reduceAdd, Nat.reduceSub, Nat.reduceLeDiff, Int.reduceLT, Int.reduceLE, Int.reduceAdd, Int.reduceSub, Int.reduceToNat, ↓reduceIte, h2, h3]
          exact fin0 _ 9 ht
end
end Go.Ab.Sz
namespace Go.Ab.Sz
open Go Go.Ab Go.Proofs Go.RowKit
set_option maxRecDepth 40000
theorem firsts_in : ∀ c ∈ firsts, withins.contains c = true := by decide
theorem takeWhile_allp (p : UInt8 → Bool) : ∀ l : List UInt8, (l.takeWhile p).all p = true
  | [] => rfl
  | c :: l => by
    rw [List.takeWhile_cons]
    split
    · rename_i h; rw [List.all_cons, h, takeWhile_allp p l]; rfl
    · rfl
theorem nameB_tw (r : List UInt8) : nameB (r.takeWhile withins.contains) = (r.takeWhile withins.contains != [] && firsts.contains ((r.takeWhile withins.contains).getD 0 0)) := by
  unfold nameB; rw [takeWhile_allp, Bool.true_and]
theorem nameS_cons (c : UInt8) (t : List UInt8) : nameS (c :: t) = if firsts.contains c then ((c :: t).takeWhile withins.contains, (c :: t).dropWhile withins.contains) else ([], c :: t) := by
  unfold nameS
  rw [show (c :: t == []) = false from rfl, Bool.false_or, show (c :: t).take 1 = [c] from rfl, contains_iff]
  cases q : firsts.contains c with
  | true =>
    have : c ∈ firsts := by simpa using q
    rw [decide_eq_true this]; rfl
  | false =>
    have : c ∉ firsts := by simpa using q
    rw [decide_eq_false this]; rfl
theorem nm_eq (r : List UInt8) : (nameS r).1 = rNm r ∧ ((rNm r == []) = false → (nameS r).2 = r.dropWhile withins.contains) := by
  cases r with
  | nil => exact ⟨rfl, fun h => by cases h⟩
  | cons c t =>
    rw [nameS_cons]
    unfold rNm nameR
    rw [nameB_tw, List.takeWhile_cons]
    cases q : firsts.contains c with
    | true =>
      have hw := firsts_in c (by simpa using q)
      rw [hw]
      simp only [if_true, List.getD_cons_zero, q, Bool.and_true, show (c :: t.takeWhile withins.contains != []) = true from rfl]
      exact ⟨trivial, fun _ => trivial⟩
    | false =>
      cases hw : withins.contains c with
      | false =>
        simp only [Bool.false_eq_true, if_false, show (([] : List UInt8) != []) = false from rfl, Bool.false_and]
        exact ⟨trivial, fun h => by cases h⟩
      | true =>
        simp only [if_true, List.getD_cons_zero, q, Bool.and_false, Bool.false_eq_true, if_false]
        exact ⟨trivial, fun h => by cases h⟩
theorem dropWhile_at {p : UInt8 → Bool} {a t : List UInt8} {c : UInt8} (h : ∀ x ∈ a, p x = true) (hc : p c = false) : (a ++ c :: t).dropWhile p = c :: t := by
  induction a with
  | nil => simp [hc]
  | cons b a ih =>
    have hb := h b (by simp)
    have := ih fun x hx => h x (by simp [hx])
    simp only [List.cons_append, List.dropWhile_cons, hb, if_true, this]
theorem quoted1_eq (q : UInt8) (r : List UInt8) (hq : q ≠ 60) : (rQ1 q r).bind (fun x => if (valS x.1).2 then some ((valS x.1).1, x.2) else none) = if (quoted1 (q :: r) [q]).2.1 then some ((quoted1 (q :: r) [q]).1, (quoted1 (q :: r) [q]).2.2) else none := by
  unfold quoted1
  rw [show Lib.trimPrefix (q :: r) [q] = r from trim_self [q] r]
  by_cases hm : q ∈ r
  · obtain ⟨a, t, rfl, ha⟩ := split_mem hm
    have hne : ∀ x ∈ a, (x != q) = true := fun x hx => by simp; exact fun h => ha (h ▸ hx)
    rw [cut_at t ha, contains_iff]
    simp only [Bool.true_and]
    by_cases h6 : (60 : UInt8) ∈ a
    · rw [rQ1_bad (by rw [takeWhile_at hne (by simp)]; simpa using h6), decide_eq_true h6]
      simp
    · rw [rQ1_cons (t := t) (x := q) (by rw [takeWhile_at hne (by simp)]; simpa using h6) (dropWhile_at hne (by simp)), takeWhile_at hne (by simp), decide_eq_false h6]
      simp
  · have hne : ∀ x ∈ r, (x != q) = true := fun x hx => by simp; exact fun h => hm (h ▸ hx)
    rw [cut_none hm]
    simp only [Bool.false_and, Bool.false_eq_true, if_false]
    cases h6 : (r.takeWhile (· != q)).contains 60 with
    | true => rw [rQ1_bad h6]; rfl
    | false => rw [rQ1_nil h6 (dropWhile_all _ _ hne)]; rfl
theorem quoted_eq (s : List UInt8) : (rQuote s).bind (fun x => if (valS x.1).2 then some ((valS x.1).1, x.2) else none) = if (quotedS s).2.1 then some ((quotedS s).1, (quotedS s).2.2) else none := by
  cases s with
  | nil => rfl
  | cons q r =>
    by_cases h1 : q = 34
    · subst h1
      rw [rQuote_cons r rfl, quoted1_eq 34 r (by decide)]
      rw [show quotedS (34 :: r) = quoted1 (34 :: r) [34] from rfl]
    · by_cases h2 : q = 39
      · subst h2
        rw [rQuote_cons r rfl, quoted1_eq 39 r (by decide)]
        rw [show quotedS (39 :: r) = quoted1 (39 :: r) [39] from rfl]
      · have e1 : ((34 : UInt8) == q) = false := by rw [beq_eq_false_iff_ne]; exact fun h => h1 h.symm
        have e2 : ((39 : UInt8) == q) = false := by rw [beq_eq_false_iff_ne]; exact fun h => h2 h.symm
        have e3 : (q == 34 || q == 39) = false := by
          rw [show (q == 34) = false by rw [beq_eq_false_iff_ne]; exact h1, show (q == 39) = false by rw [beq_eq_false_iff_ne]; exact h2]; rfl
        have e4 : quotedS (q :: r) = ([], false, q :: r) := by
          unfold quotedS
          rw [pre_cons, pre_nil, pre_cons, e1, e2]; rfl
        rw [e4, show rQuote (q :: r) = none by simp only [rQuote, e3]; rfl]
        rfl
theorem trim_drop {s p : List UInt8} (h : Lib.hasPrefix s p = true) : Lib.trimPrefix s p = s.drop p.length := by unfold Lib.trimPrefix; rw [if_pos h]
theorem attr_eq2 (al : List (List UInt8 × List UInt8)) (r : List UInt8) : (rAttr al r).bind (fun x => if x.2.1.2 then some (x.1, x.2.1.1, x.2.2) else none) = if (attrS r).2.2.1 && !(al.any fun x => x.1 == (attrS r).1) then some ((attrS r).1, (attrS r).2.1, (attrS r).2.2.2) else none := by
  obtain ⟨n1, n2⟩ := nm_eq r
  unfold rAttr attrS
  rw [n1]
  cases g1 : (rNm r == []) with
  | true =>
    simp only [if_true, Bool.true_or, Bool.false_and, Bool.false_eq_true, if_false]
    split <;> rfl
  | false =>
    have a2 : attr2 r = rA2 r := by unfold attr2 rA2; rw [n2 g1]
    rw [a2]
    cases g2 : Lib.hasPrefix (rA2 r) [61] with
    | false =>
      simp only [Bool.false_or, Bool.not_false, if_true, Bool.false_eq_true, if_false, Bool.false_and]
      split <;> rfl
    | true =>
      have a4 : attr4 r = rA4 r := by unfold attr4 rA4; rw [a2, trim_drop g2]; rfl
      rw [a4]
      simp only [Bool.not_true, Bool.or_false, Bool.false_eq_true, if_false]
      have hq := quoted_eq (rA4 r)
      cases g3 : al.any (fun x => x.1 == rNm r) with
      | true => simp only [if_true, Bool.not_true, Bool.and_false, Bool.false_eq_true, if_false]; rfl
      | false =>
        simp only [Bool.false_eq_true, if_false, Bool.not_false, Bool.and_true]
        generalize quotedS (rA4 r) = w at *
        cases hr : rQuote (rA4 r) with
        | none =>
          rw [hr] at hq
          cases hw : w.2.1 with
          | false => rfl
          | true => rw [hw] at hq; cases hq
        | some x =>
          rw [hr] at hq
          simp only [Option.map_some, Option.bind_some] at hq ⊢
          cases hv : (valS x.1).2 with
          | false =>
            rw [hv] at hq
            cases hw : w.2.1 with
            | false => rfl
            | true => rw [hw] at hq; cases hq
          | true =>
            rw [hv] at hq
            cases hw : w.2.1 with
            | false => rw [hw] at hq; cases hq
            | true =>
              rw [hw] at hq
              simp only [if_true, Option.some.injEq, Prod.mk.injEq] at hq ⊢
              exact ⟨trivial, hq.1, hq.2⟩
theorem openL_eq : ∀ (n : Nat) (r : List UInt8) (al : List (List UInt8 × List UInt8)), rOpenL n r al = if (openL n r al).2.2.1 then some ((openL n r al).1, (openL n r al).2.1, (openL n r al).2.2.2) else none
  | 0, r, al => rfl
  | n + 1, r, al => by
    have ha := attr_eq2 al (r.dropWhile blanksL.contains)
    cases g1 : Lib.hasPrefix (r.dropWhile blanksL.contains) [62] with
    | true =>
      have g2 : Lib.hasPrefix (r.dropWhile blanksL.contains) [47, 62] = false := by
        rw [pre_cell g1, pre_cons]; rfl
      have e1 : rOpenL (n + 1) r al = some (al, false, (r.dropWhile blanksL.contains).drop 1) := by simp only [rOpenL, g1, g2]; rfl
      have e2 : openL (n + 1) r al = (al, false, true, (r.dropWhile blanksL.contains).drop 1) := by simp only [openL, g1, g2, trim_drop g1]; rfl
      rw [e1, e2]; rfl
    | false =>
      cases g2 : Lib.hasPrefix (r.dropWhile blanksL.contains) [47, 62] with
      | true =>
        have e1 : rOpenL (n + 1) r al = some (al, true, (r.dropWhile blanksL.contains).drop 2) := by simp only [rOpenL, g1, g2]; rfl
        have e2 : openL (n + 1) r al = (al, true, true, (r.dropWhile blanksL.contains).drop 2) := by simp only [openL, g1, g2, trim_drop g2]; rfl
        rw [e1, e2]; rfl
      | false =>
        cases g3 : (r.takeWhile blanksL.contains == []) with
        | true =>
          have e1 : rOpenL (n + 1) r al = none := by simp only [rOpenL, g1, g2, g3]; rfl
          have e2 : openL (n + 1) r al = (al, false, false, (attrS (r.dropWhile blanksL.contains)).2.2.2) := by simp only [openL, g1, g2, g3]; rfl
          rw [e1, e2]; rfl
        | false =>
          have e1 : rOpenL (n + 1) r al = match rAttr al (r.dropWhile blanksL.contains) with
            | none => none
            | some x => if x.2.1.2 then rOpenL n x.2.2 (al ++ [(x.1, x.2.1.1)]) else none := by simp only [rOpenL, g1, g2, g3]; rfl
          cases g4 : ((attrS (r.dropWhile blanksL.contains)).2.2.1 && !(al.any fun x => x.1 == (attrS (r.dropWhile blanksL.contains)).1)) with
          | true =>
            rw [g4] at ha
            obtain ⟨h1, h2⟩ := Bool.and_eq_true_iff.1 g4
            have h3 : (al.any fun x => x.1 == (attrS (r.dropWhile blanksL.contains)).1) = false := by simpa using h2
            have e2 : openL (n + 1) r al = openL n (attrS (r.dropWhile blanksL.contains)).2.2.2 (al ++ [((attrS (r.dropWhile blanksL.contains)).1, (attrS (r.dropWhile blanksL.contains)).2.1)]) := by simp only [openL, g1, g2, g3, h1, h3]; rfl
            rw [e1, e2]
            cases hr : rAttr al (r.dropWhile blanksL.contains) with
            | none => rw [hr] at ha; cases ha
            | some x =>
              rw [hr] at ha
              simp only [Option.bind_some, if_true] at ha
              cases hx : x.2.1.2 with
              | false => rw [hx] at ha; cases ha
              | true =>
                rw [hx] at ha
                simp only [if_true, Option.some.injEq, Prod.mk.injEq] at ha
                simp only [hx, if_true]
                rw [ha.1, ha.2.1, ha.2.2]
                exact openL_eq n _ _
          | false =>
            rw [g4] at ha
            have h3 : (!(attrS (r.dropWhile blanksL.contains)).2.2.1 || (al.any fun x => x.1 == (attrS (r.dropWhile blanksL.contains)).1)) = true := by
              cases h1 : (attrS (r.dropWhile blanksL.contains)).2.2.1 with
              | false => rfl
              | true => rw [h1, Bool.true_and] at g4; simpa using g4
            have e2 : openL (n + 1) r al = (al, false, false, (attrS (r.dropWhile blanksL.contains)).2.2.2) := by
              simp only [openL, g1, g2, g3, Bool.false_or, h3]; rfl
            rw [e1, e2]
            cases hr : rAttr al (r.dropWhile blanksL.contains) with
            | none => rfl
            | some x =>
              rw [hr] at ha
              simp only [Option.bind_some] at ha
              cases hx : x.2.1.2 with
              | false => simp only [hx, Bool.false_eq_true, if_false]
              | true => rw [hx] at ha; cases ha
theorem plain_split (r : List UInt8) : r.take (plainN r) = r.takeWhile (· != 60) ∧ r.drop (plainN r) = r.dropWhile (· != 60) := by
  unfold plainN
  by_cases hm : (60 : UInt8) ∈ r
  · obtain ⟨a, t, rfl, ha⟩ := split_mem hm
    have hne : ∀ x ∈ a, (x != 60) = true := fun x hx => by simp; exact fun h => ha (h ▸ hx)
    rw [ib_at t ha, if_neg (by omega), takeWhile_at hne (by simp), dropWhile_at hne (by simp)]
    simp
  · have hne : ∀ x ∈ r, (x != 60) = true := fun x hx => by simp; exact fun h => hm (h ▸ hx)
    rw [ib_none hm, if_pos (by decide), takeWhile_all hne, dropWhile_all _ _ hne]
    simp
theorem tok_eq (r : List UInt8) : rTok r = if (tokS r).2.1 then some ((tokS r).1, (tokS r).2.2) else none := by
  unfold rTok tokS
  cases g1 : Lib.hasPrefix r [60, 47] with
  | true =>
    simp only [if_true]
    rw [trim_drop g1]
    obtain ⟨n1, n2⟩ := nm_eq (r.drop 2)
    show _ = if (endS (r.drop 2)).2.1 then _ else _
    unfold endS
    rw [n1]
    show _ = if (if _ then _ else _ : Tok × Bool × List UInt8).2.1 = true then some ((endS (r.drop 2)).1, (endS (r.drop 2)).2.2) else none
    unfold endS
    rw [n1]
    cases g2 : (rNm (r.drop 2) == []) with
    | true => rfl
    | false =>
      simp only [Bool.false_eq_true, if_false, Bool.false_or]
      rw [n2 g2, show ((r.drop 2).dropWhile withins.contains).dropWhile blanksL.contains = rA2 (r.drop 2) from rfl]
      cases g3 : Lib.hasPrefix (rA2 (r.drop 2)) [62] with
      | true => rw [trim_drop g3]; rfl
      | false => rfl
  | false =>
    simp only [Bool.false_eq_true, if_false]
    cases g2 : Lib.hasPrefix r [60] with
    | true =>
      simp only [if_true]
      rw [trim_drop g2]
      obtain ⟨n1, n2⟩ := nm_eq (r.drop 1)
      show rOpen (r.drop 1) = if (openS (r.drop 1)).2.1 then some ((openS (r.drop 1)).1, (openS (r.drop 1)).2.2) else none
      unfold rOpen openS
      rw [n1]
      cases g3 : (rNm (r.drop 1) == []) with
      | true => rfl
      | false =>
        simp only [Bool.false_eq_true, if_false]
        rw [n2 g3, openL_eq]
        cases (openL (((r.drop 1).dropWhile withins.contains).length + 1) ((r.drop 1).dropWhile withins.contains) []).2.2.1 <;> rfl
    | false =>
      simp only [Bool.false_eq_true, if_false]
      obtain ⟨p1, p2⟩ := plain_split r
      unfold plainS
      rw [p1, p2]
theorem tokN_eq : ∀ (n : Nat) (s : List UInt8), rToksL n s = tokN n s
  | 0, _ => rfl
  | n + 1, s => by
    simp only [rToksL, tokN]
    rw [tok_eq]
    split
    · rfl
    · cases g : (tokS s).2.1 with
      | false => rfl
      | true => simp only [if_true]; rw [tokN_eq n]
/-- The reference tells what the program tells. -/
theorem toks_eq (s : List UInt8) : rToks s = toksS s := by
  unfold rToks toksS
  rw [utf8S_B, tokN_eq]
  rfl
end Go.Ab.Sz
