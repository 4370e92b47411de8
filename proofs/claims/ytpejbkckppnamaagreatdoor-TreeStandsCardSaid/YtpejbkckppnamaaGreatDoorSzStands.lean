/- Part of this work: see the text that closes the claim. -/
import Derived.Test.YtpejbkckppnamaaGreatDoorT8
set_option linter.all false
set_option linter.unusedVariables false
set_option linter.unusedSimpArgs false
namespace Go.Ab.Sz
open Go Go.Ab Go.Proofs Go.RowKit
set_option maxRecDepth 40000
set_option linter.unusedSimpArgs false
theorem kidsF_le (i : Int) : ∀ (l : List Nd) (k : Nat), (kidsF i k l).length ≤ l.length
  | [], _ => Nat.le_refl 0
  | n :: l, k => by
    have := kidsF_le i l (k + 1)
    simp only [kidsF, List.length_append, List.length_cons]
    split
    · simp only [List.length_cons, List.length_nil]; omega
    · simp only [List.length_nil]; omega
theorem kidsS_le (l : List Nd) (i : Int) : (kidsS l i).length ≤ l.length := by
  unfold kidsS
  split
  · exact kidsF_le i l 0
  · simp
theorem kidsF_pos (i : Int) : ∀ (l : List Nd) (k : Nat), 0 < (kidsF i k l).length → ∃ (j : Nat) (n : Nd), l[j]? = some n ∧ n.parent = i
  | [], _, h => by simp [kidsF] at h
  | n :: l, k, h => by
    simp only [kidsF, List.length_append] at h
    by_cases g : n.parent = i
    · exact ⟨0, n, rfl, g⟩
    · rw [if_neg (by simpa using g)] at h
      obtain ⟨j, x, h1, h2⟩ := kidsF_pos i l (k + 1) (by simpa using h)
      exact ⟨j + 1, x, h1, h2⟩
theorem kidsS_pos {l : List Nd} {i : Int} (h : 0 < (kidsS l i).length) : ∃ (j : Nat) (n : Nd), l[j]? = some n ∧ n.parent = i := by
  unfold kidsS at h
  split at h
  · exact kidsF_pos i l 0 h
  · simp at h
theorem nd_len (l : List Nd) : ∀ e ∈ l.map Nd.c, e.length = 4 := fun e he => by
  obtain ⟨a, _, rfl⟩ := List.mem_map.1 he; rfl
def sumK (l : List Nd) (i : Nat) : Nat := ((List.range i).map fun i : Nat => (kidsS l i).length).sum
theorem sumK_succ (l : List Nd) (i : Nat) : sumK l (i + 1) = sumK l i + (kidsS l i).length := by
  unfold sumK
  rw [List.range_succ, List.map_append, List.sum_append]
  simp
theorem sumK_le (l : List Nd) (hl : l.length ≤ 500) : ∀ i, sumK l i ≤ i * 500
  | 0 => Nat.le_refl 0
  | i + 1 => by
    have h1 := sumK_le l hl i
    have h2 := kidsS_le l i
    rw [sumK_succ, Nat.add_mul]; omega
section
variable {m : Int} {σ : St} {K : AV → St → Prop}
theorem stands_loop (l : List Nd) (h : Stands l) {Q : EQ} : ∀ (j i : Nat) (e : Env), i + j = l.length → e 3 = some (lsv (l.map Nd.c)) → e 5 = some (.int .i64 (sumK l i)) → e 6 = some (.int .i64 i) →
    (∀ e', e' 3 = some (lsv (l.map Nd.c)) → e' 5 = some (.int .i64 (sumK l l.length)) → Q (.exit 0) e' σ) → LoopC Tryz.prog tt (gD m) l6_0 Q e σ := by
  have hlen := lsv_len (l.map Nd.c)
  rw [List.length_map] at hlen
  intro j
  induction j with
  | zero =>
    intro i e hij h3 h5 h6 hx
    have hb : decide ((i : Int) < (l.length : Int)) = false := by simp; omega
    have hi : i = l.length := by omega
    refine LoopC_unfold tok fm ?_
    simp (disch := first | omega | (simp only [ln]; first | done | omega)) only [walkAll, walkL, walkK, wk, E, Nat.reduceEqDiff, Nat.reduceAdd, Nat.reduceSub, Nat.reduceLeDiff, Int.reduceLT, Int.reduceLE, Int.reduceAdd, Int.reduceSub, Int.reduceToNat, ↓reduceIte, l6_0x, l6_0b, h3, h6, hlen, hb]
    exact hx _ (by simp [put, h3]) (by simp [put, h5, hi])
  | succ j ih =>
    intro i e hij h3 h5 h6 hx
    have hlt : i < l.length := by omega
    have hm := h.many
    have hb : decide ((i : Int) < (l.length : Int)) = true := by simp; omega
    obtain ⟨n, hn⟩ : ∃ n, l[i]? = some n := ⟨l[i], List.getElem?_eq_getElem hlt⟩
    obtain ⟨p, hp, hpt⟩ := (rd_lsv (nd_len l) σ).at (i := i) (c := n.c) (by rw [List.getElem?_map, hn]; rfl) .i64
    obtain ⟨p0, hp0, hl0⟩ := hpt.fld 0 _ rfl
    obtain ⟨p1, hp1, hl1⟩ := hpt.fld 1 _ rfl
    obtain ⟨p2, hp2, hl2⟩ := hpt.fld 2 _ rfl
    have hs1 := sumK_le l hm i
    have hs2 := kidsS_le l i
    have hkl := lsv_len ((kidsS l i).map ixc)
    rw [List.length_map] at hkl
    have w : IntKind.i64.wrap ((sumK l i : Int) + ((kidsS l i).length : Int)) = (sumK l (i + 1) : Int) := by
      rw [sumK_succ, wrap_i64 _ (by omega) (by omega)]; push_cast; rfl
    have q1 : (n.parent == -1) = (((i : Int)) == 0) := by
      by_cases h0 : i = 0
      · subst h0; rw [h.first n hn]; rfl
      · have := (h.up i n hn (by omega)).1
        rw [show (n.parent == -1) = false by rw [beq_eq_false_iff_ne]; omega, show ((i : Int) == 0) = false by rw [beq_eq_false_iff_ne]; omega]
    have q2 : decide ((i : Int) ≤ n.parent) = false := by
      by_cases h0 : i = 0
      · subst h0; rw [h.first n hn]; rfl
      · have := (h.up i n hn (by omega)).2
        simp; omega
    have q3 : (n.name == []) = false := by have := h.name n (List.mem_of_getElem? hn); simpa using this
    have next : ∀ e' : Env, e' 3 = some (lsv (l.map Nd.c)) → e' 5 = some (.int .i64 (sumK l (i + 1))) → e' 6 = some (.int .i64 (i + 1 : Nat)) → LoopC Tryz.prog tt (gD m) l6_0 Q e' σ := fun e' a b c => ih (i + 1) e' (by omega) a b c hx
    have w1 : IntKind.i64.wrap ((i : Int) + 1) = ((i + 1 : Nat) : Int) := by rw [wrap_i64 _ (by omega) (by omega)]; rfl
    refine LoopC_unfold tok fm ?_
    simp (disch := first | omega | (simp only [ln]; first | done | omega)) only [walkAll, walkL, walkK, wk, E, Nat.reduceEqDiff, Nat.reduceAdd, Nat.reduceSub, Nat.reduceLeDiff, Int.reduceLT, Int.reduceLE, Int.reduceAdd, Int.reduceSub, Int.reduceToNat, ↓reduceIte, l6_0x, l6_0b, h3, h5, h6, hlen, hb]
    refine Kids_c l i (by omega) ?_
    cases q4 : decide ((0 : Int) < ((kidsS l i).length : Int)) with
    | false =>
      cases q5 : ((i : Int) == 0) with
      | true =>
        rw [q5] at q1
        simp (disch := first | omega | (simp only [ln]; first | done | omega)) only [walkAll, walkL, walkK, wk, E, Nat.reduceEqDiff, Nat.reduceAdd, Nat.reduceSub, Nat.reduceLeDiff, Int.reduceLT, Int.reduceLE, Int.reduceAdd, Int.reduceSub, Int.reduceToNat, ↓reduceIte, h3, h5, h6, hkl, w, hp, hp0, hl0, hp1, hl1, hp2, hl2, q1, q2, q3, q4, q5, w1, bne]
        exact next _ (by simp [put, h3]) (by simp [put]) (by simp [put])
      | false =>
        rw [q5] at q1
        simp (disch := first | omega | (simp only [ln]; first | done | omega)) only [walkAll, walkL, walkK, wk, E, Nat.reduceEqDiff, Nat.reduceAdd, Nat.reduceSub, Nat.reduceLeDiff, Int.reduceLT, Int.reduceLE, Int.reduceAdd, Int.reduceSub, Int.reduceToNat, ↓reduceIte, h3, h5, h6, hkl, w, hp, hp0, hl0, hp1, hl1, hp2, hl2, q1, q2, q3, q4, q5, w1, bne]
        exact next _ (by simp [put, h3]) (by simp [put]) (by simp [put])
    | true =>
      obtain ⟨k, x, hk, hx2⟩ := kidsS_pos (l := l) (i := i) (by have := of_decide_eq_true q4; omega)
      have q6 : (n.text == []) = true := by rw [h.text k x i n hk hx2 hn]; rfl
      cases q5 : ((i : Int) == 0) with
      | true =>
        rw [q5] at q1
        simp (disch := first | omega | (simp only [ln]; first | done | omega)) only [walkAll, walkL, walkK, wk, E, Nat.reduceEqDiff, Nat.reduceAdd, Nat.reduceSub, Nat.reduceLeDiff, Int.reduceLT, Int.reduceLE, Int.reduceAdd, Int.reduceSub, Int.reduceToNat, ↓reduceIte, h3, h5, h6, hkl, w, hp, hp0, hl0, hp1, hl1, hp2, hl2, q1, q2, q3, q4, q5, q6, w1, bne]
        exact next _ (by simp [put, h3]) (by simp [put]) (by simp [put])
      | false =>
        rw [q5] at q1
        simp (disch := first | omega | (simp only [ln]; first | done | omega)) only [walkAll, walkL, walkK, wk, E, Nat.reduceEqDiff, Nat.reduceAdd, Nat.reduceSub, Nat.reduceLeDiff, Int.reduceLT, Int.reduceLE, Int.reduceAdd, Int.reduceSub, Int.reduceToNat, ↓reduceIte, h3, h5, h6, hkl, w, hp, hp0, hl0, hp1, hl1, hp2, hl2, q1, q2, q3, q4, q5, q6, w1, bne]
        exact next _ (by simp [put, h3]) (by simp [put]) (by simp [put])
theorem parse_at (s : List UInt8) (hs : s.length ≤ 5000) (h : K (.tup [lsv ((parseS s).1.map Nd.c), .int .i64 (parseS s).2]) σ) : ACalls Tryz.prog (gD m) 19 [.str s] σ K := by
  have l1 := toksS_len s
  have l2 := toksS_txt s
  have l3 := sum_le (fun t : Tok => t.text.length) (4 * s.length) (toksS s).1 l2
  refine Parse_c s (by omega) (fun t ht => ⟨?_, ?_⟩) (by omega) ?_ h
  · have := l1.2 t ht; omega
  · have := l2 t ht; omega
  · have : (toksS s).1.length * (4 * s.length) ≤ 5000 * 20000 := Nat.mul_le_mul (by omega) (by omega)
    omega
theorem buildS_none {l : List Tok} (h : ((buildS l).2 == 0) = false) : (buildS l).1 = [] := by
  unfold buildS at h ⊢
  split
  · rfl
  · rename_i g
    rw [if_neg g] at h
    split
    · rfl
    · rename_i g2
      rw [if_neg g2] at h
      split
      · rename_i o ho; rw [ho] at h; cases h
      · rfl
theorem parse_none {s : List UInt8} (h : ((parseS s).2 == 0) = false) : (parseS s).1 = [] := by
  unfold parseS at h ⊢
  split
  · rename_i g; rw [if_pos g] at h; exact buildS_none h
  · rfl
theorem parse_stands {s : List UInt8} (h : ((parseS s).2 == 0) = true) : Stands (parseS s).1 := by
  unfold parseS at h ⊢
  split
  · rename_i g
    rw [if_pos g] at h
    exact build_stands (l := (toksS s).1) (by rw [← show (buildS (toksS s).1).2 = 0 by simpa using h])
  · rename_i g
    rw [if_neg g] at h
    rw [h] at g
    exact absurd rfl g
theorem TreeStands_law (s : List UInt8) : ACalls Tryz.prog (gD m) 6 [.str s] ⟨[], []⟩ (fun r _ => r = .bool true) := by
  refine ACalls_fn tok fm (fk6 _) ?_
  cases q : decide ((4000 : Int) < (s.length : Int)) with
  | true =>
    simp (disch := first | omega | (simp only [ln]; first | done | omega)) only [walkAll, walkL, walkK, wk, E, Nat.reduceEqDiff, Nat.reduceAdd, Nat.reduceSub, Nat.reduceLeDiff, Int.reduceLT, Int.reduceLE, Int.reduceAdd, Int.reduceSub, Int.reduceToNat, ↓reduceIte, c6, q]
    refine awake8_c ?_
    simp (disch := first | omega | (simp only [ln]; first | done | omega)) only [walkAll, walkL, walkK, wk, E, Nat.reduceEqDiff, Nat.reduceAdd, Nat.reduceSub, Nat.reduceLeDiff, Int.reduceLT, Int.reduceLE, Int.reduceAdd, Int.reduceSub, Int.reduceToNat, ↓reduceIte]
  | false =>
    have hs : s.length ≤ 4000 := by have := of_decide_eq_false q; omega
    simp (disch := first | omega | (simp only [ln]; first | done | omega)) only [walkAll, walkL, walkK, wk, E, Nat.reduceEqDiff, Nat.reduceAdd, Nat.reduceSub, Nat.reduceLeDiff, Int.reduceLT, Int.reduceLE, Int.reduceAdd, Int.reduceSub, Int.reduceToNat, ↓reduceIte, c6, q]
    refine parse_at s (by omega) ?_
    cases g : ((parseS s).2 == 0) with
    | false =>
      have hn := parse_none g
      have z0 : ((0 : Int) == 0) = true := rfl
      simp (disch := first | omega | (simp only [ln]; first | done | omega)) only [walkAll, walkL, walkK, wk, E, Nat.reduceEqDiff, Nat.reduceAdd, Nat.reduceSub, Nat.reduceLeDiff, Int.reduceLT, Int.reduceLE, Int.reduceAdd, Int.reduceSub, Int.reduceToNat, ↓reduceIte, bne, g, Bool.not_false]
      refine awake8_c ?_
      simp (disch := first | omega | (simp only [ln]; first | done | omega)) only [walkAll, walkL, walkK, wk, E, Nat.reduceEqDiff, Nat.reduceAdd, Nat.reduceSub, Nat.reduceLeDiff, Int.reduceLT, Int.reduceLE, Int.reduceAdd, Int.reduceSub, Int.reduceToNat, ↓reduceIte, hn, List.map_nil, lsv_nil, z0]
    | true =>
      have hS := parse_stands g
      generalize (parseS s).1 = l at *
      have hlen := lsv_len (l.map Nd.c)
      rw [List.length_map] at hlen
      have hm := hS.many
      have hsum := stands_sum hS
      have hsK : sumK l l.length + 1 = l.length := hsum
      have w : IntKind.i64.wrap ((l.length : Int) - 1) = (sumK l l.length : Int) := by rw [wrap_i64 _ (by omega) (by omega)]; omega
      have zz : ((sumK l l.length : Int) == (sumK l l.length : Int)) = true := by simp
      have z0 : ((0 : Int) == 0) = true := rfl
      have k1 : kidsS l (-1) = [] := by unfold kidsS; rw [if_neg (by omega)]
      have k2 : kidsS l (l.length : Int) = [] := by unfold kidsS; rw [if_neg (by omega)]
      simp (disch := first | omega | (simp only [ln]; first | done | omega)) only [walkAll, walkL, walkK, wk, E, Nat.reduceEqDiff, Nat.reduceAdd, Nat.reduceSub, Nat.reduceLeDiff, Int.reduceLT, Int.reduceLE, Int.reduceAdd, Int.reduceSub, Int.reduceToNat, ↓reduceIte, bne, g, Bool.not_true]
      refine stands_loop l hS l.length 0 _ (by omega) (by simp [put, E]) (by simp [put, E, sumK]) (by simp [put, E]) (fun e' h3 h5 => ?_)
      simp (disch := first | omega | (simp only [ln]; first | done | omega)) only [walkAll, walkL, walkK, wk, E, Nat.reduceEqDiff, Nat.reduceAdd, Nat.reduceSub, Nat.reduceLeDiff, Int.reduceLT, Int.reduceLE, Int.reduceAdd, Int.reduceSub, Int.reduceToNat, ↓reduceIte, h3, h5]
      refine awake8_c ?_
      simp (disch := first | omega | (simp only [ln]; first | done | omega)) only [walkAll, walkL, walkK, wk, E, Nat.reduceEqDiff, Nat.reduceAdd, Nat.reduceSub, Nat.reduceLeDiff, Int.reduceLT, Int.reduceLE, Int.reduceAdd, Int.reduceSub, Int.reduceToNat, ↓reduceIte, h3, h5, hlen, w, zz]
      refine Kids_c l (-1) (by omega) ?_
      simp (disch := first | omega | (simp only [ln]; first | done | omega)) only [walkAll, walkL, walkK, wk, E, Nat.reduceEqDiff, Nat.reduceAdd, Nat.reduceSub, Nat.reduceLeDiff, Int.reduceLT, Int.reduceLE, Int.reduceAdd, Int.reduceSub, Int.reduceToNat, ↓reduceIte, h3, h5, hlen, w, zz, k1, List.map_nil, lsv_nil, z0]
      refine Kids_c l l.length (by omega) ?_
      simp (disch := first | omega | (simp only [ln]; first | done | omega)) only [walkAll, walkL, walkK, wk, E, Nat.reduceEqDiff, Nat.reduceAdd, Nat.reduceSub, Nat.reduceLeDiff, Int.reduceLT, Int.reduceLE, Int.reduceAdd, Int.reduceSub, Int.reduceToNat, ↓reduceIte, h3, h5, hlen, w, zz, k1, k2, List.map_nil, lsv_nil, z0]
end
end Go.Ab.Sz
