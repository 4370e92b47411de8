/-
  The tokens of elements that stand in one another: a plain law.
-/
import Derived.Test.YtpejbkckppnamaaGreatDoorR7
import Derived.Test.YtpejbkckppnamaaGreatDoorT8
set_option linter.all false
set_option linter.unusedVariables false
set_option linter.unusedSimpArgs false
namespace Go.Ab.Sz
open Go Go.Ab Go.Proofs Go.RowKit
set_option maxRecDepth 40000
/-- The tokens of what is left. -/
def TK (s : List UInt8) (l : List Tok) : Prop := rToksL (s.length + 1) s = some l
theorem TK.nil : TK [] [] := rfl
theorem TK.step {s r : List UInt8} {k : Tok} {l : List Tok} (t : TK r l) (hs : s ≠ []) (h : rTok s = some (k, r)) : TK s (k :: l) := by
  have hl := rTok_len hs h
  unfold TK at *
  have hm := rToksL_mono _ _ _ t s.length (by omega)
  have h0 : (s == []) = false := by simpa using hs
  rw [rToksL, h0, h]
  simp only [Bool.false_eq_true, if_false]
  rw [hm]; rfl
def aO : Tok := ⟨1, [97], [], [], false⟩
def aC : Tok := ⟨2, [97], [], [], false⟩
def bE : Tok := ⟨1, [98], [], [], true⟩
def bC : Tok := ⟨2, [98], [], [], false⟩
def tx (s : List UInt8) : Tok := ⟨3, [], s, [], false⟩
theorem tw1 {c d : UInt8} (r : List UInt8) (hc : withins.contains c = true) (hd : withins.contains d = false) : (c :: d :: r : List UInt8).takeWhile withins.contains = [c] ∧ (c :: d :: r : List UInt8).dropWhile withins.contains = d :: r := by
  constructor
  · rw [List.takeWhile_cons, hc, List.takeWhile_cons, hd]; rfl
  · rw [List.dropWhile_cons, hc, List.dropWhile_cons, hd]; rfl
theorem rTok_o (r : List UInt8) : rTok (60 :: 97 :: 62 :: r) = some (aO, r) := by
  obtain ⟨t1, t2⟩ := tw1 (c := 97) (d := 62) r (by decide) (by decide)
  have t3 : rNm (97 :: 62 :: r) = [97] := by unfold rNm; rw [t1]; decide
  have t4 : (62 :: r : List UInt8).dropWhile blanksL.contains = 62 :: r := by
    rw [List.dropWhile_cons, show blanksL.contains 62 = false by decide]; rfl
  have t5 : Lib.hasPrefix (62 :: r) [62] = true := pre_self [62] r
  have t6 : Lib.hasPrefix (62 :: r) [47, 62] = false := rfl
  have e1 : rTok (60 :: 97 :: 62 :: r) = rOpen (97 :: 62 :: r) := rfl
  rw [e1]
  unfold rOpen
  rw [t3, t2]
  simp only [rOpenL, t4, t5, t6, if_true, Bool.false_eq_true, if_false]
  rfl
theorem rTok_b (r : List UInt8) : rTok (60 :: 98 :: 47 :: 62 :: r) = some (bE, r) := by
  obtain ⟨t1, t2⟩ := tw1 (c := 98) (d := 47) (62 :: r) (by decide) (by decide)
  have t3 : rNm (98 :: 47 :: 62 :: r) = [98] := by unfold rNm; rw [t1]; decide
  have t4 : (47 :: 62 :: r : List UInt8).dropWhile blanksL.contains = 47 :: 62 :: r := by
    rw [List.dropWhile_cons, show blanksL.contains 47 = false by decide]; rfl
  have t5 : Lib.hasPrefix (47 :: 62 :: r) [47, 62] = true := pre_self [47, 62] r
  have e1 : rTok (60 :: 98 :: 47 :: 62 :: r) = rOpen (98 :: 47 :: 62 :: r) := rfl
  rw [e1]
  unfold rOpen
  rw [t3, t2]
  simp only [rOpenL, t4, t5, if_true]
  rfl
theorem rTok_end (c : UInt8) (hc : withins.contains c = true) (hn : nameR [c] = [c]) (r : List UInt8) : rTok (60 :: 47 :: c :: 62 :: r) = some (⟨2, [c], [], [], false⟩, r) := by
  obtain ⟨t1, t2⟩ := tw1 (c := c) (d := 62) r hc (by decide)
  have t3 : rNm (c :: 62 :: r) = [c] := by unfold rNm; rw [t1, hn]
  have t4 : rA2 (c :: 62 :: r) = 62 :: r := by
    unfold rA2
    rw [t2, List.dropWhile_cons, show blanksL.contains 62 = false by decide]; rfl
  have t5 : Lib.hasPrefix (62 :: r) [62] = true := pre_self [62] r
  have t6 : Lib.hasPrefix (60 :: 47 :: c :: 62 :: r) [60, 47] = true := pre_self [60, 47] _
  have t7 : (60 :: 47 :: c :: 62 :: r : List UInt8).drop 2 = c :: 62 :: r := rfl
  unfold rTok
  rw [if_pos t6, t7, t3, t4, t5]
  rfl
theorem rTok_ac (r : List UInt8) : rTok (60 :: 47 :: 97 :: 62 :: r) = some (aC, r) := rTok_end 97 (by decide) (by decide) r
theorem rTok_bc (r : List UInt8) : rTok (60 :: 47 :: 98 :: 62 :: r) = some (bC, r) := rTok_end 98 (by decide) (by decide) r
theorem rTok_text {c : UInt8} {t r : List UInt8} (h60 : ∀ x ∈ c :: t, (x != 60) = true) (hv : valS (c :: t) = (c :: t, true)) (hr : r = [] ∨ ∃ y, r = 60 :: y) : rTok (c :: t ++ r) = some (tx (c :: t), r) := by
  have hc : ((60 : UInt8) == c) = false := by
    have := h60 c (by simp)
    rw [beq_eq_false_iff_ne]; rintro rfl; simp at this
  have e1 : Lib.hasPrefix (c :: t ++ r) [60, 47] = false := by rw [List.cons_append, pre_cons, hc]; rfl
  have e2 : Lib.hasPrefix (c :: t ++ r) [60] = false := by rw [List.cons_append, pre_cons, hc]; rfl
  have e3 : (c :: t ++ r).takeWhile (· != 60) = c :: t ∧ (c :: t ++ r).dropWhile (· != 60) = r := by
    rcases hr with rfl | ⟨y, rfl⟩
    · rw [List.append_nil]; exact ⟨takeWhile_all h60, dropWhile_all _ _ h60⟩
    · exact ⟨takeWhile_at h60 (by simp), dropWhile_at h60 (by simp)⟩
  unfold rTok
  rw [e1, e2, e3.1, e3.2, hv]
  rfl
theorem TK.text {c : UInt8} {t r : List UInt8} {l : List Tok} (k : TK r l) (h60 : ∀ x ∈ c :: t, (x != 60) = true) (hv : valS (c :: t) = (c :: t, true)) (hr : r = [] ∨ ∃ y, r = 60 :: y) : TK (c :: t ++ r) (tx (c :: t) :: l) := k.step (by simp) (rTok_text h60 hv hr)
def rep (n : Nat) (s : List UInt8) : List UInt8 := (List.replicate n s).flatten
theorem rep_zero (s : List UInt8) : rep 0 s = [] := rfl
theorem rep_succ (n : Nat) (s : List UInt8) : rep (n + 1) s = s ++ rep n s := by simp [rep, List.replicate_succ]
theorem rep_snoc (n : Nat) (s : List UInt8) : rep (n + 1) s = rep n s ++ s := by simp [rep, List.replicate_succ']
theorem rep_len (n : Nat) (s : List UInt8) : (rep n s).length = n * s.length := by
  induction n with
  | zero => simp [rep]
  | succ n ih => rw [rep_succ, List.length_append, ih, Nat.add_mul]; omega
def oL : List UInt8 := [60, 97, 62]
def cL : List UInt8 := [60, 47, 97, 62]
theorem TK.opens {r : List UInt8} {l : List Tok} (k : TK r l) : ∀ n, TK (rep n oL ++ r) (List.replicate n aO ++ l)
  | 0 => k
  | n + 1 => by
    rw [rep_succ, List.replicate_succ, List.append_assoc]
    exact (TK.opens k n).step (by simp [oL]) (rTok_o _)
theorem TK.closes {r : List UInt8} {l : List Tok} (k : TK r l) : ∀ n, TK (rep n cL ++ r) (List.replicate n aC ++ l)
  | 0 => k
  | n + 1 => by
    rw [rep_succ, List.replicate_succ, List.append_assoc]
    exact (TK.closes k n).step (by simp [cL]) (rTok_ac _)
theorem utf_rep {s : List UInt8} (h : utfB s = true) (r : List UInt8) : ∀ n, utfB (rep n s ++ r) = utfB r
  | 0 => rfl
  | n + 1 => by rw [rep_succ, List.append_assoc, utfB_append _ h, utf_rep h r n]
theorem TK.toks {s : List UInt8} {l : List Tok} (k : TK s l) (h1 : s.length ≤ 4096) (h2 : utfB s = true) (h3 : Lib.hasPrefix s prologL = false) : toksS s = (l, 0) := by
  rw [← toks_eq]
  unfold rToks
  rw [if_neg (by omega), h2, trim_no h3]
  simp only [Bool.not_true, Bool.false_eq_true, if_false]
  rw [show rToksL (s.length + 1) s = some l from k]
/-- What stands behind closing signs: nothing, or a sign. -/
theorem closes_head (n : Nat) (r : List UInt8) (hr : r = [] ∨ ∃ y, r = 60 :: y) : rep n cL ++ r = [] ∨ ∃ y, rep n cL ++ r = 60 :: y := by
  cases n with
  | zero => exact hr
  | succ n => exact .inr ⟨_, by rw [rep_succ]; rfl⟩
section
variable (n : Nat)
theorem no_pro (n : Nat) (h : 0 < n) (r : List UInt8) : Lib.hasPrefix (rep n oL ++ r) prologL = false := by
  obtain ⟨k, rfl⟩ : ∃ k, n = k + 1 := ⟨n - 1, by omega⟩
  rw [rep_succ]; rfl
/-- Elements in one another, what stands in the inmost one, and the ends. -/
theorem toks_in {x : List UInt8} {lx : List Tok} {m : Nat} {y : List UInt8} {ly : List Tok} (hn : 0 < n) (hn2 : n ≤ 40) (hm : m ≤ 40) (hx : utfB x = true) (hy : utfB y = true) (hxl : x.length ≤ 20) (hyl : y.length ≤ 20)
    (hk : TK (x ++ (rep m cL ++ y)) (lx ++ (List.replicate m aC ++ ly))) : toksS (rep n oL ++ (x ++ (rep m cL ++ y))) = (List.replicate n aO ++ (lx ++ (List.replicate m aC ++ ly)), 0) := by
  refine (hk.opens n).toks ?_ ?_ (no_pro n hn _)
  · simp only [List.length_append, rep_len, oL, cL, List.length_cons, List.length_nil]; omega
  · rw [utf_rep (by decide), utfB_append _ hx, utf_rep (by decide), hy]
end
end Go.Ab.Sz
namespace Go.Ab.Sz
open Go Go.Ab Go.Proofs Go.RowKit
set_option maxRecDepth 40000
def ndA (d : Nat) : List Nd := (List.range d).map fun i : Nat => ⟨(i : Int) - 1, [97], [], []⟩
def kA (d : Nat) : List Bool := List.replicate (d - 1) true ++ [false]
/-- So many are open. -/
def opn (d : Nat) : TB := ⟨ndA d, List.range d, kA d⟩
def fl (x : TB × Int) : List Nd × List Nat × List Bool × Int := (x.1.l, x.1.op, x.1.kids, x.2)
theorem fl_inj {x y : TB × Int} (h : fl x = fl y) : x = y := by
  obtain ⟨⟨a, b, c⟩, d⟩ := x
  obtain ⟨⟨a', b', c'⟩, d'⟩ := y
  simp only [fl, Prod.mk.injEq] at h
  obtain ⟨rfl, rfl, rfl, rfl⟩ := h
  rfl
theorem runL_ok {b b' : TB} {t : Tok} {l : List Tok} (h : b.step t = (b', 0)) : runL b (t :: l) = runL b' l := by simp only [runL, h]; rfl
theorem runL_err {b b' : TB} {t : Tok} {l : List Tok} {x : Int} (h : b.step t = (b', x)) (hx : (x == 0) = false) : (runL b (t :: l)).2 = x := by simp only [runL, h, hx]; rfl
theorem opn_one : TB.step ⟨[], [], []⟩ aO = (opn 1, 0) := fl_inj (by decide +kernel)
theorem opn_all : ∀ d, d < 31 → fl ((opn (d + 1)).step aO) = fl (opn (d + 2), 0) := by decide +kernel
theorem opn_step {d : Nat} (h : d < 32) (h1 : 1 ≤ d) : (opn d).step aO = (opn (d + 1), 0) := by
  obtain ⟨k, rfl⟩ : ∃ k, d = k + 1 := ⟨d - 1, by omega⟩
  exact fl_inj (opn_all k (by omega))
theorem opn_deep : ((opn 32).step aO).2 = 11 := by decide +kernel
theorem run_opn : ∀ (k d : Nat) (rest : List Tok), 1 ≤ d → d + k ≤ 32 → runL (opn d) (List.replicate k aO ++ rest) = runL (opn (d + k)) rest
  | 0, _, _, _, _ => rfl
  | k + 1, d, rest, h1, h2 => by
    rw [List.replicate_succ, List.cons_append, runL_ok (opn_step (by omega) h1), run_opn k (d + 1) rest (by omega) (by omega)]
    rw [show d + 1 + k = d + (k + 1) by omega]
theorem run_opens {n : Nat} (h1 : 1 ≤ n) (h2 : n ≤ 32) (rest : List Tok) : runL ⟨[], [], []⟩ (List.replicate n aO ++ rest) = runL (opn n) rest := by
  obtain ⟨k, rfl⟩ : ∃ k, n = k + 1 := ⟨n - 1, by omega⟩
  rw [List.replicate_succ, List.cons_append, runL_ok opn_one, run_opn k 1 rest (by omega) (by omega), Nat.add_comm]
theorem run_deep {n : Nat} (h : 32 < n) (rest : List Tok) : (runL ⟨[], [], []⟩ (List.replicate n aO ++ rest)).2 = 11 := by
  obtain ⟨k, rfl⟩ : ∃ k, n = 32 + (k + 1) := ⟨n - 33, by omega⟩
  rw [← List.replicate_append_replicate, List.append_assoc, run_opens (by omega) (by omega), List.replicate_succ, List.cons_append]
  exact runL_err (b' := ((opn 32).step aO).1) (by rw [← opn_deep]) rfl
theorem range_last (d : Nat) : (List.range (d + 1)).getLast? = some d := by rw [List.range_succ]; simp
theorem range_cut (d : Nat) : (List.range (d + 1)).take ((List.range (d + 1)).length - 1) = List.range d := by
  rw [List.range_succ, List.length_append, List.length_singleton, Nat.add_sub_cancel, List.take_left' rfl]
theorem fin_step {l : List Nd} {d : Nat} {ks : List Bool} {nd : Nd} {t : Tok} (hk : t.kind = 2) (h1 : l[d]? = some nd) (h2 : nd.name = t.name) : TB.step ⟨l, List.range (d + 1), ks⟩ t = (⟨l, List.range d, ks⟩, 0) := by
  unfold TB.step
  rw [hk, if_neg (by decide), if_pos (by decide)]
  unfold TB.fin
  simp only [range_last, h1, h2, beq_self_eq_true, if_true, range_cut]
theorem fin_bad {l : List Nd} {d : Nat} {ks : List Bool} {nd : Nd} {t : Tok} (hk : t.kind = 2) (h1 : l[d]? = some nd) (h2 : (nd.name == t.name) = false) : TB.step ⟨l, List.range (d + 1), ks⟩ t = (⟨l, List.range (d + 1), ks⟩, 10) := by
  unfold TB.step
  rw [hk, if_neg (by decide), if_pos (by decide)]
  unfold TB.fin
  simp only [range_last, h1, h2, Bool.false_eq_true, if_false]
theorem run_closes (l : List Nd) (ks : List Bool) : ∀ (k d : Nat) (rest : List Tok), (∀ i, i < d + k → ∃ nd, l[i]? = some nd ∧ nd.name = [97]) → runL ⟨l, List.range (d + k), ks⟩ (List.replicate k aC ++ rest) = runL ⟨l, List.range d, ks⟩ rest
  | 0, _, _, _ => rfl
  | k + 1, d, rest, h => by
    obtain ⟨nd, h1, h2⟩ := h (d + k) (by omega)
    rw [List.replicate_succ, List.cons_append, show d + (k + 1) = d + k + 1 by omega, runL_ok (fin_step rfl h1 h2)]
    exact run_closes l ks k d rest fun i hi => h i (by omega)
theorem names {l : List Nd} (h : ∀ x ∈ l, x.name = [97]) (l2 : List Nd) {d : Nat} (hd : d ≤ l.length) : ∀ i, i < d → ∃ nd, (l ++ l2)[i]? = some nd ∧ nd.name = [97] := fun i hi =>
  ⟨l[i], by rw [List.getElem?_append_left (by omega)]; exact List.getElem?_eq_getElem _, h _ (List.getElem_mem _)⟩
theorem ndA_name (d : Nat) : ∀ x ∈ ndA d, x.name = [97] := fun x hx => by
  obtain ⟨i, _, rfl⟩ := List.mem_map.1 hx; rfl
theorem ndA_len (d : Nat) : (ndA d).length = d := by simp [ndA]
theorem buildS_ok {l : List Tok} {b : TB} {out : List Nd} (h : runL ⟨[], [], []⟩ l = (b, 0)) (h1 : b.l ≠ []) (h2 : b.op = []) (h3 : doneL b.l b.kids = some out) : buildS l = (out, 0) := by
  unfold buildS
  rw [h, if_neg (by simp), if_neg (by simp [h1, h2]), h3]
theorem buildS_err {l : List Tok} {x : Int} (h : (runL ⟨[], [], []⟩ l).2 = x) (hx : (x == 0) = false) : buildS l = ([], x) := by
  unfold buildS
  rw [h, hx]; rfl
theorem buildS_open {l : List Tok} {b : TB} (h : runL ⟨[], [], []⟩ l = (b, 0)) (h2 : b.op ≠ []) : buildS l = ([], 10) := by
  unfold buildS
  rw [h, if_neg (by simp), if_pos (by simp [h2])]
theorem buildS_mixed {l : List Tok} {b : TB} (h : runL ⟨[], [], []⟩ l = (b, 0)) (h1 : b.l ≠ []) (h2 : b.op = []) (h3 : doneL b.l b.kids = none) : buildS l = ([], 12) := by
  unfold buildS
  rw [h, if_neg (by simp), if_neg (by simp [h1, h2]), h3]
/-- The inmost one with a text. -/
def ndT (n : Nat) (s : List UInt8) : List Nd := ndA (n - 1) ++ [⟨(n : Int) - 2, [97], s, []⟩]
theorem ndT_name (n : Nat) (s : List UInt8) : ∀ x ∈ ndT n s, x.name = [97] := fun x hx => by
  rcases List.mem_append.1 hx with hx | hx
  · exact ndA_name _ x hx
  · have : x = ⟨(n : Int) - 2, [97], s, []⟩ := by simpa using hx
    rw [this]
theorem ndT_len {n : Nat} (h : 1 ≤ n) (s : List UInt8) : (ndT n s).length = n := by simp [ndT, ndA_len]; omega
theorem ndT_last {n : Nat} (h : 1 ≤ n) (s : List UInt8) : (ndT n s)[n - 1]? = some ⟨(n : Int) - 2, [97], s, []⟩ := by
  unfold ndT
  rw [List.getElem?_append_right (by rw [ndA_len]; omega), ndA_len, Nat.sub_self]; rfl
def t1L : List UInt8 := [32, 120]
def t2L : List UInt8 := [32, 10, 32]
theorem text_1 : ∀ n, n < 32 → fl ((opn (n + 1)).step (tx t1L)) = fl (⟨ndT (n + 1) t1L, List.range (n + 1), kA (n + 1)⟩, 0) ∧ doneL (ndT (n + 1) t1L) (kA (n + 1)) = some (ndT (n + 1) t1L) := by decide +kernel
theorem text_2 : ∀ n, n < 32 → fl ((opn (n + 1)).step (tx t2L)) = fl (⟨ndT (n + 1) t2L, List.range (n + 1), kA (n + 1)⟩, 0) ∧ doneL (ndT (n + 1) t2L) (kA (n + 1)) = some (ndT (n + 1) t2L) := by decide +kernel
theorem text_all (n : Nat) (h : n < 33) (h1 : 1 ≤ n) (s : List UInt8) (hs : s ∈ [t1L, t2L]) : fl ((opn n).step (tx s)) = fl (⟨ndT n s, List.range n, kA n⟩, 0) ∧ doneL (ndT n s) (kA n) = some (ndT n s) := by
  obtain ⟨k, rfl⟩ : ∃ k, n = k + 1 := ⟨n - 1, by omega⟩
  rcases List.mem_cons.1 hs with rfl | hs
  · exact text_1 k (by omega)
  · have : s = t2L := by simpa using hs
    subst this
    exact text_2 k (by omega)
/-- In the inmost one an element without anything, and a text. -/
def ndX (n : Nat) : List Nd := [⟨(n : Int) - 1, [98], [], []⟩]
def kX (n : Nat) : List Bool := List.replicate n true ++ [false]
theorem mixed_a : ∀ n, n < 31 → fl ((opn (n + 1)).step bE) = fl (⟨ndA (n + 1) ++ ndX (n + 1), List.range (n + 1), kX (n + 1)⟩, 0) := by decide +kernel
theorem mixed_b : ∀ n, n < 31 → fl (TB.step ⟨ndA (n + 1) ++ ndX (n + 1), List.range (n + 1), kX (n + 1)⟩ (tx [120])) = fl (⟨ndT (n + 1) [120] ++ ndX (n + 1), List.range (n + 1), kX (n + 1)⟩, 0) := by decide +kernel
theorem mixed_c : ∀ n, n < 31 → doneL (ndT (n + 1) [120] ++ ndX (n + 1)) (kX (n + 1)) = none := by decide +kernel
theorem mixed_all (n : Nat) (h : n < 32) (h1 : 1 ≤ n) : fl ((opn n).step bE) = fl (⟨ndA n ++ ndX n, List.range n, kX n⟩, 0) ∧
    fl (TB.step ⟨ndA n ++ ndX n, List.range n, kX n⟩ (tx [120])) = fl (⟨ndT n [120] ++ ndX n, List.range n, kX n⟩, 0) ∧
    doneL (ndT n [120] ++ ndX n) (kX n) = none := by
  obtain ⟨k, rfl⟩ : ∃ k, n = k + 1 := ⟨n - 1, by omega⟩
  exact ⟨mixed_a k (by omega), mixed_b k (by omega), mixed_c k (by omega)⟩
theorem range_ne {n : Nat} (h : 1 ≤ n) : List.range n ≠ [] := fun e => by
  have := congrArg List.length e
  simp at this; omega
theorem ne_len {α : Type} {l : List α} (h : 0 < l.length) : l ≠ [] := List.length_pos_iff.1 h
section
variable {n : Nat} (h1 : 1 ≤ n) (h2 : n ≤ 32)
include h1 h2
theorem build_text {s : List UInt8} (hs : s ∈ [t1L, t2L]) (rest : List Tok) : runL ⟨[], [], []⟩ (List.replicate n aO ++ (tx s :: (List.replicate n aC ++ rest))) = runL ⟨ndT n s, [], kA n⟩ rest := by
  obtain ⟨a, b⟩ := text_all n (by omega) h1 s hs
  rw [run_opens h1 h2, runL_ok (fl_inj a)]
  have := run_closes (ndT n s) (kA n) n 0 rest (by rw [Nat.zero_add]; simpa using names (ndT_name n s) [] (by rw [ndT_len h1]; exact Nat.le_refl _))
  rw [Nat.zero_add] at this
  exact this
theorem build_bare (rest : List Tok) : runL ⟨[], [], []⟩ (List.replicate n aO ++ (List.replicate n aC ++ rest)) = runL ⟨ndA n, [], kA n⟩ rest := by
  rw [run_opens h1 h2]
  have := run_closes (ndA n) (kA n) n 0 rest (by rw [Nat.zero_add]; simpa using names (ndA_name n) [] (by rw [ndA_len]; exact Nat.le_refl _))
  rw [Nat.zero_add] at this
  exact this
theorem build_less (rest : List Tok) : runL ⟨[], [], []⟩ (List.replicate n aO ++ (List.replicate (n - 1) aC ++ rest)) = runL ⟨ndA n, List.range 1, kA n⟩ rest := by
  rw [run_opens h1 h2]
  have := run_closes (ndA n) (kA n) (n - 1) 1 rest (by rw [show 1 + (n - 1) = n by omega]; simpa using names (ndA_name n) [] (by rw [ndA_len]; exact Nat.le_refl _))
  rw [show 1 + (n - 1) = n by omega] at this
  exact this
theorem ndA_ne : ndA n ≠ [] := ne_len (by rw [ndA_len]; omega)
theorem ndT_ne (s : List UInt8) : ndT n s ≠ [] := ne_len (by rw [ndT_len h1]; omega)
theorem deep_text : buildS (List.replicate n aO ++ (tx t1L :: (List.replicate n aC ++ []))) = (ndT n t1L, 0) :=
  buildS_ok (build_text h1 h2 (by simp) []) (ndT_ne h1 h2 _) rfl (text_all n (by omega) h1 t1L (by simp)).2
theorem deep_blank : buildS (tx [32] :: (List.replicate n aO ++ (tx t2L :: (List.replicate n aC ++ [tx [9]])))) = (ndT n t2L, 0) := by
  refine buildS_ok (b := ⟨ndT n t2L, [], kA n⟩) ?_ (ndT_ne h1 h2 _) rfl (text_all n (by omega) h1 t2L (by simp)).2
  rw [runL_ok (b' := ⟨[], [], []⟩) (fl_inj (by decide +kernel)), build_text h1 h2 (by simp), runL_ok (b' := ⟨ndT n t2L, [], kA n⟩) (show TB.step _ _ = _ from rfl)]
  rfl
theorem deep_0 : buildS (List.replicate n aO ++ (List.replicate (n - 1) aC ++ [])) = ([], 10) := buildS_open (build_less h1 h2 []) (range_ne (Nat.le_refl 1))
theorem deep_1 : buildS (List.replicate n aO ++ (List.replicate n aC ++ [bE])) = ([], 10) := by
  refine buildS_err ?_ rfl
  rw [build_bare h1 h2]
  refine runL_err (b' := ⟨ndA n, [], kA n⟩) ?_ rfl
  have hne : (ndA n == []) = false := by simpa using ndA_ne h1 h2
  show TB.begin ⟨ndA n, [], kA n⟩ bE = _
  unfold TB.begin
  simp only [hne]
  rfl
theorem deep_2 : buildS (List.replicate n aO ++ (List.replicate (n - 1) aC ++ [bC])) = ([], 10) := by
  refine buildS_err ?_ rfl
  rw [build_less h1 h2]
  obtain ⟨nd, e1, e2⟩ := names (ndA_name n) [] (d := 1) (by rw [ndA_len]; exact h1) 0 (by omega)
  rw [List.append_nil] at e1
  exact runL_err (fin_bad (nd := nd) rfl e1 (by rw [e2]; decide)) rfl
theorem deep_3 : buildS (List.replicate n aO ++ (List.replicate n aC ++ [tx [120]])) = ([], 10) := by
  refine buildS_err ?_ rfl
  rw [build_bare h1 h2]
  exact runL_err (b' := ⟨ndA n, [], kA n⟩) rfl rfl
theorem deep_5 : buildS (List.replicate n aO ++ (List.replicate n aC ++ [aC])) = ([], 10) := by
  refine buildS_err ?_ rfl
  rw [build_bare h1 h2]
  exact runL_err (b' := ⟨ndA n, [], kA n⟩) rfl rfl
end
theorem deep_4 {n : Nat} (h1 : 1 ≤ n) (h2 : n < 32) : buildS (List.replicate n aO ++ (bE :: tx [120] :: (List.replicate n aC ++ []))) = ([], 12) := by
  obtain ⟨a, b, c⟩ := mixed_all n h2 h1
  refine buildS_mixed (b := ⟨ndT n [120] ++ ndX n, [], kX n⟩) ?_ (by simp [ndX]) rfl c
  rw [run_opens h1 (by omega), runL_ok (fl_inj a), runL_ok (fl_inj b)]
  have := run_closes (ndT n [120] ++ ndX n) (kX n) n 0 [] (by rw [Nat.zero_add]; exact names (ndT_name n _) _ (by rw [ndT_len h1]; exact Nat.le_refl _))
  rw [Nat.zero_add] at this
  exact this
theorem deep_over {n : Nat} (h : 32 < n) (rest : List Tok) : buildS (List.replicate n aO ++ rest) = ([], 11) := buildS_err (run_deep h rest) rfl
end Go.Ab.Sz
namespace Go.Ab.Sz
open Go Go.Ab Go.Proofs Go.RowKit
set_option maxRecDepth 40000
end Go.Ab.Sz
namespace Go.Ab.Sz
open Go Go.Ab Go.Proofs Go.RowKit
set_option maxRecDepth 40000
end Go.Ab.Sz
