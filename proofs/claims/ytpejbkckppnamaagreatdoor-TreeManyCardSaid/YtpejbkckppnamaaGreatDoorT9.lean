/-
  The tokens of elements that stand in one another: a plain law.
-/
import Derived.Test.YtpejbkckppnamaaGreatDoorR7
import Derived.Test.YtpejbkckppnamaaGreatDoorT8
set_option linter.all false
set_option linter.unusedVariables false
set_option linter.unusedSimpArgs false
namespace Go.Ab.Sz
open Go Go.Ab Go.Proofs Go.RowKit
set_option maxRecDepth 40000
/-- The tokens of what is left. -/
def TK (s : List UInt8) (l : List Tok) : Prop := rToksL (s.length + 1) s = some l
theorem TK.nil : TK [] [] := rfl
theorem TK.step {s r : List UInt8} {k : Tok} {l : List Tok} (t : TK r l) (hs : s ≠ []) (h : rTok s = some (k, r)) : TK s (k :: l) := by
  have hl := rTok_len hs h
  unfold TK at *
  have hm := rToksL_mono _ _ _ t s.length (by omega)
  have h0 : (s == []) = false := by simpa using hs
  rw [rToksL, h0, h]
  simp only [Bool.false_eq_true, if_false]
  rw [hm]; rfl
def aO : Tok := ⟨1, [97], [], [], false⟩
def aC : Tok := ⟨2, [97], [], [], false⟩
def bE : Tok := ⟨1, [98], [], [], true⟩
def tx (s : List UInt8) : Tok := ⟨3, [], s, [], false⟩
theorem rTok_text {c : UInt8} {t r : List UInt8} (h60 : ∀ x ∈ c :: t, (x != 60) = true) (hv : valS (c :: t) = (c :: t, true)) (hr : r = [] ∨ ∃ y, r = 60 :: y) : rTok (c :: t ++ r) = some (tx (c :: t), r) := by
  have hc : ((60 : UInt8) == c) = false := by
    have := h60 c (by simp)
    rw [beq_eq_false_iff_ne]; rintro rfl; simp at this
  have e1 : Lib.hasPrefix (c :: t ++ r) [60, 47] = false := by rw [List.cons_append, pre_cons, hc]; rfl
  have e2 : Lib.hasPrefix (c :: t ++ r) [60] = false := by rw [List.cons_append, pre_cons, hc]; rfl
  have e3 : (c :: t ++ r).takeWhile (· != 60) = c :: t ∧ (c :: t ++ r).dropWhile (· != 60) = r := by
    rcases hr with rfl | ⟨y, rfl⟩
    · rw [List.append_nil]; exact ⟨takeWhile_all h60, dropWhile_all _ _ h60⟩
    · exact ⟨takeWhile_at h60 (by simp), dropWhile_at h60 (by simp)⟩
  unfold rTok
  rw [e1, e2, e3.1, e3.2, hv]
  rfl
theorem TK.text {c : UInt8} {t r : List UInt8} {l : List Tok} (k : TK r l) (h60 : ∀ x ∈ c :: t, (x != 60) = true) (hv : valS (c :: t) = (c :: t, true)) (hr : r = [] ∨ ∃ y, r = 60 :: y) : TK (c :: t ++ r) (tx (c :: t) :: l) := k.step (by simp) (rTok_text h60 hv hr)
def rep (n : Nat) (s : List UInt8) : List UInt8 := (List.replicate n s).flatten
section
variable (n : Nat)
end
end Go.Ab.Sz
namespace Go.Ab.Sz
open Go Go.Ab Go.Proofs Go.RowKit
set_option maxRecDepth 40000
def ndA (d : Nat) : List Nd := (List.range d).map fun i : Nat => ⟨(i : Int) - 1, [97], [], []⟩
def kA (d : Nat) : List Bool := List.replicate (d - 1) true ++ [false]
/-- So many are open. -/
def opn (d : Nat) : TB := ⟨ndA d, List.range d, kA d⟩
def fl (x : TB × Int) : List Nd × List Nat × List Bool × Int := (x.1.l, x.1.op, x.1.kids, x.2)
theorem fl_inj {x y : TB × Int} (h : fl x = fl y) : x = y := by
  obtain ⟨⟨a, b, c⟩, d⟩ := x
  obtain ⟨⟨a', b', c'⟩, d'⟩ := y
  simp only [fl, Prod.mk.injEq] at h
  obtain ⟨rfl, rfl, rfl, rfl⟩ := h
  rfl
theorem runL_ok {b b' : TB} {t : Tok} {l : List Tok} (h : b.step t = (b', 0)) : runL b (t :: l) = runL b' l := by simp only [runL, h]; rfl
theorem runL_err {b b' : TB} {t : Tok} {l : List Tok} {x : Int} (h : b.step t = (b', x)) (hx : (x == 0) = false) : (runL b (t :: l)).2 = x := by simp only [runL, h, hx]; rfl
theorem opn_one : TB.step ⟨[], [], []⟩ aO = (opn 1, 0) := fl_inj (by decide +kernel)
theorem opn_all : ∀ d, d < 31 → fl ((opn (d + 1)).step aO) = fl (opn (d + 2), 0) := by decide +kernel
theorem opn_step {d : Nat} (h : d < 32) (h1 : 1 ≤ d) : (opn d).step aO = (opn (d + 1), 0) := by
  obtain ⟨k, rfl⟩ : ∃ k, d = k + 1 := ⟨d - 1, by omega⟩
  exact fl_inj (opn_all k (by omega))
theorem run_opn : ∀ (k d : Nat) (rest : List Tok), 1 ≤ d → d + k ≤ 32 → runL (opn d) (List.replicate k aO ++ rest) = runL (opn (d + k)) rest
  | 0, _, _, _, _ => rfl
  | k + 1, d, rest, h1, h2 => by
    rw [List.replicate_succ, List.cons_append, runL_ok (opn_step (by omega) h1), run_opn k (d + 1) rest (by omega) (by omega)]
    rw [show d + 1 + k = d + (k + 1) by omega]
theorem run_opens {n : Nat} (h1 : 1 ≤ n) (h2 : n ≤ 32) (rest : List Tok) : runL ⟨[], [], []⟩ (List.replicate n aO ++ rest) = runL (opn n) rest := by
  obtain ⟨k, rfl⟩ : ∃ k, n = k + 1 := ⟨n - 1, by omega⟩
  rw [List.replicate_succ, List.cons_append, runL_ok opn_one, run_opn k 1 rest (by omega) (by omega), Nat.add_comm]
theorem range_last (d : Nat) : (List.range (d + 1)).getLast? = some d := by rw [List.range_succ]; simp
theorem range_cut (d : Nat) : (List.range (d + 1)).take ((List.range (d + 1)).length - 1) = List.range d := by
  rw [List.range_succ, List.length_append, List.length_singleton, Nat.add_sub_cancel, List.take_left' rfl]
theorem fin_step {l : List Nd} {d : Nat} {ks : List Bool} {nd : Nd} {t : Tok} (hk : t.kind = 2) (h1 : l[d]? = some nd) (h2 : nd.name = t.name) : TB.step ⟨l, List.range (d + 1), ks⟩ t = (⟨l, List.range d, ks⟩, 0) := by
  unfold TB.step
  rw [hk, if_neg (by decide), if_pos (by decide)]
  unfold TB.fin
  simp only [range_last, h1, h2, beq_self_eq_true, if_true, range_cut]
theorem run_closes (l : List Nd) (ks : List Bool) : ∀ (k d : Nat) (rest : List Tok), (∀ i, i < d + k → ∃ nd, l[i]? = some nd ∧ nd.name = [97]) → runL ⟨l, List.range (d + k), ks⟩ (List.replicate k aC ++ rest) = runL ⟨l, List.range d, ks⟩ rest
  | 0, _, _, _ => rfl
  | k + 1, d, rest, h => by
    obtain ⟨nd, h1, h2⟩ := h (d + k) (by omega)
    rw [List.replicate_succ, List.cons_append, show d + (k + 1) = d + k + 1 by omega, runL_ok (fin_step rfl h1 h2)]
    exact run_closes l ks k d rest fun i hi => h i (by omega)
theorem names {l : List Nd} (h : ∀ x ∈ l, x.name = [97]) (l2 : List Nd) {d : Nat} (hd : d ≤ l.length) : ∀ i, i < d → ∃ nd, (l ++ l2)[i]? = some nd ∧ nd.name = [97] := fun i hi =>
  ⟨l[i], by rw [List.getElem?_append_left (by omega)]; exact List.getElem?_eq_getElem _, h _ (List.getElem_mem _)⟩
theorem ndA_name (d : Nat) : ∀ x ∈ ndA d, x.name = [97] := fun x hx => by
  obtain ⟨i, _, rfl⟩ := List.mem_map.1 hx; rfl
theorem ndA_text (d : Nat) : ∀ x ∈ ndA d, x.text = [] := fun x hx => by
  obtain ⟨i, _, rfl⟩ := List.mem_map.1 hx; rfl
theorem ndA_len (d : Nat) : (ndA d).length = d := by simp [ndA]
theorem buildS_ok {l : List Tok} {b : TB} {out : List Nd} (h : runL ⟨[], [], []⟩ l = (b, 0)) (h1 : b.l ≠ []) (h2 : b.op = []) (h3 : doneL b.l b.kids = some out) : buildS l = (out, 0) := by
  unfold buildS
  rw [h, if_neg (by simp), if_neg (by simp [h1, h2]), h3]
theorem buildS_err {l : List Tok} {x : Int} (h : (runL ⟨[], [], []⟩ l).2 = x) (hx : (x == 0) = false) : buildS l = ([], x) := by
  unfold buildS
  rw [h, hx]; rfl
theorem range_ne {n : Nat} (h : 1 ≤ n) : List.range n ≠ [] := fun e => by
  have := congrArg List.length e
  simp at this; omega
theorem ne_len {α : Type} {l : List α} (h : 0 < l.length) : l ≠ [] := List.length_pos_iff.1 h
section
variable {n : Nat} (h1 : 1 ≤ n) (h2 : n ≤ 32)
include h1 h2
end
end Go.Ab.Sz
namespace Go.Ab.Sz
open Go Go.Ab Go.Proofs Go.RowKit
set_option maxRecDepth 40000
def bN (d : Nat) : Nd := ⟨(d : Int) - 1, [98], [], []⟩
theorem set_same {α : Type} {l : List α} {i : Nat} {a : α} (h : l[i]? = some a) : l.set i a = l := by
  apply List.ext_getElem?
  intro j
  rw [List.getElem?_set]
  split
  · rename_i e; subst e
    rw [h, if_pos (List.getElem?_eq_some_iff.1 h).1]
  · rfl
theorem kA_raise {d : Nat} (h : 1 ≤ d) : (kA d).set (d - 1) true = List.replicate d true := by
  unfold kA
  rw [List.set_append_right _ _ (by simp), List.length_replicate, Nat.sub_self]
  rw [show ([false] : List Bool).set 0 true = List.replicate 1 true from rfl, List.replicate_append_replicate]
  congr 1; omega
def ndB (d j : Nat) : List Nd := ndA d ++ List.replicate j (bN d)
def kB (d j : Nat) : List Bool := if j = 0 then kA d else List.replicate d true ++ List.replicate j false
theorem ndB_len (d j : Nat) : (ndB d j).length = d + j := by simp [ndB, ndA_len]
theorem bE_step {d j : Nat} (h1 : 1 ≤ d) (h2 : d < 32) (h3 : d + j < 500) : TB.step ⟨ndB d j, List.range d, kB d j⟩ bE = (⟨ndB d (j + 1), List.range d, kB d (j + 1)⟩, 0) := by
  show TB.begin ⟨ndB d j, List.range d, kB d j⟩ bE = _
  have hop : (List.range d == []) = false := by simpa using range_ne h1
  have hlast : (List.range d).getLast? = some (d - 1) := by
    obtain ⟨k, rfl⟩ : ∃ k, d = k + 1 := ⟨d - 1, by omega⟩
    exact range_last k
  unfold TB.begin TB.top TB.raise
  simp only [hop, hlast, Bool.false_and, Bool.false_eq_true, if_false, List.length_range, ndB_len]
  rw [if_neg (by decide), if_neg (by omega), if_neg (by omega)]
  have e1 : ndB d j ++ [⟨((d - 1 : Nat) : Int), bE.name, [], bE.attrs⟩] = ndB d (j + 1) := by
    unfold ndB
    rw [List.append_assoc, List.replicate_succ']
    have : ((d - 1 : Nat) : Int) = (d : Int) - 1 := by omega
    rw [this]; rfl
  have e2 : (kB d j).set (d - 1) true ++ [false] = kB d (j + 1) := by
    unfold kB
    rw [if_neg (by omega : ¬ j + 1 = 0)]
    split
    · rename_i h0; subst h0
      rw [kA_raise h1]; rfl
    · rw [set_same (by rw [List.getElem?_append_left (by simp; omega), List.getElem?_replicate, if_pos (by omega)]), List.append_assoc, List.replicate_succ']
  rw [e1, e2]
  rfl
theorem bE_full {d j : Nat} (h1 : 1 ≤ d) (h2 : d < 32) (h3 : 500 ≤ d + j) : TB.step ⟨ndB d j, List.range d, kB d j⟩ bE = (⟨ndB d j, List.range d, kB d j⟩, 4) := by
  show TB.begin ⟨ndB d j, List.range d, kB d j⟩ bE = _
  have hop : (List.range d == []) = false := by simpa using range_ne h1
  unfold TB.begin
  simp only [hop, Bool.false_and, Bool.false_eq_true, if_false, List.length_range, ndB_len]
  rw [if_neg (by decide), if_neg (by omega), if_pos (by omega)]
theorem run_bE {d : Nat} (h1 : 1 ≤ d) (h2 : d < 32) : ∀ (k j : Nat) (rest : List Tok), d + j + k ≤ 500 → runL ⟨ndB d j, List.range d, kB d j⟩ (List.replicate k bE ++ rest) = runL ⟨ndB d (j + k), List.range d, kB d (j + k)⟩ rest
  | 0, _, _, _ => rfl
  | k + 1, j, rest, h => by
    rw [List.replicate_succ, List.cons_append, runL_ok (bE_step h1 h2 (by omega)), run_bE h1 h2 k (j + 1) rest (by omega), show j + 1 + k = j + (k + 1) by omega]
theorem doneL_same : ∀ (l : List Nd) (ks : List Bool), ks.length = l.length → (∀ x ∈ l, x.text = []) → doneL l ks = some l
  | [], _, _, _ => rfl
  | n :: l, [], h, _ => by simp at h
  | n :: l, true :: ks, h, ht => by
    have e := ht n (by simp)
    have : ({ n with text := [] } : Nd) = n := by cases n; cases e; rfl
    have e2 : blankS n.text = true := by rw [e]; rfl
    simp only [doneL, e2, if_true, doneL_same l ks (by simpa using h) (fun x hx => ht x (by simp [hx])), Option.map_some, this]
  | n :: l, false :: ks, h, ht => by
    simp only [doneL, doneL_same l ks (by simpa using h) (fun x hx => ht x (by simp [hx]))]
    rfl
theorem ndB_text (d j : Nat) : ∀ x ∈ ndB d j, x.text = [] := fun x hx => by
  rcases List.mem_append.1 hx with hx | hx
  · exact ndA_text d x hx
  · rw [List.eq_of_mem_replicate hx]; rfl
theorem kB_len {d : Nat} (h : 1 ≤ d) (j : Nat) : (kB d j).length = d + j := by
  unfold kB kA
  split
  · simp; omega
  · simp
/-- The tokens: so deep, so many in the inmost one, the ends. -/
def manyL (d j : Nat) : List Tok := List.replicate d aO ++ (List.replicate j bE ++ (List.replicate d aC ++ []))
theorem many_ok {d j : Nat} (h1 : 1 ≤ d) (h2 : d < 32) (h3 : d + j ≤ 500) : buildS (manyL d j) = (ndB d j, 0) := by
  refine buildS_ok (b := ⟨ndB d j, [], kB d j⟩) ?_ (ne_len (by rw [ndB_len]; omega)) rfl (doneL_same _ _ (by rw [kB_len h1, ndB_len]) (ndB_text d j))
  unfold manyL
  rw [run_opens h1 (by omega)]
  have e0 : opn d = ⟨ndB d 0, List.range d, kB d 0⟩ := by
    unfold opn ndB kB
    rw [List.replicate_zero, List.append_nil, if_pos rfl]
  rw [e0, run_bE h1 h2 j 0 _ (by omega), Nat.zero_add]
  have := run_closes (ndB d j) (kB d j) d 0 [] (by rw [Nat.zero_add]; exact names (ndA_name d) _ (by rw [ndA_len]; exact Nat.le_refl _))
  rw [Nat.zero_add] at this
  exact this
theorem many_big {d j : Nat} (h1 : 1 ≤ d) (h2 : d < 32) (h3 : 500 < d + j) : buildS (manyL d j) = ([], 4) := by
  refine buildS_err ?_ rfl
  unfold manyL
  obtain ⟨k, rfl⟩ : ∃ k, j = (500 - d) + (k + 1) := ⟨j - (500 - d) - 1, by omega⟩
  rw [run_opens h1 (by omega)]
  have e0 : opn d = ⟨ndB d 0, List.range d, kB d 0⟩ := by
    unfold opn ndB kB
    rw [List.replicate_zero, List.append_nil, if_pos rfl]
  rw [e0, ← List.replicate_append_replicate, List.append_assoc, run_bE h1 h2 (500 - d) 0 _ (by omega), Nat.zero_add, List.replicate_succ, List.cons_append]
  exact runL_err (bE_full h1 h2 (by omega)) rfl
theorem kidsF_len (i : Int) : ∀ (l : List Nd) (k : Nat), (kidsF i k l).length = (l.filter fun n => n.parent == i).length
  | [], _ => rfl
  | n :: l, k => by
    simp only [kidsF, List.length_append, kidsF_len i l (k + 1), List.filter_cons]
    cases n.parent == i with
    | true => simp; omega
    | false => simp
theorem many_kids {d j : Nat} (h1 : 1 ≤ d) : (kidsS (ndB d j) ((d : Int) - 1)).length = j := by
  unfold kidsS
  rw [if_pos (by rw [ndB_len]; omega), kidsF_len]
  unfold ndB
  rw [List.filter_append, List.length_append]
  have e1 : (ndA d).filter (fun n => n.parent == (d : Int) - 1) = [] := by
    rw [List.filter_eq_nil_iff]
    intro x hx
    obtain ⟨i, hi, rfl⟩ := List.mem_map.1 hx
    have := List.mem_range.1 hi
    simp; omega
  have e2 : (List.replicate j (bN d)).filter (fun n => n.parent == (d : Int) - 1) = List.replicate j (bN d) := by
    rw [List.filter_eq_self]
    intro x hx
    rw [List.eq_of_mem_replicate hx]; simp [bN]
  rw [e1, e2]; simp
theorem many_last {d j : Nat} (hj : 1 ≤ j) : (ndB d j)[d + j - 1]? = some (bN d) := by
  unfold ndB
  rw [List.getElem?_append_right (by rw [ndA_len]; omega), ndA_len, List.getElem?_replicate, if_pos (by omega)]
theorem manyL_len (d j : Nat) : (manyL d j).length = d + j + d := by simp [manyL]; omega
theorem manyL_mem {d j : Nat} {t : Tok} (h : t ∈ manyL d j) : t.attrs = [] ∧ t.text = [] := by
  unfold manyL at h
  rcases List.mem_append.1 h with h | h
  · rw [List.eq_of_mem_replicate h]; exact ⟨rfl, rfl⟩
  · rcases List.mem_append.1 h with h | h
    · rw [List.eq_of_mem_replicate h]; exact ⟨rfl, rfl⟩
    · rw [List.append_nil] at h
      rw [List.eq_of_mem_replicate h]; exact ⟨rfl, rfl⟩
end Go.Ab.Sz
namespace Go.Ab.Sz
open Go Go.Ab Go.Proofs Go.RowKit
set_option maxRecDepth 40000
end Go.Ab.Sz
