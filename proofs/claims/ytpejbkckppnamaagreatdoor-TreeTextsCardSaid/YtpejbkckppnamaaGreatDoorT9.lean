/-
  The tokens of elements that stand in one another: a plain law.
-/
import Derived.Test.YtpejbkckppnamaaGreatDoorR7
import Derived.Test.YtpejbkckppnamaaGreatDoorT8
set_option linter.all false
set_option linter.unusedVariables false
set_option linter.unusedSimpArgs false
namespace Go.Ab.Sz
open Go Go.Ab Go.Proofs Go.RowKit
set_option maxRecDepth 40000
/-- The tokens of what is left. -/
def TK (s : List UInt8) (l : List Tok) : Prop := rToksL (s.length + 1) s = some l
theorem TK.nil : TK [] [] := rfl
theorem TK.step {s r : List UInt8} {k : Tok} {l : List Tok} (t : TK r l) (hs : s ≠ []) (h : rTok s = some (k, r)) : TK s (k :: l) := by
  have hl := rTok_len hs h
  unfold TK at *
  have hm := rToksL_mono _ _ _ t s.length (by omega)
  have h0 : (s == []) = false := by simpa using hs
  rw [rToksL, h0, h]
  simp only [Bool.false_eq_true, if_false]
  rw [hm]; rfl
def aO : Tok := ⟨1, [97], [], [], false⟩
def aC : Tok := ⟨2, [97], [], [], false⟩
def bE : Tok := ⟨1, [98], [], [], true⟩
def tx (s : List UInt8) : Tok := ⟨3, [], s, [], false⟩
theorem rTok_text {c : UInt8} {t r : List UInt8} (h60 : ∀ x ∈ c :: t, (x != 60) = true) (hv : valS (c :: t) = (c :: t, true)) (hr : r = [] ∨ ∃ y, r = 60 :: y) : rTok (c :: t ++ r) = some (tx (c :: t), r) := by
  have hc : ((60 : UInt8) == c) = false := by
    have := h60 c (by simp)
    rw [beq_eq_false_iff_ne]; rintro rfl; simp at this
  have e1 : Lib.hasPrefix (c :: t ++ r) [60, 47] = false := by rw [List.cons_append, pre_cons, hc]; rfl
  have e2 : Lib.hasPrefix (c :: t ++ r) [60] = false := by rw [List.cons_append, pre_cons, hc]; rfl
  have e3 : (c :: t ++ r).takeWhile (· != 60) = c :: t ∧ (c :: t ++ r).dropWhile (· != 60) = r := by
    rcases hr with rfl | ⟨y, rfl⟩
    · rw [List.append_nil]; exact ⟨takeWhile_all h60, dropWhile_all _ _ h60⟩
    · exact ⟨takeWhile_at h60 (by simp), dropWhile_at h60 (by simp)⟩
  unfold rTok
  rw [e1, e2, e3.1, e3.2, hv]
  rfl
theorem TK.text {c : UInt8} {t r : List UInt8} {l : List Tok} (k : TK r l) (h60 : ∀ x ∈ c :: t, (x != 60) = true) (hv : valS (c :: t) = (c :: t, true)) (hr : r = [] ∨ ∃ y, r = 60 :: y) : TK (c :: t ++ r) (tx (c :: t) :: l) := k.step (by simp) (rTok_text h60 hv hr)
def rep (n : Nat) (s : List UInt8) : List UInt8 := (List.replicate n s).flatten
section
variable (n : Nat)
end
end Go.Ab.Sz
namespace Go.Ab.Sz
open Go Go.Ab Go.Proofs Go.RowKit
set_option maxRecDepth 40000
def fl (x : TB × Int) : List Nd × List Nat × List Bool × Int := (x.1.l, x.1.op, x.1.kids, x.2)
theorem fl_inj {x y : TB × Int} (h : fl x = fl y) : x = y := by
  obtain ⟨⟨a, b, c⟩, d⟩ := x
  obtain ⟨⟨a', b', c'⟩, d'⟩ := y
  simp only [fl, Prod.mk.injEq] at h
  obtain ⟨rfl, rfl, rfl, rfl⟩ := h
  rfl
theorem runL_ok {b b' : TB} {t : Tok} {l : List Tok} (h : b.step t = (b', 0)) : runL b (t :: l) = runL b' l := by simp only [runL, h]; rfl
theorem buildS_ok {l : List Tok} {b : TB} {out : List Nd} (h : runL ⟨[], [], []⟩ l = (b, 0)) (h1 : b.l ≠ []) (h2 : b.op = []) (h3 : doneL b.l b.kids = some out) : buildS l = (out, 0) := by
  unfold buildS
  rw [h, if_neg (by simp), if_neg (by simp [h1, h2]), h3]
theorem buildS_mixed {l : List Tok} {b : TB} (h : runL ⟨[], [], []⟩ l = (b, 0)) (h1 : b.l ≠ []) (h2 : b.op = []) (h3 : doneL b.l b.kids = none) : buildS l = ([], 12) := by
  unfold buildS
  rw [h, if_neg (by simp), if_neg (by simp [h1, h2]), h3]
section
variable {n : Nat} (h1 : 1 ≤ n) (h2 : n ≤ 32)
include h1 h2
end
end Go.Ab.Sz
namespace Go.Ab.Sz
open Go Go.Ab Go.Proofs Go.RowKit
set_option maxRecDepth 40000
theorem doneL_same : ∀ (l : List Nd) (ks : List Bool), ks.length = l.length → (∀ x ∈ l, x.text = []) → doneL l ks = some l
  | [], _, _, _ => rfl
  | n :: l, [], h, _ => by simp at h
  | n :: l, true :: ks, h, ht => by
    have e := ht n (by simp)
    have : ({ n with text := [] } : Nd) = n := by cases n; cases e; rfl
    have e2 : blankS n.text = true := by rw [e]; rfl
    simp only [doneL, e2, if_true, doneL_same l ks (by simpa using h) (fun x hx => ht x (by simp [hx])), Option.map_some, this]
  | n :: l, false :: ks, h, ht => by
    simp only [doneL, doneL_same l ks (by simpa using h) (fun x hx => ht x (by simp [hx]))]
    rfl
end Go.Ab.Sz
namespace Go.Ab.Sz
open Go Go.Ab Go.Proofs Go.RowKit
set_option maxRecDepth 40000
/-- Texts in one element, behind each, where asked, an element without anything. -/
def textsL (kids : Bool) : List (List UInt8) → List Tok
  | [] => []
  | s :: l => if kids then tx s :: bE :: textsL kids l else tx s :: textsL kids l
theorem textsL_app (kids : Bool) : ∀ (l1 l2 : List (List UInt8)), textsL kids (l1 ++ l2) = textsL kids l1 ++ textsL kids l2
  | [], _ => rfl
  | s :: l1, l2 => by
    rw [List.cons_append]
    simp only [textsL, textsL_app kids l1 l2]
    split <;> rfl
theorem textsL_len : ∀ (kids : Bool) (l : List (List UInt8)), (textsL kids l).length = if kids then 2 * l.length else l.length
  | true, [] => rfl
  | false, [] => rfl
  | true, s :: l => by
    have := textsL_len true l
    simp only [textsL, if_true, List.length_cons] at *
    omega
  | false, s :: l => by
    have := textsL_len false l
    simp only [textsL, Bool.false_eq_true, if_false, List.length_cons] at *
    omega
def nodA (s : List UInt8) : Nd := ⟨-1, [97], s, []⟩
def nb : Nd := ⟨0, [98], [], []⟩
theorem tx_step (s x : List UInt8) (j : Nat) (ks : List Bool) : TB.step ⟨nodA s :: List.replicate j nb, [0], ks⟩ (tx x) = (⟨nodA (s ++ x) :: List.replicate j nb, [0], ks⟩, 0) := rfl
theorem be_step (s : List UInt8) (j : Nat) (hj : j < 400) (k : Bool) : TB.step ⟨nodA s :: List.replicate j nb, [0], k :: List.replicate j false⟩ bE = (⟨nodA s :: List.replicate (j + 1) nb, [0], true :: List.replicate (j + 1) false⟩, 0) := by
  show TB.begin ⟨nodA s :: List.replicate j nb, [0], k :: List.replicate j false⟩ bE = _
  unfold TB.begin TB.top TB.raise
  simp only [List.length_cons, List.length_replicate]
  rw [if_neg (by decide), if_neg (by simp), if_neg (by simp), if_neg (by omega), List.replicate_succ' (n := j) (a := nb), List.replicate_succ' (n := j) (a := false)]
  rfl
theorem run_texts : ∀ (l : List (List UInt8)) (s : List UInt8) (ks : List Bool) (rest : List Tok), runL ⟨[nodA s], [0], ks⟩ (textsL false l ++ rest) = runL ⟨[nodA (s ++ l.flatten)], [0], ks⟩ rest
  | [], s, ks, rest => by simp [textsL]
  | x :: l, s, ks, rest => by
    simp only [textsL, Bool.false_eq_true, if_false, List.cons_append]
    rw [runL_ok (show TB.step ⟨[nodA s], [0], ks⟩ (tx x) = (⟨[nodA (s ++ x)], [0], ks⟩, 0) from rfl), run_texts l (s ++ x) ks rest, List.flatten_cons, List.append_assoc]
theorem run_kids : ∀ (l : List (List UInt8)) (s : List UInt8) (j : Nat) (k : Bool) (rest : List Tok), j + l.length < 400 →
    runL ⟨nodA s :: List.replicate j nb, [0], k :: List.replicate j false⟩ (textsL true l ++ rest) = runL ⟨nodA (s ++ l.flatten) :: List.replicate (j + l.length) nb, [0], (k || !(l == [])) :: List.replicate (j + l.length) false⟩ rest
  | [], s, j, k, rest, _ => by simp [textsL]
  | x :: l, s, j, k, rest, h => by
    simp only [List.length_cons] at h
    simp only [textsL, if_true, List.cons_append]
    rw [runL_ok (tx_step s x j _), runL_ok (be_step (s ++ x) j (by omega) k), run_kids l (s ++ x) (j + 1) true rest (by omega), List.flatten_cons, List.append_assoc, List.length_cons, show j + 1 + l.length = j + (l.length + 1) by omega]
    simp
theorem nodA_open : TB.step ⟨[], [], []⟩ aO = (⟨[nodA []], [0], [false]⟩, 0) := fl_inj (by decide +kernel)
theorem nodA_end (s : List UInt8) (j : Nat) (ks : List Bool) : TB.step ⟨nodA s :: List.replicate j nb, [0], ks⟩ aC = (⟨nodA s :: List.replicate j nb, [], ks⟩, 0) := rfl
theorem texts_build (l : List (List UInt8)) : buildS (aO :: (textsL false l ++ [aC])) = ([nodA l.flatten], 0) := by
  refine buildS_ok (b := ⟨[nodA l.flatten], [], [false]⟩) ?_ (by simp) rfl rfl
  rw [runL_ok nodA_open, run_texts l [] [false] [aC], List.nil_append, runL_ok (show TB.step ⟨[nodA l.flatten], [0], [false]⟩ aC = (⟨[nodA l.flatten], [], [false]⟩, 0) from rfl)]
  rfl
theorem done_bs (j : Nat) : doneL (List.replicate j nb) (List.replicate j false) = some (List.replicate j nb) := doneL_same _ _ (by simp) fun x hx => by rw [List.eq_of_mem_replicate hx]; rfl
theorem kids_run (l : List (List UInt8)) (hl : l ≠ []) (hn : l.length < 400) : runL ⟨[], [], []⟩ (aO :: (textsL true l ++ [aC])) = (⟨nodA l.flatten :: List.replicate l.length nb, [], true :: List.replicate l.length false⟩, 0) := by
  have e : (l == []) = false := by simpa using hl
  have := run_kids l [] 0 false [aC] (by omega)
  rw [List.replicate_zero, List.replicate_zero, Nat.zero_add, e, List.nil_append] at this
  rw [runL_ok nodA_open, this, runL_ok (nodA_end _ _ _)]
  rfl
theorem kids_build (l : List (List UInt8)) (hl : l ≠ []) (hn : l.length < 400) (hb : blankS l.flatten = true) : buildS (aO :: (textsL true l ++ [aC])) = (nodA [] :: List.replicate l.length nb, 0) := by
  refine buildS_ok (kids_run l hl hn) (by simp) rfl ?_
  simp only [doneL, nodA, hb, if_true]
  rw [done_bs]; rfl
theorem kids_mixed (l : List (List UInt8)) (hl : l ≠ []) (hn : l.length < 400) (hb : blankS l.flatten = false) : buildS (aO :: (textsL true l ++ [aC])) = ([], 12) := by
  refine buildS_mixed (kids_run l hl hn) (by simp) rfl ?_
  simp only [doneL, nodA, hb]
  rfl
theorem blank_flat (l : List (List UInt8)) : blankS l.flatten = l.all blankS := by
  induction l with
  | nil => rfl
  | cons s l ih => simp only [blankS, List.flatten_cons, List.all_append, List.all_cons] at *; rw [ih]
end Go.Ab.Sz
