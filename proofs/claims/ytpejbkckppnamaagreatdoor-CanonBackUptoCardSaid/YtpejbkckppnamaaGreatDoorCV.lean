/-
  Trees that are written, and read again: forests; a plain law.
-/
import Derived.Test.YtpejbkckppnamaaGreatDoorK9
import Derived.Test.YtpejbkckppnamaaGreatDoorRef
set_option linter.all false
set_option linter.unusedVariables false
set_option linter.unusedSimpArgs false
namespace Go.Ab.Sz.K
open Go Go.Ab Go.Proofs Go.RowKit
set_option maxRecDepth 40000
/-- A forest: a node, what stands in it, what stands behind it. -/
inductive Fo where
  | nil
  | cons (n : Nd) (k s : Fo)
def Fo.isNil : Fo → Bool
  | .nil => true
  | .cons _ _ _ => false
def Fo.size : Fo → Nat
  | .nil => 0
  | .cons _ k s => 1 + k.size + s.size
def Fo.deep : Fo → Nat
  | .nil => 0
  | .cons _ k s => max (1 + k.deep) s.deep
def Fo.flat : Fo → Int → Nat → List Nd
  | .nil, _, _ => []
  | .cons n k s, p, i => { n with parent := p } :: (k.flat i (i + 1) ++ s.flat p (i + 1 + k.size))
def Fo.tops : Fo → Nat → List Nat
  | .nil, _ => []
  | .cons _ k s, i => i :: s.tops (i + 1 + k.size)
def Fo.flags : Fo → List Bool
  | .nil => []
  | .cons _ k s => (!k.isNil) :: (k.flags ++ s.flags)
theorem Fo.flat_len : ∀ (f : Fo) (p : Int) (i : Nat), (f.flat p i).length = f.size
  | .nil, _, _ => rfl
  | .cons n k s, p, i => by simp only [Fo.flat, Fo.size, List.length_cons, List.length_append, Fo.flat_len k, Fo.flat_len s]; omega
theorem Fo.nil_of {f : Fo} (h : f.isNil = true) : f = .nil := by cases f <;> first | rfl | cases h
/-- An attribute, and a beginning, as they are written. -/
def attrT (a : List UInt8 × List UInt8) : List UInt8 := 32 :: (a.1 ++ 61 :: 34 :: (escS a.2 ++ [34]))
def headT (n : Nd) : List UInt8 := 60 :: (n.name ++ n.attrs.flatMap attrT)
def Fo.write : Fo → List UInt8
  | .nil => []
  | .cons n k s => headT n ++ ((if n.text == [] && k.isNil then [47, 62] else 62 :: (escS n.text ++ (k.write ++ 60 :: 47 :: (n.name ++ [62])))) ++ s.write)
def Fo.toks : Fo → List Go.Ab.Sz.Tok
  | .nil => []
  | .cons n k s => if n.text == [] && k.isNil then ⟨1, n.name, [], n.attrs, true⟩ :: s.toks
    else ⟨1, n.name, [], n.attrs, false⟩ :: ((if n.text == [] then [] else [⟨3, [], n.text, [], false⟩]) ++ (k.toks ++ ⟨2, n.name, [], [], false⟩ :: s.toks))
/-- A node that may be. -/
structure OkN (n : Nd) : Prop where
  name : NameOf n.name
  att : ∀ a ∈ n.attrs, NameOf a.1 ∧ utfB a.2 = true
  dist : n.attrs.Pairwise fun a b => a.1 ≠ b.1
  text : utfB n.text = true
def OkF : Fo → Prop
  | .nil => True
  | .cons n k s => OkN n ∧ (n.text ≠ [] → k = .nil) ∧ OkF k ∧ OkF s
theorem attrs_open : ∀ (l : List (List UInt8 × List UInt8)) (n : Nat) (acc : List (List UInt8 × List UInt8)) (r : List UInt8), (∀ a ∈ l, NameOf a.1) → l.Pairwise (fun a b => a.1 ≠ b.1) → (∀ a ∈ l, ∀ b ∈ acc, b.1 ≠ a.1) →
    openL (n + l.length) (l.flatMap attrT ++ r) acc = openL n r (acc ++ l)
  | [], n, acc, r, _, _, _ => by simp
  | a :: l, n, acc, r, hn, hp, hd => by
    have ha := hn a (by simp)
    obtain ⟨c, t, hc, hf⟩ := ha.first
    have h1 := attr_eq (r := l.flatMap attrT ++ r) ha bl_nil bl_nil (escS_no 34 (.inr rfl) a.2) (escS_no 60 (.inl rfl) a.2) (valS_esc a.2)
    have hno : acc.any (fun x => x.1 == a.1) = false := by
      rw [List.any_eq_false]; intro b hb; simpa using hd a (by simp) b hb
    have o := open_attr (n := n + l.length) bl_sp (by simp) (s1 := a.1 ++ ([] ++ 61 :: ([] ++ 34 :: (escS a.2 ++ 34 :: (l.flatMap attrT ++ r))))) (c := c) (t := t ++ ([] ++ 61 :: ([] ++ 34 :: (escS a.2 ++ 34 :: (l.flatMap attrT ++ r))))) (by rw [hc]; rfl) hf h1 hno
    have e : (a :: l).flatMap attrT ++ r = [32] ++ (a.1 ++ ([] ++ 61 :: ([] ++ 34 :: (escS a.2 ++ 34 :: (l.flatMap attrT ++ r))))) := by simp [attrT]
    rw [e, List.length_cons, ← Nat.add_assoc, o]
    rw [attrs_open l n (acc ++ [(a.1, a.2)]) r (fun b hb => hn b (by simp [hb])) (List.pairwise_cons.1 hp).2 (fun b hb x hx => ?_)]
    · simp
    · rcases List.mem_append.1 hx with hx | hx
      · exact hd b (by simp [hb]) x hx
      · have : x = (a.1, a.2) := by simpa using hx
        rw [this]; exact (List.pairwise_cons.1 hp).1 b hb
theorem attrT_len : ∀ (l : List (List UInt8 × List UInt8)), l.length ≤ (l.flatMap attrT).length
  | [] => by simp
  | a :: l => by
    have := attrT_len l
    simp only [List.flatMap_cons, List.length_append, List.length_cons, attrT]; omega
/-- A beginning that is written is told. -/
theorem head_tok {n : Nd} (h : OkN n) (em : Bool) (r : List UInt8) : tokS (headT n ++ ((if em then [47, 62] else [62]) ++ r)) = (⟨1, n.name, [], n.attrs, em⟩, true, r) := by
  have key : ∀ (t : List UInt8), (∃ c q, t = c :: q ∧ c ∉ withins) → (∀ k, openL (k + 1) t n.attrs = (n.attrs, em, true, r)) → tokS (headT n ++ t) = (⟨1, n.name, [], n.attrs, em⟩, true, r) := by
    rintro t ⟨c, q, rfl, hc⟩ hend
    have e : headT n ++ c :: q = 60 :: (n.name ++ (n.attrs.flatMap attrT ++ c :: q)) := by simp [headT]
    rw [e]
    refine tok_open h.name ?_ ?_
    · cases ha : n.attrs with
      | nil => exact name_eq h.name c q hc
      | cons a l =>
        have : (a :: l).flatMap attrT ++ c :: q = 32 :: ((a.1 ++ 61 :: 34 :: (escS a.2 ++ [34])) ++ (l.flatMap attrT ++ c :: q)) := by simp [attrT]
        rw [this]
        exact name_eq h.name 32 _ (by decide)
    · have hl := attrT_len n.attrs
      obtain ⟨k, hk⟩ : ∃ k, (n.attrs.flatMap attrT ++ c :: q).length + 1 = (k + 1) + n.attrs.length := ⟨(n.attrs.flatMap attrT ++ c :: q).length - n.attrs.length, by simp only [List.length_append, List.length_cons]; omega⟩
      rw [hk, attrs_open n.attrs (k + 1) [] (c :: q) (fun a ha => (h.att a ha).1) h.dist (fun _ _ b hb => by cases hb), List.nil_append]
      exact hend k
  cases em with
  | true => exact key _ ⟨47, 62 :: r, rfl, by decide⟩ fun k => open_empty (g := []) k bl_nil
  | false => exact key _ ⟨62, r, rfl, by decide⟩ fun k => open_end (g := []) k bl_nil
theorem headT_ne (n : Nd) (r : List UInt8) : headT n ++ r ≠ [] := by simp [headT]
theorem write_toks : ∀ (f : Fo), OkF f → ∀ r, tokD (f.write ++ r) = (tokD r).map (f.toks ++ ·)
  | .nil, _, r => by
    show tokD r = _
    cases tokD r <;> rfl
  | .cons n k s, h, r => by
    obtain ⟨hn, ht, hk, hs⟩ := h
    have ihs := write_toks s hs r
    cases he : (n.text == [] && k.isNil) with
    | true =>
      have e : (Fo.cons n k s).write ++ r = headT n ++ ((if true then [47, 62] else [62]) ++ (s.write ++ r)) := by
        simp only [Fo.write, he, if_true]; simp
      rw [e, tokD_step (headT_ne _ _), head_tok hn true]
      simp only [if_true]
      rw [ihs, Option.map_map]
      simp only [Fo.toks, he, if_true]
      rfl
    | false =>
      have e : (Fo.cons n k s).write ++ r = headT n ++ ((if false then [47, 62] else [62]) ++ (escS n.text ++ (k.write ++ (60 :: 47 :: (n.name ++ ([] ++ 62 :: (s.write ++ r))))))) := by
        simp only [Fo.write, he, Bool.false_eq_true, if_false]; simp
      rw [e, tokD_step (headT_ne _ _), head_tok hn false]
      simp only [if_true]
      have hend : tokD (60 :: 47 :: (n.name ++ ([] ++ 62 :: (s.write ++ r)))) = (tokD r).map (fun l => ⟨2, n.name, [], [], false⟩ :: (s.toks ++ l)) := by
        rw [tokD_step (by simp), tok_end hn.name bl_nil]
        simp only [if_true]
        rw [ihs, Option.map_map]; rfl
      have hks := write_toks k hk (60 :: 47 :: (n.name ++ ([] ++ 62 :: (s.write ++ r))))
      rw [hend, Option.map_map] at hks
      cases hz : n.text == [] with
      | true =>
        have h0 : n.text = [] := by simpa using hz
        have hkn : k.isNil = false := by rw [hz, Bool.true_and] at he; exact he
        rw [h0, show escS [] = [] from rfl, List.nil_append, hks, Option.map_map]
        simp only [Fo.toks, hkn, hz, Bool.and_false, Bool.false_eq_true, if_false, if_true]
        congr 1
        funext l
        simp
      | false =>
        have h0 : n.text ≠ [] := by simpa using hz
        have hkn := ht h0
        subst hkn
        rw [show (Fo.nil).write = [] from rfl, List.nil_append, tokD_step (by simp [show ∀ a b : List UInt8, a ++ 60 :: b ≠ [] from fun a b => by simp]), tok_text _ _ (fun hh => h0 (escS_nil hh)) (escS_no 60 (.inl rfl) n.text), valS_esc]
        simp only [if_true]
        rw [hend, Option.map_map, Option.map_map]
        simp only [Fo.toks, hz, Bool.false_and, Bool.false_eq_true, if_false]
        congr 1
theorem name_utf {s : List UInt8} (h : NameOf s) (r : List UInt8) : utfB (s ++ r) = utfB r := utfB_append r (utfB_ascii s fun c hc => by
  have : ∀ c ∈ withins, c.toNat < 128 ∧ mayN c.toNat = true := by decide
  exact this c (h.all c hc))
theorem attrs_utf : ∀ (l : List (List UInt8 × List UInt8)) (r : List UInt8), (∀ a ∈ l, NameOf a.1 ∧ utfB a.2 = true) → utfB (l.flatMap attrT ++ r) = utfB r
  | [], r, _ => rfl
  | a :: l, r, h => by
    have ha := h a (by simp)
    have e : (a :: l).flatMap attrT ++ r = 32 :: (a.1 ++ (61 :: 34 :: (escS a.2 ++ (34 :: (l.flatMap attrT ++ r))))) := by simp [attrT]
    rw [e, asc1 (by decide), name_utf ha.1, asc1 (by decide), asc1 (by decide), utfB_append _ (utf_escS _ ha.2), asc1 (by decide)]
    exact attrs_utf l r fun b hb => h b (by simp [hb])
theorem write_utf : ∀ (f : Fo), OkF f → ∀ r, utfB (f.write ++ r) = utfB r
  | .nil, _, r => rfl
  | .cons n k s, h, r => by
    obtain ⟨hn, ht, hk, hs⟩ := h
    have ihs := write_utf s hs r
    have hh : ∀ r, utfB (headT n ++ r) = utfB r := fun r => by
      have e : headT n ++ r = 60 :: (n.name ++ (n.attrs.flatMap attrT ++ r)) := by simp [headT]
      rw [e, asc1 (by decide), name_utf hn.name, attrs_utf _ _ hn.att]
    cases he : (n.text == [] && k.isNil) with
    | true =>
      have e : (Fo.cons n k s).write ++ r = headT n ++ (47 :: 62 :: (s.write ++ r)) := by
        simp only [Fo.write, he, if_true]; simp
      rw [e, hh, asc1 (by decide), asc1 (by decide), ihs]
    | false =>
      have e : (Fo.cons n k s).write ++ r = headT n ++ (62 :: (escS n.text ++ (k.write ++ (60 :: 47 :: (n.name ++ (62 :: (s.write ++ r))))))) := by
        simp only [Fo.write, he, Bool.false_eq_true, if_false]; simp
      rw [e, hh, asc1 (by decide), utfB_append _ (utf_escS _ hn.text), write_utf k hk, asc1 (by decide), asc1 (by decide), name_utf hn.name, asc1 (by decide), ihs]
theorem write_pro (n : Nd) (k s : Fo) (h : OkN n) : Lib.hasPrefix (Fo.cons n k s).write prologL = false := by
  obtain ⟨c, t, hc, hf⟩ := h.name.first
  have hne : ((63 : UInt8) == c) = false := by
    rw [beq_eq_false_iff_ne]; rintro rfl; exact absurd hf (by decide)
  have e : ∃ q, (Fo.cons n k s).write = 60 :: c :: q := ⟨_, by simp only [Fo.write, headT, hc, List.cons_append]; rfl⟩
  obtain ⟨q, e⟩ := e
  rw [e]
  unfold prologL
  rw [pre_cons, pre_cons, hne]
  rfl
/-- A tree that is written has the tokens of its forest. -/
theorem write_toksS {n : Nd} {k : Fo} (h : OkF (.cons n k .nil)) (hl : (Fo.cons n k .nil).write.length ≤ 4096) : toksS (Fo.cons n k .nil).write = ((Fo.cons n k .nil).toks, 0) := by
  refine toksS_D hl ?_ (write_pro n k .nil h.1) ?_
  · have := write_utf _ h []
    rw [List.append_nil] at this
    rw [this]; rfl
  · have := write_toks _ h []
    rw [List.append_nil, tokD_nil] at this
    rw [this]
    simp
/-! ### The tokens are built as they were -/
theorem TB.top_snoc (l : List Nd) (op : List Nat) (ks : List Bool) (i : Nat) : (⟨l, op ++ [i], ks⟩ : TB).top = i := by unfold TB.top; simp
theorem raise_again (B : TB) (l' : List Nd) (h1 : B.kids.length = B.l.length) (h2 : ∀ i ∈ B.op, i < B.l.length) (q : Bool) (ks : List Bool) : (⟨l', B.op, B.raise ++ q :: ks⟩ : TB).raise = B.raise ++ q :: ks := by
  unfold TB.raise
  simp only
  cases ho : B.op.getLast? with
  | none => rfl
  | some j =>
    have hj := h2 j (List.mem_of_getLast? ho)
    simp only
    rw [List.set_append_left _ _ (by rw [List.length_set]; omega), List.set_set]
theorem raise_snoc (l' : List Nd) (op : List Nat) (ks : List Bool) (i : Nat) (q : Bool) (h : ks.length = i) : (⟨l', op ++ [i], ks ++ [q]⟩ : TB).raise = ks ++ [true] := by
  unfold TB.raise
  simp only [List.getLast?_append, List.getLast?_singleton, Option.some_or]
  rw [List.set_append_right _ _ (by omega), show i - ks.length = 0 by omega]
  rfl
theorem run_ok (B : TB) (t : Tok) (l : List Tok) (B' : TB) (h : B.step t = (B', 0)) : runL B (t :: l) = runL B' l := by
  rw [runL, h]; rfl
theorem step_begin (B : TB) {t : Tok} (h : t.kind = 1) : B.step t = B.begin t := by unfold TB.step; rw [h]; rfl
theorem run_forest : ∀ (f : Fo), OkF f → ∀ (B : TB) (rest : List Tok), B.kids.length = B.l.length → (∀ i ∈ B.op, i < B.l.length) → B.op.length + f.deep ≤ 32 → B.l.length + f.size ≤ 500 →
    (B.op = [] → f = .nil ∨ B.l = [] ∧ ∃ n k, f = .cons n k .nil) →
    runL B (f.toks.map toK ++ rest) = runL ⟨B.l ++ (f.flat B.top B.l.length).map plainN, B.op, (if f.isNil then B.kids else B.raise) ++ f.flags⟩ rest
  | .nil, _, B, rest, _, _, _, _, _ => by
    simp [Fo.toks, Fo.flat, Fo.isNil, Fo.flags]
  | .cons n k s, h, B, rest, hk0, hop, hd, hm, h1 => by
    obtain ⟨hn, ht, hk, hs⟩ := h
    obtain ⟨c0, t0, hc0, _⟩ := hn.name.first
    have hne : (n.name == []) = false := by rw [hc0]; rfl
    have hrl := raise_len B
    simp only [Fo.deep] at hd
    simp only [Fo.size] at hm
    have hbeg : ∀ em, B.begin ⟨1, n.name, [], n.attrs, em, false⟩ = (⟨B.l ++ [(⟨B.top, n.name, [], n.attrs, false⟩ : Nd)], if em then B.op else B.op ++ [B.l.length], B.raise ++ [false]⟩, 0) := fun em => by
      have hc : (B.op == [] && !(B.l == [])) = false := by
        by_cases ho : B.op = []
        · rcases h1 ho with h | ⟨h, _⟩
          · cases h
          · rw [h]; simp
        · have : (B.op == []) = false := by simpa using ho
          rw [this]; rfl
      unfold TB.begin
      simp only [hne, hc, Bool.false_eq_true, if_false]
      rw [if_neg (by omega), if_neg (by omega)]
    have hs1 : B.op = [] → s = .nil := fun ho => by
      rcases h1 ho with h | ⟨_, n', k', h⟩
      · cases h
      · cases h; rfl
    cases he : (n.text == [] && k.isNil) with
    | true =>
      rw [Bool.and_eq_true] at he
      have h0 : n.text = [] := by simpa using he.1
      have hkn := Fo.nil_of he.2
      subst hkn
      have e : (Fo.cons n .nil s).toks.map toK ++ rest = ⟨1, n.name, [], n.attrs, true, false⟩ :: (s.toks.map toK ++ rest) := by
        have : (n.text == [] && Fo.nil.isNil) = true := by rw [he.1]; rfl
        simp only [Fo.toks, this, if_true, List.map_cons, toK, List.cons_append]
      rw [e, run_ok _ _ _ _ ((step_begin B rfl).trans (hbeg true))]
      simp only [if_true]
      rw [run_forest s hs ⟨B.l ++ [(⟨B.top, n.name, [], n.attrs, false⟩ : Nd)], B.op, B.raise ++ [false]⟩ rest (by simp [hrl, hk0]) (fun i hi => by have := hop i hi; simp; omega) (by simp only; omega) (by simp [Fo.size] at hm ⊢; omega) (fun ho => .inl (hs1 ho))]
      have er := raise_again B (B.l ++ [(⟨B.top, n.name, [], n.attrs, false⟩ : Nd)]) hk0 hop false []
      have et : (⟨B.l ++ [(⟨B.top, n.name, [], n.attrs, false⟩ : Nd)], B.op, B.raise ++ [false]⟩ : TB).top = B.top := rfl
      rw [er, et]
      have e2 : (if s.isNil = true then B.raise ++ [false] else B.raise ++ [false]) = B.raise ++ [false] := by split <;> rfl
      simp only [e2]
      congr 2
      · simp [Fo.flat, plainN, h0, Fo.size]
      · simp [Fo.isNil, Fo.flags]
    | false =>
      have e : (Fo.cons n k s).toks.map toK ++ rest = ⟨1, n.name, [], n.attrs, false, false⟩ :: ((if n.text == [] then [] else [⟨3, [], n.text, [], false, false⟩]) ++ (k.toks.map toK ++ ⟨2, n.name, [], [], false, false⟩ :: (s.toks.map toK ++ rest))) := by
        simp only [Fo.toks, he, Bool.false_eq_true, if_false, List.map_cons, List.map_append, toK, List.cons_append, List.append_assoc]
        split <;> simp [toK]
      rw [e, run_ok _ _ _ _ ((step_begin B rfl).trans (hbeg false))]
      simp only [Bool.false_eq_true, if_false]
      have hB2 : ∀ r, runL ⟨B.l ++ [(⟨B.top, n.name, [], n.attrs, false⟩ : Nd)], B.op ++ [B.l.length], B.raise ++ [false]⟩ ((if n.text == [] then [] else [⟨3, [], n.text, [], false, false⟩]) ++ r) = runL ⟨B.l ++ [(⟨B.top, n.name, n.text, n.attrs, false⟩ : Nd)], B.op ++ [B.l.length], B.raise ++ [false]⟩ r := fun r => by
        cases hz : n.text == [] with
        | true =>
          have h0 : n.text = [] := by simpa using hz
          rw [h0]; rfl
        | false =>
          simp only [Bool.false_eq_true, if_false, List.singleton_append]
          refine run_ok _ _ _ _ ?_
          show TB.txt _ _ = _
          unfold TB.txt
          simp only [List.getLast?_append, List.getLast?_singleton, Option.some_or]
          rw [List.getElem?_append_right (Nat.le_refl _), Nat.sub_self]
          simp only [List.getElem?_cons_zero, List.nil_append]
          rw [List.set_append_right _ _ (Nat.le_refl _), Nat.sub_self]
          rfl
      rw [hB2]
      rw [run_forest k hk ⟨B.l ++ [(⟨B.top, n.name, n.text, n.attrs, false⟩ : Nd)], B.op ++ [B.l.length], B.raise ++ [false]⟩ _ (by simp [hrl, hk0]) (fun i hi => by
        rcases List.mem_append.1 hi with hi | hi
        · have := hop i hi; simp; omega
        · simp at hi; subst hi; simp) (by simp only [List.length_append, List.length_singleton]; omega) (by simp; omega) (fun ho => by simp at ho)]
      rw [TB.top_snoc, raise_snoc _ _ _ _ _ (by rw [hrl, hk0])]
      have e3 : (if k.isNil = true then B.raise ++ [false] else B.raise ++ [true]) = B.raise ++ [!k.isNil] := by cases k.isNil <;> rfl
      simp only [e3]
      have hfin : TB.step ⟨B.l ++ [(⟨B.top, n.name, n.text, n.attrs, false⟩ : Nd)] ++ (k.flat B.l.length (B.l ++ [(⟨B.top, n.name, n.text, n.attrs, false⟩ : Nd)]).length).map plainN, B.op ++ [B.l.length], B.raise ++ [!k.isNil] ++ k.flags⟩ ⟨2, n.name, [], [], false, false⟩ =
          (⟨B.l ++ [(⟨B.top, n.name, n.text, n.attrs, false⟩ : Nd)] ++ (k.flat B.l.length (B.l ++ [(⟨B.top, n.name, n.text, n.attrs, false⟩ : Nd)]).length).map plainN, B.op, B.raise ++ [!k.isNil] ++ k.flags⟩, 0) := by
        show TB.fin _ _ = _
        unfold TB.fin
        simp only [List.getLast?_append, List.getLast?_singleton, Option.some_or]
        rw [List.append_assoc, List.getElem?_append_right (Nat.le_refl _), Nat.sub_self]
        simp
      rw [run_ok _ _ _ _ hfin]
      rw [run_forest s hs ⟨B.l ++ [(⟨B.top, n.name, n.text, n.attrs, false⟩ : Nd)] ++ (k.flat B.l.length (B.l ++ [(⟨B.top, n.name, n.text, n.attrs, false⟩ : Nd)]).length).map plainN, B.op, B.raise ++ [!k.isNil] ++ k.flags⟩ rest
        (by
          have hf : ∀ f : Fo, f.flags.length = f.size := fun f => by
            induction f with
            | nil => rfl
            | cons n k s ihk ihs => simp only [Fo.flags, Fo.size, List.length_cons, List.length_append, ihk, ihs]; omega
          simp [hrl, hk0, hf, Fo.flat_len]) (fun i hi => by have := hop i hi; simp; omega) (by simp only; omega) (by simp [Fo.flat_len]; omega) (fun ho => .inl (hs1 ho))]
      have er := raise_again B (B.l ++ [(⟨B.top, n.name, n.text, n.attrs, false⟩ : Nd)] ++ (k.flat B.l.length (B.l ++ [(⟨B.top, n.name, n.text, n.attrs, false⟩ : Nd)]).length).map plainN) hk0 hop (!k.isNil) k.flags
      have et : (⟨B.l ++ [(⟨B.top, n.name, n.text, n.attrs, false⟩ : Nd)] ++ (k.flat B.l.length (B.l ++ [(⟨B.top, n.name, n.text, n.attrs, false⟩ : Nd)]).length).map plainN, B.op, B.raise ++ [!k.isNil] ++ k.flags⟩ : TB).top = B.top := rfl
      rw [et]
      have er' : (⟨B.l ++ [(⟨B.top, n.name, n.text, n.attrs, false⟩ : Nd)] ++ (k.flat B.l.length (B.l ++ [(⟨B.top, n.name, n.text, n.attrs, false⟩ : Nd)]).length).map plainN, B.op, B.raise ++ [!k.isNil] ++ k.flags⟩ : TB).raise = B.raise ++ (!k.isNil) :: k.flags := by
        rw [← er]; simp
      rw [er']
      have e2 : (if s.isNil = true then B.raise ++ [!k.isNil] ++ k.flags else B.raise ++ (!k.isNil) :: k.flags) = B.raise ++ (!k.isNil) :: k.flags := by split <;> simp
      simp only [e2]
      congr 2
      · simp [Fo.flat, plainN, Fo.flat_len]
        rw [show B.l.length + (k.size + 1) = B.l.length + 1 + k.size by omega]
      · simp [Fo.isNil, Fo.flags]
theorem done_forest : ∀ (f : Fo), OkF f → ∀ (p : Int) (i : Nat) (l2 : List Nd) (f2 : List Bool), doneL ((f.flat p i).map plainN ++ l2) (f.flags ++ f2) = (doneL l2 f2).map ((f.flat p i).map plainN ++ ·)
  | .nil, _, p, i, l2, f2 => by
    show doneL l2 f2 = _
    cases doneL l2 f2 <;> rfl
  | .cons n k s, h, p, i, l2, f2 => by
    obtain ⟨hn, ht, hk, hs⟩ := h
    have e1 : ((Fo.cons n k s).flat p i).map plainN ++ l2 = plainN { n with parent := p } :: ((k.flat i (i + 1)).map plainN ++ ((s.flat p (i + 1 + k.size)).map plainN ++ l2)) := by simp [Fo.flat]
    have e2 : (Fo.cons n k s).flags ++ f2 = (!k.isNil) :: (k.flags ++ (s.flags ++ f2)) := by simp [Fo.flags]
    rw [e1, e2]
    have ih := done_forest k hk i (i + 1) ((s.flat p (i + 1 + k.size)).map plainN ++ l2) (s.flags ++ f2)
    rw [done_forest s hs p (i + 1 + k.size) l2 f2, Option.map_map] at ih
    cases hq : k.isNil with
    | true =>
      simp only [doneL, Bool.not_true, ih, Option.map_map]
      congr 1
      funext l
      simp [Fo.flat]
    | false =>
      have h0 : n.text = [] := Classical.byContradiction fun hh => by rw [ht hh] at hq; cases hq
      have hb : blankS (plainN { n with parent := p }).text = true := by simp [plainN, h0, blankS]
      simp only [doneL, Bool.not_false, hb, if_true, ih, Option.map_map]
      congr 1
      funext l
      simp [Fo.flat, plainN, h0]
theorem parse_write {n : Nd} {k : Fo} (h : OkF (.cons n k .nil)) (hl : (Fo.cons n k .nil).write.length ≤ 4096) (hd : (Fo.cons n k .nil).deep ≤ 32) (hm : (Fo.cons n k .nil).size ≤ 500) :
    parseS (Fo.cons n k .nil).write = (((Fo.cons n k .nil).flat (-1) 0).map plainN, 0) := by
  unfold parseS
  rw [write_toksS h hl]
  simp only [beq_self_eq_true, if_true]
  have hr := run_forest (.cons n k .nil) h ⟨[], [], []⟩ [] rfl (fun i hi => by cases hi) (by simpa using hd) (by simpa using hm) (fun _ => .inr ⟨rfl, n, k, rfl⟩)
  rw [List.append_nil] at hr
  have hdn := done_forest (.cons n k .nil) h (-1) 0 [] []
  simp only [List.append_nil] at hdn
  unfold buildS
  rw [hr]
  simp only [runL, beq_self_eq_true, Bool.not_true, Bool.false_eq_true, if_false, List.nil_append, Fo.isNil, Bool.or_false]
  have e1 : (⟨[], [], []⟩ : TB).top = -1 := rfl
  have e2 : (⟨[], [], []⟩ : TB).raise = [] := rfl
  rw [e1, e2, List.length_nil, List.nil_append]
  have e3 : ((((Fo.cons n k .nil).flat (-1) 0).map plainN) == []) = false := by simp [Fo.flat]
  rw [e3]
  simp only [Bool.false_eq_true, if_false]
  rw [hdn]
  simp [doneL]
end Go.Ab.Sz.K
namespace Go.Ab.Sz.K
open Go Go.Ab Go.Proofs Go.RowKit
set_option maxRecDepth 40000
/-- Whether a text is a name, as canon asks it. -/
def nameC (s : List UInt8) : Bool := s != [] && (firsts.contains (s.getD 0 0) && s.all withins.contains)
theorem nameC_of {s : List UInt8} (h : nameC s = true) : NameOf s := by
  unfold nameC at h
  simp only [Bool.and_eq_true] at h
  obtain ⟨h1, h2, h3⟩ := h
  cases s with
  | nil => cases h1
  | cons c r => exact ⟨⟨c, r, rfl, by simpa using h2⟩, fun x hx => by simpa using List.all_eq_true.1 h3 x hx⟩
theorem nameC_mk {s : List UInt8} (h : NameOf s) : nameC s = true := by
  obtain ⟨c, r, rfl, hc⟩ := h.first
  unfold nameC
  simp only [Bool.and_eq_true]
  exact ⟨rfl, by simpa using hc, List.all_eq_true.2 fun x hx => by simpa using h.all x hx⟩
def attrsF : List (List UInt8 × List UInt8) → List (List UInt8 × List UInt8) → Bool
  | _, [] => true
  | pre, a :: r => nameC a.1 && (utfB a.2 && (!(pre.any fun x => x.1 == a.1) && attrsF (pre ++ [a]) r))
theorem attrsF_of : ∀ (l pre : List (List UInt8 × List UInt8)), attrsF pre l = true → (∀ a ∈ l, NameOf a.1 ∧ utfB a.2 = true) ∧ l.Pairwise (fun a b => a.1 ≠ b.1) ∧ ∀ a ∈ l, ∀ b ∈ pre, b.1 ≠ a.1
  | [], _, _ => ⟨by simp, .nil, by simp⟩
  | a :: l, pre, h => by
    simp only [attrsF, Bool.and_eq_true, Bool.not_eq_true', List.any_eq_false] at h
    obtain ⟨h1, h2, h3, h4⟩ := h
    obtain ⟨i1, i2, i3⟩ := attrsF_of l _ h4
    refine ⟨fun b hb => ?_, List.pairwise_cons.2 ⟨fun b hb => i3 b hb a (by simp), i2⟩, fun b hb x hx => ?_⟩
    · rcases List.mem_cons.1 hb with rfl | hb
      · exact ⟨nameC_of h1, h2⟩
      · exact i1 b hb
    · rcases List.mem_cons.1 hb with rfl | hb
      · simpa using h3 x hx
      · exact i3 b hb x (by simp [hx])
theorem attrsF_mk : ∀ (l pre : List (List UInt8 × List UInt8)), (∀ a ∈ l, NameOf a.1 ∧ utfB a.2 = true) → l.Pairwise (fun a b => a.1 ≠ b.1) → (∀ a ∈ l, ∀ b ∈ pre, b.1 ≠ a.1) → attrsF pre l = true
  | [], _, _, _, _ => rfl
  | a :: l, pre, h1, h2, h3 => by
    have hp := List.pairwise_cons.1 h2
    simp only [attrsF, Bool.and_eq_true, Bool.not_eq_true', List.any_eq_false]
    refine ⟨nameC_mk (h1 a (by simp)).1, (h1 a (by simp)).2, fun x hx => by simpa using h3 a (by simp) x hx, attrsF_mk l _ (fun b hb => h1 b (by simp [hb])) hp.2 fun b hb x hx => ?_⟩
    rcases List.mem_append.1 hx with hx | hx
    · exact h3 b (by simp [hb]) x hx
    · have : x = a := by simpa using hx
      rw [this]; exact hp.1 b hb
def nodeC (n : Nd) : Bool := nameC n.name && (attrsF [] n.attrs && utfB n.text)
theorem nodeC_of {n : Nd} (h : nodeC n = true) : OkN n := by
  unfold nodeC at h
  simp only [Bool.and_eq_true] at h
  obtain ⟨h1, h2, h3⟩ := h
  obtain ⟨a1, a2, _⟩ := attrsF_of _ _ h2
  exact ⟨nameC_of h1, a1, a2, h3⟩
theorem nodeC_mk {n : Nd} (h : OkN n) : nodeC n = true := by
  unfold nodeC
  simp only [Bool.and_eq_true]
  exact ⟨nameC_mk h.name, attrsF_mk _ _ h.att h.dist (fun _ _ b hb => by cases hb), h.text⟩
def textAt (l : List Nd) (p : Int) : List UInt8 := match l[p.toNat]? with
  | some n => n.text
  | none => []
/-- Whether nodes may be, from one on: the way that is open ahead of it. -/
def rightF (l : List Nd) : Nat → List Int → List Nd → Bool
  | _, _, [] => true
  | i, way, n :: rest => decide (way.idxOf n.parent < way.length) && (!(decide (0 < i) && decide (way.idxOf n.parent = 0)) && (decide (way.idxOf n.parent + 1 ≤ 32) && (nodeC n && (!(decide (0 < i) && textAt l n.parent != []) && rightF l (i + 1) (way.take (way.idxOf n.parent + 1) ++ [(i : Int)]) rest))))
def rightS (l : List Nd) : Bool := l != [] && (decide (l.length ≤ 500) && ((match l with | n :: _ => n.parent == -1 | [] => false) && rightF l 0 [-1] l))
/-- What is left of a tree, from the inmost open node to the outmost. -/
def flats : List (Int × Fo) → Nat → List Nd
  | [], _ => []
  | (a, f) :: r, i => f.flat a i ++ flats r (i + f.size)
def OkZ (l : List Nd) (i : Nat) : List (Int × Fo) → Prop
  | [] => True
  | (a, f) :: r => OkF f ∧ (f ≠ .nil → f.deep + r.length ≤ 32) ∧ (f ≠ .nil → 0 ≤ a → textAt l a = []) ∧ (r = [] → 0 < i → f = .nil) ∧ OkZ l i r
theorem flats_nil : ∀ (w : List Int) (z : List (Int × Fo)) (i : Nat), flats (w.map (fun a => (a, .nil)) ++ z) i = flats z i
  | [], z, i => rfl
  | a :: w, z, i => by simp only [List.map_cons, List.cons_append, flats, Fo.flat, Fo.size, List.nil_append, Nat.add_zero]; exact flats_nil w z i
theorem okz_nil {l : List Nd} {i : Nat} {z : List (Int × Fo)} (h : OkZ l i z) : ∀ (w : List Int), OkZ l i (w.map (fun a => (a, .nil)) ++ z)
  | [] => h
  | a :: w => ⟨trivial, fun hh => absurd rfl hh, fun hh => absurd rfl hh, fun _ _ => rfl, okz_nil h w⟩
theorem right_forest (l : List Nd) : ∀ (rest : List Nd) (i : Nat) (way : List Int), l.drop i = rest → way ≠ [] → (i = 0 → way = [-1]) → rightF l i way rest = true →
    ∃ z : List (Int × Fo), z.map (·.1) = way.reverse ∧ rest = flats z i ∧ OkZ l i z
  | [], i, way, _, _, _, _ => ⟨way.reverse.map fun a => (a, .nil), by simp [Function.comp_def], by
      have := flats_nil way.reverse [] i
      rw [List.append_nil] at this
      rw [this]; rfl, by
      have := okz_nil (l := l) (i := i) (z := []) trivial way.reverse
      rw [List.append_nil] at this
      exact this⟩
  | n :: rest, i, way, hd, hw, hi0, h => by
    simp only [rightF, Bool.and_eq_true, Bool.not_eq_true', decide_eq_true_eq, Bool.and_eq_false_iff, decide_eq_false_iff_not] at h
    obtain ⟨h1, h2, h3, h4, h5, h6⟩ := h
    obtain ⟨hg, hd'⟩ := drop_cons hd
    generalize hj : way.idxOf n.parent = j at *
    have hpa : way[j]? = some n.parent := by
      rw [← hj]
      rw [List.getElem?_eq_getElem (by omega)]
      simp
    have hsp : way = way.take j ++ n.parent :: way.drop (j + 1) := by
      have hlt : j < way.length := h1
      have e : way[j] = n.parent := by rw [List.getElem?_eq_getElem hlt] at hpa; simpa using hpa
      conv => lhs; rw [← List.take_append_drop j way, List.drop_eq_getElem_cons hlt, e]
    have htk : way.take (j + 1) = way.take j ++ [n.parent] := by
      rw [List.take_add_one, hpa]; rfl
    obtain ⟨z', hz1, hz2, hz3⟩ := right_forest l rest (i + 1) (way.take (j + 1) ++ [(i : Int)]) hd' (by simp) (fun h => by omega) h6
    rw [htk] at hz1
    simp only [List.append_assoc, List.singleton_append, List.reverse_append, List.reverse_cons, List.reverse_nil, List.nil_append, List.cons_append] at hz1
    match z', hz1, hz2, hz3 with
    | [], hz1, _, _ => simp at hz1
    | [x], hz1, _, _ => simp at hz1
    | (a0, f0) :: (a1, f1) :: zr, hz1, hz2, hz3 =>
      simp only [List.map_cons, List.cons.injEq] at hz1
      obtain ⟨e0, e1, er⟩ := hz1
      subst e0; subst e1
      obtain ⟨o0, d0, t0, _, o1, d1, t1, s1, oz⟩ := hz3
      have hzl : zr.length = j := by
        have := congrArg List.length er
        simp at this; omega
      refine ⟨(way.drop (j + 1)).reverse.map (fun a => (a, .nil)) ++ ((n.parent, .cons n f0 f1) :: zr), ?_, ?_, ?_⟩
      · rw [List.map_append, List.map_map, List.map_cons, er]
        conv => rhs; rw [hsp]
        simp [Function.comp_def]
      · rw [flats_nil, hz2]
        simp only [flats, Fo.flat, Fo.size]
        rw [show i + 1 + f0.size + f1.size = i + (1 + f0.size + f1.size) by omega]
        try simp
      refine okz_nil (show OkZ l i ((n.parent, .cons n f0 f1) :: zr) from ⟨⟨nodeC_of h4, fun hne => ?_, o0, o1⟩, fun _ => ?_, fun _ hp => ?_, fun hzr hi => ?_, ?_⟩) _
      · refine Classical.byContradiction fun hf => ?_
        have := t0 hf (by omega)
        unfold textAt at this
        rw [Int.toNat_natCast, hg] at this
        exact hne this
      · have hd0 : f0 = .nil ∨ f0.deep + (j + 1) ≤ 32 := by
          by_cases hf : f0 = .nil
          · exact .inl hf
          · have := d0 hf; simp only [List.length_cons, hzl] at this; exact .inr this
        have hd1 : f1 = .nil ∨ f1.deep + j ≤ 32 := by
          by_cases hf : f1 = .nil
          · exact .inl hf
          · have := d1 hf; rw [hzl] at this; exact .inr this
        have z0 : (Fo.nil).deep = 0 := rfl
        simp only [Fo.deep, hzl]
        rcases hd0 with rfl | hd0 <;> rcases hd1 with rfl | hd1 <;> (try simp only [z0]) <;> omega
      · rcases h5 with h5 | h5
        · exfalso
          have hz : i = 0 := by omega
          have hw1 := hi0 hz
          rw [hw1] at hpa
          cases j with
          | zero => simp at hpa; omega
          | succ j => simp at hpa
        · simpa using h5
      · rcases h2 with h2 | h2
        · omega
        · rw [hzr] at hzl; simp at hzl; omega
      · exact okz_up oz
where
  okz_up {l : List Nd} {i : Nat} : ∀ {z : List (Int × Fo)}, OkZ l (i + 1) z → OkZ l i z
  | [], _ => trivial
  | (_, _) :: _, ⟨a, b, c, d, e⟩ => ⟨a, b, c, fun h1 _ => d h1 (by omega), okz_up e⟩
/-- A tree that may be is one node, and what stands in it. -/
theorem right_tree {l : List Nd} (h : rightS l = true) : ∃ n k, l = (Fo.cons n k .nil).flat (-1) 0 ∧ OkF (.cons n k .nil) ∧ (Fo.cons n k .nil).deep ≤ 32 ∧ (Fo.cons n k .nil).size ≤ 500 := by
  unfold rightS at h
  simp only [Bool.and_eq_true, decide_eq_true_eq] at h
  obtain ⟨h1, h2, h3, h4⟩ := h
  match l, h1, h2, h3, h4 with
  | [], h1, _, _, _ => cases h1
  | n :: rest, _, h2, h3, h4 =>
    have hp : n.parent = -1 := by simpa using h3
    simp only [rightF, Bool.and_eq_true, Bool.not_eq_true', decide_eq_true_eq, Bool.and_eq_false_iff, decide_eq_false_iff_not] at h4
    obtain ⟨a1, a2, a3, a4, a5, a6⟩ := h4
    have hj : ([-1] : List Int).idxOf n.parent = 0 := by rw [hp]; rfl
    rw [hj] at a6
    obtain ⟨z, hz1, hz2, hz3⟩ := right_forest (n :: rest) rest 1 ([-1] ++ [((0 : Nat) : Int)]) rfl (by simp) (fun h => by omega) a6
    match z, hz1, hz2, hz3 with
    | [], hz1, _, _ => simp at hz1
    | [x], hz1, _, _ => simp at hz1
    | _ :: _ :: _ :: _, hz1, _, _ => simp at hz1
    | [(a0, f0), (a1, f1)], hz1, hz2, hz3 =>
      simp at hz1
      obtain ⟨e0, e1⟩ := hz1
      subst e0; subst e1
      obtain ⟨o0, d0, t0, _, o1, d1, t1, s1, _⟩ := hz3
      have hf1 := s1 rfl (by omega)
      subst hf1
      have e : (n :: rest : List Nd) = (Fo.cons n f0 .nil).flat (-1) 0 := by
        rw [hz2]
        simp only [flats, Fo.flat, Fo.size, List.append_nil]
        have : n = { n with parent := -1 } := by rw [← hp]
        rw [← this]; rfl
      refine ⟨n, f0, e, ⟨nodeC_of a4, fun hne => Classical.byContradiction fun hf => ?_, o0, trivial⟩, ?_, ?_⟩
      · exact hne (t0 hf (by omega))
      · by_cases hf : f0 = .nil
        · subst hf; show max (1 + 0) 0 ≤ 32; decide
        · have := d0 hf; simp only [List.length_singleton] at this; simp only [Fo.deep]; omega
      · rw [← Fo.flat_len _ (-1) 0, ← e]; exact h2
/-! ### How a tree is written -/
def wrS (l : List Nd) : Nat → Nat → List UInt8
  | 0, _ => []
  | k + 1, i => match l[i]? with
    | none => []
    | some n => headT n ++ (if n.text == [] && (kidsS l i).isEmpty then [47, 62] else 62 :: (escS n.text ++ ((kidsS l i).flatMap (wrS l k) ++ 60 :: 47 :: (n.name ++ [62]))))
theorem kidsF_app (q : Int) : ∀ (a b : List Nd) (k : Nat), kidsF q k (a ++ b) = kidsF q k a ++ kidsF q (k + a.length) b
  | [], b, k => rfl
  | n :: a, b, k => by
    have := kidsF_app q a b (k + 1)
    simp only [List.cons_append, kidsF, this, List.append_assoc, List.length_cons]
    rw [show k + 1 + a.length = k + (a.length + 1) by omega]
theorem kidsF_none (q : Int) : ∀ (a : List Nd) (k : Nat), (∀ n ∈ a, n.parent ≠ q) → kidsF q k a = []
  | [], _, _ => rfl
  | n :: a, k, h => by
    have h0 : (n.parent == q) = false := by simpa using h n (by simp)
    simp only [kidsF, h0, kidsF_none q a (k + 1) fun x hx => h x (by simp [hx])]
    rfl
theorem flat_par : ∀ (f : Fo) (p : Int) (i : Nat), ∀ n ∈ f.flat p i, n.parent = p ∨ ((i : Int) ≤ n.parent ∧ n.parent < i + f.size)
  | .nil, _, _, n, hn => by cases hn
  | .cons m k s, p, i, n, hn => by
    simp only [Fo.flat] at hn
    simp only [Fo.size]
    rcases List.mem_cons.1 hn with rfl | hn
    · exact .inl rfl
    · rcases List.mem_append.1 hn with hn | hn
      · rcases flat_par k i (i + 1) n hn with h | h
        · right; omega
        · right; omega
      · rcases flat_par s p (i + 1 + k.size) n hn with h | h
        · exact .inl h
        · right; omega
theorem flat_tops : ∀ (f : Fo) (p : Int) (i : Nat), p < i → kidsF p i (f.flat p i) = f.tops i
  | .nil, _, _, _ => rfl
  | .cons n k s, p, i, h => by
    simp only [Fo.flat, kidsF, beq_self_eq_true, if_true, Fo.tops, List.singleton_append]
    rw [kidsF_app, kidsF_none p _ _ (fun m hm => by rcases flat_par k i (i + 1) m hm with h1 | h1 <;> omega), List.nil_append, Fo.flat_len, flat_tops s p _ (by omega)]
theorem write_wr (l : List Nd) : ∀ (f : Fo) (pre post : List Nd) (p : Int) (fuel : Nat), l = pre ++ (f.flat p pre.length ++ post) → p < pre.length → (∀ n ∈ pre, n.parent < pre.length) → (∀ n ∈ post, n.parent < pre.length ∨ pre.length + f.size ≤ n.parent) → l.length ≤ fuel + pre.length →
    (f.tops pre.length).flatMap (wrS l fuel) = f.write
  | .nil, _, _, _, _, _, _, _, _, _ => rfl
  | .cons n k s, pre, post, p, fuel, he, hp, h1, h2, hf => by
    have hlen : l.length = pre.length + (1 + k.size + s.size) + post.length := by
      rw [he]; simp only [List.length_append, Fo.flat_len, Fo.size]; omega
    cases fuel with
    | zero => omega
    | succ fuel =>
      simp only [Fo.size] at h2
      have e1 : l = (pre ++ [{ n with parent := p }]) ++ (k.flat pre.length (pre ++ [{ n with parent := p }]).length ++ (s.flat p (pre.length + 1 + k.size) ++ post)) := by
        rw [he]; simp [Fo.flat]
      have ihk := write_wr l k (pre ++ [{ n with parent := p }]) (s.flat p (pre.length + 1 + k.size) ++ post) pre.length fuel e1 (by simp; omega) (fun x hx => by
          rw [List.length_append, List.length_singleton]
          rcases List.mem_append.1 hx with hx | hx
          · have := h1 x hx; omega
          · simp at hx; subst hx; simp only; omega) (fun x hx => by
          rw [List.length_append, List.length_singleton]
          rcases List.mem_append.1 hx with hx | hx
          · rcases flat_par s p _ x hx with h | h <;> omega
          · rcases h2 x hx with h | h <;> omega) (by simp only [List.length_append, List.length_singleton]; omega)
      have e2 : l = (pre ++ { n with parent := p } :: k.flat pre.length (pre.length + 1)) ++ (s.flat p (pre ++ { n with parent := p } :: k.flat pre.length (pre.length + 1)).length ++ post) := by
        have : (pre ++ { n with parent := p } :: k.flat pre.length (pre.length + 1)).length = pre.length + 1 + k.size := by simp [Fo.flat_len]; omega
        rw [this, he]; simp [Fo.flat]
      have ihs := write_wr l s (pre ++ { n with parent := p } :: k.flat pre.length (pre.length + 1)) post p (fuel + 1) e2 (by simp; omega) (fun x hx => by
          have hl : (pre ++ { n with parent := p } :: k.flat pre.length (pre.length + 1)).length = pre.length + 1 + k.size := by simp [Fo.flat_len]; omega
          rw [hl]
          rcases List.mem_append.1 hx with hx | hx
          · have := h1 x hx; omega
          · rcases List.mem_cons.1 hx with rfl | hx
            · simp only; omega
            · rcases flat_par k _ _ x hx with h | h <;> omega) (fun x hx => by
          have hl : (pre ++ { n with parent := p } :: k.flat pre.length (pre.length + 1)).length = pre.length + 1 + k.size := by simp [Fo.flat_len]; omega
          rw [hl]
          rcases h2 x hx with h | h <;> omega) (by simp [Fo.flat_len]; omega)
      have hl2 : (pre ++ { n with parent := p } :: k.flat pre.length (pre.length + 1)).length = pre.length + 1 + k.size := by simp [Fo.flat_len]; omega
      rw [hl2] at ihs
      have hl1 : (pre ++ [{ n with parent := p }]).length = pre.length + 1 := by simp
      rw [hl1] at ihk
      have hget : l[pre.length]? = some { n with parent := p } := by
        rw [he, List.getElem?_append_right (Nat.le_refl _), Nat.sub_self]; rfl
      have hkids : kidsS l pre.length = k.tops (pre.length + 1) := by
        unfold kidsS
        rw [if_pos ⟨by omega, by omega⟩]
        conv => lhs; rw [e1]
        rw [kidsF_app, hl1, kidsF_none _ (pre ++ [_]) 0 (fun x hx => by
          rcases List.mem_append.1 hx with hx | hx
          · have := h1 x hx; omega
          · simp at hx; subst hx; simp only; omega), List.nil_append, Nat.zero_add, kidsF_app, flat_tops k _ _ (by omega)]
        rw [kidsF_none _ (s.flat p _ ++ post) _ (fun x hx => by
          rcases List.mem_append.1 hx with hx | hx
          · rcases flat_par s p _ x hx with h | h <;> omega
          · rcases h2 x hx with h | h <;> omega), List.append_nil]
      have hemp : (k.tops (pre.length + 1)).isEmpty = k.isNil := by cases k <;> rfl
      simp only [Fo.tops, List.flatMap_cons, ihs]
      rw [wrS, hget]
      simp only [hkids, hemp, ihk, Fo.write, headT, List.append_assoc]
theorem right_write {l : List Nd} {n : Nd} {k : Fo} (h : l = (Fo.cons n k .nil).flat (-1) 0) : wrS l l.length 0 = (Fo.cons n k .nil).write := by
  have := write_wr l (.cons n k .nil) [] [] (-1) l.length (by simpa using h) (by simp) (by simp) (by simp) (by simp)
  simp only [List.length_nil, Fo.tops, List.flatMap_cons, List.flatMap_nil, List.append_nil] at this
  exact this
/-- What is written is parsed as it was. -/
theorem right_back {l : List Nd} (h : rightS l = true) (hl : (wrS l l.length 0).length ≤ 4096) : parseS (wrS l l.length 0) = (l.map plainN, 0) := by
  obtain ⟨n, k, e, h1, h2, h3⟩ := right_tree h
  rw [right_write e] at hl ⊢
  rw [parse_write h1 hl h2 h3, ← e]
end Go.Ab.Sz.K
namespace Go.Ab.Sz.K
open Go Go.Ab Go.Proofs Go.RowKit
set_option maxRecDepth 40000
/-! ### Pieces of a text -/
theorem utf_split (s : List UInt8) (h : utfB s = true) : ∀ (a : List UInt8) (c : UInt8) (r : List UInt8), s = a ++ c :: r → c.toNat < 128 → utfB a = true ∧ utfB (c :: r) = true := by
  refine utfB_ind (P := fun s => ∀ (a : List UInt8) (c : UInt8) (r : List UInt8), s = a ++ c :: r → c.toNat < 128 → utfB a = true ∧ utfB (c :: r) = true) (fun a c r e => by simp at e) (fun ch t hne hu hc ht ih a c r e hlt => ?_) s.length s (Nat.le_refl _) h
  cases a with
  | nil =>
    refine ⟨rfl, ?_⟩
    rw [List.nil_append] at e
    rw [← e, utfB_append _ hu]; exact ht
  | cons x a =>
    have hp : ∃ a', x :: a = ch ++ a' ∧ t = a' ++ c :: r := by
      rcases List.append_eq_append_iff.1 e with ⟨a', h1, h2⟩ | ⟨b', h1, h2⟩
      · exact ⟨a', h1, h2⟩
      · cases b' with
        | nil => exact ⟨[], by simpa using h1.symm, by simpa using h2.symm⟩
        | cons y b' =>
          exfalso
          have hy : c = y := by simp at h2; exact h2.1
          subst hy
          rcases hc with ⟨z, hz, _⟩ | hc
          · rw [hz] at h1; simp at h1
          · have := hc c (by rw [h1]; simp)
            omega
    obtain ⟨a', h1, h2⟩ := hp
    obtain ⟨i1, i2⟩ := ih a' c r h2 hlt
    refine ⟨?_, i2⟩
    rw [h1, utfB_append _ hu]; exact i1
theorem utf_one {c : UInt8} {r : List UInt8} (h : utfB (c :: r) = true) (hc : c.toNat < 128 ∧ mayN c.toNat = true) : utfB r = true := by
  rw [asc1 hc] at h; exact h
theorem utf_ok {c : UInt8} (h : c ∈ withins ∨ c ∈ blanksL ∨ c ∈ [38, 59, 60, 62, 47, 61, 34, 39]) : c.toNat < 128 ∧ mayN c.toNat = true := by
  rcases h with h | h | h
  · have : ∀ c ∈ withins, c.toNat < 128 ∧ mayN c.toNat = true := by decide
    exact this c h
  · have : ∀ c ∈ blanksL, c.toNat < 128 ∧ mayN c.toNat = true := by decide
    exact this c h
  · have : ∀ c ∈ [38, 59, 60, 62, 47, 61, 34, 39], (c : UInt8).toNat < 128 ∧ mayN c.toNat = true := by decide
    exact this c h
theorem utf_ascs {a : List UInt8} (h : ∀ c ∈ a, c ∈ withins ∨ c ∈ blanksL ∨ c ∈ [38, 59, 60, 62, 47, 61, 34, 39]) : utfB a = true := utfB_ascii a fun c hc => utf_ok (h c hc)
theorem mem_tw {p : UInt8 → Bool} : ∀ {s : List UInt8}, ∀ c ∈ s.takeWhile p, p c = true
  | [], c, h => by cases h
  | x :: s, c, h => by
    rw [List.takeWhile_cons] at h
    split at h
    · rename_i hx
      rcases List.mem_cons.1 h with rfl | h
      · exact hx
      · exact mem_tw c h
    · cases h
theorem utf_drop (l s : List UInt8) (hl : l = withins ∨ l = blanksL) (h : utfB s = true) : utfB (s.dropWhile l.contains) = true := by
  have e : s = s.takeWhile l.contains ++ s.dropWhile l.contains := List.takeWhile_append_dropWhile.symm
  rw [e, utfB_append] at h
  · exact h
  · refine utf_ascs fun c hc => ?_
    have := mem_tw c hc
    have hm : c ∈ l := by simpa using this
    rcases hl with rfl | rfl
    · exact .inl hm
    · exact .inr (.inl hm)
theorem utf_trim {s : List UInt8} (h : utfB s = true) (p : List UInt8) (hp : ∀ c ∈ p, c ∈ [38, 59, 60, 62, 47, 61, 34, 39]) : utfB (Lib.trimPrefix s p) = true := by
  cases hh : Lib.hasPrefix s p with
  | false => rw [trim_no hh]; exact h
  | true =>
    have e : s = p ++ Lib.trimPrefix s p := by
      rw [trim_drop hh]
      unfold Lib.hasPrefix at hh
      rw [List.isPrefixOf_iff_prefix] at hh
      obtain ⟨t, rfl⟩ := hh
      simp
    rw [e, utfB_append] at h
    · exact h
    · exact utf_ascs fun c hc => .inr (.inr (hp c hc))
/-- A cut at a sign: what is ahead, what is behind. -/
theorem utf_cut {s : List UInt8} (h : utfB s = true) (b : UInt8) (hb : b ∈ [38, 59, 60, 62, 47, 61, 34, 39]) : utfB (Lib.cut s [b]).1 = true ∧ utfB (Lib.cut s [b]).2.1 = true := by
  by_cases hm : b ∈ s
  · obtain ⟨a, r, rfl, hn⟩ := split_mem hm
    rw [cut_at r hn]
    obtain ⟨h1, h2⟩ := utf_split _ h a b r rfl (utf_ok (.inr (.inr hb))).1
    exact ⟨h1, utf_one h2 (utf_ok (.inr (.inr hb)))⟩
  · rw [cut_none hm]; exact ⟨h, rfl⟩
theorem numberS_utf (set : List UInt8) (most B : Nat) (s : List UInt8) : utfB (numberS set most B s) = true := by
  unfold numberS
  split
  · rfl
  · split
    · rfl
    · split
      · rename_i h; rw [utf8S_B] at h; exact h
      · rfl
theorem signS_utf (s : List UInt8) : utfB (signS s) = true := by
  unfold signS
  repeat' split
  all_goals first | rfl | decide | exact numberS_utf _ _ _ _
theorem valueS_utf : ∀ (n : Nat) (s out : List UInt8), utfB s = true → utfB out = true → utfB (valueS n s out).1 = true
  | 0, _, _, _, _ => rfl
  | n + 1, s, out, hs, ho => by
    obtain ⟨c1, c2⟩ := utf_cut hs 38 (by decide)
    obtain ⟨d1, d2⟩ := utf_cut c2 59 (by decide)
    have ho1 : utfB (out ++ (Lib.cut s [38]).1) = true := by rw [utfB_append _ ho]; exact c1
    simp only [valueS]
    split
    · split
      · rfl
      · refine valueS_utf n _ _ d2 ?_
        rw [utfB_append _ ho1]; exact signS_utf _
    · exact ho1
theorem valS_utf {s : List UInt8} (h : utfB s = true) : utfB (valS s).1 = true := valueS_utf _ _ _ h rfl
theorem nameS_utf {s : List UInt8} (h : utfB s = true) : utfB (nameS s).2 = true := by
  unfold nameS
  split
  · exact h
  · exact utf_drop _ _ (.inl rfl) h
theorem nameS_of {s : List UInt8} (h : (nameS s).1 ≠ []) : NameOf (nameS s).1 := by
  cases s with
  | nil => exact absurd rfl h
  | cons c t =>
    rw [nameS_cons] at h ⊢
    split
    · rename_i hc
      rw [if_pos hc] at h
      have hcf : c ∈ firsts := by simpa using hc
      have hw : withins.contains c = true := firsts_in c hcf
      refine ⟨⟨c, t.takeWhile withins.contains, by simp only; rw [List.takeWhile_cons, hw]; rfl, hcf⟩, fun x hx => ?_⟩
      have := mem_tw x hx
      simpa using this
    · rename_i hc
      rw [if_neg hc] at h
      exact absurd rfl h
theorem quotedS_utf {s : List UInt8} (h : utfB s = true) : utfB (quotedS s).1 = true ∧ utfB (quotedS s).2.2 = true := by
  have q1 : ∀ q : UInt8, q ∈ [38, 59, 60, 62, 47, 61, 34, 39] → utfB (quoted1 s [q]).1 = true ∧ utfB (quoted1 s [q]).2.2 = true := fun q hq => by
    have ht := utf_trim h [q] (by simpa using hq)
    obtain ⟨c1, c2⟩ := utf_cut ht q hq
    exact ⟨valS_utf c1, c2⟩
  unfold quotedS
  split
  · exact q1 34 (by decide)
  · split
    · exact q1 39 (by decide)
    · exact ⟨rfl, h⟩
theorem attrS_utf {s : List UInt8} (h : utfB s = true) : utfB (attrS s).2.1 = true ∧ utfB (attrS s).2.2.2 = true ∧ ((attrS s).2.2.1 = true → NameOf (attrS s).1) := by
  have h2 : utfB (attr2 s) = true := utf_drop _ _ (.inr rfl) (nameS_utf h)
  have h4 : utfB (attr4 s) = true := utf_drop _ _ (.inr rfl) (utf_trim h2 [61] (by decide))
  obtain ⟨q1, q2⟩ := quotedS_utf h4
  unfold attrS
  split
  · exact ⟨rfl, h2, fun hh => by cases hh⟩
  · rename_i hn
    have hn' : (nameS s).1 ≠ [] := by simpa using hn
    split
    · exact ⟨rfl, h2, fun hh => by cases hh⟩
    · exact ⟨q1, q2, fun _ => nameS_of hn'⟩
def OkA (l : List (List UInt8 × List UInt8)) : Prop := (∀ a ∈ l, NameOf a.1 ∧ utfB a.2 = true) ∧ l.Pairwise fun a b => a.1 ≠ b.1
theorem openL_utf : ∀ (n : Nat) (s : List UInt8) (al : List (List UInt8 × List UInt8)), utfB s = true → OkA al → (openL n s al).2.2.1 = true → OkA (openL n s al).1 ∧ utfB (openL n s al).2.2.2 = true
  | 0, _, _, _, _, h => by cases h
  | n + 1, s, al, hs, ha, h => by
    have hd := utf_drop _ _ (.inr rfl) hs
    obtain ⟨a1, a2, a3⟩ := attrS_utf hd
    simp only [openL] at h ⊢
    split
    · exact ⟨ha, utf_trim hd [62] (by decide)⟩
    · rename_i g1
      rw [if_neg g1] at h
      split
      · exact ⟨ha, utf_trim hd [47, 62] (by decide)⟩
      · rename_i g2
        rw [if_neg g2] at h
        split
        · rename_i g3
          rw [if_pos g3] at h; cases h
        · rename_i g3
          rw [if_neg g3] at h
          simp only [Bool.or_eq_true, not_or, Bool.not_eq_true, Bool.not_eq_false'] at g3
          obtain ⟨⟨g4, g5⟩, g6⟩ := g3
          refine openL_utf n _ _ a2 ⟨fun a hm => ?_, List.pairwise_append.2 ⟨ha.2, by simp, fun a hm b hb => ?_⟩⟩ h
          · rcases List.mem_append.1 hm with hm | hm
            · exact ha.1 a hm
            · have : a = ((attrS (s.dropWhile blanksL.contains)).1, (attrS (s.dropWhile blanksL.contains)).2.1) := by simpa using hm
              rw [this]; exact ⟨a3 g5, a1⟩
          · have : b = ((attrS (s.dropWhile blanksL.contains)).1, (attrS (s.dropWhile blanksL.contains)).2.1) := by simpa using hb
            rw [this]
            rw [List.any_eq_false] at g6
            simpa using g6 a hm
/-- A token that may be. -/
structure OkT (t : Go.Ab.Sz.Tok) : Prop where
  name : t.kind = 1 → NameOf t.name
  att : OkA t.attrs
  text : utfB t.text = true
theorem tokS_utf {s : List UInt8} (h : utfB s = true) (hok : (tokS s).2.1 = true) : OkT (tokS s).1 ∧ utfB (tokS s).2.2 = true := by
  revert hok
  unfold tokS
  split
  · have ht := utf_trim h [60, 47] (by decide)
    have hn := nameS_utf ht
    unfold endS
    split
    · intro hok; cases hok
    · intro _
      exact ⟨⟨fun hk => by simp at hk, ⟨by simp, by simp⟩, rfl⟩, utf_trim (utf_drop _ _ (.inr rfl) hn) [62] (by decide)⟩
  · split
    · have ht := utf_trim h [60] (by decide)
      have hn := nameS_utf ht
      unfold openS
      split
      · intro hok; cases hok
      · rename_i hne
        intro hok
        obtain ⟨o1, o2⟩ := openL_utf _ _ [] hn ⟨by simp, by simp⟩ hok
        exact ⟨⟨fun _ => nameS_of (by simpa using hne), o1, rfl⟩, o2⟩
    · intro hok
      have e : s = s.take (Go.Ab.Sz.plainN s) ++ s.drop (Go.Ab.Sz.plainN s) := (List.take_append_drop _ _).symm
      have hpl := plain_split s
      cases hd : s.drop (Go.Ab.Sz.plainN s) with
      | nil =>
        rw [hd, List.append_nil] at e
        refine ⟨⟨fun hk => by simp [plainS] at hk, ⟨by simp [plainS], by simp [plainS]⟩, ?_⟩, ?_⟩
        · show utfB (valS (s.take (Go.Ab.Sz.plainN s))).1 = true
          rw [← e]; exact valS_utf h
        · show utfB (s.drop (Go.Ab.Sz.plainN s)) = true
          rw [hd]; rfl
      | cons c r =>
        have hc : c = 60 := by
          rw [hpl.2] at hd
          have := List.head?_dropWhile_not (fun x : UInt8 => x != 60) s
          rw [hd] at this
          simpa using this
        rw [hd] at e
        obtain ⟨u1, u2⟩ := utf_split s h _ c r e (by rw [hc]; decide)
        refine ⟨⟨fun hk => by simp [plainS] at hk, ⟨by simp [plainS], by simp [plainS]⟩, valS_utf u1⟩, ?_⟩
        show utfB (s.drop (Go.Ab.Sz.plainN s)) = true
        rw [hd]; exact u2
theorem tokN_utf : ∀ (n : Nat) (s : List UInt8) (l : List Go.Ab.Sz.Tok), utfB s = true → tokN n s = some l → ∀ t ∈ l, OkT t
  | 0, _, _, _, h => by cases h
  | n + 1, s, l, hu, h => by
    simp only [tokN] at h
    split at h
    · cases h; intro t ht; cases ht
    · split at h
      · rename_i hok
        obtain ⟨o1, o2⟩ := tokS_utf hu hok
        cases hq : tokN n (tokS s).2.2 with
        | none => rw [hq] at h; cases h
        | some l' =>
          rw [hq] at h; cases h
          intro t ht
          rcases List.mem_cons.1 ht with rfl | ht
          · exact o1
          · exact tokN_utf n _ _ o2 hq t ht
      · cases h
theorem toksS_ok (s : List UInt8) : ∀ t ∈ (toksS s).1, OkT t := by
  unfold toksS
  split
  · intro t ht; cases ht
  · split
    · intro t ht; cases ht
    · rename_i hu
      have hu' : utfB s = true := by rw [utf8S_B] at hu; simpa using hu
      split
      · rename_i l hl
        refine tokN_utf _ _ l ?_ hl
        cases hp : Lib.hasPrefix s prologL with
        | false => rw [trim_no hp]; exact hu'
        | true =>
          have e : s = prologL ++ Lib.trimPrefix s prologL := by
            rw [trim_drop hp]
            unfold Lib.hasPrefix at hp
            rw [List.isPrefixOf_iff_prefix] at hp
            obtain ⟨t, rfl⟩ := hp
            simp
          rw [e, utfB_append _ (by decide)] at hu'
          exact hu'
      · intro t ht; cases ht
/-! ### What is built -/
/-- The way that is open behind nodes of these parents. -/
def wayF : Nat → List Int → List Int → Option (List Int)
  | _, way, [] => some way
  | i, way, p :: ps => if decide (way.idxOf p < way.length) && (!(decide (0 < i) && decide (way.idxOf p = 0)) && decide (way.idxOf p + 1 ≤ 32)) then wayF (i + 1) (way.take (way.idxOf p + 1) ++ [(i : Int)]) ps else none
theorem wayF_snoc : ∀ (ps : List Int) (i : Nat) (way : List Int) (p : Int), wayF i way (ps ++ [p]) = (wayF i way ps).bind fun w => wayF (i + ps.length) w [p]
  | [], i, way, p => by simp [wayF]
  | q :: ps, i, way, p => by
    simp only [List.cons_append, wayF]
    split
    · rw [wayF_snoc ps]
      rw [List.length_cons, show i + 1 + ps.length = i + (ps.length + 1) by omega]
      rfl
    · rfl
theorem right_way (l : List Nd) : ∀ (rest : List Nd) (i : Nat) (way : List Int), wayF i way (rest.map (·.parent)) ≠ none → (∀ n ∈ rest, OkN n) → (∀ n ∈ rest, (0 ≤ n.parent → textAt l n.parent = [])) → (∀ (j : Nat) n, rest[j]? = some n → 0 < i + j → 0 ≤ n.parent) → rightF l i way rest = true
  | [], _, _, _, _, _, _ => rfl
  | n :: rest, i, way, h, hn, ht, hp => by
    simp only [List.map_cons, wayF] at h
    split at h
    · rename_i hc
      simp only [Bool.and_eq_true] at hc
      simp only [rightF, Bool.and_eq_true]
      refine ⟨hc.1, hc.2.1, hc.2.2, nodeC_mk (hn n (by simp)), ?_, right_way l rest _ _ h (fun x hx => hn x (by simp [hx])) (fun x hx => ht x (by simp [hx])) (fun j x hx hj => hp (j + 1) x (by simpa using hx) (by omega))⟩
      by_cases hi : 0 < i
      · have h0 := hp 0 n rfl (by omega)
        rw [ht n (by simp) h0]; simp
      · rw [decide_eq_false hi]; rfl
    · exact absurd rfl h
/-- What is so of nodes that are being built. -/
structure TB.Way (b : TB) : Prop where
  way : ∃ w more, wayF 0 [-1] (b.l.map (·.parent)) = some w ∧ w = -1 :: (b.op.map fun (i : Nat) => (i : Int)) ++ more ∧ w.Pairwise (· < ·) ∧ (∀ x ∈ w, x < b.l.length) ∧ (b.l = [] → w = [-1])
  nodes : ∀ n ∈ b.l, OkN n
theorem way_nil : TB.Way ⟨[], [], []⟩ := ⟨⟨[-1], [], rfl, rfl, by simp, by simp, fun _ => rfl⟩, by simp⟩
theorem idxOf_at : ∀ (a : List Int) (x : Int) (b : List Int), x ∉ a → (a ++ x :: b).idxOf x = a.length
  | [], x, b, _ => by simp
  | y :: a, x, b, h => by
    have hy : y ≠ x := fun e => h (by simp [e])
    have hy' : (y == x) = false := by simpa using hy
    rw [List.cons_append, List.idxOf_cons, hy', idxOf_at a x b fun hm => h (by simp [hm])]
    simp
theorem way_begin {b : TB} (h : b.Way) (t : Tok) (hk : t.kind = 1) (ht : NameOf t.name ∧ OkA t.attrs) (h0 : (b.begin t).2 = 0) : (b.begin t).1.Way := by
  revert h0
  unfold TB.begin
  split
  · intro h0; cases h0
  · split
    · intro h0; cases h0
    · rename_i g1 g2
      split
      · intro h0; cases h0
      · split
        · intro h0; cases h0
        · rename_i g3 g4
          intro _
          obtain ⟨w, more, hw, he, hpw, hlt, hnil⟩ := h.way
          have hnode : OkN ⟨b.top, t.name, [], t.attrs, t.nn⟩ := ⟨ht.1, ht.2.1, ht.2.2, rfl⟩
          have hnodes : ∀ n ∈ b.l ++ [(⟨b.top, t.name, [], t.attrs, t.nn⟩ : Nd)], OkN n := fun n hn => by
            rcases List.mem_append.1 hn with hn | hn
            · exact h.nodes n hn
            · have : n = ⟨b.top, t.name, [], t.attrs, t.nn⟩ := by simpa using hn
              rw [this]; exact hnode
          have hmap : (b.l ++ [(⟨b.top, t.name, [], t.attrs, t.nn⟩ : Nd)]).map (·.parent) = b.l.map (·.parent) ++ [b.top] := by simp
          have hop : ∀ (q : Bool), (if q then b.op else b.op ++ [b.l.length]).map (fun (i : Nat) => (i : Int)) ++ (if q then [(b.l.length : Int)] else []) = b.op.map (fun (i : Nat) => (i : Int)) ++ [(b.l.length : Int)] := fun q => by cases q <;> simp
          have fin : w.take (b.op.length + 1) = -1 :: b.op.map (fun (i : Nat) => (i : Int)) → wayF b.l.length w [b.top] = some (-1 :: b.op.map (fun (i : Nat) => (i : Int)) ++ [(b.l.length : Int)]) → (⟨b.l ++ [⟨b.top, t.name, [], t.attrs, t.nn⟩], if t.empty then b.op else b.op ++ [b.l.length], b.raise ++ [false]⟩ : TB).Way := fun htk hw2 => by
            refine ⟨⟨-1 :: b.op.map (fun (i : Nat) => (i : Int)) ++ [(b.l.length : Int)], if t.empty then [(b.l.length : Int)] else [], ?_, ?_, ?_, ?_, fun e => by simp at e⟩, hnodes⟩
            · rw [hmap, wayF_snoc, hw]
              simpa using hw2
            · simp only [List.cons_append]; rw [hop]
            · refine List.pairwise_append.2 ⟨?_, by simp, fun x hx y hy => ?_⟩
              · rw [← htk]; exact hpw.sublist (List.take_sublist _ _)
              · have : y = (b.l.length : Int) := by simpa using hy
                rw [this]
                exact hlt x (by rw [← htk] at hx; exact List.mem_of_mem_take hx)
            · intro x hx
              rcases List.mem_append.1 hx with hx | hx
              · have := hlt x (by rw [← htk] at hx; exact List.mem_of_mem_take hx)
                simp; omega
              · have : x = (b.l.length : Int) := by simpa using hx
                rw [this]; simp; omega
          by_cases ho : b.op = []
          · have hl : b.l = [] := by
              simp only [ho, beq_self_eq_true, Bool.true_and, Bool.not_eq_true', Bool.not_eq_true] at g2
              simpa using g2
            have hw1 := hnil hl
            have htop : b.top = -1 := by unfold TB.top; rw [ho]; rfl
            refine fin ?_ ?_
            · rw [hw1, ho]; rfl
            · rw [hw1, htop, ho, hl]; rfl
          · obtain ⟨i, hi1, hi2, hi3⟩ := TB.top_pos ho
            have hol : 0 < b.op.length := List.length_pos_iff.2 ho
            have hsp : b.op = b.op.take (b.op.length - 1) ++ [i] := by
              obtain ⟨ys, hys⟩ := List.getLast?_eq_some_iff.1 hi2
              rw [hys]; simp
            have hli : b.l ≠ [] := by
              intro e
              have := hnil e
              rw [this] at he
              have := congrArg List.length he
              simp only [List.length_cons, List.length_append, List.length_map, List.length_nil, List.cons_append] at this; omega
            have hll : 0 < b.l.length := List.length_pos_iff.2 hli
            have hw3 : w = (-1 :: (b.op.take (b.op.length - 1)).map fun (i : Nat) => (i : Int)) ++ (i : Int) :: more := by
              rw [he]
              conv => lhs; rw [hsp]
              simp
            have hidx : w.idxOf (i : Int) = b.op.length := by
              rw [hw3, idxOf_at]
              · rw [List.length_cons, List.length_map, List.length_take]; omega
              · intro hm
                have hpw' := hpw
                rw [hw3] at hpw'
                have := (List.pairwise_append.1 hpw').2.2 _ hm (i : Int) (by simp)
                exact Int.lt_irrefl _ this
            have hwl : b.op.length < w.length := by rw [he]; simp; omega
            have htk : w.take (b.op.length + 1) = -1 :: b.op.map (fun (i : Nat) => (i : Int)) := by
              rw [he]
              rw [List.take_append, List.take_of_length_le (by simp)]
              simp
            refine fin htk ?_
            rw [hi1]
            simp only [wayF, hidx, htk]
            have c1 : decide (b.op.length < w.length) = true := decide_eq_true hwl
            have c2 : decide (b.op.length = 0) = false := decide_eq_false (by omega)
            have c3 : decide (b.op.length + 1 ≤ 32) = true := decide_eq_true (by omega)
            rw [c1, c2, c3]
            simp
theorem way_fin {b : TB} (h : b.Way) (t : Tok) : (b.fin t).1.Way := by
  unfold TB.fin
  split
  · exact h
  · rename_i i hi
    split
    · split
      · obtain ⟨w, more, hw, he, hpw, hlt, hnil⟩ := h.way
        refine ⟨⟨w, (b.op.drop (b.op.length - 1)).map (fun (i : Nat) => (i : Int)) ++ more, hw, ?_, hpw, hlt, hnil⟩, h.nodes⟩
        rw [he]
        simp only [List.cons_append, ← List.append_assoc, ← List.map_append, List.take_append_drop]
      · exact h
    · exact h
theorem way_txt {b : TB} (h : b.Way) (t : Tok) (ht : utfB t.text = true) : (b.txt t).1.Way := by
  unfold TB.txt
  split
  · split <;> exact h
  · rename_i i hi
    split
    · rename_i n hn
      obtain ⟨w, more, hw, he, hpw, hlt, hnil⟩ := h.way
      have hm : (b.l.set i { n with text := n.text ++ t.text }).map (·.parent) = b.l.map (·.parent) := by
        rw [List.map_set]
        exact set_self (by rw [List.getElem?_map, hn]; rfl)
      refine ⟨⟨w, more, by rw [hm]; exact hw, he, hpw, by simpa using hlt, fun e => hnil (by
        have := congrArg List.length e
        exact List.eq_nil_of_length_eq_zero (by simpa using this))⟩, fun x hx => ?_⟩
      rcases List.mem_or_eq_of_mem_set hx with hx | rfl
      · exact h.nodes x hx
      · have ho := h.nodes n (List.mem_of_getElem? hn)
        refine ⟨ho.name, ho.att, ho.dist, ?_⟩
        show utfB (n.text ++ t.text) = true
        rw [utfB_append _ ho.text]; exact ht
    · exact h
theorem way_run : ∀ (l : List Go.Ab.Sz.Tok) (b : TB), b.Way → (∀ t ∈ l, OkT t) → (runL b (l.map toK)).1.Way
  | [], _, h, _ => h
  | t :: l, b, h, ht => by
    have h1 := ht t (by simp)
    simp only [List.map_cons, runL]
    split
    · rename_i h0
      refine way_run l _ ?_ fun x hx => ht x (by simp [hx])
      have h0' : (b.step (toK t)).2 = 0 := by simpa using h0
      revert h0'
      unfold TB.step
      split
      · rename_i hk
        have hk' : t.kind = 1 := by simpa [toK] using hk
        exact fun h0 => way_begin h (toK t) hk' ⟨h1.name hk', h1.att⟩ h0
      · split
        · exact fun _ => way_fin h _
        · split
          · exact fun _ => way_txt h _ h1.text
          · exact fun _ => h
    · exact h
theorem doneL_keeps : ∀ (l : List Nd) (ks : List Bool) (out : List Nd), doneL l ks = some out → out.length = l.length ∧ ∀ (k : Nat) n', out[k]? = some n' → ∃ n, l[k]? = some n ∧ n'.parent = n.parent ∧ n'.name = n.name ∧ n'.attrs = n.attrs ∧ (n'.text = n.text ∨ n'.text = []) ∧ (ks[k]? = some true → n'.text = [])
  | [], ks, out, h => by cases h; exact ⟨rfl, fun k n' hk => by simp at hk⟩
  | n :: l, [], out, h => by cases h
  | n :: l, true :: ks, out, h => by
    simp only [doneL] at h
    split at h
    · cases hd : doneL l ks with
      | none => rw [hd] at h; cases h
      | some o =>
        rw [hd] at h
        cases h
        obtain ⟨h1, h2⟩ := doneL_keeps l ks o hd
        refine ⟨by simp [h1], fun k n' hk => ?_⟩
        cases k with
        | zero => simp at hk; subst hk; exact ⟨n, rfl, rfl, rfl, rfl, .inr rfl, fun _ => rfl⟩
        | succ k => simp at hk; obtain ⟨x, a, b, c, d, e, f⟩ := h2 k n' hk; exact ⟨x, by simpa using a, b, c, d, e, fun hh => f (by simpa using hh)⟩
    · cases h
  | n :: l, false :: ks, out, h => by
    simp only [doneL] at h
    cases hd : doneL l ks with
    | none => rw [hd] at h; cases h
    | some o =>
      rw [hd] at h
      cases h
      obtain ⟨h1, h2⟩ := doneL_keeps l ks o hd
      refine ⟨by simp [h1], fun k n' hk => ?_⟩
      cases k with
      | zero => simp at hk; subst hk; exact ⟨n, rfl, rfl, rfl, rfl, .inl rfl, fun hh => by simp at hh⟩
      | succ k => simp at hk; obtain ⟨x, a, b, c, d, e, f⟩ := h2 k n' hk; exact ⟨x, by simpa using a, b, c, d, e, fun hh => f (by simpa using hh)⟩
theorem wayF_par : ∀ (ps : List Int) (i : Nat) (way : List Int), (∃ a, way = -1 :: a) → (∀ x ∈ way.drop 1, 0 ≤ x) → wayF i way ps ≠ none → (∀ (j : Nat) p, ps[j]? = some p → 0 < i + j → 0 ≤ p) ∧ (way = [-1] → ∀ p, ps[0]? = some p → p = -1)
  | [], _, _, _, _, _ => ⟨fun j p h => by simp at h, fun _ p h => by simp at h⟩
  | q :: ps, i, way, ⟨a, ha⟩, hpos, h => by
    simp only [wayF] at h
    split at h
    · rename_i hc
      simp only [Bool.and_eq_true, decide_eq_true_eq, Bool.not_eq_true', Bool.and_eq_false_iff, decide_eq_false_iff_not] at hc
      obtain ⟨c1, c2, c3⟩ := hc
      have hq : way[way.idxOf q]? = some q := by rw [List.getElem?_eq_getElem c1]; simp
      have ih := wayF_par ps (i + 1) _ ⟨a.take (way.idxOf q) ++ [(i : Int)], by rw [ha]; simp⟩ (fun x hx => by
        rw [ha] at hx
        simp only [List.take_succ_cons, List.cons_append, List.drop_succ_cons, List.drop_zero] at hx
        rcases List.mem_append.1 hx with hx | hx
        · exact hpos x (by rw [ha]; simpa using List.mem_of_mem_take hx)
        · simp at hx; omega) h
      refine ⟨fun j p hj hij => ?_, fun hw p hp => ?_⟩
      · cases j with
        | zero =>
          have : q = p := by simpa using hj
          subst this
          have c2' : way.idxOf q ≠ 0 := by rcases c2 with c2 | c2 <;> omega
          refine hpos q ?_
          obtain ⟨k, hk⟩ : ∃ k, way.idxOf q = k + 1 := ⟨way.idxOf q - 1, by omega⟩
          rw [hk] at hq
          exact List.mem_of_getElem? (i := k) (by rw [List.getElem?_drop, Nat.add_comm]; exact hq)
        | succ j => exact ih.1 j p (by simpa using hj) (by omega)
      · have : q = p := by simpa using hp
        subst this
        rw [hw] at hq c1
        simp only [List.length_singleton] at c1
        have : ([-1] : List Int).idxOf q = 0 := by omega
        rw [this] at hq
        simpa using hq.symm
    · exact absurd rfl h
/-- What is parsed may be written. -/
theorem parse_right {s : List UInt8} {l : List Nd} (h : parseS s = (l, 0)) : rightS l = true := by
  unfold parseS at h
  split at h
  · rename_i h0
    have hF := fit_run ((toksS s).1.map toK) ⟨[], [], []⟩ fit_nil
    have hW := way_run (toksS s).1 ⟨[], [], []⟩ way_nil (toksS_ok s)
    unfold buildS at h
    split at h
    · rename_i g; simp only [Prod.mk.injEq] at h; rw [h.2] at g; simp at g
    · split at h
      · cases h
      · rename_i g2
        split at h
        · rename_i o ho
          cases h
          generalize (runL ⟨[], [], []⟩ ((toksS s).1.map toK)).1 = b at *
          obtain ⟨h1, h2⟩ := doneL_keeps _ _ _ ho
          obtain ⟨w, more, hw, he, hpw, hlt, hnil⟩ := hW.way
          have hpar : l.map (·.parent) = b.l.map (·.parent) := by
            apply List.ext_getElem?
            intro k
            rw [List.getElem?_map, List.getElem?_map]
            cases hk : l[k]? with
            | none =>
              have : b.l[k]? = none := by
                rw [List.getElem?_eq_none_iff] at hk ⊢; omega
              rw [this]
            | some n' =>
              obtain ⟨n, a1, a2, _⟩ := h2 k n' hk
              rw [a1]
              simp [a2]
          have hwl : wayF 0 [-1] (l.map (·.parent)) ≠ none := by rw [hpar, hw]; simp
          have hwp := wayF_par _ 0 [-1] ⟨[], rfl⟩ (by simp) hwl
          have hne : l ≠ [] := fun e => by
            rw [e] at h1
            have : b.l = [] := List.eq_nil_of_length_eq_zero h1.symm
            rw [this] at g2
            exact g2 rfl
          unfold rightS
          simp only [Bool.and_eq_true, decide_eq_true_eq]
          refine ⟨by simpa using hne, by rw [h1]; exact hF.ok.many, ?_, right_way l l 0 [-1] hwl (fun n hn => ?_) (fun n hn hp => ?_) (fun j n hj hp => hwp.1 j n.parent (by rw [List.getElem?_map, hj]; rfl) hp)⟩
          · cases l with
            | nil => exact absurd rfl hne
            | cons n r => simpa using hwp.2 rfl n.parent rfl
          · obtain ⟨k, hk, rfl⟩ := List.mem_iff_getElem.1 hn
            obtain ⟨x, a1, a2, a3, a4, a5, a6⟩ := h2 k _ (List.getElem?_eq_getElem hk)
            have ho := hW.nodes x (List.mem_of_getElem? a1)
            refine ⟨by rw [a3]; exact ho.name, by rw [a4]; exact ho.att, by rw [a4]; exact ho.dist, ?_⟩
            rcases a5 with a5 | a5
            · rw [a5]; exact ho.text
            · rw [a5]; rfl
          · obtain ⟨k, hk, rfl⟩ := List.mem_iff_getElem.1 hn
            obtain ⟨x, a1, a2, _⟩ := h2 k _ (List.getElem?_eq_getElem hk)
            obtain ⟨i, hi⟩ : ∃ i : Nat, (l[k]).parent = i := ⟨(l[k]).parent.toNat, by omega⟩
            unfold textAt
            rw [hi, Int.toNat_natCast]
            split
            · rename_i m hm
              obtain ⟨y, _, _, _, _, _, b6⟩ := h2 i m hm
              exact b6 (hF.kid k x i a1 (by rw [← a2]; exact hi))
            · rfl
        · cases h
  · rename_i h0
    simp only [Prod.mk.injEq] at h
    rw [h.2] at h0
    simp at h0
end Go.Ab.Sz.K
