/- Part of this work: see the text that closes the claim. -/
import Derived.Test.YtpejbkckppnamaaDoorRef
set_option linter.all false
set_option linter.unusedVariables false
set_option linter.unusedSimpArgs false
namespace Go.Ab.Sd
open Go Go.Ab Go.Proofs Go.RowKit
set_option maxRecDepth 40000
set_option linter.unusedSimpArgs false
def gapL : List (List UInt8) := [[32], [9, 10], [32, 32, 32], [13, 32]]
theorem gap_all : ∀ i, i < 4 → (gapL.getD i []) ≠ [] ∧ (gapL.getD i []).length ≤ 3 ∧ ∀ c ∈ gapL.getD i [], c ∈ blanksL := by decide
theorem bl_utf {g : List UInt8} (h : Bl g) (r : List UInt8) : utfB (g ++ r) = utfB r := utfB_append r (utfB_ascii g fun c hc => by
  have : ∀ c ∈ blanksL, c.toNat < 128 ∧ mayN c.toNat = true := by decide
  exact this c (h c hc))
def tailB (ge gf gh : List UInt8) : List UInt8 := ge ++ 62 :: ([116] ++ 60 :: 47 :: ([97] ++ (gf ++ 62 :: (60 :: ([100] ++ (gh ++ 47 :: 62 :: []))))))
def attrB (gd r : List UInt8) : List UInt8 := gd ++ ([99] ++ ([] ++ 61 :: ([] ++ 34 :: ([49] ++ 34 :: r))))
def blT (ga gb gc gd ge gf gh e : List UInt8) : List UInt8 := 60 :: ([97] ++ (ga ++ ([98] ++ (gb ++ 61 :: (gc ++ 34 :: (e ++ 34 :: attrB gd (tailB ge gf gh)))))))
def blL (s : List UInt8) : List Tok := [⟨1, [97], [], [([98], s), ([99], [49])], false⟩, ⟨3, [], [116], [], false⟩, ⟨2, [97], [], [], false⟩, ⟨1, [100], [], [], true⟩]
theorem tail_toks {ge gf gh : List UInt8} (hf : Bl gf) (hh : Bl gh) : tokD ([116] ++ 60 :: 47 :: ([97] ++ (gf ++ 62 :: (60 :: ([100] ++ (gh ++ 47 :: 62 :: [])))))) = some [⟨3, [], [116], [], false⟩, ⟨2, [97], [], [], false⟩, ⟨1, [100], [], [], true⟩] := by
  have hA : NameOf [97] := name1 97 (by decide) (by decide)
  have hD : NameOf [100] := name1 100 (by decide) (by decide)
  rw [tokD_step (by simp), tok_text [116] _ (by simp) (by decide)]
  rw [show valS [116] = ([116], true) by kernel_rfl]
  simp only [if_true]
  rw [tokD_step (by simp), tok_end hA hf]
  simp only [if_true]
  have o := open_empty (g := gh) (r := []) (al := []) (gh ++ 47 :: 62 :: []).length hh
  rw [tokD_step (by simp), tok_open (nm := [100]) (t := gh ++ 47 :: 62 :: []) hD (name_bl hD hh 47 _ (by decide)) o]
  simp only [if_true]
  rw [tokD_nil]
  rfl
theorem bl_toks (ga gb gc gd ge gf gh s : List UInt8) (ha : Bl ga) (ha0 : ga ≠ []) (hb : Bl gb) (hc : Bl gc) (hd : Bl gd) (hd0 : gd ≠ []) (he : Bl ge) (hf : Bl gf) (hh : Bl gh) (hs : s.length ≤ 100) (hu : utfB s = true)
    (hl : ga.length + gb.length + gc.length + gd.length + ge.length + gf.length + gh.length ≤ 100) : toksS (blT ga gb gc gd ge gf gh (escS s)) = (blL s, 0) := by
  have hel := escS_len s
  have hee := utf_escS s hu
  refine toksS_D ?_ ?_ rfl ?_
  · simp only [blT, attrB, tailB, List.length_cons, List.length_append, List.length_nil]; omega
  · unfold blT attrB tailB
    simp only [List.singleton_append, List.nil_append]
    rw [asc1 (by decide), asc1 (by decide), bl_utf ha, asc1 (by decide), bl_utf hb, asc1 (by decide), bl_utf hc, asc1 (by decide), utfB_append _ hee, asc1 (by decide), bl_utf hd, asc1 (by decide), asc1 (by decide), asc1 (by decide), asc1 (by decide), asc1 (by decide), bl_utf he, asc1 (by decide), asc1 (by decide), asc1 (by decide), asc1 (by decide), asc1 (by decide), bl_utf hf, asc1 (by decide), asc1 (by decide), asc1 (by decide), bl_utf hh]
    rfl
  · have hA : NameOf [97] := name1 97 (by decide) (by decide)
    have hB : NameOf [98] := name1 98 (by decide) (by decide)
    have hC : NameOf [99] := name1 99 (by decide) (by decide)
    have a1 := attr_eq (r := attrB gd (tailB ge gf gh)) hB hb hc (escS_no 34 (.inr rfl) s) (escS_no 60 (.inl rfl) s) (valS_esc s)
    have a2 := attr_eq (nm := [99]) (g1 := []) (g2 := []) (e := [49]) (v := [49]) (r := tailB ge gf gh) hC bl_nil bl_nil (by decide) (by decide) (by kernel_rfl)
    have t1 : tokS (blT ga gb gc gd ge gf gh (escS s)) = (⟨1, [97], [], [([98], s), ([99], [49])], false⟩, true, [116] ++ 60 :: 47 :: ([97] ++ (gf ++ 62 :: (60 :: ([100] ++ (gh ++ 47 :: 62 :: [])))))) := by
      obtain ⟨x, g, rfl⟩ : ∃ x g, ga = x :: g := by
        cases ga with
        | nil => exact absurd rfl ha0
        | cons x g => exact ⟨x, g, rfl⟩
      refine tok_open (nm := [97]) (t := (x :: g) ++ ([98] ++ (gb ++ 61 :: (gc ++ 34 :: (escS s ++ 34 :: attrB gd (tailB ge gf gh)))))) hA (name_eq hA x _ (bl_of (ha x (by simp))).1) ?_
      refine Eq.trans (open_attr (al := []) _ ha (by simp) (c := 98) rfl (by decide) a1 rfl) ?_
      generalize hL : ((x :: g) ++ ([98] ++ (gb ++ 61 :: (gc ++ 34 :: (escS s ++ 34 :: attrB gd (tailB ge gf gh))))) : List UInt8).length = L
      have : 2 ≤ L := by rw [← hL]; simp [attrB]; omega
      obtain ⟨k, rfl⟩ : ∃ k, L = k + 1 + 1 := ⟨L - 2, by omega⟩
      refine Eq.trans (open_attr (k + 1) hd hd0 (c := 99) rfl (by decide) a2 rfl) ?_
      exact open_end k he
    rw [tokD_step (by simp [blT]), t1]
    simp only [if_true]
    rw [tail_toks (ge := ge) hf hh]
    rfl
section
variable {m : Int} {σ : St} {K : AV → St → Prop}
theorem TokenBlanks_law (what : Int) (s : List UInt8) : ACalls Tryd.prog (gD m) 6 [.int .i64 what, .str s] ⟨[], []⟩ (fun r _ => r = .bool true) := by
  refine ACalls_fn tok fm (fk6 _) ?_
  cases q : decide ((100 : Int) < (s.length : Int)) with
  | true =>
    simp (disch := first | omega | (simp only [nvsR, List.length_cons, List.length_nil, List.length_append]; first | done | omega)) only [walkAll, walkL, walkK, E, Nat.reduceEqDiff, Nat.reduceAdd, Nat.reduceSub, Nat.reduceLeDiff, Nat.le_refl, Nat.zero_lt_one, Int.cast_ofNat_Int, Int.reduceLT, Int.reduceLE, Int.reduceAdd, Int.reduceSub, Int.reduceToNat, Int.toNat_natCast, decide_true, decide_false, wrap_i64, wrap_i32, wrap_u8, wrap_u32, wrap_u64, and_true, true_and, ↓reduceIte, c6, q]
    refine awake_c ?_
    simp (disch := first | omega | (simp only [nvsR, List.length_cons, List.length_nil, List.length_append]; first | done | omega)) only [walkAll, walkL, walkK, E, Nat.reduceEqDiff, Nat.reduceAdd, Nat.reduceSub, Nat.reduceLeDiff, Nat.le_refl, Nat.zero_lt_one, Int.cast_ofNat_Int, Int.reduceLT, Int.reduceLE, Int.reduceAdd, Int.reduceSub, Int.reduceToNat, Int.toNat_natCast, decide_true, decide_false, wrap_i64, wrap_i32, wrap_u8, wrap_u32, wrap_u64, and_true, true_and, ↓reduceIte]
  | false =>
    have hs : s.length ≤ 100 := by have := of_decide_eq_false q; omega
    simp (disch := first | omega | (simp only [nvsR, List.length_cons, List.length_nil, List.length_append]; first | done | omega)) only [walkAll, walkL, walkK, E, Nat.reduceEqDiff, Nat.reduceAdd, Nat.reduceSub, Nat.reduceLeDiff, Nat.le_refl, Nat.zero_lt_one, Int.cast_ofNat_Int, Int.reduceLT, Int.reduceLE, Int.reduceAdd, Int.reduceSub, Int.reduceToNat, Int.toNat_natCast, decide_true, decide_false, wrap_i64, wrap_i32, wrap_u8, wrap_u32, wrap_u64, and_true, true_and, ↓reduceIte, c6, q]
    refine refUtf_c s (by omega) ?_
    cases hu : utfB s with
    | false =>
      simp (disch := first | omega | (simp only [nvsR, List.length_cons, List.length_nil, List.length_append]; first | done | omega)) only [walkAll, walkL, walkK, E, Nat.reduceEqDiff, Nat.reduceAdd, Nat.reduceSub, Nat.reduceLeDiff, Nat.le_refl, Nat.zero_lt_one, Int.cast_ofNat_Int, Int.reduceLT, Int.reduceLE, Int.reduceAdd, Int.reduceSub, Int.reduceToNat, Int.toNat_natCast, decide_true, decide_false, wrap_i64, wrap_i32, wrap_u8, wrap_u32, wrap_u64, and_true, true_and, ↓reduceIte]
      refine awake_c ?_
      simp (disch := first | omega | (simp only [nvsR, List.length_cons, List.length_nil, List.length_append]; first | done | omega)) only [walkAll, walkL, walkK, E, Nat.reduceEqDiff, Nat.reduceAdd, Nat.reduceSub, Nat.reduceLeDiff, Nat.le_refl, Nat.zero_lt_one, Int.cast_ofNat_Int, Int.reduceLT, Int.reduceLE, Int.reduceAdd, Int.reduceSub, Int.reduceToNat, Int.toNat_natCast, decide_true, decide_false, wrap_i64, wrap_i32, wrap_u8, wrap_u32, wrap_u64, and_true, true_and, ↓reduceIte]
    | true =>
      obtain ⟨i, hi, hk⟩ : ∃ i : Nat, i < 4 ∧ (IntKind.u64.wrap what).tmod 4 = i := by
        have h0 : 0 ≤ IntKind.u64.wrap what := by
          simp only [IntKind.wrap, IntKind.bits, IntKind.signed]
          simp
          omega
        have h1 := Int.tmod_nonneg 4 h0
        have h2 := Int.tmod_lt_of_pos (IntKind.u64.wrap what) (b := 4) (by decide)
        exact ⟨((IntKind.u64.wrap what).tmod 4).toNat, by omega, by omega⟩
      obtain ⟨g0, gl, gb⟩ := gap_all i hi
      have gg : ([[AV.str [32]], [AV.str [9, 10]], [AV.str [32, 32, 32]], [AV.str [13, 32]]])[i]? = some [AV.str (gapL.getD i [])] := by
        have : ∀ i, i < 4 → (gapL.map fun s => [AV.str s])[i]? = some [AV.str (gapL.getD i [])] := by
          intro i hi; rw [List.getElem?_map, List.getElem?_eq_getElem (show i < gapL.length from hi)]; simp [List.getD_eq_getElem?_getD, show i < gapL.length from hi]
        exact this i hi
      generalize gapL.getD i [] = g at g0 gl gb gg
      have w1 : IntKind.i64.wrap (i : Int) = i := wrap_i64 _ (by omega) (by omega)
      have hel := escS_len s
      have hg : Bl g := gb
      simp (disch := first | omega | (simp only [nvsR, List.length_cons, List.length_nil, List.length_append]; first | done | omega)) only [walkAll, walkL, walkK, E, Nat.reduceEqDiff, Nat.reduceAdd, Nat.reduceSub, Nat.reduceLeDiff, Nat.le_refl, Nat.zero_lt_one, Int.cast_ofNat_Int, Int.reduceLT, Int.reduceLE, Int.reduceAdd, Int.reduceSub, Int.reduceToNat, Int.toNat_natCast, decide_true, decide_false, wrap_i64, wrap_i32, wrap_u8, wrap_u32, wrap_u64, and_true, true_and, ↓reduceIte, hk, w1, gg, Nat.zero_add]
      refine Escape_c s (by omega) ?_
      simp (disch := first | omega | (simp only [nvsR, List.length_cons, List.length_nil, List.length_append]; first | done | omega)) only [walkAll, walkL, walkK, E, Nat.reduceEqDiff, Nat.reduceAdd, Nat.reduceSub, Nat.reduceLeDiff, Nat.le_refl, Nat.zero_lt_one, Int.cast_ofNat_Int, Int.reduceLT, Int.reduceLE, Int.reduceAdd, Int.reduceSub, Int.reduceToNat, Int.toNat_natCast, decide_true, decide_false, wrap_i64, wrap_i32, wrap_u8, wrap_u32, wrap_u64, and_true, true_and, ↓reduceIte]
      have t1 : toksS (60 :: 97 :: 32 :: 98 :: 61 :: 34 :: (escS s ++ [34, 32, 99, 61, 34, 49, 34, 62, 116, 60, 47, 97, 62, 60, 100, 47, 62])) = (blL s, 0) := by
        have := bl_toks [32] [] [] [32] [] [] [] s bl_sp (by simp) bl_nil bl_nil bl_sp (by simp) bl_nil bl_nil bl_nil hs hu (by simp)
        rw [← this]; simp [blT, attrB, tailB]
      refine Tokens_c _ (by simp; omega) ?_
      rw [t1]
      simp (disch := first | omega | (simp only [nvsR, List.length_cons, List.length_nil, List.length_append]; first | done | omega)) only [walkAll, walkL, walkK, E, Nat.reduceEqDiff, Nat.reduceAdd, Nat.reduceSub, Nat.reduceLeDiff, Nat.le_refl, Nat.zero_lt_one, Int.cast_ofNat_Int, Int.reduceLT, Int.reduceLE, Int.reduceAdd, Int.reduceSub, Int.reduceToNat, Int.toNat_natCast, decide_true, decide_false, wrap_i64, wrap_i32, wrap_u8, wrap_u32, wrap_u64, and_true, true_and, ↓reduceIte]
      have t2 : toksS (60 :: 97 :: (g ++ [98] ++ g ++ [61] ++ g ++ [34] ++ escS s ++ [34] ++ g ++ [99, 61, 34, 49, 34] ++ g ++ [62, 116, 60, 47, 97] ++ g ++ [62, 60, 100] ++ g ++ [47, 62])) = (blL s, 0) := by
        have := bl_toks g g g g g g g s hg g0 hg hg hg g0 hg hg hg hs hu (by omega)
        rw [← this]; simp [blT, attrB, tailB]
      refine Tokens_c _ (by simp; omega) ?_
      rw [t2]
      simp (disch := first | omega | (simp only [nvsR, List.length_cons, List.length_nil, List.length_append]; first | done | omega)) only [walkAll, walkL, walkK, E, Nat.reduceEqDiff, Nat.reduceAdd, Nat.reduceSub, Nat.reduceLeDiff, Nat.le_refl, Nat.zero_lt_one, Int.cast_ofNat_Int, Int.reduceLT, Int.reduceLE, Int.reduceAdd, Int.reduceSub, Int.reduceToNat, Int.toNat_natCast, decide_true, decide_false, wrap_i64, wrap_i32, wrap_u8, wrap_u32, wrap_u64, and_true, true_and, ↓reduceIte]
      refine awake_c ?_
      have e0 : ((0 : Int) == 0) = true := rfl
      simp (disch := first | omega | (simp only [nvsR, List.length_cons, List.length_nil, List.length_append]; first | done | omega)) only [walkAll, walkL, walkK, E, Nat.reduceEqDiff, Nat.reduceAdd, Nat.reduceSub, Nat.reduceLeDiff, Nat.le_refl, Nat.zero_lt_one, Int.cast_ofNat_Int, Int.reduceLT, Int.reduceLE, Int.reduceAdd, Int.reduceSub, Int.reduceToNat, Int.toNat_natCast, decide_true, decide_false, wrap_i64, wrap_i32, wrap_u8, wrap_u32, wrap_u64, and_true, true_and, ↓reduceIte, e0]
      refine sameToks_c (blL s) (by simp [blL]) (by simp [blL]) ?_
      have e4 : ((4 : Int) == 4) = true := rfl
      simp (disch := first | omega | (simp only [nvsR, List.length_cons, List.length_nil, List.length_append]; first | done | omega)) only [walkAll, walkL, walkK, E, Nat.reduceEqDiff, Nat.reduceAdd, Nat.reduceSub, Nat.reduceLeDiff, Nat.le_refl, Nat.zero_lt_one, Int.cast_ofNat_Int, Int.reduceLT, Int.reduceLE, Int.reduceAdd, Int.reduceSub, Int.reduceToNat, Int.toNat_natCast, decide_true, decide_false, wrap_i64, wrap_i32, wrap_u8, wrap_u32, wrap_u64, and_true, true_and, ↓reduceIte, e0, lsv_len, List.length_map, blL, e4]
end
end Go.Ab.Sd
