/- Part of this work: see the text that closes the claim. -/
import Derived.Test.YtpejbkckppnamaaDoorSdCut
import Derived.Lib.TrimAscii
import Derived.Lib.TrimUEq
set_option linter.all false
set_option linter.unusedVariables false
set_option linter.unusedSimpArgs false
namespace Go.Ab.Sd
open Go Go.Ab Go.Proofs Go.RowKit
set_option maxRecDepth 20000
set_option linter.unusedSimpArgs false
section
variable {m : Int} {σ : St} {K : AV → St → Prop}
theorem RepL.ints_inv {C : Cz} {k : IntKind} {α : Type} (f : α → Int) : ∀ {l : List α} {vs : List Value}, RepL C (l.map fun a => AV.int k (f a)) vs → vs = l.map fun a => Value.int k (f a)
  | [], vs, h => by cases h; rfl
  | a :: l, vs, h => by
    cases h with | cons _ _ _ _ h1 t => cases h1; rw [RepL.ints_inv f t]; rfl
theorem gD_tabs {C : Cz} {w : World} (h : GOK (gD m) C) (hm : ∀ b o v, C.M b o = some v → w.cell? ⟨b, o, none⟩ = some v) : Lib.Utf8Tabs 0 1 w := by
  refine ⟨?_, ?_⟩
  · obtain ⟨vs, h1, h2⟩ := h.cell hm (g := 0) (cs := firstL) rfl
    have := RepL.ints_inv _ h1
    subst this
    intro c hc
    refine h2 c _ ?_
    rw [List.getElem?_map, List.getElem?_range hc]; rfl
  · obtain ⟨vs, h1, h2⟩ := h.cell hm (g := 1) (cs := accL) rfl
    have e : accL = (List.range 32).map fun j => AV.int .u8 (if j % 2 = 0 then Lib.accLo (j / 2) else Lib.accHi (j / 2)) := by rfl
    rw [e] at h1
    have := RepL.ints_inv _ h1
    subst this
    intro i hi
    refine ⟨h2 (2 * i) _ ?_, h2 (2 * i + 1) _ ?_⟩
    · rw [List.getElem?_map, List.getElem?_range (by omega)]
      simp
    · rw [List.getElem?_map, List.getElem?_range (by omega)]
      simp [show (2 * i + 1) % 2 = 1 by omega, show (2 * i + 1) / 2 = i by omega]
theorem DecodeLast_c (s : List UInt8) (hs : s.length ≤ 9223372036854775807) (h : K (.tup [.int .i32 (Lib.decodeLastL s).1, .int .i64 (Lib.decodeLastL s).2]) σ) : ACalls Tryd.prog (gD m) 74 [.str s] σ K :=
  ACalls.of_calls Tryd.func74 rfl (by decide) (fun C w vs hm hg ha => by
    rw [ha.s_inv]
    exact (Tryd.utf8_DecodeLastRuneInString ⟨s.toArray⟩ w (by rw [str_size]; exact hs) (gD_tabs hg hm)).mono fun _ _ h => ⟨_, h.1, .tup _ _ (.cons _ _ _ _ (.int _ _) (.cons _ _ _ _ (.int _ _) .nil)), h.2⟩) h
theorem DecodeRune_c (s : List UInt8) (h : K (.tup [.int .i32 (Lib.decodeGo ⟨s.toArray⟩).1, .int .i64 (Lib.decodeGo ⟨s.toArray⟩).2]) σ) : ACalls Tryd.prog (gD m) 62 [.str s] σ K :=
  ACalls.of_calls Tryd.func62 rfl (by decide) (fun C w vs hm hg ha => by
    rw [ha.s_inv]
    exact (Tryd.utf8_DecodeRuneInString ⟨s.toArray⟩ w (gD_tabs hg hm)).mono fun _ _ h => ⟨_, h.1, .tup _ _ (.cons _ _ _ _ (.int _ _) (.cons _ _ _ _ (.int _ _) .nil)), h.2⟩) h
theorem last_high (t : List UInt8) (b : UInt8) (h : 128 ≤ b.toNat) : 128 ≤ (Lib.decodeLastL (t ++ [b])).1 := by
  have hlast : (t ++ [b]).getD ((t ++ [b]).length - 1) 0 = b := by simp [List.getD]
  unfold Lib.decodeLastL
  rw [if_neg (by simp), hlast, if_neg (by omega)]
  simp only
  split
  · rename_i heq
    have hdd : Lib.decodeL ((t ++ [b]).drop (Lib.lastStart (t ++ [b]))) = Utf8.decode ⟨(t ++ [b]).toArray⟩ (Lib.lastStart (t ++ [b])) := Lib.decodeL_drop ⟨(t ++ [b]).toArray⟩ _
    rw [hdd] at heq ⊢
    generalize Lib.lastStart (t ++ [b]) = k at *
    cases hx : (t ++ [b])[k]? with
    | none =>
      have hk : (t ++ [b]).length ≤ k := by simpa using hx
      have : 1 ≤ (Utf8.decode ⟨(t ++ [b]).toArray⟩ k).2 := by
        unfold Utf8.decode
        simp only
        repeat' split
        all_goals simp
      omega
    | some x =>
      by_cases hlow : x.toNat < 128
      · rw [dec_low _ k x hx hlow] at heq
        have hk : k = t.length := by simp at heq; omega
        subst hk
        simp at hx
        subst hx
        omega
      · exact dec_high _ k x hx (by omega)
  · simp [Utf8.runeError]
theorem inner65 (k : Nat) (set : List UInt8) (ha : ∀ b ∈ set, b.toNat < 128) (c : Int) {Q : EQ} : ∀ (rest : List UInt8) (j : Nat) (inn : Bool) (e : Env) (σ : St), set.drop j = rest → getV σ k = some (.siter set j) → e 19 = some (.vp k 0) → e 7 = some (.bool inn) → e 5 = some (.int .i32 c) →
    (∀ e' σ', e' 7 = some (.bool (inn || isIn c rest)) → (∀ n, n = 0 ∨ n = 1 ∨ n = 6 → e' n = e n) → Q (.exit 2) e' σ') →
    LoopC Tryd.prog tt (gD m) l65_0 Q e σ := by
  intro rest
  induction rest with
  | nil =>
    intro j inn e σ hd hv h17 h7 h6 hq
    have hj : set.length ≤ j := by simpa using hd
    refine LoopC_unfold tok fm ?_
    simp (disch := omega) only [l65_0x, l65_0b, walkAll, walkL, h17, hv, Nat.reduceEqDiff, ↓reduceIte]
    refine hq _ _ (by simp [put, h7, isIn]) ?_
    rintro n (rfl | rfl | rfl) <;> simp [put]
  | cons x rest ih =>
    intro j inn e σ hd hv h17 h7 h6 hq
    have hxj : set[j]? = some x := by
      have := congrArg (fun l => l[0]?) hd
      simpa using this
    have hj : j < set.length := (List.getElem?_eq_some_iff.1 hxj).1
    have hx : x.toNat < 128 := ha x (List.mem_of_getElem? hxj)
    have hdec := dec_low set j x hxj hx
    have hlt := getV_lt hv
    refine LoopC_unfold tok fm ?_
    simp (disch := omega) only [l65_0x, l65_0b, walkAll, walkL, h17, hv, h7, h6, hdec, Nat.reduceEqDiff, ↓reduceIte]
    have hrest : set.drop (j + 1) = rest := by
      rw [← List.drop_drop, hd]; rfl
    have hv' : getV (σ.setV k (.siter set (j + 1))) k = some (.siter set (j + 1)) := by simp only [getV, St.setV]; exact List.getElem?_set_self hlt
    refine brG_split (fun hb => ?_) (fun hb => ?_)
    · simp only [Bool.not_eq_true'] at hb
      subst hb
      simp (disch := omega) only [walkAll, walkL, h17, hv, h7, h6, Nat.reduceEqDiff, ↓reduceIte]
      refine ih (j + 1) (c == (x.toNat : Int)) _ _ hrest hv' (by simp [put, h17]) (by simp [put]) (by simp [put, h6]) (fun e' σ' h1 h2 => hq e' σ' ?_ ?_)
      · rw [h1, isIn_cons]
        have : (c == (x.toNat : Int)) = ((x.toNat : Int) == c) := by rw [Bool.eq_iff_iff]; simp; exact eq_comm
        rw [this]; rfl
      · rintro n (rfl | rfl | rfl) <;> (rw [h2 _ (by simp)]; simp [put])
    · simp only [Bool.not_eq_false'] at hb
      subst hb
      simp (disch := omega) only [walkAll, walkL, h17, hv, h7, h6, Nat.reduceEqDiff, ↓reduceIte]
      refine ih (j + 1) true _ _ hrest hv' (by simp [put, h17]) (by simp [put]) (by simp [put, h6]) (fun e' σ' h1 h2 => hq e' σ' ?_ ?_)
      · rw [h1]; rfl
      · rintro n (rfl | rfl | rfl) <;> (rw [h2 _ (by simp)]; simp [put])
/-- Without the bytes of a set at its end. -/
def cutR (set : List UInt8) (s : List UInt8) : List UInt8 := (s.reverse.dropWhile set.contains).reverse
theorem cutR_nil (set : List UInt8) : cutR set [] = [] := rfl
theorem cutR_snoc (set : List UInt8) (t : List UInt8) (b : UInt8) : cutR set (t ++ [b]) = if set.contains b then cutR set t else t ++ [b] := by
  simp only [cutR, List.reverse_append, List.reverse_cons, List.reverse_nil, List.nil_append, List.singleton_append, List.dropWhile_cons]
  split <;> simp
theorem outer65 (set : List UInt8) (ha : ∀ b ∈ set, b.toNat < 128) {Q : EQ} : ∀ (n : Nat) (s : List UInt8) (e : Env) (σ : St), s.length = n → s.length < 9223372036854775807 → e 0 = some (.str s) → e 1 = some (.str set) →
    (∀ e' σ', e' 0 = some (.str []) → cutR set s = [] → Q (.exit 0) e' σ') → (∀ e' σ', e' 4 = some (.str (cutR set s)) → Q .ret e' σ') →
    LoopC Tryd.prog tt (gD m) l65_1 Q e σ := by
  intro n
  induction n with
  | zero =>
    intro s e σ hn hs h0 h1 hx hr
    have : s = [] := List.length_eq_zero_iff.1 hn
    subst this
    refine LoopC_unfold tok fm ?_
    simp (disch := omega) only [l65_1x, l65_1b, walkAll, walkL, h0, Int.natCast_zero, Int.lt_irrefl, decide_false, gt_iff_lt, Nat.reduceEqDiff, ↓reduceIte]
    exact hx _ _ (by simp [put, h0]) rfl
  | succ n ih =>
    intro s e σ hn hs h0 h1 hx hr
    obtain ⟨t, b, rfl⟩ : ∃ t b, s = t ++ [b] := by
      have hne : s ≠ [] := by intro e; rw [e] at hn; cases hn
      exact ⟨s.dropLast, s.getLast hne, (List.dropLast_concat_getLast hne).symm⟩
    have d : decide ((0 : Int) < (((t ++ [b]).length : Nat) : Int)) = true := by simp
    refine LoopC_unfold tok fm ?_
    simp (disch := omega) only [l65_1x, l65_1b, walkAll, walkL, h0, h1, d, Nat.reduceEqDiff, ↓reduceIte]
    refine DecodeLast_c _ (by omega) ?_
    simp (disch := omega) only [walkAll, walkL, h0, h1, Nat.reduceEqDiff, ↓reduceIte]
    refine inner65 (nvs σ) set ha ((Lib.decodeLastL (t ++ [b])).1 : Int) set 0 false _ _ rfl ?_ (by simp [put]) (by simp [put]) (by simp [put]) ?_
    · simp only [getV, nvs, St.pushV]; simp
    · intro e' σ' h7 hk
      have hin : isIn ((Lib.decodeLastL (t ++ [b])).1 : Int) set = set.contains b := by
        by_cases h : b.toNat < 128
        · rw [Lib.decodeLastL_ascii t b h]; exact isIn_low set b
        · rw [contains_high set ha b (by omega)]
          exact isIn_high set ha _ (by have := last_high t b (by omega); omega)
      rw [hin, Bool.false_or] at h7
      have h0' : e' 0 = some (.str (t ++ [b])) := by rw [hk 0 (by simp)]; simp [put, h0]
      have h1' : e' 1 = some (.str set) := by rw [hk 1 (by simp)]; simp [put, h1]
      have h6' : e' 6 = some (.int .i64 (Lib.decodeLastL (t ++ [b])).2) := by rw [hk 6 (by simp)]; simp [put]
      simp (disch := omega) only [walkAll, walkL, h7, h0', Nat.reduceEqDiff, ↓reduceIte]
      refine brC_split (fun hb => ?_) (fun hb => ?_)
      · simp only [Bool.not_eq_true'] at hb
        simp (disch := omega) only [walkAll, walkL, h7, h0', Nat.reduceEqDiff, ↓reduceIte]
        refine hr _ _ ?_
        rw [cutR_snoc, hb]
        simp [put]
      · simp only [Bool.not_eq_false'] at hb
        have hlow : b.toNat < 128 := by
          rcases Nat.lt_or_ge b.toNat 128 with h | h
          · exact h
          · rw [contains_high set ha b h] at hb; cases hb
        rw [Lib.decodeLastL_ascii t b hlow] at h6'
        have hl : (t ++ [b]).length = t.length + 1 := by simp
        have e1 : (((t.length + 1 : Nat) : Int) - ((1 : Nat) : Int)).toNat = t.length := by omega
        rw [hl] at hn hs
        simp (disch := omega) only [walkAll, walkL, h7, h0', h6', hl, wrap_i64, e1, Nat.sub_zero, List.take_left, Nat.reduceEqDiff, ↓reduceIte]
        rw [cutR_snoc, hb] at hx hr
        exact ih t _ σ' (by omega) (by omega) (by simp [put]) (by simp [put, h1']) hx hr
theorem cutRight_c (s set : List UInt8) (hs : s.length < 9223372036854775807) (ha : ∀ b ∈ set, b.toNat < 128) (h : K (.str (cutR set s)) σ) : ACalls Tryd.prog (gD m) 65 [.str s, .str set] σ K := by
  refine (ACalls.frame gD_data (.cons _ _ (.str _) (.cons _ _ (.str _) .nil)) (Q := fun r => r = .str (cutR set s)) ?_ σ).mono (fun r σ' hr => by rw [hr.1, hr.2]; exact h)
  refine ACalls_fn tok fm (fk65 _) ?_
  simp only [c65, walkAll, walkL, E, Nat.reduceEqDiff, ↓reduceIte]
  refine outer65 set ha s.length s _ _ rfl hs (by simp [put, E]) (by simp [put, E]) (fun e' σ' h0 he => ?_) (fun e' σ' he => ?_)
  · simp only [walkAll, walkL, h0, Nat.reduceEqDiff, ↓reduceIte]
    exact ⟨.str _, by rw [he]⟩
  · simp only [walkAll, walkL, he, Nat.reduceEqDiff, ↓reduceIte]
    exact .str _
end
end Go.Ab.Sd
