/- Part of this work: see the text that closes the claim. -/
import Derived.Test.YtpejbkckppnamaaDoorSdTok
import Derived.Laws.RangeAny
set_option linter.all false
set_option linter.unusedVariables false
set_option linter.unusedSimpArgs false
namespace Go.Ab.Sd
open Go Go.Ab Go.Proofs Go.RowKit
set_option maxRecDepth 20000
set_option linter.unusedSimpArgs false
section
variable {m : Int} {σ : St} {K : AV → St → Prop}
theorem dec_low (s : List UInt8) (j : Nat) (x : UInt8) (hx : s[j]? = some x) (h : x.toNat < 128) : Utf8.decode ⟨s.toArray⟩ j = (x.toNat, 1) := by
  obtain ⟨hl, he⟩ := List.getElem?_eq_some_iff.1 hx
  have hsz : j < (⟨s.toArray⟩ : ByteArray).size := by rw [str_size]; exact hl
  have e : (⟨s.toArray⟩ : ByteArray)[j]'hsz = x := by rw [← he]; rfl
  have := decode_ascii ⟨s.toArray⟩ j hsz (by rw [e]; exact h)
  rw [this, e]
theorem dec_high (s : List UInt8) (j : Nat) (x : UInt8) (hx : s[j]? = some x) (h : 128 ≤ x.toNat) : 128 ≤ (Utf8.decode ⟨s.toArray⟩ j).1 := by
  obtain ⟨hl, he⟩ := List.getElem?_eq_some_iff.1 hx
  have hsz : j < (⟨s.toArray⟩ : ByteArray).size := by rw [str_size]; exact hl
  have e : (⟨s.toArray⟩ : ByteArray)[j]'hsz = x := by rw [← he]; rfl
  exact (decode_high ⟨s.toArray⟩ j hsz (by rw [e]; exact h)).1
/-- Is the number one of these bytes? -/
def isIn (c : Int) (l : List UInt8) : Bool := l.any fun x => (x.toNat : Int) == c
theorem isIn_cons (c : Int) (x : UInt8) (l : List UInt8) : isIn c (x :: l) = (((x.toNat : Int) == c) || isIn c l) := rfl
theorem inner66 (k : Nat) (set : List UInt8) (ha : ∀ b ∈ set, b.toNat < 128) (c : Int) {Q : EQ} : ∀ (rest : List UInt8) (j : Nat) (inn : Bool) (e : Env) (σ : St), set.drop j = rest → getV σ k = some (.siter set j) → e 17 = some (.vp k 0) → e 7 = some (.bool inn) → e 6 = some (.int .i32 c) →
    (∀ e' σ', e' 7 = some (.bool (inn || isIn c rest)) → (∀ n, n = 0 ∨ n = 1 ∨ n = 5 ∨ n = 11 → e' n = e n) → (∀ b, b ≠ k → getV σ' b = getV σ b) → nvs σ' = nvs σ → Q (.exit 2) e' σ') →
    LoopC Tryd.prog tt (gD m) l66_0 Q e σ := by
  intro rest
  induction rest with
  | nil =>
    intro j inn e σ hd hv h17 h7 h6 hq
    have hj : set.length ≤ j := by simpa using hd
    refine LoopC_unfold tok fm ?_
    simp (disch := omega) only [l66_0x, l66_0b, walkAll, walkL, h17, hv, Nat.reduceEqDiff, ↓reduceIte]
    refine hq _ _ (by simp [put, h7, isIn]) ?_ (fun _ _ => rfl) rfl
    rintro n (rfl | rfl | rfl | rfl) <;> simp [put]
  | cons x rest ih =>
    intro j inn e σ hd hv h17 h7 h6 hq
    have hxj : set[j]? = some x := by
      have := congrArg (fun l => l[0]?) hd
      simpa using this
    have hj : j < set.length := (List.getElem?_eq_some_iff.1 hxj).1
    have hx : x.toNat < 128 := ha x (List.mem_of_getElem? hxj)
    have hdec := dec_low set j x hxj hx
    have hlt := getV_lt hv
    refine LoopC_unfold tok fm ?_
    simp (disch := omega) only [l66_0x, l66_0b, walkAll, walkL, h17, hv, h7, h6, hdec, Nat.reduceEqDiff, ↓reduceIte]
    have hrest : set.drop (j + 1) = rest := by
      rw [← List.drop_drop, hd]; rfl
    have hv' : getV (σ.setV k (.siter set (j + 1))) k = some (.siter set (j + 1)) := by simp only [getV, St.setV]; exact List.getElem?_set_self hlt
    have oth : ∀ b, b ≠ k → getV (σ.setV k (.siter set (j + 1))) b = getV σ b := fun b hb => by simp only [getV, St.setV]; rw [List.getElem?_set_ne (Ne.symm hb)]
    have hn : nvs (σ.setV k (.siter set (j + 1))) = nvs σ := by simp [nvs, St.setV]
    refine brG_split (fun hb => ?_) (fun hb => ?_)
    · simp only [Bool.not_eq_true'] at hb
      subst hb
      simp (disch := omega) only [walkAll, walkL, h17, hv, h7, h6, Nat.reduceEqDiff, ↓reduceIte]
      refine ih (j + 1) (c == (x.toNat : Int)) _ _ hrest hv' (by simp [put, h17]) (by simp [put]) (by simp [put, h6]) (fun e' σ' h1 h2 h3 h4 => hq e' σ' ?_ ?_ (fun b hb => (h3 b hb).trans (oth b hb)) (h4.trans hn))
      · rw [h1, isIn_cons]
        have : (c == (x.toNat : Int)) = ((x.toNat : Int) == c) := by rw [Bool.eq_iff_iff]; simp; exact eq_comm
        rw [this]; rfl
      · rintro n (rfl | rfl | rfl | rfl) <;> (rw [h2 _ (by simp)]; simp [put])
    · simp only [Bool.not_eq_false'] at hb
      subst hb
      simp (disch := omega) only [walkAll, walkL, h17, hv, h7, h6, Nat.reduceEqDiff, ↓reduceIte]
      refine ih (j + 1) true _ _ hrest hv' (by simp [put, h17]) (by simp [put]) (by simp [put, h6]) (fun e' σ' h1 h2 h3 h4 => hq e' σ' ?_ ?_ (fun b hb => (h3 b hb).trans (oth b hb)) (h4.trans hn))
      · rw [h1]; rfl
      · rintro n (rfl | rfl | rfl | rfl) <;> (rw [h2 _ (by simp)]; simp [put])
theorem isIn_low (set : List UInt8) (x : UInt8) : isIn (x.toNat : Int) set = set.contains x := by
  induction set with
  | nil => rfl
  | cons y l ih =>
    rw [isIn_cons, ih, List.contains_cons]
    congr 1
    rw [Bool.eq_iff_iff]
    simp only [beq_iff_eq]
    exact ⟨fun h => (UInt8.toNat_inj.1 (by omega)).symm, fun h => by rw [h]⟩
theorem isIn_high (set : List UInt8) (ha : ∀ b ∈ set, b.toNat < 128) (c : Int) (hc : 128 ≤ c) : isIn c set = false := by
  rw [isIn, List.any_eq_false]
  intro b hb
  have := ha b hb
  simp; omega
theorem contains_high (set : List UInt8) (ha : ∀ b ∈ set, b.toNat < 128) (x : UInt8) (hx : 128 ≤ x.toNat) : set.contains x = false := by
  rw [Bool.eq_false_iff]
  intro h
  have := ha x (by simpa using h)
  omega
theorem isIn_dec (s set : List UInt8) (ha : ∀ b ∈ set, b.toNat < 128) (j : Nat) (x : UInt8) (hx : s[j]? = some x) : isIn ((Utf8.decode ⟨s.toArray⟩ j).1 : Int) set = set.contains x := by
  by_cases h : x.toNat < 128
  · rw [dec_low s j x hx h]; exact isIn_low set x
  · rw [contains_high set ha x (by omega)]
    exact isIn_high set ha _ (by have := dec_high s j x hx (by omega); omega)
theorem outer66 (k : Nat) (s set : List UInt8) (hs : s.length < 9223372036854775808) (ha : ∀ b ∈ set, b.toNat < 128) {Q : EQ} : ∀ (rest : List UInt8) (pos : Nat) (e : Env) (σ : St), s.drop pos = rest → getV σ k = some (.siter s pos) → e 0 = some (.str s) → e 1 = some (.str set) → e 11 = some (.vp k 0) →
    (∀ e' σ', rest.dropWhile set.contains = [] → Q (.exit 0) e' σ') → (∀ e' σ', e' 4 = some (.str (rest.dropWhile set.contains)) → Q .ret e' σ') →
    LoopC Tryd.prog tt (gD m) l66_1 Q e σ := by
  intro rest
  induction rest with
  | nil =>
    intro pos e σ hd hv h0 h1 h11 hx hr
    have hj : s.length ≤ pos := by simpa using hd
    refine LoopC_unfold tok fm ?_
    simp (disch := omega) only [l66_1x, l66_1b, walkAll, walkL, h11, hv, Nat.reduceEqDiff, ↓reduceIte]
    exact hx _ _ rfl
  | cons x rest ih =>
    intro pos e σ hd hv h0 h1 h11 hx hr
    have hxj : s[pos]? = some x := by
      have := congrArg (fun l => l[0]?) hd
      simpa using this
    have hj : pos < s.length := (List.getElem?_eq_some_iff.1 hxj).1
    have hlt := getV_lt hv
    have hdec := isIn_dec s set ha pos x hxj
    refine LoopC_unfold tok fm ?_
    simp (disch := omega) only [l66_1x, l66_1b, walkAll, walkL, h11, hv, h0, h1, Nat.reduceEqDiff, ↓reduceIte]
    refine inner66 (nvs σ) set ha ((Utf8.decode ⟨s.toArray⟩ pos).1 : Int) set 0 false _ _ rfl ?_ (by simp [put]) (by simp [put]) (by simp [put]) ?_
    · simp only [getV, nvs, St.pushV, St.setV]; simp
    · intro e' σ' h7 hk hv' _
      rw [hdec, Bool.false_or] at h7
      have h0' : e' 0 = some (.str s) := by rw [hk 0 (by simp)]; simp [put, h0]
      have h1' : e' 1 = some (.str set) := by rw [hk 1 (by simp)]; simp [put, h1]
      have h5' : e' 5 = some (.int .i64 pos) := by rw [hk 5 (by simp)]; simp [put]
      have h11' : e' 11 = some (.vp k 0) := by rw [hk 11 (by simp)]; simp [put, h11]
      simp (disch := omega) only [walkAll, walkL, h7, h0', h5', Nat.reduceEqDiff, ↓reduceIte]
      refine brC_split (fun hb => ?_) (fun hb => ?_)
      · simp only [Bool.not_eq_true'] at hb
        simp (disch := omega) only [walkAll, walkL, h7, h0', h5', Nat.reduceEqDiff, ↓reduceIte, hd]
        refine hr _ _ ?_
        have hl : s.length - pos = (x :: rest).length := by rw [← hd]; simp
        simp only [put, Nat.reduceEqDiff, ↓reduceIte, hl, List.take_length, List.dropWhile, hb]
      · simp only [Bool.not_eq_false'] at hb
        have hlow : x.toNat < 128 := by
          rcases Nat.lt_or_ge x.toNat 128 with h | h
          · exact h
          · rw [contains_high set ha x h] at hb; cases hb
        have hd2 := dec_low s pos x hxj hlow
        simp (disch := omega) only [walkAll, walkL, h7, h0', h5', Nat.reduceEqDiff, ↓reduceIte]
        have hrest : s.drop (pos + 1) = rest := by rw [← List.drop_drop, hd]; rfl
        have e1 : (x :: rest).dropWhile set.contains = rest.dropWhile set.contains := by rw [List.dropWhile_cons_of_pos hb]
        rw [e1] at hx hr
        refine ih (pos + 1) _ σ' hrest ?_ (by simp [put, h0']) (by simp [put, h1']) (by simp [put, h11']) hx hr
        rw [hv' k (by omega), hd2]
        simp only [getV, nvs, St.pushV, St.setV] at *
        rw [List.getElem?_append_left (by simpa using hlt)]
        exact List.getElem?_set_self hlt
theorem cutLeft_c (s set : List UInt8) (hs : s.length < 9223372036854775808) (ha : ∀ b ∈ set, b.toNat < 128) (h : K (.str (s.dropWhile set.contains)) σ) : ACalls Tryd.prog (gD m) 66 [.str s, .str set] σ K := by
  refine (ACalls.frame gD_data (.cons _ _ (.str _) (.cons _ _ (.str _) .nil)) (Q := fun r => r = .str (s.dropWhile set.contains)) ?_ σ).mono (fun r σ' hr => by rw [hr.1, hr.2]; exact h)
  refine ACalls_fn tok fm (fk66 _) ?_
  simp only [c66, walkAll, walkL, E, Nat.reduceEqDiff, ↓reduceIte]
  refine outer66 0 s set hs ha s 0 _ _ rfl (by simp [getV]) (by simp [put, E]) (by simp [put, E]) (by simp [put, E]) (fun e' σ' he => ?_) (fun e' σ' he => ?_)
  · simp only [walkAll, walkL, Nat.reduceEqDiff, ↓reduceIte]
    exact ⟨.str _, by rw [he]⟩
  · simp only [walkAll, walkL, he, Nat.reduceEqDiff, ↓reduceIte]
    exact .str _
end
end Go.Ab.Sd
