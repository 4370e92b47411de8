/- Part of this work: see the text that closes the claim. -/
import Derived.Test.YtpejbkckppnamaaDoorSdLib
set_option linter.all false
set_option linter.unusedVariables false
set_option linter.unusedSimpArgs false
namespace Go.Ab.Sd
open Go Go.Ab Go.Proofs Go.RowKit
set_option maxRecDepth 20000
set_option linter.unusedSimpArgs false
section
variable {m : Int} {σ : St} {K : AV → St → Prop}
theorem contains_c (b : Nat) (x : UInt8) (ty : TypeId) (l : List AV) (v : Bool) (hv : getV σ b = some (.cells ty l)) (hl : l.length = 256) (hx : l[x.toNat]? = some (.bool v)) (h : K (.bool v) σ) :
    ACalls Tryd.prog (gD m) 61 [.vp b 0, .int .u8 x.toNat] σ K := by
  refine ACalls_fn tok fm (fk61 _) ?_
  have h256 : x.toNat < 256 := x.toNat_lt
  have e : List.take 1 (l.drop x.toNat) = [.bool v] := by
    rw [List.drop_eq_getElem_cons (by omega)]
    have := (List.getElem?_eq_some_iff.1 hx).2
    simp [this]
  simp only [c61, walkAll, walkL, E, hv, nilA, ixaX, Nat.reduceEqDiff, Nat.reduceAdd, ↓reduceIte, hl, Nat.zero_add, Nat.mul_one, e]
  exact ⟨⟨by omega, by omega⟩, by omega, h⟩
theorem trim_loop (b : Nat) (ty : TypeId) (l : List AV) (p : UInt8 → Bool) (hv : getV σ b = some (.cells ty l)) (hl : l.length = 256) (hp : ∀ x : UInt8, l[x.toNat]? = some (.bool (p x))) {Q : EQ} :
    ∀ (s : List UInt8) (e : Env), s.length < 9223372036854775808 → e 0 = some (.str s) → e 1 = some (.vp b 0) → (∀ e', e' 0 = some (.str (s.dropWhile p)) → Q (.exit 0) e' σ) → LoopC Tryd.prog tt (gD m) l54_0 Q e σ := by
  intro s
  induction s with
  | nil =>
    intro e hs h0 h1 hq
    refine LoopC_unfold tok fm ?_
    simp only [l54_0x, l54_0b, walkAll, walkL, h0, Nat.reduceEqDiff, ↓reduceIte, Int.natCast_zero, Int.lt_irrefl, decide_false, gt_iff_lt]
    exact hq _ (by simp [put, h0])
  | cons x s ih =>
    intro e hs h0 h1 hq
    refine LoopC_unfold tok fm ?_
    have d : decide ((0 : Int) < ((s.length + 1 : Nat) : Int)) = true := by simp
    simp only [l54_0x, l54_0b, walkAll, walkL, h0, h1, d, Nat.reduceEqDiff, ↓reduceIte, Int.le_refl, Int.toNat_zero]
    refine contains_c b x ty l (p x) hv hl (hp x) ?_
    simp only [walkAll, walkL, h0, h1, Nat.reduceEqDiff, ↓reduceIte]
    refine brC_split (fun hb => ?_) (fun hb => ?_)
    · simp only [Bool.not_eq_true'] at hb
      simp only [walkAll, walkL, h0, h1, Nat.reduceEqDiff, ↓reduceIte]
      exact hq _ (by simp [put, h0, List.dropWhile, hb])
    · simp only [Bool.not_eq_false'] at hb
      simp (disch := omega) only [walkAll, walkL, h0, h1, Nat.reduceEqDiff, ↓reduceIte]
      refine ih _ (by simp at hs; omega) (by simp [put]) (by simp [put, h1]) (fun e' he' => hq e' ?_)
      rw [he', List.dropWhile_cons_of_pos hb]
theorem trimASCII_c (b : Nat) (ty : TypeId) (l : List AV) (p : UInt8 → Bool) (s : List UInt8) (hv : getV σ b = some (.cells ty l)) (hl : l.length = 256) (hp : ∀ x : UInt8, l[x.toNat]? = some (.bool (p x))) (hs : s.length < 9223372036854775808)
    (h : K (.str (s.dropWhile p)) σ) : ACalls Tryd.prog (gD m) 54 [.str s, .vp b 0] σ K := by
  refine ACalls_fn tok fm (fk54 _) ?_
  simp only [c54, walkAll, walkL, E, Nat.reduceEqDiff, ↓reduceIte]
  refine trim_loop b ty l p hv hl hp s _ hs (by simp [put, E]) (by simp [put, E]) (fun e' he' => ?_)
  simp only [walkAll, walkL, he', Nat.reduceEqDiff, ↓reduceIte]
  exact h
theorem zero88 (w : World) : (zeroValue 88).run Tryd.prog w = .ok (.agg (Array.replicate 256 (.bool false))) w := by kernel_rfl
def setL256 (chars : List UInt8) : List AV := (List.range 256).map fun j => .bool (chars.contains (UInt8.ofNat j))
theorem setL256_at (chars : List UInt8) (x : UInt8) : (setL256 chars)[x.toNat]? = some (.bool (chars.contains x)) := by
  have h := x.toNat_lt
  simp only [setL256, List.getElem?_map]
  rw [List.getElem?_range (by omega)]
  simp
theorem setL256_len (chars : List UInt8) : (setL256 chars).length = 256 := by simp [setL256]
theorem RepL.bools {C : Cz} {α : Type} (f : α → Bool) : ∀ (l : List α), RepL C (l.map fun j => .bool (f j)) (l.map fun j => .bool (f j))
  | [] => .nil
  | a :: l => .cons _ _ _ _ (.bool _) (RepL.bools f l)
theorem makeASCIISet_c (s : List UInt8) (hs : s.length < 4294967281) (ha : ∀ b ∈ s, b.toNat < 128) (h : K (.tup [.agg (setL256 s), .bool true]) σ) : ACalls Tryd.prog (gD m) 53 [.str s] σ K :=
  ACalls.of_calls Tryd.func53 rfl (by decide) (fun C w vs _ _ h => by
    rw [h.s_inv]
    refine (Tryd.strings_makeASCIISet zero88 ⟨s.toArray⟩ w (by rw [str_size]; exact hs) (fun j b e => ha b (List.mem_of_getElem? e))).mono ?_
    rintro e w' ⟨he, hw⟩
    refine ⟨_, he, .tup _ _ (.cons _ _ _ _ ?_ (.cons _ _ _ _ (.bool _) .nil)), ?_⟩
    · have e : Lib.setCells s = ((List.range 256).map fun j => Value.bool (s.contains (UInt8.ofNat j))).toArray := by
        rw [Lib.setCells_eq]; apply Array.ext'; simp
      show Rep C _ (.agg (Lib.setCells s))
      rw [e]
      exact .agg _ _ (RepL.bools (C := C) (fun j => s.contains (UInt8.ofNat j)) (List.range 256))
    · rw [hw]; exact (Below.refl _ _).alloc (Nat.le_refl _) _) h
theorem DataL.ints {k : IntKind} {α : Type} (f : α → Int) : ∀ l : List α, DataL (l.map fun a => .int k (f a))
  | [] => .nil
  | _ :: l => .cons _ _ (.int _ _) (DataL.ints f l)
theorem gD_data (g : Nat) (cs : List AV) (h : gD m g = some cs) : DataL cs := by
  simp only [gD] at h
  split at h
  · cases h; exact DataL.ints _ _
  · split at h
    · cases h
      refine DataL.of_mem (fun c hc => ?_)
      simp only [accL, List.mem_flatMap] at hc
      obtain ⟨i, _, hc⟩ := hc
      simp only [List.mem_cons, List.not_mem_nil, or_false] at hc
      rcases hc with rfl | rfl <;> exact .int _ _
    · split at h
      · cases h; exact .cons _ _ (.int _ _) .nil
      · cases h
theorem setL_all {cs : List AV} : ∀ {l : List AV}, cs.length = l.length → setL l 0 cs = cs := by
  have key : ∀ (cs l : List AV) (o : Nat), o + cs.length = l.length → setL l o cs = l.take o ++ cs := by
    intro cs
    induction cs with
    | nil => intro l o h; simp at h; simp [setL, h]
    | cons c cs ih =>
      intro l o h
      simp only [List.length_cons] at h
      rw [setL, ih _ _ (by simp; omega)]
      rw [List.set_eq_take_append_cons_drop, if_pos (by omega)]
      simp [List.take_append, show o ≤ l.length by omega, show o + 1 - o = 1 by omega, List.take_take]
  intro l h
  simpa using key cs l 0 (by omega)
theorem TrimLeft_c (s set : List UInt8) (hs : s.length < 9223372036854775808) (h2 : 2 ≤ set.length) (h3 : set.length < 4294967281) (ha : ∀ b ∈ set, b.toNat < 128) (h : K (.str (s.dropWhile set.contains)) σ) :
    ACalls Tryd.prog (gD m) 43 [.str s, .str set] σ K := by
  refine (ACalls.frame gD_data (.cons _ _ (.str _) (.cons _ _ (.str _) .nil)) (Q := fun r => r = .str (s.dropWhile set.contains)) ?_ σ).mono (fun r σ' hr => by rw [hr.1, hr.2]; exact h)
  refine ACalls_fn tok fm (fk43 _) ?_
  have hne : (set == []) = false := by cases set with
    | nil => simp at h2
    | cons a l => rfl
  have h1 : ((set.length : Int) == 1) = false := by simp; omega
  have ho : onesN 256 (setL256 set) = true := by
    rw [onesN_eq]
    exact ⟨setL256_len _, by simp [setL256, AV.one]⟩
  have hl : setL (List.replicate 256 (AV.bool false)) 0 (setL256 set) = setL256 set := setL_all (by rw [setL256_len]; simp)
  have hle : (0 + (setL256 set).length ≤ (List.replicate 256 (AV.bool false)).length) = True := by rw [setL256_len]; simp
  simp only [c43, walkAll, walkL, E, hne, h1, Nat.reduceEqDiff, ↓reduceIte]
  refine brG_split (fun hb => ?_) (fun hb => ?_)
  · simp only [Bool.not_eq_true'] at hb
    simp only [walkAll, walkL, E, hne, h1, hb, Nat.reduceEqDiff, ↓reduceIte]
    refine makeASCIISet_c set h3 ha ?_
    simp only [walkAll, walkL, E, hne, h1, hb, ho, hl, hle, Nat.reduceEqDiff, ↓reduceIte]
    refine trimASCII_c 0 88 (setL256 set) set.contains s ?_ (setL256_len _) (setL256_at set) hs ?_
    · simp only [walkAll, walkL]
    · simp only [walkAll, walkL, E, Nat.reduceEqDiff, ↓reduceIte]
      exact .str _
  · simp only [Bool.not_eq_false'] at hb
    simp only [walkAll, walkL, E, hne, h1, hb, Nat.reduceEqDiff, ↓reduceIte]
    have : s = [] := by simpa using hb
    subst this
    exact ⟨.str _, rfl⟩
end
end Go.Ab.Sd
