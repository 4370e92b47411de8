/- Part of this work: see the text that closes the claim. -/
import Derived.Test.YtpejbkckppnamaaDoorSdTok2
set_option linter.all false
set_option linter.unusedVariables false
set_option linter.unusedSimpArgs false
namespace Go.Ab.Sd
open Go Go.Ab Go.Proofs Go.RowKit
set_option maxRecDepth 40000
set_option linter.unusedSimpArgs false
section
variable {m : Int} {σ : St} {K : AV → St → Prop}
theorem drop_cons {α : Type} {l : List α} {i : Nat} {c : α} {r : List α} (h : l.drop i = c :: r) : l[i]? = some c ∧ l.drop (i + 1) = r := by
  constructor
  · have := congrArg (fun x => x[0]?) h
    simpa using this
  · rw [← List.drop_drop, h]; rfl
theorem idxF_loop (v : AV) (l : List (List AV)) (g : Nat) (cap : List AV) (p : List AV → Bool) (hR : Rd 2 σ v l) (hl : l.length < 9223372036854775807) (hp : ∀ c ∈ l, ∀ K : AV → St → Prop, K (.bool (p c)) σ → ACalls Tryd.prog (gD m) g (.agg c :: cap) σ K) {Q : EQ} :
    ∀ (rest : List (List AV)) (i : Nat) (e : Env), l.drop i = rest → e 8 = some (.int .i64 i) → e 7 = some (.int .i64 l.length) → e 0 = some v → e 1 = some (.fn (.func g) [] cap) →
    (rest.any p = false → ∀ e', Q (.exit 0) e' σ) → (rest.any p = true → ∀ e' (j : Int), 0 ≤ j → e' 4 = some (.int .i64 j) → Q .ret e' σ) →
    LoopC Tryd.prog tt (gD m) l45_0 Q e σ := by
  intro rest
  induction rest with
  | nil =>
    intro i e hd h8 h7 h0 h1 hx hr
    have hi : l.length ≤ i := by simpa using hd
    refine LoopC_unfold tok fm ?_
    have hb : decide ((i : Int) < (l.length : Int)) = false := by simp; omega
    simp (disch := first | omega | (simp only [nvsR]; first | done | omega)) only [walkAll, walkL, walkK, E, Nat.reduceEqDiff, Nat.reduceAdd, Nat.reduceSub, Nat.reduceLeDiff, Nat.le_refl, Nat.zero_lt_one, Int.cast_ofNat_Int, Int.reduceLT, Int.reduceLE, Int.reduceAdd, Int.reduceSub, Int.reduceToNat, Int.toNat_natCast, decide_true, decide_false, wrap_i64, wrap_i32, wrap_u8, wrap_u32, wrap_u64, and_true, true_and, ↓reduceIte, l45_0x, l45_0b, h8, h7, hb]
    exact hx rfl _
  | cons c rest ih =>
    intro i e hd h8 h7 h0 h1 hx hr
    obtain ⟨hc, hd'⟩ := drop_cons hd
    have hi := (List.getElem?_eq_some_iff.1 hc).1
    obtain ⟨q, hq, hpt⟩ := hR.at hc .i64
    have hcl := hR.1 c (List.mem_of_getElem? hc)
    have hld := hpt.all hcl
    refine LoopC_unfold tok fm ?_
    have hb : decide ((i : Int) < (l.length : Int)) = true := by simp; omega
    simp (disch := first | omega | (simp only [nvsR]; first | done | omega)) only [walkAll, walkL, walkK, E, Nat.reduceEqDiff, Nat.reduceAdd, Nat.reduceSub, Nat.reduceLeDiff, Nat.le_refl, Nat.zero_lt_one, Int.cast_ofNat_Int, Int.reduceLT, Int.reduceLE, Int.reduceAdd, Int.reduceSub, Int.reduceToNat, Int.toNat_natCast, decide_true, decide_false, wrap_i64, wrap_i32, wrap_u8, wrap_u32, wrap_u64, and_true, true_and, ↓reduceIte, l45_0x, l45_0b, h8, h7, h0, h1, hb, hq, hld]
    refine hp c (List.mem_of_getElem? hc) _ ?_
    cases hpc : p c with
    | true =>
      simp (disch := first | omega | (simp only [nvsR]; first | done | omega)) only [walkAll, walkL, walkK, E, Nat.reduceEqDiff, Nat.reduceAdd, Nat.reduceSub, Nat.reduceLeDiff, Nat.le_refl, Nat.zero_lt_one, Int.cast_ofNat_Int, Int.reduceLT, Int.reduceLE, Int.reduceAdd, Int.reduceSub, Int.reduceToNat, Int.toNat_natCast, decide_true, decide_false, wrap_i64, wrap_i32, wrap_u8, wrap_u32, wrap_u64, and_true, true_and, ↓reduceIte]
      exact hr (by simp [hpc]) _ i (by omega) (by simp [put])
    | false =>
      simp (disch := first | omega | (simp only [nvsR]; first | done | omega)) only [walkAll, walkL, walkK, E, Nat.reduceEqDiff, Nat.reduceAdd, Nat.reduceSub, Nat.reduceLeDiff, Nat.le_refl, Nat.zero_lt_one, Int.cast_ofNat_Int, Int.reduceLT, Int.reduceLE, Int.reduceAdd, Int.reduceSub, Int.reduceToNat, Int.toNat_natCast, decide_true, decide_false, wrap_i64, wrap_i32, wrap_u8, wrap_u32, wrap_u64, and_true, true_and, ↓reduceIte, h8]
      refine ih (i + 1) _ hd' (by simp [put]) (by simp [put, h7]) (by simp [put, h0]) (by simp [put, h1]) (fun h => hx (by simp [hpc, h])) (fun h => hr (by simp [hpc, h]))
theorem ContainsFunc_c (v : AV) (l : List (List AV)) (g : Nat) (cap : List AV) (p : List AV → Bool) (hR : Rd 2 σ v l) (hl : l.length < 9223372036854775807) (hp : ∀ c ∈ l, ∀ K : AV → St → Prop, K (.bool (p c)) σ → ACalls Tryd.prog (gD m) g (.agg c :: cap) σ K)
    (h : K (.bool (l.any p)) σ) : ACalls Tryd.prog (gD m) 37 [v, .fn (.func g) [] cap] σ K := by
  refine ACalls_fn tok fm (fk37 _) ?_
  simp (disch := first | omega | (simp only [nvsR]; first | done | omega)) only [walkAll, walkL, walkK, E, Nat.reduceEqDiff, Nat.reduceAdd, Nat.reduceSub, Nat.reduceLeDiff, Nat.le_refl, Nat.zero_lt_one, Int.cast_ofNat_Int, Int.reduceLT, Int.reduceLE, Int.reduceAdd, Int.reduceSub, Int.reduceToNat, Int.toNat_natCast, decide_true, decide_false, wrap_i64, wrap_i32, wrap_u8, wrap_u32, wrap_u64, and_true, true_and, ↓reduceIte, c37]
  refine ACalls_fn tok fm (fk45 _) ?_
  simp (disch := first | omega | (simp only [nvsR]; first | done | omega)) only [walkAll, walkL, walkK, E, Nat.reduceEqDiff, Nat.reduceAdd, Nat.reduceSub, Nat.reduceLeDiff, Nat.le_refl, Nat.zero_lt_one, Int.cast_ofNat_Int, Int.reduceLT, Int.reduceLE, Int.reduceAdd, Int.reduceSub, Int.reduceToNat, Int.toNat_natCast, decide_true, decide_false, wrap_i64, wrap_i32, wrap_u8, wrap_u32, wrap_u64, and_true, true_and, ↓reduceIte, c45, hR.len]
  refine idxF_loop v l g cap p hR hl hp l 0 _ rfl (by simp [put]) (by simp [put]) (by simp [put, E]) (by simp [put, E]) (fun ha e' => ?_) (fun ha e' j hj h4 => ?_)
  · simp (disch := first | omega | (simp only [nvsR]; first | done | omega)) only [walkAll, walkL, walkK, E, Nat.reduceEqDiff, Nat.reduceAdd, Nat.reduceSub, Nat.reduceLeDiff, Nat.le_refl, Nat.zero_lt_one, Int.cast_ofNat_Int, Int.reduceLT, Int.reduceLE, Int.reduceAdd, Int.reduceSub, Int.reduceToNat, Int.toNat_natCast, decide_true, decide_false, wrap_i64, wrap_i32, wrap_u8, wrap_u32, wrap_u64, and_true, true_and, ↓reduceIte]
    rw [ha] at h
    exact h
  · have hb : decide (0 ≤ j) = true := by simpa using hj
    simp (disch := first | omega | (simp only [nvsR]; first | done | omega)) only [walkAll, walkL, walkK, E, Nat.reduceEqDiff, Nat.reduceAdd, Nat.reduceSub, Nat.reduceLeDiff, Nat.le_refl, Nat.zero_lt_one, Int.cast_ofNat_Int, Int.reduceLT, Int.reduceLE, Int.reduceAdd, Int.reduceSub, Int.reduceToNat, Int.toNat_natCast, decide_true, decide_false, wrap_i64, wrap_i32, wrap_u8, wrap_u32, wrap_u64, and_true, true_and, ↓reduceIte, h4, hb]
    rw [ha] at h
    exact h
def atc (a : List UInt8 × List UInt8) : List AV := [.str a.1, .str a.2]
theorem open1_c (j : Nat) (x : List UInt8 × List UInt8) (n v : List UInt8) (ty : TypeId) (hv : getV σ j = some (.cells ty [.str n, .str v])) (h : K (.bool (x.1 == n)) σ) :
    ACalls Tryd.prog (gD m) 38 [.agg (atc x), .vp j 0] σ K := by
  refine ACalls.close σ _ (.refl σ) (by simp only [dataR]) ?_ h
  have hlt := getV_lt hv
  refine ACalls_fn tok fm (fk38 _) ?_
  simp (disch := first | omega | (simp only [nvsR]; first | done | omega)) only [walkAll, walkL, walkK, E, Nat.reduceEqDiff, Nat.reduceAdd, Nat.reduceSub, Nat.reduceLeDiff, Nat.le_refl, Nat.zero_lt_one, Int.cast_ofNat_Int, Int.reduceLT, Int.reduceLE, Int.reduceAdd, Int.reduceSub, Int.reduceToNat, Int.toNat_natCast, decide_true, decide_false, wrap_i64, wrap_i32, wrap_u8, wrap_u32, wrap_u64, and_true, true_and, ↓reduceIte, c38, hv, atc]
  exact ⟨by repeat first | exact Grown.refl _ | assumption | apply Grown.pushV | apply Grown.pushR | (refine Grown.setV ?_ (by first | omega | (simp only [nvsR]; first | done | omega))) | (refine Grown.setOld ‹_› (by first | omega | (simp only [nvsR]; first | done | omega)) _) | (refine Grown.setOld0 ?_ (by first | omega | (simp only [nvsR]; first | done | omega)) _), .inl rfl⟩
/-- A token. -/
structure Tok where
  kind : Int
  name : List UInt8
  text : List UInt8
  attrs : List (List UInt8 × List UInt8)
  empty : Bool
  deriving DecidableEq
def Tok.c (t : Tok) : List AV := [.int .i64 t.kind, .str t.name, .str t.text, lsv (t.attrs.map atc), .bool t.empty]
theorem atc_data (l : List (List UInt8 × List UInt8)) : DataL (l.map atc).flatten := data_flat fun x _ => by simp only [atc, dataR]
theorem tok_data (t : Tok) : DataL t.c := by
  simp only [Tok.c, dataR]
  exact ⟨lsv_data (atc_data _), trivial⟩
theorem hasPrefix_len {s p : List UInt8} (h : Lib.hasPrefix s p = true) : (Lib.trimPrefix s p).length + p.length = s.length := by
  unfold Lib.trimPrefix
  rw [if_pos h]
  simp only [Lib.hasPrefix] at h
  have := List.IsPrefix.length_le (List.isPrefixOf_iff_prefix.1 h)
  simp; omega
theorem attrS_lt {s : List UInt8} (h : (attrS s).2.2.1 = true) : (attrS s).2.2.2.length < s.length := by
  unfold attrS at *
  split at h
  · cases h
  · split at h
    · cases h
    · rename_i h1 h2
      simp only [Bool.not_eq_true', Bool.not_eq_false] at h2
      rw [if_neg h1, if_neg (by simp [h2])]
      have := quotedS_len (attr4 s)
      have h3 := hasPrefix_len h2
      have h4 := dropWhile_len blanksL.contains (Lib.trimPrefix (attr2 s) [61])
      have h5 := attr2_len s
      simp only [attr4, List.length_singleton] at *
      omega
theorem attrS_len (s : List UInt8) : (attrS s).2.2.2.length ≤ s.length := by
  unfold attrS
  have h1 := attr2_len s
  have h2 := quotedS_len (attr4 s)
  have h3 := attr4_len s
  split
  · exact h1
  · split
    · exact h1
    · simp only; omega
/-- The rest of a beginning: its attributes, whether it is an empty one, whether it is one, and what is left. -/
def openL : Nat → List UInt8 → List (List UInt8 × List UInt8) → List (List UInt8 × List UInt8) × Bool × Bool × List UInt8
  | 0, s, al => (al, false, false, s)
  | n + 1, s, al =>
    if Lib.hasPrefix (s.dropWhile blanksL.contains) [62] then (al, false, true, Lib.trimPrefix (s.dropWhile blanksL.contains) [62])
    else if Lib.hasPrefix (s.dropWhile blanksL.contains) [47, 62] then (al, true, true, Lib.trimPrefix (s.dropWhile blanksL.contains) [47, 62])
    else if (s.takeWhile blanksL.contains == []) || !(attrS (s.dropWhile blanksL.contains)).2.2.1 || al.any (fun x => x.1 == (attrS (s.dropWhile blanksL.contains)).1) then (al, false, false, (attrS (s.dropWhile blanksL.contains)).2.2.2)
    else openL n (attrS (s.dropWhile blanksL.contains)).2.2.2 (al ++ [((attrS (s.dropWhile blanksL.contains)).1, (attrS (s.dropWhile blanksL.contains)).2.1)])
def openS (s : List UInt8) : Tok × Bool × List UInt8 :=
  if (nameS s).1 == [] then (⟨1, (nameS s).1, [], [], false⟩, false, (nameS s).2)
  else (⟨1, (nameS s).1, [], (openL ((nameS s).2.length + 1) (nameS s).2 []).1, (openL ((nameS s).2.length + 1) (nameS s).2 []).2.1⟩, (openL ((nameS s).2.length + 1) (nameS s).2 []).2.2.1, (openL ((nameS s).2.length + 1) (nameS s).2 []).2.2.2)
end
end Go.Ab.Sd
