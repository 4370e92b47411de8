/-
  The abstract machine of this work, part 6: slices of texts and slices; structs and literals that are built.
-/
import Derived.Test.YtpejbkckppnamaaDoorAbPure3
set_option linter.all false
set_option linter.unusedVariables false
set_option linter.unusedSimpArgs false
namespace Go.Ab
open Go Go.RowKit

section
variable {P : Program} {C : Cz} {σ : St} {w : World} {T : TT}
inductive RepO (C : Cz) : Option AV → Option Value → Prop
  | none : RepO C none none
  | some (c : AV) (v : Value) (h : Rep C c v) : RepO C (some c) (some v)
theorem bnd_sound {x : Option AV} {X : Option Value} (hx : RepO C x X) {top dflt n : Nat} (h : bnd x top dflt = some n) :
    (X = none ∧ n = dflt) ∨ (∃ k i, X = some (.int k i) ∧ 0 ≤ i ∧ i ≤ (top : Int) ∧ n = i.toNat) := by
  cases hx with
  | none => cases h; exact .inl ⟨rfl, rfl⟩
  | some c v hr =>
    unfold bnd at h
    split at h
    · rename_i e; cases e
    · rename_i k i e
      cases e
      split at h
      · rename_i hb; cases h; cases hr; exact .inr ⟨_, _, rfl, hb.1, hb.2, rfl⟩
      · cases h
    · cases h
theorem sliceBound_run {k : IntKind} {i : Int} {y : Nat} {code : BoundsCode} (h : 0 ≤ i ∧ i ≤ (y : Int)) : (Instr.sliceBound (.int k i) y code).run P w = .ok i.toNat w := by
  unfold Instr.sliceBound
  simp only [Sem.run_bind, asIntOf_int, Result.andThen_ok, if_pos h, Sem.run_pure]
/-- The bounds of a slice without a third index. -/
theorem sliceBounds_run {isS : Bool} {len cap : Nat} {lo hi : Option AV} {LO HI : Option Value} (hlo : RepO C lo LO) (hhi : RepO C hi HI) {h l : Nat} (hh : bnd hi len len = some h) (hl : bnd lo h 0 = some l) (hc : len ≤ cap) :
    (Instr.sliceBounds isS len cap LO HI none).run P w = .ok (l, h, cap) w ∧ l ≤ h ∧ h ≤ len := by
  have h1 : h ≤ len := by
    rcases bnd_sound hhi hh with ⟨_, rfl⟩ | ⟨k, i, _, _, _, rfl⟩ <;> omega
  have h2 : l ≤ h := by
    rcases bnd_sound hlo hl with ⟨_, rfl⟩ | ⟨k, i, _, _, _, rfl⟩ <;> omega
  refine ⟨?_, h2, h1⟩
  unfold Instr.sliceBounds
  rcases bnd_sound hhi hh with ⟨rfl, rfl⟩ | ⟨k, i, rfl, a1, a2, rfl⟩ <;> rcases bnd_sound hlo hl with ⟨rfl, rfl⟩ | ⟨k', i', rfl, b1, b2, rfl⟩
  · simp only [Sem.run_bind, Sem.run_pure, Result.andThen_ok]
  · simp only [Sem.run_bind, Sem.run_pure, Result.andThen_ok, sliceBound_run (⟨b1, b2⟩ : 0 ≤ i' ∧ i' ≤ _)]
  · have a3 : 0 ≤ i ∧ i ≤ (cap : Int) := ⟨a1, by omega⟩
    simp only [Sem.run_bind, Sem.run_pure, Result.andThen_ok, sliceBound_run a3]
  · have a3 : 0 ≤ i ∧ i ≤ (cap : Int) := ⟨a1, by omega⟩
    simp only [Sem.run_bind, Sem.run_pure, Result.andThen_ok, sliceBound_run a3, sliceBound_run (⟨b1, b2⟩ : 0 ≤ i' ∧ i' ≤ _)]
/-- The bounds with a third index of nought. -/
theorem sliceBounds_zero {isS : Bool} {len cap : Nat} {lo hi : Option AV} {LO HI : Option Value} {k : IntKind} (hlo : RepO C lo LO) (hhi : RepO C hi HI) (hh : bnd hi 0 0 = some 0) (hl : bnd lo 0 0 = some 0) (hs : hi.isSome = true) :
    (Instr.sliceBounds isS len cap LO HI (some (.int k 0))).run P w = .ok (0, 0, 0) w := by
  unfold Instr.sliceBounds
  have z : ∀ c : BoundsCode, (Instr.sliceBound (.int k 0) cap c).run P w = .ok 0 w := fun c => sliceBound_run (i := 0) ⟨by omega, by omega⟩
  rcases bnd_sound hhi hh with ⟨rfl, _⟩ | ⟨k1, i, rfl, a1, a2, a3⟩
  · cases hhi; cases hs
  · have zi : ∀ c : BoundsCode, (Instr.sliceBound (.int k1 i) 0 c).run P w = .ok i.toNat w := fun c => sliceBound_run ⟨a1, a2⟩
    rw [← a3] at zi
    rcases bnd_sound hlo hl with ⟨rfl, _⟩ | ⟨k', i', rfl, b1, b2, b3⟩
    · simp only [Sem.run_bind, Sem.run_pure, Result.andThen_ok, z, zi]
    · have zl : ∀ c : BoundsCode, (Instr.sliceBound (.int k' i') 0 c).run P w = .ok i'.toNat w := fun c => sliceBound_run ⟨b1, b2⟩
      rw [← b3] at zl
      simp only [Sem.run_bind, Sem.run_pure, Result.andThen_ok, z, zi, zl]

theorem str_extract (s : List UInt8) (l h : Nat) : (⟨s.toArray⟩ : ByteArray).extract l h = ⟨((s.drop l).take (h - l)).toArray⟩ := by
  apply ByteArray.ext
  rw [ByteArray.data_extract]
  simp

theorem sliceAt_eq {xt : TypeId} {d : TypeDesc} (hd : P.underlying xt = some d) (hn : ∀ n e, d ≠ .array n e) (X : Value) (LO HI MX : Option Value) :
    (Instr.sliceAt xt X LO HI MX).run P w = (Instr.slice xt X LO HI MX).run P w := by
  unfold Instr.sliceAt
  rw [Sem.run_bind, run_underlying hd, Result.andThen_ok]
  cases d <;> first | rfl | exact absurd rfl (hn _ _)

theorem sliceA_sound (hT : TOK P T) {xt : TypeId} {x r : AV} {lo hi mx : Option AV} {X : Value} {LO HI MX : Option Value} (h0 : HRel C σ w) (hlv : ∀ rr off n, x = .os rr off n → σ.live rr) (hx : Rep C x X) (hlo : RepO C lo LO) (hhi : RepO C hi HI) (hmx : RepO C mx MX)
    (h : sliceA T xt x lo hi mx = some r) : Yields P C w (Instr.sliceAt xt X LO HI MX) r := by
  unfold sliceA at h
  split at h
  · rename_i hk
    obtain ⟨_, d, _, _, _, hd, hok⟩ := kdOf_ok hT hk
    simp only [Kd.ok] at hok; subst hok
    split at h
    · rename_i s
      split at h
      · rename_i hN hh
        split at h
        · rename_i lN hl
          cases h; cases hx; cases hmx
          obtain ⟨hrun, h1, h2⟩ := sliceBounds_run (P := P) (w := w) (isS := false) hlo hhi hh hl (Nat.le_refl _)
          refine ⟨_, ?_, .str _⟩
          rw [sliceAt_eq hd (by simp)]
          unfold Instr.slice
          rw [Sem.run_bind, run_underlying hd, Result.andThen_ok]
          simp only [Option.isSome_none, Bool.false_eq_true, if_false, str_size]
          simp only [Sem.run_bind, hrun, Result.andThen_ok, Sem.run_pure, str_extract]
        · cases h
      · cases h
    · cases h
  · rename_i e hk
    obtain ⟨_, d, _, _, _, hd, hok⟩ := kdOf_ok hT hk
    simp only [Kd.ok] at hok; subst hok
    rw [Yields, sliceAt_eq hd (by simp)]
    have run : ∀ (a : Option Addr) (n cap l h m z : Nat), szOf T e = some z → (Instr.sliceBounds true n cap LO HI MX).run P w = .ok (l, h, m) w →
        (Instr.slice xt (.slice a n cap) LO HI MX).run P w = .ok (.slice (if m = l then a else a.map (·.add (l * z))) (h - l) (m - l)) w := by
      intro a n cap l h m z hz hb
      obtain ⟨ti, hti, hsz, ok⟩ := szOf_ok hT hz
      unfold Instr.slice
      rw [Sem.run_bind, run_underlying hd, Result.andThen_ok]
      simp only [Sem.run_bind, hb, Result.andThen_ok, ok.sizeOf w, hsz, Sem.run_pure]
    split at h
    · rename_i z els hz
      split at h
      · rename_i hN hh
        split at h
        · rename_i lN hl
          split at h
          · rename_i hall
            cases h; cases hmx
            have hall' : ∀ c ∈ els, c.length = z := fun c hc => by simpa using List.all_eq_true.1 hall c hc
            cases hx with
            | sl0 a cap =>
              obtain ⟨hrun, h1, h2⟩ := sliceBounds_run (P := P) (w := w) (isS := true) (cap := cap) hlo hhi hh hl (Nat.zero_le _)
              have := run a 0 cap lN hN cap z hz hrun
              simp at h2; subst h2
              simp at h1; subst h1
              exact ⟨_, this, by simpa using Rep.sl0 _ _⟩
            | sl _ z' vs b o cap hz' hcap hr hm =>
              obtain ⟨hrun, h1, h2⟩ := sliceBounds_run (P := P) (w := w) (isS := true) (cap := cap) hlo hhi hh hl hcap
              refine ⟨_, run _ _ cap lN hN cap z hz hrun, ?_⟩
              by_cases hcl : cap = lN
              · rw [if_pos hcl]
                have e1 : hN = lN := by omega
                subst e1
                simpa using Rep.sl0 _ _
              · rw [if_neg hcl]
                have hlen : ((els.drop lN).take (hN - lN)).length = hN - lN := by simp; omega
                have hrep := (hr.drop (lN * z)).take ((hN - lN) * z)
                rw [flat_drop lN hall', flat_take (hN - lN) (fun c hc => hall' c (mem_drop' hc))] at hrep
                have := Rep.sl ((els.drop lN).take (hN - lN)) z _ b (o + lN * z) (cap - lN) (fun c hc => hall' c (mem_drop' (mem_take' hc))) (by rw [hlen]; omega) hrep (fun j v hj => by
                  have := take_drop_get hj
                  rw [Nat.add_assoc]; exact hm _ v this)
                rw [hlen] at this
                simpa [Addr.add_mid] using this
          · cases h
        · cases h
      · cases h
    · rename_i z els k hz
      split at h
      · rename_i hh hlz
        split at h
        · rename_i hsome
          cases h
          obtain ⟨V, rfl, hV⟩ : ∃ V, MX = some V ∧ Rep C (.int k 0) V := by cases hmx with | some _ v h => exact ⟨v, rfl, h⟩
          cases hV
          have hb : ∀ n cap, (Instr.sliceBounds true n cap LO HI (some (.int k 0))).run P w = .ok (0, 0, 0) w := fun n cap => sliceBounds_zero hlo hhi hh hlz hsome
          cases hx with
          | sl0 a cap => exact ⟨_, run a 0 cap 0 0 0 z hz (hb _ _), by simpa using Rep.ez _⟩
          | sl _ z' vs b o cap hz' hcap hr hm => exact ⟨_, run _ _ cap 0 0 0 z hz (hb _ _), by simpa using Rep.ez _⟩
        · cases h
      · cases h
    · rename_i z rr off n hz
      split at h
      · rename_i hN hh hlz
        cases h; cases hmx
        cases hx with
        | os _ _ _ a cap hr hv =>
          obtain ⟨row, hrow⟩ := hlv rr off n rfl
          obtain ⟨hlive, _⟩ := h0.row rr row hrow
          obtain ⟨rfl, h2, h3⟩ := hv hlive
          have hl0 : bnd lo hN 0 = some 0 := by
            rcases bnd_sound hlo hlz with ⟨rfl, _⟩ | ⟨k, i, rfl, b1, b2, b3⟩
            · cases hlo; rfl
            · cases hlo with
              | some c v hc =>
                cases hc
                show (if 0 ≤ i ∧ i ≤ (hN : Int) then some i.toNat else none) = some 0
                rw [if_pos ⟨b1, by omega⟩, ← b3]
          obtain ⟨hrun, h4, h5⟩ := sliceBounds_run (P := P) (w := w) (isS := true) (cap := cap) hlo hhi hh hl0 h3
          refine ⟨_, run _ _ cap 0 hN cap z hz hrun, ?_⟩
          have := Rep.os (C := C) rr off hN (some ⟨(C.row rr).blk, (C.row rr).base + off * (C.row rr).esz, none⟩) cap hr (fun _ => ⟨rfl, h2, by omega⟩)
          by_cases hc0 : cap = 0
          · rw [if_pos hc0]; simpa using this
          · rw [if_neg hc0]; simpa [Addr.add_mid] using this
      · cases h
    · rename_i z hz
      split at h
      · rename_i hh hlz hmz
        split at h
        · cases h
        · rename_i hc
          cases h; cases hx
          refine ⟨_, ?_, .nils⟩
          cases hmx with
          | none =>
            obtain ⟨hrun, _, _⟩ := sliceBounds_run (P := P) (w := w) (isS := true) (cap := 0) hlo hhi hh hlz (Nat.le_refl _)
            have := run none 0 0 0 0 0 z hz hrun
            simpa using this
          | some c v hcv =>
            have hs : hi.isSome = true := by
              cases hi with
              | none => simp at hc
              | some _ => rfl
            obtain ⟨k, hk0, hv0⟩ : ∃ k, c = .int k 0 ∧ v = .int k 0 := by
              unfold bnd at hmz
              split at hmz
              · rename_i e; cases e
              · rename_i k i e
                cases e
                split at hmz
                · rename_i hb
                  have : i = 0 := by omega
                  subst this
                  cases hcv
                  exact ⟨_, rfl, rfl⟩
                · cases hmz
              · cases hmz
            subst hv0
            have := run none 0 0 0 0 0 z hz (sliceBounds_zero hlo hhi hh hlz hs)
            simpa using this
      · cases h
    · cases h
  · cases h
end
end Go.Ab
