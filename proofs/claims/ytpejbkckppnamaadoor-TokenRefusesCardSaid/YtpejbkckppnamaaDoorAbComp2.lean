/-
  The abstract machine of this work, part 13: the short form says what the code says.
-/
import Derived.Test.YtpejbkckppnamaaDoorAbComp
set_option linter.all false
set_option linter.unusedVariables false
set_option linter.unusedSimpArgs false
namespace Go.Ab
open Go Go.RowKit

section
variable {P : Program} {T : TT} {G : GT} {t : List AV} {σ : St}
theorem cV_ev {x : Operand} {c : XV} (h : cV G x = some c) : ev G t x = xv (E t) c := by
  cases x with
  | tmp n => cases h; rfl
  | const v =>
    simp only [cV] at h
    cases hq : ofV v with
    | none => rw [hq] at h; cases h
    | some d => rw [hq] at h; cases h; simp only [ev, hq, xv]
  | global g =>
    simp only [cV] at h
    cases hq : G g with
    | none => rw [hq] at h; cases h
    | some d => rw [hq] at h; cases h; simp only [ev, hq, xv, Option.map_some]
  | func f => cases h; rfl
theorem cVs_evs : ∀ {xs : List Operand} {cs : List XV}, cVs G xs = some cs → evs G t xs = xvs (E t) cs
  | [], cs, h => by cases h; rfl
  | x :: xs, cs, h => by
    simp only [cVs] at h
    split at h
    · rename_i c ds h1 h2
      cases h
      simp only [evs, xvs, cV_ev h1, cVs_evs h2]
      cases xv (E t) c <;> cases xvs (E t) ds <;> rfl
    · cases h
theorem cPs_evps : ∀ {xs : List (Nat × Operand)} {cs : List (Nat × XV)}, cPs G xs = some cs → evps G t xs = xps (E t) cs
  | [], cs, h => by cases h; rfl
  | (i, x) :: xs, cs, h => by
    simp only [cPs] at h
    split at h
    · rename_i c ds h1 h2
      cases h
      simp only [evps, xps, cV_ev h1, cPs_evps h2]
      cases xv (E t) c <;> cases xps (E t) ds <;> rfl
    · cases h
theorem cVo_evo {x : Option Operand} {c : Option XV} (h : cVo G x = some c) : evo G t x = xvo (E t) c := by
  cases x with
  | none => cases h; rfl
  | some x =>
    simp only [cVo] at h
    cases hq : cV G x with
    | none => rw [hq] at h; cases h
    | some d => rw [hq] at h; cases h; simp only [evo, xvo, cV_ev hq]

theorem partN_ld {ty : TypeId} {n : Option Nat} {p : AV} (h : partN T ty = some n) : loadA T σ ty p = ldX n σ p := by
  unfold partN at h
  unfold loadA ldX
  split at h
  · rename_i ti hti
    rw [hti]
    split at h <;> cases h <;> simp only [*] <;> simp
    rfl
  · cases h
theorem partN_part {ty : TypeId} {n : Option Nat} {cs : List AV} {off : Nat} (h : partN T ty = some n) : partA T ty cs off = partX n cs off := by
  unfold partN at h
  unfold partA partX
  split at h
  · rename_i ti hti
    rw [hti]
    split at h <;> cases h <;> simp only [*] <;> simp
  · cases h
theorem fill_placed {place : Nat → Option (Nat × Nat)} : ∀ {ps : List (Nat × XV)} {qs : List (Nat × Nat × XV)} {vs : List (Nat × AV)} {zero : List AV}, placed place ps = some qs → xps (E t) ps = some vs → fillA place zero vs = fillX (E t) zero qs
  | [], qs, vs, zero, h, hv => by cases h; cases hv; rfl
  | (i, x) :: ps, qs, vs, zero, h, hv => by
    simp only [placed] at h
    split at h
    · rename_i off z ds h1 h2
      cases h
      simp only [xps] at hv
      split at hv
      · rename_i c us h3 h4
        cases hv
        simp only [fillA, h1, fillX, h3]
        split
        · exact fill_placed h2 h4
        · rfl
      · cases hv
    · cases h
theorem fillX_xps : ∀ {place : Nat → Option (Nat × Nat)} {ps : List (Nat × XV)} {qs : List (Nat × Nat × XV)} {zero r : List AV}, placed place ps = some qs → fillX (E t) zero qs = some r → ∃ vs, xps (E t) ps = some vs
  | _, [], qs, zero, r, h, hv => ⟨[], rfl⟩
  | place, (i, x) :: ps, qs, zero, r, h, hv => by
    simp only [placed] at h
    split at h
    · rename_i off z ds h1 h2
      cases h
      simp only [fillX] at hv
      split at hv
      · rename_i c h3
        split at hv
        · obtain ⟨vs, hvs⟩ := fillX_xps h2 hv
          exact ⟨_, by simp only [xps, h3, hvs]; rfl⟩
        · cases hv
      · cases hv
    · cases h

theorem binA_binX {op : BinOp} {xt : TypeId} {ti : TI} {cx cy : Bool} {x y : AV} (h : T xt = some ti) : binA T op xt cx cy x y = binX op ti.kd (cx || cy) x y := by
  unfold binA binX
  rw [h]
  cases x <;> cases y <;> rfl
theorem map_some {α β : Type} {x : Option α} {f : α → β} {y : β} (h : x.map f = some y) : ∃ z, x = some z ∧ f z = y := by
  cases x with
  | none => cases h
  | some z => cases h; exact ⟨z, rfl, rfl⟩
theorem bind_some {α β : Type} {x : Option α} {f : α → Option β} {y : β} (h : x.bind f = some y) : ∃ z, x = some z ∧ f z = some y := by
  cases x with
  | none => cases h
  | some z => exact ⟨z, rfl, h⟩

theorem opP_of_xP {op : Op} {x : X} {r : AV} (h : cOp T G op = some x) (hr : xP (E t) σ x = some r) : opP T G t σ op = some r := by
  unfold cOp at h
  split at h
  · obtain ⟨_, _, rfl⟩ := map_some h; cases hr
  unfold cOp0 at h
  split at h
  case h_1 => -- move
    obtain ⟨c, hc, rfl⟩ := map_some h
    simp only [opP, cV_ev hc]; exact hr
  case h_2 =>
    obtain ⟨c, hc, rfl⟩ := map_some h
    simp only [opP, cV_ev hc]; exact hr
  case h_3 => -- pick
    split at h
    · rename_i h1 h2 h3
      cases h
      obtain ⟨v, hv, hr⟩ := bind_some hr
      simp only [opP, cV_ev h1, cV_ev h2, cV_ev h3, hv]
      split at hr
      · exact hr
      · exact hr
      · cases hr
    · cases h
  case h_4 => -- build
    split at h
    · rename_i ps hps
      split at h
      · rename_i ti hti
        split at h
        · rename_i fs hk
          split at h
          · rename_i pl hpl
            obtain ⟨qs, hq, rfl⟩ := map_some h
            obtain ⟨cs, hcs, rfl⟩ := map_some hr
            obtain ⟨vs, hvs⟩ := fillX_xps hq hcs
            simp only [opP, cPs_evps hps, hvs, buildA, hti, hk, hpl, fill_placed hq hvs, hcs, Option.map_some]
          · cases h
        · rename_i n e hk
          split at h
          · rename_i z hz
            obtain ⟨qs, hq, rfl⟩ := map_some h
            obtain ⟨cs, hcs, rfl⟩ := map_some hr
            obtain ⟨vs, hvs⟩ := fillX_xps hq hcs
            simp only [opP, cPs_evps hps, hvs, buildA, hti, hk, hz, fill_placed hq hvs, hcs, Option.map_some]
          · cases h
        · cases h
      · cases h
    · cases h
  case h_5 => -- load
    split at h
    · rename_i c n hc hn
      cases h
      obtain ⟨v, hv, hr⟩ := bind_some hr
      simp only [opP, cV_ev hc, hv, partN_ld hn]; exact hr
    · cases h
  case h_6 => -- nilCheck
    obtain ⟨c, hc, rfl⟩ := map_some h
    obtain ⟨v, hv, hr⟩ := bind_some hr
    simp only [opP, cV_ev hc, hv]; exact hr
  case h_7 => -- binOp
    split at h
    · rename_i a b ti ha hb hti
      cases h
      obtain ⟨v, hv, hr⟩ := bind_some hr
      obtain ⟨u, hu, hr⟩ := bind_some hr
      simp only [opP, cV_ev ha, cV_ev hb, hv, hu]
      rw [binA_binX hti]; exact hr
    · cases h
  case h_8 => -- unOp
    obtain ⟨c, hc, rfl⟩ := map_some h
    obtain ⟨v, hv, hr⟩ := bind_some hr
    simp only [opP, cV_ev hc, hv]; exact hr
  case h_9 => -- convert
    split at h
    · rename_i c k0 k hc h1 h2
      cases h
      obtain ⟨v, hv, hr⟩ := bind_some hr
      simp only [opP, cV_ev hc, hv, cvtA, h1, h2]
      unfold cviX at hr
      split at hr
      · exact hr
      · cases hr
    · rename_i c k0 hc h1 h2
      cases h
      obtain ⟨v, hv, hr⟩ := bind_some hr
      simp only [opP, cV_ev hc, hv, cvtA, h1, h2]
      unfold cvsX at hr
      split at hr
      · exact hr
      · cases hr
    · rename_i c hc h1 h2
      cases h
      obtain ⟨v, hv, hr⟩ := bind_some hr
      simp only [opP, cV_ev hc, hv, cvtA, h1, h2]
      unfold strsX at hr
      split at hr
      · exact hr
      · cases hr
    · cases h
  case h_10 => -- makeInterface
    split at h
    · cases h
    · rename_i c k hne hc hk
      cases h
      obtain ⟨v, hv, rfl⟩ := map_some hr
      simp only [opP, cV_ev hc, hv, ifcA, hk]
    · cases h
  case h_11 => -- makeFunc
    split at h
    · rename_i a b ha hb
      cases h
      obtain ⟨v, hv, hr⟩ := bind_some hr
      obtain ⟨u, hu, rfl⟩ := map_some hr
      simp only [opP, cVs_evs ha, cVs_evs hb, hv, hu]
    · cases h
  case h_12 => -- slice
    split at h
    · rename_i c l hh m hc hl hhh hm
      split at h
      · rename_i hk
        split at h
        · cases h
          obtain ⟨v, hv, hr⟩ := bind_some hr
          obtain ⟨lv, hlv, hr⟩ := bind_some hr
          obtain ⟨hv', hhv, hr⟩ := bind_some hr
          have hmx := cVo_evo (t := t) hm
          simp only [xvo] at hmx
          simp only [opP, cV_ev hc, cVo_evo hl, cVo_evo hhh, hmx, hv, hlv, hhv]
          unfold slstrX at hr
          split at hr
          · rename_i s
            simp only [liveA, if_true, sliceA, hk]; exact hr
          · cases hr
        · cases h
      · rename_i e hk
        obtain ⟨z, hz, rfl⟩ := map_some h
        obtain ⟨v, hv, hr⟩ := bind_some hr
        obtain ⟨lv, hlv, hr⟩ := bind_some hr
        obtain ⟨hv', hhv, hr⟩ := bind_some hr
        obtain ⟨mv, hmv, hr⟩ := bind_some hr
        simp only [opP, cV_ev hc, cVo_evo hl, cVo_evo hhh, cVo_evo hm, hv, hlv, hhv, hmv]
        unfold slsX at hr
        split at hr
        · simp only [liveA, if_true, sliceA, hk, hz]; exact hr
        · simp only [liveA, if_true, sliceA, hk, hz]; exact hr
        · split at hr
          · rename_i hlive
            rw [if_pos hlive]
            simp only [sliceA, hk, hz]; exact hr
          · cases hr
        · simp only [liveA, if_true, sliceA, hk, hz]; exact hr
        · cases hr
      · cases h
    · cases h
  case h_13 => -- fieldAddr
    split at h
    · rename_i c fs hc hk
      split at h
      · rename_i off ft hf
        split at h
        · rename_i n hz
          cases h
          obtain ⟨v, hv, hr⟩ := bind_some hr
          simp only [opP, cV_ev hc, hv]
          unfold faX at hr
          split at hr
          · simp only [liveA, if_true, fieldAddrA, hk, hf, hz]; exact hr
          · simp only [liveA, if_true, fieldAddrA, hk, hf, hz]; exact hr
          · split at hr
            · rename_i hlive
              rw [if_pos hlive]
              simp only [fieldAddrA, hk, hf, hz]; exact hr
            · cases hr
          · cases hr
        · cases h
      · cases h
    · cases h
  case h_14 => -- field
    split at h
    · rename_i c fs hc hk
      split at h
      · rename_i off ft hf
        obtain ⟨n, hn, rfl⟩ := map_some h
        obtain ⟨v, hv, hr⟩ := bind_some hr
        simp only [opP, cV_ev hc, hv]
        unfold flX at hr
        split at hr
        · simp only [fieldA, hk, hf, partN_part hn]; exact hr
        · cases hr
      · cases h
    · cases h
  case h_15 => -- indexAddr
    split at h
    · rename_i c d len e hc hd hk
      obtain ⟨z, hz, rfl⟩ := map_some h
      obtain ⟨v, hv, hr⟩ := bind_some hr
      obtain ⟨u, hu, hr⟩ := bind_some hr
      simp only [opP, cV_ev hc, cV_ev hd, hv, hu]
      unfold ixaX at hr
      split at hr
      · simp only [indexAddrA, hk, hz]; exact hr
      · cases hr
    · rename_i c d e hc hd hk
      obtain ⟨z, hz, rfl⟩ := map_some h
      obtain ⟨v, hv, hr⟩ := bind_some hr
      obtain ⟨u, hu, hr⟩ := bind_some hr
      simp only [opP, cV_ev hc, cV_ev hd, hv, hu]
      unfold ixsX at hr
      split at hr
      · simp only [indexAddrA, hk, hz]; exact hr
      · simp only [indexAddrA, hk, hz]; exact hr
      · cases hr
    · cases h
  case h_16 => -- index
    split at h
    · rename_i c d hc hd hk
      cases h
      obtain ⟨v, hv, hr⟩ := bind_some hr
      obtain ⟨u, hu, hr⟩ := bind_some hr
      simp only [opP, cV_ev hc, cV_ev hd, hv, hu]
      unfold ixstrX at hr
      split at hr
      · simp only [indexA, hk]; exact hr
      · cases hr
    · rename_i c d len e hc hd hk
      split at h
      · rename_i z n hz hn
        cases h
        obtain ⟨v, hv, hr⟩ := bind_some hr
        obtain ⟨u, hu, hr⟩ := bind_some hr
        simp only [opP, cV_ev hc, cV_ev hd, hv, hu]
        unfold ixarrX at hr
        split at hr
        · simp only [indexA, hk, hz, partN_part hn]; exact hr
        · cases hr
      · cases h
    · cases h
  case h_17 => -- extract
    obtain ⟨c, hc, rfl⟩ := map_some h
    obtain ⟨v, hv, hr⟩ := bind_some hr
    simp only [opP, cV_ev hc, hv]; exact hr
  case h_18 => obtain ⟨c, hc, rfl⟩ := map_some h; cases hr
  case h_19 => obtain ⟨c, hc, rfl⟩ := map_some h; cases hr
  case h_20 =>
    split at h
    · split at h
      · split at h
        · cases h; cases hr
        · cases h
      · cases h
    · cases h
  case h_21 =>
    split at h
    · cases h; cases hr
    · cases h
  case h_22 => -- call
    rename_i c
    split at h
    · split at h
      · cases h; cases hr
      · cases h
    · rename_i hcal
      split at h
      · rename_i y ty tys hargs htys
        split at h
        · rename_i d hd hk
          cases h
          obtain ⟨v, hv, hr⟩ := bind_some hr
          simp only [opP, hcal, hargs, htys, cV_ev hd, hv]
          unfold lensX at hr
          split at hr
          · simp only [lenA, hk]; exact hr
          · cases hr
        · rename_i d e hd hk
          cases h
          obtain ⟨v, hv, hr⟩ := bind_some hr
          simp only [opP, hcal, hargs, htys, cV_ev hd, hv]
          unfold lenlX at hr
          split at hr <;> first | (simp only [lenA, hk]; exact hr) | cases hr
        · rename_i d n e hd hk
          cases h
          obtain ⟨v, hv, rfl⟩ := map_some hr
          simp only [opP, hcal, hargs, htys, cV_ev hd, hv]
          cases v <;> simp only [lenA, hk]
        · cases h
      · cases h
    · split at h
      · split at h
        · split at h
          · split at h
            · split at h
              · cases h; cases hr
              · cases h
            · cases h
          · cases h
        · cases h
      · cases h
    · cases h
  case h_23 => cases h
end
end Go.Ab
