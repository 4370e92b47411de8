/- Part of this work: see the text that closes the claim. -/
import Derived.Test.YtpejbkckppnamaaDoorSdLib
import Derived.Test.YtpejbkckppnamaaDoorAbBuf
import Derived.Shelf.Strings.BuilderK
set_option linter.all false
set_option linter.unusedVariables false
set_option linter.unusedSimpArgs false
namespace Go.Ab.Sd
open Go Go.Ab Go.Proofs Go.RowKit
set_option maxRecDepth 100000
theorem lies78 : liesAt Tryd.prog Tryd.prog.depth 78 (2 / Tryd.prog.cellsOf 78) 0 78 1 = true := by kernel_rfl
theorem size78 : (Tryd.prog.info? 78).map (·.size) = some 2 := by kernel_rfl
set_option maxHeartbeats 1000000 in
theorem copyCheck_used (b : Nat) (w : World) (h0 : w.cell? ⟨b, 0, none⟩ = some (.pointer (some ⟨b, 0, none⟩))) :
    Calls Tryd.prog 58 #[.pointer (some ⟨b, 0, none⟩)] w fun e w' => e = .returned (.tuple #[]) ∧ w' = w := by
  obtain ⟨j, hj, _⟩ := Option.map_eq_some_iff.1 size78
  go_enter Tryd.func58, Tryd.ntmps58
  go_wp2
  rw [Lib.run_neq_ptr_same w _ Tryd.underlying76 hj]
  go_wp2
  go_end0
  exact ⟨rfl, rfl⟩
set_option maxHeartbeats 1000000 in
theorem copyCheck_fresh (b : Nat) (w : World) (h0 : w.cell? ⟨b, 0, none⟩ = some (.pointer none)) (hsh : w.shape? b = some (78, 2)) (hfz : w.frozen? ⟨b, 0, none⟩ = false) :
    Calls Tryd.prog 58 #[.pointer (some ⟨b, 0, none⟩)] w fun e w' => e = .returned (.tuple #[]) ∧ w' = w.setCell ⟨b, 0, none⟩ (.pointer (some ⟨b, 0, none⟩)) := by
  obtain ⟨j, hj, hjs⟩ := Option.map_eq_some_iff.1 size78
  go_enter Tryd.func58, Tryd.ntmps58
  go_wp2
  rw [Lib.run_to_unsafe w ⟨b, 0, none⟩ Tryd.underlying76 Tryd.underlying99 hj (by rw [hjs]; decide) hsh (Nat.zero_lt_succ 1)]
  simp only [Result.andThen]
  rw [Oper.upon_value]
  go_wp2
  rw [run_callFunc_extern Tryd.func64 (by kernel_rfl) (by kernel_rfl) (by kernel_rfl) (e := Extern.AbiNoEscape.same) (by kernel_rfl)]
  rw [Lib.run_noEscape]
  simp only [Result.andThen]
  rw [Oper.upon_value]
  go_wp2
  rw [Lib.run_from_unsafe w ⟨b, 0, none⟩ Tryd.underlying99 Tryd.underlying76 hj hsh lies78]
  simp only [Result.andThen]
  rw [Oper.upon_value]
  go_wp2
  go_end0
  exact ⟨rfl, rfl⟩
set_option maxHeartbeats 2000000 in
theorem String_heap (b : Nat) (w : World) (p : Value) (g o cap : Nat) (cur : Array Value) (fz : Nat × Nat) (l : List UInt8) (h0 : l ≠ []) (hbk : w.heap[b]? = some (.cells #[p, .slice (some ⟨g, o, none⟩) l.length cap] 78 (0, 0)))
    (hg : w.heap[g]? = some (.cells cur 5 fz)) (hn : o + l.length ≤ cur.size) (hcap : l.length ≤ cap) (h63 : l.length ≤ 9223372036854775807) (hcell : ∀ j x, l[j]? = some x → cur[o + j]? = some (.int .u8 x.toNat)) :
    Calls Tryd.prog 49 #[.pointer (some ⟨b, 0, none⟩)] w fun e w' => e = .returned (.string ⟨l.toArray⟩) ∧ w' = w.drew.freeze ⟨g, o, none⟩ l.length := by
  have hl0 : l.length ≠ 0 := by simpa using h0
  have c1 : w.drew.cell? ⟨b, 1, none⟩ = some (.slice (some ⟨g, o, none⟩) l.length cap) := by
    have : w.drew.heap[b]? = some (.cells #[p, .slice (some ⟨g, o, none⟩) l.length cap] 78 (0, 0)) := hbk
    rw [Lib.cell_of_heap this]; rfl
  have hSD : (Builtin.unsafeSliceData_ #[49] 93 #[.slice (some ⟨g, o, none⟩) l.length cap]).run Tryd.prog w.drew = .ok (.pointer (some ⟨g, o, none⟩)) w.drew :=
    Lib.run_unsafeSliceData_row _ _ _ _ _ _ (by omega)
  have hUS : (Builtin.unsafeString_ #[93, 3] 9 #[.pointer (some ⟨g, o, none⟩), .int .i64 l.length]).run Tryd.prog w.drew = .ok (.string ⟨l.toArray⟩) (w.drew.freeze ⟨g, o, none⟩ l.length) := by
    refine run_unsafeString_at w.drew 93 3 9 5 Tryd.underlying93 (by kernel_rfl) g o cur.size (by have hg' : w.drew.heap[g]? = some (.cells cur 5 fz) := hg; simp [World.shape?, hg']) l h0 hn h63 ?_
    intro j x hx
    have hg' : w.drew.heap[g]? = some (.cells cur 5 fz) := hg
    have := hcell j x hx
    have e : (⟨g, o, none⟩ : Addr).add j = ⟨g, o + j, none⟩ := by
      unfold Addr.add
      by_cases hj : j = 0
      · subst hj; simp
      · simp [hj]
    rw [e]
    simp [World.cell?, hg', this]
  go_enter Tryd.func49, Tryd.ntmps49
  go_wp2
  go_region
  all_goals (go_wp2; go_ret; exact ⟨rfl, rfl⟩)
set_option maxHeartbeats 2000000 in
theorem String_nil (b : Nat) (w : World) (p : Value) (hbk : w.heap[b]? = some (.cells #[p, .slice none 0 0] 78 (0, 0))) :
    Calls Tryd.prog 49 #[.pointer (some ⟨b, 0, none⟩)] w fun e w' => e = .returned (.string ⟨#[]⟩) ∧ w' = w.drew := by
  have hUS : ∀ (W : World) (q : Option Addr), (Builtin.unsafeString_ #[93, 3] 9 #[.pointer q, .int .i64 0]).run Tryd.prog W = .ok (.string .empty) W := fun W q => Lib.run_unsafeString_none W _ _ _ q
  have c1 : w.drew.cell? ⟨b, 1, none⟩ = some (.slice none 0 0) := by
    have : w.drew.heap[b]? = some (.cells #[p, .slice none 0 0] 78 (0, 0)) := hbk
    rw [Lib.cell_of_heap this]; rfl
  have hSD : (Builtin.unsafeSliceData_ #[49] 93 #[.slice none 0 0]).run Tryd.prog w.drew = .ok (.pointer none) w.drew := rfl
  go_enter Tryd.func49, Tryd.ntmps49
  go_wp2
  go_region
  all_goals (go_wp2; go_ret; exact ⟨rfl, rfl⟩)
section
variable {m : Int} {σ : St} {K : AV → St → Prop}
theorem copyCheck_c (b : Nat) (a buf : AV) (ha : a = .nilp ∨ a = .vp b 0) (hv : getV σ b = some (.cells 78 [a, buf])) (h : K (.tup []) (σ.setV b (.cells 78 [.vp b 0, buf]))) : ACalls Tryd.prog (gD m) 58 [.vp b 0] σ K :=
  ACalls.of_heap Tryd.func58 rfl (by decide) (fun C w vs h0 hg hr => by
    obtain ⟨us, rfl, hb, hr⟩ := hr.vp_inv
    rw [hr.nil_inv]
    obtain ⟨cs, hw, hcs⟩ := h0.var b _ hv
    obtain ⟨x, rest, rfl, hx, hrest⟩ : ∃ x rest, cs = x :: rest ∧ Rep C a x ∧ RepL C [buf] rest := by
      cases hcs with | cons _ _ _ _ h t => exact ⟨_, _, rfl, h, t⟩
    obtain ⟨y, rfl⟩ : ∃ y, rest = [y] := by cases hrest with | cons _ _ _ _ _ t => cases t; exact ⟨_, rfl⟩
    have hc0 : w.cell? ⟨C.ρ b, 0, none⟩ = some x := by rw [cell_heap hw]; rfl
    rcases ha with rfl | rfl
    · cases hx
      have hsh : w.shape? (C.ρ b) = some (78, 2) := by simp [World.shape?, hw]
      have hfz : w.frozen? ⟨C.ρ b, 0, none⟩ = false := by rw [frozen_heap hw]; rfl
      refine (copyCheck_fresh (C.ρ b) w hc0 hsh hfz).mono ?_
      rintro e w' ⟨he, rfl⟩
      obtain ⟨_, _, hp, _, hrel⟩ := stAt_sound h0 (Rep.vp b 0 hb) (cs := [.vp b 0]) (.cons _ _ _ _ (Rep.vp b 0 hb) .nil) (σ' := σ.setV b (.cells 78 [.vp b 0, buf])) (by
        simp only [getV] at hv
        simp only [stAt, hv]; rfl)
      cases hp
      exact ⟨_, C, he, Cz.le.refl C, hrel, .tup [] [] .nil⟩
    · cases hx
      refine (copyCheck_used (C.ρ b) w hc0).mono ?_
      rintro e w' ⟨he, rfl⟩
      refine ⟨_, C, he, Cz.le.refl C, ?_, .tup [] [] .nil⟩
      have : σ.setV b (.cells 78 [.vp b 0, buf]) = σ := setV_same hv
      rw [this]; exact h0) h
theorem setV_setV (σ : St) (b : Nat) (u v : VB) : (σ.setV b u).setV b v = σ.setV b v := by simp [St.setV]
theorem WriteString_c (b : Nat) (l s : List UInt8) (ρ : Option Nat) (hb : Bld 78 5 σ b l ρ) (hle : l.length + s.length ≤ 140737488355328)
    (h : ∀ σ' ρ', Bld 78 5 σ' b (l ++ s) ρ' → But σ σ' b ρ ρ' → K (.tup [.int .i64 s.length, .nili]) σ') : ACalls Tryd.prog (gD m) 48 [.vp b 0, .str s] σ K := by
  obtain ⟨a, buf, hv, ha, hbuf⟩ := hb
  have hlt := getV_lt hv
  refine ACalls_fn tok fm (fk48 _) ?_
  simp only [c48, walkAll, walkL, E, Nat.reduceEqDiff, ↓reduceIte]
  refine copyCheck_c b a buf ha hv ?_
  obtain ⟨buf', σ1, ρ', happ, hb', hrows, hcell, hone⟩ := app_buf (hbuf.setV b (.cells 78 [.vp b 0, buf])) hle
  have hv1 : getV σ1 b = some (.cells 78 [.vp b 0, buf]) := by
    have : getV (σ.setV b (.cells 78 [.vp b 0, buf])) b = some (.cells 78 [.vp b 0, buf]) := by simp only [getV, St.setV]; exact List.getElem?_set_self hlt
    simp only [getV] at this ⊢
    rw [hrows.vars]; exact this
  simp (disch := omega) only [walkAll, walkL, E, nilA, faX, happ, hv1, hcell, hone, Nat.reduceEqDiff, Nat.reduceAdd, Nat.reduceSub, Nat.reduceLeDiff, Nat.le_refl, ↓reduceIte]
  refine h _ ρ' ⟨_, _, ?_, .inr rfl, hb'.setV b _⟩ ?_
  · have : b < nvs σ1 := getV_lt hv1
    simp only [getV, St.setV]; exact List.getElem?_set_self this
  · have := hrows.but b (.cells 78 [.vp b 0, buf'])
    refine ⟨?_, ?_, this.grow, this.row, this.new⟩
    · rw [this.nv]; simp [nvs, St.setV]
    · intro k hk
      rw [this.var k hk]
      simp only [getV, St.setV]; rw [List.getElem?_set_ne (Ne.symm hk)]
theorem String_c (b : Nat) (l : List UInt8) (ρ : Option Nat) (hb : Bld 78 5 σ b l ρ) (h63 : l.length ≤ 9223372036854775807) (h : ∀ σ', But σ σ' b ρ ρ → K (.str l) σ') : ACalls Tryd.prog (gD m) 49 [.vp b 0] σ K := by
  obtain ⟨a, buf, hv, ha, hbuf⟩ := hb
  rcases hbuf with ⟨rfl, rfl, rfl⟩ | ⟨hl0, r, row, rfl, rfl, hr, he, hz, ht, hf⟩
  · refine ACalls.of_heap Tryd.func49 rfl (by decide) (fun C w vs h0 hg hr => ?_) (h σ ⟨rfl, fun _ _ => rfl, Nat.le_refl _, fun _ _ _ => rfl, .inl rfl⟩)
    obtain ⟨us, rfl, hb, hr⟩ := hr.vp_inv
    rw [hr.nil_inv]
    obtain ⟨cs, hw, hcs⟩ := h0.var b _ hv
    obtain ⟨x, rfl⟩ : ∃ x, cs = [x, .slice none 0 0] := by
      cases hcs with | cons _ _ _ _ h t => cases t with | cons _ _ _ _ h2 t2 => cases h2; cases t2; exact ⟨_, rfl⟩
    refine (String_nil (C.ρ b) w x hw).mono ?_
    rintro e w' ⟨he, rfl⟩
    exact ⟨_, C, he, Cz.le.refl C, h0.drew, .str []⟩
  · refine ACalls.of_heap Tryd.func49 rfl (by decide) (σ' := σ.setR r none) (fun C w vs h0 hg ha => ?_) (h _ ⟨rfl, fun _ _ => rfl, by simp [nrs, St.setR], fun r' hne _ => ?_, .inl rfl⟩)
    · obtain ⟨us, rfl, hb, hr'⟩ := ha.vp_inv
      rw [hr'.nil_inv]
      obtain ⟨cs, hw, hcs⟩ := h0.var b _ hv
      have hlv : σ.live r := ⟨row, hr⟩
      obtain ⟨hlive, us, fr, hh⟩ := h0.row r row hr
      obtain ⟨x, cap, rfl, hcap⟩ : ∃ x cap, cs = [x, .slice (some ⟨(C.row r).blk, (C.row r).base, none⟩) l.length cap] ∧ l.length ≤ cap := by
        cases hcs with
        | cons _ v0 _ _ h t =>
          cases t with
          | cons _ _ _ _ h2 t2 =>
            cases h2 with
            | os _ _ _ a cap hrr hvv =>
              cases t2
              obtain ⟨rfl, _, hc⟩ := hvv hlive
              exact ⟨v0, cap, by simp, hc⟩
      have hlen : us.length = (C.row r).size := hh.size
      have hfits := hh.fits
      rw [he, bytesE_length, hz, Nat.mul_one] at hfits
      have hrep := hh.rep
      rw [he, bytesE_length, hz, Nat.mul_one] at hrep
      have hcell : ∀ j x, l[j]? = some x → us.toArray[(C.row r).base + j]? = some (.int .u8 x.toNat) := by
        intro j x hx
        have hx' : (bytesE l).flatten[j]? = some (.int .u8 x.toNat) := by
          rw [bytesE_flatten, List.getElem?_map, hx]; rfl
        obtain ⟨v, hv1, hv2⟩ := hrep.get j _ hx'
        cases hv2
        have := take_drop_get hv1
        simpa using this
      have hheap := hh.heap
      rw [ht] at hheap
      refine (String_heap (C.ρ b) w x (C.row r).blk (C.row r).base cap us.toArray fr l hl0 hw hheap (by simp; omega) hcap h63 hcell).mono ?_
      rintro e w' ⟨hee, rfl⟩
      have hfree := h0.free_kill hlv
      have hk := (h0.kill r).drew
      refine ⟨_, C.kill r, hee, C.le_kill r, hk.at_free hfree ?_ ?_ (Lib.below_freeze hk.below hfree.base _), .str l⟩
      · intro k hne
        unfold World.freeze
        split
        · rfl
        · simp only [Array.getElem?_modify]
          rw [if_neg (fun e => hne e.symm)]
      · unfold World.freeze
        split
        · exact Nat.le_refl _
        · simp
    · have hne' : r' ≠ r := fun e => hne (by rw [e])
      simp only [getR, St.setR]; rw [List.getElem?_set_ne (Ne.symm hne')]
end
end Go.Ab.Sd
