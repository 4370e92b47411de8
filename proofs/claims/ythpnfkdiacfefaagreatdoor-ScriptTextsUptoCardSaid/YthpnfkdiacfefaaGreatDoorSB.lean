/-
  A seat whose walks read no tables.
-/
import Derived.Test.YthpnfkdiacfefaaGreatDoorCf
import Derived.Test.YthpnfkdiacfefaaGreatDoorAbB
import Derived.Test.YthpnfkdiacfefaaGreatDoorAbG
import Derived.WalkKit
import Derived.ProofKit
import Derived.OpenShut
import Derived.Shelf.Strings.BuilderK
import Derived.Shelf.SlGeneric
import Derived.Shelf.Spec.SlicesGrow
import Derived.Ground.Names8Prog
import Derived.Shelf.LaysM
import Derived.Test.YthpnfkdiacfefaaGreatDoorProg
set_option linter.all false
set_option linter.unusedVariables false
set_option linter.unusedSimpArgs false
namespace Go.Ab.Ss
open Go Go.Ab Go.Proofs Go.RowKit
set_option maxRecDepth 20000
theorem fm : Tryz.prog.follows .mixedOrders = true := by kernel_rfl
def gD (_ : Int) : GT := fun _ => none
theorem gD_data {m : Int} (g : Nat) (cs : List AV) (h : gD m g = some cs) : DataL cs := by cases h
theorem drop_cons {α : Type} {l : List α} {i : Nat} {c : α} {r : List α} (h : l.drop i = c :: r) : l[i]? = some c ∧ l.drop (i + 1) = r := by
  constructor
  · have := congrArg (fun x => x[0]?) h
    simpa using this
  · rw [← List.drop_drop, h]; rfl
end Go.Ab.Ss
namespace Go.Ab.Ss
open Go Go.Ab Go.Proofs Go.RowKit
set_option maxRecDepth 100000
theorem lies78 : liesAt Tryz.prog Tryz.prog.depth 37 (2 / Tryz.prog.cellsOf 37) 0 37 1 = true := by kernel_rfl
theorem size78 : (Tryz.prog.info? 37).map (·.size) = some 2 := by kernel_rfl
set_option maxHeartbeats 1000000 in
theorem copyCheck_used (b : Nat) (w : World) (h0 : w.cell? ⟨b, 0, none⟩ = some (.pointer (some ⟨b, 0, none⟩))) :
    Calls Tryz.prog 17 #[.pointer (some ⟨b, 0, none⟩)] w fun e w' => e = .returned (.tuple #[]) ∧ w' = w := by
  obtain ⟨j, hj, _⟩ := Option.map_eq_some_iff.1 size78
  go_enter Tryz.func17, Tryz.ntmps17
  go_wp2
  rw [Lib.run_neq_ptr_same w _ Tryz.underlying35 hj]
  go_wp2
  go_end0
  exact ⟨rfl, rfl⟩
set_option maxHeartbeats 1000000 in
theorem copyCheck_fresh (b : Nat) (w : World) (h0 : w.cell? ⟨b, 0, none⟩ = some (.pointer none)) (hsh : w.shape? b = some (37, 2)) (hfz : w.frozen? ⟨b, 0, none⟩ = false) :
    Calls Tryz.prog 17 #[.pointer (some ⟨b, 0, none⟩)] w fun e w' => e = .returned (.tuple #[]) ∧ w' = w.setCell ⟨b, 0, none⟩ (.pointer (some ⟨b, 0, none⟩)) := by
  obtain ⟨j, hj, hjs⟩ := Option.map_eq_some_iff.1 size78
  go_enter Tryz.func17, Tryz.ntmps17
  go_wp2
  rw [Lib.run_to_unsafe w ⟨b, 0, none⟩ Tryz.underlying35 Tryz.underlying68 hj (by rw [hjs]; decide) hsh (Nat.zero_lt_succ 1)]
  simp only [Result.andThen]
  rw [Oper.upon_value]
  go_wp2
  rw [run_callFunc_extern Tryz.func23 (by kernel_rfl) (by kernel_rfl) (by kernel_rfl) (e := Extern.AbiNoEscape.same) (by kernel_rfl)]
  rw [Lib.run_noEscape]
  simp only [Result.andThen]
  rw [Oper.upon_value]
  go_wp2
  rw [Lib.run_from_unsafe w ⟨b, 0, none⟩ Tryz.underlying68 Tryz.underlying35 hj hsh lies78]
  simp only [Result.andThen]
  rw [Oper.upon_value]
  go_wp2
  go_end0
  exact ⟨rfl, rfl⟩
set_option maxHeartbeats 2000000 in
theorem String_heap (b : Nat) (w : World) (p : Value) (g o cap : Nat) (cur : Array Value) (fz : Nat × Nat) (l : List UInt8) (h0 : l ≠ []) (hbk : w.heap[b]? = some (.cells #[p, .slice (some ⟨g, o, none⟩) l.length cap] 37 (0, 0)))
    (hg : w.heap[g]? = some (.cells cur 5 fz)) (hn : o + l.length ≤ cur.size) (hcap : l.length ≤ cap) (h63 : l.length ≤ 9223372036854775807) (hcell : ∀ j x, l[j]? = some x → cur[o + j]? = some (.int .u8 x.toNat)) :
    Calls Tryz.prog 11 #[.pointer (some ⟨b, 0, none⟩)] w fun e w' => e = .returned (.string ⟨l.toArray⟩) ∧ w' = w.drew.freeze ⟨g, o, none⟩ l.length := by
  have hl0 : l.length ≠ 0 := by simpa using h0
  have c1 : w.drew.cell? ⟨b, 1, none⟩ = some (.slice (some ⟨g, o, none⟩) l.length cap) := by
    have : w.drew.heap[b]? = some (.cells #[p, .slice (some ⟨g, o, none⟩) l.length cap] 37 (0, 0)) := hbk
    rw [Lib.cell_of_heap this]; rfl
  have hSD : (Builtin.unsafeSliceData_ #[24] 56 #[.slice (some ⟨g, o, none⟩) l.length cap]).run Tryz.prog w.drew = .ok (.pointer (some ⟨g, o, none⟩)) w.drew :=
    Lib.run_unsafeSliceData_row _ _ _ _ _ _ (by omega)
  have hUS : (Builtin.unsafeString_ #[56, 3] 9 #[.pointer (some ⟨g, o, none⟩), .int .i64 l.length]).run Tryz.prog w.drew = .ok (.string ⟨l.toArray⟩) (w.drew.freeze ⟨g, o, none⟩ l.length) := by
    refine run_unsafeString_at w.drew 56 3 9 5 Tryz.underlying56 (by kernel_rfl) g o cur.size (by have hg' : w.drew.heap[g]? = some (.cells cur 5 fz) := hg; simp [World.shape?, hg']) l h0 hn h63 ?_
    intro j x hx
    have hg' : w.drew.heap[g]? = some (.cells cur 5 fz) := hg
    have := hcell j x hx
    have e : (⟨g, o, none⟩ : Addr).add j = ⟨g, o + j, none⟩ := by
      unfold Addr.add
      by_cases hj : j = 0
      · subst hj; simp
      · simp [hj]
    rw [e]
    simp [World.cell?, hg', this]
  go_enter Tryz.func11, Tryz.ntmps11
  go_wp2
  go_region
  all_goals (go_wp2; go_ret; exact ⟨rfl, rfl⟩)
set_option maxHeartbeats 2000000 in
theorem String_nil (b : Nat) (w : World) (p : Value) (hbk : w.heap[b]? = some (.cells #[p, .slice none 0 0] 37 (0, 0))) :
    Calls Tryz.prog 11 #[.pointer (some ⟨b, 0, none⟩)] w fun e w' => e = .returned (.string ⟨#[]⟩) ∧ w' = w.drew := by
  have hUS : ∀ (W : World) (q : Option Addr), (Builtin.unsafeString_ #[56, 3] 9 #[.pointer q, .int .i64 0]).run Tryz.prog W = .ok (.string .empty) W := fun W q => Lib.run_unsafeString_none W _ _ _ q
  have c1 : w.drew.cell? ⟨b, 1, none⟩ = some (.slice none 0 0) := by
    have : w.drew.heap[b]? = some (.cells #[p, .slice none 0 0] 37 (0, 0)) := hbk
    rw [Lib.cell_of_heap this]; rfl
  have hSD : (Builtin.unsafeSliceData_ #[24] 56 #[.slice none 0 0]).run Tryz.prog w.drew = .ok (.pointer none) w.drew := rfl
  go_enter Tryz.func11, Tryz.ntmps11
  go_wp2
  go_region
  all_goals (go_wp2; go_ret; exact ⟨rfl, rfl⟩)
section
variable {m : Int} {σ : St} {K : AV → St → Prop}
theorem copyCheck_c (b : Nat) (a buf : AV) (ha : a = .nilp ∨ a = .vp b 0) (hv : getV σ b = some (.cells 37 [a, buf])) (h : K (.tup []) (σ.setV b (.cells 37 [.vp b 0, buf]))) : ACalls Tryz.prog (gD m) 17 [.vp b 0] σ K :=
  ACalls.of_heap Tryz.func17 rfl (by decide) (fun C w vs h0 hg hr => by
    obtain ⟨us, rfl, hb, hr⟩ := hr.vp_inv
    rw [hr.nil_inv]
    obtain ⟨cs, hw, hcs⟩ := h0.var b _ hv
    obtain ⟨x, rest, rfl, hx, hrest⟩ : ∃ x rest, cs = x :: rest ∧ Rep C a x ∧ RepL C [buf] rest := by
      cases hcs with | cons _ _ _ _ h t => exact ⟨_, _, rfl, h, t⟩
    obtain ⟨y, rfl⟩ : ∃ y, rest = [y] := by cases hrest with | cons _ _ _ _ _ t => cases t; exact ⟨_, rfl⟩
    have hc0 : w.cell? ⟨C.ρ b, 0, none⟩ = some x := by rw [cell_heap hw]; rfl
    rcases ha with rfl | rfl
    · cases hx
      have hsh : w.shape? (C.ρ b) = some (37, 2) := by simp [World.shape?, hw]
      have hfz : w.frozen? ⟨C.ρ b, 0, none⟩ = false := by rw [frozen_heap hw]; rfl
      refine (copyCheck_fresh (C.ρ b) w hc0 hsh hfz).mono ?_
      rintro e w' ⟨he, rfl⟩
      obtain ⟨_, _, hp, _, hrel⟩ := stAt_sound h0 (Rep.vp b 0 hb) (cs := [.vp b 0]) (.cons _ _ _ _ (Rep.vp b 0 hb) .nil) (σ' := σ.setV b (.cells 37 [.vp b 0, buf])) (by
        simp only [getV] at hv
        simp only [stAt, hv]; rfl)
      cases hp
      exact ⟨_, C, he, Cz.le.refl C, hrel, .tup [] [] .nil⟩
    · cases hx
      refine (copyCheck_used (C.ρ b) w hc0).mono ?_
      rintro e w' ⟨he, rfl⟩
      refine ⟨_, C, he, Cz.le.refl C, ?_, .tup [] [] .nil⟩
      have : σ.setV b (.cells 37 [.vp b 0, buf]) = σ := setV_same hv
      rw [this]; exact h0) h
theorem WriteString_c (b : Nat) (l s : List UInt8) (ρ : Option Nat) (hb : Bld 37 5 σ b l ρ) (hle : l.length + s.length ≤ 140737488355328)
    (h : ∀ σ' ρ', Bld 37 5 σ' b (l ++ s) ρ' → But σ σ' b ρ ρ' → K (.tup [.int .i64 s.length, .nili]) σ') : ACalls Tryz.prog (gD m) 9 [.vp b 0, .str s] σ K := by
  obtain ⟨a, buf, hv, ha, hbuf⟩ := hb
  have hlt := getV_lt hv
  refine ACalls_fn tok fm (fk9 _) ?_
  simp only [c9, walkAll, walkL, E, Nat.reduceEqDiff, ↓reduceIte]
  refine copyCheck_c b a buf ha hv ?_
  obtain ⟨buf', σ1, ρ', happ, hb', hrows, hcell, hone⟩ := app_buf (hbuf.setV b (.cells 37 [.vp b 0, buf])) hle
  have hv1 : getV σ1 b = some (.cells 37 [.vp b 0, buf]) := by
    have : getV (σ.setV b (.cells 37 [.vp b 0, buf])) b = some (.cells 37 [.vp b 0, buf]) := by simp only [getV, St.setV]; exact List.getElem?_set_self hlt
    simp only [getV] at this ⊢
    rw [hrows.vars]; exact this
  simp (disch := omega) only [walkAll, walkL, E, nilA, faX, happ, hv1, hcell, hone, Nat.reduceEqDiff, Nat.reduceAdd, Nat.reduceSub, Nat.reduceLeDiff, Nat.le_refl, ↓reduceIte]
  refine h _ ρ' ⟨_, _, ?_, .inr rfl, hb'.setV b _⟩ ?_
  · have : b < nvs σ1 := getV_lt hv1
    simp only [getV, St.setV]; exact List.getElem?_set_self this
  · have := hrows.but b (.cells 37 [.vp b 0, buf'])
    refine ⟨?_, ?_, this.grow, this.row, this.new⟩
    · rw [this.nv]; simp [nvs, St.setV]
    · intro k hk
      rw [this.var k hk]
      simp only [getV, St.setV]; rw [List.getElem?_set_ne (Ne.symm hk)]
theorem String_c (b : Nat) (l : List UInt8) (ρ : Option Nat) (hb : Bld 37 5 σ b l ρ) (h63 : l.length ≤ 9223372036854775807) (h : ∀ σ', But σ σ' b ρ ρ → K (.str l) σ') : ACalls Tryz.prog (gD m) 11 [.vp b 0] σ K := by
  obtain ⟨a, buf, hv, ha, hbuf⟩ := hb
  rcases hbuf with ⟨rfl, rfl, rfl⟩ | ⟨hl0, r, row, rfl, rfl, hr, he, hz, ht, hf⟩
  · refine ACalls.of_heap Tryz.func11 rfl (by decide) (fun C w vs h0 hg hr => ?_) (h σ ⟨rfl, fun _ _ => rfl, Nat.le_refl _, fun _ _ _ => rfl, .inl rfl⟩)
    obtain ⟨us, rfl, hb, hr⟩ := hr.vp_inv
    rw [hr.nil_inv]
    obtain ⟨cs, hw, hcs⟩ := h0.var b _ hv
    obtain ⟨x, rfl⟩ : ∃ x, cs = [x, .slice none 0 0] := by
      cases hcs with | cons _ _ _ _ h t => cases t with | cons _ _ _ _ h2 t2 => cases h2; cases t2; exact ⟨_, rfl⟩
    refine (String_nil (C.ρ b) w x hw).mono ?_
    rintro e w' ⟨he, rfl⟩
    exact ⟨_, C, he, Cz.le.refl C, h0.drew, .str []⟩
  · refine ACalls.of_heap Tryz.func11 rfl (by decide) (σ' := σ.setR r none) (fun C w vs h0 hg ha => ?_) (h _ ⟨rfl, fun _ _ => rfl, by simp [nrs, St.setR], fun r' hne _ => ?_, .inl rfl⟩)
    · obtain ⟨us, rfl, hb, hr'⟩ := ha.vp_inv
      rw [hr'.nil_inv]
      obtain ⟨cs, hw, hcs⟩ := h0.var b _ hv
      have hlv : σ.live r := ⟨row, hr⟩
      obtain ⟨hlive, us, fr, hh⟩ := h0.row r row hr
      obtain ⟨x, cap, rfl, hcap⟩ : ∃ x cap, cs = [x, .slice (some ⟨(C.row r).blk, (C.row r).base, none⟩) l.length cap] ∧ l.length ≤ cap := by
        cases hcs with
        | cons _ v0 _ _ h t =>
          cases t with
          | cons _ _ _ _ h2 t2 =>
            cases h2 with
            | os _ _ _ a cap hrr hvv =>
              cases t2
              obtain ⟨rfl, _, hc⟩ := hvv hlive
              exact ⟨v0, cap, by simp, hc⟩
      have hlen : us.length = (C.row r).size := hh.size
      have hfits := hh.fits
      rw [he, bytesE_length, hz, Nat.mul_one] at hfits
      have hrep := hh.rep
      rw [he, bytesE_length, hz, Nat.mul_one] at hrep
      have hcell : ∀ j x, l[j]? = some x → us.toArray[(C.row r).base + j]? = some (.int .u8 x.toNat) := by
        intro j x hx
        have hx' : (bytesE l).flatten[j]? = some (.int .u8 x.toNat) := by
          rw [bytesE_flatten, List.getElem?_map, hx]; rfl
        obtain ⟨v, hv1, hv2⟩ := hrep.get j _ hx'
        cases hv2
        have := take_drop_get hv1
        simpa using this
      have hheap := hh.heap
      rw [ht] at hheap
      refine (String_heap (C.ρ b) w x (C.row r).blk (C.row r).base cap us.toArray fr l hl0 hw hheap (by simp; omega) hcap h63 hcell).mono ?_
      rintro e w' ⟨hee, rfl⟩
      have hfree := h0.free_kill hlv
      have hk := (h0.kill r).drew
      refine ⟨_, C.kill r, hee, C.le_kill r, hk.at_free hfree ?_ ?_ (Lib.below_freeze hk.below hfree.base _), .str l⟩
      · intro k hne
        unfold World.freeze
        split
        · rfl
        · simp only [Array.getElem?_modify]
          rw [if_neg (fun e => hne e.symm)]
      · unfold World.freeze
        split
        · exact Nat.le_refl _
        · simp
    · have hne' : r' ≠ r := fun e => hne (by rw [e])
      simp only [getR, St.setR]; rw [List.getElem?_set_ne (Ne.symm hne')]
end
end Go.Ab.Ss
namespace Go.Ab.Ss
open Go Go.Ab Go.Proofs Go.RowKit
set_option maxRecDepth 40000
/-- A list that is data: nil, or not. -/
def lsq (nn : Bool) (l : List (List AV)) : AV := if l = [] then (if nn then .sl [] else .nils) else .sl l
theorem lsq_false (l : List (List AV)) : lsq false l = lsv l := by unfold lsq lsv; split <;> rfl
theorem lsq_sl (l : List (List AV)) : lsq true l = .sl l := by
  unfold lsq; split
  · rename_i h; rw [h]; rfl
  · rfl
theorem lsq_cells (nn : Bool) (l : List (List AV)) : cellsA (lsq nn l) = [lsq nn l] := by unfold lsq; split <;> (try split) <;> rfl
theorem lsq_one (nn : Bool) (l : List (List AV)) : (lsq nn l).one = true := by unfold lsq; split <;> (try split) <;> rfl
theorem lsq_data (nn : Bool) {l : List (List AV)} (h : DataL l.flatten) : Data (lsq nn l) := by
  cases nn with
  | false => rw [lsq_false]; exact lsv_data h
  | true => rw [lsq_sl]; exact .sl l h
theorem rd_lsq {z : Nat} (nn : Bool) {l : List (List AV)} (h : ∀ e ∈ l, e.length = z) (σ : St) : Rd z σ (lsq nn l) l := by
  cases nn with
  | false => rw [lsq_false]; exact rd_lsv h σ
  | true => rw [lsq_sl]; exact ⟨h, .inr (.inr (.inl rfl))⟩
theorem elsA_lsq (σ : St) (nn : Bool) (l : List (List AV)) : elsA σ (lsq nn l) = some l := by
  unfold lsq
  split
  · rename_i h; subst h; split <;> rfl
  · rfl
theorem lenlX_lsq (nn : Bool) (l : List (List AV)) : lenlX (lsq nn l) = some (.int .i64 l.length) := by
  unfold lsq; split
  · rename_i h; subst h; split <;> rfl
  · rfl
theorem bytes_len (l : List UInt8) : ∀ e ∈ bytesE l, e.length = 1 := fun e he => by
  obtain ⟨b, _, rfl⟩ := List.mem_map.1 he; rfl
theorem bytes_data (l : List UInt8) : DataL (bytesE l).flatten := data_flat fun b _ => by simp only [dataR]
theorem bytes_ones (l : List UInt8) : (bytesE l).all (fun c => c.all AV.one) = true := by
  rw [List.all_eq_true]; intro c hc; obtain ⟨b, _, rfl⟩ := List.mem_map.1 hc; rfl
def hexD (n : Nat) : UInt8 := [48, 49, 50, 51, 52, 53, 54, 55, 56, 57, 65, 66, 67, 68, 69, 70].getD n 48
def hexS : List UInt8 → List UInt8
  | [] => []
  | c :: l => hexD (c.toNat / 16) :: hexD (c.toNat % 16) :: hexS l
theorem hexS_len : ∀ l : List UInt8, (hexS l).length = 2 * l.length
  | [] => rfl
  | c :: l => by simp only [hexS, List.length_cons, hexS_len l]; omega
def numB (n : Nat) : List UInt8 := [UInt8.ofNat (n / 256), UInt8.ofNat n]
def frameS (b : List UInt8) : List UInt8 := if b.length = 0 ∨ 4096 < b.length then [] else numB b.length ++ b
theorem frameS_len (b : List UInt8) : (frameS b).length ≤ 4098 ∧ (frameS b).length ≤ b.length + 2 := by
  unfold frameS numB
  split
  · simp
  · simp; omega
/-- A frame. -/
structure Fr where
  side : Int
  b : List UInt8
  nn : Bool
def Fr.c (f : Fr) : List AV := [.int .i64 f.side, lsq f.nn (bytesE f.b)]
/-- The frames of a step. -/
structure Stp where
  l : List Fr
  nn : Bool
def Stp.c (s : Stp) : List AV := [lsq s.nn (s.l.map Fr.c)]
def lineS (f : Fr) : List UInt8 := (if f.side == 0 then 88 else 66) :: (hexS (frameS f.b) ++ [10])
def stepS (s : Stp) : List UInt8 := (s.l.map lineS).flatten ++ [46, 10]
def textS (l : List Stp) : List UInt8 := (l.map stepS).flatten
theorem textS_append (a b : List Stp) : textS (a ++ b) = textS a ++ textS b := by simp [textS]
theorem lineS_len (f : Fr) : (lineS f).length ≤ 2 * f.b.length + 6 := by
  have := (frameS_len f.b).2
  unfold lineS
  simp only [List.length_cons, List.length_append, hexS_len, List.length_nil]; omega
theorem fr_len (l : List Fr) : ∀ e ∈ l.map Fr.c, e.length = 2 := fun e he => by
  obtain ⟨b, _, rfl⟩ := List.mem_map.1 he; rfl
theorem stp_len (l : List Stp) : ∀ e ∈ l.map Stp.c, e.length = 1 := fun e he => by
  obtain ⟨b, _, rfl⟩ := List.mem_map.1 he; rfl
theorem fr_data (f : Fr) : DataL f.c := by
  simp only [Fr.c, dataR, and_true]
  exact lsq_data _ (bytes_data _)
theorem stp_data (s : Stp) : DataL s.c := by
  simp only [Stp.c, dataR, and_true]
  exact lsq_data _ (data_flat fun f _ => fr_data f)
end Go.Ab.Ss
namespace Go.Proofs
open Go.Shelf
def Tryz.laysGrow_ren : Go.Shelf.Ren := ⟨fun | 4 => 22 | n => n, fun | 22 => 24 | 25 => 5 | 3 => 3 | 4 => 4 | 9 => 9 | 20 => 20 | 0 => 0 | n => n, fun | n => n⟩
theorem Tryz.laysGrow : Go.Proofs.Lays8.n4 Tryz.prog Tryz.laysGrow_ren := {
  mixed := by kernel_rfl
  f4 := ⟨Tryz.f22.name, by decide, Tryz.func22.trans (congrArg some (by kernel_rfl))⟩
  t0 := Tryz.underlying0
  a0 := Tryz.isAgg0
  z0 := Tryz.sizeOf0
  v0 := Tryz.zeroValue0
  t3 := Tryz.underlying3
  a3 := Tryz.isAgg3
  z3 := Tryz.sizeOf3
  v3 := Tryz.zeroValue3
  t4 := Tryz.underlying4
  a4 := Tryz.isAgg4
  z4 := Tryz.sizeOf4
  v4 := Tryz.zeroValue4
  t9 := Tryz.underlying9
  a9 := Tryz.isAgg9
  z9 := Tryz.sizeOf9
  v9 := Tryz.zeroValue9
  t20 := Tryz.underlying20
  a20 := Tryz.isAgg20
  z20 := Tryz.sizeOf20
  v20 := Tryz.zeroValue20
  t22 := Tryz.underlying24
  a22 := Tryz.isAgg24
  z22 := Tryz.sizeOf24
  v22 := Tryz.zeroValue24 }

end Go.Proofs
