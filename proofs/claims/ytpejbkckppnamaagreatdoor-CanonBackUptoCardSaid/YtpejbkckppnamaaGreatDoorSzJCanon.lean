/-
  comptoirlaw09.CanonBack returns true, its arguments read afterwards as before, where what it reads is of bulk at most 1048576: the second form, and its card.
-/
import Derived.ChangeMaps5
import Derived.Test.YtpejbkckppnamaaGreatDoorSzJoinN
set_option linter.all false
set_option linter.unusedVariables false
set_option linter.unusedSimpArgs false
namespace Go.Proofs.YtpejbkckppnamaaGreatDoor
open Go.ChangeMaps Go Go.Ab Go.Proofs Go.RowKit Go.ChangeShapes Go.WideShapes Go.ChangeAt
set_option maxRecDepth 100000
namespace LCanonBack
theorem rows_ok : ∀ t ∈ Tryz.f10.params.toList, Tryz.prog.readableRec t = true ∧ t < Tryz.prog.types.size := by
  intro t ht
  rw [Tryz.params10] at ht
  obtain rfl | rfl : t = 34 ∨ t = 9 := by simpa using ht
  · exact ⟨by kernel_rfl, of_decide_eq_true (by kernel_rfl)⟩
  · exact ⟨by kernel_rfl, of_decide_eq_true (by kernel_rfl)⟩
theorem contract (H : Type) (enc : TypeId × Value → H) (W : World) (base : Nat) (args : Array Value) (ds gs : List (DataW H)) (before : List MemPlace)
    (hval : ∀ (j : Nat) t v, Tryz.f10.params[j]? = some t → args[j]? = some v → Value.okWide Tryz.prog W .any base t v)
    (hW : DataW.Whole enc Tryz.prog Tryz.f10.params.toList Rows.canonBackSpec.vars false W args.toList ds gs before) (hk : Rows.uptoSmall H (ds ++ gs) = true) (hL : laidMet Tryz.prog Go.Ab.Sz.laidL W) (hS : W.ShapedOpen Tryz.prog) :
    Calls Tryz.prog 10 args W fun e W' => ∃ v, e = .returned v ∧ Rows.canonBackSpec.post enc Tryz.prog Tryz.f10 false true false false W args v W' := by
  have hW' := hW
  obtain ⟨p, q, hA0, hV, rfl, hfz, hnd⟩ := hW
  have hA : DataW.TrodAll enc Tryz.prog W 0 (fun _ => true) true Tryz.f10.params.toList args.toList ds p := hA0
  have hK := hA
  rw [Tryz.params10] at hA hval
  obtain ⟨v0, vs0, d0, ds0, p0, q0, hargs, rfl, rfl, h0, r0⟩ := trodAll_cons hA
  obtain ⟨v1, vs1, d1, ds1, p1, q1, rfl, rfl, rfl, h1, r1⟩ := trodAll_cons r0
  obtain ⟨rfl, rfl, rfl⟩ := trodAll_nil r1
  obtain rfl : args = #[v0, v1] := by cases args; simp_all
  obtain ⟨rfl, rfl⟩ := trodVars_none hV
  obtain ⟨l, a0, hl1, hl2, hl3⟩ := Go.Ab.Sz.K.nnodes_rep (okWide_slice Tryz.underlying34 (hval 0 34 v0 rfl rfl)) h0
  obtain ⟨s, rfl⟩ := okWide_string Tryz.underlying9 (hval 1 9 v1 rfl rfl)
  clear hA0
  have hbulk : Rows.uptoBulk d0 + (Rows.uptoBulk d1 + 0) ≤ 1048576 := of_decide_eq_true hk
  have hsl : s.data.toList.length ≤ 1048576 := by
    obtain ⟨fuel, hf⟩ := h1
    have hf' : DataW.trod enc Tryz.prog W 0 (fun _ => true) true fuel 9 [.string s] = some (d1, p1) := by simpa [Value.cells] using hf
    obtain ⟨s', e', w', _⟩ := DataW.trod_string Tryz.underlying9 hf'
    have e2 : s = s' := by simpa using e'
    subst e2
    have w2 : d1 = .lit (.string s.data.toList) := (Prod.mk.inj w').1
    rw [w2] at hbulk
    simp only [Rows.uptoBulk] at hbulk
    omega
  have hdat : DataL [a0, .str s.data.toList] := .cons _ _ hl1.hvd (.cons _ _ (.str _) .nil)
  have hlt : ∀ x ∈ p0 ++ (p1 ++ []), x.block < W.heap.size := fun x hx => hW'.lt x (by simpa using hx)
  refine (Go.Ab.Sz.law_calls Tryz.func10 rfl (by decide) (args := [a0, .str s.data.toList]) hdat (fun m => Go.Ab.Sz.K.CanonBack_law l a0 hl1 s.data.toList (by omega) (by omega)) hL hS (vs := [v0, .string s]) (.cons _ _ _ _ hl2 (.cons _ _ _ _ (.str s.data.toList) .nil))).mono fun e W' ⟨he, hg⟩ => ?_
  subst he
  exact ⟨_, rfl, Go.Ab.Sz.law_post (pa := p0 ++ (p1 ++ [])) (pv := []) hW' (fun _ _ _ => trodAll_cons_mk (shut_bool Tryz.underlying4 _) trodAll_mk0) (fun sp hsp => Go.Ab.Sz.args_stay hg sp rows_ok hK hlt (fun x hx => hsp x (by simpa using hx))) (fun _ _ => rfl) rfl
    hg (ok_one (by kernel_rfl) rfl (okWide_bool_mk Tryz.underlying4 _))⟩
theorem reads (os : Os) {H : Type} (enc : TypeId × Value → H) : ∃ places, DataW.whole enc Tryz.prog ((Go.Ab.Sz.laidWorld os).forCall (fun _ _ => 0) ⟨#[], #[.slice none 0 0, .string ⟨#[]⟩], []⟩).memory Tryz.f10.params.toList Rows.canonBackSpec.vars false #[Value.slice none 0 0, Value.string ⟨#[]⟩].toList 8 = some ([.nil, .lit (.string [])], [], places) :=
  ⟨[], by kernel_rfl⟩
set_option maxRecDepth 100000 in
theorem lifted (os : Os) (started : os.Started) (H : Type) (enc : TypeId × Value → H) (F : Stop.Interp) :
    ReturnsInHanded {} Tryz.checked os 10 .any ((Rows.OpenSpec.upto Rows.canonBackSpec).preRow enc Tryz.prog Tryz.f10 Rows.canonBackUptoRow.domain false Rows.canonBackUptoRow.laid) (((Rows.OpenSpec.upto Rows.canonBackSpec).at F).post enc Tryz.prog Tryz.f10 false true false false) := by
  obtain ⟨places, hx⟩ := reads os enc
  refine returnsInHanded_of_row (C := Tryz.checked) (s := Rows.OpenSpec.upto Rows.canonBackSpec) Go.Ab.Sz.own started (by kernel_rfl) Tryz.func10
    (witness_row_at (enc := enc) (C := Tryz.checked) false (Go.Ab.Sz.laidWorld os) #[.slice none 0 0, .string ⟨#[]⟩] rfl (by kernel_rfl) (by kernel_rfl) (by kernel_rfl)
      (OpenSpec.preRow_of_cond 8 hx (by kernel_rfl) (fun k hk => by cases hk; kernel_rfl) (by kernel_rfl) (Go.Ab.Sz.laid_met os _))) ?_
  intro W base args ds gs before hval hW _ hcond hZ hL hS _
  exact contract H enc W base args ds gs before hval hW (hcond _ rfl) hL hS
theorem row_inPlace : Tryz.pinned.checked.prog.inPlace 10 = Rows.canonBackUptoRow.inPlace := by kernel_rfl
theorem row_unfollowed : Tryz.pinned.checked.prog.unfollowed 10 = Rows.canonBackUptoRow.unfollowed := by kernel_rfl
theorem row_recurses : Tryz.pinned.checked.prog.recurses 10 = Rows.canonBackUptoRow.recurses := by kernel_rfl
theorem row_named : Tryz.pinned.checked.prog.varsNamed 10 = Rows.canonBackUptoRow.named := by kernel_rfl
theorem row_maps : mapsRowed Tryz.pinned.checked.prog = true := by kernel_rfl
theorem row_func : Tryz.pinned.checked.prog.funcNamed Rows.canonBackUptoRow.func = some 10 := by kernel_rfl
theorem closed : joinedFacts Tryz.pinned.checked.prog 10 Tryz.f10 (Rows.OpenSpec.upto Rows.canonBackSpec).bare Rows.canonBackUptoRow = true := by
  unfold joinedFacts
  rw [row_inPlace, row_unfollowed, row_recurses, row_named, row_maps]
  kernel_rfl
theorem said : Rows.CanonBackUptoSaid :=
  OpenClaim.holds_of_cond 10 Tryz.f10 rfl rfl rfl rfl rfl rfl rfl ⟨rfl, rfl, rfl, rfl, rfl⟩ rfl rfl rfl rfl rfl row_func Tryz.func10 closed
    (of_decide_eq_true (by kernel_rfl)) (by unfold Func.isWrapper; first | (rw [if_pos (by decide +kernel)]; kernel_rfl) | (rw [if_neg (by decide +kernel)]; exact ⟨rfl, rfl⟩))
    (fun os started H enc _ F => by rw [OpenClaim.pre_eq_preRow]; exact lifted os started H enc F)
theorem plain (f : FuncId) (fn : Func) (hf : Tryz.pinned.checked.prog.funcNamed "comptoir/comptoirlaw09.CanonBack" = some f) (hfn : Tryz.pinned.checked.prog.funcs[f]? = some fn) :
    true = Tryz.pinned.checked.prog.looks [] ∧ ∀ (j : Nat) t, fn.params[j]? = some t → Tryz.pinned.checked.prog.wantsStandIn t = false := by
  obtain rfl : f = 10 := Option.some.inj ((show Tryz.prog.funcNamed "comptoir/comptoirlaw09.CanonBack" = some 10 by kernel_rfl).symm.trans hf) |>.symm
  obtain rfl : fn = Tryz.f10 := (Option.some.inj (Tryz.func10.symm.trans hfn)).symm
  refine ⟨by kernel_rfl, fun j t ht => ?_⟩
  rw [Tryz.params10] at ht
  obtain rfl | rfl : t = 34 ∨ t = 9 := by simpa using Array.mem_of_getElem? ht
  · exact (show Tryz.prog.wantsStandIn 34 = false by kernel_rfl)
  · exact (show Tryz.prog.wantsStandIn 9 = false by kernel_rfl)
theorem card : Rows.CanonBackUptoCardSaid :=
  Claim7.holds_tied_plain_at .later [] _ _ _ _ said (fun _ h => by cases h) (by kernel_rfl) (fun _ h => by cases h) canonBackUpto_row_tie rfl ⟨rfl, rfl⟩ (by kernel_rfl) rfl plain (by kernel_rfl)
#print axioms card
end LCanonBack
end Go.Proofs.YtpejbkckppnamaaGreatDoor
