/-
  From a contract of this seat in the machine's words to the given row.
-/
import Derived.Test.YtpejbkckppnamaaGreatDoorTok
import Derived.Test.YtpejbkckppnamaaGreatDoorCards
import Derived.Test.YtpejbkckppnamaaGreatDoorTie
import Derived.WalkKit
import Derived.ProofKit
import Derived.OpenShut
import Derived.Deep.DeepHandedRow
import Derived.Lib.LaidTab
import Derived.Lib.LaidU8
import Derived.Shelf.Vars
import Derived.ChangeSame
import Derived.SliceStrings
import Derived.Carry
set_option linter.all false
set_option linter.unusedVariables false
set_option linter.unusedSimpArgs false
namespace Go.Ab.Sz
open Go Go.Ab Go.Proofs Go.RowKit Go.ChangeShapes Go.WideShapes Go.ChangeAt
set_option maxRecDepth 100000
/-- Memory as it is when the call begins. -/
def memC (W : World) : Cz := { M := fun b o => W.cell? ⟨b, o, none⟩, nv := 0, ρ := fun _ => 0, nr := 0, row := fun _ => ⟨0, 0, 0, 0, false⟩, base := W.heap.size, w0 := W }
abbrev laidL : List (String × DataW Unit) := [("math/bits.deBruijn32tab", Go.Proofs.YtpejbkckppnamaaGreatDoor.Rows.laid_math_bits_deBruijn32tab), ("math/bits.deBruijn64tab", Go.Proofs.YtpejbkckppnamaaGreatDoor.Rows.laid_math_bits_deBruijn64tab), ("internal/strconv.uint64pow10", Go.Proofs.YtpejbkckppnamaaGreatDoor.Rows.laid_internal_strconv_uint64pow10), ("unicode/utf8.acceptRanges", Go.Proofs.YtpejbkckppnamaaGreatDoor.Rows.laid_unicode_utf8_acceptRanges), ("strconv.ErrRange", Go.Proofs.YtpejbkckppnamaaGreatDoor.Rows.laid_strconv_ErrRange), ("strconv.ErrSyntax", Go.Proofs.YtpejbkckppnamaaGreatDoor.Rows.laid_strconv_ErrSyntax), ("unicode/utf8.first", Go.Proofs.YtpejbkckppnamaaGreatDoor.Rows.laid_unicode_utf8_first)]
theorem own : ownKnob Tryz.prog.godebug = none := by kernel_rfl
theorem n0 : Tryz.prog.globalNamed "unicode/utf8.first" = some 0 := by kernel_rfl
theorem n1 : Tryz.prog.globalNamed "unicode/utf8.acceptRanges" = some 1 := by kernel_rfl
theorem y0 : (Tryz.prog.globals[0]?).map (·.type) = some 104 := by kernel_rfl
theorem y1 : (Tryz.prog.globals[1]?).map (·.type) = some 107 := by kernel_rfl
theorem y2 : (Tryz.prog.globals[2]?).map (·.type) = some 3 := by kernel_rfl
theorem cE : Tryz.prog.cellsOf 5 = 1 := by kernel_rfl
theorem cF : Tryz.prog.cellsOf 104 = 256 := by kernel_rfl
theorem cR : Tryz.prog.cellsOf 106 = 2 := by kernel_rfl
theorem first_is : Go.Proofs.YtpejbkckppnamaaGreatDoor.Rows.laid_unicode_utf8_first = Lib.firstData := by kernel_rfl
theorem accept_is : (Go.Proofs.YtpejbkckppnamaaGreatDoor.Rows.laid_unicode_utf8_acceptRanges : DataW Unit) = Lib.acceptData := by kernel_rfl
theorem u8 {W : World} (h : laidMet Tryz.prog laidL W) : Lib.Utf8Tabs 0 1 W := by
  have h3 := Lib.laidMet.reads h (n := "unicode/utf8.first") (d := Lib.firstData) (by rw [← first_is]; simp)
  have h4 := Lib.laidMet.reads h (n := "unicode/utf8.acceptRanges") (d := Lib.acceptData) (by rw [← accept_is]; simp)
  refine ⟨fun c hc => ?_, fun i hi => ?_⟩
  · obtain ⟨g, t, cs, fuel, p, hg, hty, hvar, hd⟩ := h3
    obtain rfl := Option.some.inj (n0.symm.trans hg)
    obtain rfl := Option.some.inj (y0.symm.trans hty)
    have hcs := Lib.cells_of_tab Tryz.underlying104 Tryz.underlying5 cE cF hd
    rw [World.var?_cell hg hvar c, ← Array.getElem?_toList, hcs]
    simp [Lib.firstTab, hc]
  · obtain ⟨g, t, cs, fuel, p, hg, hty, hvar, hd⟩ := h4
    obtain rfl := Option.some.inj (n1.symm.trans hg)
    obtain rfl := Option.some.inj (y1.symm.trans hty)
    obtain ⟨fuel', d, q, hdi, he⟩ := Lib.array_elem Tryz.underlying107 hd i hi
    simp only [List.getElem?_map, List.getElem?_range hi, Option.map_some, Option.some.injEq] at hdi
    subst hdi
    rw [cR] at he
    have hcs := Lib.ints_of_struct Tryz.underlying106 (fun j f hj => by
      match j, hj with
      | 0, hj => simp at hj; subst hj; exact ⟨Tryz.underlying5, rfl, cE⟩
      | 1, hj => simp at hj; subst hj; exact ⟨Tryz.underlying5, rfl, cE⟩
      | j + 2, hj => simp at hj) (by rw [cR]; rfl) he
    have e0 := congrArg (·[0]?) hcs
    have e1 := congrArg (·[1]?) hcs
    simp only [List.getElem?_take, List.getElem?_drop] at e0 e1
    constructor
    · rw [World.var?_cell hg hvar (2 * i), ← Array.getElem?_toList]
      simpa [Nat.mul_comm] using e0
    · rw [World.var?_cell hg hvar (2 * i + 1), ← Array.getElem?_toList]
      simpa [Nat.mul_comm] using e1
theorem maxLen_is {W : World} (h : W.ShapedOpen Tryz.prog) : ∃ m, W.cell? ⟨2, 0, none⟩ = some (.int .i64 m) :=
  cell_of_shapedOpen_int (t := 3) (zero := #[.int .i64 0]) h (of_decide_eq_true (by kernel_rfl)) (by kernel_rfl) rfl (by kernel_rfl) (by kernel_rfl) Tryz.underlying3
theorem mem_range_map {α β : Type} {l : List α} {f : α → β} {j : Nat} {v : β} (h : (l.map f)[j]? = some v) : ∃ a, l[j]? = some a ∧ f a = v := by
  rw [List.getElem?_map] at h
  cases hl : l[j]? with
  | none => rw [hl] at h; cases h
  | some a => rw [hl] at h; exact ⟨a, rfl, by simpa using h⟩
theorem repL_ints {C : Cz} {k : IntKind} : ∀ (l : List Int), RepL C (l.map fun n => .int k n) (l.map fun n => .int k n)
  | [] => .nil
  | n :: l => .cons _ _ _ _ (.int k n) (repL_ints l)
def accV : List Int := (List.range 16).flatMap fun i => [(Lib.accLo i : Int), (Lib.accHi i : Int)]
theorem accL_eq : accL = accV.map fun n => .int .u8 n := by simp only [accL, accV, List.map_flatMap]; rfl
theorem firstL_eq : firstL = Lib.firstTab.map fun n => .int .u8 n := by simp only [firstL, Lib.firstTab, List.map_map]; rfl
theorem accV_at : ∀ j, j < 32 → accV[j]? = some (if j % 2 = 0 then (Lib.accLo (j / 2) : Int) else (Lib.accHi (j / 2) : Int)) := by decide
theorem accV_len : accV.length = 32 := by decide
theorem tabs_ok {W : World} (hL : laidMet Tryz.prog laidL W) {m : Int} (hm : W.cell? ⟨2, 0, none⟩ = some (.int .i64 m)) : GOK (gD m) (memC W) := by
  have hu := u8 hL
  intro g cs hg
  unfold gD at hg
  split at hg
  · rename_i h; subst h; cases hg
    rw [firstL_eq]
    refine ⟨_, repL_ints _, fun j v hv => ?_⟩
    obtain ⟨x, hx, rfl⟩ := mem_range_map hv
    obtain ⟨c, hc, rfl⟩ := mem_range_map (show (((List.range 256).map fun c => (Lib.firstT c : Int)))[j]? = some x from hx)
    have hlt : j < 256 := by have := (List.getElem?_eq_some_iff.1 hc).1; simpa using this
    have : c = j := by rw [List.getElem?_range hlt] at hc; exact (Option.some.inj hc).symm
    subst this
    exact hu.1 c hlt
  · split at hg
    · rename_i h; subst h; cases hg
      rw [accL_eq]
      refine ⟨_, repL_ints _, fun j v hv => ?_⟩
      obtain ⟨x, hx, rfl⟩ := mem_range_map hv
      have hlt : j < 32 := by have := (List.getElem?_eq_some_iff.1 hx).1; rwa [accV_len] at this
      rw [accV_at j hlt] at hx
      have h2 := hu.2 (j / 2) (by omega)
      split at hx
      · cases hx
        have := h2.1
        rw [show 2 * (j / 2) = j by omega] at this
        exact this
      · cases hx
        have := h2.2
        rw [show 2 * (j / 2) + 1 = j by omega] at this
        exact this
    · split at hg
      · rename_i h; subst h; cases hg
        refine ⟨[.int .i64 m], .cons _ _ _ _ (.int _ _) .nil, fun j v hv => ?_⟩
        cases j with
        | zero => cases hv; exact hm
        | succ j => simp at hv
      · cases hg
/-- A contract of data alone, at the world in which the call begins. -/
theorem law_calls {f : FuncId} {fn : Func} (hf : Tryz.prog.funcs[f]? = some fn) (hb : fn.body.isSome = true) (hn : (fn.name == "runtime.NumGoroutine") = false) {args : List AV} (hd : DataL args)
    (h : ∀ m, ACalls Tryz.prog (gD m) f args ⟨[], []⟩ (fun r _ => r = .bool true)) {W : World} (hL : laidMet Tryz.prog laidL W) (hS : W.ShapedOpen Tryz.prog) {vs : List Value} (ha : RepL (memC W) args vs) :
    Calls Tryz.prog f vs.toArray W (fun e W' => e = .returned (.bool true) ∧ Below W.heap.size W W') := by
  obtain ⟨m, hm⟩ := maxLen_is hS
  refine ((h m).to_calls hf hb hn hd gD_data (C := memC W) (W := W) (fun _ _ _ e => e) (tabs_ok hL hm) ha).mono ?_
  rintro e w' ⟨v, r, D, rfl, hr, rfl, hbel⟩
  cases hr
  exact ⟨rfl, hbel⟩
section
variable {H : Type} {enc : TypeId × Value → H} {P : Program}
/-- A law's last step: true; the arguments as they were; below the heap all as it was. -/
theorem law_post {f : Func} {s : ChangeSpec} {apart fresh handsOn again : Bool} {W W' : World} {args : Array Value} {v : Value} {ds gs : List (DataW H)} {before pa pv : List MemPlace}
    (hW : DataW.Whole enc P f.params.toList s.vars apart W args.toList ds gs before)
    (hres : ∀ (b : Nat) (sp : Nat → Bool) (hd : Bool), DataW.TrodAll enc P W' b sp hd f.resultTypes.toList (v.resultList f.resultTypes.size) (s.fn H (ds ++ gs)).results [])
    (hargs : ∀ sp : Nat → Bool, (∀ p ∈ before, sp p.block = true) → DataW.TrodAll enc P W' 0 sp true f.params.toList args.toList (s.fn H (ds ++ gs)).args pa)
    (hvars : ∀ sp : Nat → Bool, (∀ p ∈ before, sp p.block = true) → DataW.TrodVars enc P W' sp s.vars (s.fn H (ds ++ gs)).vars pv)
    (hps : before = pa ++ pv) (hb : Below W.heap.size W W')
    (hok : ∀ (j : Nat) (t : TypeId) (r : Value), f.resultTypes[j]? = some t → (v.resultList f.resultTypes.size)[j]? = some r → Value.okWide P W' .any 0 t r) :
    s.post enc P f apart fresh handsOn again W args v W' := by
  have hlt : ∀ p ∈ before, p.block < W.heap.size := fun p hp => hW.lt p hp
  have hold : ∀ p ∈ before, (fun b => decide (b < W.heap.size)) p.block = true := fun p hp => by simpa using hlt p hp
  refine ⟨ds, gs, before, [], pa, pv, hW, hres _ _ _, hargs _ hold, hvars _ hold, World.keptBut_mono (fun p hp => ⟨hp, by rw [hps, List.mem_append] at hp; exact .inr hp⟩) (hb.frame (· ∈ before)), fun _ => ?_⟩
  obtain ⟨_, _, _, _, _, hz, hn⟩ := hW
  refine ⟨hok, _, _, ([] ++ pa) ++ pv, ⟨[] ++ pa, pv, trodAll_append (hargs _ (fun _ _ => rfl)) (hres _ _ _), hvars _ (fun _ _ => rfl), rfl, ?_, ?_⟩, ?_⟩
  · intro b off hp
    have hin : MemPlace.cell b off ∈ before := by rw [hps]; simpa using hp
    rw [hb.frozen (hlt _ hin)]
    exact hz b off hin
  · intro ha
    have := hn ha
    rw [hps] at this
    simpa using this
  · intro p hp _
    rw [hps]
    simpa using hp
end
end Go.Ab.Sz
namespace Go.Ab.Sz
open Go Go.Ab Go.Proofs Go.RowKit Go.ChangeShapes Go.WideShapes Go.ChangeAt
set_option maxRecDepth 100000
def lit1 : DataW Unit → Value
  | .lit (.int k n) => .int k n
  | _ => .nilIface
def lits1 : DataW Unit → List Value
  | .agg l => l.map lit1
  | _ => []
def lits2 : DataW Unit → List Value
  | .agg l => l.flatMap lits1
  | _ => []
def textOf : DataW Unit → ByteArray
  | .iface _ (.ptr (.agg [.lit (.string l)])) => ⟨l.toArray⟩
  | _ => ⟨#[]⟩
noncomputable def low : Nat := (World.holding Tryz.prog default ⟨#[], #[], []⟩).heap.size
def putG (g : Nat) (vs : List Value) (heap : Array Obj) : Array Obj := heap.modify g fun
  | .cells _ t frozen => .cells vs.toArray t frozen
  | o => o
noncomputable def world0 (os : Os) : World := World.holding Tryz.prog os ⟨#[.cells #[.string (textOf Go.Proofs.YtpejbkckppnamaaGreatDoor.Rows.laid_strconv_ErrSyntax)] 226, .cells #[.string (textOf Go.Proofs.YtpejbkckppnamaaGreatDoor.Rows.laid_strconv_ErrRange)] 226], #[], []⟩
noncomputable def laidHeap (h : Array Obj) : Array Obj :=
  putG 0 (lits1 Go.Proofs.YtpejbkckppnamaaGreatDoor.Rows.laid_unicode_utf8_first) <| putG 1 (lits2 Go.Proofs.YtpejbkckppnamaaGreatDoor.Rows.laid_unicode_utf8_acceptRanges) <|
      putG 3 [.iface 224 (.pointer (some ⟨low, 0, none⟩))] <| putG 4 [.iface 224 (.pointer (some ⟨low + 1, 0, none⟩))] <|
      putG 5 (lits1 Go.Proofs.YtpejbkckppnamaaGreatDoor.Rows.laid_internal_strconv_uint64pow10) <| putG 6 (lits1 Go.Proofs.YtpejbkckppnamaaGreatDoor.Rows.laid_math_bits_deBruijn32tab) <| putG 7 (lits1 Go.Proofs.YtpejbkckppnamaaGreatDoor.Rows.laid_math_bits_deBruijn64tab) h
noncomputable def laidWorld (os : Os) : World := { world0 os with heap := laidHeap (world0 os).heap }
theorem laid_met (os : Os) (args : Array Value) : laidMet Tryz.prog laidL ((laidWorld os).forCall (fun _ _ => 0) ⟨#[], args, []⟩).memory :=
  laidMet_of_run' 8 (by kernel_rfl) (by kernel_rfl)
end Go.Ab.Sz
namespace Go.Ab.Sz
open Go Go.Ab Go.Proofs Go.RowKit Go.ChangeShapes Go.WideShapes Go.ChangeAt
set_option maxRecDepth 100000
theorem laidOut : laidOutB Tryz.prog = true := by kernel_rfl
section
variable {H : Type} {enc : TypeId × Value → H} {W W' : World}
/-- Below the heap's old size nothing has turned: the arguments read as they did. -/
theorem args_stay (hb : Below W.heap.size W W') (sp : Nat → Bool) : ∀ {ts : List TypeId} {vs : List Value} {ds : List (DataW H)} {ps : List MemPlace}, (∀ t ∈ ts, Tryz.prog.readableRec t = true ∧ t < Tryz.prog.types.size) → DataW.TrodAll enc Tryz.prog W 0 (fun _ => true) true ts vs ds ps →
    (∀ x ∈ ps, x.block < W.heap.size) → (∀ x ∈ ps, sp x.block = true) → DataW.TrodAll enc Tryz.prog W' 0 sp true ts vs ds ps
  | [], [], [], _, _, h, _, _ => h
  | _ :: _, _ :: _, _ :: _, _, hT, ⟨p, q, h1, h2, e⟩, hl, hs => by
    have t0 := hT _ (List.mem_cons.2 (Or.inl rfl))
    refine ⟨p, q, WideElems.Trod_stays laidOut t0.1 t0.2 h1 (fun x hx => hb.same (hl x ?_)) (fun x hx => hs x ?_), args_stay hb sp (fun t ht => hT t (List.mem_cons.2 (Or.inr ht))) h2 (fun x hx => hl x ?_) (fun x hx => hs x ?_), e⟩
    · rw [e]; exact List.mem_append_left _ hx
    · rw [e]; exact List.mem_append_left _ hx
    · rw [e]; exact List.mem_append_right _ hx
    · rw [e]; exact List.mem_append_right _ hx
end
end Go.Ab.Sz
