/-
  From a contract of this seat in the machine's words to the given row.
-/
import Derived.Test.YthpnfkdiacfefaaGreatDoorST
import Derived.Test.YthpnfkdiacfefaaGreatDoorCards
import Derived.Test.YthpnfkdiacfefaaGreatDoorTie
import Derived.WalkKit
import Derived.ProofKit
import Derived.OpenShut
import Derived.Deep.DeepHandedRow
import Derived.Lib.LaidTab
import Derived.Lib.LaidU8
import Derived.Shelf.Vars
import Derived.ChangeSame
import Derived.Carry
import Derived.SliceStrings
import Derived.Deep.Slices
import Derived.ChangeArms
set_option linter.all false
set_option linter.unusedVariables false
set_option linter.unusedSimpArgs false
namespace Go.Ab.Ss
open Go Go.Ab Go.Proofs Go.RowKit Go.ChangeShapes Go.WideShapes Go.ChangeAt
set_option maxRecDepth 100000
/-- Memory as it is when the call begins. -/
def memC (W : World) : Cz := { M := fun b o => W.cell? ⟨b, o, none⟩, nv := 0, ρ := fun _ => 0, nr := 0, row := fun _ => ⟨0, 0, 0, 0, false⟩, base := W.heap.size, w0 := W }
abbrev laidL : List (String × DataW Unit) := [("math/bits.deBruijn32tab", Go.Proofs.YthpnfkdiacfefaaGreatDoor.Rows.laid_math_bits_deBruijn32tab), ("math/bits.deBruijn64tab", Go.Proofs.YthpnfkdiacfefaaGreatDoor.Rows.laid_math_bits_deBruijn64tab), ("internal/strconv.uint64pow10", Go.Proofs.YthpnfkdiacfefaaGreatDoor.Rows.laid_internal_strconv_uint64pow10), ("unicode/utf8.acceptRanges", Go.Proofs.YthpnfkdiacfefaaGreatDoor.Rows.laid_unicode_utf8_acceptRanges), ("strconv.ErrRange", Go.Proofs.YthpnfkdiacfefaaGreatDoor.Rows.laid_strconv_ErrRange), ("strconv.ErrSyntax", Go.Proofs.YthpnfkdiacfefaaGreatDoor.Rows.laid_strconv_ErrSyntax), ("unicode/utf8.first", Go.Proofs.YthpnfkdiacfefaaGreatDoor.Rows.laid_unicode_utf8_first)]
theorem own : ownKnob Tryz.prog.godebug = none := by kernel_rfl
/-- A contract of data alone, at the world in which the call begins. -/
theorem law_calls {f : FuncId} {fn : Func} (hf : Tryz.prog.funcs[f]? = some fn) (hb : fn.body.isSome = true) (hn : (fn.name == "runtime.NumGoroutine") = false) {args : List AV} (hd : DataL args)
    (h : ∀ m, ACalls Tryz.prog (gD m) f args ⟨[], []⟩ (fun r _ => r = .bool true)) {W : World} {vs : List Value} (ha : RepL (memC W) args vs) :
    Calls Tryz.prog f vs.toArray W (fun e W' => e = .returned (.bool true) ∧ Below W.heap.size W W') := by
  refine ((h 0).to_calls hf hb hn hd gD_data (C := memC W) (W := W) (fun _ _ _ e => e) (fun _ _ h => by cases h) ha).mono ?_
  rintro e w' ⟨v, r, D, rfl, hr, rfl, hbel⟩
  cases hr
  exact ⟨rfl, hbel⟩
section
variable {H : Type} {enc : TypeId × Value → H} {P : Program}
/-- A law's last step: true; the arguments as they were; below the heap all as it was. -/
theorem law_post {f : Func} {s : ChangeSpec} {apart fresh handsOn again : Bool} {W W' : World} {args : Array Value} {v : Value} {ds gs : List (DataW H)} {before pa pv : List MemPlace}
    (hW : DataW.Whole enc P f.params.toList s.vars apart W args.toList ds gs before)
    (hres : ∀ (b : Nat) (sp : Nat → Bool) (hd : Bool), DataW.TrodAll enc P W' b sp hd f.resultTypes.toList (v.resultList f.resultTypes.size) (s.fn H (ds ++ gs)).results [])
    (hargs : ∀ sp : Nat → Bool, (∀ p ∈ before, sp p.block = true) → DataW.TrodAll enc P W' 0 sp true f.params.toList args.toList (s.fn H (ds ++ gs)).args pa)
    (hvars : ∀ sp : Nat → Bool, (∀ p ∈ before, sp p.block = true) → DataW.TrodVars enc P W' sp s.vars (s.fn H (ds ++ gs)).vars pv)
    (hps : before = pa ++ pv) (hb : Below W.heap.size W W')
    (hok : ∀ (j : Nat) (t : TypeId) (r : Value), f.resultTypes[j]? = some t → (v.resultList f.resultTypes.size)[j]? = some r → Value.okWide P W' .any 0 t r) :
    s.post enc P f apart fresh handsOn again W args v W' := by
  have hlt : ∀ p ∈ before, p.block < W.heap.size := fun p hp => hW.lt p hp
  have hold : ∀ p ∈ before, (fun b => decide (b < W.heap.size)) p.block = true := fun p hp => by simpa using hlt p hp
  refine ⟨ds, gs, before, [], pa, pv, hW, hres _ _ _, hargs _ hold, hvars _ hold, World.keptBut_mono (fun p hp => ⟨hp, by rw [hps, List.mem_append] at hp; exact .inr hp⟩) (hb.frame (· ∈ before)), fun _ => ?_⟩
  obtain ⟨_, _, _, _, _, hz, hn⟩ := hW
  refine ⟨hok, _, _, ([] ++ pa) ++ pv, ⟨[] ++ pa, pv, trodAll_append (hargs _ (fun _ _ => rfl)) (hres _ _ _), hvars _ (fun _ _ => rfl), rfl, ?_, ?_⟩, ?_⟩
  · intro b off hp
    have hin : MemPlace.cell b off ∈ before := by rw [hps]; simpa using hp
    rw [hb.frozen (hlt _ hin)]
    exact hz b off hin
  · intro ha
    have := hn ha
    rw [hps] at this
    simpa using this
  · intro p hp _
    rw [hps]
    simpa using hp
end
theorem laidOut : laidOutB Tryz.prog = true := by kernel_rfl
section
variable {H : Type} {enc : TypeId × Value → H} {W W' : World}
/-- Below the heap's old size nothing has turned: the arguments read as they did. -/
theorem args_stay (hb : Below W.heap.size W W') (sp : Nat → Bool) : ∀ {ts : List TypeId} {vs : List Value} {ds : List (DataW H)} {ps : List MemPlace}, (∀ t ∈ ts, Tryz.prog.readableRec t = true ∧ t < Tryz.prog.types.size) → DataW.TrodAll enc Tryz.prog W 0 (fun _ => true) true ts vs ds ps →
    (∀ x ∈ ps, x.block < W.heap.size) → (∀ x ∈ ps, sp x.block = true) → DataW.TrodAll enc Tryz.prog W' 0 sp true ts vs ds ps
  | [], [], [], _, _, h, _, _ => h
  | _ :: _, _ :: _, _ :: _, _, hT, ⟨p, q, h1, h2, e⟩, hl, hs => by
    have t0 := hT _ (List.mem_cons.2 (Or.inl rfl))
    refine ⟨p, q, WideElems.Trod_stays laidOut t0.1 t0.2 h1 (fun x hx => hb.same (hl x ?_)) (fun x hx => hs x ?_), args_stay hb sp (fun t ht => hT t (List.mem_cons.2 (Or.inr ht))) h2 (fun x hx => hl x ?_) (fun x hx => hs x ?_), e⟩
    · rw [e]; exact List.mem_append_left _ hx
    · rw [e]; exact List.mem_append_left _ hx
    · rw [e]; exact List.mem_append_right _ hx
    · rw [e]; exact List.mem_append_right _ hx
end
section
variable {H : Type} {enc : TypeId × Value → H} {W : World}
theorem flatMap_len {g : Nat → List Value} {z : Nat} : ∀ (n : Nat), (∀ i, i < n → (g i).length = z) → ((List.range n).flatMap g).length = n * z
  | 0, _ => by simp
  | n + 1, h => by
    rw [List.range_succ, List.flatMap_append, List.length_append, flatMap_len n (fun i hi => h i (by omega)), Nat.add_mul]
    simp [h n (by omega)]
theorem flatMap_get {g : Nat → List Value} {z : Nat} : ∀ (n : Nat), (∀ i, i < n → (g i).length = z) → ∀ (j : Nat) (v : Value), ((List.range n).flatMap g)[j]? = some v → ∃ i r, i < n ∧ r < z ∧ j = i * z + r ∧ (g i)[r]? = some v
  | 0, _, j, v, h => by simp at h
  | n + 1, hg, j, v, h => by
    have hl := flatMap_len n (fun i hi => hg i (by omega))
    rw [List.range_succ, List.flatMap_append] at h
    rcases Nat.lt_or_ge j (n * z) with hlt | hge
    · rw [List.getElem?_append_left (by rw [hl]; exact hlt)] at h
      obtain ⟨i, r, a, b, c, d⟩ := flatMap_get n (fun i hi => hg i (by omega)) j v h
      exact ⟨i, r, by omega, b, c, d⟩
    · rw [List.getElem?_append_right (by rw [hl]; exact hge), hl] at h
      have h' : (g n)[j - n * z]? = some v := by simpa using h
      have hr := (List.getElem?_eq_some_iff.1 h').1
      rw [hg n (by omega)] at hr
      exact ⟨n, j - n * z, by omega, hr, by omega, h'⟩
theorem repL_flat {C : Cz} {α : Type} {f : α → List AV} {q : Nat → List Value × α} : ∀ (is : List Nat), (∀ i ∈ is, RepL C (f (q i).2) (q i).1) → RepL C ((is.map fun i => (q i).2).map f).flatten (is.flatMap fun i => (q i).1)
  | [], _ => .nil
  | i :: is, h => by
    simp only [List.map_cons, List.flatten_cons, List.flatMap_cons]
    exact (h i (by simp)).append (repL_flat is fun k hk => h k (by simp [hk]))
/-- A slice, element by element. -/
theorem slice_rep {α : Type} [Inhabited α] {t e : TypeId} {z : Nat} (f : α → List AV) (Q : α → DataW H → Prop) (ht : Tryz.prog.underlying t = some (.slice e)) (ce : Tryz.prog.cellsOf e = z) (hz : 0 < z) (hf : ∀ x, (f x).length = z)
    (he : ∀ (n : Nat) (cs : List Value) (x : DataW H × List MemPlace), cs.length = z → DataW.trod enc Tryz.prog W 0 (fun _ => true) true n e cs = some x → ∃ c : α, RepL (memC W) (f c) cs ∧ Q c x.1)
    {v : Value} {fuel : Nat} {x : DataW H × List MemPlace} (hv : ∃ a len cap, v = .slice a len cap) (h : DataW.trod enc Tryz.prog W 0 (fun _ => true) true fuel t [v] = some x) :
    ∃ (l : List α) (v0 : AV), ((v0 = .nils ∧ l = []) ∨ v0 = .sl (l.map f)) ∧ Rep (memC W) v0 v ∧ ((x.1 = .nil ∧ l = []) ∨ ∃ elems spare, x.1 = .slice elems spare ∧ elems.length = l.length ∧ ∀ (i : Nat) c, l[i]? = some c → ∃ d, elems[i]? = some d ∧ Q c d) := by
  obtain ⟨a0, n0, c0, rfl⟩ := hv
  rcases Go.Deep.open_slice ht h with ⟨hcs, hx⟩ | ⟨a, len, cap, m, n, D, Pl, hcs, _, hl, hm, hmm, hx, hel⟩
  · obtain ⟨rfl, rfl, rfl⟩ : a0 = none ∧ n0 = 0 ∧ c0 = 0 := by simpa using hcs
    exact ⟨[], .nils, .inl ⟨rfl, rfl⟩, .nils, .inl ⟨by rw [hx], rfl⟩⟩
  · obtain ⟨rfl, rfl, rfl⟩ : a0 = some a ∧ n0 = len ∧ c0 = cap := by simpa using hcs
    simp only [if_true] at hmm
    subst hmm
    have each : ∀ i, i < n0 → ∃ q : List Value × α, W.cells? 0 (a.add (i * z)) z = some q.1 ∧ q.1.length = z ∧ RepL (memC W) (f q.2) q.1 ∧ Q q.2 (D i) := fun i hi => by
      obtain ⟨cs', h1, h2⟩ := hel i (by omega)
      rw [ce] at h1
      obtain ⟨_, hlen, _⟩ := World.cells?_some h1
      obtain ⟨c, hr, hq⟩ := he n cs' _ hlen h2
      exact ⟨(cs', c), h1, hlen, hr, hq⟩
    obtain ⟨q, hq⟩ := Go.Deep.choose_lt each
    refine ⟨(List.range n0).map fun i => (q i).2, .sl (((List.range n0).map fun i => (q i).2).map f), .inr rfl, ?_, .inr ⟨_, _, by rw [hx], by simp, fun i c hc => ?_⟩⟩
    · by_cases h0 : n0 = 0
      · subst h0
        exact .sl0 _ _
      · have hsp : a.spot = none := by
          obtain ⟨_, hlen, hcell⟩ := World.cells?_some (hq 0 (by omega)).1
          have := hcell 0 hz
          rw [List.getElem?_eq_getElem (by omega)] at this
          simpa [Addr.add] using World.cell?_spot this
        obtain ⟨b, o, sp⟩ := a
        simp only at hsp
        subst hsp
        have key := Rep.sl (C := memC W) (((List.range n0).map fun i => (q i).2).map f) z ((List.range n0).flatMap fun i => (q i).1) b o _ (fun e he => by obtain ⟨s, _, rfl⟩ := List.mem_map.1 he; exact hf s) (by simpa using hl)
          (repL_flat _ fun i hi => (hq i (List.mem_range.1 hi)).2.2.1) (fun j v hj => by
            obtain ⟨i, r, hi, hr, rfl, hg⟩ := flatMap_get n0 (fun i hi => (hq i hi).2.1) j v hj
            obtain ⟨_, hlen, hcell⟩ := World.cells?_some (hq i hi).1
            have := hcell r hr
            rw [Addr.add_mid, Addr.add_mid, hg] at this
            simp only [memC]
            rw [← Nat.add_assoc]
            exact this)
        rw [List.length_map, List.length_map, List.length_range] at key
        exact key
    · rw [List.getElem?_map] at hc
      have hi : i < n0 := by
        rcases Nat.lt_or_ge i n0 with h | h
        · exact h
        · rw [List.getElem?_eq_none (by simpa using h)] at hc; cases hc
      rw [List.getElem?_range hi] at hc
      cases hc
      exact ⟨D i, by rw [List.getElem?_map, List.getElem?_range hi]; rfl, (hq i hi).2.2.2⟩
open Go.Proofs.YthpnfkdiacfefaaGreatDoor.Rows in
theorem bulk_pos (d : DataW H) : 1 ≤ uptoBulk d := by
  cases d with
  | lit x => cases x <;> simp [uptoBulk]
  | _ => simp [uptoBulk]
theorem sum_ones {α : Type} : ∀ l : List α, (l.map fun _ => 1).sum = l.length
  | [] => rfl
  | _ :: l => by have := sum_ones l; simp only [List.map_cons, List.sum_cons, List.length_cons, this]; omega
open Go.Proofs.YthpnfkdiacfefaaGreatDoor.Rows in
/-- The sum of what each holds. -/
theorem bulk_sum {α : Type} (g : α → Nat) : ∀ (l : List α) (els : List (DataW H)), els.length = l.length → (∀ (i : Nat) c, l[i]? = some c → ∃ d, els[i]? = some d ∧ g c ≤ uptoBulk d) → (l.map g).sum ≤ uptoBulkAll els
  | [], _, _, _ => by simp
  | c :: l, [], h, _ => by simp at h
  | c :: l, d :: els, h, hq => by
    obtain ⟨d', h1, h2⟩ := hq 0 c rfl
    cases h1
    have := bulk_sum g l els (by simpa using h) (fun i c hc => hq (i + 1) c hc)
    simp only [List.map_cons, List.sum_cons, uptoBulkAll]
    omega
theorem cInt : Tryz.prog.cellsOf 3 = 1 := by kernel_rfl
theorem cU8 : Tryz.prog.cellsOf 5 = 1 := by kernel_rfl
theorem cBytes : Tryz.prog.cellsOf 24 = 1 := by kernel_rfl
theorem cFrame : Tryz.prog.cellsOf 26 = 2 := by kernel_rfl
theorem cFrames : Tryz.prog.cellsOf 23 = 1 := by kernel_rfl
theorem byte_rep (n : Nat) (cs : List Value) (x : DataW H × List MemPlace) (_ : cs.length = 1) (h : DataW.trod enc Tryz.prog W 0 (fun _ => true) true n 5 cs = some x) : ∃ c : UInt8, RepL (memC W) [.int .u8 c.toNat] cs ∧ True := by
  obtain ⟨k, rfl, _, hw⟩ := DataW.trod_int Tryz.underlying5 h
  have hx : 0 ≤ k ∧ k ≤ 255 := by simpa [Lit.wf, IntKind.min, IntKind.max, IntKind.signed, IntKind.bits] using hw
  refine ⟨UInt8.ofNat k.toNat, .cons _ _ _ _ ?_ .nil, trivial⟩
  have : ((UInt8.ofNat k.toNat).toNat : Int) = k := by simp; omega
  rw [this]; exact .int _ _
open Go.Proofs.YthpnfkdiacfefaaGreatDoor.Rows in
theorem bytes_rep {n : Nat} {v : Value} {x : DataW H × List MemPlace} (h : DataW.trod enc Tryz.prog W 0 (fun _ => true) true n 24 [v] = some x) : ∃ (nn : Bool) (l : List UInt8), Rep (memC W) (lsq nn (bytesE l)) v ∧ l.length + 1 ≤ uptoBulk x.1 := by
  have hv : ∃ a len cap, v = .slice a len cap := by
    rcases DataW.trod_slice Tryz.underlying24 h with ⟨e, _⟩ | ⟨a, len, cap, _, _, _, _, e, _⟩
    · exact ⟨none, 0, 0, by simpa using e⟩
    · exact ⟨some a, len, cap, by simpa using e⟩
  obtain ⟨l, v0, h1, h2, h3⟩ := slice_rep (H := H) (enc := enc) (W := W) (fun b : UInt8 => [AV.int .u8 b.toNat]) (fun _ _ => True) Tryz.underlying24 cU8 (by decide) (fun _ => rfl) (fun n cs x hl h => byte_rep n cs x hl h) hv h
  have hw : l.length + 1 ≤ uptoBulk x.1 := by
    rcases h3 with ⟨hx, rfl⟩ | ⟨elems, spare, hx, hel, hq⟩
    · exact bulk_pos _
    · rw [hx]
      have := bulk_sum (fun _ : UInt8 => 1) l elems hel (fun i c hc => by
        obtain ⟨d, hd, _⟩ := hq i c hc
        exact ⟨d, hd, bulk_pos d⟩)
      rw [sum_ones] at this
      simp only [uptoBulk]; omega
  rcases h1 with ⟨rfl, rfl⟩ | rfl
  · exact ⟨false, [], h2, hw⟩
  · exact ⟨true, l, by rw [lsq_sl]; exact h2, hw⟩
open Go.Proofs.YthpnfkdiacfefaaGreatDoor.Rows in
theorem frame_rep (n : Nat) (cs : List Value) (x : DataW H × List MemPlace) (hl : cs.length = 2) (h : DataW.trod enc Tryz.prog W 0 (fun _ => true) true n 26 cs = some x) : ∃ f : Fr, RepL (memC W) f.c cs ∧ f.b.length + 1 ≤ uptoBulk x.1 := by
  obtain ⟨xs, k, rfl, hxy, _, hxl, hf⟩ := DataW.trod_struct Tryz.underlying26 h
  match xs, hxl, cs, hl with
  | [y0, y1], _, [v0, v1], _ =>
    have g0 := hf 0 _ rfl
    have g1 := hf 1 _ rfl
    simp only [cInt, cBytes, List.drop_zero, List.drop_succ_cons, List.take_succ_cons, List.take_zero, List.getElem?_cons_zero, List.getElem?_cons_succ] at g0 g1
    obtain ⟨k0, e0, _, _⟩ := DataW.trod_int Tryz.underlying3 g0
    obtain ⟨nn, l, hr, hw⟩ := bytes_rep g1
    cases e0
    refine ⟨⟨k0, l, nn⟩, .cons _ _ _ _ (.int _ _) (.cons _ _ _ _ hr .nil), ?_⟩
    rw [hxy]
    simp only [List.map_cons, List.map_nil, uptoBulk, uptoBulkAll]
    omega
instance : Inhabited Fr := ⟨⟨0, [], false⟩⟩
instance : Inhabited Stp := ⟨⟨[], false⟩⟩
theorem sumF_ten : ∀ l : List Fr, sumF l ≤ 10 * (l.map fun f => f.b.length + 1).sum
  | [] => by simp [sumF]
  | f :: l => by have := sumF_ten l; rw [sumF_cons]; simp only [List.map_cons, List.sum_cons]; omega
open Go.Proofs.YthpnfkdiacfefaaGreatDoor.Rows in
theorem step_rep (n : Nat) (cs : List Value) (x : DataW H × List MemPlace) (hl : cs.length = 1) (h : DataW.trod enc Tryz.prog W 0 (fun _ => true) true n 23 cs = some x) : ∃ s : Stp, RepL (memC W) s.c cs ∧ sumF s.l + 10 ≤ 10 * uptoBulk x.1 := by
  obtain ⟨v, rfl⟩ : ∃ v, cs = [v] := by match cs, hl with | [v], _ => exact ⟨v, rfl⟩
  have hv : ∃ a len cap, v = .slice a len cap := by
    rcases DataW.trod_slice Tryz.underlying23 h with ⟨e, _⟩ | ⟨a, len, cap, _, _, _, _, e, _⟩
    · exact ⟨none, 0, 0, by simpa using e⟩
    · exact ⟨some a, len, cap, by simpa using e⟩
  obtain ⟨l, v0, h1, h2, h3⟩ := slice_rep (H := H) (enc := enc) (W := W) Fr.c (fun f d => f.b.length + 1 ≤ uptoBulk d) Tryz.underlying23 cFrame (by decide) (fun _ => rfl) (fun n cs x hl h => frame_rep n cs x hl h) hv h
  have hw : sumF l + 10 ≤ 10 * uptoBulk x.1 := by
    have h10 := sumF_ten l
    rcases h3 with ⟨hx, rfl⟩ | ⟨elems, spare, hx, hel, hq⟩
    · have := bulk_pos x.1
      simp [sumF]; omega
    · rw [hx]
      have := bulk_sum (fun f : Fr => f.b.length + 1) l elems hel hq
      simp only [uptoBulk]; omega
  rcases h1 with ⟨rfl, rfl⟩ | rfl
  · exact ⟨⟨[], false⟩, .cons _ _ _ _ h2 .nil, hw⟩
  · exact ⟨⟨l, true⟩, .cons _ _ _ _ (by rw [lsq_sl]; exact h2) .nil, hw⟩
theorem sumS_ten : ∀ l : List Stp, (l.map fun s => sumF s.l + 10).sum = sumS l + 10 * l.length
  | [] => by simp [sumS]
  | s :: l => by have := sumS_ten l; rw [sumS_cons]; simp only [List.map_cons, List.sum_cons, List.length_cons]; omega
theorem bulk_sum10 {α : Type} (g : α → Nat) : ∀ (l : List α) (els : List (DataW H)), els.length = l.length → (∀ (i : Nat) c, l[i]? = some c → ∃ d, els[i]? = some d ∧ g c ≤ 10 * Go.Proofs.YthpnfkdiacfefaaGreatDoor.Rows.uptoBulk d) → (l.map g).sum ≤ 10 * Go.Proofs.YthpnfkdiacfefaaGreatDoor.Rows.uptoBulkAll els
  | [], _, _, _ => by simp
  | c :: l, [], h, _ => by simp at h
  | c :: l, d :: els, h, hq => by
    obtain ⟨d', h1, h2⟩ := hq 0 c rfl
    cases h1
    have := bulk_sum10 g l els (by simpa using h) (fun i c hc => hq (i + 1) c hc)
    simp only [List.map_cons, List.sum_cons, Go.Proofs.YthpnfkdiacfefaaGreatDoor.Rows.uptoBulkAll]
    omega
open Go.Proofs.YthpnfkdiacfefaaGreatDoor.Rows in
/-- Frames, step by step, that come from without. -/
theorem steps_rep {v : Value} {d : DataW H} {ps : List MemPlace} (hv : ∃ a len cap, v = .slice a len cap) (h : DataW.Trod enc Tryz.prog W 0 (fun _ => true) true 22 v d ps) :
    ∃ (l : List Stp) (v0 : AV), (∀ τ, Rd 1 τ v0 (l.map Stp.c)) ∧ (∀ τ, elsA τ v0 = some (l.map Stp.c)) ∧ Data v0 ∧ Rep (memC W) v0 v ∧ sumS l + 10 * l.length ≤ 10 * uptoBulk d := by
  obtain ⟨fuel, hf⟩ := h
  have hf' : DataW.trod enc Tryz.prog W 0 (fun _ => true) true fuel 22 [v] = some (d, ps) := by
    obtain ⟨a, len, cap, rfl⟩ := hv
    simpa [Value.cells] using hf
  obtain ⟨l, v0, h1, h2, h3⟩ := slice_rep (H := H) (enc := enc) (W := W) Stp.c (fun s d => sumF s.l + 10 ≤ 10 * uptoBulk d) Tryz.underlying22 cFrames (by decide) (fun _ => rfl) (fun n cs x hl h => step_rep n cs x hl h) hv hf'
  refine ⟨l, v0, fun τ => ⟨stp_len l, ?_⟩, fun τ => ?_, ?_, h2, ?_⟩
  · rcases h1 with ⟨rfl, rfl⟩ | rfl
    · exact .inl ⟨rfl, rfl⟩
    · exact .inr (.inr (.inl rfl))
  · rcases h1 with ⟨rfl, rfl⟩ | rfl <;> rfl
  · rcases h1 with ⟨rfl, _⟩ | rfl
    · exact .nils
    · exact .sl _ (data_flat fun s _ => stp_data s)
  · rcases h3 with ⟨_, rfl⟩ | ⟨elems, spare, hx, hel, hq⟩
    · simp [sumS]
    · simp only at hx
      rw [hx, ← sumS_ten]
      have := bulk_sum10 (fun s : Stp => sumF s.l + 10) l elems hel hq
      simp only [uptoBulk]; omega
end
end Go.Ab.Ss
namespace Go.Ab.Ss
open Go Go.Ab Go.Proofs Go.RowKit Go.ChangeShapes Go.WideShapes Go.ChangeAt
set_option maxRecDepth 100000
def lit1 : DataW Unit → Value
  | .lit (.int k n) => .int k n
  | _ => .nilIface
def lits1 : DataW Unit → List Value
  | .agg l => l.map lit1
  | _ => []
def lits2 : DataW Unit → List Value
  | .agg l => l.flatMap lits1
  | _ => []
def textOf : DataW Unit → ByteArray
  | .iface _ (.ptr (.agg [.lit (.string l)])) => ⟨l.toArray⟩
  | _ => ⟨#[]⟩
noncomputable def low : Nat := (World.holding Tryz.prog default ⟨#[], #[], []⟩).heap.size
def putG (g : Nat) (vs : List Value) (heap : Array Obj) : Array Obj := heap.modify g fun
  | .cells _ t frozen => .cells vs.toArray t frozen
  | o => o
noncomputable def world0 (os : Os) : World := World.holding Tryz.prog os ⟨#[.cells #[.string (textOf Go.Proofs.YthpnfkdiacfefaaGreatDoor.Rows.laid_strconv_ErrSyntax)] 424, .cells #[.string (textOf Go.Proofs.YthpnfkdiacfefaaGreatDoor.Rows.laid_strconv_ErrRange)] 424], #[], []⟩
noncomputable def laidHeap (h : Array Obj) : Array Obj :=
  putG 0 (lits1 Go.Proofs.YthpnfkdiacfefaaGreatDoor.Rows.laid_unicode_utf8_first) <| putG 1 (lits2 Go.Proofs.YthpnfkdiacfefaaGreatDoor.Rows.laid_unicode_utf8_acceptRanges) <|
      putG 6 [.iface 422 (.pointer (some ⟨low, 0, none⟩))] <| putG 7 [.iface 422 (.pointer (some ⟨low + 1, 0, none⟩))] <|
      putG 3 (lits1 Go.Proofs.YthpnfkdiacfefaaGreatDoor.Rows.laid_internal_strconv_uint64pow10) <| putG 4 (lits1 Go.Proofs.YthpnfkdiacfefaaGreatDoor.Rows.laid_math_bits_deBruijn32tab) <| putG 5 (lits1 Go.Proofs.YthpnfkdiacfefaaGreatDoor.Rows.laid_math_bits_deBruijn64tab) h
noncomputable def laidWorld (os : Os) : World := { world0 os with heap := laidHeap (world0 os).heap }
theorem laid_met (os : Os) (args : Array Value) : laidMet Tryz.prog laidL ((laidWorld os).forCall (fun _ _ => 0) ⟨#[], args, []⟩).memory :=
  laidMet_of_run' 8 (by kernel_rfl) (by kernel_rfl)
end Go.Ab.Ss
