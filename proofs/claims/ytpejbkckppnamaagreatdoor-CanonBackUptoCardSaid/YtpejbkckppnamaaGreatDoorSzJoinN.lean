/-
  Lists of nodes among the arguments, of so much bulk at most: what they are in the machine's words.
-/
import Derived.Test.YtpejbkckppnamaaGreatDoorJW
import Derived.Test.YtpejbkckppnamaaGreatDoorDC
import Derived.Deep.Slices
import Derived.ChangeArms
set_option linter.all false
set_option linter.unusedVariables false
set_option linter.unusedSimpArgs false
namespace Go.Ab.Sz.K
open Go Go.Ab Go.Proofs Go.RowKit Go.ChangeShapes Go.WideShapes Go.ChangeAt
set_option maxRecDepth 100000
section
variable {H : Type} {enc : TypeId × Value → H} {W : World}
theorem flatMap_len {g : Nat → List Value} {z : Nat} : ∀ (n : Nat), (∀ i, i < n → (g i).length = z) → ((List.range n).flatMap g).length = n * z
  | 0, _ => by simp
  | n + 1, h => by
    rw [List.range_succ, List.flatMap_append, List.length_append, flatMap_len n (fun i hi => h i (by omega)), Nat.add_mul]
    simp [h n (by omega)]
theorem flatMap_get {g : Nat → List Value} {z : Nat} : ∀ (n : Nat), (∀ i, i < n → (g i).length = z) → ∀ (j : Nat) (v : Value), ((List.range n).flatMap g)[j]? = some v → ∃ i r, i < n ∧ r < z ∧ j = i * z + r ∧ (g i)[r]? = some v
  | 0, _, j, v, h => by simp at h
  | n + 1, hg, j, v, h => by
    have hl := flatMap_len n (fun i hi => hg i (by omega))
    rw [List.range_succ, List.flatMap_append] at h
    rcases Nat.lt_or_ge j (n * z) with hlt | hge
    · rw [List.getElem?_append_left (by rw [hl]; exact hlt)] at h
      obtain ⟨i, r, a, b, c, d⟩ := flatMap_get n (fun i hi => hg i (by omega)) j v h
      exact ⟨i, r, by omega, b, c, d⟩
    · rw [List.getElem?_append_right (by rw [hl]; exact hge), hl] at h
      have h' : (g n)[j - n * z]? = some v := by simpa using h
      have hr := (List.getElem?_eq_some_iff.1 h').1
      rw [hg n (by omega)] at hr
      exact ⟨n, j - n * z, by omega, hr, by omega, h'⟩
theorem repL_flat {C : Cz} {α : Type} {f : α → List AV} {q : Nat → List Value × α} : ∀ (is : List Nat), (∀ i ∈ is, RepL C (f (q i).2) (q i).1) → RepL C ((is.map fun i => (q i).2).map f).flatten (is.flatMap fun i => (q i).1)
  | [], _ => .nil
  | i :: is, h => by
    simp only [List.map_cons, List.flatten_cons, List.flatMap_cons]
    exact (h i (by simp)).append (repL_flat is fun k hk => h k (by simp [hk]))
/-- A slice, element by element. -/
theorem slice_rep {α : Type} [Inhabited α] {t e : TypeId} {z : Nat} (f : α → List AV) (Q : α → DataW H → Prop) (ht : Tryz.prog.underlying t = some (.slice e)) (ce : Tryz.prog.cellsOf e = z) (hz : 0 < z) (hf : ∀ x, (f x).length = z)
    (he : ∀ (n : Nat) (cs : List Value) (x : DataW H × List MemPlace), cs.length = z → DataW.trod enc Tryz.prog W 0 (fun _ => true) true n e cs = some x → ∃ c : α, RepL (memC W) (f c) cs ∧ Q c x.1)
    {v : Value} {fuel : Nat} {x : DataW H × List MemPlace} (hv : ∃ a len cap, v = .slice a len cap) (h : DataW.trod enc Tryz.prog W 0 (fun _ => true) true fuel t [v] = some x) :
    ∃ (l : List α) (v0 : AV), ((v0 = .nils ∧ l = []) ∨ v0 = .sl (l.map f)) ∧ Rep (memC W) v0 v ∧ ((x.1 = .nil ∧ l = []) ∨ ∃ elems spare, x.1 = .slice elems spare ∧ elems.length = l.length ∧ ∀ (i : Nat) c, l[i]? = some c → ∃ d, elems[i]? = some d ∧ Q c d) := by
  obtain ⟨a0, n0, c0, rfl⟩ := hv
  rcases Go.Deep.open_slice ht h with ⟨hcs, hx⟩ | ⟨a, len, cap, m, n, D, Pl, hcs, _, hl, hm, hmm, hx, hel⟩
  · obtain ⟨rfl, rfl, rfl⟩ : a0 = none ∧ n0 = 0 ∧ c0 = 0 := by simpa using hcs
    exact ⟨[], .nils, .inl ⟨rfl, rfl⟩, .nils, .inl ⟨by rw [hx], rfl⟩⟩
  · obtain ⟨rfl, rfl, rfl⟩ : a0 = some a ∧ n0 = len ∧ c0 = cap := by simpa using hcs
    simp only [if_true] at hmm
    subst hmm
    have each : ∀ i, i < n0 → ∃ q : List Value × α, W.cells? 0 (a.add (i * z)) z = some q.1 ∧ q.1.length = z ∧ RepL (memC W) (f q.2) q.1 ∧ Q q.2 (D i) := fun i hi => by
      obtain ⟨cs', h1, h2⟩ := hel i (by omega)
      rw [ce] at h1
      obtain ⟨_, hlen, _⟩ := World.cells?_some h1
      obtain ⟨c, hr, hq⟩ := he n cs' _ hlen h2
      exact ⟨(cs', c), h1, hlen, hr, hq⟩
    obtain ⟨q, hq⟩ := Go.Deep.choose_lt each
    refine ⟨(List.range n0).map fun i => (q i).2, .sl (((List.range n0).map fun i => (q i).2).map f), .inr rfl, ?_, .inr ⟨_, _, by rw [hx], by simp, fun i c hc => ?_⟩⟩
    · by_cases h0 : n0 = 0
      · subst h0
        exact .sl0 _ _
      · have hsp : a.spot = none := by
          obtain ⟨_, hlen, hcell⟩ := World.cells?_some (hq 0 (by omega)).1
          have := hcell 0 hz
          rw [List.getElem?_eq_getElem (by omega)] at this
          simpa [Addr.add] using World.cell?_spot this
        obtain ⟨b, o, sp⟩ := a
        simp only at hsp
        subst hsp
        have key := Rep.sl (C := memC W) (((List.range n0).map fun i => (q i).2).map f) z ((List.range n0).flatMap fun i => (q i).1) b o _ (fun e he => by obtain ⟨s, _, rfl⟩ := List.mem_map.1 he; exact hf s) (by simpa using hl)
          (repL_flat _ fun i hi => (hq i (List.mem_range.1 hi)).2.2.1) (fun j v hj => by
            obtain ⟨i, r, hi, hr, rfl, hg⟩ := flatMap_get n0 (fun i hi => (hq i hi).2.1) j v hj
            obtain ⟨_, hlen, hcell⟩ := World.cells?_some (hq i hi).1
            have := hcell r hr
            rw [Addr.add_mid, Addr.add_mid, hg] at this
            simp only [memC]
            rw [← Nat.add_assoc]
            exact this)
        rw [List.length_map, List.length_map, List.length_range] at key
        exact key
    · rw [List.getElem?_map] at hc
      have hi : i < n0 := by
        rcases Nat.lt_or_ge i n0 with h | h
        · exact h
        · rw [List.getElem?_eq_none (by simpa using h)] at hc; cases hc
      rw [List.getElem?_range hi] at hc
      cases hc
      exact ⟨D i, by rw [List.getElem?_map, List.getElem?_range hi]; rfl, (hq i hi).2.2.2⟩
open Go.Proofs.YtpejbkckppnamaaGreatDoor.Rows in
theorem bulk_pos (d : DataW H) : 1 ≤ uptoBulk d := by
  cases d with
  | lit x => cases x <;> simp [uptoBulk]
  | _ => simp [uptoBulk]
open Go.Proofs.YtpejbkckppnamaaGreatDoor.Rows in
/-- The sum of what each holds. -/
theorem bulk_sum {α : Type} (g : α → Nat) : ∀ (l : List α) (els : List (DataW H)), els.length = l.length → (∀ (i : Nat) c, l[i]? = some c → ∃ d, els[i]? = some d ∧ g c ≤ uptoBulk d) → (l.map g).sum ≤ uptoBulkAll els
  | [], _, _, _ => by simp
  | c :: l, [], h, _ => by simp at h
  | c :: l, d :: els, h, hq => by
    obtain ⟨d', h1, h2⟩ := hq 0 c rfl
    cases h1
    have := bulk_sum g l els (by simpa using h) (fun i c hc => hq (i + 1) c hc)
    simp only [List.map_cons, List.sum_cons, uptoBulkAll]
    omega
theorem nInt : Tryz.prog.cellsOf 3 = 1 := by kernel_rfl
theorem nStr : Tryz.prog.cellsOf 9 = 1 := by kernel_rfl
theorem nAttrs : Tryz.prog.cellsOf 28 = 1 := by kernel_rfl
theorem nAttr : Tryz.prog.cellsOf 64 = 2 := by kernel_rfl
theorem nNode : Tryz.prog.cellsOf 40 = 4 := by kernel_rfl
theorem str_rep (s : ByteArray) : Rep (memC W) (.str s.data.toList) (.string s) := .str s.data.toList
open Go.Proofs.YtpejbkckppnamaaGreatDoor.Rows in
theorem nattr_rep (n : Nat) (cs : List Value) (x : DataW H × List MemPlace) (hl : cs.length = 2) (h : DataW.trod enc Tryz.prog W 0 (fun _ => true) true n 64 cs = some x) : ∃ c : List UInt8 × List UInt8, RepL (memC W) (atc c) cs ∧ atW c ≤ uptoBulk x.1 := by
  obtain ⟨xs, k, rfl, hxy, _, hxl, hf⟩ := DataW.trod_struct Tryz.underlying64 h
  match xs, hxl, cs, hl with
  | [y0, y1], _, [v0, v1], _ =>
    have g0 := hf 0 _ rfl
    have g1 := hf 1 _ rfl
    simp only [nStr, List.drop_zero, List.drop_succ_cons, List.take_succ_cons, List.take_zero, List.getElem?_cons_zero, List.getElem?_cons_succ] at g0 g1
    obtain ⟨s0, e0, w0, _⟩ := DataW.trod_string Tryz.underlying9 g0
    obtain ⟨s1, e1, w1, _⟩ := DataW.trod_string Tryz.underlying9 g1
    cases e0; cases e1
    refine ⟨(s0.data.toList, s1.data.toList), .cons _ _ _ _ (str_rep s0) (.cons _ _ _ _ (str_rep s1) .nil), ?_⟩
    rw [hxy]
    simp only [List.map_cons, List.map_nil, uptoBulk, uptoBulkAll, w0, w1, atW]
    omega
open Go.Proofs.YtpejbkckppnamaaGreatDoor.Rows in
theorem nattrs_rep {n : Nat} {v : Value} {x : DataW H × List MemPlace} (h : DataW.trod enc Tryz.prog W 0 (fun _ => true) true n 28 [v] = some x) : ∃ (nn : Bool) (al : List (List UInt8 × List UInt8)), Rep (memC W) (lsq nn (al.map atc)) v ∧ (al.map atW).sum + 1 ≤ uptoBulk x.1 := by
  have hv : ∃ a len cap, v = .slice a len cap := by
    rcases DataW.trod_slice Tryz.underlying28 h with ⟨e, _⟩ | ⟨a, len, cap, _, _, _, _, e, _⟩
    · exact ⟨none, 0, 0, by simpa using e⟩
    · exact ⟨some a, len, cap, by simpa using e⟩
  obtain ⟨l, v0, h1, h2, h3⟩ := slice_rep (H := H) (enc := enc) (W := W) atc (fun c d => atW c ≤ uptoBulk d) Tryz.underlying28 nAttr (by decide) (fun _ => rfl) (fun n cs x hl h => nattr_rep n cs x hl h) hv h
  have hw : (l.map atW).sum + 1 ≤ uptoBulk x.1 := by
    rcases h3 with ⟨hx, rfl⟩ | ⟨elems, spare, hx, hel, hq⟩
    · exact bulk_pos _
    · rw [hx]
      have := bulk_sum atW l elems hel hq
      simp only [uptoBulk]; omega
  rcases h1 with ⟨rfl, rfl⟩ | rfl
  · exact ⟨false, [], h2, hw⟩
  · exact ⟨true, l, by rw [lsq_sl]; exact h2, hw⟩
open Go.Proofs.YtpejbkckppnamaaGreatDoor.Rows in
theorem nnode_rep (n : Nat) (cs : List Value) (x : DataW H × List MemPlace) (hl : cs.length = 4) (h : DataW.trod enc Tryz.prog W 0 (fun _ => true) true n 40 cs = some x) : ∃ t : Nd, RepL (memC W) t.c cs ∧ ndW t ≤ uptoBulk x.1 := by
  obtain ⟨xs, k, rfl, hxy, _, hxl, hf⟩ := DataW.trod_struct Tryz.underlying40 h
  match xs, hxl, cs, hl with
  | [y0, y1, y2, y3], _, [v0, v1, v2, v3], _ =>
    have g0 := hf 0 _ rfl
    have g1 := hf 1 _ rfl
    have g2 := hf 2 _ rfl
    have g3 := hf 3 _ rfl
    simp only [nStr, nInt, nAttrs, List.drop_zero, List.drop_succ_cons, List.take_succ_cons, List.take_zero, List.getElem?_cons_zero, List.getElem?_cons_succ] at g0 g1 g2 g3
    obtain ⟨k0, e0, _, _⟩ := DataW.trod_int Tryz.underlying3 g0
    obtain ⟨s1, e1, w1, _⟩ := DataW.trod_string Tryz.underlying9 g1
    obtain ⟨s2, e2, w2, _⟩ := DataW.trod_string Tryz.underlying9 g2
    obtain ⟨nn, al, hr, hw⟩ := nattrs_rep g3
    cases e0; cases e1; cases e2
    refine ⟨⟨k0, s1.data.toList, s2.data.toList, al, nn⟩, .cons _ _ _ _ (.int _ _) (.cons _ _ _ _ (str_rep s1) (.cons _ _ _ _ (str_rep s2) (.cons _ _ _ _ hr .nil))), ?_⟩
    rw [hxy]
    simp only [List.map_cons, List.map_nil, uptoBulk, uptoBulkAll, w1, w2, ndW]
    omega
instance : Inhabited Nd := ⟨⟨0, [], [], [], false⟩⟩
open Go.Proofs.YtpejbkckppnamaaGreatDoor.Rows in
theorem nnodes_rep {v : Value} {d : DataW H} {ps : List MemPlace} (hv : ∃ a len cap, v = .slice a len cap) (h : DataW.Trod enc Tryz.prog W 0 (fun _ => true) true 34 v d ps) :
    ∃ (l : List Nd) (v0 : AV), NdsIn l v0 ∧ Rep (memC W) v0 v ∧ sumW l ≤ uptoBulk d := by
  obtain ⟨fuel, hf⟩ := h
  have hf' : DataW.trod enc Tryz.prog W 0 (fun _ => true) true fuel 34 [v] = some (d, ps) := by
    obtain ⟨a, len, cap, rfl⟩ := hv
    simpa [Value.cells] using hf
  obtain ⟨l, v0, h1, h2, h3⟩ := slice_rep (H := H) (enc := enc) (W := W) Nd.c (fun t d => ndW t ≤ uptoBulk d) Tryz.underlying34 nNode (by decide) (fun _ => rfl) (fun n cs x hl h => nnode_rep n cs x hl h) hv hf'
  refine ⟨l, v0, ⟨fun τ => ⟨nd_len l, ?_⟩, ?_, ?_⟩, h2, ?_⟩
  · rcases h1 with ⟨rfl, rfl⟩ | rfl
    · exact .inl ⟨rfl, rfl⟩
    · exact .inr (.inr (.inl rfl))
  · rcases h1 with ⟨rfl, _⟩ | rfl
    · exact .nils
    · exact .sl _ (data_flat fun n _ => nd_data n)
  · rcases h1 with ⟨rfl, _⟩ | rfl <;> exact ⟨rfl, rfl⟩
  · rcases h3 with ⟨_, rfl⟩ | ⟨elems, spare, hx, hel, hq⟩
    · simp [sumW]
    · simp only at hx
      rw [hx]
      have := bulk_sum ndW l elems hel hq
      simp only [uptoBulk, sumW]; omega
end
end Go.Ab.Sz.K
