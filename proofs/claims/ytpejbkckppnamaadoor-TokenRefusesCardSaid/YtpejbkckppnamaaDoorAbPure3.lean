/-
  The abstract machine of this work, part 5: conversions, slices, fields, places of elements, structs that are built.
-/
import Derived.Test.YtpejbkckppnamaaDoorAbPure2
import Derived.Laws.Slices
set_option linter.all false
set_option linter.unusedVariables false
set_option linter.unusedSimpArgs false
namespace Go.Ab
open Go Go.RowKit

def unA (op : UnOp) (x : AV) : Option AV :=
  match op, x with
  | .neg, .int k n => some (.int k (k.wrap (0 - n)))
  | .xor, .int k n => some (.int k (k.wrap (BitVec.ofInt k.bits (if k.signed then -1 else k.max) ^^^ BitVec.ofInt k.bits n).toNat))
  | .not, .bool b => some (.bool (!b))
  | _, _ => none
def kdOf (T : TT) (t : TypeId) : Option Kd := (T t).map (·.kd)
def szOf (T : TT) (t : TypeId) : Option Nat := (T t).map (·.size)
def cvtA (T : TT) (s d : TypeId) (x : AV) : Option AV :=
  match kdOf T s, kdOf T d, x with
  | some _, some (.int k), .int _ n => some (.int k (k.wrap n))
  | some _, some .str, .int _ n => some (.str (Utf8.encode n).data.toList)
  | some _, some .str, .str s => some (.str s)
  | _, _, _ => none
def ifcA (T : TT) (t : TypeId) (x : AV) : Option AV :=
  match kdOf T t with
  | some .iface => none
  | some _ => some (.ifc t x)
  | none => none
def extrA (x : AV) (i : Nat) : Option AV :=
  match x with
  | .tup cs => cs[i]?
  | _ => none
def partA (T : TT) (t : TypeId) (cs : List AV) (off : Nat) : Option AV :=
  match T t with
  | some ti => if ti.kd.agg then (if off + ti.size ≤ cs.length then some (.agg ((cs.drop off).take ti.size)) else none) else cs[off]?
  | none => none
def fieldA (T : TT) (xt : TypeId) (x : AV) (f : Nat) : Option AV :=
  match kdOf T xt, x with
  | some (.struct fs), .agg cs => match fs[f]? with
    | some (off, ft) => partA T ft cs off
    | none => none
  | _, _ => none
def fieldAddrA (T : TT) (s : TypeId) (x : AV) (f : Nat) : Option AV :=
  match kdOf T s with
  | some (.struct fs) => match fs[f]? with
    | some (off, ft) => match szOf T ft with
      | some (_ + 1) => match x with
        | .vp b o => some (.vp b (o + off))
        | .rp cs => some (.rp (cs.drop off))
        | .op r i k => some (.op r i (k + off))
        | _ => none
      | _ => none
    | none => none
  | _ => none
def indexA (T : TT) (xt : TypeId) (x i : AV) : Option AV :=
  match kdOf T xt, x, i with
  | some .str, .str s, .int _ n => if 0 ≤ n then (s[n.toNat]?).map fun b => .int .u8 b.toNat else none
  | some (.arr len e), .agg cs, .int _ n => match szOf T e with
    | some z => if 0 ≤ n ∧ n < len then partA T e cs (n.toNat * z) else none
    | none => none
  | _, _, _ => none
def indexAddrA (T : TT) (xt : TypeId) (σ : St) (x i : AV) : Option AV :=
  match kdOf T xt, i with
  | some (.arr len e), .int _ n => match szOf T e, x with
    | some z, .vp b o => if 0 ≤ n ∧ n < len then some (.vp b (o + n.toNat * z)) else none
    | _, _ => none
  | some (.slice e), .int _ n => match szOf T e, x with
    | some z, .sl els => if 0 ≤ n then match els[n.toNat]? with
      | some c => if c.length = z then some (.rp c) else none
      | none => none else none
    | some z, .os r off m => if 0 ≤ n ∧ n < m then
      match σ.rows[r]? with
      | some (some row) => if row.esz = z then some (.op r (off + n.toNat) 0) else none
      | _ => none else none
    | _, _ => none
  | _, _ => none
def bnd (x : Option AV) (top dflt : Nat) : Option Nat :=
  match x with
  | none => some dflt
  | some (.int _ i) => if 0 ≤ i ∧ i ≤ top then some i.toNat else none
  | _ => none
def sliceA (T : TT) (xt : TypeId) (x : AV) (lo hi mx : Option AV) : Option AV :=
  match kdOf T xt with
  | some .str => match x, mx with
    | .str s, none => match bnd hi s.length s.length with
      | some h => match bnd lo h 0 with
        | some l => some (.str ((s.drop l).take (h - l)))
        | none => none
      | none => none
    | _, _ => none
  | some (.slice e) => match szOf T e, x, mx with
    | some z, .sl els, none => match bnd hi els.length els.length with
      | some h => match bnd lo h 0 with
        | some l => if els.all (fun c => c.length == z) then some (.sl ((els.drop l).take (h - l))) else none
        | none => none
      | none => none
    | some _, .sl _, some (.int _ 0) => match bnd hi 0 0, bnd lo 0 0 with
      | some 0, some 0 => if hi.isSome then some .ez else none
      | _, _ => none
    | some _, .os r off n, none => match bnd hi n n, bnd lo 0 0 with
      | some h, some 0 => some (.os r off h)
      | _, _ => none
    | some _, .nils, _ => match bnd hi 0 0, bnd lo 0 0, bnd mx 0 0 with
      | some 0, some 0, some 0 => if mx.isSome && !hi.isSome then none else some .nils
      | _, _, _ => none
    | _, _, _ => none
  | _ => none

section
variable {P : Program} {C : Cz} {σ : St} {w : World} {T : TT}
theorem unA_sound {op : UnOp} {x r : AV} {X : Value} (hx : Rep C x X) (h : unA op x = some r) : Yields P C w (Op.unary op X) r := by
  unfold unA at h
  split at h <;> cases h <;> cases hx
  · exact ⟨_, rfl, .int _ _⟩
  · exact ⟨_, rfl, .int _ _⟩
  · exact ⟨_, rfl, .bool _⟩
theorem kdOf_ok (hT : TOK P T) {t : TypeId} {k : Kd} (h : kdOf T t = some k) : ∃ ti d, T t = some ti ∧ ti.kd = k ∧ TIok P t ti ∧ P.underlying t = some d ∧ k.ok d := by
  unfold kdOf at h
  cases hq : T t with
  | none => rw [hq] at h; cases h
  | some ti =>
    rw [hq] at h; cases h
    obtain ⟨d, hd, hk⟩ := (hT t ti hq).kd
    exact ⟨ti, d, rfl, rfl, hT t ti hq, hd, hk⟩
theorem szOf_ok (hT : TOK P T) {t : TypeId} {z : Nat} (h : szOf T t = some z) : ∃ ti, T t = some ti ∧ ti.size = z ∧ TIok P t ti := by
  unfold szOf at h
  cases hq : T t with
  | none => rw [hq] at h; cases h
  | some ti => rw [hq] at h; cases h; exact ⟨ti, rfl, rfl, hT t ti hq⟩
theorem cvtA_sound (hT : TOK P T) {s d : TypeId} {x r : AV} {X : Value} (hx : Rep C x X) (h : cvtA T s d x = some r) : Yields P C w (convert s d X) r := by
  unfold cvtA at h
  split at h
  · rename_i k0 k _ n h0 h1
    cases h; cases hx
    obtain ⟨_, d0, _, _, _, hd0, _⟩ := kdOf_ok hT h0
    obtain ⟨_, d1, _, _, _, hd1, hk1⟩ := kdOf_ok hT h1
    simp only [Kd.ok] at hk1; subst hk1
    refine ⟨_, ?_, .int _ _⟩
    unfold convert
    rw [Sem.run_bind, run_underlying hd0, Result.andThen_ok, Sem.run_bind, run_underlying hd1, Result.andThen_ok]
    rfl
  · rename_i k0 k n h0 h1
    cases h; cases hx
    obtain ⟨_, d0, _, _, _, hd0, _⟩ := kdOf_ok hT h0
    obtain ⟨_, d1, _, _, _, hd1, hk1⟩ := kdOf_ok hT h1
    simp only [Kd.ok] at hk1; subst hk1
    refine ⟨_, ?_, .str _⟩
    unfold convert
    rw [Sem.run_bind, run_underlying hd0, Result.andThen_ok, Sem.run_bind, run_underlying hd1, Result.andThen_ok]
    show Result.ok (Value.string (Utf8.encode n)) w = _
    rw [Lib.mk_data]
  · rename_i k0 s h0 h1
    cases h; cases hx
    obtain ⟨_, d0, _, _, _, hd0, _⟩ := kdOf_ok hT h0
    obtain ⟨_, d1, _, _, _, hd1, hk1⟩ := kdOf_ok hT h1
    simp only [Kd.ok] at hk1; subst hk1
    refine ⟨_, ?_, .str _⟩
    unfold convert
    rw [Sem.run_bind, run_underlying hd0, Result.andThen_ok, Sem.run_bind, run_underlying hd1, Result.andThen_ok]
    rfl
  · cases h
theorem ifcA_sound (hT : TOK P T) {t : TypeId} {x r : AV} {X : Value} (hx : Rep C x X) (h : ifcA T t x = some r) : Yields P C w (Instr.makeInterface t X) r := by
  unfold ifcA at h
  split at h
  · cases h
  · rename_i k hne hk
    cases h
    obtain ⟨_, d, _, _, _, hd, hok⟩ := kdOf_ok hT hk
    refine ⟨_, ?_, .ifc _ _ _ hx⟩
    unfold Instr.makeInterface
    rw [Sem.run_bind, run_underlying hd, Result.andThen_ok]
    cases hk' : k <;> rw [hk'] at hok <;> simp only [Kd.ok] at hok
    case iface => exact absurd hk' hne
    case other =>
      cases d <;> first | rfl | exact absurd rfl (hok.2 _)
    case struct => obtain ⟨_, rfl, _⟩ := hok; rfl
    case func => obtain ⟨_, _, _, rfl⟩ := hok; rfl
    all_goals (subst hok; rfl)
  · cases h
theorem extrA_sound {x r : AV} {i : Nat} {X : Value} (hx : Rep C x X) (h : extrA x i = some r) : Yields P C w (Instr.extract X i) r := by
  unfold extrA at h
  split at h
  · cases hx with
    | tup cs vs hr =>
      obtain ⟨v, hv, hrep⟩ := hr.get i r h
      refine ⟨v, ?_, hrep⟩
      unfold Instr.extract
      simp [hv]
  · cases h
theorem partA_sound (hT : TOK P T) {t : TypeId} {cs : List AV} {vs : List Value} {off : Nat} {r : AV} (hr : RepL C cs vs) (h : partA T t cs off = some r) : Yields P C w (part t vs.toArray off) r := by
  unfold partA at h
  split at h
  · rename_i ti hti
    have ok := hT t ti hti
    unfold part
    unfold Yields
    rw [Sem.run_bind, ok.isAgg w, Result.andThen_ok]
    split at h
    · rename_i hagg
      split at h
      · cases h
        rename_i hle
        simp only [hagg, if_true]
        rw [Sem.run_bind, ok.sizeOf w]
        refine ⟨_, rfl, ?_⟩
        have := Rep.agg _ _ ((hr.drop off).take ti.size)
        have he : (vs.toArray.extract off (off + ti.size)) = ((vs.drop off).take ti.size).toArray := by
          simp
        rw [he]; exact this
      · cases h
    · rename_i hagg
      simp only [hagg]
      obtain ⟨v, hv, hrep⟩ := hr.get off r h
      refine ⟨v, ?_, hrep⟩
      simp [hv]
  · cases h

theorem asIntOf_int (k : IntKind) (n : Int) : (asIntOf (.int k n)).run P w = .ok (k, n) w := rfl
theorem fieldA_sound (hT : TOK P T) {xt : TypeId} {x r : AV} {f : Nat} {X : Value} (hx : Rep C x X) (h : fieldA T xt x f = some r) : Yields P C w (Instr.field xt X f) r := by
  unfold fieldA at h
  split at h
  · rename_i fs cs hk
    split at h
    · rename_i off ft hf
      cases hx with
      | agg cs vs hr =>
        obtain ⟨_, d, _, _, _, hd, hok⟩ := kdOf_ok hT hk
        obtain ⟨a, rfl, ha⟩ := hok
        have hf' : ∃ g, a[f]? = some g ∧ g.offset = off ∧ g.type = ft := by
          rw [← ha, List.getElem?_map] at hf
          cases hq : a.toList[f]? with
          | none => rw [hq] at hf; cases hf
          | some g =>
            rw [hq] at hf
            rw [Array.getElem?_toList] at hq
            simp at hf
            exact ⟨g, hq, hf.1, hf.2⟩
        obtain ⟨g, hg, rfl, rfl⟩ := hf'
        obtain ⟨v, hv, hrep⟩ := partA_sound (w := w) hT hr h
        refine ⟨v, ?_, hrep⟩
        unfold Instr.field
        rw [Sem.run_bind, run_underlying hd, Result.andThen_ok]
        simp only [hg, asAgg]
        rw [Sem.run_bind, Sem.run_pure, Result.andThen_ok]
        exact hv
    · cases h
  · cases h
theorem fieldAddrA_sound (hT : TOK P T) {s : TypeId} {x r : AV} {f : Nat} {X : Value} (h0 : HRel C σ w) (hl : ∀ rr i k, x = .op rr i k → σ.live rr) (hx : Rep C x X) (h : fieldAddrA T s x f = some r) : Yields P C w (Instr.fieldAt s X f) r := by
  unfold fieldAddrA at h
  split at h
  · rename_i fs hk
    split at h
    · rename_i off ft hf
      split at h
      · rename_i n hz
        obtain ⟨_, d, _, _, _, hd, hok⟩ := kdOf_ok hT hk
        obtain ⟨a, rfl, ha⟩ := hok
        have hf' : ∃ g, a[f]? = some g ∧ g.offset = off ∧ g.type = ft := by
          rw [← ha, List.getElem?_map] at hf
          cases hq : a.toList[f]? with
          | none => rw [hq] at hf; cases hf
          | some g =>
            rw [hq] at hf
            rw [Array.getElem?_toList] at hq
            simp at hf
            exact ⟨g, hq, hf.1, hf.2⟩
        obtain ⟨g, hg, rfl, rfl⟩ := hf'
        obtain ⟨ti, hti, hsz, ok⟩ := szOf_ok hT hz
        have run : ∀ b o, (Instr.fieldAt s (.pointer (some ⟨b, o, none⟩)) f).run P w = .ok (.pointer (some ⟨b, o + g.offset, none⟩)) w := fun b o => by
          unfold Instr.fieldAt
          rw [Sem.run_bind, run_underlying hd, Result.andThen_ok]
          simp only [hg, Instr.sureAddr]
          rw [Sem.run_bind, Sem.run_pure, Result.andThen_ok, Sem.run_bind]
          unfold fieldPlace
          rw [Sem.run_bind, ok.sizeOf w, Result.andThen_ok, hsz, if_neg (by omega), Sem.run_pure, Result.andThen_ok, Addr.add_mid]
          rfl
        split at h
        · rename_i b o
          cases h
          cases hx with
          | vp _ _ hb => exact ⟨_, run _ _, .vp _ _ hb⟩
        · rename_i cs
          cases h
          cases hx with
          | rp cs vs b o hr hm =>
            refine ⟨_, run _ _, .rp _ (vs.drop g.offset) _ _ (hr.drop _) (fun j v hj => ?_)⟩
            rw [List.getElem?_drop] at hj
            rw [Nat.add_assoc]; exact hm _ v hj
        · rename_i rr i k
          cases h
          cases hx with
          | op _ _ _ a hr hp =>
            obtain ⟨row, hrow⟩ := hl rr i k rfl
            have := hp (h0.row rr row hrow).1
            subst this
            exact ⟨_, run _ _, .op _ _ _ _ hr (fun _ => by rw [Nat.add_assoc])⟩
        · cases h
      · cases h
    · cases h
  · cases h
theorem indexA_sound (hT : TOK P T) {xt : TypeId} {x i r : AV} {X I : Value} (hx : Rep C x X) (hi : Rep C i I) (h : indexA T xt x i = some r) : Yields P C w (Instr.index xt X I) r := by
  unfold indexA at h
  split at h
  · rename_i s k n hk
    cases hx; cases hi
    obtain ⟨_, d, _, _, _, hd, hok⟩ := kdOf_ok hT hk
    simp only [Kd.ok] at hok; subst hok
    split at h
    · rename_i h0
      cases hq : s[n.toNat]? with
      | none => rw [hq] at h; cases h
      | some b =>
        rw [hq] at h; cases h
        refine ⟨_, ?_, .int _ _⟩
        unfold Instr.index
        rw [Sem.run_bind, asIntOf_int, Result.andThen_ok]
        simp only []
        rw [Sem.run_bind, run_underlying hd, Result.andThen_ok]
        have e : (if 0 ≤ n then (⟨s.toArray⟩ : ByteArray)[n.toNat]? else none) = some b := by
          rw [if_pos h0]
          have hlt := (List.getElem?_eq_some_iff.1 hq).1
          have : n.toNat < (⟨s.toArray⟩ : ByteArray).size := by rw [str_size]; exact hlt
          have e2 : (⟨s.toArray⟩ : ByteArray)[n.toNat]? = some ((⟨s.toArray⟩ : ByteArray)[n.toNat]'this) := getElem?_pos (⟨s.toArray⟩ : ByteArray) n.toNat this
          rw [e2]
          rw [List.getElem?_eq_getElem hlt] at hq
          rw [← hq]; rfl
        simp only [e]
        rfl
    · cases h
  · rename_i len e cs k n hk
    cases hi
    split at h
    · rename_i z hz
      split at h
      · rename_i hb
        cases hx with
        | agg cs vs hr =>
          obtain ⟨_, d, _, _, _, hd, hok⟩ := kdOf_ok hT hk
          simp only [Kd.ok] at hok; subst hok
          obtain ⟨ti, hti, hsz, ok⟩ := szOf_ok hT hz
          obtain ⟨v, hv, hrep⟩ := partA_sound (w := w) hT hr h
          refine ⟨v, ?_, hrep⟩
          unfold Instr.index
          rw [Sem.run_bind, asIntOf_int, Result.andThen_ok]
          simp only []
          rw [Sem.run_bind, run_underlying hd, Result.andThen_ok]
          simp only []
          rw [if_pos hb, Sem.run_bind, ok.sizeOf w, Result.andThen_ok, hsz]
          exact hv
      · cases h
    · cases h
  · cases h
theorem indexAddrA_sound (hT : TOK P T) {xt : TypeId} {x i r : AV} {X I : Value} (h0 : HRel C σ w) (hx : Rep C x X) (hi : Rep C i I) (h : indexAddrA T xt σ x i = some r) : Yields P C w (Instr.indexAt xt X I) r := by
  unfold indexAddrA at h
  split at h
  · rename_i len e k n hk
    cases hi
    obtain ⟨_, d, _, _, _, hd, hok⟩ := kdOf_ok hT hk
    simp only [Kd.ok] at hok; subst hok
    split at h
    · rename_i z b o hz
      split at h
      · rename_i hb
        cases h
        cases hx with
        | vp _ _ hbv =>
          obtain ⟨ti, hti, hsz, ok⟩ := szOf_ok hT hz
          refine ⟨_, ?_, .vp _ _ hbv⟩
          unfold Instr.indexAt
          rw [Sem.run_bind, asIntOf_int, Result.andThen_ok]
          simp only []
          simp only [Sem.run_bind, run_underlying hd, Result.andThen_ok, Sem.run_pure, Instr.sureAddr, if_pos hb, ok.sizeOf w, hsz, Addr.add_mid]
      · cases h
    · cases h
  · rename_i e k n hk
    cases hi
    obtain ⟨_, d, _, _, _, hd, hok⟩ := kdOf_ok hT hk
    simp only [Kd.ok] at hok; subst hok
    have run : ∀ (b o len cap z : Nat), szOf T e = some z → 0 ≤ n → n < (len : Int) → (Instr.indexAt xt (.slice (some ⟨b, o, none⟩) len cap) (.int k n)).run P w = .ok (.pointer (some ⟨b, o + n.toNat * z, none⟩)) w := by
      intro b o len cap z hz h1 h2
      obtain ⟨ti, hti, hsz, ok⟩ := szOf_ok hT hz
      unfold Instr.indexAt
      rw [Sem.run_bind, asIntOf_int, Result.andThen_ok]
      simp only []
      have h12 : 0 ≤ n ∧ n < (len : Int) := ⟨h1, h2⟩
      simp only [Sem.run_bind, run_underlying hd, Result.andThen_ok, Sem.run_pure, if_pos h12, ok.sizeOf w, hsz, Addr.add_mid]
    split at h
    · rename_i z els hz
      split at h
      · rename_i hn
        split at h
        · rename_i c hc
          split at h
          · rename_i hcz
            cases h
            have hlt := (List.getElem?_eq_some_iff.1 hc).1
            cases hx with
            | sl0 a cap => simp at hlt
            | sl _ z' vs b o cap hz' hcap hr hm =>
              have hmem : c ∈ els := List.mem_of_getElem? hc
              have hzz : z' = z := by rw [← hz' c hmem, hcz]
              subst hzz
              refine ⟨_, run b o els.length cap _ hz hn (by omega), .rp c ((vs.drop (n.toNat * z')).take z') _ _ ?_ (fun j v hj => ?_)⟩
              · have := (hr.drop (n.toNat * z')).take z'
                rwa [flat_get hz' hc] at this
              · rw [Nat.add_assoc]; exact hm _ v (take_drop_get hj)
          · cases h
        · cases h
      · cases h
    · rename_i z r' off m hz
      split at h
      · rename_i hn
        split at h
        · rename_i row hrow
          split at h
          · rename_i hez
            cases h
            obtain ⟨hlive, vs, fr, hh⟩ := h0.row r' row hrow
            cases hx with
            | os _ _ _ a cap hr hv =>
              obtain ⟨rfl, h2, h3⟩ := hv hlive
              have e1 := hh.esz
              refine ⟨_, run _ _ m cap _ hz hn.1 hn.2, .op _ _ _ _ hr (fun _ => ?_)⟩
              rw [e1, hez, Nat.add_mul]
              simp [Nat.add_assoc]
          · cases h
        · cases h
      · cases h
    · cases h
  · cases h
end
end Go.Ab
