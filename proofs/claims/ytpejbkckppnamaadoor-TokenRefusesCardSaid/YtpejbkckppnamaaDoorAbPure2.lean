/-
  The abstract machine of this work, part 4: operations that turn no memory, continued: numbers, texts, slices, fields.
-/
import Derived.Test.YtpejbkckppnamaaDoorAbPure
set_option linter.all false
set_option linter.unusedVariables false
set_option linter.unusedSimpArgs false
namespace Go.Ab
open Go Go.RowKit

/-! ### Two operands -/
def binI (op : BinOp) (k : IntKind) (x y : Int) : Option AV :=
  match op with
  | .add => some (.int k (k.wrap (x + y)))
  | .sub => some (.int k (k.wrap (x - y)))
  | .mul => some (.int k (k.wrap (x * y)))
  | .quo => if y = 0 then none else some (.int k (k.wrap (x.tdiv y)))
  | .rem => if y = 0 then none else some (.int k (x.tmod y))
  | .and => some (.int k (k.wrap (BitVec.ofInt k.bits x &&& BitVec.ofInt k.bits y).toNat))
  | .or => some (.int k (k.wrap (BitVec.ofInt k.bits x ||| BitVec.ofInt k.bits y).toNat))
  | .xor => some (.int k (k.wrap (BitVec.ofInt k.bits x ^^^ BitVec.ofInt k.bits y).toNat))
  | .andNot => some (.int k (k.wrap (BitVec.ofInt k.bits x &&& ~~~(BitVec.ofInt k.bits y)).toNat))
  | .eql => some (.bool (x == y))
  | .neq => some (.bool (x != y))
  | .lss => some (.bool (decide (x < y)))
  | .leq => some (.bool (decide (x ≤ y)))
  | .gtr => some (.bool (decide (x > y)))
  | .geq => some (.bool (decide (x ≥ y)))
  | _ => none
def shiftI (op : BinOp) (k : IntKind) (x y : Int) : Option AV :=
  match op with
  | .shl => if y < 0 then none else some (.int k (k.wrap (x * 2 ^ (min y.toNat k.bits))))
  | .shr => if y < 0 then none else some (.int k (x.fdiv (2 ^ (min y.toNat k.bits))))
  | _ => none
def binS (op : BinOp) (x y : List UInt8) : Option AV :=
  match op with
  | .add => if x.length + y.length ≤ 9223372036854775807 then some (.str (x ++ y)) else none
  | .eql => some (.bool (x == y))
  | .neq => some (.bool (!(x == y)))
  | .lss => some (.bool (Op.bytesLess x y))
  | .leq => some (.bool (Op.bytesLess x y || x == y))
  | .gtr => some (.bool (!(Op.bytesLess x y || x == y)))
  | .geq => some (.bool (!(Op.bytesLess x y)))
  | _ => none
def binB (op : BinOp) (x y : Bool) : Option AV :=
  match op with
  | .eql => some (.bool (x == y))
  | .neq => some (.bool (!(x == y)))
  | _ => none
def shOp : BinOp → Bool
  | .shl | .shr => true
  | _ => false
/-- Is it its kind's nil? -/
def nilAs (x : AV) (k : Kd) : Option Bool :=
  match x, k with
  | .nilp, .ptr _ | .nils, .slice _ | .niln, .func | .nili, .iface => some true
  | .vp _ _, .ptr _ | .rp _, .ptr _ | .sl (_ :: _), .slice _ | .fn _ _ _, .func | .ifc _ _, .iface => some false
  | _, _ => none
def binN (op : BinOp) (x y : AV) (k : Kd) (c : Bool) : Option AV :=
  match nilAs x k, nilAs y k with
  | some true, some true => if c then binB op true true else none
  | some true, some false => binB op true false
  | some false, some true => binB op false true
  | _, _ => none
def isC : Operand → Bool
  | .const _ => true
  | _ => false
def binA (T : TT) (op : BinOp) (xt : TypeId) (cx cy : Bool) (x y : AV) : Option AV :=
  match x, y with
  | .int k a, .int k' b => if shOp op then shiftI op k a b else if k = k' then binI op k a b else none
  | .str a, .str b => binS op a b
  | .bool a, .bool b => match T xt with
    | some ti => match ti.kd with
      | .bool => binB op a b
      | _ => none
    | none => none
  | x, y => match T xt with
    | some ti => binN op x y ti.kd (cx || cy)
    | none => none

section
variable {P : Program} {C : Cz} {w : World}
/-- The operation yields this, and the world stands. -/
def Yields (P : Program) (C : Cz) (w : World) (s : Sem Value) (r : AV) : Prop := ∃ v, s.run P w = .ok v w ∧ Rep C r v
theorem Yields.mk {s : Sem Value} {r : AV} {v : Value} (h : s.run P w = .ok v w) (hr : Rep C r v) : Yields P C w s r := ⟨v, h, hr⟩

theorem binI_sound {op : BinOp} {k : IntKind} {x y : Int} {r : AV} (xt : TypeId) (hs : shOp op = false) (h : binI op k x y = some r) : Yields P C w (binOp op xt (.int k x) (.int k y)) r := by
  cases op <;> simp only [binI] at h <;> (try (cases h; done)) <;> (try (simp [shOp] at hs; done))
  case quo =>
    split at h
    · cases h
    · rename_i hy
      cases h
      exact ⟨_, by simp only [binOp, ne_eq, not_true_eq_false, if_false, Op.intDiv, if_neg hy]; rfl, .int _ _⟩
  case rem =>
    split at h
    · cases h
    · rename_i hy
      cases h
      exact ⟨_, by simp only [binOp, ne_eq, not_true_eq_false, if_false, Op.intDiv, if_neg hy]; rfl, .int _ _⟩
  all_goals
    cases h
    unfold Yields
    simp only [binOp, ne_eq, not_true_eq_false, if_false]
    refine ⟨_, rfl, ?_⟩
    first
      | exact .int _ _
      | exact .bool _
theorem shiftI_sound {op : BinOp} {k k' : IntKind} {x y : Int} {r : AV} (xt : TypeId) (h : shiftI op k x y = some r) : Yields P C w (binOp op xt (.int k x) (.int k' y)) r := by
  cases op <;> simp only [shiftI] at h <;> (try (cases h; done))
  all_goals
    split at h
    · cases h
    · rename_i hy
      cases h
      exact ⟨_, by simp only [binOp, Op.shift, if_neg hy]; rfl, .int _ _⟩
theorem str_toList (l : List UInt8) : (⟨l.toArray⟩ : ByteArray).toList = l := by rw [Lib.toList_data]
theorem str_size (l : List UInt8) : (⟨l.toArray⟩ : ByteArray).size = l.length := by simp [ByteArray.size]
theorem str_append (a b : List UInt8) : (⟨a.toArray⟩ : ByteArray) ++ ⟨b.toArray⟩ = ⟨(a ++ b).toArray⟩ := by
  apply ByteArray.ext
  rw [ByteArray.data_append]
  simp
theorem binS_sound {op : BinOp} {x y : List UInt8} {r : AV} (xt : TypeId) (h : binS op x y = some r) : Yields P C w (binOp op xt (.string ⟨x.toArray⟩) (.string ⟨y.toArray⟩)) r := by
  cases op <;> simp only [binS] at h <;> (try (cases h; done))
  case add =>
    split at h
    · rename_i hle
      cases h
      refine ⟨_, ?_, .str _⟩
      simp only [binOp, Op.stringOp]
      rw [if_neg (by rw [str_size, str_size]; simp [IntKind.max, IntKind.signed, IntKind.bits]; omega), str_append]
      rfl
    · cases h
  all_goals
    cases h
    refine ⟨_, ?_, .bool _⟩
    simp only [binOp, Op.stringOp, str_toList]
    rfl
theorem nil_binB {op : BinOp} {x y : Bool} {r : AV} (h : binB op x y = some r) : (op = .eql ∧ r = .bool (x == y)) ∨ (op = .neq ∧ r = .bool (!(x == y))) := by
  cases op <;> simp only [binB] at h <;> (try (cases h; done))
  · cases h; exact .inl ⟨rfl, rfl⟩
  · cases h; exact .inr ⟨rfl, rfl⟩
theorem eq_run {op : BinOp} {xt : TypeId} {X Y : Value} {b : Bool} {r : AV} (he : (Op.equal xt X Y).run P w = .ok b w)
    (hop : (op = .eql ∧ r = .bool b ∧ binOp op xt X Y = (do pure (.bool (← Op.equal xt X Y)))) ∨ (op = .neq ∧ r = .bool (!b) ∧ binOp op xt X Y = (do pure (.bool (!(← Op.equal xt X Y)))))) :
    Yields P C w (binOp op xt X Y) r := by
  rcases hop with ⟨rfl, rfl, e⟩ | ⟨rfl, rfl, e⟩
  · exact ⟨_, by rw [e]; simp [he], .bool _⟩
  · exact ⟨_, by rw [e]; simp [he], .bool _⟩
theorem run_equal_bool {xt : TypeId} (hu : P.underlying xt = some .bool) (a b : Bool) : (Op.equal xt (.bool a) (.bool b)).run P w = .ok (a == b) w := by
  show (Op.equalIn (9999 + 1) xt _ _).run P w = _
  unfold Op.equalIn
  rw [Sem.run_bind, run_underlying hu]
  rfl
theorem binB_sound {op : BinOp} {x y : Bool} {r : AV} {xt : TypeId} (hu : P.underlying xt = some .bool) (h : binB op x y = some r) : Yields P C w (binOp op xt (.bool x) (.bool y)) r := by
  refine eq_run (run_equal_bool hu x y) ?_
  rcases nil_binB h with ⟨rfl, rfl⟩ | ⟨rfl, rfl⟩
  · exact .inl ⟨rfl, rfl, rfl⟩
  · exact .inr ⟨rfl, rfl, rfl⟩

theorem run_equal_nil {xt : TypeId} {k : Kd} {d : TypeDesc} (hu : P.underlying xt = some d) (hk : k.ok d) {x y : AV} {X Y : Value} (hx : Rep C x X) (hy : Rep C y Y) {a b : Bool}
    (h1 : nilAs x k = some a) (h2 : nilAs y k = some b) (h3 : (a || b) = true) : (Op.equal xt X Y).run P w = .ok (a == b) w := by
  show (Op.equalIn (9999 + 1) xt _ _).run P w = _
  unfold Op.equalIn
  rw [Sem.run_bind, run_underlying hu]
  have hx' : ∀ els, x = .sl els → ∃ e l, els = e :: l := fun els e => by
    subst e; cases els with
    | nil => simp [nilAs] at h1
    | cons e l => exact ⟨e, l, rfl⟩
  have hy' : ∀ els, y = .sl els → ∃ e l, els = e :: l := fun els e => by
    subst e; cases els with
    | nil => simp [nilAs] at h2
    | cons e l => exact ⟨e, l, rfl⟩
  cases k <;> (try (simp [nilAs] at h1; done))
  all_goals (simp only [Kd.ok] at hk)
  all_goals (try (obtain ⟨_, _, _, rfl⟩ := hk))
  all_goals (try (obtain ⟨_, rfl⟩ := hk))
  all_goals (try subst hk)
  all_goals cases x <;> (try (simp [nilAs] at h1; done))
  all_goals (try (obtain ⟨_, _, rfl⟩ := hx' _ rfl))
  all_goals (simp only [nilAs] at h1; cases h1)
  all_goals cases y <;> (try (simp [nilAs] at h2; done))
  all_goals (try (obtain ⟨_, _, rfl⟩ := hy' _ rfl))
  all_goals (simp only [nilAs] at h2; cases h2)
  all_goals (try (simp at h3; done))
  all_goals cases hx
  all_goals cases hy
  all_goals rfl
theorem agg_nilAs {x : AV} {k : Kd} {b : Bool} (h : nilAs x k = some b) : (∀ X, Rep C x X → ∀ cs, X ≠ .agg cs) ∧ (∀ X, Rep C x X → X = .nilIface → x = .nili) := by
  unfold nilAs at h
  constructor
  · intro X hX cs e
    subst e
    cases hX
    split at h <;> rename_i e <;> first | (cases h; done) | (cases e; done) | skip
  · intro X hX e
    subst e
    cases hX
    rfl

theorem eqGuard_run {op : BinOp} {xt : TypeId} {ox oy : Operand} {X Y : Value} (h1 : ∀ cs, X ≠ .agg cs) (h2 : X = .nilIface → Y = .nilIface → (isC ox || isC oy) = true) :
    (eqGuard op xt ox oy X Y).run P w = .ok () w := by
  cases op <;> (try rfl)
  all_goals
    unfold eqGuard
    cases X <;> cases Y <;> (try rfl)
    · show (if _ then _ else _ : Sem Unit).run P w = _
      rw [if_neg (by decide)]
      exact congrArg (fun s => Sem.run P s w) (if_pos (h2 rfl rfl))
    · exact absurd rfl (h1 _)
theorem binA_sound {T : TT} (hT : TOK P T) {op : BinOp} {xt : TypeId} {ox oy : Operand} {x y r : AV} {X Y : Value} (hx : Rep C x X) (hy : Rep C y Y)
    (h : binA T op xt (isC ox) (isC oy) x y = some r) :
    Yields P C w (do eqGuard op xt ox oy X Y; binOp op xt X Y) r := by
  have key : (∀ cs, X ≠ .agg cs) → (X = .nilIface → Y = .nilIface → (isC ox || isC oy) = true) → Yields P C w (binOp op xt X Y) r → Yields P C w (do eqGuard op xt ox oy X Y; binOp op xt X Y) r := by
    rintro h1 h2 ⟨v, hv, hr⟩
    exact ⟨v, by rw [Sem.run_bind, eqGuard_run h1 h2]; exact hv, hr⟩
  unfold binA at h
  split at h
  · cases hx; cases hy
    refine key (by simp) (by simp) ?_
    split at h
    · rename_i hs; exact shiftI_sound xt h
    · rename_i hs
      split at h
      · rename_i hk; subst hk; exact binI_sound xt (by simpa using hs) h
      · cases h
  · cases hx; cases hy
    exact key (by simp) (by simp) (binS_sound xt h)
  · cases hx; cases hy
    split at h
    · rename_i ti hti
      split at h
      · rename_i hkd
        obtain ⟨d, hd, hk⟩ := (hT _ _ hti).kd
        rw [hkd] at hk
        simp only [Kd.ok] at hk
        subst hk
        exact key (by simp) (by simp) (binB_sound hd h)
      · cases h
    · cases h
  · split at h
    · rename_i ti hti
      obtain ⟨d, hd, hk⟩ := (hT _ _ hti).kd
      have fin : ∀ a b, nilAs x ti.kd = some a → nilAs y ti.kd = some b → (a || b) = true → binB op a b = some r → (a = true → b = true → (isC ox || isC oy) = true) →
          Yields P C w (do eqGuard op xt ox oy X Y; binOp op xt X Y) r := by
        intro a b ha hb hab hr hc
        have hag := agg_nilAs (C := C) ha
        have hag' := agg_nilAs (C := C) hb
        have he := run_equal_nil (w := w) hd hk hx hy ha hb hab
        refine key (hag.1 X hx) (fun e1 e2 => ?_) (eq_run he ?_)
        · have := hag.2 X hx e1; subst this
          have := hag'.2 Y hy e2; subst this
          cases hq : ti.kd <;> rw [hq] at ha hb <;> simp [nilAs] at ha hb
          exact hc ha hb
        · have hne : ∀ k n, X ≠ .int k n := fun k n e => by subst e; cases hx; cases hq : ti.kd <;> rw [hq] at ha <;> simp [nilAs] at ha
          have hne2 : ∀ k n, Y ≠ .int k n := fun k n e => by subst e; cases hy; cases hq : ti.kd <;> rw [hq] at hb <;> simp [nilAs] at hb
          have hs2 : ∀ s, X ≠ .string s := fun s e => by subst e; cases hx; cases hq : ti.kd <;> rw [hq] at ha <;> simp [nilAs] at ha
          have hbin : op = .eql ∨ op = .neq → (op = .eql → binOp op xt X Y = (do pure (.bool (← Op.equal xt X Y)))) ∧ (op = .neq → binOp op xt X Y = (do pure (.bool (!(← Op.equal xt X Y))))) := by
            intro ho
            constructor <;> rintro rfl
            all_goals
              cases X <;> (try (exact absurd rfl (hne _ _); done)) <;> (try (exact absurd rfl (hs2 _); done)) <;> (try (cases hx; done)) <;> (try rfl)
          rcases nil_binB hr with ⟨rfl, rfl⟩ | ⟨rfl, rfl⟩
          · exact .inl ⟨rfl, rfl, (hbin (.inl rfl)).1 rfl⟩
          · exact .inr ⟨rfl, rfl, (hbin (.inr rfl)).2 rfl⟩
      unfold binN at h
      split at h
      · rename_i ha hb
        split at h
        · rename_i hc; exact fin _ _ ha hb rfl h (fun _ _ => hc)
        · cases h
      · rename_i ha hb; exact fin _ _ ha hb rfl h (fun _ e => by cases e)
      · rename_i ha hb; exact fin _ _ ha hb rfl h (fun e => by cases e)
      · cases h
    · cases h
end
end Go.Ab
