/-
  The abstract machine of this work, part 16: what operations give, and what states hold.
-/
import Derived.Test.YtpejbkckppnamaaDoorAbWalk
set_option linter.all false
set_option linter.unusedVariables false
set_option linter.unusedSimpArgs false
namespace Go.Ab
open Go Go.RowKit

/-- Values of two operands. -/
theorem walkB :
    (∀ (kd : Kd) (c : Bool) (k : IntKind) (a b : Int), binX .add kd c (.int k a) (.int k b) = some (.int k (k.wrap (a + b)))) ∧
    (∀ (kd : Kd) (c : Bool) (k : IntKind) (a b : Int), binX .sub kd c (.int k a) (.int k b) = some (.int k (k.wrap (a - b)))) ∧
    (∀ (kd : Kd) (c : Bool) (k : IntKind) (a b : Int), binX .mul kd c (.int k a) (.int k b) = some (.int k (k.wrap (a * b)))) ∧
    (∀ (kd : Kd) (c : Bool) (k : IntKind) (a b : Int), b ≠ 0 → binX .quo kd c (.int k a) (.int k b) = some (.int k (k.wrap (a.tdiv b)))) ∧
    (∀ (kd : Kd) (c : Bool) (k : IntKind) (a b : Int), b ≠ 0 → binX .rem kd c (.int k a) (.int k b) = some (.int k (a.tmod b))) ∧
    (∀ (kd : Kd) (c : Bool) (k : IntKind) (a b : Int), binX .and kd c (.int k a) (.int k b) = some (.int k (k.wrap (BitVec.ofInt k.bits a &&& BitVec.ofInt k.bits b).toNat))) ∧
    (∀ (kd : Kd) (c : Bool) (k : IntKind) (a b : Int), binX .or kd c (.int k a) (.int k b) = some (.int k (k.wrap (BitVec.ofInt k.bits a ||| BitVec.ofInt k.bits b).toNat))) ∧
    (∀ (kd : Kd) (c : Bool) (k : IntKind) (a b : Int), binX .xor kd c (.int k a) (.int k b) = some (.int k (k.wrap (BitVec.ofInt k.bits a ^^^ BitVec.ofInt k.bits b).toNat))) ∧
    (∀ (kd : Kd) (c : Bool) (k : IntKind) (a b : Int), binX .andNot kd c (.int k a) (.int k b) = some (.int k (k.wrap (BitVec.ofInt k.bits a &&& ~~~(BitVec.ofInt k.bits b)).toNat))) ∧
    (∀ (kd : Kd) (c : Bool) (k : IntKind) (a b : Int), binX .eql kd c (.int k a) (.int k b) = some (.bool (a == b))) ∧
    (∀ (kd : Kd) (c : Bool) (k : IntKind) (a b : Int), binX .neq kd c (.int k a) (.int k b) = some (.bool (a != b))) ∧
    (∀ (kd : Kd) (c : Bool) (k : IntKind) (a b : Int), binX .lss kd c (.int k a) (.int k b) = some (.bool (decide (a < b)))) ∧
    (∀ (kd : Kd) (c : Bool) (k : IntKind) (a b : Int), binX .leq kd c (.int k a) (.int k b) = some (.bool (decide (a ≤ b)))) ∧
    (∀ (kd : Kd) (c : Bool) (k : IntKind) (a b : Int), binX .gtr kd c (.int k a) (.int k b) = some (.bool (decide (b < a)))) ∧
    (∀ (kd : Kd) (c : Bool) (k : IntKind) (a b : Int), binX .geq kd c (.int k a) (.int k b) = some (.bool (decide (b ≤ a)))) ∧
    (∀ (kd : Kd) (c : Bool) (k k' : IntKind) (a b : Int), 0 ≤ b → binX .shl kd c (.int k a) (.int k' b) = some (.int k (k.wrap (a * 2 ^ (min b.toNat k.bits))))) ∧
    (∀ (kd : Kd) (c : Bool) (k k' : IntKind) (a b : Int), 0 ≤ b → binX .shr kd c (.int k a) (.int k' b) = some (.int k (a.fdiv (2 ^ (min b.toNat k.bits))))) ∧
    (∀ (kd : Kd) (c : Bool) (a b : List UInt8), a.length + b.length ≤ 9223372036854775807 → binX .add kd c (.str a) (.str b) = some (.str (a ++ b))) ∧
    (∀ (kd : Kd) (c : Bool) (a b : List UInt8), binX .eql kd c (.str a) (.str b) = some (.bool (a == b))) ∧
    (∀ (kd : Kd) (c : Bool) (a b : List UInt8), binX .neq kd c (.str a) (.str b) = some (.bool (!(a == b)))) ∧
    (∀ (c : Bool) (a b : Bool), binX .eql .bool c (.bool a) (.bool b) = some (.bool (a == b))) ∧
    (∀ (c : Bool) (a b : Bool), binX .neq .bool c (.bool a) (.bool b) = some (.bool (!(a == b)))) := by
  refine ⟨?_, ?_, ?_, ?_, ?_, ?_, ?_, ?_, ?_, ?_, ?_, ?_, ?_, ?_, ?_, ?_, ?_, ?_, ?_, ?_, ?_, ?_⟩ <;> intros <;>
    first
    | rfl
    | (simp only [binX, shOp, binI, shiftI, binS, if_true, if_false, Bool.false_eq_true]; done)
    | (simp only [binX, shOp, binI, shiftI, binS, if_true, if_false, Bool.false_eq_true]; first | rfl | (rw [if_neg (by assumption)]) | (rw [if_pos (by assumption)]) | (rw [if_neg (by omega)]))
/-- Against nil. -/
theorem walkN :
    (∀ (e : TypeId), binX .eql (.slice e) true .nils .nils = some (.bool true)) ∧
    (∀ (e : TypeId) (c : Bool) (a : List AV) (l : List (List AV)), binX .eql (.slice e) c (.sl (a :: l)) .nils = some (.bool false)) ∧
    (∀ (e : TypeId), binX .neq (.slice e) true .nils .nils = some (.bool false)) ∧
    (∀ (e : TypeId) (c : Bool) (a : List AV) (l : List (List AV)), binX .neq (.slice e) c (.sl (a :: l)) .nils = some (.bool true)) ∧
    (binX .eql .iface true .nili .nili = some (.bool true)) ∧
    (∀ (c : Bool) (t : TypeId) (v : AV), binX .eql .iface c (.ifc t v) .nili = some (.bool false)) ∧
    (binX .neq .iface true .nili .nili = some (.bool false)) ∧
    (∀ (c : Bool) (t : TypeId) (v : AV), binX .neq .iface c (.ifc t v) .nili = some (.bool true)) ∧
    (∀ (e : TypeId), binX .eql (.ptr e) true .nilp .nilp = some (.bool true)) ∧
    (∀ (e : TypeId) (c : Bool) (b o : Nat), binX .eql (.ptr e) c (.vp b o) .nilp = some (.bool false)) ∧
    (∀ (e : TypeId) (c : Bool) (l : List AV), binX .eql (.ptr e) c (.rp l) .nilp = some (.bool false)) ∧
    (∀ (e : TypeId), binX .neq (.ptr e) true .nilp .nilp = some (.bool false)) ∧
    (∀ (e : TypeId) (c : Bool) (b o : Nat), binX .neq (.ptr e) c (.vp b o) .nilp = some (.bool true)) ∧
    (∀ (e : TypeId) (c : Bool) (l : List AV), binX .neq (.ptr e) c (.rp l) .nilp = some (.bool true)) := by
  refine ⟨?_, ?_, ?_, ?_, ?_, ?_, ?_, ?_, ?_, ?_, ?_, ?_, ?_, ?_⟩ <;> intros <;> rfl
/-- Other values. -/
theorem walkU :
    (∀ (k : IntKind) (n : Int), unA .neg (.int k n) = some (.int k (k.wrap (0 - n)))) ∧
    (∀ (b : Bool), unA .not (.bool b) = some (.bool (!b))) ∧
    (∀ (k k' : IntKind) (n : Int), cviX k (.int k' n) = some (.int k (k.wrap n))) ∧
    (∀ (k : IntKind) (n : Int), cvsX (.int k n) = some (.str (Utf8.encode n).data.toList)) ∧
    (∀ (s : List UInt8), strsX (.str s) = some (.str s)) ∧
    (∀ (s : List UInt8), lensX (.str s) = some (.int .i64 s.length)) ∧
    (∀ (l : List (List AV)), lenlX (.sl l) = some (.int .i64 l.length)) ∧
    (lenlX .nils = some (.int .i64 0)) ∧ (lenlX .ez = some (.int .i64 0)) ∧
    (∀ (r o n : Nat), lenlX (.os r o n) = some (.int .i64 n)) ∧
    (∀ (l : List AV) (i : Nat), extrA (.tup l) i = l[i]?) ∧
    (∀ (l : List AV) (off : Nat), flX off none (.agg l) = l[off]?) ∧
    (∀ (l : List AV) (off n : Nat), flX off (some n) (.agg l) = if off + n ≤ l.length then some (.agg ((l.drop off).take n)) else none) ∧
    (∀ (s : List UInt8) (k : IntKind) (n : Int), 0 ≤ n → ixstrX (.str s) (.int k n) = (s[n.toNat]?).map fun b => .int .u8 b.toNat) ∧
    (∀ (lo hi : Option AV) (s : List UInt8), slstrX (.str s) lo hi = (bnd hi s.length s.length).bind fun h => (bnd lo h 0).bind fun l => some (.str ((s.drop l).take (h - l)))) ∧
    (∀ (top d : Nat), bnd none top d = some d) ∧
    (∀ (top d : Nat) (k : IntKind) (i : Int), 0 ≤ i → i ≤ top → bnd (some (.int k i)) top d = some i.toNat) ∧
    (∀ (l : List AV), cellsA (.agg l) = l) ∧ (∀ (k : IntKind) (n : Int), cellsA (.int k n) = [.int k n]) ∧ (∀ (s : List UInt8), cellsA (.str s) = [.str s]) ∧ (∀ (b : Bool), cellsA (.bool b) = [.bool b]) ∧
    (cellsA .nils = [.nils]) ∧ (cellsA .nilp = [.nilp]) ∧ (cellsA .nili = [.nili]) ∧ (cellsA .niln = [.niln]) ∧ (cellsA .ez = [.ez]) ∧
    (∀ (l : List (List AV)), cellsA (.sl l) = [.sl l]) ∧ (∀ (r o n : Nat), cellsA (.os r o n) = [.os r o n]) ∧ (∀ (t : TypeId) (v : AV), cellsA (.ifc t v) = [.ifc t v]) ∧ (∀ (b o : Nat), cellsA (.vp b o) = [.vp b o]) ∧
    (∀ (f : Fn) (a b : List AV), cellsA (.fn f a b) = [.fn f a b]) ∧ (∀ (l : List AV), cellsA (.rp l) = [.rp l]) ∧
    (∀ {α : Type} (l : List α) (o : Nat), setL l o [] = l) ∧ (∀ {α : Type} (l cs : List α) (o : Nat) (c : α), setL l o (c :: cs) = setL (l.set o c) (o + 1) cs) := by
  refine ⟨?_, ?_, ?_, ?_, ?_, ?_, ?_, ?_, ?_, ?_, ?_, ?_, ?_, ?_, ?_, ?_, ?_, ?_, ?_, ?_, ?_, ?_, ?_, ?_, ?_, ?_, ?_, ?_, ?_, ?_, ?_, ?_, ?_, ?_⟩ <;> intros <;> first | rfl | skip
  · rename_i h; simp only [ixstrX, if_pos h]
  · rename_i lo hi s
    simp only [slstrX]
    cases bnd hi s.length s.length with
    | none => rfl
    | some h => simp only [Option.bind_some]; cases bnd lo h 0 <;> rfl
  · rename_i h1 h2; simp only [bnd, if_pos (And.intro h1 h2)]

/-! ### States -/
def nvs (σ : St) : Nat := σ.vars.length
def nrs (σ : St) : Nat := σ.rows.length
def getV (σ : St) (b : Nat) : Option VB := σ.vars[b]?
def getR (σ : St) (r : Nat) : Option (Option Row) := σ.rows[r]?
def ldV (v : Option VB) (off n : Nat) : Option (List AV) :=
  match v with
  | some (.cells _ l) => if off + n ≤ l.length then some ((l.drop off).take n) else none
  | _ => none
def stV (σ : St) (b : Nat) (v : Option VB) (off : Nat) (cs : List AV) : Option St :=
  match v with
  | some (.cells e l) => if off + cs.length ≤ l.length then some (σ.setV b (.cells e (setL l off cs))) else none
  | _ => none
def one1 (l : List AV) : Option AV :=
  match l with
  | [c] => some c
  | _ => none
theorem one1_one (c : AV) : one1 [c] = some c := rfl
def onesN : Nat → List AV → Bool
  | 0, [] => true
  | n + 1, a :: l => a.one && onesN n l
  | _, _ => false
theorem onesN_eq : ∀ (n : Nat) (l : List AV), (onesN n l = true) = (l.length = n ∧ l.all AV.one = true)
  | 0, [] => by simp [onesN]
  | 0, a :: l => by simp [onesN]
  | n + 1, [] => by simp [onesN]
  | n + 1, a :: l => by
    simp only [onesN, Bool.and_eq_true, List.length_cons, List.all_cons, onesN_eq n l, Nat.add_right_cancel_iff]
    exact propext ⟨fun ⟨a, b, c⟩ => ⟨b, a, c⟩, fun ⟨a, b, c⟩ => ⟨b, a, c⟩⟩
theorem walkO : onesN 0 [] = true ∧ (∀ (n : Nat) (a : AV) (l : List AV), onesN (n + 1) (a :: l) = (a.one && onesN n l)) ∧ (∀ (b : Bool), (true && b) = b) ∧
    (∀ (k : IntKind) (n : Int), (AV.int k n).one = true) ∧ (∀ (s : List UInt8), (AV.str s).one = true) ∧ (∀ (b : Bool), (AV.bool b).one = true) ∧
    (AV.nils.one = true) ∧ (AV.nilp.one = true) ∧ (AV.nili.one = true) ∧ (AV.niln.one = true) ∧ (AV.ez.one = true) ∧
    (∀ (l : List (List AV)), (AV.sl l).one = true) ∧ (∀ (r o n : Nat), (AV.os r o n).one = true) ∧ (∀ (t : TypeId) (v : AV), (AV.ifc t v).one = true) ∧ (∀ (b o : Nat), (AV.vp b o).one = true) ∧
    (∀ (f : Fn) (a b : List AV), (AV.fn f a b).one = true) ∧ (∀ (l : List AV), (AV.rp l).one = true) ∧ (∀ (r i k : Nat), (AV.op r i k).one = true) := by
  refine ⟨?_, ?_, ?_, ?_, ?_, ?_, ?_, ?_, ?_, ?_, ?_, ?_, ?_, ?_, ?_, ?_, ?_, ?_⟩ <;> intros <;> rfl
def nxtV (σ : St) (b : Nat) (v : Option VB) : Option (AV × St) :=
  match v with
  | some (.siter s pos) => if pos < s.length then
      some (.tup [.bool true, .int .i64 pos, .int .i32 (Utf8.decode ⟨s.toArray⟩ pos).1], σ.setV b (.siter s (pos + (Utf8.decode ⟨s.toArray⟩ pos).2)))
    else some (.tup [.bool false], σ)
  | _ => none
theorem getV_lt {σ : St} {b : Nat} {v : VB} (h : getV σ b = some v) : b < nvs σ := (List.getElem?_eq_some_iff.1 h).1
theorem getR_lt {σ : St} {b : Nat} {v : Option Row} (h : getR σ b = some v) : b < nrs σ := (List.getElem?_eq_some_iff.1 h).1
theorem walkH :
    (∀ (σ : St), σ.vars.length = nvs σ) ∧ (∀ (σ : St), σ.rows.length = nrs σ) ∧
    (∀ (σ : St) (p : AV) (n : Nat), ldX (some n) σ p = (ldAt σ p n).map .agg) ∧
    (∀ (σ : St) (p : AV), ldX none σ p = (ldAt σ p 1).bind one1) ∧
    (∀ (σ : St) (b off n : Nat), ldAt σ (.vp b off) n = ldV (getV σ b) off n) ∧
    (∀ (σ : St) (l : List AV) (n : Nat), ldAt σ (.rp l) n = if n ≤ l.length then some (l.take n) else none) ∧
    (∀ (e : TypeId) (l : List AV) (off n : Nat), ldV (some (.cells e l)) off n = if off + n ≤ l.length then some ((l.drop off).take n) else none) ∧
    (∀ (n : Nat) (σ : St) (p c : AV), stX n σ p c = if onesN n (cellsA c) = true then stAt σ p (cellsA c) else none) ∧
    (∀ (σ : St) (b off : Nat) (cs : List AV), stAt σ (.vp b off) cs = stV σ b (getV σ b) off cs) ∧
    (∀ (σ : St) (b off : Nat) (e : TypeId) (l cs : List AV), stV σ b (some (.cells e l)) off cs = if off + cs.length ≤ l.length then some (σ.setV b (.cells e (setL l off cs))) else none) ∧
    (∀ (σ : St) (v : VB), nvs (σ.pushV v) = nvs σ + 1) ∧ (∀ (σ : St) (b : Nat) (v : VB), nvs (σ.setV b v) = nvs σ) ∧ (∀ (σ : St) (r : Row), nvs (σ.pushR r) = nvs σ) ∧ (∀ (σ : St) (r : Nat) (x : Option Row), nvs (σ.setR r x) = nvs σ) ∧
    (∀ (σ : St) (v : VB), nrs (σ.pushV v) = nrs σ) ∧ (∀ (σ : St) (b : Nat) (v : VB), nrs (σ.setV b v) = nrs σ) ∧ (∀ (σ : St) (r : Row), nrs (σ.pushR r) = nrs σ + 1) ∧ (∀ (σ : St) (r : Nat) (x : Option Row), nrs (σ.setR r x) = nrs σ) ∧
    (∀ (σ : St) (v : VB) (b : Nat), b = nvs σ → getV (σ.pushV v) b = some v) ∧
    (∀ (σ : St) (b : Nat) (v : VB), b < nvs σ → getV (σ.pushV v) b = getV σ b) ∧
    (∀ (σ : St) (b : Nat) (v : VB), b < nvs σ → getV (σ.setV b v) b = some v) ∧
    (∀ (σ : St) (b b' : Nat) (v : VB), b' ≠ b → getV (σ.setV b v) b' = getV σ b') ∧
    (∀ (σ : St) (r : Row) (b : Nat), getV (σ.pushR r) b = getV σ b) ∧ (∀ (σ : St) (r : Nat) (x : Option Row) (b : Nat), getV (σ.setR r x) b = getV σ b) ∧
    (∀ (σ : St) (v v' : VB) (b : Nat), b = nvs σ → (σ.pushV v).setV b v' = σ.pushV v') ∧
    (∀ (σ : St) (b : Nat) (v v' : VB), b < nvs σ → (σ.pushV v).setV b v' = (σ.setV b v').pushV v) ∧
    (∀ (σ : St) (b : Nat) (v v' : VB), (σ.setV b v).setV b v' = σ.setV b v') ∧
    (∀ (σ : St) (r : Row) (b : Nat) (v : VB), (σ.pushR r).setV b v = (σ.setV b v).pushR r) ∧ (∀ (σ : St) (r : Nat) (x : Option Row) (b : Nat) (v : VB), (σ.setR r x).setV b v = (σ.setV b v).setR r x) ∧
    (∀ (σ : St) (r : Row) (b : Nat), b = nrs σ → getR (σ.pushR r) b = some (some r)) ∧
    (∀ (σ : St) (r : Row) (b : Nat), b < nrs σ → getR (σ.pushR r) b = getR σ b) ∧
    (∀ (σ : St) (b : Nat) (x : Option Row), b < nrs σ → getR (σ.setR b x) b = some x) ∧
    (∀ (σ : St) (b b' : Nat) (x : Option Row), b' ≠ b → getR (σ.setR b x) b' = getR σ b') ∧
    (∀ (σ : St) (v : VB) (b : Nat), getR (σ.pushV v) b = getR σ b) ∧ (∀ (σ : St) (b : Nat) (v : VB) (r : Nat), getR (σ.setV b v) r = getR σ r) := by
  refine ⟨?_, ?_, ?_, ?_, ?_, ?_, ?_, ?_, ?_, ?_, ?_, ?_, ?_, ?_, ?_, ?_, ?_, ?_, ?_, ?_, ?_, ?_, ?_, ?_, ?_, ?_, ?_, ?_, ?_, ?_, ?_, ?_, ?_, ?_, ?_⟩ <;> intros <;> first | rfl | skip
  · rename_i σ p; simp only [ldX]; cases ldAt σ p 1 with
    | none => rfl
    | some l => cases l with
      | nil => rfl
      | cons a l => cases l <;> rfl
  · rename_i n σ p c; simp only [stX, onesN_eq]
  · simp [nvs, St.pushV]
  · simp [nvs, St.setV]
  · simp [nrs, St.pushR]
  · simp [nrs, St.setR]
  · rename_i h; subst h; simp [getV, nvs, St.pushV]
  · rename_i h; simp only [getV, nvs, St.pushV] at *; rw [List.getElem?_append_left h]
  · rename_i h; simp only [getV, nvs, St.setV] at *; simp [h]
  · rename_i h; simp only [getV, St.setV]; rw [List.getElem?_set_ne (Ne.symm h)]
  · rename_i h; subst h; simp [nvs, St.pushV, St.setV]
  · rename_i h; simp only [nvs, St.pushV, St.setV] at *; rw [List.set_append_left _ _ h]
  · simp [St.setV]
  · rename_i h; subst h; simp [getR, nrs, St.pushR]
  · rename_i h; simp only [getR, nrs, St.pushR] at *; rw [List.getElem?_append_left h]
  · rename_i h; simp only [getR, nrs, St.setR] at *; simp [h]
  · rename_i h; simp only [getR, St.setR]; rw [List.getElem?_set_ne (Ne.symm h)]
/-- Ranges over texts, the greatest and the least. -/
theorem walkR :
    (∀ (σ : St) (s : List UInt8), moreX .rng σ [.str s] = some (.vp (nvs σ) 0, σ.pushV (.siter s 0))) ∧
    (∀ (σ : St) (b : Nat), moreX .nxt σ [.vp b 0] = nxtV σ b (getV σ b)) ∧
    (∀ (σ : St) (b : Nat) (s : List UInt8) (pos : Nat), pos < s.length → nxtV σ b (some (.siter s pos)) = some (.tup [.bool true, .int .i64 pos, .int .i32 (Utf8.decode ⟨s.toArray⟩ pos).1], σ.setV b (.siter s (pos + (Utf8.decode ⟨s.toArray⟩ pos).2)))) ∧
    (∀ (σ : St) (b : Nat) (s : List UInt8) (pos : Nat), s.length ≤ pos → nxtV σ b (some (.siter s pos)) = some (.tup [.bool false], σ)) ∧
    (∀ (σ : St) (k k' : IntKind) (x y : Int), moreX .mx σ [.int k x, .int k' y] = some (.int k (if y > x then y else x), σ)) ∧
    (∀ (σ : St) (k k' : IntKind) (x y : Int), moreX .mn σ [.int k x, .int k' y] = some (.int k (if y < x then y else x), σ)) ∧
    (∀ (σ : St) (e : TypeId) (s : List UInt8), moreX (.s2b e) σ [.str s] = some (.os (nrs σ) 0 s.length, σ.pushR ⟨e, 1, 0, s.map fun b => [.int .u8 b.toNat]⟩)) ∧
    (∀ (σ : St) (t : TypeId) (x : AV), moreX (.b2s t) σ [x] = (b2sX σ x).map fun r => (r, σ)) := by
  refine ⟨?_, ?_, ?_, ?_, ?_, ?_, ?_, ?_⟩ <;> intros <;> first | rfl | skip
  · rename_i h; simp only [nxtV, if_pos h]
  · rename_i h; simp only [nxtV]; rw [if_neg (by omega)]
/-- States that are written out. -/
theorem walkG :
    (∀ (vs : List VB) (rs : List (Option Row)), nvs ⟨vs, rs⟩ = vs.length) ∧ (∀ (vs : List VB) (rs : List (Option Row)), nrs ⟨vs, rs⟩ = rs.length) ∧
    (∀ (vs : List VB) (rs : List (Option Row)) (b : Nat), getV ⟨vs, rs⟩ b = vs[b]?) ∧ (∀ (vs : List VB) (rs : List (Option Row)) (b : Nat), getR ⟨vs, rs⟩ b = rs[b]?) ∧
    (∀ (vs : List VB) (rs : List (Option Row)) (v : VB), St.pushV ⟨vs, rs⟩ v = ⟨vs ++ [v], rs⟩) ∧ (∀ (vs : List VB) (rs : List (Option Row)) (r : Row), St.pushR ⟨vs, rs⟩ r = ⟨vs, rs ++ [some r]⟩) ∧
    (∀ (vs : List VB) (rs : List (Option Row)) (b : Nat) (v : VB), St.setV ⟨vs, rs⟩ b v = ⟨vs.set b v, rs⟩) ∧ (∀ (vs : List VB) (rs : List (Option Row)) (r : Nat) (x : Option Row), St.setR ⟨vs, rs⟩ r x = ⟨vs, rs.set r x⟩) := by
  refine ⟨?_, ?_, ?_, ?_, ?_, ?_, ?_, ?_⟩ <;> intros <;> rfl

theorem wrap_i64 (n : Int) (h : -9223372036854775808 ≤ n) (k : n < 9223372036854775808) : IntKind.i64.wrap n = n := by
  simp only [IntKind.wrap, IntKind.bits, IntKind.signed]
  simp
  split <;> omega
theorem wrap_i32 (n : Int) (h : -2147483648 ≤ n) (k : n < 2147483648) : IntKind.i32.wrap n = n := by
  simp only [IntKind.wrap, IntKind.bits, IntKind.signed]
  simp
  split <;> omega
theorem wrap_u8 (n : Int) (h : 0 ≤ n) (k : n < 256) : IntKind.u8.wrap n = n := by
  simp only [IntKind.wrap, IntKind.bits, IntKind.signed]
  simp
  omega
theorem wrap_u32 (n : Int) (h : 0 ≤ n) (k : n < 4294967296) : IntKind.u32.wrap n = n := by
  simp only [IntKind.wrap, IntKind.bits, IntKind.signed]
  simp
  omega
theorem wrap_u64 (n : Int) (h : 0 ≤ n) (k : n < 18446744073709551616) : IntKind.u64.wrap n = n := by
  simp only [IntKind.wrap, IntKind.bits, IntKind.signed]
  simp
  omega
def rowP (z r : Nat) (x : Option (Option Row)) (i : Nat) : Option AV :=
  match x with
  | some (some row) => if row.esz = z then some (.op r i 0) else none
  | _ => none
def rowL (x : Option (Option Row)) (i k n : Nat) : Option (List AV) :=
  match x with
  | some (some row) => match row.els[i]? with
    | some e => if k + n ≤ e.length then some ((e.drop k).take n) else none
    | none => none
  | _ => none
def rowN (x : Option (Option Row)) (v : AV) : Option AV :=
  match x with
  | some (some _) => some v
  | _ => none
/-- Rows and slices. -/
theorem walkQ :
    (∀ (z : Nat) (σ : St) (r off m : Nat) (k : IntKind) (n : Int), 0 ≤ n → n < m → ixsX z σ (.os r off m) (.int k n) = rowP z r (getR σ r) (off + n.toNat)) ∧
    (∀ (z r : Nat) (row : Row) (i : Nat), rowP z r (some (some row)) i = if row.esz = z then some (.op r i 0) else none) ∧
    (∀ (σ : St) (r i k n : Nat), ldAt σ (.op r i k) n = rowL (getR σ r) i k n) ∧
    (∀ (row : Row) (i k n : Nat), rowL (some (some row)) i k n = (row.els[i]?).bind fun e => if k + n ≤ e.length then some ((e.drop k).take n) else none) ∧
    (∀ (z : Nat) (σ : St) (els : List (List AV)) (k : IntKind) (n : Int), 0 ≤ n → ixsX z σ (.sl els) (.int k n) = (els[n.toNat]?).bind fun c => if c.length = z then some (.rp c) else none) ∧
    (∀ (σ : St) (r i k : Nat), nilA σ (.op r i k) = rowN (getR σ r) (.op r i k)) ∧
    (∀ (σ : St) (b o : Nat), nilA σ (.vp b o) = some (.vp b o)) ∧ (∀ (σ : St) (l : List AV), nilA σ (.rp l) = some (.rp l)) ∧
    (∀ (x : Row) (v : AV), rowN (some (some x)) v = some v) ∧
    (∀ (off : Nat) (σ : St) (b o : Nat), faX off σ (.vp b o) = some (.vp b (o + off))) ∧ (∀ (off : Nat) (σ : St) (l : List AV), faX off σ (.rp l) = some (.rp (l.drop off))) ∧
    (∀ (off : Nat) (σ : St) (r i k : Nat), faX off σ (.op r i k) = rowN (getR σ r) (.op r i (k + off))) := by
  refine ⟨?_, ?_, ?_, ?_, ?_, ?_, ?_, ?_, ?_, ?_, ?_, ?_⟩ <;> intros <;> first | rfl | skip
  · rename_i h1 h2
    simp only [ixsX, if_pos (And.intro h1 h2), rowP, getR]
    rfl
  · rename_i row i k n
    simp only [rowL]
    cases row.els[i]? <;> rfl
  · rename_i h; simp only [ixsX, if_pos h]
    rename_i els k n
    cases els[n.toNat]? <;> rfl
  · rename_i off σ r i k
    show (if liveA σ (.op r i k) = true then some (AV.op r i (k + off)) else none) = rowN (σ.rows[r]?) _
    by_cases h : liveA σ (.op r i k) = true
    · rw [if_pos h]
      obtain ⟨row, hr⟩ := (liveA_op h).1 r i k rfl
      rw [hr]; rfl
    · rw [if_neg h]
      unfold rowN
      split
      · rename_i x hx
        exact absurd (by simp only [liveA, hx]) h
      · rfl
/-- All rules. -/
def walkAll := And.intro walkD <| And.intro walkQ <| And.intro walkP <| And.intro walkC (And.intro walkS (And.intro walkV (And.intro walkX (And.intro walkM (And.intro walkB (And.intro walkN (And.intro walkU (And.intro walkH (And.intro walkG (And.intro walkO walkR))))))))))
/-- Small change: what a walk needs of Lean's own lists and numbers. -/
theorem walkL :
    (∀ {α : Type} (a : α) (l : List α), (a :: l)[0]? = some a) ∧ (∀ {α : Type} (a : α) (l : List α) (n : Nat), (a :: l)[n + 1]? = l[n]?) ∧
    (∀ {α β : Type} (a : α) (f : α → Option β), (some a).bind f = f a) ∧ (∀ {α β : Type} (a : α) (f : α → β), (some a).map f = some (f a)) ∧
    (∀ (b : Bool), (b == true) = b) ∧ (∀ (b : Bool), (b == false) = !b) ∧ ((!true) = false) ∧ ((!false) = true) ∧
    (∀ {α : Type} (a : α) (l m : List α), (a :: l) ++ m = a :: (l ++ m)) ∧ (∀ {α : Type} (l : List α), [] ++ l = l) ∧
    (∀ {α : Type} (l : List α), l.drop 0 = l) ∧ (∀ {α : Type} (a : α) (l : List α) (n : Nat), (a :: l).drop (n + 1) = l.drop n) ∧
    (∀ {α : Type} (l : List α), l.take 0 = []) ∧ (∀ {α : Type} (a : α) (l : List α) (n : Nat), (a :: l).take (n + 1) = a :: l.take n) ∧
    (∀ {α : Type} (a b : α) (l : List α), (a :: l).set 0 b = b :: l) ∧ (∀ {α : Type} (a b : α) (l : List α) (n : Nat), (a :: l).set (n + 1) b = a :: l.set n b) ∧
    (∀ {α : Type}, ([] : List α).length = 0) ∧ (∀ {α : Type} (a : α) (l : List α), (a :: l).length = l.length + 1) ∧
    (∀ (n : Nat), (n : Int).toNat = n) ∧ (∀ (c : AV), one1 [c] = some c) ∧
    (∀ {α β : Type} (c : Prop) [Decidable c] (a : α) (f : α → Option β), (if c then some a else none).bind f = if c then f a else none) ∧
    (∀ {α β : Type} (c : Prop) [Decidable c] (a : α) (f : α → β), (if c then some a else none).map f = if c then some (f a) else none) ∧
    (∀ (n : Nat) {α : Type} (l : List α), n = l.length → l.take n = l) ∧ (∀ (p : Prop), (True ∧ p) = p) := by
  refine ⟨?_, ?_, ?_, ?_, ?_, ?_, ?_, ?_, ?_, ?_, ?_, ?_, ?_, ?_, ?_, ?_, ?_, ?_, ?_, ?_, ?_, ?_, ?_, ?_⟩ <;> intros <;> first | rfl | (simp; done) | (split <;> rfl) | (rename_i h; rw [h]; simp)
end Go.Ab
