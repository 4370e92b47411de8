/-
  The abstract machine of this work, part 12: code in a short form, its types looked up ahead.
-/
import Derived.Test.YtpejbkckppnamaaDoorAbDraw
set_option linter.all false
set_option linter.unusedVariables false
set_option linter.unusedSimpArgs false
namespace Go.Ab
open Go Go.RowKit

inductive XV where
  | t (n : Nat)
  | k (c : AV)
inductive X where
  | mv (x : XV)
  | pick (c a b : XV)
  | mk (zero : List AV) (ps : List (Nat × Nat × XV))
  | ld (n : Option Nat) (a : XV)
  | st (n : Nat) (a x : XV)
  | nilc (x : XV)
  | bin (op : BinOp) (kd : Kd) (c : Bool) (x y : XV)
  | un (op : UnOp) (x : XV)
  | cvi (k : IntKind) (x : XV)
  | cvs (x : XV)
  | ifc (t : TypeId) (x : XV)
  | mkf (f : Fn) (a b : List XV)
  | sls (z : Nat) (x : XV) (lo hi mx : Option XV)
  | slstr (x : XV) (lo hi : Option XV)
  | fa (off : Nat) (x : XV)
  | fl (off : Nat) (n : Option Nat) (x : XV)
  | ixa (len z : Nat) (x i : XV)
  | ixs (z : Nat) (x i : XV)
  | ixstr (x i : XV)
  | ixarr (len z : Nat) (n : Option Nat) (x i : XV)
  | ex (x : XV) (i : Nat)
  | lens (x : XV)
  | lenl (x : XV)
  | lenarr (n : Nat) (x : XV)
  | strs (x : XV)
  | alloc (ty : TypeId) (zero : List AV)
  | box (ty : TypeId) (x : XV)
  | mks (e : TypeId) (z : Nat) (zero : List AV) (len : Nat) (ps : List (Nat × XV))
  | app (e : TypeId) (z bytes : Nat) (s x : XV)
  | call (f : XV) (args : List XV)
  | more (m : MO) (args : List XV)
structure CO where
  dst : Option Nat
  g : Option (Nat × Bool)
  x : X
/-- A region whose order is drawn: what turns nothing, what turns memory, two orders. -/
inductive CM where
  | done
  | q (m : Nat) (c : CO) (r : CM)
  | e (c : CO) (r : CM)
  | alt (a b : CM)
inductive CC where
  | skip
  | ops (l : List CO)
  | draw (l : List CO)
  | mix (m : CM)
  | seq (a b : CC)
  | cond (c : XV) (a b : CC)
  | block (id : Nat) (c : CC)
  | loop (c : CC)
  | exit (id : Nat)
  | ret

/-! ### Compiling -/
def cV (G : GT) : Operand → Option XV
  | .tmp n => some (.t n)
  | .const v => (ofV v).map .k
  | .global g => (G g).map fun cs => .k (.rp cs)
  | .func f => some (.k (.fn (.func f) [] []))
def cVs (G : GT) : List Operand → Option (List XV)
  | [] => some []
  | x :: xs => match cV G x, cVs G xs with
    | some c, some cs => some (c :: cs)
    | _, _ => none
def cPs (G : GT) : List (Nat × Operand) → Option (List (Nat × XV))
  | [] => some []
  | (i, x) :: xs => match cV G x, cPs G xs with
    | some c, some cs => some ((i, c) :: cs)
    | _, _ => none
def placed (place : Nat → Option (Nat × Nat)) : List (Nat × XV) → Option (List (Nat × Nat × XV))
  | [] => some []
  | (i, x) :: r => match place i, placed place r with
    | some (off, z), some cs => some ((off, z, x) :: cs)
    | _, _ => none
def cVo (G : GT) : Option Operand → Option (Option XV)
  | none => some none
  | some x => (cV G x).map some
def partN (T : TT) (t : TypeId) : Option (Option Nat) :=
  match T t with
  | some ti => if ti.kd.agg then some (some ti.size) else some none
  | none => none
def needKd : AV → Bool
  | .int _ _ | .str _ => false
  | _ => true
def cOp0 (T : TT) (G : GT) (op : Op) : Option X :=
  match op with
  | .move x | .assign x => (cV G x).map .mv
  | .pick c a b => match cV G c, cV G a, cV G b with
    | some c, some a, some b => some (.pick c a b)
    | _, _, _ => none
  | .build ty parts => match cPs G parts.toList with
    | some ps => match T ty with
      | some ti => match ti.kd with
        | .struct fs => match placesA T fs with
          | some pl => (placed (pl[·]?) ps).map (.mk ti.zero)
          | none => none
        | .arr _ e => match szOf T e with
          | some z => (placed (fun i => some (i * z, z)) ps).map (.mk ti.zero)
          | none => none
        | _ => none
      | none => none
    | none => none
  | .load ty a => match cV G a, partN T ty with
    | some c, some n => some (.ld n c)
    | _, _ => none
  | .nilCheck x => (cV G x).map .nilc
  | .binOp op xt x y _ => match cV G x, cV G y, T xt with
    | some a, some b, some ti => some (.bin op ti.kd (isC x || isC y) a b)
    | _, _, _ => none
  | .unOp op _ x => (cV G x).map (.un op)
  | .convert s d x => match cV G x, kdOf T s, kdOf T d with
    | some c, some (.int _), some (.int k) => some (.cvi k c)
    | some c, some (.int _), some .str => some (.cvs c)
    | some c, some .str, some .str => some (.strs c)
    | _, _, _ => none
  | .makeInterface ty x => match cV G x, kdOf T ty with
    | some _, some .iface => none
    | some c, some _ => some (.ifc ty c)
    | _, _ => none
  | .makeFunc f first cap => match cVs G first.toList, cVs G cap.toList with
    | some a, some b => some (.mkf f a b)
    | _, _ => none
  | .slice ty x lo hi mx => match cV G x, cVo G lo, cVo G hi, cVo G mx with
    | some c, some l, some h, some m => match kdOf T ty with
      | some .str => match m with
        | none => some (.slstr c l h)
        | some _ => none
      | some (.slice e) => (szOf T e).map fun z => .sls z c l h m
      | _ => none
    | _, _, _, _ => none
  | .fieldAddr ty x f => match cV G x, kdOf T ty with
    | some c, some (.struct fs) => match fs[f]? with
      | some (off, ft) => match szOf T ft with
        | some (_ + 1) => some (.fa off c)
        | _ => none
      | none => none
    | _, _ => none
  | .field ty x f => match cV G x, kdOf T ty with
    | some c, some (.struct fs) => match fs[f]? with
      | some (off, ft) => (partN T ft).map fun n => .fl off n c
      | none => none
    | _, _ => none
  | .indexAddr ty x i => match cV G x, cV G i, kdOf T ty with
    | some c, some d, some (.arr len e) => (szOf T e).map fun z => .ixa len z c d
    | some c, some d, some (.slice e) => (szOf T e).map fun z => .ixs z c d
    | _, _, _ => none
  | .index ty x i => match cV G x, cV G i, kdOf T ty with
    | some c, some d, some .str => some (.ixstr c d)
    | some c, some d, some (.arr len e) => match szOf T e, partN T e with
      | some z, some n => some (.ixarr len z n c d)
      | _, _ => none
    | _, _, _ => none
  | .extract x i => (cV G x).map fun c => .ex c i
  | .alloc ty => (T ty).map fun ti => .alloc ty ti.zero
  | .box ty x => (cV G x).map (.box ty)
  | .buildSlice ty len parts => match cPs G parts.toList, kdOf T ty with
    | some ps, some (.slice e) => match T e with
      | some ti => if len * ti.size ≤ 16777216 ∧ 0 < ti.size ∧ ti.zero.all AV.one = true then some (.mks e ti.size ti.zero len ps) else none
      | none => none
    | _, _ => none
  | .store ty a x => match cV G a, cV G x, szOf T ty with
    | some c, some d, some n => some (.st n c d)
    | _, _, _ => none
  | .call c => match c.callee with
    | .value f => match cV G f, cVs G c.args.toList with
      | some f, some as => some (.call f as)
      | _, _ => none
    | .builtin .len => match c.args.toList, c.argTypes.toList with
      | [x], ty :: _ => match cV G x, kdOf T ty with
        | some c, some .str => some (.lens c)
        | some c, some (.slice _) => some (.lenl c)
        | some c, some (.arr n _) => some (.lenarr n c)
        | _, _ => none
      | _, _ => none
    | .builtin .append => match c.args.toList, c.argTypes.toList with
      | [s, x], [ts, tx] => match cV G s, cV G x, kdOf T ts, kdOf T tx with
        | some a, some b, some (.slice e), some k => if k.src then match T e with
          | some ti => if 0 < ti.size ∧ 0 < ti.bytes then some (.app e ti.size ti.bytes a b) else none
          | none => none else none
        | _, _, _, _ => none
      | _, _ => none
    | _ => none
  | _ => none
def cOp (T : TT) (G : GT) (op : Op) : Option X :=
  match moreOf T op with
  | some (m, xs) => (cVs G xs).map (.more m)
  | none => cOp0 T G op
def cGuard (ops : Array Oper) : Option (Nat × Bool) → Option (Option (Nat × Bool))
  | none => some none
  | some (j, want) => match (ops[j]?).bind (·.dst) with
    | some d => some (some (d, want))
    | none => none
def dstIn (N : Nat) : Option Nat → Bool
  | none => true
  | some d => decide (d < N)
def cOps (T : TT) (G : GT) (N : Nat) (ops : Array Oper) : List Oper → Option (List CO)
  | [] => some []
  | o :: r => match cOp T G o.op, cGuard ops o.guard, cOps T G N ops r with
    | some x, some g, some cs => if dstIn N o.dst then some (⟨o.dst, g, x⟩ :: cs) else none
    | _, _, _ => none
/-- The short form of an operation that turns no memory. -/
def X.pure : X → Bool
  | .call _ _ | .more _ _ | .st _ _ _ | .alloc _ _ | .box _ _ | .mks _ _ _ _ _ | .app _ _ _ _ _ => false
  | _ => true
/-- One that gives the same in each state. -/
def X.fixed : X → Bool
  | .ld _ _ | .nilc _ | .sls _ _ _ _ _ | .fa _ _ | .ixs _ _ _ => false
  | x => x.pure
def coAt (T : TT) (G : GT) (N : Nat) (ops : Array Oper) (i : Nat) : Option CO :=
  match ops[i]? with
  | some o => match cOp T G o.op, cGuard ops o.guard with
    | some x, some g => if dstIn N o.dst then some ⟨o.dst, g, x⟩ else none
    | _, _ => none
  | none => none
def quietAt (T : TT) (G : GT) (N : Nat) (ops : Array Oper) (listed : Array Bool) (i : Nat) : Bool :=
  (match coAt T G N ops i with
  | some c => c.x.pure
  | none => false) && Region.free .any ops listed i
/-- These, each first. -/
def altAll (T : TT) (G : GT) (N : Nat) (ops : Array Oper) (f : Array Bool → Option CM) (listed : Array Bool) : List Nat → Option CM
  | [] => none
  | i :: is => match coAt T G N ops i, f (listed.setIfInBounds i true) with
    | some c, some r => match is with
      | [] => some (.e c r)
      | _ => match altAll T G N ops f listed is with
        | some b => some (.alt (.e c r) b)
        | none => none
    | _, _ => none
/-- A region whose order is drawn: what turns nothing as early as may be, the others in each order. -/
def cMix (T : TT) (G : GT) (N : Nat) (ops : Array Oper) : Nat → Array Bool → Option CM
  | 0, listed => match Region.ready .any ops listed with
    | [] => some .done
    | _ => none
  | fuel + 1, listed => match Region.ready .any ops listed with
    | [] => some .done
    | r :: rs => match (r :: rs).find? (quietAt T G N ops listed) with
      | some i => match coAt T G N ops i, cMix T G N ops fuel (listed.setIfInBounds i true) with
        | some c, some l => some (.q (if c.x.fixed then 0 else 1) c l)
        | _, _ => none
      | none => altAll T G N ops (cMix T G N ops fuel) listed (r :: rs)
def cDraw (T : TT) (G : GT) (N : Nat) (ops : Array Oper) : Option CC :=
  match cOps T G N ops ops.toList with
  | some l => if Region.lexB .any ops && l.all (fun c => c.x.pure) then some (.draw l) else (cMix T G N ops ops.size (Array.replicate ops.size false)).map .mix
  | none => none
def cCode (T : TT) (G : GT) (N : Nat) : Code → Option CC
  | .skip => some .skip
  | .region _ ops draw => if draw then cDraw T G N ops else (cOps T G N ops ops.toList).map .ops
  | .seq a b => match cCode T G N a, cCode T G N b with
    | some x, some y => some (.seq x y)
    | _, _ => none
  | .cond c a b => match cV G c, cCode T G N a, cCode T G N b with
    | some v, some x, some y => some (.cond v x y)
    | _, _, _ => none
  | .block id c => (cCode T G N c).map (.block id)
  | .loop c => (cCode T G N c).map .loop
  | .exit id => some (.exit id)
  | .ret => some .ret
  | _ => none

/-! ### Running the short form -/
abbrev Env := Nat → Option AV
/-- What a list of temporaries holds. -/
def E (t : List AV) : Env := fun n => t[n]?
def put (e : Env) (d : Nat) (c : AV) : Env := fun n => if n = d then some c else e n
def putE (e : Env) : Option Nat → AV → Env
  | some d, c => put e d c
  | none, _ => e
abbrev EQ := Exit → Env → St → Prop
def thenE (R : Env → St → Prop) (Q : EQ) : EQ := fun e t σ => match e with
  | .normal => R t σ
  | e => Q e t σ
def blockE (id : Nat) (Q : EQ) : EQ := fun e t σ => match e with
  | .exit id' => if id' = id then Q .normal t σ else Q (.exit id') t σ
  | e => Q e t σ
def Env.le (e f : Env) : Prop := ∀ n c, e n = some c → f n = some c
def liftK (N : Nat) (K : Env → St → Prop) (t : List AV) (σ : St) : Prop := ∃ e, Env.le e (E t) ∧ N ≤ t.length ∧ K e σ
def liftQ (N : Nat) (Q : EQ) : AQ := fun x => liftK N (Q x)
def xv (t : Env) : XV → Option AV
  | .t n => t n
  | .k c => some c
def xvs (t : Env) : List XV → Option (List AV)
  | [] => some []
  | x :: xs => match xv t x, xvs t xs with
    | some c, some cs => some (c :: cs)
    | _, _ => none
def xvo (t : Env) : Option XV → Option (Option AV)
  | none => some none
  | some x => (xv t x).map some
def xps (t : Env) : List (Nat × XV) → Option (List (Nat × AV))
  | [] => some []
  | (i, x) :: xs => match xv t x, xps t xs with
    | some c, some cs => some ((i, c) :: cs)
    | _, _ => none
def fillX (t : Env) : List AV → List (Nat × Nat × XV) → Option (List AV)
  | cells, [] => some cells
  | cells, (off, z, x) :: r => match xv t x with
    | some c => if (cellsA c).length = z ∧ off + z ≤ cells.length then fillX t (setL cells off (cellsA c)) r else none
    | none => none
def ldX (n : Option Nat) (σ : St) (p : AV) : Option AV :=
  match n with
  | some n => (ldAt σ p n).map .agg
  | none => match ldAt σ p 1 with
    | some [c] => some c
    | _ => none
def stX (n : Nat) (σ : St) (p c : AV) : Option St := if (cellsA c).length = n ∧ (cellsA c).all AV.one = true then stAt σ p (cellsA c) else none
def partX (n : Option Nat) (cs : List AV) (off : Nat) : Option AV :=
  match n with
  | some n => if off + n ≤ cs.length then some (.agg ((cs.drop off).take n)) else none
  | none => cs[off]?
def binX (op : BinOp) (kd : Kd) (c : Bool) (x y : AV) : Option AV :=
  match x, y with
  | .int k a, .int k' b => if shOp op then shiftI op k a b else if k = k' then binI op k a b else none
  | .str a, .str b => binS op a b
  | .bool a, .bool b => match kd with
    | .bool => binB op a b
    | _ => none
  | x, y => binN op x y kd c
def cviX (k : IntKind) : AV → Option AV
  | .int _ n => some (.int k (k.wrap n))
  | _ => none
def cvsX : AV → Option AV
  | .int _ n => some (.str (Utf8.encode n).data.toList)
  | _ => none
def slstrX (x : AV) (lo hi : Option AV) : Option AV :=
  match x with
  | .str s => match bnd hi s.length s.length with
    | some h => match bnd lo h 0 with
      | some l => some (.str ((s.drop l).take (h - l)))
      | none => none
    | none => none
  | _ => none
def slsX (z : Nat) (σ : St) (x : AV) (lo hi mx : Option AV) : Option AV :=
  match x, mx with
  | .sl els, none => match bnd hi els.length els.length with
    | some h => match bnd lo h 0 with
      | some l => if els.all (fun c => c.length == z) then some (.sl ((els.drop l).take (h - l))) else none
      | none => none
    | none => none
  | .sl _, some (.int _ 0) => match bnd hi 0 0, bnd lo 0 0 with
    | some 0, some 0 => if hi.isSome then some .ez else none
    | _, _ => none
  | .os r off n, none => if liveA σ (.os r off n) then match bnd hi n n, bnd lo 0 0 with
    | some h, some 0 => some (.os r off h)
    | _, _ => none else none
  | .nils, _ => match bnd hi 0 0, bnd lo 0 0, bnd mx 0 0 with
    | some 0, some 0, some 0 => if mx.isSome && !hi.isSome then none else some .nils
    | _, _, _ => none
  | _, _ => none
def faX (off : Nat) (σ : St) (x : AV) : Option AV :=
  match x with
  | .vp b o => some (.vp b (o + off))
  | .rp cs => some (.rp (cs.drop off))
  | .op r i k => if liveA σ (.op r i k) then some (.op r i (k + off)) else none
  | _ => none
def flX (off : Nat) (n : Option Nat) (x : AV) : Option AV :=
  match x with
  | .agg cs => partX n cs off
  | _ => none
def ixaX (len z : Nat) (x i : AV) : Option AV :=
  match x, i with
  | .vp b o, .int _ n => if 0 ≤ n ∧ n < len then some (.vp b (o + n.toNat * z)) else none
  | _, _ => none
def ixsX (z : Nat) (σ : St) (x i : AV) : Option AV :=
  match x, i with
  | .sl els, .int _ n => if 0 ≤ n then match els[n.toNat]? with
    | some c => if c.length = z then some (.rp c) else none
    | none => none else none
  | .os r off m, .int _ n => if 0 ≤ n ∧ n < m then
    match σ.rows[r]? with
    | some (some row) => if row.esz = z then some (.op r (off + n.toNat) 0) else none
    | _ => none else none
  | _, _ => none
def ixstrX (x i : AV) : Option AV :=
  match x, i with
  | .str s, .int _ n => if 0 ≤ n then (s[n.toNat]?).map fun b => .int .u8 b.toNat else none
  | _, _ => none
def ixarrX (len z : Nat) (n : Option Nat) (x i : AV) : Option AV :=
  match x, i with
  | .agg cs, .int _ j => if 0 ≤ j ∧ j < len then partX n cs (j.toNat * z) else none
  | _, _ => none
def lensX : AV → Option AV
  | .str s => some (.int .i64 s.length)
  | _ => none
def strsX : AV → Option AV
  | .str s => some (.str s)
  | _ => none
def lenlX : AV → Option AV
  | .sl els => some (.int .i64 els.length)
  | .nils => some (.int .i64 0)
  | .ez => some (.int .i64 0)
  | .os _ _ n => some (.int .i64 n)
  | _ => none
def mksX (e : TypeId) (z : Nat) (zero : List AV) (len : Nat) (σ : St) (ps : List (Nat × AV)) : Option (AV × St) :=
  match fillE z (List.replicate len zero) ps with
  | some els => some (.os σ.rows.length 0 len, σ.pushR ⟨e, z, 0, els⟩)
  | none => none
def appX (e : TypeId) (z bytes : Nat) (σ : St) (s x : AV) : Option (AV × St) :=
  match elsA σ x with
  | some ys => if ys.all (fun c => c.length == z) && ys.all (fun c => c.all AV.one) then
      match s with
      | .nils => if ys = [] then some (.nils, σ) else
        if ys.length * bytes ≤ 140737488355328 then some (.os σ.rows.length 0 ys.length, σ.pushR ⟨e, z, 0, ys⟩) else none
      | .ez => if ys = [] then some (.ez, σ) else
        if ys.length * bytes ≤ 140737488355328 then some (.os σ.rows.length 0 ys.length, σ.pushR ⟨e, z, 0, ys⟩) else none
      | .sl els => if ys = [] then some (.sl els, σ) else none
      | .os r off n => match σ.rows[r]? with
        | some (some row) => if off + n ≤ row.els.length ∧ row.fz ≤ off + n ∧ row.esz = z ∧ row.ety = e ∧ (n + ys.length) * bytes ≤ 140737488355328 then
            some (.os σ.rows.length 0 (n + ys.length), (σ.setR r none).pushR ⟨e, z, row.fz - off, (row.els.drop off).take n ++ ys⟩) else none
        | _ => none
      | _ => none
    else none
  | none => none

/-- The value, and what follows; nothing follows of none. -/
def optK {α : Type} (x : Option α) (K : α → Prop) : Prop :=
  match x with
  | some r => K r
  | none => False
def pairK (x : Option (AV × St)) (K : AV → St → Prop) : Prop :=
  match x with
  | some (r, σ') => K r σ'
  | none => False
/-- A fork: the walk looks at its question first, and at a way only when that is answered. -/
def brk (b : Bool) (A B : Prop) : Prop := if b = true then A else B
theorem brk_true (A B : Prop) : brk true A B = A := rfl
theorem brk_false (A B : Prop) : brk false A B = B := rfl
theorem brk_split {b : Bool} {A B : Prop} (h1 : b = true → A) (h2 : b = false → B) : brk b A B := by
  cases b
  · exact h2 rfl
  · exact h1 rfl
theorem optK_none {α : Type} (K : α → Prop) : optK none K = False := rfl
theorem optK_is {α : Type} (r : α) (K : α → Prop) : optK (some r) K = K r := rfl
theorem optK_if {α : Type} {c : Prop} [Decidable c] (x : Option α) (K : α → Prop) : optK (if c then x else none) K = (c ∧ optK x K) := by
  by_cases h : c
  · rw [if_pos h]; simp [h]
  · rw [if_neg h]; simp [h, optK]
theorem pairK_is (r : AV) (σ : St) (K : AV → St → Prop) : pairK (some (r, σ)) K = K r σ := rfl
theorem pairK_if {c : Prop} [Decidable c] (x : Option (AV × St)) (K : AV → St → Prop) : pairK (if c then x else none) K = (c ∧ pairK x K) := by
  by_cases h : c
  · rw [if_pos h]; simp [h]
  · rw [if_neg h]; simp [h, pairK]
/-- An operation that turns nothing. -/
def xP (t : Env) (σ : St) : X → Option AV
  | .mv x => xv t x
  | .pick c a b => (xv t c).bind fun v => match v with
    | .bool true => xv t a
    | .bool false => xv t b
    | _ => none
  | .mk zero ps => (fillX t zero ps).map .agg
  | .ld n a => (xv t a).bind (ldX n σ)
  | .nilc x => (xv t x).bind (nilA σ)
  | .bin op kd c x y => (xv t x).bind fun a => (xv t y).bind fun b => binX op kd c a b
  | .un op x => (xv t x).bind (unA op)
  | .cvi k x => (xv t x).bind (cviX k)
  | .cvs x => (xv t x).bind cvsX
  | .ifc ty x => (xv t x).map (.ifc ty)
  | .mkf f a b => (xvs t a).bind fun c => (xvs t b).map fun d => .fn f c d
  | .sls z x lo hi mx => (xv t x).bind fun c => (xvo t lo).bind fun l => (xvo t hi).bind fun h => (xvo t mx).bind fun m => slsX z σ c l h m
  | .slstr x lo hi => (xv t x).bind fun c => (xvo t lo).bind fun l => (xvo t hi).bind fun h => slstrX c l h
  | .fa off x => (xv t x).bind (faX off σ)
  | .fl off n x => (xv t x).bind (flX off n)
  | .ixa len z x i => (xv t x).bind fun a => (xv t i).bind fun b => ixaX len z a b
  | .ixs z x i => (xv t x).bind fun a => (xv t i).bind fun b => ixsX z σ a b
  | .ixstr x i => (xv t x).bind fun a => (xv t i).bind fun b => ixstrX a b
  | .ixarr len z n x i => (xv t x).bind fun a => (xv t i).bind fun b => ixarrX len z n a b
  | .ex x i => (xv t x).bind fun a => extrA a i
  | .lens x => (xv t x).bind lensX
  | .lenl x => (xv t x).bind lenlX
  | .lenarr n x => (xv t x).map fun _ => .int .i64 n
  | .strs x => (xv t x).bind strsX
  | _ => none
/-- An operation, and what follows. -/
def aX (P : Program) (G : GT) (t : Env) (σ : St) (K : AV → St → Prop) : X → Prop
  | .call f args => optK (xv t f) fun v => optK (xvs t args) fun as => match v with
    | .fn (.func g) first cap => ACalls P G g (first ++ as ++ cap) σ K
    | _ => False
  | .st n a x => optK (xv t a) fun p => optK (xv t x) fun c => optK (stX n σ p c) fun σ' => K undefA σ'
  | .more m args => optK (xvs t args) fun as => pairK (moreX m σ as) K
  | .alloc ty zero => K (.vp σ.vars.length 0) (σ.pushV (.cells ty zero))
  | .box ty x => optK (xv t x) fun c => K (.vp σ.vars.length 0) (σ.pushV (.cells ty (cellsA c)))
  | .mks e z zero len ps => optK (xps t ps) fun qs => pairK (mksX e z zero len σ qs) K
  | .app e z bytes s x => optK (xv t s) fun a => optK (xv t x) fun b => pairK (appX e z bytes σ a b) K
  | .pick c a b => optK (xv t c) fun v => match v with
    | .bool q => brk q (optK (xv t a) fun r => K r σ) (optK (xv t b) fun r => K r σ)
    | _ => False
  | x => optK (xP t σ x) fun r => K r σ
/-- Under a guard the walk needs its answer. -/
def guardX (e : Env) (g : Option (Nat × Bool)) (A B : Prop) : Prop :=
  match g with
  | none => A
  | some (d, w) => match e d with
    | some (.bool b) => brk (b == w) A B
    | some _ => B
    | none => False
def aL (P : Program) (G : GT) (K : Env → St → Prop) : List CO → Env → St → Prop
  | [], t, σ => K t σ
  | o :: r, t, σ => guardX t o.g (aX P G t σ (fun c σ' => aL P G K r (putE t o.dst c) σ') o.x) (aL P G K r (putE t o.dst undefA) σ)
def aS (K : Env → St → Prop) (σ : St) : List CO → Env → Prop
  | [], t => K t σ
  | o :: r, t => guardX t o.g (optK (xP t σ o.x) (fun c => aS K σ r (putE t o.dst c))) (aS K σ r (putE t o.dst undefA))
/-- S, and this gives that. -/
def pin (S : St → Prop) (t : Env) (x : X) (c : AV) (σ : St) : Prop := S σ ∧ xP t σ x = some c
def topS (_ : St) : Prop := True
def aH (P : Program) (G : GT) (K : Env → St → Prop) : CM → (St → Prop) → Env → St → Prop
  | .done, _ => K
  | .q 0 o r, S => fun t σ => guardX t o.g (optK (xP t σ o.x) (fun c => aH P G K r S (putE t o.dst c) σ)) (aH P G K r S (putE t o.dst undefA) σ)
  | .q (_ + 1) o r, S => fun t σ => guardX t o.g (optK (xP t σ o.x) (fun c => aH P G K r (pin S t o.x c) (putE t o.dst c) σ)) (aH P G K r S (putE t o.dst undefA) σ)
  | .e o r, S => fun t σ => guardX t o.g (aX P G t σ (fun c σ' => S σ' ∧ aH P G K r S (putE t o.dst c) σ') o.x) (aH P G K r S (putE t o.dst undefA) σ)
  | .alt a b, S => fun t σ => aH P G K a S t σ ∧ aH P G K b S t σ
/-- At the head of a round. -/
def LoopC (P : Program) (T : TT) (G : GT) (c : CC) (Q : EQ) (e : Env) (σ : St) : Prop := ∀ N code, cCode T G N code = some c → ∀ t, Env.le e (E t) → N ≤ t.length → AWPL P G code (liftQ N Q) t σ
def aC (P : Program) (T : TT) (G : GT) : CC → EQ → Env → St → Prop
  | .skip, Q => Q .normal
  | .ops l, Q => aL P G (Q .normal) l
  | .draw l, Q => fun t σ => aS (Q .normal) σ l t
  | .mix m, Q => aH P G (Q .normal) m topS
  | .seq x y, Q => aC P T G x (thenE (aC P T G y Q) Q)
  | .cond c x y, Q => fun t σ => optK (xv t c) fun v => match v with
    | .bool b => brk b (aC P T G x Q t σ) (aC P T G y Q t σ)
    | _ => False
  | .block id c, Q => aC P T G c (blockE id Q)
  | .loop c, Q => LoopC P T G c Q
  | .exit id, Q => Q (.exit id)
  | .ret, Q => Q .ret

end Go.Ab
