/-
  The abstract machine of this work, part 15: the rules of the walk, an operation each; what follows waits under a name.
-/
import Derived.Test.YtpejbkckppnamaaDoorAbComp3
set_option linter.all false
set_option linter.unusedVariables false
set_option linter.unusedSimpArgs false
namespace Go.Ab
open Go Go.RowKit

/-! ### What waits -/
def kL (P : Program) (G : GT) (K : Env → St → Prop) (r : List CO) (t : Env) (d : Option Nat) (c : AV) (σ : St) : Prop := aL P G K r (putE t d c) σ
def kS (K : Env → St → Prop) (r : List CO) (t : Env) (d : Option Nat) (c : AV) (σ : St) : Prop := aS K σ r (putE t d c)
def o1 (x : Option AV) (σ : St) (K : AV → St → Prop) : Prop := optK x fun r => K r σ
def oPk (q : Bool) (a b : XV) (t : Env) (σ : St) (K : AV → St → Prop) : Prop := o1 (if q then xv t a else xv t b) σ K
def oPick (v : Option AV) (a b : XV) (t : Env) (σ : St) (K : AV → St → Prop) : Prop := optK v fun v => match v with
    | .bool q => oPk q a b t σ K
    | _ => False
def oSt (x : Option St) (K : AV → St → Prop) : Prop := optK x fun σ => K undefA σ
def oStore (n : Nat) (p c : Option AV) (σ : St) (K : AV → St → Prop) : Prop := optK p fun p => optK c fun c => oSt (stX n σ p c) K
def oBox (ty : TypeId) (c : Option AV) (σ : St) (K : AV → St → Prop) : Prop := optK c fun c => K (.vp σ.vars.length 0) (σ.pushV (.cells ty (cellsA c)))
def oMks (e : TypeId) (z : Nat) (zero : List AV) (len : Nat) (qs : Option (List (Nat × AV))) (σ : St) (K : AV → St → Prop) : Prop := optK qs fun qs => pairK (mksX e z zero len σ qs) K
def oApp (e : TypeId) (z b : Nat) (s x : Option AV) (σ : St) (K : AV → St → Prop) : Prop := optK s fun s => optK x fun x => pairK (appX e z b σ s x) K
def oMore (m : MO) (as : Option (List AV)) (σ : St) (K : AV → St → Prop) : Prop := optK as fun as => pairK (moreX m σ as) K
def oCall (P : Program) (G : GT) (f : Option AV) (as : Option (List AV)) (σ : St) (K : AV → St → Prop) : Prop := optK f fun v => optK as fun as => match v with
    | .fn (.func g) first cap => ACalls P G g (first ++ as ++ cap) σ K
    | _ => False
def brG (b : Bool) (P : Program) (G : GT) (K : Env → St → Prop) (d : Option Nat) (x : X) (r : List CO) (t : Env) (σ : St) : Prop :=
  if b then aX P G t σ (kL P G K r t d) x else aL P G K r (putE t d undefA) σ
def brH (b : Bool) (K : Env → St → Prop) (d : Option Nat) (x : X) (r : List CO) (t : Env) (σ : St) : Prop :=
  if b then o1 (xP t σ x) σ (kS K r t d) else aS K σ r (putE t d undefA)
def oG (v : Option AV) (w : Bool) (P : Program) (G : GT) (K : Env → St → Prop) (d : Option Nat) (x : X) (r : List CO) (t : Env) (σ : St) : Prop :=
  match v with
  | some (.bool b) => brG (b == w) P G K d x r t σ
  | some _ => aL P G K r (putE t d undefA) σ
  | none => False
def oH (v : Option AV) (w : Bool) (K : Env → St → Prop) (d : Option Nat) (x : X) (r : List CO) (t : Env) (σ : St) : Prop :=
  match v with
  | some (.bool b) => brH (b == w) K d x r t σ
  | some _ => aS K σ r (putE t d undefA)
  | none => False
def kHq (P : Program) (G : GT) (K : Env → St → Prop) (S : St → Prop) (r : CM) (t : Env) (d : Option Nat) (c : AV) (σ : St) : Prop := aH P G K r S (putE t d c) σ
def kHr (P : Program) (G : GT) (K : Env → St → Prop) (S : St → Prop) (x : X) (r : CM) (t : Env) (d : Option Nat) (c : AV) (σ : St) : Prop := aH P G K r (pin S t x c) (putE t d c) σ
def kHe (P : Program) (G : GT) (K : Env → St → Prop) (S : St → Prop) (r : CM) (t : Env) (d : Option Nat) (c : AV) (σ : St) : Prop := S σ ∧ aH P G K r S (putE t d c) σ
def brD (b : Bool) (P : Program) (G : GT) (K : Env → St → Prop) (S : St → Prop) (n : CM) (d : Option Nat) (r : CM) (t : Env) (σ : St) : Prop :=
  if b then aH P G K n S t σ else aH P G K r S (putE t d undefA) σ
def oD (v : Option AV) (w : Bool) (P : Program) (G : GT) (K : Env → St → Prop) (S : St → Prop) (n : CM) (d : Option Nat) (r : CM) (t : Env) (σ : St) : Prop :=
  match v with
  | some (.bool b) => brD (b == w) P G K S n d r t σ
  | some _ => aH P G K r S (putE t d undefA) σ
  | none => False
theorem brD_split {b : Bool} {P : Program} {G : GT} {K : Env → St → Prop} {S : St → Prop} {n : CM} {d : Option Nat} {r : CM} {t : Env} {σ : St}
    (h1 : b = true → aH P G K n S t σ) (h2 : b = false → aH P G K r S (putE t d undefA) σ) : brD b P G K S n d r t σ := by
  cases b
  · exact h2 rfl
  · exact h1 rfl
def brC (b : Bool) (P : Program) (T : TT) (G : GT) (x y : CC) (Q : EQ) (t : Env) (σ : St) : Prop := if b then aC P T G x Q t σ else aC P T G y Q t σ
def oCond (v : Option AV) (P : Program) (T : TT) (G : GT) (x y : CC) (Q : EQ) (t : Env) (σ : St) : Prop := optK v fun v => match v with
    | .bool b => brC b P T G x y Q t σ
    | _ => False
def oRes (l : Option (List AV)) (σ : St) (Q : AV → St → Prop) : Prop := optK l fun l => Q (oneOr l) σ

theorem oPk_split {q : Bool} {a b : XV} {t : Env} {σ : St} {K : AV → St → Prop} (h1 : q = true → o1 (xv t a) σ K) (h2 : q = false → o1 (xv t b) σ K) : oPk q a b t σ K := by
  cases q
  · exact h2 rfl
  · exact h1 rfl
theorem brG_split {b : Bool} {P : Program} {G : GT} {K : Env → St → Prop} {d : Option Nat} {x : X} {r : List CO} {t : Env} {σ : St}
    (h1 : b = true → aX P G t σ (kL P G K r t d) x) (h2 : b = false → aL P G K r (putE t d undefA) σ) : brG b P G K d x r t σ := by
  cases b
  · exact h2 rfl
  · exact h1 rfl
theorem brH_split {b : Bool} {K : Env → St → Prop} {d : Option Nat} {x : X} {r : List CO} {t : Env} {σ : St}
    (h1 : b = true → o1 (xP t σ x) σ (kS K r t d)) (h2 : b = false → aS K σ r (putE t d undefA)) : brH b K d x r t σ := by
  cases b
  · exact h2 rfl
  · exact h1 rfl
theorem brC_split {b : Bool} {P : Program} {T : TT} {G : GT} {x y : CC} {Q : EQ} {t : Env} {σ : St}
    (h1 : b = true → aC P T G x Q t σ) (h2 : b = false → aC P T G y Q t σ) : brC b P T G x y Q t σ := by
  cases b
  · exact h2 rfl
  · exact h1 rfl

section
variable {P : Program} {T : TT} {G : GT}
theorem optK_bind {α β : Type} (x : Option α) (f : α → Option β) (K : β → Prop) : optK (x.bind f) K = optK x (fun a => optK (f a) K) := by cases x <;> rfl
theorem optK_map {α β : Type} (x : Option α) (f : α → β) (K : β → Prop) : optK (x.map f) K = optK x (fun a => K (f a)) := by cases x <;> rfl
theorem and_or {p : Prop} {A : Prop} (h : p) (k : A) : p ∧ A := ⟨h, k⟩

/-- Steering, and sequences of operations. -/
theorem walkC :
    (∀ (P : Program) (T : TT) (G : GT) (Q : EQ) (t : Env) (σ : St), aC P T G .skip Q t σ = Q .normal t σ) ∧
    (∀ (P : Program) (T : TT) (G : GT) (Q : EQ) (l : List CO) (t : Env) (σ : St), aC P T G (.ops l) Q t σ = aL P G (Q .normal) l t σ) ∧
    (∀ (P : Program) (T : TT) (G : GT) (Q : EQ) (l : List CO) (t : Env) (σ : St), aC P T G (.draw l) Q t σ = aS (Q .normal) σ l t) ∧
    (∀ (P : Program) (T : TT) (G : GT) (Q : EQ) (x y : CC) (t : Env) (σ : St), aC P T G (.seq x y) Q t σ = aC P T G x (thenE (aC P T G y Q) Q) t σ) ∧
    (∀ (P : Program) (T : TT) (G : GT) (Q : EQ) (c : XV) (x y : CC) (t : Env) (σ : St), aC P T G (.cond c x y) Q t σ = oCond (xv t c) P T G x y Q t σ) ∧
    (∀ (P : Program) (T : TT) (G : GT) (Q : EQ) (id : Nat) (c : CC) (t : Env) (σ : St), aC P T G (.block id c) Q t σ = aC P T G c (blockE id Q) t σ) ∧
    (∀ (P : Program) (T : TT) (G : GT) (Q : EQ) (c : CC) (t : Env) (σ : St), aC P T G (.loop c) Q t σ = LoopC P T G c Q t σ) ∧
    (∀ (P : Program) (T : TT) (G : GT) (Q : EQ) (id : Nat) (t : Env) (σ : St), aC P T G (.exit id) Q t σ = Q (.exit id) t σ) ∧
    (∀ (P : Program) (T : TT) (G : GT) (Q : EQ) (t : Env) (σ : St), aC P T G .ret Q t σ = Q .ret t σ) ∧
    (∀ (R : Env → St → Prop) (Q : EQ) (t : Env) (σ : St), thenE R Q .normal t σ = R t σ) ∧
    (∀ (R : Env → St → Prop) (Q : EQ) (id : Nat) (t : Env) (σ : St), thenE R Q (.exit id) t σ = Q (.exit id) t σ) ∧
    (∀ (R : Env → St → Prop) (Q : EQ) (t : Env) (σ : St), thenE R Q .ret t σ = Q .ret t σ) ∧
    (∀ (id : Nat) (Q : EQ) (t : Env) (σ : St), blockE id Q .normal t σ = Q .normal t σ) ∧
    (∀ (id : Nat) (Q : EQ) (t : Env) (σ : St), blockE id Q .ret t σ = Q .ret t σ) ∧
    (∀ (id j : Nat) (Q : EQ) (t : Env) (σ : St), blockE id Q (.exit j) t σ = if j = id then Q .normal t σ else Q (.exit j) t σ) ∧
    (∀ (rs : List XR) (Q : AV → St → Prop) (t : Env) (σ : St), retQ rs Q .ret t σ = oRes (resX t σ rs) σ Q) ∧
    (∀ (rs : List XR) (Q : AV → St → Prop) (t : Env) (σ : St), retQ rs Q .normal t σ = oRes (resX t σ rs) σ Q) ∧
    (∀ (l : List AV) (Q : AV → St → Prop) (σ : St), oRes (some l) σ Q = Q (oneOr l) σ) ∧
    (∀ (P : Program) (T : TT) (G : GT) (b : Bool) (x y : CC) (Q : EQ) (t : Env) (σ : St), oCond (some (.bool b)) P T G x y Q t σ = brC b P T G x y Q t σ) ∧
    (∀ (P : Program) (T : TT) (G : GT) (x y : CC) (Q : EQ) (t : Env) (σ : St), brC true P T G x y Q t σ = aC P T G x Q t σ) ∧
    (∀ (P : Program) (T : TT) (G : GT) (x y : CC) (Q : EQ) (t : Env) (σ : St), brC false P T G x y Q t σ = aC P T G y Q t σ) ∧
    (∀ (P : Program) (G : GT) (K : Env → St → Prop) (t : Env) (σ : St), aL P G K [] t σ = K t σ) ∧
    (∀ (P : Program) (G : GT) (K : Env → St → Prop) (d : Option Nat) (x : X) (r : List CO) (t : Env) (σ : St), aL P G K (⟨d, none, x⟩ :: r) t σ = aX P G t σ (kL P G K r t d) x) ∧
    (∀ (P : Program) (G : GT) (K : Env → St → Prop) (d : Option Nat) (g : Nat) (w : Bool) (x : X) (r : List CO) (t : Env) (σ : St), aL P G K (⟨d, some (g, w), x⟩ :: r) t σ = oG (t g) w P G K d x r t σ) ∧
    (∀ (P : Program) (G : GT) (K : Env → St → Prop) (d : Option Nat) (x : X) (r : List CO) (t : Env) (σ : St), brG true P G K d x r t σ = aX P G t σ (kL P G K r t d) x) ∧
    (∀ (P : Program) (G : GT) (K : Env → St → Prop) (d : Option Nat) (x : X) (r : List CO) (t : Env) (σ : St), brG false P G K d x r t σ = aL P G K r (putE t d undefA) σ) ∧
    (∀ (P : Program) (G : GT) (K : Env → St → Prop) (r : List CO) (t : Env) (d : Option Nat) (c : AV) (σ : St), kL P G K r t d c σ = aL P G K r (putE t d c) σ) ∧
    (∀ (P : Program) (G : GT) (K : Env → St → Prop) (b w : Bool) (d : Option Nat) (x : X) (r : List CO) (t : Env) (σ : St), oG (some (.bool b)) w P G K d x r t σ = brG (b == w) P G K d x r t σ) ∧
    (∀ (P : Program) (G : GT) (K : Env → St → Prop) (w : Bool) (d : Option Nat) (x : X) (r : List CO) (t : Env) (σ : St), oG (some undefA) w P G K d x r t σ = aL P G K r (putE t d undefA) σ) ∧
    (∀ (t : Env) (d n : Nat) (c : AV), put t d c n = if n = d then some c else t n) ∧
    (∀ (t : List AV) (n : Nat), E t n = t[n]?) ∧
    (∀ (t : Env) (d : Nat) (c : AV), putE t (some d) c = put t d c) ∧
    (∀ (t : Env) (c : AV), putE t none c = t) :=
  by refine ⟨?_, ?_, ?_, ?_, ?_, ?_, ?_, ?_, ?_, ?_, ?_, ?_, ?_, ?_, ?_, ?_, ?_, ?_, ?_, ?_, ?_, ?_, ?_, ?_, ?_, ?_, ?_, ?_, ?_, ?_, ?_, ?_, ?_⟩ <;> intros <;> rfl
/-- Regions that only draw. -/
theorem walkS :
    (∀ (K : Env → St → Prop) (t : Env) (σ : St), aS K σ [] t = K t σ) ∧
    (∀ (K : Env → St → Prop) (d : Option Nat) (x : X) (r : List CO) (t : Env) (σ : St), aS K σ (⟨d, none, x⟩ :: r) t = o1 (xP t σ x) σ (kS K r t d)) ∧
    (∀ (K : Env → St → Prop) (d : Option Nat) (g : Nat) (w : Bool) (x : X) (r : List CO) (t : Env) (σ : St), aS K σ (⟨d, some (g, w), x⟩ :: r) t = oH (t g) w K d x r t σ) ∧
    (∀ (K : Env → St → Prop) (d : Option Nat) (x : X) (r : List CO) (t : Env) (σ : St), brH true K d x r t σ = o1 (xP t σ x) σ (kS K r t d)) ∧
    (∀ (K : Env → St → Prop) (d : Option Nat) (x : X) (r : List CO) (t : Env) (σ : St), brH false K d x r t σ = aS K σ r (putE t d undefA)) ∧
    (∀ (K : Env → St → Prop) (b w : Bool) (d : Option Nat) (x : X) (r : List CO) (t : Env) (σ : St), oH (some (.bool b)) w K d x r t σ = brH (b == w) K d x r t σ) ∧
    (∀ (K : Env → St → Prop) (w : Bool) (d : Option Nat) (x : X) (r : List CO) (t : Env) (σ : St), oH (some undefA) w K d x r t σ = aS K σ r (putE t d undefA)) ∧
    (∀ (K : Env → St → Prop) (r : List CO) (t : Env) (d : Option Nat) (c : AV) (σ : St), kS K r t d c σ = aS K σ r (putE t d c)) :=
  by refine ⟨?_, ?_, ?_, ?_, ?_, ?_, ?_, ?_⟩ <;> intros <;> rfl
/-- Regions that draw and turn memory. -/
theorem walkD :
    (∀ (P : Program) (T : TT) (G : GT) (Q : EQ) (m : CM) (t : Env) (σ : St), aC P T G (.mix m) Q t σ = aH P G (Q .normal) m topS t σ) ∧
    (∀ (P : Program) (G : GT) (K : Env → St → Prop) (S : St → Prop) (t : Env) (σ : St), aH P G K .done S t σ = K t σ) ∧
    (∀ (P : Program) (G : GT) (K : Env → St → Prop) (S : St → Prop) (d : Option Nat) (x : X) (r : CM) (t : Env) (σ : St), aH P G K (.q 0 ⟨d, none, x⟩ r) S t σ = o1 (xP t σ x) σ (kHq P G K S r t d)) ∧
    (∀ (P : Program) (G : GT) (K : Env → St → Prop) (S : St → Prop) (d : Option Nat) (x : X) (r : CM) (t : Env) (σ : St), aH P G K (.q 1 ⟨d, none, x⟩ r) S t σ = o1 (xP t σ x) σ (kHr P G K S x r t d)) ∧
    (∀ (P : Program) (G : GT) (K : Env → St → Prop) (S : St → Prop) (d : Option Nat) (x : X) (r : CM) (t : Env) (σ : St), aH P G K (.e ⟨d, none, x⟩ r) S t σ = aX P G t σ (kHe P G K S r t d) x) ∧
    (∀ (P : Program) (G : GT) (K : Env → St → Prop) (S : St → Prop) (a b : CM) (t : Env) (σ : St), aH P G K (.alt a b) S t σ = (aH P G K a S t σ ∧ aH P G K b S t σ)) ∧
    (∀ (P : Program) (G : GT) (K : Env → St → Prop) (S : St → Prop) (m : Nat) (d : Option Nat) (g : Nat) (w : Bool) (x : X) (r : CM) (t : Env) (σ : St), aH P G K (.q m ⟨d, some (g, w), x⟩ r) S t σ = oD (t g) w P G K S (.q m ⟨d, none, x⟩ r) d r t σ) ∧
    (∀ (P : Program) (G : GT) (K : Env → St → Prop) (S : St → Prop) (d : Option Nat) (g : Nat) (w : Bool) (x : X) (r : CM) (t : Env) (σ : St), aH P G K (.e ⟨d, some (g, w), x⟩ r) S t σ = oD (t g) w P G K S (.e ⟨d, none, x⟩ r) d r t σ) ∧
    (∀ (P : Program) (G : GT) (K : Env → St → Prop) (S : St → Prop) (n : CM) (d : Option Nat) (r : CM) (t : Env) (σ : St), brD true P G K S n d r t σ = aH P G K n S t σ) ∧
    (∀ (P : Program) (G : GT) (K : Env → St → Prop) (S : St → Prop) (n : CM) (d : Option Nat) (r : CM) (t : Env) (σ : St), brD false P G K S n d r t σ = aH P G K r S (putE t d undefA) σ) ∧
    (∀ (P : Program) (G : GT) (K : Env → St → Prop) (S : St → Prop) (b w : Bool) (n : CM) (d : Option Nat) (r : CM) (t : Env) (σ : St), oD (some (.bool b)) w P G K S n d r t σ = brD (b == w) P G K S n d r t σ) ∧
    (∀ (P : Program) (G : GT) (K : Env → St → Prop) (S : St → Prop) (w : Bool) (n : CM) (d : Option Nat) (r : CM) (t : Env) (σ : St), oD (some undefA) w P G K S n d r t σ = aH P G K r S (putE t d undefA) σ) ∧
    (∀ (P : Program) (G : GT) (K : Env → St → Prop) (S : St → Prop) (r : CM) (t : Env) (d : Option Nat) (c : AV) (σ : St), kHq P G K S r t d c σ = aH P G K r S (putE t d c) σ) ∧
    (∀ (P : Program) (G : GT) (K : Env → St → Prop) (S : St → Prop) (x : X) (r : CM) (t : Env) (d : Option Nat) (c : AV) (σ : St), kHr P G K S x r t d c σ = aH P G K r (pin S t x c) (putE t d c) σ) ∧
    (∀ (P : Program) (G : GT) (K : Env → St → Prop) (S : St → Prop) (r : CM) (t : Env) (d : Option Nat) (c : AV) (σ : St), kHe P G K S r t d c σ = (S σ ∧ aH P G K r S (putE t d c) σ)) ∧
    (∀ (S : St → Prop) (t : Env) (x : X) (c : AV) (σ : St), pin S t x c σ = (S σ ∧ xP t σ x = some c)) ∧
    (∀ (σ : St), topS σ = True) ∧ (∀ (v : AV), (some v = some v) = True) ∧ (∀ (p : Prop), (p ∧ True) = p) := by
  refine ⟨?_, ?_, ?_, ?_, ?_, ?_, ?_, ?_, ?_, ?_, ?_, ?_, ?_, ?_, ?_, ?_, ?_, ?_, ?_⟩ <;> intros <;> first | rfl | (simp; done) | skip
  · rename_i P G K S m d g w x r t σ
    rcases m with _ | m <;>
    · show guardX t (some (g, w)) _ _ = _
      unfold guardX oD
      simp only []
      cases t g with
      | none => rfl
      | some v => cases v <;> rfl
/-- Values, and what an operation leaves. -/
theorem walkV :
    (∀ (t : Env) (n : Nat), xv t (.t n) = t n) ∧
    (∀ (t : Env) (c : AV), xv t (.k c) = some c) ∧
    (∀ (t : Env), xvs t [] = some []) ∧
    (∀ (t : Env) (x : XV) (xs : List XV), xvs t (x :: xs) = (xv t x).bind fun c => (xvs t xs).map (c :: ·)) ∧
    (∀ (t : Env), xps t [] = some []) ∧
    (∀ (t : Env) (i : Nat) (x : XV) (xs : List (Nat × XV)), xps t ((i, x) :: xs) = (xv t x).bind fun c => (xps t xs).map ((i, c) :: ·)) ∧
    (∀ (t : Env), xvo t none = some none) ∧
    (∀ (t : Env) (x : XV), xvo t (some x) = (xv t x).map some) ∧
    (∀ (t : Env) (σ : St), resX t σ [] = some []) ∧
    (∀ (t : Env) (σ : St) (n : Nat) (r : List XR), resX t σ (.t n :: r) = (t n).bind fun c => (resX t σ r).map (c :: ·)) ∧
    (∀ (t : Env) (σ : St) (a : Nat) (n : Option Nat) (r : List XR), resX t σ (.c a n :: r) = (t a).bind fun p => (ldX n σ p).bind fun c => (resX t σ r).map (c :: ·)) ∧
    (∀ (c : AV), oneOr [c] = c) ∧ (oneOr [] = .tup []) ∧ (∀ (c d : AV) (l : List AV), oneOr (c :: d :: l) = .tup (c :: d :: l)) ∧
    (∀ (t : Env) (zero : List AV), fillX t zero [] = some zero) ∧
    (∀ (t : Env) (zero : List AV) (off z : Nat) (x : XV) (r : List (Nat × Nat × XV)), fillX t zero ((off, z, x) :: r) = (xv t x).bind fun c => if (cellsA c).length = z ∧ off + z ≤ zero.length then fillX t (setL zero off (cellsA c)) r else none) := by
  refine ⟨fun _ _ => rfl, fun _ _ => rfl, fun _ => rfl, fun t x xs => ?_, fun _ => rfl, fun t i x xs => ?_, fun _ => rfl, fun _ _ => rfl, fun _ _ => rfl, fun _ _ _ _ => rfl, fun _ _ _ _ _ => rfl, fun _ => rfl, rfl, fun _ _ _ => rfl, fun _ _ => rfl, fun t zero off z x r => ?_⟩
  · simp only [xvs]
    cases xv t x <;> cases xvs t xs <;> rfl
  · simp only [xps]
    cases xv t x <;> cases xps t xs <;> rfl
  · simp only [fillX]
    cases xv t x <;> rfl
/-- An operation each. -/
theorem walkX :
    (∀ (P : Program) (G : GT) (t : Env) (σ : St) (K : AV → St → Prop) (x : XV), aX P G t σ K (.mv x) = o1 (xv t x) σ K) ∧
    (∀ (P : Program) (G : GT) (t : Env) (σ : St) (K : AV → St → Prop) (zero : List AV) (ps : List (Nat × Nat × XV)), aX P G t σ K (.mk zero ps) = o1 ((fillX t zero ps).map .agg) σ K) ∧
    (∀ (P : Program) (G : GT) (t : Env) (σ : St) (K : AV → St → Prop) (n : Option Nat) (a : XV), aX P G t σ K (.ld n a) = o1 ((xv t a).bind (ldX n σ)) σ K) ∧
    (∀ (P : Program) (G : GT) (t : Env) (σ : St) (K : AV → St → Prop) (x : XV), aX P G t σ K (.nilc x) = o1 ((xv t x).bind (nilA σ)) σ K) ∧
    (∀ (P : Program) (G : GT) (t : Env) (σ : St) (K : AV → St → Prop) (op : BinOp) (kd : Kd) (c : Bool) (x y : XV), aX P G t σ K (.bin op kd c x y) = o1 ((xv t x).bind fun a => (xv t y).bind fun b => binX op kd c a b) σ K) ∧
    (∀ (P : Program) (G : GT) (t : Env) (σ : St) (K : AV → St → Prop) (op : UnOp) (x : XV), aX P G t σ K (.un op x) = o1 ((xv t x).bind (unA op)) σ K) ∧
    (∀ (P : Program) (G : GT) (t : Env) (σ : St) (K : AV → St → Prop) (k : IntKind) (x : XV), aX P G t σ K (.cvi k x) = o1 ((xv t x).bind (cviX k)) σ K) ∧
    (∀ (P : Program) (G : GT) (t : Env) (σ : St) (K : AV → St → Prop) (x : XV), aX P G t σ K (.cvs x) = o1 ((xv t x).bind cvsX) σ K) ∧
    (∀ (P : Program) (G : GT) (t : Env) (σ : St) (K : AV → St → Prop) (x : XV), aX P G t σ K (.strs x) = o1 ((xv t x).bind strsX) σ K) ∧
    (∀ (P : Program) (G : GT) (t : Env) (σ : St) (K : AV → St → Prop) (ty : TypeId) (x : XV), aX P G t σ K (.ifc ty x) = o1 ((xv t x).map (.ifc ty)) σ K) ∧
    (∀ (P : Program) (G : GT) (t : Env) (σ : St) (K : AV → St → Prop) (f : Fn) (a b : List XV), aX P G t σ K (.mkf f a b) = o1 ((xvs t a).bind fun c => (xvs t b).map fun d => .fn f c d) σ K) ∧
    (∀ (P : Program) (G : GT) (t : Env) (σ : St) (K : AV → St → Prop) (z : Nat) (x : XV) (lo hi mx : Option XV), aX P G t σ K (.sls z x lo hi mx) = o1 ((xv t x).bind fun c => (xvo t lo).bind fun l => (xvo t hi).bind fun h => (xvo t mx).bind fun m => slsX z σ c l h m) σ K) ∧
    (∀ (P : Program) (G : GT) (t : Env) (σ : St) (K : AV → St → Prop) (x : XV) (lo hi : Option XV), aX P G t σ K (.slstr x lo hi) = o1 ((xv t x).bind fun c => (xvo t lo).bind fun l => (xvo t hi).bind fun h => slstrX c l h) σ K) ∧
    (∀ (P : Program) (G : GT) (t : Env) (σ : St) (K : AV → St → Prop) (off : Nat) (x : XV), aX P G t σ K (.fa off x) = o1 ((xv t x).bind (faX off σ)) σ K) ∧
    (∀ (P : Program) (G : GT) (t : Env) (σ : St) (K : AV → St → Prop) (off : Nat) (n : Option Nat) (x : XV), aX P G t σ K (.fl off n x) = o1 ((xv t x).bind (flX off n)) σ K) ∧
    (∀ (P : Program) (G : GT) (t : Env) (σ : St) (K : AV → St → Prop) (len z : Nat) (x i : XV), aX P G t σ K (.ixa len z x i) = o1 ((xv t x).bind fun a => (xv t i).bind fun b => ixaX len z a b) σ K) ∧
    (∀ (P : Program) (G : GT) (t : Env) (σ : St) (K : AV → St → Prop) (z : Nat) (x i : XV), aX P G t σ K (.ixs z x i) = o1 ((xv t x).bind fun a => (xv t i).bind fun b => ixsX z σ a b) σ K) ∧
    (∀ (P : Program) (G : GT) (t : Env) (σ : St) (K : AV → St → Prop) (x i : XV), aX P G t σ K (.ixstr x i) = o1 ((xv t x).bind fun a => (xv t i).bind fun b => ixstrX a b) σ K) ∧
    (∀ (P : Program) (G : GT) (t : Env) (σ : St) (K : AV → St → Prop) (len z : Nat) (n : Option Nat) (x i : XV), aX P G t σ K (.ixarr len z n x i) = o1 ((xv t x).bind fun a => (xv t i).bind fun b => ixarrX len z n a b) σ K) ∧
    (∀ (P : Program) (G : GT) (t : Env) (σ : St) (K : AV → St → Prop) (x : XV) (i : Nat), aX P G t σ K (.ex x i) = o1 ((xv t x).bind fun a => extrA a i) σ K) ∧
    (∀ (P : Program) (G : GT) (t : Env) (σ : St) (K : AV → St → Prop) (x : XV), aX P G t σ K (.lens x) = o1 ((xv t x).bind lensX) σ K) ∧
    (∀ (P : Program) (G : GT) (t : Env) (σ : St) (K : AV → St → Prop) (x : XV), aX P G t σ K (.lenl x) = o1 ((xv t x).bind lenlX) σ K) ∧
    (∀ (P : Program) (G : GT) (t : Env) (σ : St) (K : AV → St → Prop) (n : Nat) (x : XV), aX P G t σ K (.lenarr n x) = o1 ((xv t x).map fun _ => .int .i64 n) σ K) ∧
    (∀ (r : AV) (σ : St) (K : AV → St → Prop), o1 (some r) σ K = K r σ) ∧
    (∀ (c : Prop) [Decidable c] (x : Option AV) (σ : St) (K : AV → St → Prop), o1 (if c then x else none) σ K = (c ∧ o1 x σ K)) := by
  refine ⟨?_, ?_, ?_, ?_, ?_, ?_, ?_, ?_, ?_, ?_, ?_, ?_, ?_, ?_, ?_, ?_, ?_, ?_, ?_, ?_, ?_, ?_, ?_, ?_, ?_⟩ <;> intros <;> first | rfl | skip
  rename_i c _ x σ K
  by_cases h : c
  · rw [if_pos h]; simp [h]
  · rw [if_neg h]; simp [h, o1, optK]
/-- An operation each, in a region that only draws. -/
theorem walkP :
    (∀ (t : Env) (σ : St) (x : XV), xP t σ (.mv x) = (xv t x)) ∧
    (∀ (t : Env) (σ : St) (zero : List AV) (ps : List (Nat × Nat × XV)), xP t σ (.mk zero ps) = ((fillX t zero ps).map .agg)) ∧
    (∀ (t : Env) (σ : St) (n : Option Nat) (a : XV), xP t σ (.ld n a) = ((xv t a).bind (ldX n σ))) ∧
    (∀ (t : Env) (σ : St) (x : XV), xP t σ (.nilc x) = ((xv t x).bind (nilA σ))) ∧
    (∀ (t : Env) (σ : St) (op : BinOp) (kd : Kd) (c : Bool) (x y : XV), xP t σ (.bin op kd c x y) = ((xv t x).bind fun a => (xv t y).bind fun b => binX op kd c a b)) ∧
    (∀ (t : Env) (σ : St) (op : UnOp) (x : XV), xP t σ (.un op x) = ((xv t x).bind (unA op))) ∧
    (∀ (t : Env) (σ : St) (k : IntKind) (x : XV), xP t σ (.cvi k x) = ((xv t x).bind (cviX k))) ∧
    (∀ (t : Env) (σ : St) (x : XV), xP t σ (.cvs x) = ((xv t x).bind cvsX)) ∧
    (∀ (t : Env) (σ : St) (x : XV), xP t σ (.strs x) = ((xv t x).bind strsX)) ∧
    (∀ (t : Env) (σ : St) (ty : TypeId) (x : XV), xP t σ (.ifc ty x) = ((xv t x).map (.ifc ty))) ∧
    (∀ (t : Env) (σ : St) (f : Fn) (a b : List XV), xP t σ (.mkf f a b) = ((xvs t a).bind fun c => (xvs t b).map fun d => .fn f c d)) ∧
    (∀ (t : Env) (σ : St) (z : Nat) (x : XV) (lo hi mx : Option XV), xP t σ (.sls z x lo hi mx) = ((xv t x).bind fun c => (xvo t lo).bind fun l => (xvo t hi).bind fun h => (xvo t mx).bind fun m => slsX z σ c l h m)) ∧
    (∀ (t : Env) (σ : St) (x : XV) (lo hi : Option XV), xP t σ (.slstr x lo hi) = ((xv t x).bind fun c => (xvo t lo).bind fun l => (xvo t hi).bind fun h => slstrX c l h)) ∧
    (∀ (t : Env) (σ : St) (off : Nat) (x : XV), xP t σ (.fa off x) = ((xv t x).bind (faX off σ))) ∧
    (∀ (t : Env) (σ : St) (off : Nat) (n : Option Nat) (x : XV), xP t σ (.fl off n x) = ((xv t x).bind (flX off n))) ∧
    (∀ (t : Env) (σ : St) (len z : Nat) (x i : XV), xP t σ (.ixa len z x i) = ((xv t x).bind fun a => (xv t i).bind fun b => ixaX len z a b)) ∧
    (∀ (t : Env) (σ : St) (z : Nat) (x i : XV), xP t σ (.ixs z x i) = ((xv t x).bind fun a => (xv t i).bind fun b => ixsX z σ a b)) ∧
    (∀ (t : Env) (σ : St) (x i : XV), xP t σ (.ixstr x i) = ((xv t x).bind fun a => (xv t i).bind fun b => ixstrX a b)) ∧
    (∀ (t : Env) (σ : St) (len z : Nat) (n : Option Nat) (x i : XV), xP t σ (.ixarr len z n x i) = ((xv t x).bind fun a => (xv t i).bind fun b => ixarrX len z n a b)) ∧
    (∀ (t : Env) (σ : St) (x : XV) (i : Nat), xP t σ (.ex x i) = ((xv t x).bind fun a => extrA a i)) ∧
    (∀ (t : Env) (σ : St) (x : XV), xP t σ (.lens x) = ((xv t x).bind lensX)) ∧
    (∀ (t : Env) (σ : St) (x : XV), xP t σ (.lenl x) = ((xv t x).bind lenlX)) ∧
    (∀ (t : Env) (σ : St) (n : Nat) (x : XV), xP t σ (.lenarr n x) = ((xv t x).map fun _ => .int .i64 n)) := by
  refine ⟨?_, ?_, ?_, ?_, ?_, ?_, ?_, ?_, ?_, ?_, ?_, ?_, ?_, ?_, ?_, ?_, ?_, ?_, ?_, ?_, ?_, ?_, ?_⟩ <;> intros <;> rfl
/-- Operations that turn memory, picks and calls. -/
theorem walkM :
    (∀ (P : Program) (G : GT) (t : Env) (σ : St) (K : AV → St → Prop) (c a b : XV), aX P G t σ K (.pick c a b) = oPick (xv t c) a b t σ K) ∧
    (∀ (t : Env) (σ : St) (K : AV → St → Prop) (q : Bool) (a b : XV), oPick (some (.bool q)) a b t σ K = oPk q a b t σ K) ∧
    (∀ (t : Env) (σ : St) (K : AV → St → Prop) (a b : XV), oPk true a b t σ K = o1 (xv t a) σ K) ∧
    (∀ (t : Env) (σ : St) (K : AV → St → Prop) (a b : XV), oPk false a b t σ K = o1 (xv t b) σ K) ∧
    (∀ (P : Program) (G : GT) (t : Env) (σ : St) (K : AV → St → Prop) (n : Nat) (a x : XV), aX P G t σ K (.st n a x) = oStore n (xv t a) (xv t x) σ K) ∧
    (∀ (σ : St) (K : AV → St → Prop) (n : Nat) (p c : AV), oStore n (some p) (some c) σ K = oSt (stX n σ p c) K) ∧
    (∀ (σ : St) (K : AV → St → Prop), oSt (some σ) K = K undefA σ) ∧
    (∀ (c : Prop) [Decidable c] (x : Option St) (K : AV → St → Prop), oSt (if c then x else none) K = (c ∧ oSt x K)) ∧
    (∀ (P : Program) (G : GT) (t : Env) (σ : St) (K : AV → St → Prop) (ty : TypeId) (zero : List AV), aX P G t σ K (.alloc ty zero) = K (.vp σ.vars.length 0) (σ.pushV (.cells ty zero))) ∧
    (∀ (P : Program) (G : GT) (t : Env) (σ : St) (K : AV → St → Prop) (ty : TypeId) (x : XV), aX P G t σ K (.box ty x) = oBox ty (xv t x) σ K) ∧
    (∀ (σ : St) (K : AV → St → Prop) (ty : TypeId) (c : AV), oBox ty (some c) σ K = K (.vp σ.vars.length 0) (σ.pushV (.cells ty (cellsA c)))) ∧
    (∀ (P : Program) (G : GT) (t : Env) (σ : St) (K : AV → St → Prop) (e : TypeId) (z : Nat) (zero : List AV) (len : Nat) (ps : List (Nat × XV)), aX P G t σ K (.mks e z zero len ps) = oMks e z zero len (xps t ps) σ K) ∧
    (∀ (σ : St) (K : AV → St → Prop) (e : TypeId) (z : Nat) (zero : List AV) (len : Nat) (qs : List (Nat × AV)), oMks e z zero len (some qs) σ K = pairK (mksX e z zero len σ qs) K) ∧
    (∀ (P : Program) (G : GT) (t : Env) (σ : St) (K : AV → St → Prop) (e : TypeId) (z b : Nat) (s x : XV), aX P G t σ K (.app e z b s x) = oApp e z b (xv t s) (xv t x) σ K) ∧
    (∀ (σ : St) (K : AV → St → Prop) (e : TypeId) (z b : Nat) (s x : AV), oApp e z b (some s) (some x) σ K = pairK (appX e z b σ s x) K) ∧
    (∀ (r : AV) (σ : St) (K : AV → St → Prop), pairK (some (r, σ)) K = K r σ) ∧
    (∀ (c : Prop) [Decidable c] (x : Option (AV × St)) (K : AV → St → Prop), pairK (if c then x else none) K = (c ∧ pairK x K)) ∧
    (∀ (P : Program) (G : GT) (t : Env) (σ : St) (K : AV → St → Prop) (m : MO) (args : List XV), aX P G t σ K (.more m args) = oMore m (xvs t args) σ K) ∧
    (∀ (σ : St) (K : AV → St → Prop) (m : MO) (as : List AV), oMore m (some as) σ K = pairK (moreX m σ as) K) ∧
    (∀ (P : Program) (G : GT) (t : Env) (σ : St) (K : AV → St → Prop) (f : XV) (args : List XV), aX P G t σ K (.call f args) = oCall P G (xv t f) (xvs t args) σ K) ∧
    (∀ (P : Program) (G : GT) (σ : St) (K : AV → St → Prop) (g : FuncId) (first cap as : List AV), oCall P G (some (.fn (.func g) first cap)) (some as) σ K = ACalls P G g (first ++ as ++ cap) σ K) := by
  refine ⟨?_, ?_, ?_, ?_, ?_, ?_, ?_, ?_, ?_, ?_, ?_, ?_, ?_, ?_, ?_, ?_, ?_, ?_, ?_, ?_, ?_⟩ <;> intros <;> first | rfl | skip
  · rename_i P G t σ K c a b
    simp only [aX, oPick]
    congr 1
    funext v
    cases v <;> try rfl
    rename_i q
    cases q <;> rfl
  · rename_i c _ x K
    by_cases h : c
    · rw [if_pos h]; simp [h]
    · rw [if_neg h]; simp [h, oSt, optK]
  · exact pairK_if _ _
end
end Go.Ab
