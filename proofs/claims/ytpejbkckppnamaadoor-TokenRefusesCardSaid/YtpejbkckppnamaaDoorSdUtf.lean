/- Part of this work: see the text that closes the claim. -/
import Derived.Test.YtpejbkckppnamaaDoorSdParse
import Derived.Shelf.Strings.FuncGrows
import Derived.Shelf.Unicode.ValidAny
set_option linter.all false
set_option linter.unusedVariables false
set_option linter.unusedSimpArgs false
namespace Go.Ab.Sd
open Go Go.Ab Go.Proofs Go.RowKit
set_option maxRecDepth 20000
set_option linter.unusedSimpArgs false
section
variable {m : Int} {σ : St} {K : AV → St → Prop}
theorem IndexFunc_c (g : Nat) (fn : Func) (hf : Tryd.prog.funcs[g]? = some fn) (hb : fn.body.isSome = true) (hn : (fn.name == "runtime.NumGoroutine") = false) (p : Nat → Bool) (s : List UInt8)
    (hp : ∀ x : Nat, x ≤ 1114111 → ACalls Tryd.prog (gD m) g [.int .i32 x] ⟨[], []⟩ (fun r _ => r = .bool (p x)))
    (h : K (.int .i64 (Lib.idxFunc p true ⟨s.toArray⟩)) σ) : ACalls Tryd.prog (gD m) 22 [.str s, .fn (.func g) [] []] σ K :=
  ACalls.of_calls Tryd.func22 rfl (by decide) (fun C w vs hm hg ha => by
    obtain ⟨us, rfl, ha2⟩ := ha.str_inv
    obtain ⟨rfl⟩ : us = [.func (.func g) #[] #[]] := by
      clear ha
      cases ha2 with | cons _ _ _ _ h1 t => cases h1 with | fn _ _ _ vf vc h2 h3 => cases h2; cases h3; cases t; rfl
    have eg : ∀ args w, (callFunc g args).run Tryd.prog w = .ok (.enter g args) w := by
      intro args w
      unfold callFunc
      rw [Sem.run_bind, run_program, Result.andThen_ok]
      have hb' : fn.body.isNone = false := by cases hq : fn.body <;> simp_all
      simp only [hf, hb', hn, Bool.false_eq_true, if_false, Sem.run_pure]
    refine (Tryd.strings_IndexFunc_grows g #[] eg p ⟨s.toArray⟩ w ?_).mono fun e w' hh => ⟨_, hh.1, .int _ _, hh.2⟩
    intro W x hx hbel
    have hmW : ∀ b o v, C.M b o = some v → W.cell? ⟨b, o, none⟩ = some v := fun b o v e => by
      have hlt : b < w.heap.size := World.block_lt_of_cell? w _ (hm b o v e)
      rw [cell_of_heap (hbel.block b hlt)]; exact hm b o v e
    have := (hp x hx).to_calls hf hb hn (.cons _ _ (.int _ _) .nil) gD_data hmW hg (vs := [.int .i32 x]) (.cons _ _ _ _ (.int _ _) .nil)
    refine this.mono ?_
    rintro e w' ⟨v, r, D, he, hr, rfl, hb⟩
    cases hr
    exact ⟨he, hb⟩) h
theorem notMay_c (r : Int) (h : K (.bool (!mayS r)) σ) : ACalls Tryd.prog (gD m) 23 [.int .i32 r] σ K := by
  refine ACalls_fn tok fm (fk23 _) ?_
  simp only [c23, walkAll, walkL, E, Nat.reduceEqDiff, ↓reduceIte]
  refine may_c r ?_
  simp only [walkAll, walkL, E, Nat.reduceEqDiff, ↓reduceIte]
  exact h
end
end Go.Ab.Sd
