/- The table of this seat's types for the abstract machine, and that it is the program's. Printed by a program of this work (gen_tt.py). -/
import Derived.Test.YthpnfkdiacfefaaGreatDoorProg
import Derived.Test.YthpnfkdiacfefaaGreatDoorAbB
import Derived.KernelRfl
set_option linter.all false
set_option linter.unusedVariables false
set_option linter.unusedSimpArgs false
namespace Go.Ab.Ss
open Go Go.Ab Go.Proofs
set_option maxRecDepth 20000
def g0 : GT := fun _ => none
def ti3 : TI := ⟨1, 8, .int .i64, [.int .i64 0]⟩
theorem ok3 : TIok Tryz.prog 3 ti3 := ⟨⟨Tryz.t3, _, by kernel_rfl, rfl, rfl, rfl, rfl⟩, rfl, rfl, ⟨_, Tryz.underlying3, rfl⟩⟩
def ti5 : TI := ⟨1, 1, .int .u8, [.int .u8 0]⟩
theorem ok5 : TIok Tryz.prog 5 ti5 := ⟨⟨Tryz.t5, _, by kernel_rfl, rfl, rfl, rfl, rfl⟩, rfl, rfl, ⟨_, Tryz.underlying5, rfl⟩⟩
def ti9 : TI := ⟨1, 16, .str, [.str []]⟩
theorem ok9 : TIok Tryz.prog 9 ti9 := ⟨⟨Tryz.t9, _, by kernel_rfl, rfl, rfl, rfl, rfl⟩, rfl, rfl, ⟨_, Tryz.underlying9, rfl⟩⟩
def ti22 : TI := ⟨1, 24, .slice 23, [.nils]⟩
theorem ok22 : TIok Tryz.prog 22 ti22 := ⟨⟨Tryz.t22, _, by kernel_rfl, rfl, rfl, rfl, rfl⟩, rfl, rfl, ⟨_, Tryz.underlying22, rfl⟩⟩
def ti23 : TI := ⟨1, 24, .slice 26, [.nils]⟩
theorem ok23 : TIok Tryz.prog 23 ti23 := ⟨⟨Tryz.t23, _, by kernel_rfl, rfl, rfl, rfl, rfl⟩, rfl, rfl, ⟨_, Tryz.underlying23, rfl⟩⟩
def ti24 : TI := ⟨1, 24, .slice 5, [.nils]⟩
theorem ok24 : TIok Tryz.prog 24 ti24 := ⟨⟨Tryz.t24, _, by kernel_rfl, rfl, rfl, rfl, rfl⟩, rfl, rfl, ⟨_, Tryz.underlying24, rfl⟩⟩
def ti25 : TI := ⟨2, 32, .struct [(0, 3), (1, 24)], [.int .i64 0, .nils]⟩
theorem ok25 : TIok Tryz.prog 25 ti25 := ⟨⟨Tryz.t25, _, by kernel_rfl, rfl, rfl, rfl, rfl⟩, rfl, rfl, ⟨_, Tryz.underlying25, ⟨_, rfl, rfl⟩⟩⟩
def ti26 : TI := ⟨2, 32, .struct [(0, 3), (1, 24)], [.int .i64 0, .nils]⟩
theorem ok26 : TIok Tryz.prog 26 ti26 := ⟨⟨Tryz.t26, _, by kernel_rfl, rfl, rfl, rfl, rfl⟩, rfl, rfl, ⟨_, Tryz.underlying26, ⟨_, rfl, rfl⟩⟩⟩
def ti30 : TI := ⟨1, 24, .slice 34, [.nils]⟩
theorem ok30 : TIok Tryz.prog 30 ti30 := ⟨⟨Tryz.t30, _, by kernel_rfl, rfl, rfl, rfl, rfl⟩, rfl, rfl, ⟨_, Tryz.underlying30, rfl⟩⟩
def ti32 : TI := ⟨1, 8, .int .u64, [.int .u64 0]⟩
theorem ok32 : TIok Tryz.prog 32 ti32 := ⟨⟨Tryz.t32, _, by kernel_rfl, rfl, rfl, rfl, rfl⟩, rfl, rfl, ⟨_, Tryz.underlying32, rfl⟩⟩
def ti33 : TI := ⟨6, 64, .struct [(0, 3), (1, 3), (2, 24), (3, 32), (4, 3), (5, 3)], [.int .i64 0, .int .i64 0, .nils, .int .u64 0, .int .i64 0, .int .i64 0]⟩
theorem ok33 : TIok Tryz.prog 33 ti33 := ⟨⟨Tryz.t33, _, by kernel_rfl, rfl, rfl, rfl, rfl⟩, rfl, rfl, ⟨_, Tryz.underlying33, ⟨_, rfl, rfl⟩⟩⟩
def ti34 : TI := ⟨6, 64, .struct [(0, 3), (1, 3), (2, 24), (3, 32), (4, 3), (5, 3)], [.int .i64 0, .int .i64 0, .nils, .int .u64 0, .int .i64 0, .int .i64 0]⟩
theorem ok34 : TIok Tryz.prog 34 ti34 := ⟨⟨Tryz.t34, _, by kernel_rfl, rfl, rfl, rfl, rfl⟩, rfl, rfl, ⟨_, Tryz.underlying34, ⟨_, rfl, rfl⟩⟩⟩
def ti35 : TI := ⟨1, 8, .ptr 37, [.nilp]⟩
theorem ok35 : TIok Tryz.prog 35 ti35 := ⟨⟨Tryz.t35, _, by kernel_rfl, rfl, rfl, rfl, rfl⟩, rfl, rfl, ⟨_, Tryz.underlying35, rfl⟩⟩
def ti36 : TI := ⟨2, 32, .struct [(0, 35), (1, 24)], [.nilp, .nils]⟩
theorem ok36 : TIok Tryz.prog 36 ti36 := ⟨⟨Tryz.t36, _, by kernel_rfl, rfl, rfl, rfl, rfl⟩, rfl, rfl, ⟨_, Tryz.underlying36, ⟨_, rfl, rfl⟩⟩⟩
def ti37 : TI := ⟨2, 32, .struct [(0, 35), (1, 24)], [.nilp, .nils]⟩
theorem ok37 : TIok Tryz.prog 37 ti37 := ⟨⟨Tryz.t37, _, by kernel_rfl, rfl, rfl, rfl, rfl⟩, rfl, rfl, ⟨_, Tryz.underlying37, ⟨_, rfl, rfl⟩⟩⟩
def ti47 : TI := ⟨6, 48, .arr 6 3, [.int .i64 0, .int .i64 0, .int .i64 0, .int .i64 0, .int .i64 0, .int .i64 0]⟩
theorem ok47 : TIok Tryz.prog 47 ti47 := ⟨⟨Tryz.t47, _, by kernel_rfl, rfl, rfl, rfl, rfl⟩, rfl, rfl, ⟨_, Tryz.underlying47, rfl⟩⟩
def ti48 : TI := ⟨6, 48, .struct [(0, 3), (1, 3), (2, 3), (3, 3), (4, 3), (5, 3)], [.int .i64 0, .int .i64 0, .int .i64 0, .int .i64 0, .int .i64 0, .int .i64 0]⟩
theorem ok48 : TIok Tryz.prog 48 ti48 := ⟨⟨Tryz.t48, _, by kernel_rfl, rfl, rfl, rfl, rfl⟩, rfl, rfl, ⟨_, Tryz.underlying48, ⟨_, rfl, rfl⟩⟩⟩
def ti49 : TI := ⟨6, 48, .struct [(0, 3), (1, 3), (2, 3), (3, 3), (4, 3), (5, 3)], [.int .i64 0, .int .i64 0, .int .i64 0, .int .i64 0, .int .i64 0, .int .i64 0]⟩
theorem ok49 : TIok Tryz.prog 49 ti49 := ⟨⟨Tryz.t49, _, by kernel_rfl, rfl, rfl, rfl, rfl⟩, rfl, rfl, ⟨_, Tryz.underlying49, ⟨_, rfl, rfl⟩⟩⟩
def ti54 : TI := ⟨1, 16, .str, [.str []]⟩
theorem ok54 : TIok Tryz.prog 54 ti54 := ⟨⟨Tryz.t54, _, by kernel_rfl, rfl, rfl, rfl, rfl⟩, rfl, rfl, ⟨_, Tryz.underlying54, rfl⟩⟩
def ti55 : TI := ⟨1, 8, .int .u64, [.int .u64 0]⟩
theorem ok55 : TIok Tryz.prog 55 ti55 := ⟨⟨Tryz.t55, _, by kernel_rfl, rfl, rfl, rfl, rfl⟩, rfl, rfl, ⟨_, Tryz.underlying55, rfl⟩⟩
def ti66 : TI := ⟨1, 24, .slice 24, [.nils]⟩
theorem ok66 : TIok Tryz.prog 66 ti66 := ⟨⟨Tryz.t66, _, by kernel_rfl, rfl, rfl, rfl, rfl⟩, rfl, rfl, ⟨_, Tryz.underlying66, rfl⟩⟩
def ttl : List (Nat × TI) := [(3, ti3), (5, ti5), (9, ti9), (22, ti22), (23, ti23), (24, ti24), (25, ti25), (26, ti26), (30, ti30), (32, ti32), (33, ti33), (34, ti34), (35, ti35), (36, ti36), (37, ti37), (47, ti47), (48, ti48), (49, ti49), (54, ti54), (55, ti55), (66, ti66)]
def tt : TT := fun t => lookT t ttl
theorem tok : TOK Tryz.prog tt := tok_of_all ⟨ok3, ok5, ok9, ok22, ok23, ok24, ok25, ok26, ok30, ok32, ok33, ok34, ok35, ok36, ok37, ok47, ok48, ok49, ok54, ok55, ok66, trivial⟩
end Go.Ab.Ss
namespace Go.Ab.Ss
open Go Go.Ab Go.Proofs
set_option maxRecDepth 20000
def l3_0b : CC := .seq (.seq (.ops [⟨some 19, none, .mv (.t 8)⟩,
  ⟨some 20, none, .mv (.t 6)⟩,
  ⟨some 21, none, .mv (.t 7)⟩,
  ⟨some 22, none, .ixs 1 (.t 20) (.t 21)⟩,
  ⟨some 23, none, .ld none (.t 22)⟩,
  ⟨some 24, none, .lenl (.t 23)⟩,
  ⟨some 25, none, .bin .lss (.int .i64) false (.t 19) (.t 24)⟩]) (.cond (.t 25) (.skip) (.exit 2))) (.seq (.block 3 (.ops [⟨some 28, none, .mv (.t 5)⟩,
  ⟨some 29, none, .bin .add (.int .i64) true (.t 28) (.k (.int .i64 10))⟩,
  ⟨some 30, none, .mv (.t 6)⟩,
  ⟨some 31, none, .mv (.t 7)⟩,
  ⟨some 32, none, .ixs 1 (.t 30) (.t 31)⟩,
  ⟨some 33, none, .ld none (.t 32)⟩,
  ⟨some 34, none, .mv (.t 8)⟩,
  ⟨some 35, none, .ixs 2 (.t 33) (.t 34)⟩,
  ⟨some 36, none, .fa 1 (.t 35)⟩,
  ⟨some 37, none, .ld none (.t 36)⟩,
  ⟨some 38, none, .lenl (.t 37)⟩,
  ⟨some 39, none, .bin .add (.int .i64) false (.t 29) (.t 38)⟩,
  ⟨some 5, none, .mv (.t 39)⟩])) (.ops [⟨some 26, none, .mv (.t 8)⟩,
  ⟨some 27, none, .bin .add (.int .i64) true (.t 26) (.k (.int .i64 1))⟩,
  ⟨some 8, none, .mv (.t 27)⟩]))
def l3_0 : CC := l3_0b
theorem l3_0x (P : Program) (T : TT) (G : GT) (Q : EQ) (t : Env) (σ : St) : aC P T G l3_0 Q t σ = aC P T G l3_0b Q t σ := rfl
def l3_1b : CC := .seq (.seq (.ops [⟨some 13, none, .mv (.t 7)⟩,
  ⟨some 14, none, .mv (.t 6)⟩,
  ⟨some 15, none, .lenl (.t 14)⟩,
  ⟨some 16, none, .bin .lss (.int .i64) false (.t 13) (.t 15)⟩]) (.cond (.t 16) (.skip) (.exit 0))) (.seq (.block 1 (.seq (.ops [⟨some 8, none, .mv (.k (.int .i64 0))⟩]) (.block 2 (.loop l3_0)))) (.ops [⟨some 17, none, .mv (.t 7)⟩,
  ⟨some 18, none, .bin .add (.int .i64) true (.t 17) (.k (.int .i64 1))⟩,
  ⟨some 7, none, .mv (.t 18)⟩]))
def l3_1 : CC := l3_1b
theorem l3_1x (P : Program) (T : TT) (G : GT) (Q : EQ) (t : Env) (σ : St) : aC P T G l3_1 Q t σ = aC P T G l3_1b Q t σ := rfl
/-- comptoir/comptoirlaw28.ScriptTexts -/
def c3 : CF := ⟨66, [.t 4], .seq (.ops [⟨some 4, none, .mv (.k (.bool false))⟩]) (.seq (.ops [⟨some 5, none, .mv (.k (.int .i64 0))⟩]) (.seq (.ops [⟨some 9, none, .mv (.t 0)⟩,
  ⟨some 10, none, .app 23 1 24 (.k (.nils)) (.t 9)⟩,
  ⟨some 11, none, .mv (.t 1)⟩,
  ⟨some 12, none, .app 23 1 24 (.t 10) (.t 11)⟩,
  ⟨some 6, none, .mv (.t 12)⟩]) (.seq (.seq (.ops [⟨some 7, none, .mv (.k (.int .i64 0))⟩]) (.block 0 (.loop l3_1))) (.seq (.seq (.ops [⟨some 40, none, .mv (.t 6)⟩,
  ⟨some 41, none, .lenl (.t 40)⟩,
  ⟨some 42, none, .bin .gtr (.int .i64) true (.t 41) (.k (.int .i64 50))⟩,
  ⟨some 43, none, .mv (.t 42)⟩,
  ⟨some 44, some (43, false), .mv (.t 5)⟩,
  ⟨some 45, some (43, false), .bin .gtr (.int .i64) true (.t 44) (.k (.int .i64 20000))⟩,
  ⟨some 46, none, .pick (.t 43) (.k (.bool true)) (.t 45)⟩]) (.cond (.t 46) (.seq (.ops [⟨some 47, none, .call (.k (.fn (.func 4) [] [])) []⟩,
  ⟨some 4, none, .mv (.t 47)⟩]) (.ret)) (.skip))) (.seq (.ops [⟨some 48, none, .call (.k (.fn (.func 4) [] [])) []⟩,
  ⟨some 49, none, .mv (.t 48)⟩,
  ⟨some 50, some (49, true), .mv (.t 6)⟩,
  ⟨some 51, some (49, true), .call (.k (.fn (.func 5) [] [])) [.t 50]⟩,
  ⟨some 52, some (49, true), .mv (.t 6)⟩,
  ⟨some 53, some (49, true), .call (.k (.fn (.func 6) [] [])) [.t 52]⟩,
  ⟨some 54, some (49, true), .bin .eql (.str) false (.t 51) (.t 53)⟩,
  ⟨some 55, none, .pick (.t 49) (.t 54) (.k (.bool false))⟩,
  ⟨some 56, none, .mv (.t 55)⟩,
  ⟨some 57, some (56, true), .mv (.t 6)⟩,
  ⟨some 58, some (56, true), .call (.k (.fn (.func 5) [] [])) [.t 57]⟩,
  ⟨some 59, some (56, true), .mv (.t 0)⟩,
  ⟨some 60, some (56, true), .call (.k (.fn (.func 5) [] [])) [.t 59]⟩,
  ⟨some 61, some (56, true), .mv (.t 1)⟩,
  ⟨some 62, some (56, true), .call (.k (.fn (.func 5) [] [])) [.t 61]⟩,
  ⟨some 63, some (56, true), .bin .add (.str) false (.t 60) (.t 62)⟩,
  ⟨some 64, some (56, true), .bin .eql (.str) false (.t 58) (.t 63)⟩,
  ⟨some 65, none, .pick (.t 56) (.t 64) (.k (.bool false))⟩,
  ⟨some 4, none, .mv (.t 65)⟩]) (.ret))))))⟩
theorem fk3 (G : GT) : FOk Tryz.prog tt G 3 c3 := ⟨_, Tryz.func3, by kernel_rfl⟩
/-- comptoir/comptoirlaw28.awake -/
def c4 : CF := ⟨33, [.t 0], .seq (.ops [⟨some 0, none, .mv (.k (.bool false))⟩]) (.seq (.ops [⟨some 2, none, .mks 5 1 [.int .u8 0] 6 [(0, .k (.int .u8 0)), (1, .k (.int .u8 5)), (2, .k (.int .u8 0)), (3, .k (.int .u8 0)), (4, .k (.int .u8 0)), (5, .k (.int .u8 0))]⟩,
  ⟨some 3, none, .call (.k (.fn (.func 7) [] [])) [.t 2]⟩,
  ⟨some 1, none, .mv (.t 3)⟩]) (.seq (.ops [⟨some 4, none, .mv (.t 1)⟩,
  ⟨some 5, none, .lenl (.t 4)⟩,
  ⟨some 6, none, .bin .eql (.int .i64) true (.t 5) (.k (.int .i64 1))⟩,
  ⟨some 7, none, .mv (.t 6)⟩,
  ⟨some 8, some (7, true), .mv (.t 1)⟩,
  ⟨some 9, some (7, true), .ixs 6 (.t 8) (.k (.int .i64 0))⟩,
  ⟨some 10, some (7, true), .fa 0 (.t 9)⟩,
  ⟨some 11, some (7, true), .ld none (.t 10)⟩,
  ⟨some 12, some (7, true), .bin .eql (.int .i64) true (.t 11) (.k (.int .i64 2))⟩,
  ⟨some 13, none, .pick (.t 7) (.t 12) (.k (.bool false))⟩,
  ⟨some 14, none, .mv (.t 13)⟩,
  ⟨some 15, some (14, true), .mv (.t 1)⟩,
  ⟨some 16, some (14, true), .ixs 6 (.t 15) (.k (.int .i64 0))⟩,
  ⟨some 17, some (14, true), .fa 3 (.t 16)⟩,
  ⟨some 18, some (14, true), .ld none (.t 17)⟩,
  ⟨some 19, some (14, true), .bin .eql (.int .u64) true (.t 18) (.k (.int .u64 5))⟩,
  ⟨some 20, none, .pick (.t 14) (.t 19) (.k (.bool false))⟩,
  ⟨some 21, none, .mv (.t 20)⟩,
  ⟨some 22, some (21, true), .mv (.t 1)⟩,
  ⟨some 23, some (21, true), .ixs 6 (.t 22) (.k (.int .i64 0))⟩,
  ⟨some 24, some (21, true), .fa 4 (.t 23)⟩,
  ⟨some 25, some (21, true), .ld none (.t 24)⟩,
  ⟨some 26, some (21, true), .bin .eql (.int .i64) true (.t 25) (.k (.int .i64 (-1)))⟩,
  ⟨some 27, none, .pick (.t 21) (.t 26) (.k (.bool false))⟩,
  ⟨some 28, none, .mv (.t 27)⟩,
  ⟨some 29, some (28, true), .mks 23 1 [.nils] 1 [(0, .k (.nils))]⟩,
  ⟨some 30, some (28, true), .call (.k (.fn (.func 5) [] [])) [.t 29]⟩,
  ⟨some 31, some (28, true), .bin .eql (.str) true (.t 30) (.k (.str [46, 10]))⟩,
  ⟨some 32, none, .pick (.t 28) (.t 31) (.k (.bool false))⟩,
  ⟨some 0, none, .mv (.t 32)⟩]) (.ret)))⟩
theorem fk4 (G : GT) : FOk Tryz.prog tt G 4 c4 := ⟨_, Tryz.func4, by kernel_rfl⟩
def l5_0b : CC := .seq (.ops [⟨some 20, none, .bin .lss (.int .i64) false (.t 19) (.t 18)⟩]) (.seq (.cond (.t 20) (.skip) (.exit 2)) (.seq (.block 3 (.seq (.ops [⟨some 21, none, .ixs 2 (.t 17) (.t 19)⟩,
  ⟨some 22, none, .ld (some 2) (.t 21)⟩,
  ⟨some 7, none, .alloc 26 [.int .i64 0, .nils]⟩,
  ⟨none, none, .st 2 (.t 7) (.t 22)⟩]) (.seq (.ops [⟨some 8, none, .mv (.k (.str [66]))⟩]) (.seq (.seq (.ops [⟨some 23, none, .fa 0 (.t 7)⟩,
  ⟨some 24, none, .ld none (.t 23)⟩,
  ⟨some 25, none, .bin .eql (.int .i64) true (.t 24) (.k (.int .i64 0))⟩]) (.cond (.t 25) (.ops [⟨some 8, none, .mv (.k (.str [88]))⟩]) (.skip))) (.seq (.ops [⟨some 27, none, .fa 1 (.t 7)⟩,
  ⟨some 28, none, .ld none (.t 27)⟩,
  ⟨some 29, none, .call (.k (.fn (.func 8) [] [])) [.t 28]⟩,
  ⟨some 26, none, .mv (.t 29)⟩,
  ⟨some 30, none, .ex (.t 26) 0⟩,
  ⟨some 31, none, .ex (.t 26) 1⟩,
  ⟨some 9, none, .mv (.t 30)⟩,
  ⟨some 10, none, .mv (.t 31)⟩]) (.ops [⟨some 32, none, .mv (.t 8)⟩,
  ⟨some 33, none, .mv (.t 9)⟩,
  ⟨some 34, none, .call (.k (.fn (.func 10) [] [])) [.t 33]⟩,
  ⟨some 35, none, .bin .add (.str) false (.t 32) (.t 34)⟩,
  ⟨some 36, none, .bin .add (.str) true (.t 35) (.k (.str [10]))⟩,
  ⟨some 37, none, .call (.k (.fn (.func 9) [] [])) [.t 3, .t 36]⟩])))))) (.ops [⟨some 38, none, .bin .add (.int .i64) true (.t 19) (.k (.int .i64 1))⟩,
  ⟨some 19, none, .mv (.t 38)⟩])))
def l5_0 : CC := l5_0b
theorem l5_0x (P : Program) (T : TT) (G : GT) (Q : EQ) (t : Env) (σ : St) : aC P T G l5_0 Q t σ = aC P T G l5_0b Q t σ := rfl
def l5_1b : CC := .seq (.ops [⟨some 14, none, .bin .lss (.int .i64) false (.t 13) (.t 12)⟩]) (.seq (.cond (.t 14) (.skip) (.exit 0)) (.seq (.block 1 (.seq (.ops [⟨some 15, none, .ixs 1 (.t 11) (.t 13)⟩,
  ⟨some 16, none, .ld none (.t 15)⟩,
  ⟨some 5, none, .mv (.t 16)⟩]) (.seq (.seq (.ops [⟨some 17, none, .mv (.t 5)⟩,
  ⟨some 18, none, .lenl (.t 17)⟩,
  ⟨some 19, none, .mv (.k (.int .i64 0))⟩]) (.block 2 (.loop l5_0))) (.ops [⟨some 39, none, .call (.k (.fn (.func 9) [] [])) [.t 3, .k (.str [46, 10])]⟩])))) (.ops [⟨some 40, none, .bin .add (.int .i64) true (.t 13) (.k (.int .i64 1))⟩,
  ⟨some 13, none, .mv (.t 40)⟩])))
def l5_1 : CC := l5_1b
theorem l5_1x (P : Program) (T : TT) (G : GT) (Q : EQ) (t : Env) (σ : St) : aC P T G l5_1 Q t σ = aC P T G l5_1b Q t σ := rfl
/-- comptoir/script.Text -/
def c5 : CF := ⟨42, [.t 2], .seq (.ops [⟨some 2, none, .mv (.k (.str []))⟩]) (.seq (.ops [⟨some 3, none, .alloc 37 [.nilp, .nils]⟩]) (.seq (.seq (.ops [⟨some 11, none, .mv (.t 0)⟩,
  ⟨some 12, none, .lenl (.t 11)⟩,
  ⟨some 13, none, .mv (.k (.int .i64 0))⟩]) (.block 0 (.loop l5_1))) (.seq (.ops [⟨some 41, none, .call (.k (.fn (.func 11) [] [])) [.t 3]⟩,
  ⟨some 2, none, .mv (.t 41)⟩]) (.ret))))⟩
theorem fk5 (G : GT) : FOk Tryz.prog tt G 5 c5 := ⟨_, Tryz.func5, by kernel_rfl⟩
def l6_0b : CC := .seq (.seq (.ops [⟨some 15, none, .mv (.t 5)⟩,
  ⟨some 16, none, .mv (.t 0)⟩,
  ⟨some 17, none, .mv (.t 4)⟩,
  ⟨some 18, none, .ixs 1 (.t 16) (.t 17)⟩,
  ⟨some 19, none, .ld none (.t 18)⟩,
  ⟨some 20, none, .lenl (.t 19)⟩,
  ⟨some 21, none, .bin .lss (.int .i64) false (.t 15) (.t 20)⟩]) (.cond (.t 21) (.skip) (.exit 2))) (.seq (.block 3 (.seq (.ops [⟨some 24, none, .mv (.t 0)⟩,
  ⟨some 25, none, .mv (.t 4)⟩,
  ⟨some 26, none, .ixs 1 (.t 24) (.t 25)⟩,
  ⟨some 27, none, .ld none (.t 26)⟩,
  ⟨some 28, none, .mv (.t 5)⟩,
  ⟨some 29, none, .ixs 2 (.t 27) (.t 28)⟩,
  ⟨some 30, none, .ld (some 2) (.t 29)⟩,
  ⟨some 6, none, .alloc 26 [.int .i64 0, .nils]⟩,
  ⟨none, none, .st 2 (.t 6) (.t 30)⟩]) (.seq (.seq (.ops [⟨some 31, none, .fa 0 (.t 6)⟩,
  ⟨some 32, none, .ld none (.t 31)⟩,
  ⟨some 33, none, .bin .eql (.int .i64) true (.t 32) (.k (.int .i64 0))⟩]) (.cond (.t 33) (.ops [⟨some 34, none, .mv (.t 3)⟩,
  ⟨some 35, none, .bin .add (.str) true (.t 34) (.k (.str [88]))⟩,
  ⟨some 3, none, .mv (.t 35)⟩]) (.ops [⟨some 36, none, .mv (.t 3)⟩,
  ⟨some 37, none, .bin .add (.str) true (.t 36) (.k (.str [66]))⟩,
  ⟨some 3, none, .mv (.t 37)⟩]))) (.seq (.ops [⟨some 39, none, .fa 1 (.t 6)⟩,
  ⟨some 40, none, .ld none (.t 39)⟩,
  ⟨some 41, none, .call (.k (.fn (.func 12) [] [])) [.t 40]⟩,
  ⟨some 38, none, .mv (.t 41)⟩,
  ⟨some 42, none, .ex (.t 38) 0⟩,
  ⟨some 43, none, .ex (.t 38) 1⟩,
  ⟨some 7, none, .mv (.t 42)⟩,
  ⟨some 8, none, .mv (.t 43)⟩]) (.ops [⟨some 44, none, .mv (.t 3)⟩,
  ⟨some 45, none, .mv (.t 7)⟩,
  ⟨some 46, none, .call (.k (.fn (.func 13) [] [])) [.t 45]⟩,
  ⟨some 47, none, .bin .add (.str) false (.t 44) (.t 46)⟩,
  ⟨some 48, none, .bin .add (.str) true (.t 47) (.k (.str [10]))⟩,
  ⟨some 3, none, .mv (.t 48)⟩]))))) (.ops [⟨some 22, none, .mv (.t 5)⟩,
  ⟨some 23, none, .bin .add (.int .i64) true (.t 22) (.k (.int .i64 1))⟩,
  ⟨some 5, none, .mv (.t 23)⟩]))
def l6_0 : CC := l6_0b
theorem l6_0x (P : Program) (T : TT) (G : GT) (Q : EQ) (t : Env) (σ : St) : aC P T G l6_0 Q t σ = aC P T G l6_0b Q t σ := rfl
def l6_1b : CC := .seq (.seq (.ops [⟨some 9, none, .mv (.t 4)⟩,
  ⟨some 10, none, .mv (.t 0)⟩,
  ⟨some 11, none, .lenl (.t 10)⟩,
  ⟨some 12, none, .bin .lss (.int .i64) false (.t 9) (.t 11)⟩]) (.cond (.t 12) (.skip) (.exit 0))) (.seq (.block 1 (.seq (.seq (.ops [⟨some 5, none, .mv (.k (.int .i64 0))⟩]) (.block 2 (.loop l6_0))) (.ops [⟨some 49, none, .mv (.t 3)⟩,
  ⟨some 50, none, .bin .add (.str) true (.t 49) (.k (.str [46, 10]))⟩,
  ⟨some 3, none, .mv (.t 50)⟩]))) (.ops [⟨some 13, none, .mv (.t 4)⟩,
  ⟨some 14, none, .bin .add (.int .i64) true (.t 13) (.k (.int .i64 1))⟩,
  ⟨some 4, none, .mv (.t 14)⟩]))
def l6_1 : CC := l6_1b
theorem l6_1x (P : Program) (T : TT) (G : GT) (Q : EQ) (t : Env) (σ : St) : aC P T G l6_1 Q t σ = aC P T G l6_1b Q t σ := rfl
/-- comptoir/comptoirref26.Text -/
def c6 : CF := ⟨52, [.t 2], .seq (.ops [⟨some 2, none, .mv (.k (.str []))⟩]) (.seq (.ops [⟨some 3, none, .mv (.k (.str []))⟩]) (.seq (.seq (.ops [⟨some 4, none, .mv (.k (.int .i64 0))⟩]) (.block 0 (.loop l6_1))) (.seq (.ops [⟨some 51, none, .mv (.t 3)⟩,
  ⟨some 2, none, .mv (.t 51)⟩]) (.ret))))⟩
theorem fk6 (G : GT) : FOk Tryz.prog tt G 6 c6 := ⟨_, Tryz.func6, by kernel_rfl⟩
def l7_0b : CC := .seq (.ops [⟨some 24, none, .bin .lss (.int .i64) false (.t 23) (.t 22)⟩]) (.seq (.cond (.t 24) (.skip) (.exit 2)) (.seq (.block 3 (.seq (.ops [⟨some 25, none, .mv (.t 23)⟩,
  ⟨some 26, none, .ixs 1 (.t 21) (.t 23)⟩,
  ⟨some 27, none, .ld none (.t 26)⟩,
  ⟨some 6, none, .mv (.t 25)⟩,
  ⟨some 7, none, .mv (.t 27)⟩]) (.ops [⟨some 28, none, .mv (.t 6)⟩,
  ⟨some 29, none, .mv (.t 7)⟩,
  ⟨some 30, none, .cvi .i64 (.t 29)⟩,
  ⟨some 31, none, .ixa 6 1 (.t 4) (.t 28)⟩,
  ⟨none, none, .st 1 (.t 31) (.t 30)⟩]))) (.ops [⟨some 32, none, .bin .add (.int .i64) true (.t 23) (.k (.int .i64 1))⟩,
  ⟨some 23, none, .mv (.t 32)⟩])))
def l7_0 : CC := l7_0b
theorem l7_0x (P : Program) (T : TT) (G : GT) (Q : EQ) (t : Env) (σ : St) : aC P T G l7_0 Q t σ = aC P T G l7_0b Q t σ := rfl
def l7_1b : CC := .seq (.seq (.ops [⟨some 8, none, .mv (.t 0)⟩,
  ⟨some 9, none, .lenl (.t 8)⟩,
  ⟨some 10, none, .bin .gtr (.int .i64) true (.t 9) (.k (.int .i64 0))⟩,
  ⟨some 11, none, .mv (.t 10)⟩,
  ⟨some 12, some (11, true), .mv (.t 3)⟩,
  ⟨some 13, some (11, true), .lenl (.t 12)⟩,
  ⟨some 14, some (11, true), .bin .lss (.int .i64) true (.t 13) (.k (.int .i64 300))⟩,
  ⟨some 15, none, .pick (.t 11) (.t 14) (.k (.bool false))⟩]) (.cond (.t 15) (.skip) (.exit 0))) (.block 1 (.seq (.ops [⟨some 4, none, .alloc 47 [.int .i64 0, .int .i64 0, .int .i64 0, .int .i64 0, .int .i64 0, .int .i64 0]⟩]) (.seq (.ops [⟨some 16, none, .mv (.t 0)⟩,
  ⟨some 17, none, .lenl (.t 16)⟩,
  ⟨some 18, none, .more .mn [.t 17, .k (.int .i64 6)]⟩,
  ⟨some 5, none, .mv (.t 18)⟩]) (.seq (.seq (.ops [⟨some 19, none, .mv (.t 0)⟩,
  ⟨some 20, none, .mv (.t 5)⟩,
  ⟨some 21, none, .sls 1 (.t 19) none (some (.t 20)) none⟩,
  ⟨some 22, none, .lenl (.t 21)⟩,
  ⟨some 23, none, .mv (.k (.int .i64 0))⟩]) (.block 2 (.loop l7_0))) (.seq (.ops [⟨some 33, none, .mv (.t 0)⟩,
  ⟨some 34, none, .mv (.t 5)⟩,
  ⟨some 35, none, .sls 1 (.t 33) (some (.t 34)) none none⟩,
  ⟨some 0, none, .mv (.t 35)⟩]) (.ops [⟨some 36, none, .mv (.t 3)⟩,
  ⟨some 37, none, .ixa 6 1 (.t 4) (.k (.int .i64 0))⟩,
  ⟨some 38, none, .ld none (.t 37)⟩,
  ⟨some 39, none, .ixa 6 1 (.t 4) (.k (.int .i64 1))⟩,
  ⟨some 40, none, .ld none (.t 39)⟩,
  ⟨some 41, none, .ixa 6 1 (.t 4) (.k (.int .i64 2))⟩,
  ⟨some 42, none, .ld none (.t 41)⟩,
  ⟨some 43, none, .ixa 6 1 (.t 4) (.k (.int .i64 3))⟩,
  ⟨some 44, none, .ld none (.t 43)⟩,
  ⟨some 45, none, .ixa 6 1 (.t 4) (.k (.int .i64 4))⟩,
  ⟨some 46, none, .ld none (.t 45)⟩,
  ⟨some 47, none, .ixa 6 1 (.t 4) (.k (.int .i64 5))⟩,
  ⟨some 48, none, .ld none (.t 47)⟩,
  ⟨some 49, none, .mk [.int .i64 0, .int .i64 0, .int .i64 0, .int .i64 0, .int .i64 0, .int .i64 0] [(0, 1, .t 38), (1, 1, .t 40), (2, 1, .t 42), (3, 1, .t 44), (4, 1, .t 46), (5, 1, .t 48)]⟩,
  ⟨some 50, none, .call (.k (.fn (.func 14) [] [])) [.t 49]⟩,
  ⟨some 51, none, .mks 34 6 [.int .i64 0, .int .i64 0, .nils, .int .u64 0, .int .i64 0, .int .i64 0] 1 [(0, .t 50)]⟩,
  ⟨some 52, none, .app 34 6 64 (.t 36) (.t 51)⟩,
  ⟨some 3, none, .mv (.t 52)⟩]))))))
def l7_1 : CC := l7_1b
theorem l7_1x (P : Program) (T : TT) (G : GT) (Q : EQ) (t : Env) (σ : St) : aC P T G l7_1 Q t σ = aC P T G l7_1b Q t σ := rfl
/-- comptoir/script.Decode -/
def c7 : CF := ⟨54, [.t 2], .seq (.ops [⟨some 2, none, .mv (.k (.nils))⟩]) (.seq (.ops [⟨some 3, none, .mv (.k (.nils))⟩]) (.seq (.block 0 (.loop l7_1)) (.seq (.ops [⟨some 53, none, .mv (.t 3)⟩,
  ⟨some 2, none, .mv (.t 53)⟩]) (.ret))))⟩
theorem fk7 (G : GT) : FOk Tryz.prog tt G 7 c7 := ⟨_, Tryz.func7, by kernel_rfl⟩
/-- comptoir/link.Frame -/
def c8 : CF := ⟨19, [.t 2, .t 3], .seq (.ops [⟨some 2, none, .mv (.k (.nils))⟩,
  ⟨some 3, none, .mv (.k (.int .i64 0))⟩]) (.seq (.block 0 (.seq (.ops [⟨some 5, none, .mv (.t 0)⟩,
  ⟨some 6, none, .lenl (.t 5)⟩,
  ⟨some 7, none, .bin .eql (.int .i64) true (.t 6) (.k (.int .i64 0))⟩,
  ⟨some 4, none, .mv (.t 7)⟩]) (.cond (.t 4) (.seq (.ops [⟨some 2, none, .mv (.k (.nils))⟩,
  ⟨some 3, none, .mv (.k (.int .i64 1))⟩]) (.ret)) (.seq (.ops [⟨some 9, none, .mv (.t 0)⟩,
  ⟨some 10, none, .lenl (.t 9)⟩,
  ⟨some 11, none, .bin .gtr (.int .i64) true (.t 10) (.k (.int .i64 4096))⟩,
  ⟨some 8, none, .mv (.t 11)⟩]) (.cond (.t 8) (.seq (.ops [⟨some 2, none, .mv (.k (.nils))⟩,
  ⟨some 3, none, .mv (.k (.int .i64 4))⟩]) (.ret)) (.skip)))))) (.seq (.ops [⟨some 12, none, .mv (.t 0)⟩,
  ⟨some 13, none, .lenl (.t 12)⟩,
  ⟨some 14, none, .cvi .u64 (.t 13)⟩,
  ⟨some 15, none, .call (.k (.fn (.func 16) [] [])) [.k (.nils), .t 14, .k (.int .i64 2)]⟩,
  ⟨some 16, none, .mv (.t 0)⟩,
  ⟨some 17, none, .mks 24 1 [.nils] 2 [(0, .t 15), (1, .t 16)]⟩,
  ⟨some 18, none, .call (.k (.fn (.func 15) [] [])) [.t 17]⟩,
  ⟨some 2, none, .mv (.t 18)⟩,
  ⟨some 3, none, .mv (.k (.int .i64 0))⟩]) (.ret)))⟩
theorem fk8 (G : GT) : FOk Tryz.prog tt G 8 c8 := ⟨_, Tryz.func8, by kernel_rfl⟩
/-- (*strings.Builder).WriteString -/
def c9 : CF := ⟨19, [.t 4, .t 5], .seq (.ops [⟨some 4, none, .mv (.k (.int .i64 0))⟩,
  ⟨some 5, none, .mv (.k (.nili))⟩]) (.seq (.ops [⟨some 6, none, .mv (.t 0)⟩,
  ⟨some 7, none, .call (.k (.fn (.func 17) [] [])) [.t 6]⟩]) (.seq (.ops [⟨some 8, none, .mv (.t 0)⟩,
  ⟨some 9, none, .mv (.t 0)⟩,
  ⟨some 10, none, .nilc (.t 9)⟩,
  ⟨some 11, none, .fa 1 (.t 10)⟩,
  ⟨some 12, none, .ld none (.t 11)⟩,
  ⟨some 13, none, .mv (.t 1)⟩,
  ⟨some 14, none, .app 5 1 1 (.t 12) (.t 13)⟩,
  ⟨some 15, none, .nilc (.t 8)⟩,
  ⟨some 16, none, .fa 1 (.t 15)⟩,
  ⟨none, none, .st 1 (.t 16) (.t 14)⟩]) (.seq (.ops [⟨some 17, none, .mv (.t 1)⟩,
  ⟨some 18, none, .lens (.t 17)⟩,
  ⟨some 4, none, .mv (.t 18)⟩,
  ⟨some 5, none, .mv (.k (.nili))⟩]) (.ret))))⟩
theorem fk9 (G : GT) : FOk Tryz.prog tt G 9 c9 := ⟨_, Tryz.func9, by kernel_rfl⟩
def l10_0b : CC := .seq (.ops [⟨some 9, none, .bin .lss (.int .i64) false (.t 8) (.t 7)⟩]) (.seq (.cond (.t 9) (.skip) (.exit 0)) (.seq (.block 1 (.seq (.ops [⟨some 10, none, .ixs 1 (.t 6) (.t 8)⟩,
  ⟨some 11, none, .ld none (.t 10)⟩,
  ⟨some 5, none, .mv (.t 11)⟩]) (.seq (.ops [⟨some 12, none, .mv (.t 5)⟩,
  ⟨some 13, none, .bin .shr (.int .u8) true (.t 12) (.k (.int .u64 4))⟩,
  ⟨some 14, none, .ixstr (.k (.str [48, 49, 50, 51, 52, 53, 54, 55, 56, 57, 65, 66, 67, 68, 69, 70])) (.t 13)⟩,
  ⟨some 15, none, .call (.k (.fn (.func 18) [] [])) [.t 3, .t 14]⟩]) (.ops [⟨some 16, none, .mv (.t 5)⟩,
  ⟨some 17, none, .bin .and (.int .u8) true (.t 16) (.k (.int .u8 15))⟩,
  ⟨some 18, none, .ixstr (.k (.str [48, 49, 50, 51, 52, 53, 54, 55, 56, 57, 65, 66, 67, 68, 69, 70])) (.t 17)⟩,
  ⟨some 19, none, .call (.k (.fn (.func 18) [] [])) [.t 3, .t 18]⟩])))) (.ops [⟨some 20, none, .bin .add (.int .i64) true (.t 8) (.k (.int .i64 1))⟩,
  ⟨some 8, none, .mv (.t 20)⟩])))
def l10_0 : CC := l10_0b
theorem l10_0x (P : Program) (T : TT) (G : GT) (Q : EQ) (t : Env) (σ : St) : aC P T G l10_0 Q t σ = aC P T G l10_0b Q t σ := rfl
/-- comptoir/digits.Hex -/
def c10 : CF := ⟨22, [.t 2], .seq (.ops [⟨some 2, none, .mv (.k (.str []))⟩]) (.seq (.ops [⟨some 3, none, .alloc 37 [.nilp, .nils]⟩]) (.seq (.seq (.ops [⟨some 6, none, .mv (.t 0)⟩,
  ⟨some 7, none, .lenl (.t 6)⟩,
  ⟨some 8, none, .mv (.k (.int .i64 0))⟩]) (.block 0 (.loop l10_0))) (.seq (.ops [⟨some 21, none, .call (.k (.fn (.func 11) [] [])) [.t 3]⟩,
  ⟨some 2, none, .mv (.t 21)⟩]) (.ret))))⟩
theorem fk10 (G : GT) : FOk Tryz.prog tt G 10 c10 := ⟨_, Tryz.func10, by kernel_rfl⟩
/-- comptoir/comptoirref01.Framed -/
def c12 : CF := ⟨16, [.t 2, .t 3], .seq (.ops [⟨some 2, none, .mv (.k (.nils))⟩,
  ⟨some 3, none, .mv (.k (.int .i64 0))⟩]) (.seq (.seq (.ops [⟨some 4, none, .mv (.t 0)⟩,
  ⟨some 5, none, .lenl (.t 4)⟩,
  ⟨some 6, none, .bin .eql (.int .i64) true (.t 5) (.k (.int .i64 0))⟩]) (.cond (.t 6) (.seq (.ops [⟨some 2, none, .mv (.k (.nils))⟩,
  ⟨some 3, none, .mv (.k (.int .i64 1))⟩]) (.ret)) (.skip))) (.seq (.seq (.ops [⟨some 7, none, .mv (.t 0)⟩,
  ⟨some 8, none, .lenl (.t 7)⟩,
  ⟨some 9, none, .bin .gtr (.int .i64) true (.t 8) (.k (.int .i64 4096))⟩]) (.cond (.t 9) (.seq (.ops [⟨some 2, none, .mv (.k (.nils))⟩,
  ⟨some 3, none, .mv (.k (.int .i64 4))⟩]) (.ret)) (.skip))) (.seq (.ops [⟨some 10, none, .mv (.t 0)⟩,
  ⟨some 11, none, .lenl (.t 10)⟩,
  ⟨some 12, none, .cvi .u64 (.t 11)⟩,
  ⟨some 13, none, .call (.k (.fn (.func 19) [] [])) [.k (.nils), .t 12, .k (.int .i64 2)]⟩,
  ⟨some 14, none, .mv (.t 0)⟩,
  ⟨some 15, none, .app 5 1 1 (.t 13) (.t 14)⟩,
  ⟨some 2, none, .mv (.t 15)⟩,
  ⟨some 3, none, .mv (.k (.int .i64 0))⟩]) (.ret))))⟩
theorem fk12 (G : GT) : FOk Tryz.prog tt G 12 c12 := ⟨_, Tryz.func12, by kernel_rfl⟩
def l13_0b : CC := .seq (.seq (.ops [⟨some 5, none, .mv (.t 4)⟩,
  ⟨some 6, none, .mv (.t 0)⟩,
  ⟨some 7, none, .lenl (.t 6)⟩,
  ⟨some 8, none, .bin .lss (.int .i64) false (.t 5) (.t 7)⟩]) (.cond (.t 8) (.skip) (.exit 0))) (.seq (.block 1 (.draw [⟨some 11, none, .mv (.t 3)⟩,
  ⟨some 12, none, .mv (.t 0)⟩,
  ⟨some 13, none, .mv (.t 4)⟩,
  ⟨some 14, none, .ixs 1 (.t 12) (.t 13)⟩,
  ⟨some 15, none, .ld none (.t 14)⟩,
  ⟨some 16, none, .bin .shr (.int .u8) true (.t 15) (.k (.int .u64 4))⟩,
  ⟨some 17, none, .mv (.t 0)⟩,
  ⟨some 18, none, .mv (.t 4)⟩,
  ⟨some 19, none, .ixs 1 (.t 17) (.t 18)⟩,
  ⟨some 20, none, .ld none (.t 19)⟩,
  ⟨some 21, none, .bin .shr (.int .u8) true (.t 20) (.k (.int .u64 4))⟩,
  ⟨some 22, none, .bin .add (.int .u8) true (.t 21) (.k (.int .u8 1))⟩,
  ⟨some 23, none, .slstr (.k (.str [48, 49, 50, 51, 52, 53, 54, 55, 56, 57, 65, 66, 67, 68, 69, 70])) (some (.t 16)) (some (.t 22))⟩,
  ⟨some 24, none, .bin .add (.str) false (.t 11) (.t 23)⟩,
  ⟨some 25, none, .mv (.t 0)⟩,
  ⟨some 26, none, .mv (.t 4)⟩,
  ⟨some 27, none, .ixs 1 (.t 25) (.t 26)⟩,
  ⟨some 28, none, .ld none (.t 27)⟩,
  ⟨some 29, none, .bin .and (.int .u8) true (.t 28) (.k (.int .u8 15))⟩,
  ⟨some 30, none, .mv (.t 0)⟩,
  ⟨some 31, none, .mv (.t 4)⟩,
  ⟨some 32, none, .ixs 1 (.t 30) (.t 31)⟩,
  ⟨some 33, none, .ld none (.t 32)⟩,
  ⟨some 34, none, .bin .and (.int .u8) true (.t 33) (.k (.int .u8 15))⟩,
  ⟨some 35, none, .bin .add (.int .u8) true (.t 34) (.k (.int .u8 1))⟩,
  ⟨some 36, none, .slstr (.k (.str [48, 49, 50, 51, 52, 53, 54, 55, 56, 57, 65, 66, 67, 68, 69, 70])) (some (.t 29)) (some (.t 35))⟩,
  ⟨some 37, none, .bin .add (.str) false (.t 24) (.t 36)⟩,
  ⟨some 3, none, .mv (.t 37)⟩])) (.ops [⟨some 9, none, .mv (.t 4)⟩,
  ⟨some 10, none, .bin .add (.int .i64) true (.t 9) (.k (.int .i64 1))⟩,
  ⟨some 4, none, .mv (.t 10)⟩]))
def l13_0 : CC := l13_0b
theorem l13_0x (P : Program) (T : TT) (G : GT) (Q : EQ) (t : Env) (σ : St) : aC P T G l13_0 Q t σ = aC P T G l13_0b Q t σ := rfl
/-- comptoir/comptoirref01.Hex -/
def c13 : CF := ⟨39, [.t 2], .seq (.ops [⟨some 2, none, .mv (.k (.str []))⟩]) (.seq (.ops [⟨some 3, none, .mv (.k (.str []))⟩]) (.seq (.seq (.ops [⟨some 4, none, .mv (.k (.int .i64 0))⟩]) (.block 0 (.loop l13_0))) (.seq (.ops [⟨some 38, none, .mv (.t 3)⟩,
  ⟨some 2, none, .mv (.t 38)⟩]) (.ret))))⟩
theorem fk13 (G : GT) : FOk Tryz.prog tt G 13 c13 := ⟨_, Tryz.func13, by kernel_rfl⟩
/-- (comptoir/script.bytes).step -/
def c14 : CF := ⟨35, [.c 2 (some 6)], .seq (.ops [⟨some 1, none, .box 49 (.t 0)⟩,
  ⟨some 2, none, .alloc 34 [.int .i64 0, .int .i64 0, .nils, .int .u64 0, .int .i64 0, .int .i64 0]⟩]) (.seq (.ops [⟨some 4, none, .fa 1 (.t 1)⟩,
  ⟨some 5, none, .ld none (.t 4)⟩,
  ⟨some 6, none, .bin .rem (.int .i64) true (.t 5) (.k (.int .i64 2))⟩,
  ⟨some 7, none, .mk [.int .i64 0, .int .i64 0, .nils, .int .u64 0, .int .i64 0, .int .i64 0] [(0, 1, .k (.int .i64 1)), (1, 1, .t 6), (4, 1, .k (.int .i64 (-1))), (5, 1, .k (.int .i64 (-1)))]⟩,
  ⟨some 3, none, .alloc 34 [.int .i64 0, .int .i64 0, .nils, .int .u64 0, .int .i64 0, .int .i64 0]⟩,
  ⟨none, none, .st 6 (.t 3) (.t 7)⟩]) (.seq (.seq (.ops [⟨some 8, none, .fa 0 (.t 1)⟩,
  ⟨some 9, none, .ld none (.t 8)⟩,
  ⟨some 10, none, .bin .rem (.int .i64) true (.t 9) (.k (.int .i64 8))⟩]) (.block 0 (.seq (.ops [⟨some 12, none, .bin .eql (.int .i64) true (.t 10) (.k (.int .i64 0))⟩,
  ⟨some 11, none, .mv (.t 12)⟩]) (.cond (.t 11) (.seq (.ops [⟨some 13, none, .fa 1 (.t 1)⟩,
  ⟨some 14, none, .ld none (.t 13)⟩,
  ⟨some 15, none, .cvi .u64 (.t 14)⟩,
  ⟨some 16, none, .mk [.int .i64 0, .int .i64 0, .nils, .int .u64 0, .int .i64 0, .int .i64 0] [(0, 1, .k (.int .i64 2)), (3, 1, .t 15), (4, 1, .k (.int .i64 (-1))), (5, 1, .k (.int .i64 (-1)))]⟩,
  ⟨none, none, .st 6 (.t 2) (.t 16)⟩]) (.ret)) (.seq (.ops [⟨some 18, none, .bin .eql (.int .i64) true (.t 10) (.k (.int .i64 3))⟩,
  ⟨some 17, none, .mv (.t 18)⟩]) (.cond (.t 17) (.ops [⟨some 19, none, .fa 5 (.t 1)⟩,
  ⟨some 20, none, .ld none (.t 19)⟩,
  ⟨some 21, none, .bin .rem (.int .i64) true (.t 20) (.k (.int .i64 50))⟩,
  ⟨some 22, none, .fa 4 (.t 3)⟩,
  ⟨none, none, .st 1 (.t 22) (.t 21)⟩]) (.skip))))))) (.seq (.mix (.q 1 ⟨some 24, none, .fa 1 (.t 3)⟩ (.q 1 ⟨some 25, none, .ld none (.t 24)⟩ (.q 1 ⟨some 26, none, .ld (some 6) (.t 1)⟩ (.q 1 ⟨some 27, none, .fa 1 (.t 3)⟩ (.q 1 ⟨some 28, none, .ld none (.t 27)⟩ (.e ⟨some 29, none, .call (.k (.fn (.func 21) [] [])) [.t 26, .t 28]⟩ (.f ⟨some 30, none, .call (.k (.fn (.func 20) [] [])) [.t 25, .t 29]⟩ (.q 0 ⟨some 23, none, .mv (.t 30)⟩ (.q 0 ⟨some 31, none, .ex (.t 23) 0⟩ (.q 0 ⟨some 32, none, .ex (.t 23) 1⟩ (.q 1 ⟨some 33, none, .fa 2 (.t 3)⟩ (.f ⟨none, none, .st 1 (.t 33) (.t 31)⟩ (.done)))))))))))))) (.seq (.ops [⟨some 34, none, .ld (some 6) (.t 3)⟩,
  ⟨none, none, .st 6 (.t 2) (.t 34)⟩]) (.ret)))))⟩
theorem fk14 (G : GT) : FOk Tryz.prog tt G 14 c14 := ⟨_, Tryz.func14, by kernel_rfl⟩
def l15_0b : CC := .seq (.ops [⟨some 12, none, .bin .lss (.int .i64) false (.t 11) (.t 10)⟩]) (.seq (.cond (.t 12) (.skip) (.exit 0)) (.seq (.block 1 (.seq (.ops [⟨some 13, none, .ixs 1 (.t 9) (.t 11)⟩,
  ⟨some 14, none, .ld none (.t 13)⟩,
  ⟨some 5, none, .mv (.t 14)⟩]) (.seq (.ops [⟨some 15, none, .mv (.t 3)⟩,
  ⟨some 16, none, .mv (.t 5)⟩,
  ⟨some 17, none, .lenl (.t 16)⟩,
  ⟨some 18, none, .bin .add (.int .i64) false (.t 15) (.t 17)⟩,
  ⟨some 3, none, .mv (.t 18)⟩]) (.seq (.ops [⟨some 19, none, .mv (.t 3)⟩,
  ⟨some 20, none, .bin .lss (.int .i64) true (.t 19) (.k (.int .i64 0))⟩]) (.cond (.t 20) (.ops [⟨some 21, none, .ifc 9 (.k (.str [108, 101, 110, 32, 111, 117, 116, 32, 111, 102, 32, 114, 97, 110, 103, 101]))⟩,
  ⟨none, none, .more .bad []⟩]) (.skip)))))) (.ops [⟨some 22, none, .bin .add (.int .i64) true (.t 11) (.k (.int .i64 1))⟩,
  ⟨some 11, none, .mv (.t 22)⟩])))
def l15_0 : CC := l15_0b
theorem l15_0x (P : Program) (T : TT) (G : GT) (Q : EQ) (t : Env) (σ : St) : aC P T G l15_0 Q t σ = aC P T G l15_0b Q t σ := rfl
def l15_1b : CC := .seq (.ops [⟨some 28, none, .bin .lss (.int .i64) false (.t 27) (.t 26)⟩]) (.seq (.cond (.t 28) (.skip) (.exit 2)) (.seq (.block 3 (.seq (.ops [⟨some 29, none, .ixs 1 (.t 25) (.t 27)⟩,
  ⟨some 30, none, .ld none (.t 29)⟩,
  ⟨some 8, none, .mv (.t 30)⟩]) (.ops [⟨some 31, none, .mv (.t 6)⟩,
  ⟨some 32, none, .mv (.t 8)⟩,
  ⟨some 33, none, .app 5 1 1 (.t 31) (.t 32)⟩,
  ⟨some 6, none, .mv (.t 33)⟩]))) (.ops [⟨some 34, none, .bin .add (.int .i64) true (.t 27) (.k (.int .i64 1))⟩,
  ⟨some 27, none, .mv (.t 34)⟩])))
def l15_1 : CC := l15_1b
theorem l15_1x (P : Program) (T : TT) (G : GT) (Q : EQ) (t : Env) (σ : St) : aC P T G l15_1 Q t σ = aC P T G l15_1b Q t σ := rfl
/-- slices.Concat[[]byte,byte] -/
def c15 : CF := ⟨36, [.t 2], .seq (.ops [⟨some 2, none, .mv (.k (.nils))⟩]) (.seq (.ops [⟨some 3, none, .mv (.k (.int .i64 0))⟩]) (.seq (.seq (.ops [⟨some 9, none, .mv (.t 0)⟩,
  ⟨some 10, none, .lenl (.t 9)⟩,
  ⟨some 11, none, .mv (.k (.int .i64 0))⟩]) (.block 0 (.loop l15_0))) (.seq (.ops [⟨some 23, none, .mv (.t 3)⟩,
  ⟨some 24, none, .call (.k (.fn (.func 22) [] [])) [.k (.nils), .t 23]⟩,
  ⟨some 6, none, .mv (.t 24)⟩]) (.seq (.seq (.ops [⟨some 25, none, .mv (.t 0)⟩,
  ⟨some 26, none, .lenl (.t 25)⟩,
  ⟨some 27, none, .mv (.k (.int .i64 0))⟩]) (.block 2 (.loop l15_1))) (.seq (.ops [⟨some 35, none, .mv (.t 6)⟩,
  ⟨some 2, none, .mv (.t 35)⟩]) (.ret))))))⟩
theorem fk15 (G : GT) : FOk Tryz.prog tt G 15 c15 := ⟨_, Tryz.func15, by kernel_rfl⟩
def l16_0b : CC := .seq (.ops [⟨some 17, none, .bin .lss (.int .i64) false (.t 16) (.t 15)⟩]) (.seq (.cond (.t 17) (.skip) (.exit 0)) (.seq (.block 1 (.seq (.ops [⟨some 18, none, .mv (.t 16)⟩,
  ⟨some 8, none, .mv (.t 18)⟩]) (.ops [⟨some 19, none, .mv (.t 7)⟩,
  ⟨some 20, none, .mv (.t 2)⟩,
  ⟨some 21, none, .bin .sub (.int .i64) true (.t 20) (.k (.int .i64 1))⟩,
  ⟨some 22, none, .mv (.t 8)⟩,
  ⟨some 23, none, .bin .sub (.int .i64) false (.t 21) (.t 22)⟩,
  ⟨some 24, none, .mv (.t 1)⟩,
  ⟨some 25, none, .mv (.t 8)⟩,
  ⟨some 26, none, .bin .mul (.int .i64) true (.k (.int .i64 8)) (.t 25)⟩,
  ⟨some 27, none, .bin .shr (.int .u64) false (.t 24) (.t 26)⟩,
  ⟨some 28, none, .cvi .u8 (.t 27)⟩,
  ⟨some 29, none, .ixs 1 (.t 19) (.t 23)⟩,
  ⟨none, none, .st 1 (.t 29) (.t 28)⟩]))) (.ops [⟨some 30, none, .bin .add (.int .i64) true (.t 16) (.k (.int .i64 1))⟩,
  ⟨some 16, none, .mv (.t 30)⟩])))
def l16_0 : CC := l16_0b
theorem l16_0x (P : Program) (T : TT) (G : GT) (Q : EQ) (t : Env) (σ : St) : aC P T G l16_0 Q t σ = aC P T G l16_0b Q t σ := rfl
/-- comptoir/cursor.Put -/
def c16 : CF := ⟨35, [.t 6], .seq (.ops [⟨some 6, none, .mv (.k (.nils))⟩]) (.seq (.ops [⟨some 9, none, .mv (.t 2)⟩,
  ⟨some 10, none, .more .mx [.t 9, .k (.int .i64 0)]⟩,
  ⟨some 11, none, .more .mn [.t 10, .k (.int .i64 8)]⟩,
  ⟨some 2, none, .mv (.t 11)⟩]) (.seq (.ops [⟨some 12, none, .mv (.t 2)⟩,
  ⟨some 13, none, .more (.mksl 5 1 1 [.int .u8 0]) [(.t 12), (.t 12)]⟩,
  ⟨some 7, none, .mv (.t 13)⟩]) (.seq (.seq (.ops [⟨some 14, none, .mv (.t 7)⟩,
  ⟨some 15, none, .lenl (.t 14)⟩,
  ⟨some 16, none, .mv (.k (.int .i64 0))⟩]) (.block 0 (.loop l16_0))) (.seq (.ops [⟨some 31, none, .mv (.t 0)⟩,
  ⟨some 32, none, .mv (.t 7)⟩,
  ⟨some 33, none, .mks 24 1 [.nils] 2 [(0, .t 31), (1, .t 32)]⟩,
  ⟨some 34, none, .call (.k (.fn (.func 15) [] [])) [.t 33]⟩,
  ⟨some 6, none, .mv (.t 34)⟩]) (.ret)))))⟩
theorem fk16 (G : GT) : FOk Tryz.prog tt G 16 c16 := ⟨_, Tryz.func16, by kernel_rfl⟩
/-- (*strings.Builder).WriteByte -/
def c18 : CF := ⟨17, [.t 4], .seq (.ops [⟨some 4, none, .mv (.k (.nili))⟩]) (.seq (.ops [⟨some 5, none, .mv (.t 0)⟩,
  ⟨some 6, none, .call (.k (.fn (.func 17) [] [])) [.t 5]⟩]) (.seq (.ops [⟨some 7, none, .mv (.t 0)⟩,
  ⟨some 8, none, .mv (.t 0)⟩,
  ⟨some 9, none, .nilc (.t 8)⟩,
  ⟨some 10, none, .fa 1 (.t 9)⟩,
  ⟨some 11, none, .ld none (.t 10)⟩,
  ⟨some 12, none, .mv (.t 1)⟩,
  ⟨some 13, none, .mks 5 1 [.int .u8 0] 1 [(0, .t 12)]⟩,
  ⟨some 14, none, .app 5 1 1 (.t 11) (.t 13)⟩,
  ⟨some 15, none, .nilc (.t 7)⟩,
  ⟨some 16, none, .fa 1 (.t 15)⟩,
  ⟨none, none, .st 1 (.t 16) (.t 14)⟩]) (.seq (.ops [⟨some 4, none, .mv (.k (.nili))⟩]) (.ret))))⟩
theorem fk18 (G : GT) : FOk Tryz.prog tt G 18 c18 := ⟨_, Tryz.func18, by kernel_rfl⟩
def l19_0b : CC := .seq (.seq (.ops [⟨some 15, none, .mv (.t 8)⟩,
  ⟨some 16, none, .bin .geq (.int .i64) true (.t 15) (.k (.int .i64 0))⟩]) (.cond (.t 16) (.skip) (.exit 0))) (.seq (.block 1 (.ops [⟨some 19, none, .mv (.t 7)⟩,
  ⟨some 20, none, .mv (.t 1)⟩,
  ⟨some 21, none, .mv (.t 8)⟩,
  ⟨some 22, none, .bin .mul (.int .i64) true (.k (.int .i64 8)) (.t 21)⟩,
  ⟨some 23, none, .cvi .u64 (.t 22)⟩,
  ⟨some 24, none, .bin .shr (.int .u64) false (.t 20) (.t 23)⟩,
  ⟨some 25, none, .cvi .u8 (.t 24)⟩,
  ⟨some 26, none, .mks 5 1 [.int .u8 0] 1 [(0, .t 25)]⟩,
  ⟨some 27, none, .app 5 1 1 (.t 19) (.t 26)⟩,
  ⟨some 7, none, .mv (.t 27)⟩])) (.ops [⟨some 17, none, .mv (.t 8)⟩,
  ⟨some 18, none, .bin .sub (.int .i64) true (.t 17) (.k (.int .i64 1))⟩,
  ⟨some 8, none, .mv (.t 18)⟩]))
def l19_0 : CC := l19_0b
theorem l19_0x (P : Program) (T : TT) (G : GT) (Q : EQ) (t : Env) (σ : St) : aC P T G l19_0 Q t σ = aC P T G l19_0b Q t σ := rfl
/-- comptoir/comptoirref01.Put -/
def c19 : CF := ⟨29, [.t 6], .seq (.ops [⟨some 6, none, .mv (.k (.nils))⟩]) (.seq (.ops [⟨some 9, none, .mv (.t 0)⟩,
  ⟨some 10, none, .app 5 1 1 (.k (.nils)) (.t 9)⟩,
  ⟨some 7, none, .mv (.t 10)⟩]) (.seq (.seq (.ops [⟨some 11, none, .mv (.t 2)⟩,
  ⟨some 12, none, .more .mn [.t 11, .k (.int .i64 8)]⟩,
  ⟨some 13, none, .more .mx [.k (.int .i64 0), .t 12]⟩,
  ⟨some 14, none, .bin .sub (.int .i64) true (.t 13) (.k (.int .i64 1))⟩,
  ⟨some 8, none, .mv (.t 14)⟩]) (.block 0 (.loop l19_0))) (.seq (.ops [⟨some 28, none, .mv (.t 7)⟩,
  ⟨some 6, none, .mv (.t 28)⟩]) (.ret))))⟩
theorem fk19 (G : GT) : FOk Tryz.prog tt G 19 c19 := ⟨_, Tryz.func19, by kernel_rfl⟩
end Go.Ab.Ss
