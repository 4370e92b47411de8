/- The table of this seat's types for the abstract machine, and that it is the program's. Printed by a program of this work (gen_tt.py). -/
import Derived.Test.YtpejbkckppnamaaGreatDoorProg
import Derived.Test.YtpejbkckppnamaaGreatDoorAbB
import Derived.KernelRfl
set_option linter.all false
set_option linter.unusedVariables false
set_option linter.unusedSimpArgs false
namespace Go.Ab.Sz
open Go Go.Ab Go.Proofs
set_option maxRecDepth 20000
def g0 : GT := fun _ => none
def ti1 : TI := ⟨1, 8, .func, [.niln]⟩
theorem ok1 : TIok Tryz.prog 1 ti1 := ⟨⟨Tryz.t1, _, by kernel_rfl, rfl, rfl, rfl, rfl⟩, rfl, rfl, ⟨_, Tryz.underlying1, ⟨_, _, _, rfl⟩⟩⟩
def ti2 : TI := ⟨1, 8, .int .i64, [.int .i64 0]⟩
theorem ok2 : TIok Tryz.prog 2 ti2 := ⟨⟨Tryz.t2, _, by kernel_rfl, rfl, rfl, rfl, rfl⟩, rfl, rfl, ⟨_, Tryz.underlying2, rfl⟩⟩
def ti3 : TI := ⟨1, 8, .int .i64, [.int .i64 0]⟩
theorem ok3 : TIok Tryz.prog 3 ti3 := ⟨⟨Tryz.t3, _, by kernel_rfl, rfl, rfl, rfl, rfl⟩, rfl, rfl, ⟨_, Tryz.underlying3, rfl⟩⟩
def ti4 : TI := ⟨1, 1, .bool, [.bool false]⟩
theorem ok4 : TIok Tryz.prog 4 ti4 := ⟨⟨Tryz.t4, _, by kernel_rfl, rfl, rfl, rfl, rfl⟩, rfl, rfl, ⟨_, Tryz.underlying4, rfl⟩⟩
def ti5 : TI := ⟨1, 1, .int .u8, [.int .u8 0]⟩
theorem ok5 : TIok Tryz.prog 5 ti5 := ⟨⟨Tryz.t5, _, by kernel_rfl, rfl, rfl, rfl, rfl⟩, rfl, rfl, ⟨_, Tryz.underlying5, rfl⟩⟩
def ti6 : TI := ⟨1, 1, .int .u8, [.int .u8 0]⟩
theorem ok6 : TIok Tryz.prog 6 ti6 := ⟨⟨Tryz.t6, _, by kernel_rfl, rfl, rfl, rfl, rfl⟩, rfl, rfl, ⟨_, Tryz.underlying6, rfl⟩⟩
def ti7 : TI := ⟨4, 24, .struct [(0, 2), (1, 3), (2, 4), (3, 6)], [.int .i64 0, .int .i64 0, .bool false, .int .u8 0]⟩
theorem ok7 : TIok Tryz.prog 7 ti7 := ⟨⟨Tryz.t7, _, by kernel_rfl, rfl, rfl, rfl, rfl⟩, rfl, rfl, ⟨_, Tryz.underlying7, ⟨_, rfl, rfl⟩⟩⟩
def ti8 : TI := ⟨4, 24, .struct [(0, 2), (1, 3), (2, 4), (3, 6)], [.int .i64 0, .int .i64 0, .bool false, .int .u8 0]⟩
theorem ok8 : TIok Tryz.prog 8 ti8 := ⟨⟨Tryz.t8, _, by kernel_rfl, rfl, rfl, rfl, rfl⟩, rfl, rfl, ⟨_, Tryz.underlying8, ⟨_, rfl, rfl⟩⟩⟩
def ti9 : TI := ⟨1, 16, .str, [.str []]⟩
theorem ok9 : TIok Tryz.prog 9 ti9 := ⟨⟨Tryz.t9, _, by kernel_rfl, rfl, rfl, rfl, rfl⟩, rfl, rfl, ⟨_, Tryz.underlying9, rfl⟩⟩
def ti10 : TI := ⟨1, 16, .str, [.str []]⟩
theorem ok10 : TIok Tryz.prog 10 ti10 := ⟨⟨Tryz.t10, _, by kernel_rfl, rfl, rfl, rfl, rfl⟩, rfl, rfl, ⟨_, Tryz.underlying10, rfl⟩⟩
def ti11 : TI := ⟨1, 16, .str, [.str []]⟩
theorem ok11 : TIok Tryz.prog 11 ti11 := ⟨⟨Tryz.t11, _, by kernel_rfl, rfl, rfl, rfl, rfl⟩, rfl, rfl, ⟨_, Tryz.underlying11, rfl⟩⟩
def ti12 : TI := ⟨1, 8, .int .u64, [.int .u64 0]⟩
theorem ok12 : TIok Tryz.prog 12 ti12 := ⟨⟨Tryz.t12, _, by kernel_rfl, rfl, rfl, rfl, rfl⟩, rfl, rfl, ⟨_, Tryz.underlying12, rfl⟩⟩
def ti13 : TI := ⟨2, 24, .struct [(0, 9), (1, 12)], [.str [], .int .u64 0]⟩
theorem ok13 : TIok Tryz.prog 13 ti13 := ⟨⟨Tryz.t13, _, by kernel_rfl, rfl, rfl, rfl, rfl⟩, rfl, rfl, ⟨_, Tryz.underlying13, ⟨_, rfl, rfl⟩⟩⟩
def ti14 : TI := ⟨2, 24, .struct [(0, 9), (1, 12)], [.str [], .int .u64 0]⟩
theorem ok14 : TIok Tryz.prog 14 ti14 := ⟨⟨Tryz.t14, _, by kernel_rfl, rfl, rfl, rfl, rfl⟩, rfl, rfl, ⟨_, Tryz.underlying14, ⟨_, rfl, rfl⟩⟩⟩
def ti15 : TI := ⟨1, 8, .ptr 241, [.nilp]⟩
theorem ok15 : TIok Tryz.prog 15 ti15 := ⟨⟨Tryz.t15, _, by kernel_rfl, rfl, rfl, rfl, rfl⟩, rfl, rfl, ⟨_, Tryz.underlying15, rfl⟩⟩
def ti16 : TI := ⟨1, 8, .ptr 244, [.nilp]⟩
theorem ok16 : TIok Tryz.prog 16 ti16 := ⟨⟨Tryz.t16, _, by kernel_rfl, rfl, rfl, rfl, rfl⟩, rfl, rfl, ⟨_, Tryz.underlying16, rfl⟩⟩
def ti17 : TI := ⟨1, 8, .ptr 251, [.nilp]⟩
theorem ok17 : TIok Tryz.prog 17 ti17 := ⟨⟨Tryz.t17, _, by kernel_rfl, rfl, rfl, rfl, rfl⟩, rfl, rfl, ⟨_, Tryz.underlying17, rfl⟩⟩
def ti18 : TI := ⟨1, 8, .struct [(0, 17)], [.nilp]⟩
theorem ok18 : TIok Tryz.prog 18 ti18 := ⟨⟨Tryz.t18, _, by kernel_rfl, rfl, rfl, rfl, rfl⟩, rfl, rfl, ⟨_, Tryz.underlying18, ⟨_, rfl, rfl⟩⟩⟩
def ti19 : TI := ⟨1, 8, .struct [(0, 17)], [.nilp]⟩
theorem ok19 : TIok Tryz.prog 19 ti19 := ⟨⟨Tryz.t19, _, by kernel_rfl, rfl, rfl, rfl, rfl⟩, rfl, rfl, ⟨_, Tryz.underlying19, ⟨_, rfl, rfl⟩⟩⟩
def ti20 : TI := ⟨1, 16, .iface, [.nili]⟩
theorem ok20 : TIok Tryz.prog 20 ti20 := ⟨⟨Tryz.t20, _, by kernel_rfl, rfl, rfl, rfl, rfl⟩, rfl, rfl, ⟨_, Tryz.underlying20, ⟨_, rfl⟩⟩⟩
def ti21 : TI := ⟨1, 4, .int .i32, [.int .i32 0]⟩
theorem ok21 : TIok Tryz.prog 21 ti21 := ⟨⟨Tryz.t21, _, by kernel_rfl, rfl, rfl, rfl, rfl⟩, rfl, rfl, ⟨_, Tryz.underlying21, rfl⟩⟩
def ti22 : TI := ⟨1, 8, .func, [.niln]⟩
theorem ok22 : TIok Tryz.prog 22 ti22 := ⟨⟨Tryz.t22, _, by kernel_rfl, rfl, rfl, rfl, rfl⟩, rfl, rfl, ⟨_, Tryz.underlying22, ⟨_, _, _, rfl⟩⟩⟩
def ti23 : TI := ⟨1, 24, .slice 30, [.nils]⟩
theorem ok23 : TIok Tryz.prog 23 ti23 := ⟨⟨Tryz.t23, _, by kernel_rfl, rfl, rfl, rfl, rfl⟩, rfl, rfl, ⟨_, Tryz.underlying23, rfl⟩⟩
def ti24 : TI := ⟨1, 8, .int .i64, [.int .i64 0]⟩
theorem ok24 : TIok Tryz.prog 24 ti24 := ⟨⟨Tryz.t24, _, by kernel_rfl, rfl, rfl, rfl, rfl⟩, rfl, rfl, ⟨_, Tryz.underlying24, rfl⟩⟩
def ti26 : TI := ⟨1, 8, .func, [.niln]⟩
theorem ok26 : TIok Tryz.prog 26 ti26 := ⟨⟨Tryz.t26, _, by kernel_rfl, rfl, rfl, rfl, rfl⟩, rfl, rfl, ⟨_, Tryz.underlying26, ⟨_, _, _, rfl⟩⟩⟩
def ti27 : TI := ⟨1, 8, .func, [.niln]⟩
theorem ok27 : TIok Tryz.prog 27 ti27 := ⟨⟨Tryz.t27, _, by kernel_rfl, rfl, rfl, rfl, rfl⟩, rfl, rfl, ⟨_, Tryz.underlying27, ⟨_, _, _, rfl⟩⟩⟩
def ti28 : TI := ⟨1, 24, .slice 64, [.nils]⟩
theorem ok28 : TIok Tryz.prog 28 ti28 := ⟨⟨Tryz.t28, _, by kernel_rfl, rfl, rfl, rfl, rfl⟩, rfl, rfl, ⟨_, Tryz.underlying28, rfl⟩⟩
def ti29 : TI := ⟨5, 72, .struct [(0, 3), (1, 9), (2, 9), (3, 28), (4, 4)], [.int .i64 0, .str [], .str [], .nils, .bool false]⟩
theorem ok29 : TIok Tryz.prog 29 ti29 := ⟨⟨Tryz.t29, _, by kernel_rfl, rfl, rfl, rfl, rfl⟩, rfl, rfl, ⟨_, Tryz.underlying29, ⟨_, rfl, rfl⟩⟩⟩
def ti30 : TI := ⟨5, 72, .struct [(0, 3), (1, 9), (2, 9), (3, 28), (4, 4)], [.int .i64 0, .str [], .str [], .nils, .bool false]⟩
theorem ok30 : TIok Tryz.prog 30 ti30 := ⟨⟨Tryz.t30, _, by kernel_rfl, rfl, rfl, rfl, rfl⟩, rfl, rfl, ⟨_, Tryz.underlying30, ⟨_, rfl, rfl⟩⟩⟩
def ti31 : TI := ⟨1, 8, .func, [.niln]⟩
theorem ok31 : TIok Tryz.prog 31 ti31 := ⟨⟨Tryz.t31, _, by kernel_rfl, rfl, rfl, rfl, rfl⟩, rfl, rfl, ⟨_, Tryz.underlying31, ⟨_, _, _, rfl⟩⟩⟩
def ti32 : TI := ⟨1, 8, .func, [.niln]⟩
theorem ok32 : TIok Tryz.prog 32 ti32 := ⟨⟨Tryz.t32, _, by kernel_rfl, rfl, rfl, rfl, rfl⟩, rfl, rfl, ⟨_, Tryz.underlying32, ⟨_, _, _, rfl⟩⟩⟩
def ti33 : TI := ⟨1, 8, .func, [.niln]⟩
theorem ok33 : TIok Tryz.prog 33 ti33 := ⟨⟨Tryz.t33, _, by kernel_rfl, rfl, rfl, rfl, rfl⟩, rfl, rfl, ⟨_, Tryz.underlying33, ⟨_, _, _, rfl⟩⟩⟩
def ti34 : TI := ⟨1, 24, .slice 40, [.nils]⟩
theorem ok34 : TIok Tryz.prog 34 ti34 := ⟨⟨Tryz.t34, _, by kernel_rfl, rfl, rfl, rfl, rfl⟩, rfl, rfl, ⟨_, Tryz.underlying34, rfl⟩⟩
def ti36 : TI := ⟨1, 8, .func, [.niln]⟩
theorem ok36 : TIok Tryz.prog 36 ti36 := ⟨⟨Tryz.t36, _, by kernel_rfl, rfl, rfl, rfl, rfl⟩, rfl, rfl, ⟨_, Tryz.underlying36, ⟨_, _, _, rfl⟩⟩⟩
def ti37 : TI := ⟨1, 8, .func, [.niln]⟩
theorem ok37 : TIok Tryz.prog 37 ti37 := ⟨⟨Tryz.t37, _, by kernel_rfl, rfl, rfl, rfl, rfl⟩, rfl, rfl, ⟨_, Tryz.underlying37, ⟨_, _, _, rfl⟩⟩⟩
def ti38 : TI := ⟨1, 8, .func, [.niln]⟩
theorem ok38 : TIok Tryz.prog 38 ti38 := ⟨⟨Tryz.t38, _, by kernel_rfl, rfl, rfl, rfl, rfl⟩, rfl, rfl, ⟨_, Tryz.underlying38, ⟨_, _, _, rfl⟩⟩⟩
def ti39 : TI := ⟨4, 64, .struct [(0, 3), (1, 9), (2, 9), (3, 28)], [.int .i64 0, .str [], .str [], .nils]⟩
theorem ok39 : TIok Tryz.prog 39 ti39 := ⟨⟨Tryz.t39, _, by kernel_rfl, rfl, rfl, rfl, rfl⟩, rfl, rfl, ⟨_, Tryz.underlying39, ⟨_, rfl, rfl⟩⟩⟩
def ti40 : TI := ⟨4, 64, .struct [(0, 3), (1, 9), (2, 9), (3, 28)], [.int .i64 0, .str [], .str [], .nils]⟩
theorem ok40 : TIok Tryz.prog 40 ti40 := ⟨⟨Tryz.t40, _, by kernel_rfl, rfl, rfl, rfl, rfl⟩, rfl, rfl, ⟨_, Tryz.underlying40, ⟨_, rfl, rfl⟩⟩⟩
def ti41 : TI := ⟨1, 8, .func, [.niln]⟩
theorem ok41 : TIok Tryz.prog 41 ti41 := ⟨⟨Tryz.t41, _, by kernel_rfl, rfl, rfl, rfl, rfl⟩, rfl, rfl, ⟨_, Tryz.underlying41, ⟨_, _, _, rfl⟩⟩⟩
def ti42 : TI := ⟨1, 8, .func, [.niln]⟩
theorem ok42 : TIok Tryz.prog 42 ti42 := ⟨⟨Tryz.t42, _, by kernel_rfl, rfl, rfl, rfl, rfl⟩, rfl, rfl, ⟨_, Tryz.underlying42, ⟨_, _, _, rfl⟩⟩⟩
def ti43 : TI := ⟨1, 24, .slice 3, [.nils]⟩
theorem ok43 : TIok Tryz.prog 43 ti43 := ⟨⟨Tryz.t43, _, by kernel_rfl, rfl, rfl, rfl, rfl⟩, rfl, rfl, ⟨_, Tryz.underlying43, rfl⟩⟩
def ti44 : TI := ⟨1, 8, .func, [.niln]⟩
theorem ok44 : TIok Tryz.prog 44 ti44 := ⟨⟨Tryz.t44, _, by kernel_rfl, rfl, rfl, rfl, rfl⟩, rfl, rfl, ⟨_, Tryz.underlying44, ⟨_, _, _, rfl⟩⟩⟩
def ti45 : TI := ⟨1, 8, .func, [.niln]⟩
theorem ok45 : TIok Tryz.prog 45 ti45 := ⟨⟨Tryz.t45, _, by kernel_rfl, rfl, rfl, rfl, rfl⟩, rfl, rfl, ⟨_, Tryz.underlying45, ⟨_, _, _, rfl⟩⟩⟩
def ti46 : TI := ⟨1, 8, .int .u64, [.int .u64 0]⟩
theorem ok46 : TIok Tryz.prog 46 ti46 := ⟨⟨Tryz.t46, _, by kernel_rfl, rfl, rfl, rfl, rfl⟩, rfl, rfl, ⟨_, Tryz.underlying46, rfl⟩⟩
def ti47 : TI := ⟨1, 8, .func, [.niln]⟩
theorem ok47 : TIok Tryz.prog 47 ti47 := ⟨⟨Tryz.t47, _, by kernel_rfl, rfl, rfl, rfl, rfl⟩, rfl, rfl, ⟨_, Tryz.underlying47, ⟨_, _, _, rfl⟩⟩⟩
def ti48 : TI := ⟨1, 24, .slice 9, [.nils]⟩
theorem ok48 : TIok Tryz.prog 48 ti48 := ⟨⟨Tryz.t48, _, by kernel_rfl, rfl, rfl, rfl, rfl⟩, rfl, rfl, ⟨_, Tryz.underlying48, rfl⟩⟩
def ti49 : TI := ⟨1, 8, .func, [.niln]⟩
theorem ok49 : TIok Tryz.prog 49 ti49 := ⟨⟨Tryz.t49, _, by kernel_rfl, rfl, rfl, rfl, rfl⟩, rfl, rfl, ⟨_, Tryz.underlying49, ⟨_, _, _, rfl⟩⟩⟩
def ti51 : TI := ⟨1, 8, .func, [.niln]⟩
theorem ok51 : TIok Tryz.prog 51 ti51 := ⟨⟨Tryz.t51, _, by kernel_rfl, rfl, rfl, rfl, rfl⟩, rfl, rfl, ⟨_, Tryz.underlying51, ⟨_, _, _, rfl⟩⟩⟩
def ti52 : TI := ⟨1, 8, .func, [.niln]⟩
theorem ok52 : TIok Tryz.prog 52 ti52 := ⟨⟨Tryz.t52, _, by kernel_rfl, rfl, rfl, rfl, rfl⟩, rfl, rfl, ⟨_, Tryz.underlying52, ⟨_, _, _, rfl⟩⟩⟩
def ti53 : TI := ⟨1, 8, .ptr 55, [.nilp]⟩
theorem ok53 : TIok Tryz.prog 53 ti53 := ⟨⟨Tryz.t53, _, by kernel_rfl, rfl, rfl, rfl, rfl⟩, rfl, rfl, ⟨_, Tryz.underlying53, rfl⟩⟩
def ti54 : TI := ⟨1, 16, .struct [(0, 9)], [.str []]⟩
theorem ok54 : TIok Tryz.prog 54 ti54 := ⟨⟨Tryz.t54, _, by kernel_rfl, rfl, rfl, rfl, rfl⟩, rfl, rfl, ⟨_, Tryz.underlying54, ⟨_, rfl, rfl⟩⟩⟩
def ti55 : TI := ⟨1, 16, .struct [(0, 9)], [.str []]⟩
theorem ok55 : TIok Tryz.prog 55 ti55 := ⟨⟨Tryz.t55, _, by kernel_rfl, rfl, rfl, rfl, rfl⟩, rfl, rfl, ⟨_, Tryz.underlying55, ⟨_, rfl, rfl⟩⟩⟩
def ti57 : TI := ⟨1, 8, .func, [.niln]⟩
theorem ok57 : TIok Tryz.prog 57 ti57 := ⟨⟨Tryz.t57, _, by kernel_rfl, rfl, rfl, rfl, rfl⟩, rfl, rfl, ⟨_, Tryz.underlying57, ⟨_, _, _, rfl⟩⟩⟩
def ti58 : TI := ⟨1, 8, .func, [.niln]⟩
theorem ok58 : TIok Tryz.prog 58 ti58 := ⟨⟨Tryz.t58, _, by kernel_rfl, rfl, rfl, rfl, rfl⟩, rfl, rfl, ⟨_, Tryz.underlying58, ⟨_, _, _, rfl⟩⟩⟩
def ti59 : TI := ⟨1, 8, .ptr 61, [.nilp]⟩
theorem ok59 : TIok Tryz.prog 59 ti59 := ⟨⟨Tryz.t59, _, by kernel_rfl, rfl, rfl, rfl, rfl⟩, rfl, rfl, ⟨_, Tryz.underlying59, rfl⟩⟩
def ti60 : TI := ⟨2, 24, .struct [(0, 9), (1, 3)], [.str [], .int .i64 0]⟩
theorem ok60 : TIok Tryz.prog 60 ti60 := ⟨⟨Tryz.t60, _, by kernel_rfl, rfl, rfl, rfl, rfl⟩, rfl, rfl, ⟨_, Tryz.underlying60, ⟨_, rfl, rfl⟩⟩⟩
def ti61 : TI := ⟨2, 24, .struct [(0, 9), (1, 3)], [.str [], .int .i64 0]⟩
theorem ok61 : TIok Tryz.prog 61 ti61 := ⟨⟨Tryz.t61, _, by kernel_rfl, rfl, rfl, rfl, rfl⟩, rfl, rfl, ⟨_, Tryz.underlying61, ⟨_, rfl, rfl⟩⟩⟩
def ti62 : TI := ⟨1, 8, .func, [.niln]⟩
theorem ok62 : TIok Tryz.prog 62 ti62 := ⟨⟨Tryz.t62, _, by kernel_rfl, rfl, rfl, rfl, rfl⟩, rfl, rfl, ⟨_, Tryz.underlying62, ⟨_, _, _, rfl⟩⟩⟩
def ti63 : TI := ⟨2, 32, .struct [(0, 9), (1, 9)], [.str [], .str []]⟩
theorem ok63 : TIok Tryz.prog 63 ti63 := ⟨⟨Tryz.t63, _, by kernel_rfl, rfl, rfl, rfl, rfl⟩, rfl, rfl, ⟨_, Tryz.underlying63, ⟨_, rfl, rfl⟩⟩⟩
def ti64 : TI := ⟨2, 32, .struct [(0, 9), (1, 9)], [.str [], .str []]⟩
theorem ok64 : TIok Tryz.prog 64 ti64 := ⟨⟨Tryz.t64, _, by kernel_rfl, rfl, rfl, rfl, rfl⟩, rfl, rfl, ⟨_, Tryz.underlying64, ⟨_, rfl, rfl⟩⟩⟩
def ti65 : TI := ⟨1, 8, .ptr 68, [.nilp]⟩
theorem ok65 : TIok Tryz.prog 65 ti65 := ⟨⟨Tryz.t65, _, by kernel_rfl, rfl, rfl, rfl, rfl⟩, rfl, rfl, ⟨_, Tryz.underlying65, rfl⟩⟩
def ti66 : TI := ⟨1, 24, .slice 4, [.nils]⟩
theorem ok66 : TIok Tryz.prog 66 ti66 := ⟨⟨Tryz.t66, _, by kernel_rfl, rfl, rfl, rfl, rfl⟩, rfl, rfl, ⟨_, Tryz.underlying66, rfl⟩⟩
def ti67 : TI := ⟨3, 72, .struct [(0, 34), (1, 43), (2, 66)], [.nils, .nils, .nils]⟩
theorem ok67 : TIok Tryz.prog 67 ti67 := ⟨⟨Tryz.t67, _, by kernel_rfl, rfl, rfl, rfl, rfl⟩, rfl, rfl, ⟨_, Tryz.underlying67, ⟨_, rfl, rfl⟩⟩⟩
def ti68 : TI := ⟨3, 72, .struct [(0, 34), (1, 43), (2, 66)], [.nils, .nils, .nils]⟩
theorem ok68 : TIok Tryz.prog 68 ti68 := ⟨⟨Tryz.t68, _, by kernel_rfl, rfl, rfl, rfl, rfl⟩, rfl, rfl, ⟨_, Tryz.underlying68, ⟨_, rfl, rfl⟩⟩⟩
def ti69 : TI := ⟨1, 8, .func, [.niln]⟩
theorem ok69 : TIok Tryz.prog 69 ti69 := ⟨⟨Tryz.t69, _, by kernel_rfl, rfl, rfl, rfl, rfl⟩, rfl, rfl, ⟨_, Tryz.underlying69, ⟨_, _, _, rfl⟩⟩⟩
def ti70 : TI := ⟨1, 8, .func, [.niln]⟩
theorem ok70 : TIok Tryz.prog 70 ti70 := ⟨⟨Tryz.t70, _, by kernel_rfl, rfl, rfl, rfl, rfl⟩, rfl, rfl, ⟨_, Tryz.underlying70, ⟨_, _, _, rfl⟩⟩⟩
def ti71 : TI := ⟨1, 8, .func, [.niln]⟩
theorem ok71 : TIok Tryz.prog 71 ti71 := ⟨⟨Tryz.t71, _, by kernel_rfl, rfl, rfl, rfl, rfl⟩, rfl, rfl, ⟨_, Tryz.underlying71, ⟨_, _, _, rfl⟩⟩⟩
def ti72 : TI := ⟨1, 8, .ptr 74, [.nilp]⟩
theorem ok72 : TIok Tryz.prog 72 ti72 := ⟨⟨Tryz.t72, _, by kernel_rfl, rfl, rfl, rfl, rfl⟩, rfl, rfl, ⟨_, Tryz.underlying72, rfl⟩⟩
def ti73 : TI := ⟨4, 96, .struct [(0, 34), (1, 43), (2, 48), (3, 66)], [.nils, .nils, .nils, .nils]⟩
theorem ok73 : TIok Tryz.prog 73 ti73 := ⟨⟨Tryz.t73, _, by kernel_rfl, rfl, rfl, rfl, rfl⟩, rfl, rfl, ⟨_, Tryz.underlying73, ⟨_, rfl, rfl⟩⟩⟩
def ti74 : TI := ⟨4, 96, .struct [(0, 34), (1, 43), (2, 48), (3, 66)], [.nils, .nils, .nils, .nils]⟩
theorem ok74 : TIok Tryz.prog 74 ti74 := ⟨⟨Tryz.t74, _, by kernel_rfl, rfl, rfl, rfl, rfl⟩, rfl, rfl, ⟨_, Tryz.underlying74, ⟨_, rfl, rfl⟩⟩⟩
def ti75 : TI := ⟨1, 8, .func, [.niln]⟩
theorem ok75 : TIok Tryz.prog 75 ti75 := ⟨⟨Tryz.t75, _, by kernel_rfl, rfl, rfl, rfl, rfl⟩, rfl, rfl, ⟨_, Tryz.underlying75, ⟨_, _, _, rfl⟩⟩⟩
def ti76 : TI := ⟨1, 8, .func, [.niln]⟩
theorem ok76 : TIok Tryz.prog 76 ti76 := ⟨⟨Tryz.t76, _, by kernel_rfl, rfl, rfl, rfl, rfl⟩, rfl, rfl, ⟨_, Tryz.underlying76, ⟨_, _, _, rfl⟩⟩⟩
def ti77 : TI := ⟨1, 8, .func, [.niln]⟩
theorem ok77 : TIok Tryz.prog 77 ti77 := ⟨⟨Tryz.t77, _, by kernel_rfl, rfl, rfl, rfl, rfl⟩, rfl, rfl, ⟨_, Tryz.underlying77, ⟨_, _, _, rfl⟩⟩⟩
def ti78 : TI := ⟨1, 8, .ptr 84, [.nilp]⟩
theorem ok78 : TIok Tryz.prog 78 ti78 := ⟨⟨Tryz.t78, _, by kernel_rfl, rfl, rfl, rfl, rfl⟩, rfl, rfl, ⟨_, Tryz.underlying78, rfl⟩⟩
def ti79 : TI := ⟨1, 8, .ptr 82, [.nilp]⟩
theorem ok79 : TIok Tryz.prog 79 ti79 := ⟨⟨Tryz.t79, _, by kernel_rfl, rfl, rfl, rfl, rfl⟩, rfl, rfl, ⟨_, Tryz.underlying79, rfl⟩⟩
def ti80 : TI := ⟨1, 24, .slice 5, [.nils]⟩
theorem ok80 : TIok Tryz.prog 80 ti80 := ⟨⟨Tryz.t80, _, by kernel_rfl, rfl, rfl, rfl, rfl⟩, rfl, rfl, ⟨_, Tryz.underlying80, rfl⟩⟩
def ti81 : TI := ⟨2, 32, .struct [(0, 79), (1, 80)], [.nilp, .nils]⟩
theorem ok81 : TIok Tryz.prog 81 ti81 := ⟨⟨Tryz.t81, _, by kernel_rfl, rfl, rfl, rfl, rfl⟩, rfl, rfl, ⟨_, Tryz.underlying81, ⟨_, rfl, rfl⟩⟩⟩
def ti82 : TI := ⟨2, 32, .struct [(0, 79), (1, 80)], [.nilp, .nils]⟩
theorem ok82 : TIok Tryz.prog 82 ti82 := ⟨⟨Tryz.t82, _, by kernel_rfl, rfl, rfl, rfl, rfl⟩, rfl, rfl, ⟨_, Tryz.underlying82, ⟨_, rfl, rfl⟩⟩⟩
def ti83 : TI := ⟨3, 56, .struct [(0, 34), (1, 82)], [.nils, .nilp, .nils]⟩
theorem ok83 : TIok Tryz.prog 83 ti83 := ⟨⟨Tryz.t83, _, by kernel_rfl, rfl, rfl, rfl, rfl⟩, rfl, rfl, ⟨_, Tryz.underlying83, ⟨_, rfl, rfl⟩⟩⟩
def ti84 : TI := ⟨3, 56, .struct [(0, 34), (1, 82)], [.nils, .nilp, .nils]⟩
theorem ok84 : TIok Tryz.prog 84 ti84 := ⟨⟨Tryz.t84, _, by kernel_rfl, rfl, rfl, rfl, rfl⟩, rfl, rfl, ⟨_, Tryz.underlying84, ⟨_, rfl, rfl⟩⟩⟩
def ti85 : TI := ⟨1, 8, .func, [.niln]⟩
theorem ok85 : TIok Tryz.prog 85 ti85 := ⟨⟨Tryz.t85, _, by kernel_rfl, rfl, rfl, rfl, rfl⟩, rfl, rfl, ⟨_, Tryz.underlying85, ⟨_, _, _, rfl⟩⟩⟩
def ti86 : TI := ⟨1, 8, .func, [.niln]⟩
theorem ok86 : TIok Tryz.prog 86 ti86 := ⟨⟨Tryz.t86, _, by kernel_rfl, rfl, rfl, rfl, rfl⟩, rfl, rfl, ⟨_, Tryz.underlying86, ⟨_, _, _, rfl⟩⟩⟩
def ti87 : TI := ⟨1, 8, .func, [.niln]⟩
theorem ok87 : TIok Tryz.prog 87 ti87 := ⟨⟨Tryz.t87, _, by kernel_rfl, rfl, rfl, rfl, rfl⟩, rfl, rfl, ⟨_, Tryz.underlying87, ⟨_, _, _, rfl⟩⟩⟩
def ti88 : TI := ⟨1, 8, .func, [.niln]⟩
theorem ok88 : TIok Tryz.prog 88 ti88 := ⟨⟨Tryz.t88, _, by kernel_rfl, rfl, rfl, rfl, rfl⟩, rfl, rfl, ⟨_, Tryz.underlying88, ⟨_, _, _, rfl⟩⟩⟩
def ti90 : TI := ⟨1, 8, .func, [.niln]⟩
theorem ok90 : TIok Tryz.prog 90 ti90 := ⟨⟨Tryz.t90, _, by kernel_rfl, rfl, rfl, rfl, rfl⟩, rfl, rfl, ⟨_, Tryz.underlying90, ⟨_, _, _, rfl⟩⟩⟩
def ti91 : TI := ⟨1, 8, .func, [.niln]⟩
theorem ok91 : TIok Tryz.prog 91 ti91 := ⟨⟨Tryz.t91, _, by kernel_rfl, rfl, rfl, rfl, rfl⟩, rfl, rfl, ⟨_, Tryz.underlying91, ⟨_, _, _, rfl⟩⟩⟩
def ti92 : TI := ⟨1, 8, .func, [.niln]⟩
theorem ok92 : TIok Tryz.prog 92 ti92 := ⟨⟨Tryz.t92, _, by kernel_rfl, rfl, rfl, rfl, rfl⟩, rfl, rfl, ⟨_, Tryz.underlying92, ⟨_, _, _, rfl⟩⟩⟩
def ti93 : TI := ⟨1, 8, .func, [.niln]⟩
theorem ok93 : TIok Tryz.prog 93 ti93 := ⟨⟨Tryz.t93, _, by kernel_rfl, rfl, rfl, rfl, rfl⟩, rfl, rfl, ⟨_, Tryz.underlying93, ⟨_, _, _, rfl⟩⟩⟩
def ti94 : TI := ⟨1, 8, .func, [.niln]⟩
theorem ok94 : TIok Tryz.prog 94 ti94 := ⟨⟨Tryz.t94, _, by kernel_rfl, rfl, rfl, rfl, rfl⟩, rfl, rfl, ⟨_, Tryz.underlying94, ⟨_, _, _, rfl⟩⟩⟩
def ti95 : TI := ⟨1, 8, .func, [.niln]⟩
theorem ok95 : TIok Tryz.prog 95 ti95 := ⟨⟨Tryz.t95, _, by kernel_rfl, rfl, rfl, rfl, rfl⟩, rfl, rfl, ⟨_, Tryz.underlying95, ⟨_, _, _, rfl⟩⟩⟩
def ti97 : TI := ⟨1, 8, .func, [.niln]⟩
theorem ok97 : TIok Tryz.prog 97 ti97 := ⟨⟨Tryz.t97, _, by kernel_rfl, rfl, rfl, rfl, rfl⟩, rfl, rfl, ⟨_, Tryz.underlying97, ⟨_, _, _, rfl⟩⟩⟩
def ti98 : TI := ⟨1, 8, .func, [.niln]⟩
theorem ok98 : TIok Tryz.prog 98 ti98 := ⟨⟨Tryz.t98, _, by kernel_rfl, rfl, rfl, rfl, rfl⟩, rfl, rfl, ⟨_, Tryz.underlying98, ⟨_, _, _, rfl⟩⟩⟩
def ti99 : TI := ⟨1, 8, .func, [.niln]⟩
theorem ok99 : TIok Tryz.prog 99 ti99 := ⟨⟨Tryz.t99, _, by kernel_rfl, rfl, rfl, rfl, rfl⟩, rfl, rfl, ⟨_, Tryz.underlying99, ⟨_, _, _, rfl⟩⟩⟩
def ti100 : TI := ⟨1, 8, .func, [.niln]⟩
theorem ok100 : TIok Tryz.prog 100 ti100 := ⟨⟨Tryz.t100, _, by kernel_rfl, rfl, rfl, rfl, rfl⟩, rfl, rfl, ⟨_, Tryz.underlying100, ⟨_, _, _, rfl⟩⟩⟩
def ti101 : TI := ⟨1, 8, .func, [.niln]⟩
theorem ok101 : TIok Tryz.prog 101 ti101 := ⟨⟨Tryz.t101, _, by kernel_rfl, rfl, rfl, rfl, rfl⟩, rfl, rfl, ⟨_, Tryz.underlying101, ⟨_, _, _, rfl⟩⟩⟩
def ti102 : TI := ⟨1, 8, .ptr 5, [.nilp]⟩
theorem ok102 : TIok Tryz.prog 102 ti102 := ⟨⟨Tryz.t102, _, by kernel_rfl, rfl, rfl, rfl, rfl⟩, rfl, rfl, ⟨_, Tryz.underlying102, rfl⟩⟩
def ti103 : TI := ⟨1, 8, .func, [.niln]⟩
theorem ok103 : TIok Tryz.prog 103 ti103 := ⟨⟨Tryz.t103, _, by kernel_rfl, rfl, rfl, rfl, rfl⟩, rfl, rfl, ⟨_, Tryz.underlying103, ⟨_, _, _, rfl⟩⟩⟩
def ti104 : TI := ⟨256, 256, .arr 256 5, [.int .u8 0, .int .u8 0, .int .u8 0, .int .u8 0, .int .u8 0, .int .u8 0, .int .u8 0, .int .u8 0, .int .u8 0, .int .u8 0, .int .u8 0, .int .u8 0, .int .u8 0, .int .u8 0, .int .u8 0, .int .u8 0, .int .u8 0, .int .u8 0, .int .u8 0, .int .u8 0, .int .u8 0, .int .u8 0, .int .u8 0, .int .u8 0, .int .u8 0, .int .u8 0, .int .u8 0, .int .u8 0, .int .u8 0, .int .u8 0, .int .u8 0, .int .u8 0, .int .u8 0, .int .u8 0, .int .u8 0, .int .u8 0, .int .u8 0, .int .u8 0, .int .u8 0, .int .u8 0, .int .u8 0, .int .u8 0, .int .u8 0, .int .u8 0, .int .u8 0, .int .u8 0, .int .u8 0, .int .u8 0, .int .u8 0, .int .u8 0, .int .u8 0, .int .u8 0, .int .u8 0, .int .u8 0, .int .u8 0, .int .u8 0, .int .u8 0, .int .u8 0, .int .u8 0, .int .u8 0, .int .u8 0, .int .u8 0, .int .u8 0, .int .u8 0, .int .u8 0, .int .u8 0, .int .u8 0, .int .u8 0, .int .u8 0, .int .u8 0, .int .u8 0, .int .u8 0, .int .u8 0, .int .u8 0, .int .u8 0, .int .u8 0, .int .u8 0, .int .u8 0, .int .u8 0, .int .u8 0, .int .u8 0, .int .u8 0, .int .u8 0, .int .u8 0, .int .u8 0, .int .u8 0, .int .u8 0, .int .u8 0, .int .u8 0, .int .u8 0, .int .u8 0, .int .u8 0, .int .u8 0, .int .u8 0, .int .u8 0, .int .u8 0, .int .u8 0, .int .u8 0, .int .u8 0, .int .u8 0, .int .u8 0, .int .u8 0, .int .u8 0, .int .u8 0, .int .u8 0, .int .u8 0, .int .u8 0, .int .u8 0, .int .u8 0, .int .u8 0, .int .u8 0, .int .u8 0, .int .u8 0, .int .u8 0, .int .u8 0, .int .u8 0, .int .u8 0, .int .u8 0, .int .u8 0, .int .u8 0, .int .u8 0, .int .u8 0, .int .u8 0, .int .u8 0, .int .u8 0, .int .u8 0, .int .u8 0, .int .u8 0, .int .u8 0, .int .u8 0, .int .u8 0, .int .u8 0, .int .u8 0, .int .u8 0, .int .u8 0, .int .u8 0, .int .u8 0, .int .u8 0, .int .u8 0, .int .u8 0, .int .u8 0, .int .u8 0, .int .u8 0, .int .u8 0, .int .u8 0, .int .u8 0, .int .u8 0, .int .u8 0, .int .u8 0, .int .u8 0, .int .u8 0, .int .u8 0, .int .u8 0, .int .u8 0, .int .u8 0, .int .u8 0, .int .u8 0, .int .u8 0, .int .u8 0, .int .u8 0, .int .u8 0, .int .u8 0, .int .u8 0, .int .u8 0, .int .u8 0, .int .u8 0, .int .u8 0, .int .u8 0, .int .u8 0, .int .u8 0, .int .u8 0, .int .u8 0, .int .u8 0, .int .u8 0, .int .u8 0, .int .u8 0, .int .u8 0, .int .u8 0, .int .u8 0, .int .u8 0, .int .u8 0, .int .u8 0, .int .u8 0, .int .u8 0, .int .u8 0, .int .u8 0, .int .u8 0, .int .u8 0, .int .u8 0, .int .u8 0, .int .u8 0, .int .u8 0, .int .u8 0, .int .u8 0, .int .u8 0, .int .u8 0, .int .u8 0, .int .u8 0, .int .u8 0, .int .u8 0, .int .u8 0, .int .u8 0, .int .u8 0, .int .u8 0, .int .u8 0, .int .u8 0, .int .u8 0, .int .u8 0, .int .u8 0, .int .u8 0, .int .u8 0, .int .u8 0, .int .u8 0, .int .u8 0, .int .u8 0, .int .u8 0, .int .u8 0, .int .u8 0, .int .u8 0, .int .u8 0, .int .u8 0, .int .u8 0, .int .u8 0, .int .u8 0, .int .u8 0, .int .u8 0, .int .u8 0, .int .u8 0, .int .u8 0, .int .u8 0, .int .u8 0, .int .u8 0, .int .u8 0, .int .u8 0, .int .u8 0, .int .u8 0, .int .u8 0, .int .u8 0, .int .u8 0, .int .u8 0, .int .u8 0, .int .u8 0, .int .u8 0, .int .u8 0, .int .u8 0, .int .u8 0, .int .u8 0, .int .u8 0, .int .u8 0, .int .u8 0, .int .u8 0, .int .u8 0, .int .u8 0, .int .u8 0, .int .u8 0, .int .u8 0]⟩
theorem ok104 : TIok Tryz.prog 104 ti104 := ⟨⟨Tryz.t104, _, by kernel_rfl, rfl, rfl, rfl, rfl⟩, rfl, rfl, ⟨_, Tryz.underlying104, rfl⟩⟩
def ti105 : TI := ⟨2, 2, .struct [(0, 5), (1, 5)], [.int .u8 0, .int .u8 0]⟩
theorem ok105 : TIok Tryz.prog 105 ti105 := ⟨⟨Tryz.t105, _, by kernel_rfl, rfl, rfl, rfl, rfl⟩, rfl, rfl, ⟨_, Tryz.underlying105, ⟨_, rfl, rfl⟩⟩⟩
def ti106 : TI := ⟨2, 2, .struct [(0, 5), (1, 5)], [.int .u8 0, .int .u8 0]⟩
theorem ok106 : TIok Tryz.prog 106 ti106 := ⟨⟨Tryz.t106, _, by kernel_rfl, rfl, rfl, rfl, rfl⟩, rfl, rfl, ⟨_, Tryz.underlying106, ⟨_, rfl, rfl⟩⟩⟩
def ti107 : TI := ⟨32, 32, .arr 16 106, [.int .u8 0, .int .u8 0, .int .u8 0, .int .u8 0, .int .u8 0, .int .u8 0, .int .u8 0, .int .u8 0, .int .u8 0, .int .u8 0, .int .u8 0, .int .u8 0, .int .u8 0, .int .u8 0, .int .u8 0, .int .u8 0, .int .u8 0, .int .u8 0, .int .u8 0, .int .u8 0, .int .u8 0, .int .u8 0, .int .u8 0, .int .u8 0, .int .u8 0, .int .u8 0, .int .u8 0, .int .u8 0, .int .u8 0, .int .u8 0, .int .u8 0, .int .u8 0]⟩
theorem ok107 : TIok Tryz.prog 107 ti107 := ⟨⟨Tryz.t107, _, by kernel_rfl, rfl, rfl, rfl, rfl⟩, rfl, rfl, ⟨_, Tryz.underlying107, rfl⟩⟩
def ti108 : TI := ⟨1, 8, .func, [.niln]⟩
theorem ok108 : TIok Tryz.prog 108 ti108 := ⟨⟨Tryz.t108, _, by kernel_rfl, rfl, rfl, rfl, rfl⟩, rfl, rfl, ⟨_, Tryz.underlying108, ⟨_, _, _, rfl⟩⟩⟩
def ti110 : TI := ⟨1, 8, .func, [.niln]⟩
theorem ok110 : TIok Tryz.prog 110 ti110 := ⟨⟨Tryz.t110, _, by kernel_rfl, rfl, rfl, rfl, rfl⟩, rfl, rfl, ⟨_, Tryz.underlying110, ⟨_, _, _, rfl⟩⟩⟩
def ti111 : TI := ⟨1, 8, .func, [.niln]⟩
theorem ok111 : TIok Tryz.prog 111 ti111 := ⟨⟨Tryz.t111, _, by kernel_rfl, rfl, rfl, rfl, rfl⟩, rfl, rfl, ⟨_, Tryz.underlying111, ⟨_, _, _, rfl⟩⟩⟩
def ti112 : TI := ⟨1, 8, .func, [.niln]⟩
theorem ok112 : TIok Tryz.prog 112 ti112 := ⟨⟨Tryz.t112, _, by kernel_rfl, rfl, rfl, rfl, rfl⟩, rfl, rfl, ⟨_, Tryz.underlying112, ⟨_, _, _, rfl⟩⟩⟩
def ti113 : TI := ⟨1, 8, .func, [.niln]⟩
theorem ok113 : TIok Tryz.prog 113 ti113 := ⟨⟨Tryz.t113, _, by kernel_rfl, rfl, rfl, rfl, rfl⟩, rfl, rfl, ⟨_, Tryz.underlying113, ⟨_, _, _, rfl⟩⟩⟩
def ti115 : TI := ⟨1, 8, .func, [.niln]⟩
theorem ok115 : TIok Tryz.prog 115 ti115 := ⟨⟨Tryz.t115, _, by kernel_rfl, rfl, rfl, rfl, rfl⟩, rfl, rfl, ⟨_, Tryz.underlying115, ⟨_, _, _, rfl⟩⟩⟩
def ti117 : TI := ⟨1, 8, .func, [.niln]⟩
theorem ok117 : TIok Tryz.prog 117 ti117 := ⟨⟨Tryz.t117, _, by kernel_rfl, rfl, rfl, rfl, rfl⟩, rfl, rfl, ⟨_, Tryz.underlying117, ⟨_, _, _, rfl⟩⟩⟩
def ti118 : TI := ⟨1, 8, .func, [.niln]⟩
theorem ok118 : TIok Tryz.prog 118 ti118 := ⟨⟨Tryz.t118, _, by kernel_rfl, rfl, rfl, rfl, rfl⟩, rfl, rfl, ⟨_, Tryz.underlying118, ⟨_, _, _, rfl⟩⟩⟩
def ti119 : TI := ⟨1, 8, .func, [.niln]⟩
theorem ok119 : TIok Tryz.prog 119 ti119 := ⟨⟨Tryz.t119, _, by kernel_rfl, rfl, rfl, rfl, rfl⟩, rfl, rfl, ⟨_, Tryz.underlying119, ⟨_, _, _, rfl⟩⟩⟩
def ti120 : TI := ⟨1, 8, .func, [.niln]⟩
theorem ok120 : TIok Tryz.prog 120 ti120 := ⟨⟨Tryz.t120, _, by kernel_rfl, rfl, rfl, rfl, rfl⟩, rfl, rfl, ⟨_, Tryz.underlying120, ⟨_, _, _, rfl⟩⟩⟩
def ti121 : TI := ⟨1, 16, .iface, [.nili]⟩
theorem ok121 : TIok Tryz.prog 121 ti121 := ⟨⟨Tryz.t121, _, by kernel_rfl, rfl, rfl, rfl, rfl⟩, rfl, rfl, ⟨_, Tryz.underlying121, ⟨_, rfl⟩⟩⟩
def ti122 : TI := ⟨1, 16, .iface, [.nili]⟩
theorem ok122 : TIok Tryz.prog 122 ti122 := ⟨⟨Tryz.t122, _, by kernel_rfl, rfl, rfl, rfl, rfl⟩, rfl, rfl, ⟨_, Tryz.underlying122, ⟨_, rfl⟩⟩⟩
def ti124 : TI := ⟨1, 8, .func, [.niln]⟩
theorem ok124 : TIok Tryz.prog 124 ti124 := ⟨⟨Tryz.t124, _, by kernel_rfl, rfl, rfl, rfl, rfl⟩, rfl, rfl, ⟨_, Tryz.underlying124, ⟨_, _, _, rfl⟩⟩⟩
def ti125 : TI := ⟨1, 8, .ptr 158, [.nilp]⟩
theorem ok125 : TIok Tryz.prog 125 ti125 := ⟨⟨Tryz.t125, _, by kernel_rfl, rfl, rfl, rfl, rfl⟩, rfl, rfl, ⟨_, Tryz.underlying125, rfl⟩⟩
def ti126 : TI := ⟨1, 8, .func, [.niln]⟩
theorem ok126 : TIok Tryz.prog 126 ti126 := ⟨⟨Tryz.t126, _, by kernel_rfl, rfl, rfl, rfl, rfl⟩, rfl, rfl, ⟨_, Tryz.underlying126, ⟨_, _, _, rfl⟩⟩⟩
def ti127 : TI := ⟨1, 8, .int .u64, [.int .u64 0]⟩
theorem ok127 : TIok Tryz.prog 127 ti127 := ⟨⟨Tryz.t127, _, by kernel_rfl, rfl, rfl, rfl, rfl⟩, rfl, rfl, ⟨_, Tryz.underlying127, rfl⟩⟩
def ti128 : TI := ⟨1, 8, .func, [.niln]⟩
theorem ok128 : TIok Tryz.prog 128 ti128 := ⟨⟨Tryz.t128, _, by kernel_rfl, rfl, rfl, rfl, rfl⟩, rfl, rfl, ⟨_, Tryz.underlying128, ⟨_, _, _, rfl⟩⟩⟩
def ti129 : TI := ⟨1, 8, .func, [.niln]⟩
theorem ok129 : TIok Tryz.prog 129 ti129 := ⟨⟨Tryz.t129, _, by kernel_rfl, rfl, rfl, rfl, rfl⟩, rfl, rfl, ⟨_, Tryz.underlying129, ⟨_, _, _, rfl⟩⟩⟩
def ti131 : TI := ⟨1, 8, .func, [.niln]⟩
theorem ok131 : TIok Tryz.prog 131 ti131 := ⟨⟨Tryz.t131, _, by kernel_rfl, rfl, rfl, rfl, rfl⟩, rfl, rfl, ⟨_, Tryz.underlying131, ⟨_, _, _, rfl⟩⟩⟩
def ti132 : TI := ⟨1, 8, .func, [.niln]⟩
theorem ok132 : TIok Tryz.prog 132 ti132 := ⟨⟨Tryz.t132, _, by kernel_rfl, rfl, rfl, rfl, rfl⟩, rfl, rfl, ⟨_, Tryz.underlying132, ⟨_, _, _, rfl⟩⟩⟩
def ti133 : TI := ⟨1, 8, .func, [.niln]⟩
theorem ok133 : TIok Tryz.prog 133 ti133 := ⟨⟨Tryz.t133, _, by kernel_rfl, rfl, rfl, rfl, rfl⟩, rfl, rfl, ⟨_, Tryz.underlying133, ⟨_, _, _, rfl⟩⟩⟩
def ti134 : TI := ⟨1, 8, .func, [.niln]⟩
theorem ok134 : TIok Tryz.prog 134 ti134 := ⟨⟨Tryz.t134, _, by kernel_rfl, rfl, rfl, rfl, rfl⟩, rfl, rfl, ⟨_, Tryz.underlying134, ⟨_, _, _, rfl⟩⟩⟩
def ti135 : TI := ⟨1, 8, .func, [.niln]⟩
theorem ok135 : TIok Tryz.prog 135 ti135 := ⟨⟨Tryz.t135, _, by kernel_rfl, rfl, rfl, rfl, rfl⟩, rfl, rfl, ⟨_, Tryz.underlying135, ⟨_, _, _, rfl⟩⟩⟩
def ti136 : TI := ⟨256, 256, .arr 256 4, [.bool false, .bool false, .bool false, .bool false, .bool false, .bool false, .bool false, .bool false, .bool false, .bool false, .bool false, .bool false, .bool false, .bool false, .bool false, .bool false, .bool false, .bool false, .bool false, .bool false, .bool false, .bool false, .bool false, .bool false, .bool false, .bool false, .bool false, .bool false, .bool false, .bool false, .bool false, .bool false, .bool false, .bool false, .bool false, .bool false, .bool false, .bool false, .bool false, .bool false, .bool false, .bool false, .bool false, .bool false, .bool false, .bool false, .bool false, .bool false, .bool false, .bool false, .bool false, .bool false, .bool false, .bool false, .bool false, .bool false, .bool false, .bool false, .bool false, .bool false, .bool false, .bool false, .bool false, .bool false, .bool false, .bool false, .bool false, .bool false, .bool false, .bool false, .bool false, .bool false, .bool false, .bool false, .bool false, .bool false, .bool false, .bool false, .bool false, .bool false, .bool false, .bool false, .bool false, .bool false, .bool false, .bool false, .bool false, .bool false, .bool false, .bool false, .bool false, .bool false, .bool false, .bool false, .bool false, .bool false, .bool false, .bool false, .bool false, .bool false, .bool false, .bool false, .bool false, .bool false, .bool false, .bool false, .bool false, .bool false, .bool false, .bool false, .bool false, .bool false, .bool false, .bool false, .bool false, .bool false, .bool false, .bool false, .bool false, .bool false, .bool false, .bool false, .bool false, .bool false, .bool false, .bool false, .bool false, .bool false, .bool false, .bool false, .bool false, .bool false, .bool false, .bool false, .bool false, .bool false, .bool false, .bool false, .bool false, .bool false, .bool false, .bool false, .bool false, .bool false, .bool false, .bool false, .bool false, .bool false, .bool false, .bool false, .bool false, .bool false, .bool false, .bool false, .bool false, .bool false, .bool false, .bool false, .bool false, .bool false, .bool false, .bool false, .bool false, .bool false, .bool false, .bool false, .bool false, .bool false, .bool false, .bool false, .bool false, .bool false, .bool false, .bool false, .bool false, .bool false, .bool false, .bool false, .bool false, .bool false, .bool false, .bool false, .bool false, .bool false, .bool false, .bool false, .bool false, .bool false, .bool false, .bool false, .bool false, .bool false, .bool false, .bool false, .bool false, .bool false, .bool false, .bool false, .bool false, .bool false, .bool false, .bool false, .bool false, .bool false, .bool false, .bool false, .bool false, .bool false, .bool false, .bool false, .bool false, .bool false, .bool false, .bool false, .bool false, .bool false, .bool false, .bool false, .bool false, .bool false, .bool false, .bool false, .bool false, .bool false, .bool false, .bool false, .bool false, .bool false, .bool false, .bool false, .bool false, .bool false, .bool false, .bool false, .bool false, .bool false, .bool false, .bool false, .bool false, .bool false, .bool false, .bool false, .bool false, .bool false, .bool false, .bool false, .bool false, .bool false, .bool false, .bool false, .bool false, .bool false, .bool false, .bool false, .bool false, .bool false]⟩
theorem ok136 : TIok Tryz.prog 136 ti136 := ⟨⟨Tryz.t136, _, by kernel_rfl, rfl, rfl, rfl, rfl⟩, rfl, rfl, ⟨_, Tryz.underlying136, rfl⟩⟩
def ti137 : TI := ⟨256, 256, .arr 256 4, [.bool false, .bool false, .bool false, .bool false, .bool false, .bool false, .bool false, .bool false, .bool false, .bool false, .bool false, .bool false, .bool false, .bool false, .bool false, .bool false, .bool false, .bool false, .bool false, .bool false, .bool false, .bool false, .bool false, .bool false, .bool false, .bool false, .bool false, .bool false, .bool false, .bool false, .bool false, .bool false, .bool false, .bool false, .bool false, .bool false, .bool false, .bool false, .bool false, .bool false, .bool false, .bool false, .bool false, .bool false, .bool false, .bool false, .bool false, .bool false, .bool false, .bool false, .bool false, .bool false, .bool false, .bool false, .bool false, .bool false, .bool false, .bool false, .bool false, .bool false, .bool false, .bool false, .bool false, .bool false, .bool false, .bool false, .bool false, .bool false, .bool false, .bool false, .bool false, .bool false, .bool false, .bool false, .bool false, .bool false, .bool false, .bool false, .bool false, .bool false, .bool false, .bool false, .bool false, .bool false, .bool false, .bool false, .bool false, .bool false, .bool false, .bool false, .bool false, .bool false, .bool false, .bool false, .bool false, .bool false, .bool false, .bool false, .bool false, .bool false, .bool false, .bool false, .bool false, .bool false, .bool false, .bool false, .bool false, .bool false, .bool false, .bool false, .bool false, .bool false, .bool false, .bool false, .bool false, .bool false, .bool false, .bool false, .bool false, .bool false, .bool false, .bool false, .bool false, .bool false, .bool false, .bool false, .bool false, .bool false, .bool false, .bool false, .bool false, .bool false, .bool false, .bool false, .bool false, .bool false, .bool false, .bool false, .bool false, .bool false, .bool false, .bool false, .bool false, .bool false, .bool false, .bool false, .bool false, .bool false, .bool false, .bool false, .bool false, .bool false, .bool false, .bool false, .bool false, .bool false, .bool false, .bool false, .bool false, .bool false, .bool false, .bool false, .bool false, .bool false, .bool false, .bool false, .bool false, .bool false, .bool false, .bool false, .bool false, .bool false, .bool false, .bool false, .bool false, .bool false, .bool false, .bool false, .bool false, .bool false, .bool false, .bool false, .bool false, .bool false, .bool false, .bool false, .bool false, .bool false, .bool false, .bool false, .bool false, .bool false, .bool false, .bool false, .bool false, .bool false, .bool false, .bool false, .bool false, .bool false, .bool false, .bool false, .bool false, .bool false, .bool false, .bool false, .bool false, .bool false, .bool false, .bool false, .bool false, .bool false, .bool false, .bool false, .bool false, .bool false, .bool false, .bool false, .bool false, .bool false, .bool false, .bool false, .bool false, .bool false, .bool false, .bool false, .bool false, .bool false, .bool false, .bool false, .bool false, .bool false, .bool false, .bool false, .bool false, .bool false, .bool false, .bool false, .bool false, .bool false, .bool false, .bool false, .bool false, .bool false, .bool false, .bool false, .bool false, .bool false, .bool false, .bool false, .bool false, .bool false, .bool false, .bool false, .bool false, .bool false]⟩
theorem ok137 : TIok Tryz.prog 137 ti137 := ⟨⟨Tryz.t137, _, by kernel_rfl, rfl, rfl, rfl, rfl⟩, rfl, rfl, ⟨_, Tryz.underlying137, rfl⟩⟩
def ti139 : TI := ⟨1, 8, .func, [.niln]⟩
theorem ok139 : TIok Tryz.prog 139 ti139 := ⟨⟨Tryz.t139, _, by kernel_rfl, rfl, rfl, rfl, rfl⟩, rfl, rfl, ⟨_, Tryz.underlying139, ⟨_, _, _, rfl⟩⟩⟩
def ti140 : TI := ⟨1, 8, .func, [.niln]⟩
theorem ok140 : TIok Tryz.prog 140 ti140 := ⟨⟨Tryz.t140, _, by kernel_rfl, rfl, rfl, rfl, rfl⟩, rfl, rfl, ⟨_, Tryz.underlying140, ⟨_, _, _, rfl⟩⟩⟩
def ti141 : TI := ⟨1, 8, .ptr 137, [.nilp]⟩
theorem ok141 : TIok Tryz.prog 141 ti141 := ⟨⟨Tryz.t141, _, by kernel_rfl, rfl, rfl, rfl, rfl⟩, rfl, rfl, ⟨_, Tryz.underlying141, rfl⟩⟩
def ti142 : TI := ⟨1, 8, .func, [.niln]⟩
theorem ok142 : TIok Tryz.prog 142 ti142 := ⟨⟨Tryz.t142, _, by kernel_rfl, rfl, rfl, rfl, rfl⟩, rfl, rfl, ⟨_, Tryz.underlying142, ⟨_, _, _, rfl⟩⟩⟩
def ti143 : TI := ⟨0, 0, .struct [], []⟩
theorem ok143 : TIok Tryz.prog 143 ti143 := ⟨⟨Tryz.t143, _, by kernel_rfl, rfl, rfl, rfl, rfl⟩, rfl, rfl, ⟨_, Tryz.underlying143, ⟨_, rfl, rfl⟩⟩⟩
def ti144 : TI := ⟨0, 0, .struct [], []⟩
theorem ok144 : TIok Tryz.prog 144 ti144 := ⟨⟨Tryz.t144, _, by kernel_rfl, rfl, rfl, rfl, rfl⟩, rfl, rfl, ⟨_, Tryz.underlying144, ⟨_, rfl, rfl⟩⟩⟩
def ti145 : TI := ⟨0, 0, .struct [], []⟩
theorem ok145 : TIok Tryz.prog 145 ti145 := ⟨⟨Tryz.t145, _, by kernel_rfl, rfl, rfl, rfl, rfl⟩, rfl, rfl, ⟨_, Tryz.underlying145, ⟨_, rfl, rfl⟩⟩⟩
def ti146 : TI := ⟨1, 4, .int .u32, [.int .u32 0]⟩
theorem ok146 : TIok Tryz.prog 146 ti146 := ⟨⟨Tryz.t146, _, by kernel_rfl, rfl, rfl, rfl, rfl⟩, rfl, rfl, ⟨_, Tryz.underlying146, rfl⟩⟩
def ti147 : TI := ⟨1, 4, .struct [(0, 145), (0, 146)], [.int .u32 0]⟩
theorem ok147 : TIok Tryz.prog 147 ti147 := ⟨⟨Tryz.t147, _, by kernel_rfl, rfl, rfl, rfl, rfl⟩, rfl, rfl, ⟨_, Tryz.underlying147, ⟨_, rfl, rfl⟩⟩⟩
def ti148 : TI := ⟨1, 4, .struct [(0, 145), (0, 146)], [.int .u32 0]⟩
theorem ok148 : TIok Tryz.prog 148 ti148 := ⟨⟨Tryz.t148, _, by kernel_rfl, rfl, rfl, rfl, rfl⟩, rfl, rfl, ⟨_, Tryz.underlying148, ⟨_, rfl, rfl⟩⟩⟩
def ti149 : TI := ⟨2, 8, .struct [(0, 21), (1, 146)], [.int .i32 0, .int .u32 0]⟩
theorem ok149 : TIok Tryz.prog 149 ti149 := ⟨⟨Tryz.t149, _, by kernel_rfl, rfl, rfl, rfl, rfl⟩, rfl, rfl, ⟨_, Tryz.underlying149, ⟨_, rfl, rfl⟩⟩⟩
def ti150 : TI := ⟨2, 8, .struct [(0, 21), (1, 146)], [.int .i32 0, .int .u32 0]⟩
theorem ok150 : TIok Tryz.prog 150 ti150 := ⟨⟨Tryz.t150, _, by kernel_rfl, rfl, rfl, rfl, rfl⟩, rfl, rfl, ⟨_, Tryz.underlying150, ⟨_, rfl, rfl⟩⟩⟩
def ti151 : TI := ⟨2, 8, .struct [(0, 144), (0, 150)], [.int .i32 0, .int .u32 0]⟩
theorem ok151 : TIok Tryz.prog 151 ti151 := ⟨⟨Tryz.t151, _, by kernel_rfl, rfl, rfl, rfl, rfl⟩, rfl, rfl, ⟨_, Tryz.underlying151, ⟨_, rfl, rfl⟩⟩⟩
def ti152 : TI := ⟨2, 8, .struct [(0, 144), (0, 150)], [.int .i32 0, .int .u32 0]⟩
theorem ok152 : TIok Tryz.prog 152 ti152 := ⟨⟨Tryz.t152, _, by kernel_rfl, rfl, rfl, rfl, rfl⟩, rfl, rfl, ⟨_, Tryz.underlying152, ⟨_, rfl, rfl⟩⟩⟩
def ti153 : TI := ⟨3, 12, .struct [(0, 144), (0, 148), (1, 152)], [.int .u32 0, .int .i32 0, .int .u32 0]⟩
theorem ok153 : TIok Tryz.prog 153 ti153 := ⟨⟨Tryz.t153, _, by kernel_rfl, rfl, rfl, rfl, rfl⟩, rfl, rfl, ⟨_, Tryz.underlying153, ⟨_, rfl, rfl⟩⟩⟩
def ti154 : TI := ⟨3, 12, .struct [(0, 144), (0, 148), (1, 152)], [.int .u32 0, .int .i32 0, .int .u32 0]⟩
theorem ok154 : TIok Tryz.prog 154 ti154 := ⟨⟨Tryz.t154, _, by kernel_rfl, rfl, rfl, rfl, rfl⟩, rfl, rfl, ⟨_, Tryz.underlying154, ⟨_, rfl, rfl⟩⟩⟩
def ti155 : TI := ⟨1, 16, .iface, [.nili]⟩
theorem ok155 : TIok Tryz.prog 155 ti155 := ⟨⟨Tryz.t155, _, by kernel_rfl, rfl, rfl, rfl, rfl⟩, rfl, rfl, ⟨_, Tryz.underlying155, ⟨_, rfl⟩⟩⟩
def ti156 : TI := ⟨1, 16, .iface, [.nili]⟩
theorem ok156 : TIok Tryz.prog 156 ti156 := ⟨⟨Tryz.t156, _, by kernel_rfl, rfl, rfl, rfl, rfl⟩, rfl, rfl, ⟨_, Tryz.underlying156, ⟨_, rfl⟩⟩⟩
def ti157 : TI := ⟨5, 56, .struct [(0, 154), (3, 156), (4, 48)], [.int .u32 0, .int .i32 0, .int .u32 0, .nili, .nils]⟩
theorem ok157 : TIok Tryz.prog 157 ti157 := ⟨⟨Tryz.t157, _, by kernel_rfl, rfl, rfl, rfl, rfl⟩, rfl, rfl, ⟨_, Tryz.underlying157, ⟨_, rfl, rfl⟩⟩⟩
def ti158 : TI := ⟨5, 56, .struct [(0, 154), (3, 156), (4, 48)], [.int .u32 0, .int .i32 0, .int .u32 0, .nili, .nils]⟩
theorem ok158 : TIok Tryz.prog 158 ti158 := ⟨⟨Tryz.t158, _, by kernel_rfl, rfl, rfl, rfl, rfl⟩, rfl, rfl, ⟨_, Tryz.underlying158, ⟨_, rfl, rfl⟩⟩⟩
def ti159 : TI := ⟨1, 8, .func, [.niln]⟩
theorem ok159 : TIok Tryz.prog 159 ti159 := ⟨⟨Tryz.t159, _, by kernel_rfl, rfl, rfl, rfl, rfl⟩, rfl, rfl, ⟨_, Tryz.underlying159, ⟨_, _, _, rfl⟩⟩⟩
def ti160 : TI := ⟨1, 8, .func, [.niln]⟩
theorem ok160 : TIok Tryz.prog 160 ti160 := ⟨⟨Tryz.t160, _, by kernel_rfl, rfl, rfl, rfl, rfl⟩, rfl, rfl, ⟨_, Tryz.underlying160, ⟨_, _, _, rfl⟩⟩⟩
def ti161 : TI := ⟨1, 24, .slice 21, [.nils]⟩
theorem ok161 : TIok Tryz.prog 161 ti161 := ⟨⟨Tryz.t161, _, by kernel_rfl, rfl, rfl, rfl, rfl⟩, rfl, rfl, ⟨_, Tryz.underlying161, rfl⟩⟩
def ti163 : TI := ⟨1, 8, .func, [.niln]⟩
theorem ok163 : TIok Tryz.prog 163 ti163 := ⟨⟨Tryz.t163, _, by kernel_rfl, rfl, rfl, rfl, rfl⟩, rfl, rfl, ⟨_, Tryz.underlying163, ⟨_, _, _, rfl⟩⟩⟩
def ti164 : TI := ⟨1, 8, .func, [.niln]⟩
theorem ok164 : TIok Tryz.prog 164 ti164 := ⟨⟨Tryz.t164, _, by kernel_rfl, rfl, rfl, rfl, rfl⟩, rfl, rfl, ⟨_, Tryz.underlying164, ⟨_, _, _, rfl⟩⟩⟩
def ti165 : TI := ⟨1, 8, .other, [.nilp]⟩
theorem ok165 : TIok Tryz.prog 165 ti165 := ⟨⟨Tryz.t165, _, by kernel_rfl, rfl, rfl, rfl, rfl⟩, rfl, rfl, ⟨_, Tryz.underlying165, ⟨rfl, fun _ => nofun⟩⟩⟩
def ti166 : TI := ⟨1, 8, .func, [.niln]⟩
theorem ok166 : TIok Tryz.prog 166 ti166 := ⟨⟨Tryz.t166, _, by kernel_rfl, rfl, rfl, rfl, rfl⟩, rfl, rfl, ⟨_, Tryz.underlying166, ⟨_, _, _, rfl⟩⟩⟩
def ti167 : TI := ⟨1, 8, .ptr 154, [.nilp]⟩
theorem ok167 : TIok Tryz.prog 167 ti167 := ⟨⟨Tryz.t167, _, by kernel_rfl, rfl, rfl, rfl, rfl⟩, rfl, rfl, ⟨_, Tryz.underlying167, rfl⟩⟩
def ti168 : TI := ⟨1, 8, .func, [.niln]⟩
theorem ok168 : TIok Tryz.prog 168 ti168 := ⟨⟨Tryz.t168, _, by kernel_rfl, rfl, rfl, rfl, rfl⟩, rfl, rfl, ⟨_, Tryz.underlying168, ⟨_, _, _, rfl⟩⟩⟩
def ti170 : TI := ⟨1, 8, .func, [.niln]⟩
theorem ok170 : TIok Tryz.prog 170 ti170 := ⟨⟨Tryz.t170, _, by kernel_rfl, rfl, rfl, rfl, rfl⟩, rfl, rfl, ⟨_, Tryz.underlying170, ⟨_, _, _, rfl⟩⟩⟩
def ti171 : TI := ⟨1, 8, .func, [.niln]⟩
theorem ok171 : TIok Tryz.prog 171 ti171 := ⟨⟨Tryz.t171, _, by kernel_rfl, rfl, rfl, rfl, rfl⟩, rfl, rfl, ⟨_, Tryz.underlying171, ⟨_, _, _, rfl⟩⟩⟩
def ti172 : TI := ⟨1, 8, .func, [.niln]⟩
theorem ok172 : TIok Tryz.prog 172 ti172 := ⟨⟨Tryz.t172, _, by kernel_rfl, rfl, rfl, rfl, rfl⟩, rfl, rfl, ⟨_, Tryz.underlying172, ⟨_, _, _, rfl⟩⟩⟩
def ti173 : TI := ⟨1, 8, .ptr 148, [.nilp]⟩
theorem ok173 : TIok Tryz.prog 173 ti173 := ⟨⟨Tryz.t173, _, by kernel_rfl, rfl, rfl, rfl, rfl⟩, rfl, rfl, ⟨_, Tryz.underlying173, rfl⟩⟩
def ti174 : TI := ⟨1, 8, .func, [.niln]⟩
theorem ok174 : TIok Tryz.prog 174 ti174 := ⟨⟨Tryz.t174, _, by kernel_rfl, rfl, rfl, rfl, rfl⟩, rfl, rfl, ⟨_, Tryz.underlying174, ⟨_, _, _, rfl⟩⟩⟩
def ti175 : TI := ⟨1, 8, .ptr 146, [.nilp]⟩
theorem ok175 : TIok Tryz.prog 175 ti175 := ⟨⟨Tryz.t175, _, by kernel_rfl, rfl, rfl, rfl, rfl⟩, rfl, rfl, ⟨_, Tryz.underlying175, rfl⟩⟩
def ti176 : TI := ⟨1, 8, .func, [.niln]⟩
theorem ok176 : TIok Tryz.prog 176 ti176 := ⟨⟨Tryz.t176, _, by kernel_rfl, rfl, rfl, rfl, rfl⟩, rfl, rfl, ⟨_, Tryz.underlying176, ⟨_, _, _, rfl⟩⟩⟩
def ti177 : TI := ⟨1, 8, .ptr 196, [.nilp]⟩
theorem ok177 : TIok Tryz.prog 177 ti177 := ⟨⟨Tryz.t177, _, by kernel_rfl, rfl, rfl, rfl, rfl⟩, rfl, rfl, ⟨_, Tryz.underlying177, rfl⟩⟩
def ti178 : TI := ⟨1, 8, .func, [.niln]⟩
theorem ok178 : TIok Tryz.prog 178 ti178 := ⟨⟨Tryz.t178, _, by kernel_rfl, rfl, rfl, rfl, rfl⟩, rfl, rfl, ⟨_, Tryz.underlying178, ⟨_, _, _, rfl⟩⟩⟩
def ti179 : TI := ⟨1, 8, .ptr 202, [.nilp]⟩
theorem ok179 : TIok Tryz.prog 179 ti179 := ⟨⟨Tryz.t179, _, by kernel_rfl, rfl, rfl, rfl, rfl⟩, rfl, rfl, ⟨_, Tryz.underlying179, rfl⟩⟩
def ti180 : TI := ⟨1, 8, .func, [.niln]⟩
theorem ok180 : TIok Tryz.prog 180 ti180 := ⟨⟨Tryz.t180, _, by kernel_rfl, rfl, rfl, rfl, rfl⟩, rfl, rfl, ⟨_, Tryz.underlying180, ⟨_, _, _, rfl⟩⟩⟩
def ti181 : TI := ⟨256, 256, .arr 256 5, [.int .u8 0, .int .u8 0, .int .u8 0, .int .u8 0, .int .u8 0, .int .u8 0, .int .u8 0, .int .u8 0, .int .u8 0, .int .u8 0, .int .u8 0, .int .u8 0, .int .u8 0, .int .u8 0, .int .u8 0, .int .u8 0, .int .u8 0, .int .u8 0, .int .u8 0, .int .u8 0, .int .u8 0, .int .u8 0, .int .u8 0, .int .u8 0, .int .u8 0, .int .u8 0, .int .u8 0, .int .u8 0, .int .u8 0, .int .u8 0, .int .u8 0, .int .u8 0, .int .u8 0, .int .u8 0, .int .u8 0, .int .u8 0, .int .u8 0, .int .u8 0, .int .u8 0, .int .u8 0, .int .u8 0, .int .u8 0, .int .u8 0, .int .u8 0, .int .u8 0, .int .u8 0, .int .u8 0, .int .u8 0, .int .u8 0, .int .u8 0, .int .u8 0, .int .u8 0, .int .u8 0, .int .u8 0, .int .u8 0, .int .u8 0, .int .u8 0, .int .u8 0, .int .u8 0, .int .u8 0, .int .u8 0, .int .u8 0, .int .u8 0, .int .u8 0, .int .u8 0, .int .u8 0, .int .u8 0, .int .u8 0, .int .u8 0, .int .u8 0, .int .u8 0, .int .u8 0, .int .u8 0, .int .u8 0, .int .u8 0, .int .u8 0, .int .u8 0, .int .u8 0, .int .u8 0, .int .u8 0, .int .u8 0, .int .u8 0, .int .u8 0, .int .u8 0, .int .u8 0, .int .u8 0, .int .u8 0, .int .u8 0, .int .u8 0, .int .u8 0, .int .u8 0, .int .u8 0, .int .u8 0, .int .u8 0, .int .u8 0, .int .u8 0, .int .u8 0, .int .u8 0, .int .u8 0, .int .u8 0, .int .u8 0, .int .u8 0, .int .u8 0, .int .u8 0, .int .u8 0, .int .u8 0, .int .u8 0, .int .u8 0, .int .u8 0, .int .u8 0, .int .u8 0, .int .u8 0, .int .u8 0, .int .u8 0, .int .u8 0, .int .u8 0, .int .u8 0, .int .u8 0, .int .u8 0, .int .u8 0, .int .u8 0, .int .u8 0, .int .u8 0, .int .u8 0, .int .u8 0, .int .u8 0, .int .u8 0, .int .u8 0, .int .u8 0, .int .u8 0, .int .u8 0, .int .u8 0, .int .u8 0, .int .u8 0, .int .u8 0, .int .u8 0, .int .u8 0, .int .u8 0, .int .u8 0, .int .u8 0, .int .u8 0, .int .u8 0, .int .u8 0, .int .u8 0, .int .u8 0, .int .u8 0, .int .u8 0, .int .u8 0, .int .u8 0, .int .u8 0, .int .u8 0, .int .u8 0, .int .u8 0, .int .u8 0, .int .u8 0, .int .u8 0, .int .u8 0, .int .u8 0, .int .u8 0, .int .u8 0, .int .u8 0, .int .u8 0, .int .u8 0, .int .u8 0, .int .u8 0, .int .u8 0, .int .u8 0, .int .u8 0, .int .u8 0, .int .u8 0, .int .u8 0, .int .u8 0, .int .u8 0, .int .u8 0, .int .u8 0, .int .u8 0, .int .u8 0, .int .u8 0, .int .u8 0, .int .u8 0, .int .u8 0, .int .u8 0, .int .u8 0, .int .u8 0, .int .u8 0, .int .u8 0, .int .u8 0, .int .u8 0, .int .u8 0, .int .u8 0, .int .u8 0, .int .u8 0, .int .u8 0, .int .u8 0, .int .u8 0, .int .u8 0, .int .u8 0, .int .u8 0, .int .u8 0, .int .u8 0, .int .u8 0, .int .u8 0, .int .u8 0, .int .u8 0, .int .u8 0, .int .u8 0, .int .u8 0, .int .u8 0, .int .u8 0, .int .u8 0, .int .u8 0, .int .u8 0, .int .u8 0, .int .u8 0, .int .u8 0, .int .u8 0, .int .u8 0, .int .u8 0, .int .u8 0, .int .u8 0, .int .u8 0, .int .u8 0, .int .u8 0, .int .u8 0, .int .u8 0, .int .u8 0, .int .u8 0, .int .u8 0, .int .u8 0, .int .u8 0, .int .u8 0, .int .u8 0, .int .u8 0, .int .u8 0, .int .u8 0, .int .u8 0, .int .u8 0, .int .u8 0, .int .u8 0, .int .u8 0, .int .u8 0, .int .u8 0, .int .u8 0, .int .u8 0, .int .u8 0, .int .u8 0, .int .u8 0, .int .u8 0, .int .u8 0, .int .u8 0, .int .u8 0, .int .u8 0, .int .u8 0, .int .u8 0, .int .u8 0, .int .u8 0]⟩
theorem ok181 : TIok Tryz.prog 181 ti181 := ⟨⟨Tryz.t181, _, by kernel_rfl, rfl, rfl, rfl, rfl⟩, rfl, rfl, ⟨_, Tryz.underlying181, rfl⟩⟩
def ti182 : TI := ⟨1, 8, .ptr 181, [.nilp]⟩
theorem ok182 : TIok Tryz.prog 182 ti182 := ⟨⟨Tryz.t182, _, by kernel_rfl, rfl, rfl, rfl, rfl⟩, rfl, rfl, ⟨_, Tryz.underlying182, rfl⟩⟩
def ti183 : TI := ⟨256, 6144, .arr 256 80, [.nils, .nils, .nils, .nils, .nils, .nils, .nils, .nils, .nils, .nils, .nils, .nils, .nils, .nils, .nils, .nils, .nils, .nils, .nils, .nils, .nils, .nils, .nils, .nils, .nils, .nils, .nils, .nils, .nils, .nils, .nils, .nils, .nils, .nils, .nils, .nils, .nils, .nils, .nils, .nils, .nils, .nils, .nils, .nils, .nils, .nils, .nils, .nils, .nils, .nils, .nils, .nils, .nils, .nils, .nils, .nils, .nils, .nils, .nils, .nils, .nils, .nils, .nils, .nils, .nils, .nils, .nils, .nils, .nils, .nils, .nils, .nils, .nils, .nils, .nils, .nils, .nils, .nils, .nils, .nils, .nils, .nils, .nils, .nils, .nils, .nils, .nils, .nils, .nils, .nils, .nils, .nils, .nils, .nils, .nils, .nils, .nils, .nils, .nils, .nils, .nils, .nils, .nils, .nils, .nils, .nils, .nils, .nils, .nils, .nils, .nils, .nils, .nils, .nils, .nils, .nils, .nils, .nils, .nils, .nils, .nils, .nils, .nils, .nils, .nils, .nils, .nils, .nils, .nils, .nils, .nils, .nils, .nils, .nils, .nils, .nils, .nils, .nils, .nils, .nils, .nils, .nils, .nils, .nils, .nils, .nils, .nils, .nils, .nils, .nils, .nils, .nils, .nils, .nils, .nils, .nils, .nils, .nils, .nils, .nils, .nils, .nils, .nils, .nils, .nils, .nils, .nils, .nils, .nils, .nils, .nils, .nils, .nils, .nils, .nils, .nils, .nils, .nils, .nils, .nils, .nils, .nils, .nils, .nils, .nils, .nils, .nils, .nils, .nils, .nils, .nils, .nils, .nils, .nils, .nils, .nils, .nils, .nils, .nils, .nils, .nils, .nils, .nils, .nils, .nils, .nils, .nils, .nils, .nils, .nils, .nils, .nils, .nils, .nils, .nils, .nils, .nils, .nils, .nils, .nils, .nils, .nils, .nils, .nils, .nils, .nils, .nils, .nils, .nils, .nils, .nils, .nils, .nils, .nils, .nils, .nils, .nils, .nils, .nils, .nils, .nils, .nils, .nils, .nils, .nils, .nils, .nils, .nils, .nils, .nils, .nils, .nils, .nils, .nils, .nils, .nils]⟩
theorem ok183 : TIok Tryz.prog 183 ti183 := ⟨⟨Tryz.t183, _, by kernel_rfl, rfl, rfl, rfl, rfl⟩, rfl, rfl, ⟨_, Tryz.underlying183, rfl⟩⟩
def ti184 : TI := ⟨257, 6168, .struct [(0, 183), (256, 48)], [.nils, .nils, .nils, .nils, .nils, .nils, .nils, .nils, .nils, .nils, .nils, .nils, .nils, .nils, .nils, .nils, .nils, .nils, .nils, .nils, .nils, .nils, .nils, .nils, .nils, .nils, .nils, .nils, .nils, .nils, .nils, .nils, .nils, .nils, .nils, .nils, .nils, .nils, .nils, .nils, .nils, .nils, .nils, .nils, .nils, .nils, .nils, .nils, .nils, .nils, .nils, .nils, .nils, .nils, .nils, .nils, .nils, .nils, .nils, .nils, .nils, .nils, .nils, .nils, .nils, .nils, .nils, .nils, .nils, .nils, .nils, .nils, .nils, .nils, .nils, .nils, .nils, .nils, .nils, .nils, .nils, .nils, .nils, .nils, .nils, .nils, .nils, .nils, .nils, .nils, .nils, .nils, .nils, .nils, .nils, .nils, .nils, .nils, .nils, .nils, .nils, .nils, .nils, .nils, .nils, .nils, .nils, .nils, .nils, .nils, .nils, .nils, .nils, .nils, .nils, .nils, .nils, .nils, .nils, .nils, .nils, .nils, .nils, .nils, .nils, .nils, .nils, .nils, .nils, .nils, .nils, .nils, .nils, .nils, .nils, .nils, .nils, .nils, .nils, .nils, .nils, .nils, .nils, .nils, .nils, .nils, .nils, .nils, .nils, .nils, .nils, .nils, .nils, .nils, .nils, .nils, .nils, .nils, .nils, .nils, .nils, .nils, .nils, .nils, .nils, .nils, .nils, .nils, .nils, .nils, .nils, .nils, .nils, .nils, .nils, .nils, .nils, .nils, .nils, .nils, .nils, .nils, .nils, .nils, .nils, .nils, .nils, .nils, .nils, .nils, .nils, .nils, .nils, .nils, .nils, .nils, .nils, .nils, .nils, .nils, .nils, .nils, .nils, .nils, .nils, .nils, .nils, .nils, .nils, .nils, .nils, .nils, .nils, .nils, .nils, .nils, .nils, .nils, .nils, .nils, .nils, .nils, .nils, .nils, .nils, .nils, .nils, .nils, .nils, .nils, .nils, .nils, .nils, .nils, .nils, .nils, .nils, .nils, .nils, .nils, .nils, .nils, .nils, .nils, .nils, .nils, .nils, .nils, .nils, .nils, .nils, .nils, .nils, .nils, .nils, .nils, .nils]⟩
theorem ok184 : TIok Tryz.prog 184 ti184 := ⟨⟨Tryz.t184, _, by kernel_rfl, rfl, rfl, rfl, rfl⟩, rfl, rfl, ⟨_, Tryz.underlying184, ⟨_, rfl, rfl⟩⟩⟩
def ti185 : TI := ⟨257, 6168, .struct [(0, 183), (256, 48)], [.nils, .nils, .nils, .nils, .nils, .nils, .nils, .nils, .nils, .nils, .nils, .nils, .nils, .nils, .nils, .nils, .nils, .nils, .nils, .nils, .nils, .nils, .nils, .nils, .nils, .nils, .nils, .nils, .nils, .nils, .nils, .nils, .nils, .nils, .nils, .nils, .nils, .nils, .nils, .nils, .nils, .nils, .nils, .nils, .nils, .nils, .nils, .nils, .nils, .nils, .nils, .nils, .nils, .nils, .nils, .nils, .nils, .nils, .nils, .nils, .nils, .nils, .nils, .nils, .nils, .nils, .nils, .nils, .nils, .nils, .nils, .nils, .nils, .nils, .nils, .nils, .nils, .nils, .nils, .nils, .nils, .nils, .nils, .nils, .nils, .nils, .nils, .nils, .nils, .nils, .nils, .nils, .nils, .nils, .nils, .nils, .nils, .nils, .nils, .nils, .nils, .nils, .nils, .nils, .nils, .nils, .nils, .nils, .nils, .nils, .nils, .nils, .nils, .nils, .nils, .nils, .nils, .nils, .nils, .nils, .nils, .nils, .nils, .nils, .nils, .nils, .nils, .nils, .nils, .nils, .nils, .nils, .nils, .nils, .nils, .nils, .nils, .nils, .nils, .nils, .nils, .nils, .nils, .nils, .nils, .nils, .nils, .nils, .nils, .nils, .nils, .nils, .nils, .nils, .nils, .nils, .nils, .nils, .nils, .nils, .nils, .nils, .nils, .nils, .nils, .nils, .nils, .nils, .nils, .nils, .nils, .nils, .nils, .nils, .nils, .nils, .nils, .nils, .nils, .nils, .nils, .nils, .nils, .nils, .nils, .nils, .nils, .nils, .nils, .nils, .nils, .nils, .nils, .nils, .nils, .nils, .nils, .nils, .nils, .nils, .nils, .nils, .nils, .nils, .nils, .nils, .nils, .nils, .nils, .nils, .nils, .nils, .nils, .nils, .nils, .nils, .nils, .nils, .nils, .nils, .nils, .nils, .nils, .nils, .nils, .nils, .nils, .nils, .nils, .nils, .nils, .nils, .nils, .nils, .nils, .nils, .nils, .nils, .nils, .nils, .nils, .nils, .nils, .nils, .nils, .nils, .nils, .nils, .nils, .nils, .nils, .nils, .nils, .nils, .nils, .nils, .nils]⟩
theorem ok185 : TIok Tryz.prog 185 ti185 := ⟨⟨Tryz.t185, _, by kernel_rfl, rfl, rfl, rfl, rfl⟩, rfl, rfl, ⟨_, Tryz.underlying185, ⟨_, rfl, rfl⟩⟩⟩
def ti186 : TI := ⟨1, 8, .ptr 185, [.nilp]⟩
theorem ok186 : TIok Tryz.prog 186 ti186 := ⟨⟨Tryz.t186, _, by kernel_rfl, rfl, rfl, rfl, rfl⟩, rfl, rfl, ⟨_, Tryz.underlying186, rfl⟩⟩
def ti187 : TI := ⟨1, 8, .func, [.niln]⟩
theorem ok187 : TIok Tryz.prog 187 ti187 := ⟨⟨Tryz.t187, _, by kernel_rfl, rfl, rfl, rfl, rfl⟩, rfl, rfl, ⟨_, Tryz.underlying187, ⟨_, _, _, rfl⟩⟩⟩
def ti189 : TI := ⟨1, 8, .func, [.niln]⟩
theorem ok189 : TIok Tryz.prog 189 ti189 := ⟨⟨Tryz.t189, _, by kernel_rfl, rfl, rfl, rfl, rfl⟩, rfl, rfl, ⟨_, Tryz.underlying189, ⟨_, _, _, rfl⟩⟩⟩
def ti190 : TI := ⟨1, 8, .ptr 152, [.nilp]⟩
theorem ok190 : TIok Tryz.prog 190 ti190 := ⟨⟨Tryz.t190, _, by kernel_rfl, rfl, rfl, rfl, rfl⟩, rfl, rfl, ⟨_, Tryz.underlying190, rfl⟩⟩
def ti191 : TI := ⟨1, 8, .func, [.niln]⟩
theorem ok191 : TIok Tryz.prog 191 ti191 := ⟨⟨Tryz.t191, _, by kernel_rfl, rfl, rfl, rfl, rfl⟩, rfl, rfl, ⟨_, Tryz.underlying191, ⟨_, _, _, rfl⟩⟩⟩
def ti192 : TI := ⟨1, 8, .func, [.niln]⟩
theorem ok192 : TIok Tryz.prog 192 ti192 := ⟨⟨Tryz.t192, _, by kernel_rfl, rfl, rfl, rfl, rfl⟩, rfl, rfl, ⟨_, Tryz.underlying192, ⟨_, _, _, rfl⟩⟩⟩
def ti193 : TI := ⟨1, 8, .ptr 217, [.nilp]⟩
theorem ok193 : TIok Tryz.prog 193 ti193 := ⟨⟨Tryz.t193, _, by kernel_rfl, rfl, rfl, rfl, rfl⟩, rfl, rfl, ⟨_, Tryz.underlying193, rfl⟩⟩
def ti194 : TI := ⟨1, 8, .func, [.niln]⟩
theorem ok194 : TIok Tryz.prog 194 ti194 := ⟨⟨Tryz.t194, _, by kernel_rfl, rfl, rfl, rfl, rfl⟩, rfl, rfl, ⟨_, Tryz.underlying194, ⟨_, _, _, rfl⟩⟩⟩
def ti195 : TI := ⟨2, 24, .struct [(0, 193), (1, 9)], [.nilp, .str []]⟩
theorem ok195 : TIok Tryz.prog 195 ti195 := ⟨⟨Tryz.t195, _, by kernel_rfl, rfl, rfl, rfl, rfl⟩, rfl, rfl, ⟨_, Tryz.underlying195, ⟨_, rfl, rfl⟩⟩⟩
def ti196 : TI := ⟨2, 24, .struct [(0, 193), (1, 9)], [.nilp, .str []]⟩
theorem ok196 : TIok Tryz.prog 196 ti196 := ⟨⟨Tryz.t196, _, by kernel_rfl, rfl, rfl, rfl, rfl⟩, rfl, rfl, ⟨_, Tryz.underlying196, ⟨_, rfl, rfl⟩⟩⟩
def ti197 : TI := ⟨1, 8, .ptr 200, [.nilp]⟩
theorem ok197 : TIok Tryz.prog 197 ti197 := ⟨⟨Tryz.t197, _, by kernel_rfl, rfl, rfl, rfl, rfl⟩, rfl, rfl, ⟨_, Tryz.underlying197, rfl⟩⟩
def ti198 : TI := ⟨1, 24, .slice 197, [.nils]⟩
theorem ok198 : TIok Tryz.prog 198 ti198 := ⟨⟨Tryz.t198, _, by kernel_rfl, rfl, rfl, rfl, rfl⟩, rfl, rfl, ⟨_, Tryz.underlying198, rfl⟩⟩
def ti199 : TI := ⟨5, 72, .struct [(0, 9), (1, 3), (2, 9), (3, 197), (4, 198)], [.str [], .int .i64 0, .str [], .nilp, .nils]⟩
theorem ok199 : TIok Tryz.prog 199 ti199 := ⟨⟨Tryz.t199, _, by kernel_rfl, rfl, rfl, rfl, rfl⟩, rfl, rfl, ⟨_, Tryz.underlying199, ⟨_, rfl, rfl⟩⟩⟩
def ti200 : TI := ⟨5, 72, .struct [(0, 9), (1, 3), (2, 9), (3, 197), (4, 198)], [.str [], .int .i64 0, .str [], .nilp, .nils]⟩
theorem ok200 : TIok Tryz.prog 200 ti200 := ⟨⟨Tryz.t200, _, by kernel_rfl, rfl, rfl, rfl, rfl⟩, rfl, rfl, ⟨_, Tryz.underlying200, ⟨_, rfl, rfl⟩⟩⟩
def ti201 : TI := ⟨262, 336, .struct [(0, 200), (5, 3), (6, 104)], [.str [], .int .i64 0, .str [], .nilp, .nils, .int .i64 0, .int .u8 0, .int .u8 0, .int .u8 0, .int .u8 0, .int .u8 0, .int .u8 0, .int .u8 0, .int .u8 0, .int .u8 0, .int .u8 0, .int .u8 0, .int .u8 0, .int .u8 0, .int .u8 0, .int .u8 0, .int .u8 0, .int .u8 0, .int .u8 0, .int .u8 0, .int .u8 0, .int .u8 0, .int .u8 0, .int .u8 0, .int .u8 0, .int .u8 0, .int .u8 0, .int .u8 0, .int .u8 0, .int .u8 0, .int .u8 0, .int .u8 0, .int .u8 0, .int .u8 0, .int .u8 0, .int .u8 0, .int .u8 0, .int .u8 0, .int .u8 0, .int .u8 0, .int .u8 0, .int .u8 0, .int .u8 0, .int .u8 0, .int .u8 0, .int .u8 0, .int .u8 0, .int .u8 0, .int .u8 0, .int .u8 0, .int .u8 0, .int .u8 0, .int .u8 0, .int .u8 0, .int .u8 0, .int .u8 0, .int .u8 0, .int .u8 0, .int .u8 0, .int .u8 0, .int .u8 0, .int .u8 0, .int .u8 0, .int .u8 0, .int .u8 0, .int .u8 0, .int .u8 0, .int .u8 0, .int .u8 0, .int .u8 0, .int .u8 0, .int .u8 0, .int .u8 0, .int .u8 0, .int .u8 0, .int .u8 0, .int .u8 0, .int .u8 0, .int .u8 0, .int .u8 0, .int .u8 0, .int .u8 0, .int .u8 0, .int .u8 0, .int .u8 0, .int .u8 0, .int .u8 0, .int .u8 0, .int .u8 0, .int .u8 0, .int .u8 0, .int .u8 0, .int .u8 0, .int .u8 0, .int .u8 0, .int .u8 0, .int .u8 0, .int .u8 0, .int .u8 0, .int .u8 0, .int .u8 0, .int .u8 0, .int .u8 0, .int .u8 0, .int .u8 0, .int .u8 0, .int .u8 0, .int .u8 0, .int .u8 0, .int .u8 0, .int .u8 0, .int .u8 0, .int .u8 0, .int .u8 0, .int .u8 0, .int .u8 0, .int .u8 0, .int .u8 0, .int .u8 0, .int .u8 0, .int .u8 0, .int .u8 0, .int .u8 0, .int .u8 0, .int .u8 0, .int .u8 0, .int .u8 0, .int .u8 0, .int .u8 0, .int .u8 0, .int .u8 0, .int .u8 0, .int .u8 0, .int .u8 0, .int .u8 0, .int .u8 0, .int .u8 0, .int .u8 0, .int .u8 0, .int .u8 0, .int .u8 0, .int .u8 0, .int .u8 0, .int .u8 0, .int .u8 0, .int .u8 0, .int .u8 0, .int .u8 0, .int .u8 0, .int .u8 0, .int .u8 0, .int .u8 0, .int .u8 0, .int .u8 0, .int .u8 0, .int .u8 0, .int .u8 0, .int .u8 0, .int .u8 0, .int .u8 0, .int .u8 0, .int .u8 0, .int .u8 0, .int .u8 0, .int .u8 0, .int .u8 0, .int .u8 0, .int .u8 0, .int .u8 0, .int .u8 0, .int .u8 0, .int .u8 0, .int .u8 0, .int .u8 0, .int .u8 0, .int .u8 0, .int .u8 0, .int .u8 0, .int .u8 0, .int .u8 0, .int .u8 0, .int .u8 0, .int .u8 0, .int .u8 0, .int .u8 0, .int .u8 0, .int .u8 0, .int .u8 0, .int .u8 0, .int .u8 0, .int .u8 0, .int .u8 0, .int .u8 0, .int .u8 0, .int .u8 0, .int .u8 0, .int .u8 0, .int .u8 0, .int .u8 0, .int .u8 0, .int .u8 0, .int .u8 0, .int .u8 0, .int .u8 0, .int .u8 0, .int .u8 0, .int .u8 0, .int .u8 0, .int .u8 0, .int .u8 0, .int .u8 0, .int .u8 0, .int .u8 0, .int .u8 0, .int .u8 0, .int .u8 0, .int .u8 0, .int .u8 0, .int .u8 0, .int .u8 0, .int .u8 0, .int .u8 0, .int .u8 0, .int .u8 0, .int .u8 0, .int .u8 0, .int .u8 0, .int .u8 0, .int .u8 0, .int .u8 0, .int .u8 0, .int .u8 0, .int .u8 0, .int .u8 0, .int .u8 0, .int .u8 0, .int .u8 0, .int .u8 0, .int .u8 0, .int .u8 0, .int .u8 0, .int .u8 0, .int .u8 0, .int .u8 0, .int .u8 0, .int .u8 0, .int .u8 0, .int .u8 0, .int .u8 0, .int .u8 0, .int .u8 0, .int .u8 0, .int .u8 0, .int .u8 0, .int .u8 0, .int .u8 0, .int .u8 0]⟩
theorem ok201 : TIok Tryz.prog 201 ti201 := ⟨⟨Tryz.t201, _, by kernel_rfl, rfl, rfl, rfl, rfl⟩, rfl, rfl, ⟨_, Tryz.underlying201, ⟨_, rfl, rfl⟩⟩⟩
def ti202 : TI := ⟨262, 336, .struct [(0, 200), (5, 3), (6, 104)], [.str [], .int .i64 0, .str [], .nilp, .nils, .int .i64 0, .int .u8 0, .int .u8 0, .int .u8 0, .int .u8 0, .int .u8 0, .int .u8 0, .int .u8 0, .int .u8 0, .int .u8 0, .int .u8 0, .int .u8 0, .int .u8 0, .int .u8 0, .int .u8 0, .int .u8 0, .int .u8 0, .int .u8 0, .int .u8 0, .int .u8 0, .int .u8 0, .int .u8 0, .int .u8 0, .int .u8 0, .int .u8 0, .int .u8 0, .int .u8 0, .int .u8 0, .int .u8 0, .int .u8 0, .int .u8 0, .int .u8 0, .int .u8 0, .int .u8 0, .int .u8 0, .int .u8 0, .int .u8 0, .int .u8 0, .int .u8 0, .int .u8 0, .int .u8 0, .int .u8 0, .int .u8 0, .int .u8 0, .int .u8 0, .int .u8 0, .int .u8 0, .int .u8 0, .int .u8 0, .int .u8 0, .int .u8 0, .int .u8 0, .int .u8 0, .int .u8 0, .int .u8 0, .int .u8 0, .int .u8 0, .int .u8 0, .int .u8 0, .int .u8 0, .int .u8 0, .int .u8 0, .int .u8 0, .int .u8 0, .int .u8 0, .int .u8 0, .int .u8 0, .int .u8 0, .int .u8 0, .int .u8 0, .int .u8 0, .int .u8 0, .int .u8 0, .int .u8 0, .int .u8 0, .int .u8 0, .int .u8 0, .int .u8 0, .int .u8 0, .int .u8 0, .int .u8 0, .int .u8 0, .int .u8 0, .int .u8 0, .int .u8 0, .int .u8 0, .int .u8 0, .int .u8 0, .int .u8 0, .int .u8 0, .int .u8 0, .int .u8 0, .int .u8 0, .int .u8 0, .int .u8 0, .int .u8 0, .int .u8 0, .int .u8 0, .int .u8 0, .int .u8 0, .int .u8 0, .int .u8 0, .int .u8 0, .int .u8 0, .int .u8 0, .int .u8 0, .int .u8 0, .int .u8 0, .int .u8 0, .int .u8 0, .int .u8 0, .int .u8 0, .int .u8 0, .int .u8 0, .int .u8 0, .int .u8 0, .int .u8 0, .int .u8 0, .int .u8 0, .int .u8 0, .int .u8 0, .int .u8 0, .int .u8 0, .int .u8 0, .int .u8 0, .int .u8 0, .int .u8 0, .int .u8 0, .int .u8 0, .int .u8 0, .int .u8 0, .int .u8 0, .int .u8 0, .int .u8 0, .int .u8 0, .int .u8 0, .int .u8 0, .int .u8 0, .int .u8 0, .int .u8 0, .int .u8 0, .int .u8 0, .int .u8 0, .int .u8 0, .int .u8 0, .int .u8 0, .int .u8 0, .int .u8 0, .int .u8 0, .int .u8 0, .int .u8 0, .int .u8 0, .int .u8 0, .int .u8 0, .int .u8 0, .int .u8 0, .int .u8 0, .int .u8 0, .int .u8 0, .int .u8 0, .int .u8 0, .int .u8 0, .int .u8 0, .int .u8 0, .int .u8 0, .int .u8 0, .int .u8 0, .int .u8 0, .int .u8 0, .int .u8 0, .int .u8 0, .int .u8 0, .int .u8 0, .int .u8 0, .int .u8 0, .int .u8 0, .int .u8 0, .int .u8 0, .int .u8 0, .int .u8 0, .int .u8 0, .int .u8 0, .int .u8 0, .int .u8 0, .int .u8 0, .int .u8 0, .int .u8 0, .int .u8 0, .int .u8 0, .int .u8 0, .int .u8 0, .int .u8 0, .int .u8 0, .int .u8 0, .int .u8 0, .int .u8 0, .int .u8 0, .int .u8 0, .int .u8 0, .int .u8 0, .int .u8 0, .int .u8 0, .int .u8 0, .int .u8 0, .int .u8 0, .int .u8 0, .int .u8 0, .int .u8 0, .int .u8 0, .int .u8 0, .int .u8 0, .int .u8 0, .int .u8 0, .int .u8 0, .int .u8 0, .int .u8 0, .int .u8 0, .int .u8 0, .int .u8 0, .int .u8 0, .int .u8 0, .int .u8 0, .int .u8 0, .int .u8 0, .int .u8 0, .int .u8 0, .int .u8 0, .int .u8 0, .int .u8 0, .int .u8 0, .int .u8 0, .int .u8 0, .int .u8 0, .int .u8 0, .int .u8 0, .int .u8 0, .int .u8 0, .int .u8 0, .int .u8 0, .int .u8 0, .int .u8 0, .int .u8 0, .int .u8 0, .int .u8 0, .int .u8 0, .int .u8 0, .int .u8 0, .int .u8 0, .int .u8 0, .int .u8 0, .int .u8 0, .int .u8 0, .int .u8 0, .int .u8 0, .int .u8 0, .int .u8 0, .int .u8 0]⟩
theorem ok202 : TIok Tryz.prog 202 ti202 := ⟨⟨Tryz.t202, _, by kernel_rfl, rfl, rfl, rfl, rfl⟩, rfl, rfl, ⟨_, Tryz.underlying202, ⟨_, rfl, rfl⟩⟩⟩
def ti203 : TI := ⟨1, 8, .func, [.niln]⟩
theorem ok203 : TIok Tryz.prog 203 ti203 := ⟨⟨Tryz.t203, _, by kernel_rfl, rfl, rfl, rfl, rfl⟩, rfl, rfl, ⟨_, Tryz.underlying203, ⟨_, _, _, rfl⟩⟩⟩
def ti204 : TI := ⟨1, 8, .int .i64, [.int .i64 0]⟩
theorem ok204 : TIok Tryz.prog 204 ti204 := ⟨⟨Tryz.t204, _, by kernel_rfl, rfl, rfl, rfl, rfl⟩, rfl, rfl, ⟨_, Tryz.underlying204, rfl⟩⟩
def ti205 : TI := ⟨1, 8, .func, [.niln]⟩
theorem ok205 : TIok Tryz.prog 205 ti205 := ⟨⟨Tryz.t205, _, by kernel_rfl, rfl, rfl, rfl, rfl⟩, rfl, rfl, ⟨_, Tryz.underlying205, ⟨_, _, _, rfl⟩⟩⟩
def ti206 : TI := ⟨1, 8, .ptr 219, [.nilp]⟩
theorem ok206 : TIok Tryz.prog 206 ti206 := ⟨⟨Tryz.t206, _, by kernel_rfl, rfl, rfl, rfl, rfl⟩, rfl, rfl, ⟨_, Tryz.underlying206, rfl⟩⟩
def ti207 : TI := ⟨1, 8, .func, [.niln]⟩
theorem ok207 : TIok Tryz.prog 207 ti207 := ⟨⟨Tryz.t207, _, by kernel_rfl, rfl, rfl, rfl, rfl⟩, rfl, rfl, ⟨_, Tryz.underlying207, ⟨_, _, _, rfl⟩⟩⟩
def ti208 : TI := ⟨1, 8, .func, [.niln]⟩
theorem ok208 : TIok Tryz.prog 208 ti208 := ⟨⟨Tryz.t208, _, by kernel_rfl, rfl, rfl, rfl, rfl⟩, rfl, rfl, ⟨_, Tryz.underlying208, ⟨_, _, _, rfl⟩⟩⟩
def ti209 : TI := ⟨1, 8, .ptr 150, [.nilp]⟩
theorem ok209 : TIok Tryz.prog 209 ti209 := ⟨⟨Tryz.t209, _, by kernel_rfl, rfl, rfl, rfl, rfl⟩, rfl, rfl, ⟨_, Tryz.underlying209, rfl⟩⟩
def ti210 : TI := ⟨1, 8, .func, [.niln]⟩
theorem ok210 : TIok Tryz.prog 210 ti210 := ⟨⟨Tryz.t210, _, by kernel_rfl, rfl, rfl, rfl, rfl⟩, rfl, rfl, ⟨_, Tryz.underlying210, ⟨_, _, _, rfl⟩⟩⟩
def ti211 : TI := ⟨1, 8, .ptr 21, [.nilp]⟩
theorem ok211 : TIok Tryz.prog 211 ti211 := ⟨⟨Tryz.t211, _, by kernel_rfl, rfl, rfl, rfl, rfl⟩, rfl, rfl, ⟨_, Tryz.underlying211, rfl⟩⟩
def ti212 : TI := ⟨1, 8, .func, [.niln]⟩
theorem ok212 : TIok Tryz.prog 212 ti212 := ⟨⟨Tryz.t212, _, by kernel_rfl, rfl, rfl, rfl, rfl⟩, rfl, rfl, ⟨_, Tryz.underlying212, ⟨_, _, _, rfl⟩⟩⟩
def ti213 : TI := ⟨1, 8, .func, [.niln]⟩
theorem ok213 : TIok Tryz.prog 213 ti213 := ⟨⟨Tryz.t213, _, by kernel_rfl, rfl, rfl, rfl, rfl⟩, rfl, rfl, ⟨_, Tryz.underlying213, ⟨_, _, _, rfl⟩⟩⟩
def ti214 : TI := ⟨1, 8, .func, [.niln]⟩
theorem ok214 : TIok Tryz.prog 214 ti214 := ⟨⟨Tryz.t214, _, by kernel_rfl, rfl, rfl, rfl, rfl⟩, rfl, rfl, ⟨_, Tryz.underlying214, ⟨_, _, _, rfl⟩⟩⟩
def ti215 : TI := ⟨256, 2048, .arr 256 3, [.int .i64 0, .int .i64 0, .int .i64 0, .int .i64 0, .int .i64 0, .int .i64 0, .int .i64 0, .int .i64 0, .int .i64 0, .int .i64 0, .int .i64 0, .int .i64 0, .int .i64 0, .int .i64 0, .int .i64 0, .int .i64 0, .int .i64 0, .int .i64 0, .int .i64 0, .int .i64 0, .int .i64 0, .int .i64 0, .int .i64 0, .int .i64 0, .int .i64 0, .int .i64 0, .int .i64 0, .int .i64 0, .int .i64 0, .int .i64 0, .int .i64 0, .int .i64 0, .int .i64 0, .int .i64 0, .int .i64 0, .int .i64 0, .int .i64 0, .int .i64 0, .int .i64 0, .int .i64 0, .int .i64 0, .int .i64 0, .int .i64 0, .int .i64 0, .int .i64 0, .int .i64 0, .int .i64 0, .int .i64 0, .int .i64 0, .int .i64 0, .int .i64 0, .int .i64 0, .int .i64 0, .int .i64 0, .int .i64 0, .int .i64 0, .int .i64 0, .int .i64 0, .int .i64 0, .int .i64 0, .int .i64 0, .int .i64 0, .int .i64 0, .int .i64 0, .int .i64 0, .int .i64 0, .int .i64 0, .int .i64 0, .int .i64 0, .int .i64 0, .int .i64 0, .int .i64 0, .int .i64 0, .int .i64 0, .int .i64 0, .int .i64 0, .int .i64 0, .int .i64 0, .int .i64 0, .int .i64 0, .int .i64 0, .int .i64 0, .int .i64 0, .int .i64 0, .int .i64 0, .int .i64 0, .int .i64 0, .int .i64 0, .int .i64 0, .int .i64 0, .int .i64 0, .int .i64 0, .int .i64 0, .int .i64 0, .int .i64 0, .int .i64 0, .int .i64 0, .int .i64 0, .int .i64 0, .int .i64 0, .int .i64 0, .int .i64 0, .int .i64 0, .int .i64 0, .int .i64 0, .int .i64 0, .int .i64 0, .int .i64 0, .int .i64 0, .int .i64 0, .int .i64 0, .int .i64 0, .int .i64 0, .int .i64 0, .int .i64 0, .int .i64 0, .int .i64 0, .int .i64 0, .int .i64 0, .int .i64 0, .int .i64 0, .int .i64 0, .int .i64 0, .int .i64 0, .int .i64 0, .int .i64 0, .int .i64 0, .int .i64 0, .int .i64 0, .int .i64 0, .int .i64 0, .int .i64 0, .int .i64 0, .int .i64 0, .int .i64 0, .int .i64 0, .int .i64 0, .int .i64 0, .int .i64 0, .int .i64 0, .int .i64 0, .int .i64 0, .int .i64 0, .int .i64 0, .int .i64 0, .int .i64 0, .int .i64 0, .int .i64 0, .int .i64 0, .int .i64 0, .int .i64 0, .int .i64 0, .int .i64 0, .int .i64 0, .int .i64 0, .int .i64 0, .int .i64 0, .int .i64 0, .int .i64 0, .int .i64 0, .int .i64 0, .int .i64 0, .int .i64 0, .int .i64 0, .int .i64 0, .int .i64 0, .int .i64 0, .int .i64 0, .int .i64 0, .int .i64 0, .int .i64 0, .int .i64 0, .int .i64 0, .int .i64 0, .int .i64 0, .int .i64 0, .int .i64 0, .int .i64 0, .int .i64 0, .int .i64 0, .int .i64 0, .int .i64 0, .int .i64 0, .int .i64 0, .int .i64 0, .int .i64 0, .int .i64 0, .int .i64 0, .int .i64 0, .int .i64 0, .int .i64 0, .int .i64 0, .int .i64 0, .int .i64 0, .int .i64 0, .int .i64 0, .int .i64 0, .int .i64 0, .int .i64 0, .int .i64 0, .int .i64 0, .int .i64 0, .int .i64 0, .int .i64 0, .int .i64 0, .int .i64 0, .int .i64 0, .int .i64 0, .int .i64 0, .int .i64 0, .int .i64 0, .int .i64 0, .int .i64 0, .int .i64 0, .int .i64 0, .int .i64 0, .int .i64 0, .int .i64 0, .int .i64 0, .int .i64 0, .int .i64 0, .int .i64 0, .int .i64 0, .int .i64 0, .int .i64 0, .int .i64 0, .int .i64 0, .int .i64 0, .int .i64 0, .int .i64 0, .int .i64 0, .int .i64 0, .int .i64 0, .int .i64 0, .int .i64 0, .int .i64 0, .int .i64 0, .int .i64 0, .int .i64 0, .int .i64 0, .int .i64 0, .int .i64 0, .int .i64 0, .int .i64 0, .int .i64 0, .int .i64 0, .int .i64 0, .int .i64 0, .int .i64 0, .int .i64 0, .int .i64 0, .int .i64 0, .int .i64 0, .int .i64 0, .int .i64 0, .int .i64 0]⟩
theorem ok215 : TIok Tryz.prog 215 ti215 := ⟨⟨Tryz.t215, _, by kernel_rfl, rfl, rfl, rfl, rfl⟩, rfl, rfl, ⟨_, Tryz.underlying215, rfl⟩⟩
def ti216 : TI := ⟨258, 2088, .struct [(0, 9), (1, 215), (257, 43)], [.str [], .int .i64 0, .int .i64 0, .int .i64 0, .int .i64 0, .int .i64 0, .int .i64 0, .int .i64 0, .int .i64 0, .int .i64 0, .int .i64 0, .int .i64 0, .int .i64 0, .int .i64 0, .int .i64 0, .int .i64 0, .int .i64 0, .int .i64 0, .int .i64 0, .int .i64 0, .int .i64 0, .int .i64 0, .int .i64 0, .int .i64 0, .int .i64 0, .int .i64 0, .int .i64 0, .int .i64 0, .int .i64 0, .int .i64 0, .int .i64 0, .int .i64 0, .int .i64 0, .int .i64 0, .int .i64 0, .int .i64 0, .int .i64 0, .int .i64 0, .int .i64 0, .int .i64 0, .int .i64 0, .int .i64 0, .int .i64 0, .int .i64 0, .int .i64 0, .int .i64 0, .int .i64 0, .int .i64 0, .int .i64 0, .int .i64 0, .int .i64 0, .int .i64 0, .int .i64 0, .int .i64 0, .int .i64 0, .int .i64 0, .int .i64 0, .int .i64 0, .int .i64 0, .int .i64 0, .int .i64 0, .int .i64 0, .int .i64 0, .int .i64 0, .int .i64 0, .int .i64 0, .int .i64 0, .int .i64 0, .int .i64 0, .int .i64 0, .int .i64 0, .int .i64 0, .int .i64 0, .int .i64 0, .int .i64 0, .int .i64 0, .int .i64 0, .int .i64 0, .int .i64 0, .int .i64 0, .int .i64 0, .int .i64 0, .int .i64 0, .int .i64 0, .int .i64 0, .int .i64 0, .int .i64 0, .int .i64 0, .int .i64 0, .int .i64 0, .int .i64 0, .int .i64 0, .int .i64 0, .int .i64 0, .int .i64 0, .int .i64 0, .int .i64 0, .int .i64 0, .int .i64 0, .int .i64 0, .int .i64 0, .int .i64 0, .int .i64 0, .int .i64 0, .int .i64 0, .int .i64 0, .int .i64 0, .int .i64 0, .int .i64 0, .int .i64 0, .int .i64 0, .int .i64 0, .int .i64 0, .int .i64 0, .int .i64 0, .int .i64 0, .int .i64 0, .int .i64 0, .int .i64 0, .int .i64 0, .int .i64 0, .int .i64 0, .int .i64 0, .int .i64 0, .int .i64 0, .int .i64 0, .int .i64 0, .int .i64 0, .int .i64 0, .int .i64 0, .int .i64 0, .int .i64 0, .int .i64 0, .int .i64 0, .int .i64 0, .int .i64 0, .int .i64 0, .int .i64 0, .int .i64 0, .int .i64 0, .int .i64 0, .int .i64 0, .int .i64 0, .int .i64 0, .int .i64 0, .int .i64 0, .int .i64 0, .int .i64 0, .int .i64 0, .int .i64 0, .int .i64 0, .int .i64 0, .int .i64 0, .int .i64 0, .int .i64 0, .int .i64 0, .int .i64 0, .int .i64 0, .int .i64 0, .int .i64 0, .int .i64 0, .int .i64 0, .int .i64 0, .int .i64 0, .int .i64 0, .int .i64 0, .int .i64 0, .int .i64 0, .int .i64 0, .int .i64 0, .int .i64 0, .int .i64 0, .int .i64 0, .int .i64 0, .int .i64 0, .int .i64 0, .int .i64 0, .int .i64 0, .int .i64 0, .int .i64 0, .int .i64 0, .int .i64 0, .int .i64 0, .int .i64 0, .int .i64 0, .int .i64 0, .int .i64 0, .int .i64 0, .int .i64 0, .int .i64 0, .int .i64 0, .int .i64 0, .int .i64 0, .int .i64 0, .int .i64 0, .int .i64 0, .int .i64 0, .int .i64 0, .int .i64 0, .int .i64 0, .int .i64 0, .int .i64 0, .int .i64 0, .int .i64 0, .int .i64 0, .int .i64 0, .int .i64 0, .int .i64 0, .int .i64 0, .int .i64 0, .int .i64 0, .int .i64 0, .int .i64 0, .int .i64 0, .int .i64 0, .int .i64 0, .int .i64 0, .int .i64 0, .int .i64 0, .int .i64 0, .int .i64 0, .int .i64 0, .int .i64 0, .int .i64 0, .int .i64 0, .int .i64 0, .int .i64 0, .int .i64 0, .int .i64 0, .int .i64 0, .int .i64 0, .int .i64 0, .int .i64 0, .int .i64 0, .int .i64 0, .int .i64 0, .int .i64 0, .int .i64 0, .int .i64 0, .int .i64 0, .int .i64 0, .int .i64 0, .int .i64 0, .int .i64 0, .int .i64 0, .int .i64 0, .int .i64 0, .int .i64 0, .int .i64 0, .int .i64 0, .int .i64 0, .int .i64 0, .int .i64 0, .int .i64 0, .int .i64 0, .int .i64 0, .int .i64 0, .nils]⟩
theorem ok216 : TIok Tryz.prog 216 ti216 := ⟨⟨Tryz.t216, _, by kernel_rfl, rfl, rfl, rfl, rfl⟩, rfl, rfl, ⟨_, Tryz.underlying216, ⟨_, rfl, rfl⟩⟩⟩
def ti217 : TI := ⟨258, 2088, .struct [(0, 9), (1, 215), (257, 43)], [.str [], .int .i64 0, .int .i64 0, .int .i64 0, .int .i64 0, .int .i64 0, .int .i64 0, .int .i64 0, .int .i64 0, .int .i64 0, .int .i64 0, .int .i64 0, .int .i64 0, .int .i64 0, .int .i64 0, .int .i64 0, .int .i64 0, .int .i64 0, .int .i64 0, .int .i64 0, .int .i64 0, .int .i64 0, .int .i64 0, .int .i64 0, .int .i64 0, .int .i64 0, .int .i64 0, .int .i64 0, .int .i64 0, .int .i64 0, .int .i64 0, .int .i64 0, .int .i64 0, .int .i64 0, .int .i64 0, .int .i64 0, .int .i64 0, .int .i64 0, .int .i64 0, .int .i64 0, .int .i64 0, .int .i64 0, .int .i64 0, .int .i64 0, .int .i64 0, .int .i64 0, .int .i64 0, .int .i64 0, .int .i64 0, .int .i64 0, .int .i64 0, .int .i64 0, .int .i64 0, .int .i64 0, .int .i64 0, .int .i64 0, .int .i64 0, .int .i64 0, .int .i64 0, .int .i64 0, .int .i64 0, .int .i64 0, .int .i64 0, .int .i64 0, .int .i64 0, .int .i64 0, .int .i64 0, .int .i64 0, .int .i64 0, .int .i64 0, .int .i64 0, .int .i64 0, .int .i64 0, .int .i64 0, .int .i64 0, .int .i64 0, .int .i64 0, .int .i64 0, .int .i64 0, .int .i64 0, .int .i64 0, .int .i64 0, .int .i64 0, .int .i64 0, .int .i64 0, .int .i64 0, .int .i64 0, .int .i64 0, .int .i64 0, .int .i64 0, .int .i64 0, .int .i64 0, .int .i64 0, .int .i64 0, .int .i64 0, .int .i64 0, .int .i64 0, .int .i64 0, .int .i64 0, .int .i64 0, .int .i64 0, .int .i64 0, .int .i64 0, .int .i64 0, .int .i64 0, .int .i64 0, .int .i64 0, .int .i64 0, .int .i64 0, .int .i64 0, .int .i64 0, .int .i64 0, .int .i64 0, .int .i64 0, .int .i64 0, .int .i64 0, .int .i64 0, .int .i64 0, .int .i64 0, .int .i64 0, .int .i64 0, .int .i64 0, .int .i64 0, .int .i64 0, .int .i64 0, .int .i64 0, .int .i64 0, .int .i64 0, .int .i64 0, .int .i64 0, .int .i64 0, .int .i64 0, .int .i64 0, .int .i64 0, .int .i64 0, .int .i64 0, .int .i64 0, .int .i64 0, .int .i64 0, .int .i64 0, .int .i64 0, .int .i64 0, .int .i64 0, .int .i64 0, .int .i64 0, .int .i64 0, .int .i64 0, .int .i64 0, .int .i64 0, .int .i64 0, .int .i64 0, .int .i64 0, .int .i64 0, .int .i64 0, .int .i64 0, .int .i64 0, .int .i64 0, .int .i64 0, .int .i64 0, .int .i64 0, .int .i64 0, .int .i64 0, .int .i64 0, .int .i64 0, .int .i64 0, .int .i64 0, .int .i64 0, .int .i64 0, .int .i64 0, .int .i64 0, .int .i64 0, .int .i64 0, .int .i64 0, .int .i64 0, .int .i64 0, .int .i64 0, .int .i64 0, .int .i64 0, .int .i64 0, .int .i64 0, .int .i64 0, .int .i64 0, .int .i64 0, .int .i64 0, .int .i64 0, .int .i64 0, .int .i64 0, .int .i64 0, .int .i64 0, .int .i64 0, .int .i64 0, .int .i64 0, .int .i64 0, .int .i64 0, .int .i64 0, .int .i64 0, .int .i64 0, .int .i64 0, .int .i64 0, .int .i64 0, .int .i64 0, .int .i64 0, .int .i64 0, .int .i64 0, .int .i64 0, .int .i64 0, .int .i64 0, .int .i64 0, .int .i64 0, .int .i64 0, .int .i64 0, .int .i64 0, .int .i64 0, .int .i64 0, .int .i64 0, .int .i64 0, .int .i64 0, .int .i64 0, .int .i64 0, .int .i64 0, .int .i64 0, .int .i64 0, .int .i64 0, .int .i64 0, .int .i64 0, .int .i64 0, .int .i64 0, .int .i64 0, .int .i64 0, .int .i64 0, .int .i64 0, .int .i64 0, .int .i64 0, .int .i64 0, .int .i64 0, .int .i64 0, .int .i64 0, .int .i64 0, .int .i64 0, .int .i64 0, .int .i64 0, .int .i64 0, .int .i64 0, .int .i64 0, .int .i64 0, .int .i64 0, .int .i64 0, .int .i64 0, .int .i64 0, .int .i64 0, .int .i64 0, .int .i64 0, .int .i64 0, .int .i64 0, .int .i64 0, .int .i64 0, .int .i64 0, .nils]⟩
theorem ok217 : TIok Tryz.prog 217 ti217 := ⟨⟨Tryz.t217, _, by kernel_rfl, rfl, rfl, rfl, rfl⟩, rfl, rfl, ⟨_, Tryz.underlying217, ⟨_, rfl, rfl⟩⟩⟩
def ti218 : TI := ⟨3, 48, .struct [(0, 9), (1, 9), (2, 122)], [.str [], .str [], .nili]⟩
theorem ok218 : TIok Tryz.prog 218 ti218 := ⟨⟨Tryz.t218, _, by kernel_rfl, rfl, rfl, rfl, rfl⟩, rfl, rfl, ⟨_, Tryz.underlying218, ⟨_, rfl, rfl⟩⟩⟩
def ti219 : TI := ⟨3, 48, .struct [(0, 9), (1, 9), (2, 122)], [.str [], .str [], .nili]⟩
theorem ok219 : TIok Tryz.prog 219 ti219 := ⟨⟨Tryz.t219, _, by kernel_rfl, rfl, rfl, rfl, rfl⟩, rfl, rfl, ⟨_, Tryz.underlying219, ⟨_, rfl, rfl⟩⟩⟩
def ti220 : TI := ⟨1, 8, .func, [.niln]⟩
theorem ok220 : TIok Tryz.prog 220 ti220 := ⟨⟨Tryz.t220, _, by kernel_rfl, rfl, rfl, rfl, rfl⟩, rfl, rfl, ⟨_, Tryz.underlying220, ⟨_, _, _, rfl⟩⟩⟩
def ti221 : TI := ⟨1, 8, .func, [.niln]⟩
theorem ok221 : TIok Tryz.prog 221 ti221 := ⟨⟨Tryz.t221, _, by kernel_rfl, rfl, rfl, rfl, rfl⟩, rfl, rfl, ⟨_, Tryz.underlying221, ⟨_, _, _, rfl⟩⟩⟩
def ti222 : TI := ⟨1, 8, .func, [.niln]⟩
theorem ok222 : TIok Tryz.prog 222 ti222 := ⟨⟨Tryz.t222, _, by kernel_rfl, rfl, rfl, rfl, rfl⟩, rfl, rfl, ⟨_, Tryz.underlying222, ⟨_, _, _, rfl⟩⟩⟩
def ti223 : TI := ⟨1, 8, .func, [.niln]⟩
theorem ok223 : TIok Tryz.prog 223 ti223 := ⟨⟨Tryz.t223, _, by kernel_rfl, rfl, rfl, rfl, rfl⟩, rfl, rfl, ⟨_, Tryz.underlying223, ⟨_, _, _, rfl⟩⟩⟩
def ti224 : TI := ⟨1, 8, .ptr 226, [.nilp]⟩
theorem ok224 : TIok Tryz.prog 224 ti224 := ⟨⟨Tryz.t224, _, by kernel_rfl, rfl, rfl, rfl, rfl⟩, rfl, rfl, ⟨_, Tryz.underlying224, rfl⟩⟩
def ti225 : TI := ⟨1, 16, .struct [(0, 9)], [.str []]⟩
theorem ok225 : TIok Tryz.prog 225 ti225 := ⟨⟨Tryz.t225, _, by kernel_rfl, rfl, rfl, rfl, rfl⟩, rfl, rfl, ⟨_, Tryz.underlying225, ⟨_, rfl, rfl⟩⟩⟩
def ti226 : TI := ⟨1, 16, .struct [(0, 9)], [.str []]⟩
theorem ok226 : TIok Tryz.prog 226 ti226 := ⟨⟨Tryz.t226, _, by kernel_rfl, rfl, rfl, rfl, rfl⟩, rfl, rfl, ⟨_, Tryz.underlying226, ⟨_, rfl, rfl⟩⟩⟩
def ti227 : TI := ⟨1, 8, .func, [.niln]⟩
theorem ok227 : TIok Tryz.prog 227 ti227 := ⟨⟨Tryz.t227, _, by kernel_rfl, rfl, rfl, rfl, rfl⟩, rfl, rfl, ⟨_, Tryz.underlying227, ⟨_, _, _, rfl⟩⟩⟩
def ti228 : TI := ⟨24, 24, .arr 24 5, [.int .u8 0, .int .u8 0, .int .u8 0, .int .u8 0, .int .u8 0, .int .u8 0, .int .u8 0, .int .u8 0, .int .u8 0, .int .u8 0, .int .u8 0, .int .u8 0, .int .u8 0, .int .u8 0, .int .u8 0, .int .u8 0, .int .u8 0, .int .u8 0, .int .u8 0, .int .u8 0, .int .u8 0, .int .u8 0, .int .u8 0, .int .u8 0]⟩
theorem ok228 : TIok Tryz.prog 228 ti228 := ⟨⟨Tryz.t228, _, by kernel_rfl, rfl, rfl, rfl, rfl⟩, rfl, rfl, ⟨_, Tryz.underlying228, rfl⟩⟩
def ti229 : TI := ⟨1, 8, .func, [.niln]⟩
theorem ok229 : TIok Tryz.prog 229 ti229 := ⟨⟨Tryz.t229, _, by kernel_rfl, rfl, rfl, rfl, rfl⟩, rfl, rfl, ⟨_, Tryz.underlying229, ⟨_, _, _, rfl⟩⟩⟩
def ti230 : TI := ⟨1, 8, .func, [.niln]⟩
theorem ok230 : TIok Tryz.prog 230 ti230 := ⟨⟨Tryz.t230, _, by kernel_rfl, rfl, rfl, rfl, rfl⟩, rfl, rfl, ⟨_, Tryz.underlying230, ⟨_, _, _, rfl⟩⟩⟩
def ti232 : TI := ⟨1, 8, .func, [.niln]⟩
theorem ok232 : TIok Tryz.prog 232 ti232 := ⟨⟨Tryz.t232, _, by kernel_rfl, rfl, rfl, rfl, rfl⟩, rfl, rfl, ⟨_, Tryz.underlying232, ⟨_, _, _, rfl⟩⟩⟩
def ti233 : TI := ⟨1, 8, .func, [.niln]⟩
theorem ok233 : TIok Tryz.prog 233 ti233 := ⟨⟨Tryz.t233, _, by kernel_rfl, rfl, rfl, rfl, rfl⟩, rfl, rfl, ⟨_, Tryz.underlying233, ⟨_, _, _, rfl⟩⟩⟩
def ti234 : TI := ⟨20, 160, .arr 20 127, [.int .u64 0, .int .u64 0, .int .u64 0, .int .u64 0, .int .u64 0, .int .u64 0, .int .u64 0, .int .u64 0, .int .u64 0, .int .u64 0, .int .u64 0, .int .u64 0, .int .u64 0, .int .u64 0, .int .u64 0, .int .u64 0, .int .u64 0, .int .u64 0, .int .u64 0, .int .u64 0]⟩
theorem ok234 : TIok Tryz.prog 234 ti234 := ⟨⟨Tryz.t234, _, by kernel_rfl, rfl, rfl, rfl, rfl⟩, rfl, rfl, ⟨_, Tryz.underlying234, rfl⟩⟩
def ti235 : TI := ⟨65, 65, .arr 65 5, [.int .u8 0, .int .u8 0, .int .u8 0, .int .u8 0, .int .u8 0, .int .u8 0, .int .u8 0, .int .u8 0, .int .u8 0, .int .u8 0, .int .u8 0, .int .u8 0, .int .u8 0, .int .u8 0, .int .u8 0, .int .u8 0, .int .u8 0, .int .u8 0, .int .u8 0, .int .u8 0, .int .u8 0, .int .u8 0, .int .u8 0, .int .u8 0, .int .u8 0, .int .u8 0, .int .u8 0, .int .u8 0, .int .u8 0, .int .u8 0, .int .u8 0, .int .u8 0, .int .u8 0, .int .u8 0, .int .u8 0, .int .u8 0, .int .u8 0, .int .u8 0, .int .u8 0, .int .u8 0, .int .u8 0, .int .u8 0, .int .u8 0, .int .u8 0, .int .u8 0, .int .u8 0, .int .u8 0, .int .u8 0, .int .u8 0, .int .u8 0, .int .u8 0, .int .u8 0, .int .u8 0, .int .u8 0, .int .u8 0, .int .u8 0, .int .u8 0, .int .u8 0, .int .u8 0, .int .u8 0, .int .u8 0, .int .u8 0, .int .u8 0, .int .u8 0, .int .u8 0]⟩
theorem ok235 : TIok Tryz.prog 235 ti235 := ⟨⟨Tryz.t235, _, by kernel_rfl, rfl, rfl, rfl, rfl⟩, rfl, rfl, ⟨_, Tryz.underlying235, rfl⟩⟩
def ti236 : TI := ⟨1, 8, .func, [.niln]⟩
theorem ok236 : TIok Tryz.prog 236 ti236 := ⟨⟨Tryz.t236, _, by kernel_rfl, rfl, rfl, rfl, rfl⟩, rfl, rfl, ⟨_, Tryz.underlying236, ⟨_, _, _, rfl⟩⟩⟩
def ti237 : TI := ⟨1, 8, .func, [.niln]⟩
theorem ok237 : TIok Tryz.prog 237 ti237 := ⟨⟨Tryz.t237, _, by kernel_rfl, rfl, rfl, rfl, rfl⟩, rfl, rfl, ⟨_, Tryz.underlying237, ⟨_, _, _, rfl⟩⟩⟩
def ti238 : TI := ⟨32, 32, .arr 32 5, [.int .u8 0, .int .u8 0, .int .u8 0, .int .u8 0, .int .u8 0, .int .u8 0, .int .u8 0, .int .u8 0, .int .u8 0, .int .u8 0, .int .u8 0, .int .u8 0, .int .u8 0, .int .u8 0, .int .u8 0, .int .u8 0, .int .u8 0, .int .u8 0, .int .u8 0, .int .u8 0, .int .u8 0, .int .u8 0, .int .u8 0, .int .u8 0, .int .u8 0, .int .u8 0, .int .u8 0, .int .u8 0, .int .u8 0, .int .u8 0, .int .u8 0, .int .u8 0]⟩
theorem ok238 : TIok Tryz.prog 238 ti238 := ⟨⟨Tryz.t238, _, by kernel_rfl, rfl, rfl, rfl, rfl⟩, rfl, rfl, ⟨_, Tryz.underlying238, rfl⟩⟩
def ti239 : TI := ⟨64, 64, .arr 64 5, [.int .u8 0, .int .u8 0, .int .u8 0, .int .u8 0, .int .u8 0, .int .u8 0, .int .u8 0, .int .u8 0, .int .u8 0, .int .u8 0, .int .u8 0, .int .u8 0, .int .u8 0, .int .u8 0, .int .u8 0, .int .u8 0, .int .u8 0, .int .u8 0, .int .u8 0, .int .u8 0, .int .u8 0, .int .u8 0, .int .u8 0, .int .u8 0, .int .u8 0, .int .u8 0, .int .u8 0, .int .u8 0, .int .u8 0, .int .u8 0, .int .u8 0, .int .u8 0, .int .u8 0, .int .u8 0, .int .u8 0, .int .u8 0, .int .u8 0, .int .u8 0, .int .u8 0, .int .u8 0, .int .u8 0, .int .u8 0, .int .u8 0, .int .u8 0, .int .u8 0, .int .u8 0, .int .u8 0, .int .u8 0, .int .u8 0, .int .u8 0, .int .u8 0, .int .u8 0, .int .u8 0, .int .u8 0, .int .u8 0, .int .u8 0, .int .u8 0, .int .u8 0, .int .u8 0, .int .u8 0, .int .u8 0, .int .u8 0, .int .u8 0, .int .u8 0]⟩
theorem ok239 : TIok Tryz.prog 239 ti239 := ⟨⟨Tryz.t239, _, by kernel_rfl, rfl, rfl, rfl, rfl⟩, rfl, rfl, ⟨_, Tryz.underlying239, rfl⟩⟩
def ti240 : TI := ⟨4, 40, .struct [(0, 17), (1, 17), (2, 17), (3, 9)], [.nilp, .nilp, .nilp, .str []]⟩
theorem ok240 : TIok Tryz.prog 240 ti240 := ⟨⟨Tryz.t240, _, by kernel_rfl, rfl, rfl, rfl, rfl⟩, rfl, rfl, ⟨_, Tryz.underlying240, ⟨_, rfl, rfl⟩⟩⟩
def ti241 : TI := ⟨4, 40, .struct [(0, 17), (1, 17), (2, 17), (3, 9)], [.nilp, .nilp, .nilp, .str []]⟩
theorem ok241 : TIok Tryz.prog 241 ti241 := ⟨⟨Tryz.t241, _, by kernel_rfl, rfl, rfl, rfl, rfl⟩, rfl, rfl, ⟨_, Tryz.underlying241, ⟨_, rfl, rfl⟩⟩⟩
def ti242 : TI := ⟨0, 0, .arr 0 16, []⟩
theorem ok242 : TIok Tryz.prog 242 ti242 := ⟨⟨Tryz.t242, _, by kernel_rfl, rfl, rfl, rfl, rfl⟩, rfl, rfl, ⟨_, Tryz.underlying242, rfl⟩⟩
def ti243 : TI := ⟨0, 0, .struct [(0, 242)], []⟩
theorem ok243 : TIok Tryz.prog 243 ti243 := ⟨⟨Tryz.t243, _, by kernel_rfl, rfl, rfl, rfl, rfl⟩, rfl, rfl, ⟨_, Tryz.underlying243, ⟨_, rfl, rfl⟩⟩⟩
def ti244 : TI := ⟨0, 0, .struct [(0, 242)], []⟩
theorem ok244 : TIok Tryz.prog 244 ti244 := ⟨⟨Tryz.t244, _, by kernel_rfl, rfl, rfl, rfl, rfl⟩, rfl, rfl, ⟨_, Tryz.underlying244, ⟨_, rfl, rfl⟩⟩⟩
def ti245 : TI := ⟨1, 1, .int .u8, [.int .u8 0]⟩
theorem ok245 : TIok Tryz.prog 245 ti245 := ⟨⟨Tryz.t245, _, by kernel_rfl, rfl, rfl, rfl, rfl⟩, rfl, rfl, ⟨_, Tryz.underlying245, rfl⟩⟩
def ti246 : TI := ⟨1, 1, .int .u8, [.int .u8 0]⟩
theorem ok246 : TIok Tryz.prog 246 ti246 := ⟨⟨Tryz.t246, _, by kernel_rfl, rfl, rfl, rfl, rfl⟩, rfl, rfl, ⟨_, Tryz.underlying246, rfl⟩⟩
def ti247 : TI := ⟨1, 8, .func, [.niln]⟩
theorem ok247 : TIok Tryz.prog 247 ti247 := ⟨⟨Tryz.t247, _, by kernel_rfl, rfl, rfl, rfl, rfl⟩, rfl, rfl, ⟨_, Tryz.underlying247, ⟨_, _, _, rfl⟩⟩⟩
def ti248 : TI := ⟨1, 4, .int .i32, [.int .i32 0]⟩
theorem ok248 : TIok Tryz.prog 248 ti248 := ⟨⟨Tryz.t248, _, by kernel_rfl, rfl, rfl, rfl, rfl⟩, rfl, rfl, ⟨_, Tryz.underlying248, rfl⟩⟩
def ti249 : TI := ⟨1, 4, .int .i32, [.int .i32 0]⟩
theorem ok249 : TIok Tryz.prog 249 ti249 := ⟨⟨Tryz.t249, _, by kernel_rfl, rfl, rfl, rfl, rfl⟩, rfl, rfl, ⟨_, Tryz.underlying249, rfl⟩⟩
def ti250 : TI := ⟨11, 48, .struct [(0, 12), (1, 12), (2, 146), (3, 245), (4, 5), (5, 5), (6, 246), (7, 247), (8, 102), (9, 248), (10, 249)], [.int .u64 0, .int .u64 0, .int .u32 0, .int .u8 0, .int .u8 0, .int .u8 0, .int .u8 0, .niln, .nilp, .int .i32 0, .int .i32 0]⟩
theorem ok250 : TIok Tryz.prog 250 ti250 := ⟨⟨Tryz.t250, _, by kernel_rfl, rfl, rfl, rfl, rfl⟩, rfl, rfl, ⟨_, Tryz.underlying250, ⟨_, rfl, rfl⟩⟩⟩
def ti251 : TI := ⟨11, 48, .struct [(0, 12), (1, 12), (2, 146), (3, 245), (4, 5), (5, 5), (6, 246), (7, 247), (8, 102), (9, 248), (10, 249)], [.int .u64 0, .int .u64 0, .int .u32 0, .int .u8 0, .int .u8 0, .int .u8 0, .int .u8 0, .niln, .nilp, .int .i32 0, .int .i32 0]⟩
theorem ok251 : TIok Tryz.prog 251 ti251 := ⟨⟨Tryz.t251, _, by kernel_rfl, rfl, rfl, rfl, rfl⟩, rfl, rfl, ⟨_, Tryz.underlying251, ⟨_, rfl, rfl⟩⟩⟩
def ti252 : TI := ⟨1, 8, .func, [.niln]⟩
theorem ok252 : TIok Tryz.prog 252 ti252 := ⟨⟨Tryz.t252, _, by kernel_rfl, rfl, rfl, rfl, rfl⟩, rfl, rfl, ⟨_, Tryz.underlying252, ⟨_, _, _, rfl⟩⟩⟩
def ti253 : TI := ⟨1, 8, .func, [.niln]⟩
theorem ok253 : TIok Tryz.prog 253 ti253 := ⟨⟨Tryz.t253, _, by kernel_rfl, rfl, rfl, rfl, rfl⟩, rfl, rfl, ⟨_, Tryz.underlying253, ⟨_, _, _, rfl⟩⟩⟩
def ti254 : TI := ⟨1, 24, .slice 5, [.nils]⟩
theorem ok254 : TIok Tryz.prog 254 ti254 := ⟨⟨Tryz.t254, _, by kernel_rfl, rfl, rfl, rfl, rfl⟩, rfl, rfl, ⟨_, Tryz.underlying254, rfl⟩⟩
def ti255 : TI := ⟨1, 8, .ptr 254, [.nilp]⟩
theorem ok255 : TIok Tryz.prog 255 ti255 := ⟨⟨Tryz.t255, _, by kernel_rfl, rfl, rfl, rfl, rfl⟩, rfl, rfl, ⟨_, Tryz.underlying255, rfl⟩⟩
def ti256 : TI := ⟨1, 16, .iface, [.nili]⟩
theorem ok256 : TIok Tryz.prog 256 ti256 := ⟨⟨Tryz.t256, _, by kernel_rfl, rfl, rfl, rfl, rfl⟩, rfl, rfl, ⟨_, Tryz.underlying256, ⟨_, rfl⟩⟩⟩
def ti257 : TI := ⟨1, 16, .iface, [.nili]⟩
theorem ok257 : TIok Tryz.prog 257 ti257 := ⟨⟨Tryz.t257, _, by kernel_rfl, rfl, rfl, rfl, rfl⟩, rfl, rfl, ⟨_, Tryz.underlying257, ⟨_, rfl⟩⟩⟩
def ti258 : TI := ⟨1, 16, .iface, [.nili]⟩
theorem ok258 : TIok Tryz.prog 258 ti258 := ⟨⟨Tryz.t258, _, by kernel_rfl, rfl, rfl, rfl, rfl⟩, rfl, rfl, ⟨_, Tryz.underlying258, ⟨_, rfl⟩⟩⟩
def ti259 : TI := ⟨1, 16, .iface, [.nili]⟩
theorem ok259 : TIok Tryz.prog 259 ti259 := ⟨⟨Tryz.t259, _, by kernel_rfl, rfl, rfl, rfl, rfl⟩, rfl, rfl, ⟨_, Tryz.underlying259, ⟨_, rfl⟩⟩⟩
def ti260 : TI := ⟨1, 8, .func, [.niln]⟩
theorem ok260 : TIok Tryz.prog 260 ti260 := ⟨⟨Tryz.t260, _, by kernel_rfl, rfl, rfl, rfl, rfl⟩, rfl, rfl, ⟨_, Tryz.underlying260, ⟨_, _, _, rfl⟩⟩⟩
def ti262 : TI := ⟨1, 8, .func, [.niln]⟩
theorem ok262 : TIok Tryz.prog 262 ti262 := ⟨⟨Tryz.t262, _, by kernel_rfl, rfl, rfl, rfl, rfl⟩, rfl, rfl, ⟨_, Tryz.underlying262, ⟨_, _, _, rfl⟩⟩⟩
def ti264 : TI := ⟨1, 16, .struct [(0, 257)], [.nili]⟩
theorem ok264 : TIok Tryz.prog 264 ti264 := ⟨⟨Tryz.t264, _, by kernel_rfl, rfl, rfl, rfl, rfl⟩, rfl, rfl, ⟨_, Tryz.underlying264, ⟨_, rfl, rfl⟩⟩⟩
def ti265 : TI := ⟨1, 16, .struct [(0, 257)], [.nili]⟩
theorem ok265 : TIok Tryz.prog 265 ti265 := ⟨⟨Tryz.t265, _, by kernel_rfl, rfl, rfl, rfl, rfl⟩, rfl, rfl, ⟨_, Tryz.underlying265, ⟨_, rfl, rfl⟩⟩⟩
def ti266 : TI := ⟨1, 8, .func, [.niln]⟩
theorem ok266 : TIok Tryz.prog 266 ti266 := ⟨⟨Tryz.t266, _, by kernel_rfl, rfl, rfl, rfl, rfl⟩, rfl, rfl, ⟨_, Tryz.underlying266, ⟨_, _, _, rfl⟩⟩⟩
def ttl : List (Nat × TI) := [(1, ti1), (2, ti2), (3, ti3), (4, ti4), (5, ti5), (6, ti6), (7, ti7), (8, ti8), (9, ti9), (10, ti10), (11, ti11), (12, ti12), (13, ti13), (14, ti14), (15, ti15), (16, ti16), (17, ti17), (18, ti18), (19, ti19), (20, ti20), (21, ti21), (22, ti22), (23, ti23), (24, ti24), (26, ti26), (27, ti27), (28, ti28), (29, ti29), (30, ti30), (31, ti31), (32, ti32), (33, ti33), (34, ti34), (36, ti36), (37, ti37), (38, ti38), (39, ti39), (40, ti40), (41, ti41), (42, ti42), (43, ti43), (44, ti44), (45, ti45), (46, ti46), (47, ti47), (48, ti48), (49, ti49), (51, ti51), (52, ti52), (53, ti53), (54, ti54), (55, ti55), (57, ti57), (58, ti58), (59, ti59), (60, ti60), (61, ti61), (62, ti62), (63, ti63), (64, ti64), (65, ti65), (66, ti66), (67, ti67), (68, ti68), (69, ti69), (70, ti70), (71, ti71), (72, ti72), (73, ti73), (74, ti74), (75, ti75), (76, ti76), (77, ti77), (78, ti78), (79, ti79), (80, ti80), (81, ti81), (82, ti82), (83, ti83), (84, ti84), (85, ti85), (86, ti86), (87, ti87), (88, ti88), (90, ti90), (91, ti91), (92, ti92), (93, ti93), (94, ti94), (95, ti95), (97, ti97), (98, ti98), (99, ti99), (100, ti100), (101, ti101), (102, ti102), (103, ti103), (104, ti104), (105, ti105), (106, ti106), (107, ti107), (108, ti108), (110, ti110), (111, ti111), (112, ti112), (113, ti113), (115, ti115), (117, ti117), (118, ti118), (119, ti119), (120, ti120), (121, ti121), (122, ti122), (124, ti124), (125, ti125), (126, ti126), (127, ti127), (128, ti128), (129, ti129), (131, ti131), (132, ti132), (133, ti133), (134, ti134), (135, ti135), (136, ti136), (137, ti137), (139, ti139), (140, ti140), (141, ti141), (142, ti142), (143, ti143), (144, ti144), (145, ti145), (146, ti146), (147, ti147), (148, ti148), (149, ti149), (150, ti150), (151, ti151), (152, ti152), (153, ti153), (154, ti154), (155, ti155), (156, ti156), (157, ti157), (158, ti158), (159, ti159), (160, ti160), (161, ti161), (163, ti163), (164, ti164), (165, ti165), (166, ti166), (167, ti167), (168, ti168), (170, ti170), (171, ti171), (172, ti172), (173, ti173), (174, ti174), (175, ti175), (176, ti176), (177, ti177), (178, ti178), (179, ti179), (180, ti180), (181, ti181), (182, ti182), (183, ti183), (184, ti184), (185, ti185), (186, ti186), (187, ti187), (189, ti189), (190, ti190), (191, ti191), (192, ti192), (193, ti193), (194, ti194), (195, ti195), (196, ti196), (197, ti197), (198, ti198), (199, ti199), (200, ti200), (201, ti201), (202, ti202), (203, ti203), (204, ti204), (205, ti205), (206, ti206), (207, ti207), (208, ti208), (209, ti209), (210, ti210), (211, ti211), (212, ti212), (213, ti213), (214, ti214), (215, ti215), (216, ti216), (217, ti217), (218, ti218), (219, ti219), (220, ti220), (221, ti221), (222, ti222), (223, ti223), (224, ti224), (225, ti225), (226, ti226), (227, ti227), (228, ti228), (229, ti229), (230, ti230), (232, ti232), (233, ti233), (234, ti234), (235, ti235), (236, ti236), (237, ti237), (238, ti238), (239, ti239), (240, ti240), (241, ti241), (242, ti242), (243, ti243), (244, ti244), (245, ti245), (246, ti246), (247, ti247), (248, ti248), (249, ti249), (250, ti250), (251, ti251), (252, ti252), (253, ti253), (254, ti254), (255, ti255), (256, ti256), (257, ti257), (258, ti258), (259, ti259), (260, ti260), (262, ti262), (264, ti264), (265, ti265), (266, ti266)]
def tt : TT := fun t => lookT t ttl
theorem tok : TOK Tryz.prog tt := tok_of_all ⟨ok1, ok2, ok3, ok4, ok5, ok6, ok7, ok8, ok9, ok10, ok11, ok12, ok13, ok14, ok15, ok16, ok17, ok18, ok19, ok20, ok21, ok22, ok23, ok24, ok26, ok27, ok28, ok29, ok30, ok31, ok32, ok33, ok34, ok36, ok37, ok38, ok39, ok40, ok41, ok42, ok43, ok44, ok45, ok46, ok47, ok48, ok49, ok51, ok52, ok53, ok54, ok55, ok57, ok58, ok59, ok60, ok61, ok62, ok63, ok64, ok65, ok66, ok67, ok68, ok69, ok70, ok71, ok72, ok73, ok74, ok75, ok76, ok77, ok78, ok79, ok80, ok81, ok82, ok83, ok84, ok85, ok86, ok87, ok88, ok90, ok91, ok92, ok93, ok94, ok95, ok97, ok98, ok99, ok100, ok101, ok102, ok103, ok104, ok105, ok106, ok107, ok108, ok110, ok111, ok112, ok113, ok115, ok117, ok118, ok119, ok120, ok121, ok122, ok124, ok125, ok126, ok127, ok128, ok129, ok131, ok132, ok133, ok134, ok135, ok136, ok137, ok139, ok140, ok141, ok142, ok143, ok144, ok145, ok146, ok147, ok148, ok149, ok150, ok151, ok152, ok153, ok154, ok155, ok156, ok157, ok158, ok159, ok160, ok161, ok163, ok164, ok165, ok166, ok167, ok168, ok170, ok171, ok172, ok173, ok174, ok175, ok176, ok177, ok178, ok179, ok180, ok181, ok182, ok183, ok184, ok185, ok186, ok187, ok189, ok190, ok191, ok192, ok193, ok194, ok195, ok196, ok197, ok198, ok199, ok200, ok201, ok202, ok203, ok204, ok205, ok206, ok207, ok208, ok209, ok210, ok211, ok212, ok213, ok214, ok215, ok216, ok217, ok218, ok219, ok220, ok221, ok222, ok223, ok224, ok225, ok226, ok227, ok228, ok229, ok230, ok232, ok233, ok234, ok235, ok236, ok237, ok238, ok239, ok240, ok241, ok242, ok243, ok244, ok245, ok246, ok247, ok248, ok249, ok250, ok251, ok252, ok253, ok254, ok255, ok256, ok257, ok258, ok259, ok260, ok262, ok264, ok265, ok266, trivial⟩
end Go.Ab.Sz
namespace Go.Ab.Sz
open Go Go.Ab Go.Proofs
set_option maxRecDepth 20000
/-- gosem.cut.init -/
def c2 : CF := ⟨1, [], .ops [⟨some 0, none, .call (.k (.fn (.func 1) [] [])) []⟩]⟩
/-- comptoir/comptoirlaw07.TokenTells -/
def c3 : CF := ⟨32, [.t 2], .seq (.ops [⟨some 2, none, .mv (.k (.bool false))⟩]) (.seq (.seq (.ops [⟨some 7, none, .mv (.t 0)⟩,
  ⟨some 8, none, .lens (.t 7)⟩,
  ⟨some 9, none, .bin .gtr (.int .i64) true (.t 8) (.k (.int .i64 5000))⟩]) (.cond (.t 9) (.seq (.ops [⟨some 10, none, .call (.k (.fn (.func 11) [] [])) []⟩,
  ⟨some 2, none, .mv (.t 10)⟩]) (.ret)) (.skip))) (.seq (.ops [⟨some 12, none, .mv (.t 0)⟩,
  ⟨some 13, none, .call (.k (.fn (.func 12) [] [])) [.t 12]⟩,
  ⟨some 11, none, .mv (.t 13)⟩,
  ⟨some 14, none, .ex (.t 11) 0⟩,
  ⟨some 15, none, .ex (.t 11) 1⟩,
  ⟨some 3, none, .mv (.t 14)⟩,
  ⟨some 4, none, .mv (.t 15)⟩]) (.seq (.ops [⟨some 17, none, .mv (.t 0)⟩,
  ⟨some 18, none, .call (.k (.fn (.func 13) [] [])) [.t 17]⟩,
  ⟨some 16, none, .mv (.t 18)⟩,
  ⟨some 19, none, .ex (.t 16) 0⟩,
  ⟨some 20, none, .ex (.t 16) 1⟩,
  ⟨some 5, none, .mv (.t 19)⟩,
  ⟨some 6, none, .mv (.t 20)⟩]) (.seq (.ops [⟨some 21, none, .call (.k (.fn (.func 11) [] [])) []⟩,
  ⟨some 22, none, .mv (.t 21)⟩,
  ⟨some 23, some (22, true), .mv (.t 3)⟩,
  ⟨some 24, some (22, true), .mv (.t 5)⟩,
  ⟨some 25, some (22, true), .call (.k (.fn (.func 14) [] [])) [.t 23, .t 24, .k (.fn (.func 15) [] [])]⟩,
  ⟨some 26, none, .pick (.t 22) (.t 25) (.k (.bool false))⟩,
  ⟨some 27, none, .mv (.t 26)⟩,
  ⟨some 28, some (27, true), .mv (.t 4)⟩,
  ⟨some 29, some (27, true), .mv (.t 6)⟩,
  ⟨some 30, some (27, true), .bin .eql (.int .i64) false (.t 28) (.t 29)⟩,
  ⟨some 31, none, .pick (.t 27) (.t 30) (.k (.bool false))⟩,
  ⟨some 2, none, .mv (.t 31)⟩]) (.ret)))))⟩
/-- comptoir/comptoirlaw07.TokenParts -/
def c4 : CF := ⟨75, [.t 4], .seq (.ops [⟨some 4, none, .mv (.k (.bool false))⟩]) (.seq (.seq (.ops [⟨some 13, none, .mv (.t 0)⟩,
  ⟨some 14, none, .lens (.t 13)⟩,
  ⟨some 15, none, .bin .gtr (.int .i64) true (.t 14) (.k (.int .i64 1000))⟩,
  ⟨some 16, none, .mv (.t 15)⟩,
  ⟨some 17, some (16, false), .mv (.t 1)⟩,
  ⟨some 18, some (16, false), .lens (.t 17)⟩,
  ⟨some 19, some (16, false), .bin .gtr (.int .i64) true (.t 18) (.k (.int .i64 1000))⟩,
  ⟨some 20, none, .pick (.t 16) (.k (.bool true)) (.t 19)⟩]) (.cond (.t 20) (.seq (.ops [⟨some 21, none, .call (.k (.fn (.func 11) [] [])) []⟩,
  ⟨some 4, none, .mv (.t 21)⟩]) (.ret)) (.skip))) (.seq (.ops [⟨some 23, none, .mv (.t 0)⟩,
  ⟨some 24, none, .call (.k (.fn (.func 13) [] [])) [.t 23]⟩,
  ⟨some 22, none, .mv (.t 24)⟩,
  ⟨some 25, none, .ex (.t 22) 0⟩,
  ⟨some 26, none, .ex (.t 22) 1⟩,
  ⟨some 5, none, .mv (.t 25)⟩,
  ⟨some 6, none, .mv (.t 26)⟩]) (.seq (.ops [⟨some 28, none, .mv (.t 1)⟩,
  ⟨some 29, none, .call (.k (.fn (.func 13) [] [])) [.t 28]⟩,
  ⟨some 27, none, .mv (.t 29)⟩,
  ⟨some 30, none, .ex (.t 27) 0⟩,
  ⟨some 31, none, .ex (.t 27) 1⟩,
  ⟨some 7, none, .mv (.t 30)⟩,
  ⟨some 8, none, .mv (.t 31)⟩]) (.seq (.ops [⟨some 32, none, .mv (.t 1)⟩,
  ⟨some 33, none, .lens (.t 32)⟩,
  ⟨some 34, none, .bin .gtr (.int .i64) true (.t 33) (.k (.int .i64 4))⟩,
  ⟨some 35, none, .mv (.t 34)⟩,
  ⟨some 36, some (35, true), .mv (.t 1)⟩,
  ⟨some 37, some (35, true), .slstr (.t 36) none (some (.k (.int .i64 5)))⟩,
  ⟨some 38, some (35, true), .bin .eql (.str) true (.t 37) (.k (.str [60, 63, 120, 109, 108]))⟩,
  ⟨some 39, none, .pick (.t 35) (.t 38) (.k (.bool false))⟩,
  ⟨some 9, none, .mv (.t 39)⟩]) (.seq (.seq (.ops [⟨some 40, none, .mv (.t 6)⟩,
  ⟨some 41, none, .bin .neq (.int .i64) true (.t 40) (.k (.int .i64 0))⟩,
  ⟨some 42, none, .mv (.t 41)⟩,
  ⟨some 43, some (42, false), .mv (.t 8)⟩,
  ⟨some 44, some (42, false), .bin .neq (.int .i64) true (.t 43) (.k (.int .i64 0))⟩,
  ⟨some 45, none, .pick (.t 42) (.k (.bool true)) (.t 44)⟩,
  ⟨some 46, none, .mv (.t 45)⟩,
  ⟨some 47, some (46, false), .mv (.t 9)⟩,
  ⟨some 48, none, .pick (.t 46) (.k (.bool true)) (.t 47)⟩]) (.cond (.t 48) (.seq (.ops [⟨some 49, none, .call (.k (.fn (.func 11) [] [])) []⟩,
  ⟨some 4, none, .mv (.t 49)⟩]) (.ret)) (.skip))) (.seq (.ops [⟨some 51, none, .mv (.t 0)⟩,
  ⟨some 52, none, .bin .add (.str) true (.t 51) (.k (.str [60, 99, 47, 62]))⟩,
  ⟨some 53, none, .mv (.t 1)⟩,
  ⟨some 54, none, .bin .add (.str) false (.t 52) (.t 53)⟩,
  ⟨some 55, none, .call (.k (.fn (.func 12) [] [])) [.t 54]⟩,
  ⟨some 50, none, .mv (.t 55)⟩,
  ⟨some 56, none, .ex (.t 50) 0⟩,
  ⟨some 57, none, .ex (.t 50) 1⟩,
  ⟨some 10, none, .mv (.t 56)⟩,
  ⟨some 11, none, .mv (.t 57)⟩]) (.seq (.ops [⟨some 58, none, .mv (.t 5)⟩,
  ⟨some 59, none, .app 30 5 72 (.k (.nils)) (.t 58)⟩,
  ⟨some 60, none, .mk [.int .i64 0, .str [], .str [], .nils, .bool false] [(0, 1, .k (.int .i64 1)), (1, 1, .k (.str [99])), (4, 1, .k (.bool true))]⟩,
  ⟨some 61, none, .mks 30 5 [.int .i64 0, .str [], .str [], .nils, .bool false] 1 [(0, .t 60)]⟩,
  ⟨some 62, none, .app 30 5 72 (.t 59) (.t 61)⟩,
  ⟨some 63, none, .mv (.t 7)⟩,
  ⟨some 64, none, .app 30 5 72 (.t 62) (.t 63)⟩,
  ⟨some 12, none, .mv (.t 64)⟩]) (.seq (.ops [⟨some 65, none, .call (.k (.fn (.func 11) [] [])) []⟩,
  ⟨some 66, none, .mv (.t 65)⟩,
  ⟨some 67, some (66, true), .mv (.t 11)⟩,
  ⟨some 68, some (66, true), .bin .eql (.int .i64) true (.t 67) (.k (.int .i64 0))⟩,
  ⟨some 69, none, .pick (.t 66) (.t 68) (.k (.bool false))⟩,
  ⟨some 70, none, .mv (.t 69)⟩,
  ⟨some 71, some (70, true), .mv (.t 10)⟩,
  ⟨some 72, some (70, true), .mv (.t 12)⟩,
  ⟨some 73, some (70, true), .call (.k (.fn (.func 14) [] [])) [.t 71, .t 72, .k (.fn (.func 15) [] [])]⟩,
  ⟨some 74, none, .pick (.t 70) (.t 73) (.k (.bool false))⟩,
  ⟨some 4, none, .mv (.t 74)⟩]) (.ret)))))))))⟩
def l8_0b : CC := .seq (.seq (.ops [⟨some 13, none, .mv (.t 8)⟩,
  ⟨some 14, none, .mv (.t 0)⟩,
  ⟨some 15, none, .lenl (.t 14)⟩,
  ⟨some 16, none, .bin .lss (.int .i64) false (.t 13) (.t 15)⟩,
  ⟨some 17, none, .mv (.t 16)⟩,
  ⟨some 18, some (17, true), .mv (.t 8)⟩,
  ⟨some 19, some (17, true), .bin .lss (.int .i64) true (.t 18) (.k (.int .i64 20))⟩,
  ⟨some 20, none, .pick (.t 17) (.t 19) (.k (.bool false))⟩]) (.cond (.t 20) (.skip) (.exit 0))) (.seq (.block 1 (.seq (.seq (.ops [⟨some 23, none, .mv (.t 0)⟩,
  ⟨some 24, none, .mv (.t 8)⟩,
  ⟨some 25, none, .ixs 1 (.t 23) (.t 24)⟩,
  ⟨some 26, none, .ld none (.t 25)⟩,
  ⟨some 27, none, .lens (.t 26)⟩,
  ⟨some 28, none, .bin .gtr (.int .i64) true (.t 27) (.k (.int .i64 50))⟩]) (.cond (.t 28) (.seq (.ops [⟨some 29, none, .call (.k (.fn (.func 16) [] [])) []⟩,
  ⟨some 4, none, .mv (.t 29)⟩]) (.ret)) (.skip))) (.seq (.ops [⟨some 30, none, .mv (.t 5)⟩,
  ⟨some 31, none, .mv (.t 0)⟩,
  ⟨some 32, none, .mv (.t 8)⟩,
  ⟨some 33, none, .ixs 1 (.t 31) (.t 32)⟩,
  ⟨some 34, none, .ld none (.t 33)⟩,
  ⟨some 35, none, .mk [.int .i64 0, .str [], .str [], .nils, .bool false] [(0, 1, .k (.int .i64 3)), (2, 1, .t 34)]⟩,
  ⟨some 36, none, .mks 30 5 [.int .i64 0, .str [], .str [], .nils, .bool false] 1 [(0, .t 35)]⟩,
  ⟨some 37, none, .app 30 5 72 (.t 30) (.t 36)⟩,
  ⟨some 5, none, .mv (.t 37)⟩]) (.seq (.ops [⟨some 38, none, .mv (.t 6)⟩,
  ⟨some 39, none, .mv (.t 0)⟩,
  ⟨some 40, none, .mv (.t 8)⟩,
  ⟨some 41, none, .ixs 1 (.t 39) (.t 40)⟩,
  ⟨some 42, none, .ld none (.t 41)⟩,
  ⟨some 43, none, .bin .add (.str) false (.t 38) (.t 42)⟩,
  ⟨some 6, none, .mv (.t 43)⟩]) (.seq (.ops [⟨some 44, none, .mv (.t 7)⟩,
  ⟨some 45, none, .mv (.t 44)⟩,
  ⟨some 46, some (45, false), .mv (.t 0)⟩,
  ⟨some 47, some (45, false), .mv (.t 8)⟩,
  ⟨some 48, some (45, false), .ixs 1 (.t 46) (.t 47)⟩,
  ⟨some 49, some (45, false), .ld none (.t 48)⟩,
  ⟨some 50, some (45, false), .call (.k (.fn (.func 26) [] [])) [.t 49]⟩,
  ⟨some 51, some (45, false), .un .not (.t 50)⟩,
  ⟨some 52, none, .pick (.t 45) (.k (.bool true)) (.t 51)⟩,
  ⟨some 7, none, .mv (.t 52)⟩]) (.seq (.ops [⟨some 53, none, .mv (.t 1)⟩]) (.cond (.t 53) (.ops [⟨some 54, none, .mv (.t 5)⟩,
  ⟨some 55, none, .mk [.int .i64 0, .str [], .str [], .nils, .bool false] [(0, 1, .k (.int .i64 1)), (1, 1, .k (.str [98])), (4, 1, .k (.bool true))]⟩,
  ⟨some 56, none, .mks 30 5 [.int .i64 0, .str [], .str [], .nils, .bool false] 1 [(0, .t 55)]⟩,
  ⟨some 57, none, .app 30 5 72 (.t 54) (.t 56)⟩,
  ⟨some 5, none, .mv (.t 57)⟩]) (.skip)))))))) (.ops [⟨some 21, none, .mv (.t 8)⟩,
  ⟨some 22, none, .bin .add (.int .i64) true (.t 21) (.k (.int .i64 1))⟩,
  ⟨some 8, none, .mv (.t 22)⟩]))
def l8_0 : CC := l8_0b
theorem l8_0x (P : Program) (T : TT) (G : GT) (Q : EQ) (t : Env) (σ : St) : aC P T G l8_0 Q t σ = aC P T G l8_0b Q t σ := rfl
/-- comptoir/comptoirlaw08.TreeTexts -/
def c8 : CF := ⟨123, [.t 4], .seq (.ops [⟨some 4, none, .mv (.k (.bool false))⟩]) (.seq (.ops [⟨some 11, none, .mk [.int .i64 0, .str [], .str [], .nils, .bool false] [(0, 1, .k (.int .i64 1)), (1, 1, .k (.str [97]))]⟩,
  ⟨some 12, none, .mks 30 5 [.int .i64 0, .str [], .str [], .nils, .bool false] 1 [(0, .t 11)]⟩,
  ⟨some 5, none, .mv (.t 12)⟩]) (.seq (.ops [⟨some 6, none, .mv (.k (.str []))⟩,
  ⟨some 7, none, .mv (.k (.bool false))⟩]) (.seq (.seq (.ops [⟨some 8, none, .mv (.k (.int .i64 0))⟩]) (.block 0 (.loop l8_0))) (.seq (.ops [⟨some 59, none, .mv (.t 5)⟩,
  ⟨some 60, none, .mk [.int .i64 0, .str [], .str [], .nils, .bool false] [(0, 1, .k (.int .i64 2)), (1, 1, .k (.str [97]))]⟩,
  ⟨some 61, none, .mks 30 5 [.int .i64 0, .str [], .str [], .nils, .bool false] 1 [(0, .t 60)]⟩,
  ⟨some 62, none, .app 30 5 72 (.t 59) (.t 61)⟩,
  ⟨some 63, none, .call (.k (.fn (.func 17) [] [])) [.t 62]⟩,
  ⟨some 58, none, .mv (.t 63)⟩,
  ⟨some 64, none, .ex (.t 58) 0⟩,
  ⟨some 65, none, .ex (.t 58) 1⟩,
  ⟨some 9, none, .mv (.t 64)⟩,
  ⟨some 10, none, .mv (.t 65)⟩]) (.seq (.seq (.ops [⟨some 66, none, .mv (.t 1)⟩,
  ⟨some 67, none, .mv (.t 66)⟩,
  ⟨some 68, some (67, true), .mv (.t 5)⟩,
  ⟨some 69, some (67, true), .lenl (.t 68)⟩,
  ⟨some 70, some (67, true), .bin .gtr (.int .i64) true (.t 69) (.k (.int .i64 1))⟩,
  ⟨some 71, none, .pick (.t 67) (.t 70) (.k (.bool false))⟩]) (.cond (.t 71) (.seq (.ops [⟨some 72, none, .call (.k (.fn (.func 16) [] [])) []⟩,
  ⟨some 73, none, .mv (.t 72)⟩,
  ⟨some 74, some (73, true), .mv (.t 7)⟩,
  ⟨some 75, some (73, true), .mv (.t 74)⟩,
  ⟨some 76, some (75, true), .mv (.t 10)⟩,
  ⟨some 77, some (75, true), .bin .eql (.int .i64) true (.t 76) (.k (.int .i64 12))⟩,
  ⟨some 78, some (73, true), .pick (.t 75) (.t 77) (.k (.bool false))⟩,
  ⟨some 79, some (73, true), .mv (.t 78)⟩,
  ⟨some 80, some (79, false), .mv (.t 7)⟩,
  ⟨some 81, some (79, false), .un .not (.t 80)⟩,
  ⟨some 82, some (79, false), .mv (.t 81)⟩,
  ⟨some 83, some (82, true), .mv (.t 10)⟩,
  ⟨some 84, some (82, true), .bin .eql (.int .i64) true (.t 83) (.k (.int .i64 0))⟩,
  ⟨some 85, some (79, false), .pick (.t 82) (.t 84) (.k (.bool false))⟩,
  ⟨some 86, some (79, false), .mv (.t 85)⟩,
  ⟨some 87, some (86, true), .mv (.t 9)⟩,
  ⟨some 88, some (86, true), .lenl (.t 87)⟩,
  ⟨some 89, some (86, true), .mv (.t 5)⟩,
  ⟨some 90, some (86, true), .lenl (.t 89)⟩,
  ⟨some 91, some (86, true), .bin .sub (.int .i64) true (.t 90) (.k (.int .i64 1))⟩,
  ⟨some 92, some (86, true), .bin .quo (.int .i64) true (.t 91) (.k (.int .i64 2))⟩,
  ⟨some 93, some (86, true), .bin .add (.int .i64) true (.k (.int .i64 1)) (.t 92)⟩,
  ⟨some 94, some (86, true), .bin .eql (.int .i64) false (.t 88) (.t 93)⟩,
  ⟨some 95, some (79, false), .pick (.t 86) (.t 94) (.k (.bool false))⟩,
  ⟨some 96, some (79, false), .mv (.t 95)⟩,
  ⟨some 97, some (96, true), .mv (.t 9)⟩,
  ⟨some 98, some (96, true), .ixs 4 (.t 97) (.k (.int .i64 0))⟩,
  ⟨some 99, some (96, true), .fa 2 (.t 98)⟩,
  ⟨some 100, some (96, true), .ld none (.t 99)⟩,
  ⟨some 101, some (96, true), .bin .eql (.str) true (.t 100) (.k (.str []))⟩,
  ⟨some 102, some (79, false), .pick (.t 96) (.t 101) (.k (.bool false))⟩,
  ⟨some 103, some (73, true), .pick (.t 79) (.k (.bool true)) (.t 102)⟩,
  ⟨some 104, none, .pick (.t 73) (.t 103) (.k (.bool false))⟩,
  ⟨some 4, none, .mv (.t 104)⟩]) (.ret)) (.skip))) (.seq (.ops [⟨some 105, none, .call (.k (.fn (.func 16) [] [])) []⟩,
  ⟨some 106, none, .mv (.t 105)⟩,
  ⟨some 107, some (106, true), .mv (.t 10)⟩,
  ⟨some 108, some (106, true), .bin .eql (.int .i64) true (.t 107) (.k (.int .i64 0))⟩,
  ⟨some 109, none, .pick (.t 106) (.t 108) (.k (.bool false))⟩,
  ⟨some 110, none, .mv (.t 109)⟩,
  ⟨some 111, some (110, true), .mv (.t 9)⟩,
  ⟨some 112, some (110, true), .lenl (.t 111)⟩,
  ⟨some 113, some (110, true), .bin .eql (.int .i64) true (.t 112) (.k (.int .i64 1))⟩,
  ⟨some 114, none, .pick (.t 110) (.t 113) (.k (.bool false))⟩,
  ⟨some 115, none, .mv (.t 114)⟩,
  ⟨some 116, some (115, true), .mv (.t 9)⟩,
  ⟨some 117, some (115, true), .ixs 4 (.t 116) (.k (.int .i64 0))⟩,
  ⟨some 118, some (115, true), .fa 2 (.t 117)⟩,
  ⟨some 119, some (115, true), .ld none (.t 118)⟩,
  ⟨some 120, some (115, true), .mv (.t 6)⟩,
  ⟨some 121, some (115, true), .bin .eql (.str) false (.t 119) (.t 120)⟩,
  ⟨some 122, none, .pick (.t 115) (.t 121) (.k (.bool false))⟩,
  ⟨some 4, none, .mv (.t 122)⟩]) (.ret)))))))⟩
theorem fk8 (G : GT) : FOk Tryz.prog tt G 8 c8 := ⟨_, Tryz.func8, by kernel_rfl⟩
def l12_0b : CC := .seq (.seq (.ops [⟨some 21, none, .mv (.t 4)⟩,
  ⟨some 22, none, .nilc (.t 21)⟩,
  ⟨some 23, none, .fa 0 (.t 22)⟩,
  ⟨some 24, none, .ld none (.t 23)⟩,
  ⟨some 25, none, .bin .neq (.str) true (.t 24) (.k (.str []))⟩]) (.cond (.t 25) (.skip) (.exit 1))) (.block 2 (.seq (.ops [⟨some 27, none, .mv (.t 4)⟩,
  ⟨some 28, none, .call (.k (.fn (.func 31) [] [])) [.t 27]⟩,
  ⟨some 29, none, .call (.t 28) []⟩,
  ⟨some 26, none, .mv (.t 29)⟩,
  ⟨some 30, none, .ex (.t 26) 0⟩,
  ⟨some 31, none, .ex (.t 26) 1⟩,
  ⟨some 6, none, .alloc 30 [.int .i64 0, .str [], .str [], .nils, .bool false]⟩,
  ⟨none, none, .st 5 (.t 6) (.t 30)⟩,
  ⟨some 7, none, .mv (.t 31)⟩]) (.seq (.seq (.ops [⟨some 32, none, .mv (.t 7)⟩,
  ⟨some 33, none, .un .not (.t 32)⟩]) (.cond (.t 33) (.seq (.ops [⟨some 2, none, .mv (.k (.nils))⟩,
  ⟨some 3, none, .mv (.k (.int .i64 9))⟩]) (.ret)) (.skip))) (.ops [⟨some 34, none, .mv (.t 5)⟩,
  ⟨some 35, none, .ld (some 5) (.t 6)⟩,
  ⟨some 36, none, .mks 30 5 [.int .i64 0, .str [], .str [], .nils, .bool false] 1 [(0, .t 35)]⟩,
  ⟨some 37, none, .app 30 5 72 (.t 34) (.t 36)⟩,
  ⟨some 5, none, .mv (.t 37)⟩]))))
def l12_0 : CC := l12_0b
theorem l12_0x (P : Program) (T : TT) (G : GT) (Q : EQ) (t : Env) (σ : St) : aC P T G l12_0 Q t σ = aC P T G l12_0b Q t σ := rfl
/-- comptoir/token.Tokens -/
def c12 : CF := ⟨39, [.t 2, .t 3], .seq (.ops [⟨some 2, none, .mv (.k (.nils))⟩,
  ⟨some 3, none, .mv (.k (.int .i64 0))⟩]) (.seq (.block 0 (.seq (.ops [⟨some 9, none, .mv (.t 0)⟩,
  ⟨some 10, none, .lens (.t 9)⟩,
  ⟨some 11, none, .bin .gtr (.int .i64) true (.t 10) (.k (.int .i64 4096))⟩,
  ⟨some 8, none, .mv (.t 11)⟩]) (.cond (.t 8) (.seq (.ops [⟨some 2, none, .mv (.k (.nils))⟩,
  ⟨some 3, none, .mv (.k (.int .i64 4))⟩]) (.ret)) (.seq (.ops [⟨some 13, none, .mv (.t 0)⟩,
  ⟨some 14, none, .call (.k (.fn (.func 29) [] [])) [.t 13]⟩,
  ⟨some 15, none, .un .not (.t 14)⟩,
  ⟨some 12, none, .mv (.t 15)⟩]) (.cond (.t 12) (.seq (.ops [⟨some 2, none, .mv (.k (.nils))⟩,
  ⟨some 3, none, .mv (.k (.int .i64 7))⟩]) (.ret)) (.skip)))))) (.seq (.ops [⟨some 16, none, .mv (.t 0)⟩,
  ⟨some 17, none, .mk [.str []] [(0, 1, .t 16)]⟩,
  ⟨some 18, none, .box 55 (.t 17)⟩,
  ⟨some 4, none, .mv (.t 18)⟩]) (.seq (.ops [⟨some 19, none, .mv (.t 4)⟩,
  ⟨some 20, none, .call (.k (.fn (.func 30) [] [])) [.t 19, .k (.str [60, 63, 120, 109, 108, 32, 118, 101, 114, 115, 105, 111, 110, 61, 34, 49, 46, 48, 34, 32, 101, 110, 99, 111, 100, 105, 110, 103, 61, 34, 85, 84, 70, 45, 56, 34, 63, 62])]⟩]) (.seq (.ops [⟨some 5, none, .mv (.k (.nils))⟩]) (.seq (.block 1 (.loop l12_0)) (.seq (.ops [⟨some 38, none, .mv (.t 5)⟩,
  ⟨some 2, none, .mv (.t 38)⟩,
  ⟨some 3, none, .mv (.k (.int .i64 0))⟩]) (.ret)))))))⟩
theorem fk12 (G : GT) : FOk Tryz.prog tt G 12 c12 := ⟨_, Tryz.func12, by kernel_rfl⟩
/-- comptoir/comptoirlaw08.awake -/
def c16 : CF := ⟨27, [.t 0], .seq (.ops [⟨some 0, none, .mv (.k (.bool false))⟩]) (.seq (.ops [⟨some 4, none, .call (.k (.fn (.func 19) [] [])) [.k (.str [60, 97, 62, 60, 98, 62, 120, 60, 47, 98, 62, 60, 47, 97, 62])]⟩,
  ⟨some 3, none, .mv (.t 4)⟩,
  ⟨some 5, none, .ex (.t 3) 0⟩,
  ⟨some 6, none, .ex (.t 3) 1⟩,
  ⟨some 1, none, .mv (.t 5)⟩,
  ⟨some 2, none, .mv (.t 6)⟩]) (.seq (.ops [⟨some 7, none, .mv (.t 2)⟩,
  ⟨some 8, none, .bin .eql (.int .i64) true (.t 7) (.k (.int .i64 0))⟩,
  ⟨some 9, none, .mv (.t 8)⟩,
  ⟨some 10, some (9, true), .mv (.t 1)⟩,
  ⟨some 11, some (9, true), .lenl (.t 10)⟩,
  ⟨some 12, some (9, true), .bin .eql (.int .i64) true (.t 11) (.k (.int .i64 2))⟩,
  ⟨some 13, none, .pick (.t 9) (.t 12) (.k (.bool false))⟩,
  ⟨some 14, none, .mv (.t 13)⟩,
  ⟨some 15, some (14, true), .mv (.t 1)⟩,
  ⟨some 16, some (14, true), .ixs 4 (.t 15) (.k (.int .i64 1))⟩,
  ⟨some 17, some (14, true), .fa 2 (.t 16)⟩,
  ⟨some 18, some (14, true), .ld none (.t 17)⟩,
  ⟨some 19, some (14, true), .bin .eql (.str) true (.t 18) (.k (.str [120]))⟩,
  ⟨some 20, none, .pick (.t 14) (.t 19) (.k (.bool false))⟩,
  ⟨some 21, none, .mv (.t 20)⟩,
  ⟨some 22, some (21, true), .mv (.t 1)⟩,
  ⟨some 23, some (21, true), .call (.k (.fn (.func 24) [] [])) [.t 22, .k (.int .i64 0)]⟩,
  ⟨some 24, some (21, true), .mks 3 1 [.int .i64 0] 1 [(0, .k (.int .i64 1))]⟩,
  ⟨some 25, some (21, true), .call (.k (.fn (.func 23) [] [])) [.t 23, .t 24]⟩,
  ⟨some 26, none, .pick (.t 21) (.t 25) (.k (.bool false))⟩,
  ⟨some 0, none, .mv (.t 26)⟩]) (.ret)))⟩
theorem fk16 (G : GT) : FOk Tryz.prog tt G 16 c16 := ⟨_, Tryz.func16, by kernel_rfl⟩
def l17_0b : CC := .seq (.ops [⟨some 15, none, .bin .lss (.int .i64) false (.t 14) (.t 13)⟩]) (.seq (.cond (.t 15) (.skip) (.exit 0)) (.seq (.block 1 (.seq (.ops [⟨some 16, none, .ixs 5 (.t 12) (.t 14)⟩,
  ⟨some 17, none, .ld (some 5) (.t 16)⟩,
  ⟨some 6, none, .alloc 30 [.int .i64 0, .str [], .str [], .nils, .bool false]⟩,
  ⟨none, none, .st 5 (.t 6) (.t 17)⟩]) (.seq (.ops [⟨some 18, none, .mv (.t 4)⟩,
  ⟨some 19, none, .fa 0 (.t 6)⟩,
  ⟨some 20, none, .ld none (.t 19)⟩,
  ⟨some 21, none, .call (.k (.fn (.func 36) [] [])) [.t 18, .t 20]⟩,
  ⟨some 7, none, .mv (.t 21)⟩]) (.seq (.seq (.ops [⟨some 22, none, .mv (.t 7)⟩,
  ⟨some 23, none, .bin .eql (.func) true (.t 22) (.k (.niln))⟩]) (.cond (.t 23) (.seq (.ops [⟨some 2, none, .mv (.k (.nils))⟩,
  ⟨some 3, none, .mv (.k (.int .i64 9))⟩]) (.ret)) (.skip))) (.seq (.ops [⟨some 24, none, .mv (.t 7)⟩,
  ⟨some 25, none, .ld (some 5) (.t 6)⟩,
  ⟨some 26, none, .call (.t 24) [.t 25]⟩,
  ⟨some 8, none, .mv (.t 26)⟩]) (.seq (.ops [⟨some 27, none, .mv (.t 8)⟩,
  ⟨some 28, none, .bin .neq (.int .i64) true (.t 27) (.k (.int .i64 0))⟩]) (.cond (.t 28) (.seq (.ops [⟨some 29, none, .mv (.t 8)⟩,
  ⟨some 2, none, .mv (.k (.nils))⟩,
  ⟨some 3, none, .mv (.t 29)⟩]) (.ret)) (.skip)))))))) (.ops [⟨some 30, none, .bin .add (.int .i64) true (.t 14) (.k (.int .i64 1))⟩,
  ⟨some 14, none, .mv (.t 30)⟩])))
def l17_0 : CC := l17_0b
theorem l17_0x (P : Program) (T : TT) (G : GT) (Q : EQ) (t : Env) (σ : St) : aC P T G l17_0 Q t σ = aC P T G l17_0b Q t σ := rfl
/-- comptoir/tree.Build -/
def c17 : CF := ⟨40, [.t 2, .t 3], .seq (.ops [⟨some 2, none, .mv (.k (.nils))⟩,
  ⟨some 3, none, .mv (.k (.int .i64 0))⟩]) (.seq (.ops [⟨some 10, none, .mk [.nils, .nils, .nils] []⟩,
  ⟨some 11, none, .box 68 (.t 10)⟩,
  ⟨some 4, none, .mv (.t 11)⟩]) (.seq (.seq (.ops [⟨some 12, none, .mv (.t 0)⟩,
  ⟨some 13, none, .lenl (.t 12)⟩,
  ⟨some 14, none, .mv (.k (.int .i64 0))⟩]) (.block 0 (.loop l17_0))) (.seq (.seq (.ops [⟨some 31, none, .mv (.t 4)⟩,
  ⟨some 32, none, .call (.k (.fn (.func 37) [] [])) [.t 31]⟩,
  ⟨some 9, none, .mv (.t 32)⟩]) (.seq (.ops [⟨some 33, none, .mv (.t 9)⟩,
  ⟨some 34, none, .bin .neq (.int .i64) true (.t 33) (.k (.int .i64 0))⟩]) (.cond (.t 34) (.seq (.ops [⟨some 35, none, .mv (.t 9)⟩,
  ⟨some 2, none, .mv (.k (.nils))⟩,
  ⟨some 3, none, .mv (.t 35)⟩]) (.ret)) (.skip)))) (.seq (.ops [⟨some 36, none, .mv (.t 4)⟩,
  ⟨some 37, none, .nilc (.t 36)⟩,
  ⟨some 38, none, .fa 0 (.t 37)⟩,
  ⟨some 39, none, .ld none (.t 38)⟩,
  ⟨some 2, none, .mv (.t 39)⟩,
  ⟨some 3, none, .mv (.k (.int .i64 0))⟩]) (.ret)))))⟩
theorem fk17 (G : GT) : FOk Tryz.prog tt G 17 c17 := ⟨_, Tryz.func17, by kernel_rfl⟩
/-- comptoir/tree.Parse -/
def c19 : CF := ⟨18, [.t 2, .t 3], .seq (.ops [⟨some 2, none, .mv (.k (.nils))⟩,
  ⟨some 3, none, .mv (.k (.int .i64 0))⟩]) (.seq (.ops [⟨some 7, none, .mv (.t 0)⟩,
  ⟨some 8, none, .call (.k (.fn (.func 12) [] [])) [.t 7]⟩,
  ⟨some 6, none, .mv (.t 8)⟩,
  ⟨some 9, none, .ex (.t 6) 0⟩,
  ⟨some 10, none, .ex (.t 6) 1⟩,
  ⟨some 4, none, .mv (.t 9)⟩,
  ⟨some 5, none, .mv (.t 10)⟩]) (.seq (.seq (.ops [⟨some 11, none, .mv (.t 5)⟩,
  ⟨some 12, none, .bin .neq (.int .i64) true (.t 11) (.k (.int .i64 0))⟩]) (.cond (.t 12) (.seq (.ops [⟨some 13, none, .mv (.t 5)⟩,
  ⟨some 2, none, .mv (.k (.nils))⟩,
  ⟨some 3, none, .mv (.t 13)⟩]) (.ret)) (.skip))) (.seq (.ops [⟨some 14, none, .mv (.t 4)⟩,
  ⟨some 15, none, .call (.k (.fn (.func 17) [] [])) [.t 14]⟩,
  ⟨some 16, none, .ex (.t 15) 0⟩,
  ⟨some 17, none, .ex (.t 15) 1⟩,
  ⟨some 2, none, .mv (.t 16)⟩,
  ⟨some 3, none, .mv (.t 17)⟩]) (.ret))))⟩
theorem fk19 (G : GT) : FOk Tryz.prog tt G 19 c19 := ⟨_, Tryz.func19, by kernel_rfl⟩
/-- comptoir/comptoirhelp.Plain[int] -/
def c23 : CF := ⟨8, [.t 4], .seq (.ops [⟨some 4, none, .mv (.k (.bool false))⟩]) (.seq (.ops [⟨some 5, none, .mv (.t 0)⟩,
  ⟨some 6, none, .mv (.t 1)⟩,
  ⟨some 7, none, .call (.k (.fn (.func 39) [] [])) [.t 5, .t 6, .k (.fn (.func 40) [] [])]⟩,
  ⟨some 4, none, .mv (.t 7)⟩]) (.ret))⟩
theorem fk23 (G : GT) : FOk Tryz.prog tt G 23 c23 := ⟨_, Tryz.func23, by kernel_rfl⟩
def l24_0b : CC := .seq (.ops [⟨some 11, none, .bin .lss (.int .i64) false (.t 10) (.t 9)⟩]) (.seq (.cond (.t 11) (.skip) (.exit 0)) (.seq (.block 1 (.seq (.ops [⟨some 12, none, .mv (.t 10)⟩,
  ⟨some 13, none, .ixs 4 (.t 8) (.t 10)⟩,
  ⟨some 14, none, .ld (some 4) (.t 13)⟩,
  ⟨some 7, none, .alloc 40 [.int .i64 0, .str [], .str [], .nils]⟩,
  ⟨some 6, none, .mv (.t 12)⟩,
  ⟨none, none, .st 4 (.t 7) (.t 14)⟩]) (.seq (.ops [⟨some 15, none, .fa 0 (.t 7)⟩,
  ⟨some 16, none, .ld none (.t 15)⟩,
  ⟨some 17, none, .mv (.t 1)⟩,
  ⟨some 18, none, .bin .eql (.int .i64) false (.t 16) (.t 17)⟩,
  ⟨some 19, none, .mv (.t 18)⟩,
  ⟨some 20, some (19, true), .mv (.t 1)⟩,
  ⟨some 21, some (19, true), .bin .geq (.int .i64) true (.t 20) (.k (.int .i64 0))⟩,
  ⟨some 22, none, .pick (.t 19) (.t 21) (.k (.bool false))⟩,
  ⟨some 23, none, .mv (.t 22)⟩,
  ⟨some 24, some (23, true), .mv (.t 1)⟩,
  ⟨some 25, some (23, true), .mv (.t 0)⟩,
  ⟨some 26, some (23, true), .lenl (.t 25)⟩,
  ⟨some 27, some (23, true), .bin .lss (.int .i64) false (.t 24) (.t 26)⟩,
  ⟨some 28, none, .pick (.t 23) (.t 27) (.k (.bool false))⟩]) (.cond (.t 28) (.ops [⟨some 29, none, .mv (.t 5)⟩,
  ⟨some 30, none, .mv (.t 6)⟩,
  ⟨some 31, none, .mks 3 1 [.int .i64 0] 1 [(0, .t 30)]⟩,
  ⟨some 32, none, .app 3 1 8 (.t 29) (.t 31)⟩,
  ⟨some 5, none, .mv (.t 32)⟩]) (.skip))))) (.ops [⟨some 33, none, .bin .add (.int .i64) true (.t 10) (.k (.int .i64 1))⟩,
  ⟨some 10, none, .mv (.t 33)⟩])))
def l24_0 : CC := l24_0b
theorem l24_0x (P : Program) (T : TT) (G : GT) (Q : EQ) (t : Env) (σ : St) : aC P T G l24_0 Q t σ = aC P T G l24_0b Q t σ := rfl
/-- comptoir/tree.Kids -/
def c24 : CF := ⟨35, [.t 4], .seq (.ops [⟨some 4, none, .mv (.k (.nils))⟩]) (.seq (.ops [⟨some 5, none, .mv (.k (.nils))⟩]) (.seq (.seq (.ops [⟨some 8, none, .mv (.t 0)⟩,
  ⟨some 9, none, .lenl (.t 8)⟩,
  ⟨some 10, none, .mv (.k (.int .i64 0))⟩]) (.block 0 (.loop l24_0))) (.seq (.ops [⟨some 34, none, .mv (.t 5)⟩,
  ⟨some 4, none, .mv (.t 34)⟩]) (.ret))))⟩
theorem fk24 (G : GT) : FOk Tryz.prog tt G 24 c24 := ⟨_, Tryz.func24, by kernel_rfl⟩
def l26_0b : CC := .seq (.seq (.ops [⟨some 4, none, .mv (.t 3)⟩,
  ⟨some 5, none, .mv (.t 0)⟩,
  ⟨some 6, none, .lens (.t 5)⟩,
  ⟨some 7, none, .bin .lss (.int .i64) false (.t 4) (.t 6)⟩]) (.cond (.t 7) (.skip) (.exit 0))) (.seq (.block 1 (.seq (.ops [⟨some 10, none, .mv (.t 0)⟩,
  ⟨some 11, none, .mv (.t 3)⟩,
  ⟨some 12, none, .ixstr (.t 10) (.t 11)⟩,
  ⟨some 13, none, .call (.k (.fn (.func 41) [] [])) [.t 12]⟩,
  ⟨some 14, none, .un .not (.t 13)⟩]) (.cond (.t 14) (.seq (.ops [⟨some 2, none, .mv (.k (.bool false))⟩]) (.ret)) (.skip)))) (.ops [⟨some 8, none, .mv (.t 3)⟩,
  ⟨some 9, none, .bin .add (.int .i64) true (.t 8) (.k (.int .i64 1))⟩,
  ⟨some 3, none, .mv (.t 9)⟩]))
def l26_0 : CC := l26_0b
theorem l26_0x (P : Program) (T : TT) (G : GT) (Q : EQ) (t : Env) (σ : St) : aC P T G l26_0 Q t σ = aC P T G l26_0b Q t σ := rfl
/-- comptoir/comptoirref07.Blank -/
def c26 : CF := ⟨15, [.t 2], .seq (.ops [⟨some 2, none, .mv (.k (.bool false))⟩]) (.seq (.seq (.ops [⟨some 3, none, .mv (.k (.int .i64 0))⟩]) (.block 0 (.loop l26_0))) (.seq (.ops [⟨some 2, none, .mv (.k (.bool true))⟩]) (.ret)))⟩
theorem fk26 (G : GT) : FOk Tryz.prog tt G 26 c26 := ⟨_, Tryz.func26, by kernel_rfl⟩
/-- comptoir/text.Utf8 -/
def c29 : CF := ⟨10, [.t 2], .seq (.ops [⟨some 2, none, .mv (.k (.bool false))⟩]) (.seq (.ops [⟨some 3, none, .mv (.t 0)⟩,
  ⟨some 4, none, .call (.k (.fn (.func 45) [] [])) [.t 3]⟩,
  ⟨some 5, none, .mv (.t 4)⟩,
  ⟨some 6, some (5, true), .mv (.t 0)⟩,
  ⟨some 7, some (5, true), .call (.k (.fn (.func 46) [] [])) [.t 6, .k (.fn (.func 47) [] [])]⟩,
  ⟨some 8, some (5, true), .bin .lss (.int .i64) true (.t 7) (.k (.int .i64 0))⟩,
  ⟨some 9, none, .pick (.t 5) (.t 8) (.k (.bool false))⟩,
  ⟨some 2, none, .mv (.t 9)⟩]) (.ret))⟩
theorem fk29 (G : GT) : FOk Tryz.prog tt G 29 c29 := ⟨_, Tryz.func29, by kernel_rfl⟩
/-- (*comptoir/token.walk).pass -/
def c30 : CF := ⟨21, [.t 4], .seq (.ops [⟨some 4, none, .mv (.k (.bool false))⟩]) (.seq (.ops [⟨some 8, none, .mv (.t 0)⟩,
  ⟨some 9, none, .nilc (.t 8)⟩,
  ⟨some 10, none, .fa 0 (.t 9)⟩,
  ⟨some 11, none, .ld none (.t 10)⟩,
  ⟨some 12, none, .mv (.t 1)⟩,
  ⟨some 13, none, .call (.k (.fn (.func 49) [] [])) [.t 11, .t 12]⟩,
  ⟨some 7, none, .mv (.t 13)⟩,
  ⟨some 14, none, .ex (.t 7) 0⟩,
  ⟨some 15, none, .ex (.t 7) 1⟩,
  ⟨some 5, none, .mv (.t 14)⟩,
  ⟨some 6, none, .mv (.t 15)⟩]) (.seq (.ops [⟨some 16, none, .mv (.t 0)⟩,
  ⟨some 17, none, .mv (.t 5)⟩,
  ⟨some 18, none, .nilc (.t 16)⟩,
  ⟨some 19, none, .fa 0 (.t 18)⟩,
  ⟨none, none, .st 1 (.t 19) (.t 17)⟩]) (.seq (.ops [⟨some 20, none, .mv (.t 6)⟩,
  ⟨some 4, none, .mv (.t 20)⟩]) (.ret))))⟩
theorem fk30 (G : GT) : FOk Tryz.prog tt G 30 c30 := ⟨_, Tryz.func30, by kernel_rfl⟩
/-- (*comptoir/token.walk).step -/
def c31 : CF := ⟨15, [.t 2], .seq (.ops [⟨some 2, none, .mv (.k (.niln))⟩]) (.seq (.block 0 (.seq (.ops [⟨some 4, none, .mv (.t 0)⟩,
  ⟨some 5, none, .call (.k (.fn (.func 30) [] [])) [.t 4, .k (.str [60, 47])]⟩,
  ⟨some 3, none, .mv (.t 5)⟩]) (.cond (.t 3) (.seq (.ops [⟨some 6, none, .mv (.t 0)⟩,
  ⟨some 7, none, .mkf (.func 50) [.t 6] []⟩,
  ⟨some 2, none, .mv (.t 7)⟩]) (.ret)) (.seq (.ops [⟨some 9, none, .mv (.t 0)⟩,
  ⟨some 10, none, .call (.k (.fn (.func 30) [] [])) [.t 9, .k (.str [60])]⟩,
  ⟨some 8, none, .mv (.t 10)⟩]) (.cond (.t 8) (.seq (.ops [⟨some 11, none, .mv (.t 0)⟩,
  ⟨some 12, none, .mkf (.func 51) [.t 11] []⟩,
  ⟨some 2, none, .mv (.t 12)⟩]) (.ret)) (.skip)))))) (.seq (.ops [⟨some 13, none, .mv (.t 0)⟩,
  ⟨some 14, none, .mkf (.func 52) [.t 13] []⟩,
  ⟨some 2, none, .mv (.t 14)⟩]) (.ret)))⟩
theorem fk31 (G : GT) : FOk Tryz.prog tt G 31 c31 := ⟨_, Tryz.func31, by kernel_rfl⟩
/-- (*comptoir/tree.build).taker -/
def c36 : CF := ⟨18, [.t 4], .seq (.ops [⟨some 4, none, .mv (.k (.niln))⟩]) (.seq (.seq (.ops [⟨some 5, none, .mv (.t 1)⟩]) (.block 0 (.seq (.ops [⟨some 7, none, .bin .eql (.int .i64) true (.t 5) (.k (.int .i64 1))⟩,
  ⟨some 6, none, .mv (.t 7)⟩]) (.cond (.t 6) (.seq (.ops [⟨some 8, none, .mv (.t 0)⟩,
  ⟨some 9, none, .mkf (.func 60) [.t 8] []⟩,
  ⟨some 4, none, .mv (.t 9)⟩]) (.ret)) (.seq (.ops [⟨some 11, none, .bin .eql (.int .i64) true (.t 5) (.k (.int .i64 2))⟩,
  ⟨some 10, none, .mv (.t 11)⟩]) (.cond (.t 10) (.seq (.ops [⟨some 12, none, .mv (.t 0)⟩,
  ⟨some 13, none, .mkf (.func 61) [.t 12] []⟩,
  ⟨some 4, none, .mv (.t 13)⟩]) (.ret)) (.seq (.ops [⟨some 15, none, .bin .eql (.int .i64) true (.t 5) (.k (.int .i64 3))⟩,
  ⟨some 14, none, .mv (.t 15)⟩]) (.cond (.t 14) (.seq (.ops [⟨some 16, none, .mv (.t 0)⟩,
  ⟨some 17, none, .mkf (.func 62) [.t 16] []⟩,
  ⟨some 4, none, .mv (.t 17)⟩]) (.ret)) (.skip))))))))) (.seq (.ops [⟨some 4, none, .mv (.k (.niln))⟩]) (.ret)))⟩
theorem fk36 (G : GT) : FOk Tryz.prog tt G 36 c36 := ⟨_, Tryz.func36, by kernel_rfl⟩
def l37_0b : CC := .seq (.ops [⟨some 24, none, .bin .lss (.int .i64) false (.t 23) (.t 22)⟩]) (.seq (.cond (.t 24) (.skip) (.exit 0)) (.seq (.block 1 (.seq (.ops [⟨some 25, none, .mv (.t 23)⟩,
  ⟨some 3, none, .mv (.t 25)⟩]) (.seq (.seq (.ops [⟨some 26, none, .mv (.t 0)⟩,
  ⟨some 27, none, .nilc (.t 26)⟩,
  ⟨some 28, none, .fa 2 (.t 27)⟩,
  ⟨some 29, none, .ld none (.t 28)⟩,
  ⟨some 30, none, .mv (.t 3)⟩,
  ⟨some 31, none, .ixs 1 (.t 29) (.t 30)⟩,
  ⟨some 32, none, .ld none (.t 31)⟩,
  ⟨some 33, none, .un .not (.t 32)⟩]) (.cond (.t 33) (.exit 1) (.skip))) (.seq (.seq (.ops [⟨some 34, none, .mv (.t 0)⟩,
  ⟨some 35, none, .nilc (.t 34)⟩,
  ⟨some 36, none, .fa 0 (.t 35)⟩,
  ⟨some 37, none, .ld none (.t 36)⟩,
  ⟨some 38, none, .mv (.t 3)⟩,
  ⟨some 39, none, .ixs 4 (.t 37) (.t 38)⟩,
  ⟨some 40, none, .fa 2 (.t 39)⟩,
  ⟨some 41, none, .ld none (.t 40)⟩,
  ⟨some 42, none, .call (.k (.fn (.func 63) [] [])) [.t 41]⟩,
  ⟨some 43, none, .un .not (.t 42)⟩]) (.cond (.t 43) (.seq (.ops [⟨some 2, none, .mv (.k (.int .i64 12))⟩]) (.ret)) (.skip))) (.ops [⟨some 44, none, .mv (.t 0)⟩,
  ⟨some 45, none, .nilc (.t 44)⟩,
  ⟨some 46, none, .fa 0 (.t 45)⟩,
  ⟨some 47, none, .ld none (.t 46)⟩,
  ⟨some 48, none, .mv (.t 3)⟩,
  ⟨some 49, none, .ixs 4 (.t 47) (.t 48)⟩,
  ⟨some 50, none, .fa 2 (.t 49)⟩,
  ⟨none, none, .st 1 (.t 50) (.k (.str []))⟩]))))) (.ops [⟨some 51, none, .bin .add (.int .i64) true (.t 23) (.k (.int .i64 1))⟩,
  ⟨some 23, none, .mv (.t 51)⟩])))
def l37_0 : CC := l37_0b
theorem l37_0x (P : Program) (T : TT) (G : GT) (Q : EQ) (t : Env) (σ : St) : aC P T G l37_0 Q t σ = aC P T G l37_0b Q t σ := rfl
/-- (*comptoir/tree.build).done -/
def c37 : CF := ⟨52, [.t 2], .seq (.ops [⟨some 2, none, .mv (.k (.int .i64 0))⟩]) (.seq (.seq (.ops [⟨some 4, none, .mv (.t 0)⟩,
  ⟨some 5, none, .nilc (.t 4)⟩,
  ⟨some 6, none, .fa 0 (.t 5)⟩,
  ⟨some 7, none, .ld none (.t 6)⟩,
  ⟨some 8, none, .lenl (.t 7)⟩,
  ⟨some 9, none, .bin .eql (.int .i64) true (.t 8) (.k (.int .i64 0))⟩,
  ⟨some 10, none, .mv (.t 9)⟩,
  ⟨some 11, some (10, false), .mv (.t 0)⟩,
  ⟨some 12, some (10, false), .nilc (.t 11)⟩,
  ⟨some 13, some (10, false), .fa 1 (.t 12)⟩,
  ⟨some 14, some (10, false), .ld none (.t 13)⟩,
  ⟨some 15, some (10, false), .lenl (.t 14)⟩,
  ⟨some 16, some (10, false), .bin .gtr (.int .i64) true (.t 15) (.k (.int .i64 0))⟩,
  ⟨some 17, none, .pick (.t 10) (.k (.bool true)) (.t 16)⟩]) (.cond (.t 17) (.seq (.ops [⟨some 2, none, .mv (.k (.int .i64 10))⟩]) (.ret)) (.skip))) (.seq (.seq (.ops [⟨some 18, none, .mv (.t 0)⟩,
  ⟨some 19, none, .nilc (.t 18)⟩,
  ⟨some 20, none, .fa 0 (.t 19)⟩,
  ⟨some 21, none, .ld none (.t 20)⟩,
  ⟨some 22, none, .lenl (.t 21)⟩,
  ⟨some 23, none, .mv (.k (.int .i64 0))⟩]) (.block 0 (.loop l37_0))) (.seq (.ops [⟨some 2, none, .mv (.k (.int .i64 0))⟩]) (.ret))))⟩
theorem fk37 (G : GT) : FOk Tryz.prog tt G 37 c37 := ⟨_, Tryz.func37, by kernel_rfl⟩
def l39_0b : CC := .seq (.seq (.ops [⟨some 13, none, .mv (.t 7)⟩,
  ⟨some 14, none, .mv (.t 0)⟩,
  ⟨some 15, none, .lenl (.t 14)⟩,
  ⟨some 16, none, .bin .lss (.int .i64) false (.t 13) (.t 15)⟩]) (.cond (.t 16) (.skip) (.exit 0))) (.seq (.block 1 (.seq (.mix (.q 0 ⟨some 19, none, .mv (.t 2)⟩ (.q 0 ⟨some 20, none, .mv (.t 0)⟩ (.q 0 ⟨some 21, none, .mv (.t 7)⟩ (.q 1 ⟨some 22, none, .ixs 1 (.t 20) (.t 21)⟩ (.q 1 ⟨some 23, none, .ld none (.t 22)⟩ (.q 0 ⟨some 24, none, .mv (.t 1)⟩ (.q 0 ⟨some 25, none, .mv (.t 7)⟩ (.q 1 ⟨some 26, none, .ixs 1 (.t 24) (.t 25)⟩ (.q 1 ⟨some 27, none, .ld none (.t 26)⟩ (.f ⟨some 28, none, .call (.t 19) [.t 23, .t 27]⟩ (.q 0 ⟨some 29, none, .un .not (.t 28)⟩ (.done))))))))))))) (.cond (.t 29) (.seq (.ops [⟨some 6, none, .mv (.k (.bool false))⟩]) (.ret)) (.skip)))) (.ops [⟨some 17, none, .mv (.t 7)⟩,
  ⟨some 18, none, .bin .add (.int .i64) true (.t 17) (.k (.int .i64 1))⟩,
  ⟨some 7, none, .mv (.t 18)⟩]))
def l39_0 : CC := l39_0b
theorem l39_0x (P : Program) (T : TT) (G : GT) (Q : EQ) (t : Env) (σ : St) : aC P T G l39_0 Q t σ = aC P T G l39_0b Q t σ := rfl
/-- comptoir/comptoirhelp.Same[int] -/
def c39 : CF := ⟨30, [.t 6], .seq (.ops [⟨some 6, none, .mv (.k (.bool false))⟩]) (.seq (.seq (.ops [⟨some 8, none, .mv (.t 0)⟩,
  ⟨some 9, none, .lenl (.t 8)⟩,
  ⟨some 10, none, .mv (.t 1)⟩,
  ⟨some 11, none, .lenl (.t 10)⟩,
  ⟨some 12, none, .bin .neq (.int .i64) false (.t 9) (.t 11)⟩]) (.cond (.t 12) (.seq (.ops [⟨some 6, none, .mv (.k (.bool false))⟩]) (.ret)) (.skip))) (.seq (.seq (.ops [⟨some 7, none, .mv (.k (.int .i64 0))⟩]) (.block 0 (.loop l39_0))) (.seq (.ops [⟨some 6, none, .mv (.k (.bool true))⟩]) (.ret))))⟩
theorem fk39 (G : GT) : FOk Tryz.prog tt G 39 c39 := ⟨_, Tryz.func39, by kernel_rfl⟩
/-- comptoir/comptoirhelp.Plain[int]$1 -/
def c40 : CF := ⟨8, [.t 4], .seq (.ops [⟨some 4, none, .mv (.k (.bool false))⟩]) (.seq (.ops [⟨some 5, none, .mv (.t 0)⟩,
  ⟨some 6, none, .mv (.t 1)⟩,
  ⟨some 7, none, .bin .eql (.int .i64) false (.t 5) (.t 6)⟩,
  ⟨some 4, none, .mv (.t 7)⟩]) (.ret))⟩
theorem fk40 (G : GT) : FOk Tryz.prog tt G 40 c40 := ⟨_, Tryz.func40, by kernel_rfl⟩
/-- comptoir/comptoirref07.blank -/
def c41 : CF := ⟨17, [.t 2], .seq (.ops [⟨some 2, none, .mv (.k (.bool false))⟩]) (.seq (.ops [⟨some 3, none, .mv (.t 0)⟩,
  ⟨some 4, none, .bin .eql (.int .u8) true (.t 3) (.k (.int .u8 9))⟩,
  ⟨some 5, none, .mv (.t 4)⟩,
  ⟨some 6, some (5, false), .mv (.t 0)⟩,
  ⟨some 7, some (5, false), .bin .eql (.int .u8) true (.t 6) (.k (.int .u8 10))⟩,
  ⟨some 8, none, .pick (.t 5) (.k (.bool true)) (.t 7)⟩,
  ⟨some 9, none, .mv (.t 8)⟩,
  ⟨some 10, some (9, false), .mv (.t 0)⟩,
  ⟨some 11, some (9, false), .bin .eql (.int .u8) true (.t 10) (.k (.int .u8 13))⟩,
  ⟨some 12, none, .pick (.t 9) (.k (.bool true)) (.t 11)⟩,
  ⟨some 13, none, .mv (.t 12)⟩,
  ⟨some 14, some (13, false), .mv (.t 0)⟩,
  ⟨some 15, some (13, false), .bin .eql (.int .u8) true (.t 14) (.k (.int .u8 32))⟩,
  ⟨some 16, none, .pick (.t 13) (.k (.bool true)) (.t 15)⟩,
  ⟨some 2, none, .mv (.t 16)⟩]) (.ret))⟩
theorem fk41 (G : GT) : FOk Tryz.prog tt G 41 c41 := ⟨_, Tryz.func41, by kernel_rfl⟩
/-- comptoir/text.Utf8$1 -/
def c47 : CF := ⟨6, [.t 2], .seq (.ops [⟨some 2, none, .mv (.k (.bool false))⟩]) (.seq (.ops [⟨some 3, none, .mv (.t 0)⟩,
  ⟨some 4, none, .call (.k (.fn (.func 48) [] [])) [.t 3]⟩,
  ⟨some 5, none, .un .not (.t 4)⟩,
  ⟨some 2, none, .mv (.t 5)⟩]) (.ret))⟩
theorem fk47 (G : GT) : FOk Tryz.prog tt G 47 c47 := ⟨_, Tryz.func47, by kernel_rfl⟩
/-- comptoir/text.may -/
def c48 : CF := ⟨25, [.t 2], .seq (.ops [⟨some 2, none, .mv (.k (.bool false))⟩]) (.seq (.ops [⟨some 3, none, .mv (.t 0)⟩,
  ⟨some 4, none, .bin .eql (.int .i32) true (.t 3) (.k (.int .i32 9))⟩,
  ⟨some 5, none, .mv (.t 4)⟩,
  ⟨some 6, some (5, false), .mv (.t 0)⟩,
  ⟨some 7, some (5, false), .bin .eql (.int .i32) true (.t 6) (.k (.int .i32 10))⟩,
  ⟨some 8, none, .pick (.t 5) (.k (.bool true)) (.t 7)⟩,
  ⟨some 9, none, .mv (.t 8)⟩,
  ⟨some 10, some (9, false), .mv (.t 0)⟩,
  ⟨some 11, some (9, false), .bin .eql (.int .i32) true (.t 10) (.k (.int .i32 13))⟩,
  ⟨some 12, none, .pick (.t 9) (.k (.bool true)) (.t 11)⟩,
  ⟨some 13, none, .mv (.t 12)⟩,
  ⟨some 14, some (13, false), .mv (.t 0)⟩,
  ⟨some 15, some (13, false), .bin .geq (.int .i32) true (.t 14) (.k (.int .i32 32))⟩,
  ⟨some 16, some (13, false), .mv (.t 15)⟩,
  ⟨some 17, some (16, true), .mv (.t 0)⟩,
  ⟨some 18, some (16, true), .bin .neq (.int .i32) true (.t 17) (.k (.int .i32 65534))⟩,
  ⟨some 19, some (13, false), .pick (.t 16) (.t 18) (.k (.bool false))⟩,
  ⟨some 20, some (13, false), .mv (.t 19)⟩,
  ⟨some 21, some (20, true), .mv (.t 0)⟩,
  ⟨some 22, some (20, true), .bin .neq (.int .i32) true (.t 21) (.k (.int .i32 65535))⟩,
  ⟨some 23, some (13, false), .pick (.t 20) (.t 22) (.k (.bool false))⟩,
  ⟨some 24, none, .pick (.t 13) (.k (.bool true)) (.t 23)⟩,
  ⟨some 2, none, .mv (.t 24)⟩]) (.ret))⟩
theorem fk48 (G : GT) : FOk Tryz.prog tt G 48 c48 := ⟨_, Tryz.func48, by kernel_rfl⟩
/-- (*comptoir/token.walk).end -/
def c50 : CF := ⟨18, [.c 2 (some 5), .t 3], .seq (.ops [⟨some 2, none, .alloc 30 [.int .i64 0, .str [], .str [], .nils, .bool false]⟩,
  ⟨some 3, none, .mv (.k (.bool false))⟩]) (.seq (.ops [⟨some 5, none, .mv (.t 0)⟩,
  ⟨some 6, none, .call (.k (.fn (.func 73) [] [])) [.t 5]⟩,
  ⟨some 7, none, .mk [.int .i64 0, .str [], .str [], .nils, .bool false] [(0, 1, .k (.int .i64 2)), (1, 1, .t 6)]⟩,
  ⟨some 4, none, .alloc 30 [.int .i64 0, .str [], .str [], .nils, .bool false]⟩,
  ⟨none, none, .st 5 (.t 4) (.t 7)⟩]) (.seq (.ops [⟨some 8, none, .mv (.t 0)⟩,
  ⟨some 9, none, .call (.k (.fn (.func 74) [] [])) [.t 8, .k (.str [9, 10, 13, 32])]⟩]) (.seq (.mix (.q 1 ⟨some 10, none, .ld (some 5) (.t 4)⟩ (.q 1 ⟨some 11, none, .fa 1 (.t 4)⟩ (.q 1 ⟨some 12, none, .ld none (.t 11)⟩ (.q 0 ⟨some 13, none, .bin .neq (.str) true (.t 12) (.k (.str []))⟩ (.q 0 ⟨some 14, none, .mv (.t 13)⟩ (.q 0 ⟨some 15, some (14, true), .mv (.t 0)⟩ (.e ⟨some 16, some (14, true), .call (.k (.fn (.func 30) [] [])) [.t 15, .k (.str [62])]⟩ (.q 0 ⟨some 17, none, .pick (.t 14) (.t 16) (.k (.bool false))⟩ (.e ⟨none, none, .st 5 (.t 2) (.t 10)⟩ (.q 0 ⟨some 3, none, .mv (.t 17)⟩ (.done)))))))))))) (.ret))))⟩
theorem fk50 (G : GT) : FOk Tryz.prog tt G 50 c50 := ⟨_, Tryz.func50, by kernel_rfl⟩
def l51_0b : CC := .seq (.seq (.ops [⟨some 11, none, .fa 1 (.t 4)⟩,
  ⟨some 12, none, .ld none (.t 11)⟩,
  ⟨some 13, none, .bin .neq (.str) true (.t 12) (.k (.str []))⟩]) (.cond (.t 13) (.skip) (.exit 0))) (.block 1 (.seq (.ops [⟨some 14, none, .mv (.t 0)⟩,
  ⟨some 15, none, .call (.k (.fn (.func 74) [] [])) [.t 14, .k (.str [9, 10, 13, 32])]⟩,
  ⟨some 5, none, .mv (.t 15)⟩]) (.seq (.seq (.ops [⟨some 16, none, .mv (.t 0)⟩,
  ⟨some 17, none, .call (.k (.fn (.func 30) [] [])) [.t 16, .k (.str [62])]⟩]) (.cond (.t 17) (.seq (.ops [⟨some 18, none, .ld (some 5) (.t 4)⟩,
  ⟨none, none, .st 5 (.t 2) (.t 18)⟩,
  ⟨some 3, none, .mv (.k (.bool true))⟩]) (.ret)) (.skip))) (.seq (.seq (.ops [⟨some 19, none, .mv (.t 0)⟩,
  ⟨some 20, none, .call (.k (.fn (.func 30) [] [])) [.t 19, .k (.str [47, 62])]⟩]) (.cond (.t 20) (.seq (.ops [⟨some 21, none, .fa 4 (.t 4)⟩,
  ⟨none, none, .st 1 (.t 21) (.k (.bool true))⟩]) (.seq (.ops [⟨some 22, none, .ld (some 5) (.t 4)⟩,
  ⟨none, none, .st 5 (.t 2) (.t 22)⟩,
  ⟨some 3, none, .mv (.k (.bool true))⟩]) (.ret))) (.skip))) (.seq (.ops [⟨some 24, none, .mv (.t 0)⟩,
  ⟨some 25, none, .call (.k (.fn (.func 75) [] [])) [.t 24]⟩,
  ⟨some 23, none, .mv (.t 25)⟩,
  ⟨some 26, none, .ex (.t 23) 0⟩,
  ⟨some 27, none, .ex (.t 23) 1⟩,
  ⟨some 6, none, .alloc 64 [.str [], .str []]⟩,
  ⟨none, none, .st 2 (.t 6) (.t 26)⟩,
  ⟨some 7, none, .mv (.t 27)⟩]) (.seq (.seq (.ops [⟨some 28, none, .mv (.t 5)⟩,
  ⟨some 29, none, .bin .eql (.str) true (.t 28) (.k (.str []))⟩,
  ⟨some 30, none, .mv (.t 29)⟩,
  ⟨some 31, some (30, false), .mv (.t 7)⟩,
  ⟨some 32, some (30, false), .un .not (.t 31)⟩,
  ⟨some 33, none, .pick (.t 30) (.k (.bool true)) (.t 32)⟩,
  ⟨some 34, none, .mv (.t 33)⟩,
  ⟨some 35, some (34, false), .fa 3 (.t 4)⟩,
  ⟨some 36, some (34, false), .ld none (.t 35)⟩,
  ⟨some 37, some (34, false), .mkf (.func 77) [] [.t 6]⟩,
  ⟨some 38, some (34, false), .call (.k (.fn (.func 76) [] [])) [.t 36, .t 37]⟩,
  ⟨some 39, none, .pick (.t 34) (.k (.bool true)) (.t 38)⟩]) (.cond (.t 39) (.seq (.ops [⟨some 40, none, .ld (some 5) (.t 4)⟩,
  ⟨none, none, .st 5 (.t 2) (.t 40)⟩,
  ⟨some 3, none, .mv (.k (.bool false))⟩]) (.ret)) (.skip))) (.ops [⟨some 41, none, .fa 3 (.t 4)⟩,
  ⟨some 42, none, .ld none (.t 41)⟩,
  ⟨some 43, none, .ld (some 2) (.t 6)⟩,
  ⟨some 44, none, .mks 64 2 [.str [], .str []] 1 [(0, .t 43)]⟩,
  ⟨some 45, none, .app 64 2 32 (.t 42) (.t 44)⟩,
  ⟨some 46, none, .fa 3 (.t 4)⟩,
  ⟨none, none, .st 1 (.t 46) (.t 45)⟩])))))))
def l51_0 : CC := l51_0b
theorem l51_0x (P : Program) (T : TT) (G : GT) (Q : EQ) (t : Env) (σ : St) : aC P T G l51_0 Q t σ = aC P T G l51_0b Q t σ := rfl
/-- (*comptoir/token.walk).open -/
def c51 : CF := ⟨48, [.c 2 (some 5), .t 3], .seq (.ops [⟨some 2, none, .alloc 30 [.int .i64 0, .str [], .str [], .nils, .bool false]⟩,
  ⟨some 3, none, .mv (.k (.bool false))⟩]) (.seq (.ops [⟨some 8, none, .mv (.t 0)⟩,
  ⟨some 9, none, .call (.k (.fn (.func 73) [] [])) [.t 8]⟩,
  ⟨some 10, none, .mk [.int .i64 0, .str [], .str [], .nils, .bool false] [(0, 1, .k (.int .i64 1)), (1, 1, .t 9)]⟩,
  ⟨some 4, none, .alloc 30 [.int .i64 0, .str [], .str [], .nils, .bool false]⟩,
  ⟨none, none, .st 5 (.t 4) (.t 10)⟩]) (.seq (.block 0 (.loop l51_0)) (.seq (.ops [⟨some 47, none, .ld (some 5) (.t 4)⟩,
  ⟨none, none, .st 5 (.t 2) (.t 47)⟩,
  ⟨some 3, none, .mv (.k (.bool false))⟩]) (.ret))))⟩
theorem fk51 (G : GT) : FOk Tryz.prog tt G 51 c51 := ⟨_, Tryz.func51, by kernel_rfl⟩
/-- (*comptoir/token.walk).plain -/
def c52 : CF := ⟨43, [.c 2 (some 5), .t 3], .seq (.ops [⟨some 2, none, .alloc 30 [.int .i64 0, .str [], .str [], .nils, .bool false]⟩,
  ⟨some 3, none, .mv (.k (.bool false))⟩]) (.seq (.ops [⟨some 8, none, .mv (.t 0)⟩,
  ⟨some 9, none, .nilc (.t 8)⟩,
  ⟨some 10, none, .fa 0 (.t 9)⟩,
  ⟨some 11, none, .ld none (.t 10)⟩,
  ⟨some 12, none, .call (.k (.fn (.func 78) [] [])) [.t 11, .k (.int .u8 60)]⟩,
  ⟨some 4, none, .mv (.t 12)⟩]) (.seq (.seq (.ops [⟨some 13, none, .mv (.t 4)⟩,
  ⟨some 14, none, .bin .lss (.int .i64) true (.t 13) (.k (.int .i64 0))⟩]) (.cond (.t 14) (.ops [⟨some 15, none, .mv (.t 0)⟩,
  ⟨some 16, none, .nilc (.t 15)⟩,
  ⟨some 17, none, .fa 0 (.t 16)⟩,
  ⟨some 18, none, .ld none (.t 17)⟩,
  ⟨some 19, none, .lens (.t 18)⟩,
  ⟨some 4, none, .mv (.t 19)⟩]) (.skip))) (.seq (.ops [⟨some 20, none, .mv (.t 0)⟩,
  ⟨some 21, none, .nilc (.t 20)⟩,
  ⟨some 22, none, .fa 0 (.t 21)⟩,
  ⟨some 23, none, .ld none (.t 22)⟩,
  ⟨some 24, none, .mv (.t 4)⟩,
  ⟨some 25, none, .slstr (.t 23) none (some (.t 24))⟩,
  ⟨some 5, none, .mv (.t 25)⟩]) (.seq (.ops [⟨some 26, none, .mv (.t 0)⟩,
  ⟨some 27, none, .mv (.t 0)⟩,
  ⟨some 28, none, .nilc (.t 27)⟩,
  ⟨some 29, none, .fa 0 (.t 28)⟩,
  ⟨some 30, none, .ld none (.t 29)⟩,
  ⟨some 31, none, .mv (.t 4)⟩,
  ⟨some 32, none, .slstr (.t 30) (some (.t 31)) none⟩,
  ⟨some 33, none, .nilc (.t 26)⟩,
  ⟨some 34, none, .fa 0 (.t 33)⟩,
  ⟨none, none, .st 1 (.t 34) (.t 32)⟩]) (.seq (.ops [⟨some 36, none, .mv (.t 5)⟩,
  ⟨some 37, none, .call (.k (.fn (.func 79) [] [])) [.t 36]⟩,
  ⟨some 35, none, .mv (.t 37)⟩,
  ⟨some 38, none, .ex (.t 35) 0⟩,
  ⟨some 39, none, .ex (.t 35) 1⟩,
  ⟨some 6, none, .mv (.t 38)⟩,
  ⟨some 7, none, .mv (.t 39)⟩]) (.seq (.ops [⟨some 40, none, .mv (.t 6)⟩,
  ⟨some 41, none, .mk [.int .i64 0, .str [], .str [], .nils, .bool false] [(0, 1, .k (.int .i64 3)), (2, 1, .t 40)]⟩,
  ⟨some 42, none, .mv (.t 7)⟩,
  ⟨none, none, .st 5 (.t 2) (.t 41)⟩,
  ⟨some 3, none, .mv (.t 42)⟩]) (.ret)))))))⟩
theorem fk52 (G : GT) : FOk Tryz.prog tt G 52 c52 := ⟨_, Tryz.func52, by kernel_rfl⟩
/-- (*comptoir/tree.build).begin -/
def c60 : CF := ⟨87, [.t 4], .seq (.ops [⟨some 3, none, .box 30 (.t 1)⟩,
  ⟨some 4, none, .mv (.k (.int .i64 0))⟩]) (.seq (.ops [⟨some 6, none, .mv (.t 0)⟩,
  ⟨some 7, none, .call (.k (.fn (.func 85) [] [])) [.t 6]⟩,
  ⟨some 5, none, .mv (.t 7)⟩]) (.seq (.block 0 (.seq (.ops [⟨some 9, none, .fa 1 (.t 3)⟩,
  ⟨some 10, none, .ld none (.t 9)⟩,
  ⟨some 11, none, .bin .eql (.str) true (.t 10) (.k (.str []))⟩,
  ⟨some 8, none, .mv (.t 11)⟩]) (.cond (.t 8) (.seq (.ops [⟨some 4, none, .mv (.k (.int .i64 9))⟩]) (.ret)) (.seq (.ops [⟨some 13, none, .mv (.t 5)⟩,
  ⟨some 14, none, .bin .lss (.int .i64) true (.t 13) (.k (.int .i64 0))⟩,
  ⟨some 15, none, .mv (.t 14)⟩,
  ⟨some 16, some (15, true), .mv (.t 0)⟩,
  ⟨some 17, some (15, true), .nilc (.t 16)⟩,
  ⟨some 18, some (15, true), .fa 0 (.t 17)⟩,
  ⟨some 19, some (15, true), .ld none (.t 18)⟩,
  ⟨some 20, some (15, true), .lenl (.t 19)⟩,
  ⟨some 21, some (15, true), .bin .gtr (.int .i64) true (.t 20) (.k (.int .i64 0))⟩,
  ⟨some 22, none, .pick (.t 15) (.t 21) (.k (.bool false))⟩,
  ⟨some 12, none, .mv (.t 22)⟩]) (.cond (.t 12) (.seq (.ops [⟨some 4, none, .mv (.k (.int .i64 10))⟩]) (.ret)) (.seq (.ops [⟨some 24, none, .mv (.t 0)⟩,
  ⟨some 25, none, .nilc (.t 24)⟩,
  ⟨some 26, none, .fa 1 (.t 25)⟩,
  ⟨some 27, none, .ld none (.t 26)⟩,
  ⟨some 28, none, .lenl (.t 27)⟩,
  ⟨some 29, none, .bin .geq (.int .i64) true (.t 28) (.k (.int .i64 32))⟩,
  ⟨some 23, none, .mv (.t 29)⟩]) (.cond (.t 23) (.seq (.ops [⟨some 4, none, .mv (.k (.int .i64 11))⟩]) (.ret)) (.seq (.ops [⟨some 31, none, .mv (.t 0)⟩,
  ⟨some 32, none, .nilc (.t 31)⟩,
  ⟨some 33, none, .fa 0 (.t 32)⟩,
  ⟨some 34, none, .ld none (.t 33)⟩,
  ⟨some 35, none, .lenl (.t 34)⟩,
  ⟨some 36, none, .bin .geq (.int .i64) true (.t 35) (.k (.int .i64 500))⟩,
  ⟨some 30, none, .mv (.t 36)⟩]) (.cond (.t 30) (.seq (.ops [⟨some 4, none, .mv (.k (.int .i64 4))⟩]) (.ret)) (.skip)))))))))) (.seq (.seq (.ops [⟨some 37, none, .mv (.t 5)⟩,
  ⟨some 38, none, .bin .geq (.int .i64) true (.t 37) (.k (.int .i64 0))⟩]) (.cond (.t 38) (.ops [⟨some 39, none, .mv (.t 0)⟩,
  ⟨some 40, none, .nilc (.t 39)⟩,
  ⟨some 41, none, .fa 2 (.t 40)⟩,
  ⟨some 42, none, .ld none (.t 41)⟩,
  ⟨some 43, none, .mv (.t 5)⟩,
  ⟨some 44, none, .ixs 1 (.t 42) (.t 43)⟩,
  ⟨none, none, .st 1 (.t 44) (.k (.bool true))⟩]) (.skip))) (.seq (.seq (.ops [⟨some 45, none, .fa 4 (.t 3)⟩,
  ⟨some 46, none, .ld none (.t 45)⟩,
  ⟨some 47, none, .un .not (.t 46)⟩]) (.cond (.t 47) (.mix (.q 0 ⟨some 48, none, .mv (.t 0)⟩ (.q 0 ⟨some 49, none, .mv (.t 0)⟩ (.q 1 ⟨some 50, none, .nilc (.t 49)⟩ (.q 1 ⟨some 51, none, .fa 1 (.t 50)⟩ (.q 1 ⟨some 52, none, .ld none (.t 51)⟩ (.q 0 ⟨some 53, none, .mv (.t 0)⟩ (.q 1 ⟨some 54, none, .nilc (.t 53)⟩ (.q 1 ⟨some 55, none, .fa 0 (.t 54)⟩ (.q 1 ⟨some 56, none, .ld none (.t 55)⟩ (.q 0 ⟨some 57, none, .lenl (.t 56)⟩ (.e ⟨some 58, none, .mks 3 1 [.int .i64 0] 1 [(0, .t 57)]⟩ (.e ⟨some 59, none, .app 3 1 8 (.t 52) (.t 58)⟩ (.q 1 ⟨some 60, none, .nilc (.t 48)⟩ (.q 1 ⟨some 61, none, .fa 1 (.t 60)⟩ (.f ⟨none, none, .st 1 (.t 61) (.t 59)⟩ (.done))))))))))))))))) (.skip))) (.seq (.mix (.q 0 ⟨some 62, none, .mv (.t 0)⟩ (.q 0 ⟨some 63, none, .mv (.t 0)⟩ (.q 1 ⟨some 64, none, .nilc (.t 63)⟩ (.q 1 ⟨some 65, none, .fa 0 (.t 64)⟩ (.q 1 ⟨some 66, none, .ld none (.t 65)⟩ (.q 0 ⟨some 67, none, .mv (.t 5)⟩ (.q 1 ⟨some 68, none, .fa 1 (.t 3)⟩ (.q 1 ⟨some 69, none, .ld none (.t 68)⟩ (.q 1 ⟨some 70, none, .fa 3 (.t 3)⟩ (.q 1 ⟨some 71, none, .ld none (.t 70)⟩ (.e ⟨some 72, none, .call (.k (.fn (.func 86) [] [])) [.t 71]⟩ (.q 0 ⟨some 73, none, .mk [.int .i64 0, .str [], .str [], .nils] [(0, 1, .t 67), (1, 1, .t 69), (3, 1, .t 72)]⟩ (.e ⟨some 74, none, .mks 40 4 [.int .i64 0, .str [], .str [], .nils] 1 [(0, .t 73)]⟩ (.e ⟨some 75, none, .app 40 4 64 (.t 66) (.t 74)⟩ (.q 1 ⟨some 76, none, .nilc (.t 62)⟩ (.q 1 ⟨some 77, none, .fa 0 (.t 76)⟩ (.f ⟨none, none, .st 1 (.t 77) (.t 75)⟩ (.done))))))))))))))))))) (.seq (.ops [⟨some 78, none, .mv (.t 0)⟩,
  ⟨some 79, none, .mv (.t 0)⟩,
  ⟨some 80, none, .nilc (.t 79)⟩,
  ⟨some 81, none, .fa 2 (.t 80)⟩,
  ⟨some 82, none, .ld none (.t 81)⟩,
  ⟨some 83, none, .mks 4 1 [.bool false] 1 [(0, .k (.bool false))]⟩,
  ⟨some 84, none, .app 4 1 1 (.t 82) (.t 83)⟩,
  ⟨some 85, none, .nilc (.t 78)⟩,
  ⟨some 86, none, .fa 2 (.t 85)⟩,
  ⟨none, none, .st 1 (.t 86) (.t 84)⟩]) (.seq (.ops [⟨some 4, none, .mv (.k (.int .i64 0))⟩]) (.ret))))))))⟩
theorem fk60 (G : GT) : FOk Tryz.prog tt G 60 c60 := ⟨_, Tryz.func60, by kernel_rfl⟩
/-- (*comptoir/tree.build).end -/
def c61 : CF := ⟨37, [.t 4], .seq (.ops [⟨some 3, none, .box 30 (.t 1)⟩,
  ⟨some 4, none, .mv (.k (.int .i64 0))⟩]) (.seq (.seq (.ops [⟨some 6, none, .mv (.t 0)⟩,
  ⟨some 7, none, .call (.k (.fn (.func 85) [] [])) [.t 6]⟩,
  ⟨some 5, none, .mv (.t 7)⟩]) (.seq (.draw [⟨some 8, none, .mv (.t 5)⟩,
  ⟨some 9, none, .bin .lss (.int .i64) true (.t 8) (.k (.int .i64 0))⟩,
  ⟨some 10, none, .mv (.t 9)⟩,
  ⟨some 11, some (10, false), .mv (.t 0)⟩,
  ⟨some 12, some (10, false), .nilc (.t 11)⟩,
  ⟨some 13, some (10, false), .fa 0 (.t 12)⟩,
  ⟨some 14, some (10, false), .ld none (.t 13)⟩,
  ⟨some 15, some (10, false), .mv (.t 5)⟩,
  ⟨some 16, some (10, false), .ixs 4 (.t 14) (.t 15)⟩,
  ⟨some 17, some (10, false), .fa 1 (.t 16)⟩,
  ⟨some 18, some (10, false), .ld none (.t 17)⟩,
  ⟨some 19, some (10, false), .fa 1 (.t 3)⟩,
  ⟨some 20, some (10, false), .ld none (.t 19)⟩,
  ⟨some 21, some (10, false), .bin .neq (.str) false (.t 18) (.t 20)⟩,
  ⟨some 22, none, .pick (.t 10) (.k (.bool true)) (.t 21)⟩]) (.cond (.t 22) (.seq (.ops [⟨some 4, none, .mv (.k (.int .i64 10))⟩]) (.ret)) (.skip)))) (.seq (.mix (.q 0 ⟨some 23, none, .mv (.t 0)⟩ (.q 0 ⟨some 24, none, .mv (.t 0)⟩ (.q 1 ⟨some 25, none, .nilc (.t 24)⟩ (.q 1 ⟨some 26, none, .fa 1 (.t 25)⟩ (.q 1 ⟨some 27, none, .ld none (.t 26)⟩ (.q 0 ⟨some 28, none, .mv (.t 0)⟩ (.q 1 ⟨some 29, none, .nilc (.t 28)⟩ (.q 1 ⟨some 30, none, .fa 1 (.t 29)⟩ (.q 1 ⟨some 31, none, .ld none (.t 30)⟩ (.q 0 ⟨some 32, none, .lenl (.t 31)⟩ (.q 0 ⟨some 33, none, .bin .sub (.int .i64) true (.t 32) (.k (.int .i64 1))⟩ (.q 1 ⟨some 34, none, .sls 1 (.t 27) none (some (.t 33)) none⟩ (.q 1 ⟨some 35, none, .nilc (.t 23)⟩ (.q 1 ⟨some 36, none, .fa 1 (.t 35)⟩ (.f ⟨none, none, .st 1 (.t 36) (.t 34)⟩ (.done))))))))))))))))) (.seq (.ops [⟨some 4, none, .mv (.k (.int .i64 0))⟩]) (.ret))))⟩
theorem fk61 (G : GT) : FOk Tryz.prog tt G 61 c61 := ⟨_, Tryz.func61, by kernel_rfl⟩
/-- (*comptoir/tree.build).text -/
def c62 : CF := ⟨29, [.t 4], .seq (.ops [⟨some 3, none, .box 30 (.t 1)⟩,
  ⟨some 4, none, .mv (.k (.int .i64 0))⟩]) (.seq (.ops [⟨some 6, none, .mv (.t 0)⟩,
  ⟨some 7, none, .call (.k (.fn (.func 85) [] [])) [.t 6]⟩,
  ⟨some 5, none, .mv (.t 7)⟩]) (.seq (.block 0 (.seq (.ops [⟨some 9, none, .mv (.t 5)⟩,
  ⟨some 10, none, .bin .geq (.int .i64) true (.t 9) (.k (.int .i64 0))⟩,
  ⟨some 8, none, .mv (.t 10)⟩]) (.cond (.t 8) (.mix (.q 0 ⟨some 11, none, .mv (.t 0)⟩ (.q 1 ⟨some 12, none, .nilc (.t 11)⟩ (.q 1 ⟨some 13, none, .fa 0 (.t 12)⟩ (.q 1 ⟨some 14, none, .ld none (.t 13)⟩ (.q 0 ⟨some 15, none, .mv (.t 5)⟩ (.q 1 ⟨some 16, none, .ixs 4 (.t 14) (.t 15)⟩ (.q 1 ⟨some 17, none, .fa 2 (.t 16)⟩ (.q 1 ⟨some 18, none, .ld none (.t 17)⟩ (.q 1 ⟨some 19, none, .fa 2 (.t 3)⟩ (.q 1 ⟨some 20, none, .ld none (.t 19)⟩ (.q 0 ⟨some 21, none, .bin .add (.str) false (.t 18) (.t 20)⟩ (.q 1 ⟨some 22, none, .ixs 4 (.t 14) (.t 15)⟩ (.q 1 ⟨some 23, none, .fa 2 (.t 22)⟩ (.f ⟨none, none, .st 1 (.t 23) (.t 21)⟩ (.done)))))))))))))))) (.seq (.ops [⟨some 25, none, .fa 2 (.t 3)⟩,
  ⟨some 26, none, .ld none (.t 25)⟩,
  ⟨some 27, none, .call (.k (.fn (.func 63) [] [])) [.t 26]⟩,
  ⟨some 28, none, .un .not (.t 27)⟩,
  ⟨some 24, none, .mv (.t 28)⟩]) (.cond (.t 24) (.seq (.ops [⟨some 4, none, .mv (.k (.int .i64 10))⟩]) (.ret)) (.skip)))))) (.seq (.ops [⟨some 4, none, .mv (.k (.int .i64 0))⟩]) (.ret))))⟩
theorem fk62 (G : GT) : FOk Tryz.prog tt G 62 c62 := ⟨_, Tryz.func62, by kernel_rfl⟩
/-- comptoir/tree.blank -/
def c63 : CF := ⟨6, [.t 2], .seq (.ops [⟨some 2, none, .mv (.k (.bool false))⟩]) (.seq (.ops [⟨some 3, none, .mv (.t 0)⟩,
  ⟨some 4, none, .call (.k (.fn (.func 87) [] [])) [.t 3, .k (.str [9, 10, 13, 32])]⟩,
  ⟨some 5, none, .bin .eql (.str) true (.t 4) (.k (.str []))⟩,
  ⟨some 2, none, .mv (.t 5)⟩]) (.ret))⟩
theorem fk63 (G : GT) : FOk Tryz.prog tt G 63 c63 := ⟨_, Tryz.func63, by kernel_rfl⟩
/-- (*comptoir/token.walk).name -/
def c73 : CF := ⟨19, [.t 2], .seq (.ops [⟨some 2, none, .mv (.k (.str []))⟩]) (.seq (.seq (.ops [⟨some 3, none, .mv (.t 0)⟩,
  ⟨some 4, none, .nilc (.t 3)⟩,
  ⟨some 5, none, .fa 0 (.t 4)⟩,
  ⟨some 6, none, .ld none (.t 5)⟩,
  ⟨some 7, none, .bin .eql (.str) true (.t 6) (.k (.str []))⟩,
  ⟨some 8, none, .mv (.t 7)⟩,
  ⟨some 9, some (8, false), .mv (.t 0)⟩,
  ⟨some 10, some (8, false), .nilc (.t 9)⟩,
  ⟨some 11, some (8, false), .fa 0 (.t 10)⟩,
  ⟨some 12, some (8, false), .ld none (.t 11)⟩,
  ⟨some 13, some (8, false), .slstr (.t 12) none (some (.k (.int .i64 1)))⟩,
  ⟨some 14, some (8, false), .call (.k (.fn (.func 89) [] [])) [.k (.str [97, 98, 99, 100, 101, 102, 103, 104, 105, 106, 107, 108, 109, 110, 111, 112, 113, 114, 115, 116, 117, 118, 119, 120, 121, 122, 65, 66, 67, 68, 69, 70, 71, 72, 73, 74, 75, 76, 77, 78, 79, 80, 81, 82, 83, 84, 85, 86, 87, 88, 89, 90, 95]), .t 13]⟩,
  ⟨some 15, some (8, false), .un .not (.t 14)⟩,
  ⟨some 16, none, .pick (.t 8) (.k (.bool true)) (.t 15)⟩]) (.cond (.t 16) (.seq (.ops [⟨some 2, none, .mv (.k (.str []))⟩]) (.ret)) (.skip))) (.seq (.ops [⟨some 17, none, .mv (.t 0)⟩,
  ⟨some 18, none, .call (.k (.fn (.func 74) [] [])) [.t 17, .k (.str [97, 98, 99, 100, 101, 102, 103, 104, 105, 106, 107, 108, 109, 110, 111, 112, 113, 114, 115, 116, 117, 118, 119, 120, 121, 122, 65, 66, 67, 68, 69, 70, 71, 72, 73, 74, 75, 76, 77, 78, 79, 80, 81, 82, 83, 84, 85, 86, 87, 88, 89, 90, 48, 49, 50, 51, 52, 53, 54, 55, 56, 57, 95, 45, 46, 58])]⟩,
  ⟨some 2, none, .mv (.t 18)⟩]) (.ret)))⟩
theorem fk73 (G : GT) : FOk Tryz.prog tt G 73 c73 := ⟨_, Tryz.func73, by kernel_rfl⟩
/-- (*comptoir/token.walk).run -/
def c74 : CF := ⟨31, [.t 4], .seq (.ops [⟨some 4, none, .mv (.k (.str []))⟩]) (.seq (.ops [⟨some 7, none, .mv (.t 0)⟩,
  ⟨some 8, none, .nilc (.t 7)⟩,
  ⟨some 9, none, .fa 0 (.t 8)⟩,
  ⟨some 10, none, .ld none (.t 9)⟩,
  ⟨some 11, none, .mv (.t 1)⟩,
  ⟨some 12, none, .call (.k (.fn (.func 95) [] [])) [.t 10, .t 11]⟩,
  ⟨some 5, none, .mv (.t 12)⟩]) (.seq (.draw [⟨some 13, none, .mv (.t 0)⟩,
  ⟨some 14, none, .nilc (.t 13)⟩,
  ⟨some 15, none, .fa 0 (.t 14)⟩,
  ⟨some 16, none, .ld none (.t 15)⟩,
  ⟨some 17, none, .mv (.t 0)⟩,
  ⟨some 18, none, .nilc (.t 17)⟩,
  ⟨some 19, none, .fa 0 (.t 18)⟩,
  ⟨some 20, none, .ld none (.t 19)⟩,
  ⟨some 21, none, .lens (.t 20)⟩,
  ⟨some 22, none, .mv (.t 5)⟩,
  ⟨some 23, none, .lens (.t 22)⟩,
  ⟨some 24, none, .bin .sub (.int .i64) false (.t 21) (.t 23)⟩,
  ⟨some 25, none, .slstr (.t 16) none (some (.t 24))⟩,
  ⟨some 6, none, .mv (.t 25)⟩]) (.seq (.ops [⟨some 26, none, .mv (.t 0)⟩,
  ⟨some 27, none, .mv (.t 5)⟩,
  ⟨some 28, none, .nilc (.t 26)⟩,
  ⟨some 29, none, .fa 0 (.t 28)⟩,
  ⟨none, none, .st 1 (.t 29) (.t 27)⟩]) (.seq (.ops [⟨some 30, none, .mv (.t 6)⟩,
  ⟨some 4, none, .mv (.t 30)⟩]) (.ret)))))⟩
theorem fk74 (G : GT) : FOk Tryz.prog tt G 74 c74 := ⟨_, Tryz.func74, by kernel_rfl⟩
/-- (*comptoir/token.walk).attr -/
def c75 : CF := ⟨30, [.c 2 (some 2), .t 3], .seq (.ops [⟨some 2, none, .alloc 64 [.str [], .str []]⟩,
  ⟨some 3, none, .mv (.k (.bool false))⟩]) (.seq (.ops [⟨some 6, none, .mv (.t 0)⟩,
  ⟨some 7, none, .call (.k (.fn (.func 73) [] [])) [.t 6]⟩,
  ⟨some 8, none, .mk [.str [], .str []] [(0, 1, .t 7)]⟩,
  ⟨some 4, none, .alloc 64 [.str [], .str []]⟩,
  ⟨none, none, .st 2 (.t 4) (.t 8)⟩]) (.seq (.ops [⟨some 9, none, .mv (.t 0)⟩,
  ⟨some 10, none, .call (.k (.fn (.func 74) [] [])) [.t 9, .k (.str [9, 10, 13, 32])]⟩]) (.seq (.seq (.ops [⟨some 11, none, .fa 0 (.t 4)⟩,
  ⟨some 12, none, .ld none (.t 11)⟩,
  ⟨some 13, none, .bin .eql (.str) true (.t 12) (.k (.str []))⟩,
  ⟨some 14, none, .mv (.t 13)⟩,
  ⟨some 15, some (14, false), .mv (.t 0)⟩,
  ⟨some 16, some (14, false), .call (.k (.fn (.func 30) [] [])) [.t 15, .k (.str [61])]⟩,
  ⟨some 17, some (14, false), .un .not (.t 16)⟩,
  ⟨some 18, none, .pick (.t 14) (.k (.bool true)) (.t 17)⟩]) (.cond (.t 18) (.seq (.ops [⟨some 19, none, .ld (some 2) (.t 4)⟩,
  ⟨none, none, .st 2 (.t 2) (.t 19)⟩,
  ⟨some 3, none, .mv (.k (.bool false))⟩]) (.ret)) (.skip))) (.seq (.ops [⟨some 20, none, .mv (.t 0)⟩,
  ⟨some 21, none, .call (.k (.fn (.func 74) [] [])) [.t 20, .k (.str [9, 10, 13, 32])]⟩]) (.seq (.ops [⟨some 5, none, .mv (.k (.bool false))⟩]) (.seq (.ops [⟨some 23, none, .mv (.t 0)⟩,
  ⟨some 24, none, .call (.k (.fn (.func 96) [] [])) [.t 23]⟩,
  ⟨some 22, none, .mv (.t 24)⟩,
  ⟨some 25, none, .ex (.t 22) 0⟩,
  ⟨some 26, none, .ex (.t 22) 1⟩,
  ⟨some 27, none, .fa 1 (.t 4)⟩,
  ⟨none, none, .st 1 (.t 27) (.t 25)⟩,
  ⟨some 5, none, .mv (.t 26)⟩]) (.seq (.ops [⟨some 28, none, .ld (some 2) (.t 4)⟩,
  ⟨some 29, none, .mv (.t 5)⟩,
  ⟨none, none, .st 2 (.t 2) (.t 28)⟩,
  ⟨some 3, none, .mv (.t 29)⟩]) (.ret))))))))⟩
theorem fk75 (G : GT) : FOk Tryz.prog tt G 75 c75 := ⟨_, Tryz.func75, by kernel_rfl⟩
/-- slices.ContainsFunc[[]comptoir/api.Attr,comptoir/api.Attr] -/
def c76 : CF := ⟨9, [.t 4], .seq (.ops [⟨some 4, none, .mv (.k (.bool false))⟩]) (.seq (.ops [⟨some 5, none, .mv (.t 0)⟩,
  ⟨some 6, none, .mv (.t 1)⟩,
  ⟨some 7, none, .call (.k (.fn (.func 97) [] [])) [.t 5, .t 6]⟩,
  ⟨some 8, none, .bin .geq (.int .i64) true (.t 7) (.k (.int .i64 0))⟩,
  ⟨some 4, none, .mv (.t 8)⟩]) (.ret))⟩
theorem fk76 (G : GT) : FOk Tryz.prog tt G 76 c76 := ⟨_, Tryz.func76, by kernel_rfl⟩
/-- (*comptoir/token.walk).open$1 -/
def c77 : CF := ⟨9, [.t 3], .seq (.ops [⟨some 2, none, .box 64 (.t 0)⟩,
  ⟨some 3, none, .mv (.k (.bool false))⟩]) (.seq (.ops [⟨some 4, none, .fa 0 (.t 2)⟩,
  ⟨some 5, none, .ld none (.t 4)⟩,
  ⟨some 6, none, .fa 0 (.t 1)⟩,
  ⟨some 7, none, .ld none (.t 6)⟩,
  ⟨some 8, none, .bin .eql (.str) false (.t 5) (.t 7)⟩,
  ⟨some 3, none, .mv (.t 8)⟩]) (.ret))⟩
theorem fk77 (G : GT) : FOk Tryz.prog tt G 77 c77 := ⟨_, Tryz.func77, by kernel_rfl⟩
def l79_0b : CC := .block 1 (.seq (.ops [⟨some 12, none, .mv (.t 0)⟩,
  ⟨some 13, none, .call (.k (.fn (.func 99) [] [])) [.t 12, .k (.str [38])]⟩,
  ⟨some 11, none, .mv (.t 13)⟩,
  ⟨some 14, none, .ex (.t 11) 0⟩,
  ⟨some 15, none, .ex (.t 11) 1⟩,
  ⟨some 16, none, .ex (.t 11) 2⟩,
  ⟨some 5, none, .mv (.t 14)⟩,
  ⟨some 6, none, .mv (.t 15)⟩,
  ⟨some 7, none, .mv (.t 16)⟩]) (.seq (.ops [⟨some 17, none, .mv (.t 5)⟩,
  ⟨some 18, none, .call (.k (.fn (.func 91) [] [])) [.t 4, .t 17]⟩]) (.seq (.seq (.ops [⟨some 19, none, .mv (.t 7)⟩,
  ⟨some 20, none, .un .not (.t 19)⟩]) (.cond (.t 20) (.seq (.ops [⟨some 21, none, .call (.k (.fn (.func 44) [] [])) [.t 4]⟩,
  ⟨some 2, none, .mv (.t 21)⟩,
  ⟨some 3, none, .mv (.k (.bool true))⟩]) (.ret)) (.skip))) (.seq (.ops [⟨some 23, none, .mv (.t 6)⟩,
  ⟨some 24, none, .call (.k (.fn (.func 99) [] [])) [.t 23, .k (.str [59])]⟩,
  ⟨some 22, none, .mv (.t 24)⟩,
  ⟨some 25, none, .ex (.t 22) 0⟩,
  ⟨some 26, none, .ex (.t 22) 1⟩,
  ⟨some 27, none, .ex (.t 22) 2⟩,
  ⟨some 8, none, .mv (.t 25)⟩,
  ⟨some 9, none, .mv (.t 26)⟩,
  ⟨some 7, none, .mv (.t 27)⟩]) (.seq (.ops [⟨some 28, none, .mv (.t 8)⟩,
  ⟨some 29, none, .call (.k (.fn (.func 100) [] [])) [.t 28]⟩,
  ⟨some 10, none, .mv (.t 29)⟩]) (.seq (.seq (.ops [⟨some 30, none, .mv (.t 7)⟩,
  ⟨some 31, none, .un .not (.t 30)⟩,
  ⟨some 32, none, .mv (.t 31)⟩,
  ⟨some 33, some (32, false), .mv (.t 10)⟩,
  ⟨some 34, some (32, false), .bin .eql (.str) true (.t 33) (.k (.str []))⟩,
  ⟨some 35, none, .pick (.t 32) (.k (.bool true)) (.t 34)⟩]) (.cond (.t 35) (.seq (.ops [⟨some 2, none, .mv (.k (.str []))⟩,
  ⟨some 3, none, .mv (.k (.bool false))⟩]) (.ret)) (.skip))) (.seq (.ops [⟨some 36, none, .mv (.t 10)⟩,
  ⟨some 37, none, .call (.k (.fn (.func 91) [] [])) [.t 4, .t 36]⟩]) (.ops [⟨some 38, none, .mv (.t 9)⟩,
  ⟨some 0, none, .mv (.t 38)⟩]))))))))
def l79_0 : CC := l79_0b
theorem l79_0x (P : Program) (T : TT) (G : GT) (Q : EQ) (t : Env) (σ : St) : aC P T G l79_0 Q t σ = aC P T G l79_0b Q t σ := rfl
/-- comptoir/token.value -/
def c79 : CF := ⟨39, [.t 2, .t 3], .seq (.ops [⟨some 2, none, .mv (.k (.str []))⟩,
  ⟨some 3, none, .mv (.k (.bool false))⟩]) (.seq (.ops [⟨some 4, none, .alloc 82 [.nilp, .nils]⟩]) (.block 0 (.loop l79_0)))⟩
theorem fk79 (G : GT) : FOk Tryz.prog tt G 79 c79 := ⟨_, Tryz.func79, by kernel_rfl⟩
/-- (*comptoir/tree.build).top -/
def c85 : CF := ⟨21, [.t 2], .seq (.ops [⟨some 2, none, .mv (.k (.int .i64 0))⟩]) (.seq (.seq (.ops [⟨some 3, none, .mv (.t 0)⟩,
  ⟨some 4, none, .nilc (.t 3)⟩,
  ⟨some 5, none, .fa 1 (.t 4)⟩,
  ⟨some 6, none, .ld none (.t 5)⟩,
  ⟨some 7, none, .lenl (.t 6)⟩,
  ⟨some 8, none, .bin .eql (.int .i64) true (.t 7) (.k (.int .i64 0))⟩]) (.cond (.t 8) (.seq (.ops [⟨some 2, none, .mv (.k (.int .i64 (-1)))⟩]) (.ret)) (.skip))) (.seq (.draw [⟨some 9, none, .mv (.t 0)⟩,
  ⟨some 10, none, .nilc (.t 9)⟩,
  ⟨some 11, none, .fa 1 (.t 10)⟩,
  ⟨some 12, none, .ld none (.t 11)⟩,
  ⟨some 13, none, .mv (.t 0)⟩,
  ⟨some 14, none, .nilc (.t 13)⟩,
  ⟨some 15, none, .fa 1 (.t 14)⟩,
  ⟨some 16, none, .ld none (.t 15)⟩,
  ⟨some 17, none, .lenl (.t 16)⟩,
  ⟨some 18, none, .bin .sub (.int .i64) true (.t 17) (.k (.int .i64 1))⟩,
  ⟨some 19, none, .ixs 1 (.t 12) (.t 18)⟩,
  ⟨some 20, none, .ld none (.t 19)⟩,
  ⟨some 2, none, .mv (.t 20)⟩]) (.ret)))⟩
theorem fk85 (G : GT) : FOk Tryz.prog tt G 85 c85 := ⟨_, Tryz.func85, by kernel_rfl⟩
/-- slices.Clone[[]comptoir/api.Attr,comptoir/api.Attr] -/
def c86 : CF := ⟨8, [.t 2], .seq (.ops [⟨some 2, none, .mv (.k (.nils))⟩]) (.seq (.seq (.ops [⟨some 3, none, .mv (.t 0)⟩,
  ⟨some 4, none, .bin .eql (.slice 64) true (.t 3) (.k (.nils))⟩]) (.cond (.t 4) (.seq (.ops [⟨some 2, none, .mv (.k (.nils))⟩]) (.ret)) (.skip))) (.seq (.ops [⟨some 5, none, .mks 64 2 [.str [], .str []] 0 []⟩,
  ⟨some 6, none, .mv (.t 0)⟩,
  ⟨some 7, none, .app 64 2 32 (.t 5) (.t 6)⟩,
  ⟨some 2, none, .mv (.t 7)⟩]) (.ret)))⟩
theorem fk86 (G : GT) : FOk Tryz.prog tt G 86 c86 := ⟨_, Tryz.func86, by kernel_rfl⟩
/-- strings.Trim -/
def c87 : CF := ⟨43, [.t 4], .seq (.ops [⟨some 4, none, .mv (.k (.str []))⟩]) (.seq (.seq (.ops [⟨some 7, none, .mv (.t 0)⟩,
  ⟨some 8, none, .bin .eql (.str) true (.t 7) (.k (.str []))⟩,
  ⟨some 9, none, .mv (.t 8)⟩,
  ⟨some 10, some (9, false), .mv (.t 1)⟩,
  ⟨some 11, some (9, false), .bin .eql (.str) true (.t 10) (.k (.str []))⟩,
  ⟨some 12, none, .pick (.t 9) (.k (.bool true)) (.t 11)⟩]) (.cond (.t 12) (.seq (.ops [⟨some 13, none, .mv (.t 0)⟩,
  ⟨some 4, none, .mv (.t 13)⟩]) (.ret)) (.skip))) (.seq (.seq (.ops [⟨some 14, none, .mv (.t 1)⟩,
  ⟨some 15, none, .lens (.t 14)⟩,
  ⟨some 16, none, .bin .eql (.int .i64) true (.t 15) (.k (.int .i64 1))⟩,
  ⟨some 17, none, .mv (.t 16)⟩,
  ⟨some 18, some (17, true), .mv (.t 1)⟩,
  ⟨some 19, some (17, true), .ixstr (.t 18) (.k (.int .i64 0))⟩,
  ⟨some 20, some (17, true), .bin .lss (.int .u8) true (.t 19) (.k (.int .u8 128))⟩,
  ⟨some 21, none, .pick (.t 17) (.t 20) (.k (.bool false))⟩]) (.cond (.t 21) (.seq (.mix (.q 0 ⟨some 22, none, .mv (.t 0)⟩ (.q 0 ⟨some 23, none, .mv (.t 1)⟩ (.q 0 ⟨some 24, none, .ixstr (.t 23) (.k (.int .i64 0))⟩ (.q 0 ⟨some 26, none, .mv (.t 1)⟩ (.q 0 ⟨some 27, none, .ixstr (.t 26) (.k (.int .i64 0))⟩ (.e ⟨some 25, none, .call (.k (.fn (.func 106) [] [])) [.t 22, .t 24]⟩ (.f ⟨some 28, none, .call (.k (.fn (.func 105) [] [])) [.t 25, .t 27]⟩ (.q 0 ⟨some 4, none, .mv (.t 28)⟩ (.done)))))))))) (.ret)) (.skip))) (.seq (.seq (.ops [⟨some 30, none, .mv (.t 1)⟩,
  ⟨some 31, none, .call (.k (.fn (.func 107) [] [])) [.t 30]⟩,
  ⟨some 29, none, .mv (.t 31)⟩,
  ⟨some 32, none, .ex (.t 29) 0⟩,
  ⟨some 33, none, .ex (.t 29) 1⟩,
  ⟨some 5, none, .alloc 137 (List.replicate 256 (.bool false))⟩,
  ⟨none, none, .st 256 (.t 5) (.t 32)⟩,
  ⟨some 6, none, .mv (.t 33)⟩]) (.seq (.ops [⟨some 34, none, .mv (.t 6)⟩]) (.cond (.t 34) (.seq (.ops [⟨some 35, none, .mv (.t 0)⟩,
  ⟨some 36, none, .call (.k (.fn (.func 109) [] [])) [.t 35, .t 5]⟩,
  ⟨some 37, none, .call (.k (.fn (.func 108) [] [])) [.t 36, .t 5]⟩,
  ⟨some 4, none, .mv (.t 37)⟩]) (.ret)) (.skip)))) (.seq (.ops [⟨some 38, none, .mv (.t 0)⟩,
  ⟨some 39, none, .mv (.t 1)⟩,
  ⟨some 40, none, .call (.k (.fn (.func 111) [] [])) [.t 38, .t 39]⟩,
  ⟨some 41, none, .mv (.t 1)⟩,
  ⟨some 42, none, .call (.k (.fn (.func 110) [] [])) [.t 40, .t 41]⟩,
  ⟨some 4, none, .mv (.t 42)⟩]) (.ret)))))⟩
theorem fk87 (G : GT) : FOk Tryz.prog tt G 87 c87 := ⟨_, Tryz.func87, by kernel_rfl⟩
/-- (*strings.Builder).WriteString -/
def c91 : CF := ⟨19, [.t 4, .t 5], .seq (.ops [⟨some 4, none, .mv (.k (.int .i64 0))⟩,
  ⟨some 5, none, .mv (.k (.nili))⟩]) (.seq (.ops [⟨some 6, none, .mv (.t 0)⟩,
  ⟨some 7, none, .call (.k (.fn (.func 113) [] [])) [.t 6]⟩]) (.seq (.ops [⟨some 8, none, .mv (.t 0)⟩,
  ⟨some 9, none, .mv (.t 0)⟩,
  ⟨some 10, none, .nilc (.t 9)⟩,
  ⟨some 11, none, .fa 1 (.t 10)⟩,
  ⟨some 12, none, .ld none (.t 11)⟩,
  ⟨some 13, none, .mv (.t 1)⟩,
  ⟨some 14, none, .app 5 1 1 (.t 12) (.t 13)⟩,
  ⟨some 15, none, .nilc (.t 8)⟩,
  ⟨some 16, none, .fa 1 (.t 15)⟩,
  ⟨none, none, .st 1 (.t 16) (.t 14)⟩]) (.seq (.ops [⟨some 17, none, .mv (.t 1)⟩,
  ⟨some 18, none, .lens (.t 17)⟩,
  ⟨some 4, none, .mv (.t 18)⟩,
  ⟨some 5, none, .mv (.k (.nili))⟩]) (.ret))))⟩
theorem fk91 (G : GT) : FOk Tryz.prog tt G 91 c91 := ⟨_, Tryz.func91, by kernel_rfl⟩
/-- strings.TrimLeft -/
def c95 : CF := ⟨37, [.t 4], .seq (.ops [⟨some 4, none, .mv (.k (.str []))⟩]) (.seq (.seq (.ops [⟨some 7, none, .mv (.t 0)⟩,
  ⟨some 8, none, .bin .eql (.str) true (.t 7) (.k (.str []))⟩,
  ⟨some 9, none, .mv (.t 8)⟩,
  ⟨some 10, some (9, false), .mv (.t 1)⟩,
  ⟨some 11, some (9, false), .bin .eql (.str) true (.t 10) (.k (.str []))⟩,
  ⟨some 12, none, .pick (.t 9) (.k (.bool true)) (.t 11)⟩]) (.cond (.t 12) (.seq (.ops [⟨some 13, none, .mv (.t 0)⟩,
  ⟨some 4, none, .mv (.t 13)⟩]) (.ret)) (.skip))) (.seq (.seq (.ops [⟨some 14, none, .mv (.t 1)⟩,
  ⟨some 15, none, .lens (.t 14)⟩,
  ⟨some 16, none, .bin .eql (.int .i64) true (.t 15) (.k (.int .i64 1))⟩,
  ⟨some 17, none, .mv (.t 16)⟩,
  ⟨some 18, some (17, true), .mv (.t 1)⟩,
  ⟨some 19, some (17, true), .ixstr (.t 18) (.k (.int .i64 0))⟩,
  ⟨some 20, some (17, true), .bin .lss (.int .u8) true (.t 19) (.k (.int .u8 128))⟩,
  ⟨some 21, none, .pick (.t 17) (.t 20) (.k (.bool false))⟩]) (.cond (.t 21) (.seq (.ops [⟨some 22, none, .mv (.t 0)⟩,
  ⟨some 23, none, .mv (.t 1)⟩,
  ⟨some 24, none, .ixstr (.t 23) (.k (.int .i64 0))⟩,
  ⟨some 25, none, .call (.k (.fn (.func 105) [] [])) [.t 22, .t 24]⟩,
  ⟨some 4, none, .mv (.t 25)⟩]) (.ret)) (.skip))) (.seq (.seq (.ops [⟨some 27, none, .mv (.t 1)⟩,
  ⟨some 28, none, .call (.k (.fn (.func 107) [] [])) [.t 27]⟩,
  ⟨some 26, none, .mv (.t 28)⟩,
  ⟨some 29, none, .ex (.t 26) 0⟩,
  ⟨some 30, none, .ex (.t 26) 1⟩,
  ⟨some 5, none, .alloc 137 (List.replicate 256 (.bool false))⟩,
  ⟨none, none, .st 256 (.t 5) (.t 29)⟩,
  ⟨some 6, none, .mv (.t 30)⟩]) (.seq (.ops [⟨some 31, none, .mv (.t 6)⟩]) (.cond (.t 31) (.seq (.ops [⟨some 32, none, .mv (.t 0)⟩,
  ⟨some 33, none, .call (.k (.fn (.func 108) [] [])) [.t 32, .t 5]⟩,
  ⟨some 4, none, .mv (.t 33)⟩]) (.ret)) (.skip)))) (.seq (.ops [⟨some 34, none, .mv (.t 0)⟩,
  ⟨some 35, none, .mv (.t 1)⟩,
  ⟨some 36, none, .call (.k (.fn (.func 110) [] [])) [.t 34, .t 35]⟩,
  ⟨some 4, none, .mv (.t 36)⟩]) (.ret)))))⟩
theorem fk95 (G : GT) : FOk Tryz.prog tt G 95 c95 := ⟨_, Tryz.func95, by kernel_rfl⟩
def l96_0b : CC := .seq (.ops [⟨some 14, none, .bin .lss (.int .i64) false (.t 13) (.t 12)⟩]) (.seq (.cond (.t 14) (.skip) (.exit 0)) (.seq (.block 1 (.seq (.ops [⟨some 15, none, .ixs 1 (.t 11) (.t 13)⟩,
  ⟨some 16, none, .ld none (.t 15)⟩,
  ⟨some 5, none, .mv (.t 16)⟩]) (.seq (.seq (.ops [⟨some 17, none, .mv (.t 0)⟩,
  ⟨some 18, none, .mv (.t 5)⟩,
  ⟨some 19, none, .call (.k (.fn (.func 30) [] [])) [.t 17, .t 18]⟩,
  ⟨some 20, none, .un .not (.t 19)⟩]) (.cond (.t 20) (.exit 1) (.skip))) (.seq (.ops [⟨some 22, none, .mv (.t 0)⟩,
  ⟨some 23, none, .nilc (.t 22)⟩,
  ⟨some 24, none, .fa 0 (.t 23)⟩,
  ⟨some 25, none, .ld none (.t 24)⟩,
  ⟨some 26, none, .mv (.t 5)⟩,
  ⟨some 27, none, .call (.k (.fn (.func 99) [] [])) [.t 25, .t 26]⟩,
  ⟨some 21, none, .mv (.t 27)⟩,
  ⟨some 28, none, .ex (.t 21) 0⟩,
  ⟨some 29, none, .ex (.t 21) 1⟩,
  ⟨some 30, none, .ex (.t 21) 2⟩,
  ⟨some 6, none, .mv (.t 28)⟩,
  ⟨some 7, none, .mv (.t 29)⟩,
  ⟨some 8, none, .mv (.t 30)⟩]) (.seq (.ops [⟨some 31, none, .mv (.t 0)⟩,
  ⟨some 32, none, .mv (.t 7)⟩,
  ⟨some 33, none, .nilc (.t 31)⟩,
  ⟨some 34, none, .fa 0 (.t 33)⟩,
  ⟨none, none, .st 1 (.t 34) (.t 32)⟩]) (.seq (.ops [⟨some 36, none, .mv (.t 6)⟩,
  ⟨some 37, none, .call (.k (.fn (.func 79) [] [])) [.t 36]⟩,
  ⟨some 35, none, .mv (.t 37)⟩,
  ⟨some 38, none, .ex (.t 35) 0⟩,
  ⟨some 39, none, .ex (.t 35) 1⟩,
  ⟨some 9, none, .mv (.t 38)⟩,
  ⟨some 10, none, .mv (.t 39)⟩]) (.seq (.ops [⟨some 40, none, .mv (.t 9)⟩,
  ⟨some 41, none, .mv (.t 8)⟩,
  ⟨some 42, none, .mv (.t 41)⟩,
  ⟨some 43, some (42, true), .mv (.t 10)⟩,
  ⟨some 44, none, .pick (.t 42) (.t 43) (.k (.bool false))⟩,
  ⟨some 45, none, .mv (.t 44)⟩,
  ⟨some 46, some (45, true), .mv (.t 6)⟩,
  ⟨some 47, some (45, true), .call (.k (.fn (.func 89) [] [])) [.t 46, .k (.str [60])]⟩,
  ⟨some 48, some (45, true), .un .not (.t 47)⟩,
  ⟨some 49, none, .pick (.t 45) (.t 48) (.k (.bool false))⟩,
  ⟨some 2, none, .mv (.t 40)⟩,
  ⟨some 3, none, .mv (.t 49)⟩]) (.ret)))))))) (.ops [⟨some 50, none, .bin .add (.int .i64) true (.t 13) (.k (.int .i64 1))⟩,
  ⟨some 13, none, .mv (.t 50)⟩])))
def l96_0 : CC := l96_0b
theorem l96_0x (P : Program) (T : TT) (G : GT) (Q : EQ) (t : Env) (σ : St) : aC P T G l96_0 Q t σ = aC P T G l96_0b Q t σ := rfl
/-- (*comptoir/token.walk).quoted -/
def c96 : CF := ⟨51, [.t 2, .t 3], .seq (.ops [⟨some 2, none, .mv (.k (.str []))⟩,
  ⟨some 3, none, .mv (.k (.bool false))⟩]) (.seq (.seq (.ops [⟨some 11, none, .mks 9 1 [.str []] 2 [(0, .k (.str [34])), (1, .k (.str [39]))]⟩,
  ⟨some 12, none, .lenl (.t 11)⟩,
  ⟨some 13, none, .mv (.k (.int .i64 0))⟩]) (.block 0 (.loop l96_0))) (.seq (.ops [⟨some 2, none, .mv (.k (.str []))⟩,
  ⟨some 3, none, .mv (.k (.bool false))⟩]) (.ret)))⟩
theorem fk96 (G : GT) : FOk Tryz.prog tt G 96 c96 := ⟨_, Tryz.func96, by kernel_rfl⟩
def l97_0b : CC := .seq (.ops [⟨some 9, none, .bin .lss (.int .i64) false (.t 8) (.t 7)⟩]) (.seq (.cond (.t 9) (.skip) (.exit 0)) (.seq (.block 1 (.seq (.ops [⟨some 10, none, .mv (.t 8)⟩,
  ⟨some 5, none, .mv (.t 10)⟩]) (.seq (.ops [⟨some 11, none, .mv (.t 1)⟩,
  ⟨some 12, none, .mv (.t 0)⟩,
  ⟨some 13, none, .mv (.t 5)⟩,
  ⟨some 14, none, .ixs 2 (.t 12) (.t 13)⟩,
  ⟨some 15, none, .ld (some 2) (.t 14)⟩,
  ⟨some 16, none, .call (.t 11) [.t 15]⟩]) (.cond (.t 16) (.seq (.ops [⟨some 17, none, .mv (.t 5)⟩,
  ⟨some 4, none, .mv (.t 17)⟩]) (.ret)) (.skip))))) (.ops [⟨some 18, none, .bin .add (.int .i64) true (.t 8) (.k (.int .i64 1))⟩,
  ⟨some 8, none, .mv (.t 18)⟩])))
def l97_0 : CC := l97_0b
theorem l97_0x (P : Program) (T : TT) (G : GT) (Q : EQ) (t : Env) (σ : St) : aC P T G l97_0 Q t σ = aC P T G l97_0b Q t σ := rfl
/-- slices.IndexFunc[[]comptoir/api.Attr,comptoir/api.Attr] -/
def c97 : CF := ⟨19, [.t 4], .seq (.ops [⟨some 4, none, .mv (.k (.int .i64 0))⟩]) (.seq (.seq (.ops [⟨some 6, none, .mv (.t 0)⟩,
  ⟨some 7, none, .lenl (.t 6)⟩,
  ⟨some 8, none, .mv (.k (.int .i64 0))⟩]) (.block 0 (.loop l97_0))) (.seq (.ops [⟨some 4, none, .mv (.k (.int .i64 (-1)))⟩]) (.ret)))⟩
theorem fk97 (G : GT) : FOk Tryz.prog tt G 97 c97 := ⟨_, Tryz.func97, by kernel_rfl⟩
/-- comptoir/token.sign -/
def c100 : CF := ⟨34, [.t 2], .seq (.ops [⟨some 2, none, .mv (.k (.str []))⟩]) (.seq (.seq (.ops [⟨some 7, none, .mv (.t 0)⟩]) (.block 0 (.seq (.ops [⟨some 9, none, .bin .eql (.str) true (.t 7) (.k (.str [108, 116]))⟩,
  ⟨some 8, none, .mv (.t 9)⟩]) (.cond (.t 8) (.seq (.ops [⟨some 2, none, .mv (.k (.str [60]))⟩]) (.ret)) (.seq (.ops [⟨some 11, none, .bin .eql (.str) true (.t 7) (.k (.str [103, 116]))⟩,
  ⟨some 10, none, .mv (.t 11)⟩]) (.cond (.t 10) (.seq (.ops [⟨some 2, none, .mv (.k (.str [62]))⟩]) (.ret)) (.seq (.ops [⟨some 13, none, .bin .eql (.str) true (.t 7) (.k (.str [97, 109, 112]))⟩,
  ⟨some 12, none, .mv (.t 13)⟩]) (.cond (.t 12) (.seq (.ops [⟨some 2, none, .mv (.k (.str [38]))⟩]) (.ret)) (.seq (.ops [⟨some 15, none, .bin .eql (.str) true (.t 7) (.k (.str [113, 117, 111, 116]))⟩,
  ⟨some 14, none, .mv (.t 15)⟩]) (.cond (.t 14) (.seq (.ops [⟨some 2, none, .mv (.k (.str [34]))⟩]) (.ret)) (.seq (.ops [⟨some 17, none, .bin .eql (.str) true (.t 7) (.k (.str [97, 112, 111, 115]))⟩,
  ⟨some 16, none, .mv (.t 17)⟩]) (.cond (.t 16) (.seq (.ops [⟨some 2, none, .mv (.k (.str [39]))⟩]) (.ret)) (.skip))))))))))))) (.seq (.seq (.ops [⟨some 19, none, .mv (.t 0)⟩,
  ⟨some 20, none, .call (.k (.fn (.func 49) [] [])) [.t 19, .k (.str [35, 120])]⟩,
  ⟨some 18, none, .mv (.t 20)⟩,
  ⟨some 21, none, .ex (.t 18) 0⟩,
  ⟨some 22, none, .ex (.t 18) 1⟩,
  ⟨some 3, none, .mv (.t 21)⟩,
  ⟨some 4, none, .mv (.t 22)⟩]) (.seq (.ops [⟨some 23, none, .mv (.t 4)⟩]) (.cond (.t 23) (.seq (.ops [⟨some 24, none, .mv (.t 3)⟩,
  ⟨some 25, none, .call (.k (.fn (.func 118) [] [])) [.t 24, .k (.str [48, 49, 50, 51, 52, 53, 54, 55, 56, 57, 97, 98, 99, 100, 101, 102, 65, 66, 67, 68, 69, 70]), .k (.int .i64 6), .k (.int .i64 16)]⟩,
  ⟨some 2, none, .mv (.t 25)⟩]) (.ret)) (.skip)))) (.seq (.seq (.ops [⟨some 27, none, .mv (.t 0)⟩,
  ⟨some 28, none, .call (.k (.fn (.func 49) [] [])) [.t 27, .k (.str [35])]⟩,
  ⟨some 26, none, .mv (.t 28)⟩,
  ⟨some 29, none, .ex (.t 26) 0⟩,
  ⟨some 30, none, .ex (.t 26) 1⟩,
  ⟨some 5, none, .mv (.t 29)⟩,
  ⟨some 6, none, .mv (.t 30)⟩]) (.seq (.ops [⟨some 31, none, .mv (.t 6)⟩]) (.cond (.t 31) (.seq (.ops [⟨some 32, none, .mv (.t 5)⟩,
  ⟨some 33, none, .call (.k (.fn (.func 118) [] [])) [.t 32, .k (.str [48, 49, 50, 51, 52, 53, 54, 55, 56, 57]), .k (.int .i64 7), .k (.int .i64 10)]⟩,
  ⟨some 2, none, .mv (.t 33)⟩]) (.ret)) (.skip)))) (.seq (.ops [⟨some 2, none, .mv (.k (.str []))⟩]) (.ret)))))⟩
theorem fk100 (G : GT) : FOk Tryz.prog tt G 100 c100 := ⟨_, Tryz.func100, by kernel_rfl⟩
def l108_0b : CC := .seq (.seq (.ops [⟨some 5, none, .mv (.t 0)⟩,
  ⟨some 6, none, .lens (.t 5)⟩,
  ⟨some 7, none, .bin .gtr (.int .i64) true (.t 6) (.k (.int .i64 0))⟩]) (.cond (.t 7) (.skip) (.exit 0))) (.block 1 (.seq (.seq (.ops [⟨some 8, none, .mv (.t 1)⟩,
  ⟨some 9, none, .mv (.t 0)⟩,
  ⟨some 10, none, .ixstr (.t 9) (.k (.int .i64 0))⟩,
  ⟨some 11, none, .call (.k (.fn (.func 119) [] [])) [.t 8, .t 10]⟩,
  ⟨some 12, none, .un .not (.t 11)⟩]) (.cond (.t 12) (.exit 0) (.skip))) (.ops [⟨some 13, none, .mv (.t 0)⟩,
  ⟨some 14, none, .slstr (.t 13) (some (.k (.int .i64 1))) none⟩,
  ⟨some 0, none, .mv (.t 14)⟩])))
def l108_0 : CC := l108_0b
theorem l108_0x (P : Program) (T : TT) (G : GT) (Q : EQ) (t : Env) (σ : St) : aC P T G l108_0 Q t σ = aC P T G l108_0b Q t σ := rfl
/-- strings.trimLeftASCII -/
def c108 : CF := ⟨16, [.t 4], .seq (.ops [⟨some 4, none, .mv (.k (.str []))⟩]) (.seq (.block 0 (.loop l108_0)) (.seq (.ops [⟨some 15, none, .mv (.t 0)⟩,
  ⟨some 4, none, .mv (.t 15)⟩]) (.ret)))⟩
theorem fk108 (G : GT) : FOk Tryz.prog tt G 108 c108 := ⟨_, Tryz.func108, by kernel_rfl⟩
def l109_0b : CC := .seq (.seq (.ops [⟨some 5, none, .mv (.t 0)⟩,
  ⟨some 6, none, .lens (.t 5)⟩,
  ⟨some 7, none, .bin .gtr (.int .i64) true (.t 6) (.k (.int .i64 0))⟩]) (.cond (.t 7) (.skip) (.exit 0))) (.block 1 (.seq (.seq (.ops [⟨some 8, none, .mv (.t 1)⟩,
  ⟨some 9, none, .mv (.t 0)⟩,
  ⟨some 10, none, .mv (.t 0)⟩,
  ⟨some 11, none, .lens (.t 10)⟩,
  ⟨some 12, none, .bin .sub (.int .i64) true (.t 11) (.k (.int .i64 1))⟩,
  ⟨some 13, none, .ixstr (.t 9) (.t 12)⟩,
  ⟨some 14, none, .call (.k (.fn (.func 119) [] [])) [.t 8, .t 13]⟩,
  ⟨some 15, none, .un .not (.t 14)⟩]) (.cond (.t 15) (.exit 0) (.skip))) (.ops [⟨some 16, none, .mv (.t 0)⟩,
  ⟨some 17, none, .mv (.t 0)⟩,
  ⟨some 18, none, .lens (.t 17)⟩,
  ⟨some 19, none, .bin .sub (.int .i64) true (.t 18) (.k (.int .i64 1))⟩,
  ⟨some 20, none, .slstr (.t 16) none (some (.t 19))⟩,
  ⟨some 0, none, .mv (.t 20)⟩])))
def l109_0 : CC := l109_0b
theorem l109_0x (P : Program) (T : TT) (G : GT) (Q : EQ) (t : Env) (σ : St) : aC P T G l109_0 Q t σ = aC P T G l109_0b Q t σ := rfl
/-- strings.trimRightASCII -/
def c109 : CF := ⟨22, [.t 4], .seq (.ops [⟨some 4, none, .mv (.k (.str []))⟩]) (.seq (.block 0 (.loop l109_0)) (.seq (.ops [⟨some 21, none, .mv (.t 0)⟩,
  ⟨some 4, none, .mv (.t 21)⟩]) (.ret)))⟩
theorem fk109 (G : GT) : FOk Tryz.prog tt G 109 c109 := ⟨_, Tryz.func109, by kernel_rfl⟩
/-- comptoir/token.number -/
def c118 : CF := ⟨53, [.t 8], .seq (.ops [⟨some 8, none, .mv (.k (.str []))⟩]) (.seq (.seq (.ops [⟨some 12, none, .mv (.t 0)⟩,
  ⟨some 13, none, .bin .eql (.str) true (.t 12) (.k (.str []))⟩,
  ⟨some 14, none, .mv (.t 13)⟩,
  ⟨some 15, some (14, false), .mv (.t 0)⟩,
  ⟨some 16, some (14, false), .lens (.t 15)⟩,
  ⟨some 17, some (14, false), .mv (.t 2)⟩,
  ⟨some 18, some (14, false), .bin .gtr (.int .i64) false (.t 16) (.t 17)⟩,
  ⟨some 19, none, .pick (.t 14) (.k (.bool true)) (.t 18)⟩,
  ⟨some 20, none, .mv (.t 19)⟩,
  ⟨some 21, some (20, false), .mv (.t 0)⟩,
  ⟨some 22, some (20, false), .mv (.t 1)⟩,
  ⟨some 23, some (20, false), .call (.k (.fn (.func 129) [] [])) [.t 21, .t 22]⟩,
  ⟨some 24, some (20, false), .mv (.t 1)⟩,
  ⟨some 25, some (20, false), .call (.k (.fn (.func 128) [] [])) [.t 23, .t 24]⟩,
  ⟨some 26, some (20, false), .bin .neq (.str) true (.t 25) (.k (.str []))⟩,
  ⟨some 27, none, .pick (.t 20) (.k (.bool true)) (.t 26)⟩]) (.cond (.t 27) (.seq (.ops [⟨some 8, none, .mv (.k (.str []))⟩]) (.ret)) (.skip))) (.seq (.ops [⟨some 29, none, .mv (.t 0)⟩,
  ⟨some 30, none, .mv (.t 3)⟩,
  ⟨some 31, none, .call (.k (.fn (.func 130) [] [])) [.t 29, .t 30, .k (.int .i64 32)]⟩,
  ⟨some 28, none, .mv (.t 31)⟩,
  ⟨some 32, none, .ex (.t 28) 0⟩,
  ⟨some 33, none, .ex (.t 28) 1⟩,
  ⟨some 9, none, .mv (.t 32)⟩,
  ⟨some 10, none, .mv (.t 33)⟩]) (.seq (.seq (.ops [⟨some 34, none, .mv (.t 10)⟩,
  ⟨some 35, none, .bin .neq (.iface) true (.t 34) (.k (.nili))⟩,
  ⟨some 36, none, .mv (.t 35)⟩,
  ⟨some 37, some (36, false), .mv (.t 9)⟩,
  ⟨some 38, some (36, false), .bin .gtr (.int .u64) true (.t 37) (.k (.int .u64 1114111))⟩,
  ⟨some 39, none, .pick (.t 36) (.k (.bool true)) (.t 38)⟩,
  ⟨some 40, none, .mv (.t 39)⟩,
  ⟨some 41, some (40, false), .mv (.t 9)⟩,
  ⟨some 42, some (40, false), .cvi .i32 (.t 41)⟩,
  ⟨some 43, some (40, false), .call (.k (.fn (.func 131) [] [])) [.t 42]⟩,
  ⟨some 44, some (40, false), .un .not (.t 43)⟩,
  ⟨some 45, none, .pick (.t 40) (.k (.bool true)) (.t 44)⟩]) (.cond (.t 45) (.seq (.ops [⟨some 8, none, .mv (.k (.str []))⟩]) (.ret)) (.skip))) (.seq (.ops [⟨some 46, none, .mv (.t 9)⟩,
  ⟨some 47, none, .cvi .i32 (.t 46)⟩,
  ⟨some 48, none, .cvs (.t 47)⟩,
  ⟨some 11, none, .mv (.t 48)⟩]) (.seq (.seq (.ops [⟨some 49, none, .mv (.t 11)⟩,
  ⟨some 50, none, .call (.k (.fn (.func 29) [] [])) [.t 49]⟩,
  ⟨some 51, none, .un .not (.t 50)⟩]) (.cond (.t 51) (.seq (.ops [⟨some 8, none, .mv (.k (.str []))⟩]) (.ret)) (.skip))) (.seq (.ops [⟨some 52, none, .mv (.t 11)⟩,
  ⟨some 8, none, .mv (.t 52)⟩]) (.ret)))))))⟩
theorem fk118 (G : GT) : FOk Tryz.prog tt G 118 c118 := ⟨_, Tryz.func118, by kernel_rfl⟩
/-- (*strings.asciiSet).contains -/
def c119 : CF := ⟨10, [.t 4], .seq (.ops [⟨some 4, none, .mv (.k (.bool false))⟩]) (.seq (.ops [⟨some 5, none, .mv (.t 0)⟩,
  ⟨some 6, none, .mv (.t 1)⟩,
  ⟨some 7, none, .nilc (.t 5)⟩,
  ⟨some 8, none, .ixa 256 1 (.t 7) (.t 6)⟩,
  ⟨some 9, none, .ld none (.t 8)⟩,
  ⟨some 4, none, .mv (.t 9)⟩]) (.ret))⟩
theorem fk119 (G : GT) : FOk Tryz.prog tt G 119 c119 := ⟨_, Tryz.func119, by kernel_rfl⟩
def l128_0b : CC := .seq (.ops [⟨some 20, none, .more .nxt [.t 19]⟩,
  ⟨some 21, none, .ex (.t 20) 0⟩]) (.seq (.cond (.t 21) (.skip) (.exit 2)) (.block 3 (.seq (.ops [⟨some 22, none, .ex (.t 20) 2⟩,
  ⟨some 9, none, .mv (.t 22)⟩]) (.ops [⟨some 23, none, .mv (.t 7)⟩,
  ⟨some 24, none, .mv (.t 23)⟩,
  ⟨some 25, some (24, false), .mv (.t 5)⟩,
  ⟨some 26, some (24, false), .mv (.t 9)⟩,
  ⟨some 27, some (24, false), .bin .eql (.int .i32) false (.t 25) (.t 26)⟩,
  ⟨some 28, none, .pick (.t 24) (.k (.bool true)) (.t 27)⟩,
  ⟨some 7, none, .mv (.t 28)⟩]))))
def l128_0 : CC := l128_0b
theorem l128_0x (P : Program) (T : TT) (G : GT) (Q : EQ) (t : Env) (σ : St) : aC P T G l128_0 Q t σ = aC P T G l128_0b Q t σ := rfl
def l128_1b : CC := .seq (.seq (.ops [⟨some 10, none, .mv (.t 0)⟩,
  ⟨some 11, none, .lens (.t 10)⟩,
  ⟨some 12, none, .bin .gtr (.int .i64) true (.t 11) (.k (.int .i64 0))⟩]) (.cond (.t 12) (.skip) (.exit 0))) (.block 1 (.seq (.ops [⟨some 14, none, .mv (.t 0)⟩,
  ⟨some 15, none, .call (.k (.fn (.func 122) [] [])) [.t 14]⟩,
  ⟨some 13, none, .mv (.t 15)⟩,
  ⟨some 16, none, .ex (.t 13) 0⟩,
  ⟨some 17, none, .ex (.t 13) 1⟩,
  ⟨some 5, none, .mv (.t 16)⟩,
  ⟨some 6, none, .mv (.t 17)⟩]) (.seq (.ops [⟨some 7, none, .mv (.k (.bool false))⟩]) (.seq (.seq (.ops [⟨some 18, none, .mv (.t 1)⟩,
  ⟨some 19, none, .more .rng [.t 18]⟩]) (.block 2 (.loop l128_0))) (.seq (.seq (.ops [⟨some 29, none, .mv (.t 7)⟩,
  ⟨some 30, none, .un .not (.t 29)⟩]) (.cond (.t 30) (.seq (.ops [⟨some 31, none, .mv (.t 0)⟩,
  ⟨some 4, none, .mv (.t 31)⟩]) (.ret)) (.skip))) (.ops [⟨some 32, none, .mv (.t 0)⟩,
  ⟨some 33, none, .mv (.t 0)⟩,
  ⟨some 34, none, .lens (.t 33)⟩,
  ⟨some 35, none, .mv (.t 6)⟩,
  ⟨some 36, none, .bin .sub (.int .i64) false (.t 34) (.t 35)⟩,
  ⟨some 37, none, .slstr (.t 32) none (some (.t 36))⟩,
  ⟨some 0, none, .mv (.t 37)⟩]))))))
def l128_1 : CC := l128_1b
theorem l128_1x (P : Program) (T : TT) (G : GT) (Q : EQ) (t : Env) (σ : St) : aC P T G l128_1 Q t σ = aC P T G l128_1b Q t σ := rfl
/-- comptoir/token.cutRight -/
def c128 : CF := ⟨39, [.t 4], .seq (.ops [⟨some 4, none, .mv (.k (.str []))⟩]) (.seq (.block 0 (.loop l128_1)) (.seq (.ops [⟨some 38, none, .mv (.t 0)⟩,
  ⟨some 4, none, .mv (.t 38)⟩]) (.ret)))⟩
theorem fk128 (G : GT) : FOk Tryz.prog tt G 128 c128 := ⟨_, Tryz.func128, by kernel_rfl⟩
def l129_0b : CC := .seq (.ops [⟨some 18, none, .more .nxt [.t 17]⟩,
  ⟨some 19, none, .ex (.t 18) 0⟩]) (.seq (.cond (.t 19) (.skip) (.exit 2)) (.block 3 (.seq (.ops [⟨some 20, none, .ex (.t 18) 2⟩,
  ⟨some 9, none, .mv (.t 20)⟩]) (.ops [⟨some 21, none, .mv (.t 7)⟩,
  ⟨some 22, none, .mv (.t 21)⟩,
  ⟨some 23, some (22, false), .mv (.t 6)⟩,
  ⟨some 24, some (22, false), .mv (.t 9)⟩,
  ⟨some 25, some (22, false), .bin .eql (.int .i32) false (.t 23) (.t 24)⟩,
  ⟨some 26, none, .pick (.t 22) (.k (.bool true)) (.t 25)⟩,
  ⟨some 7, none, .mv (.t 26)⟩]))))
def l129_0 : CC := l129_0b
theorem l129_0x (P : Program) (T : TT) (G : GT) (Q : EQ) (t : Env) (σ : St) : aC P T G l129_0 Q t σ = aC P T G l129_0b Q t σ := rfl
def l129_1b : CC := .seq (.ops [⟨some 12, none, .more .nxt [.t 11]⟩,
  ⟨some 13, none, .ex (.t 12) 0⟩]) (.seq (.cond (.t 13) (.skip) (.exit 0)) (.block 1 (.seq (.ops [⟨some 14, none, .ex (.t 12) 1⟩,
  ⟨some 15, none, .ex (.t 12) 2⟩,
  ⟨some 5, none, .mv (.t 14)⟩,
  ⟨some 6, none, .mv (.t 15)⟩]) (.seq (.ops [⟨some 7, none, .mv (.k (.bool false))⟩]) (.seq (.seq (.ops [⟨some 16, none, .mv (.t 1)⟩,
  ⟨some 17, none, .more .rng [.t 16]⟩]) (.block 2 (.loop l129_0))) (.seq (.ops [⟨some 27, none, .mv (.t 7)⟩,
  ⟨some 28, none, .un .not (.t 27)⟩]) (.cond (.t 28) (.seq (.ops [⟨some 29, none, .mv (.t 0)⟩,
  ⟨some 30, none, .mv (.t 5)⟩,
  ⟨some 31, none, .slstr (.t 29) (some (.t 30)) none⟩,
  ⟨some 4, none, .mv (.t 31)⟩]) (.ret)) (.skip))))))))
def l129_1 : CC := l129_1b
theorem l129_1x (P : Program) (T : TT) (G : GT) (Q : EQ) (t : Env) (σ : St) : aC P T G l129_1 Q t σ = aC P T G l129_1b Q t σ := rfl
/-- comptoir/token.cutLeft -/
def c129 : CF := ⟨32, [.t 4], .seq (.ops [⟨some 4, none, .mv (.k (.str []))⟩]) (.seq (.seq (.ops [⟨some 10, none, .mv (.t 0)⟩,
  ⟨some 11, none, .more .rng [.t 10]⟩]) (.block 0 (.loop l129_1))) (.seq (.ops [⟨some 4, none, .mv (.k (.str []))⟩]) (.ret)))⟩
theorem fk129 (G : GT) : FOk Tryz.prog tt G 129 c129 := ⟨_, Tryz.func129, by kernel_rfl⟩
/-- strconv.ParseUint -/
def c130 : CF := ⟨26, [.t 6, .t 7], .seq (.ops [⟨some 6, none, .mv (.k (.int .u64 0))⟩,
  ⟨some 7, none, .mv (.k (.nili))⟩]) (.seq (.ops [⟨some 11, none, .mv (.t 0)⟩,
  ⟨some 12, none, .mv (.t 1)⟩,
  ⟨some 13, none, .mv (.t 2)⟩,
  ⟨some 14, none, .call (.k (.fn (.func 144) [] [])) [.t 11, .t 12, .t 13]⟩,
  ⟨some 10, none, .mv (.t 14)⟩,
  ⟨some 15, none, .ex (.t 10) 0⟩,
  ⟨some 16, none, .ex (.t 10) 1⟩,
  ⟨some 8, none, .mv (.t 15)⟩,
  ⟨some 9, none, .mv (.t 16)⟩]) (.seq (.seq (.ops [⟨some 17, none, .mv (.t 9)⟩,
  ⟨some 18, none, .bin .neq (.iface) true (.t 17) (.k (.nili))⟩]) (.cond (.t 18) (.seq (.ops [⟨some 19, none, .mv (.t 8)⟩,
  ⟨some 20, none, .mv (.t 0)⟩,
  ⟨some 21, none, .mv (.t 1)⟩,
  ⟨some 22, none, .mv (.t 2)⟩,
  ⟨some 23, none, .mv (.t 9)⟩,
  ⟨some 24, none, .call (.k (.fn (.func 145) [] [])) [.k (.str [80, 97, 114, 115, 101, 85, 105, 110, 116]), .t 20, .t 21, .t 22, .t 23]⟩,
  ⟨some 6, none, .mv (.t 19)⟩,
  ⟨some 7, none, .mv (.t 24)⟩]) (.ret)) (.skip))) (.seq (.ops [⟨some 25, none, .mv (.t 8)⟩,
  ⟨some 6, none, .mv (.t 25)⟩,
  ⟨some 7, none, .mv (.k (.nili))⟩]) (.ret))))⟩
theorem fk130 (G : GT) : FOk Tryz.prog tt G 130 c130 := ⟨_, Tryz.func130, by kernel_rfl⟩
def l144_0b : CC := .seq (.ops [⟨some 102, none, .bin .lss (.int .i64) false (.t 101) (.t 100)⟩]) (.seq (.cond (.t 102) (.skip) (.exit 3)) (.seq (.block 4 (.seq (.ops [⟨some 103, none, .ixs 1 (.t 99) (.t 101)⟩,
  ⟨some 104, none, .ld none (.t 103)⟩,
  ⟨some 15, none, .mv (.t 104)⟩]) (.seq (.ops [⟨some 16, none, .mv (.k (.int .u8 0))⟩]) (.seq (.block 5 (.seq (.ops [⟨some 107, none, .mv (.t 15)⟩,
  ⟨some 108, none, .bin .eql (.int .u8) true (.t 107) (.k (.int .u8 95))⟩,
  ⟨some 109, none, .mv (.t 108)⟩,
  ⟨some 110, some (109, true), .mv (.t 8)⟩,
  ⟨some 111, none, .pick (.t 109) (.t 110) (.k (.bool false))⟩,
  ⟨some 106, none, .mv (.t 111)⟩]) (.cond (.t 106) (.seq (.ops [⟨some 12, none, .mv (.k (.bool true))⟩]) (.exit 4)) (.seq (.ops [⟨some 113, none, .mv (.t 15)⟩,
  ⟨some 114, none, .bin .leq (.int .u8) true (.k (.int .u8 48)) (.t 113)⟩,
  ⟨some 115, none, .mv (.t 114)⟩,
  ⟨some 116, some (115, true), .mv (.t 15)⟩,
  ⟨some 117, some (115, true), .bin .leq (.int .u8) true (.t 116) (.k (.int .u8 57))⟩,
  ⟨some 118, none, .pick (.t 115) (.t 117) (.k (.bool false))⟩,
  ⟨some 112, none, .mv (.t 118)⟩]) (.cond (.t 112) (.ops [⟨some 119, none, .mv (.t 15)⟩,
  ⟨some 120, none, .bin .sub (.int .u8) true (.t 119) (.k (.int .u8 48))⟩,
  ⟨some 16, none, .mv (.t 120)⟩]) (.seq (.ops [⟨some 122, none, .mv (.t 15)⟩,
  ⟨some 123, none, .call (.k (.fn (.func 153) [] [])) [.t 122]⟩,
  ⟨some 124, none, .bin .leq (.int .u8) true (.k (.int .u8 97)) (.t 123)⟩,
  ⟨some 125, none, .mv (.t 124)⟩,
  ⟨some 126, some (125, true), .mv (.t 15)⟩,
  ⟨some 127, some (125, true), .call (.k (.fn (.func 153) [] [])) [.t 126]⟩,
  ⟨some 128, some (125, true), .bin .leq (.int .u8) true (.t 127) (.k (.int .u8 122))⟩,
  ⟨some 129, none, .pick (.t 125) (.t 128) (.k (.bool false))⟩,
  ⟨some 121, none, .mv (.t 129)⟩]) (.cond (.t 121) (.ops [⟨some 130, none, .mv (.t 15)⟩,
  ⟨some 131, none, .call (.k (.fn (.func 153) [] [])) [.t 130]⟩,
  ⟨some 132, none, .bin .sub (.int .u8) true (.t 131) (.k (.int .u8 97))⟩,
  ⟨some 133, none, .bin .add (.int .u8) true (.t 132) (.k (.int .u8 10))⟩,
  ⟨some 16, none, .mv (.t 133)⟩]) (.seq (.ops [⟨some 105, none, .ifc 204 (.k (.int .i64 2))⟩,
  ⟨some 6, none, .mv (.k (.int .u64 0))⟩,
  ⟨some 7, none, .mv (.t 105)⟩]) (.ret))))))))) (.seq (.seq (.ops [⟨some 134, none, .mv (.t 16)⟩,
  ⟨some 135, none, .mv (.t 1)⟩,
  ⟨some 136, none, .cvi .u8 (.t 135)⟩,
  ⟨some 137, none, .bin .geq (.int .u8) false (.t 134) (.t 136)⟩]) (.cond (.t 137) (.seq (.ops [⟨some 138, none, .ifc 204 (.k (.int .i64 2))⟩,
  ⟨some 6, none, .mv (.k (.int .u64 0))⟩,
  ⟨some 7, none, .mv (.t 138)⟩]) (.ret)) (.skip))) (.seq (.seq (.ops [⟨some 139, none, .mv (.t 13)⟩,
  ⟨some 140, none, .mv (.t 10)⟩,
  ⟨some 141, none, .bin .geq (.int .u64) false (.t 139) (.t 140)⟩]) (.cond (.t 141) (.seq (.ops [⟨some 142, none, .mv (.t 11)⟩,
  ⟨some 143, none, .ifc 204 (.k (.int .i64 1))⟩,
  ⟨some 6, none, .mv (.t 142)⟩,
  ⟨some 7, none, .mv (.t 143)⟩]) (.ret)) (.skip))) (.seq (.ops [⟨some 144, none, .mv (.t 13)⟩,
  ⟨some 145, none, .mv (.t 1)⟩,
  ⟨some 146, none, .cvi .u64 (.t 145)⟩,
  ⟨some 147, none, .bin .mul (.int .u64) false (.t 144) (.t 146)⟩,
  ⟨some 13, none, .mv (.t 147)⟩]) (.seq (.ops [⟨some 148, none, .mv (.t 13)⟩,
  ⟨some 149, none, .mv (.t 16)⟩,
  ⟨some 150, none, .cvi .u64 (.t 149)⟩,
  ⟨some 151, none, .bin .add (.int .u64) false (.t 148) (.t 150)⟩,
  ⟨some 17, none, .mv (.t 151)⟩]) (.seq (.seq (.ops [⟨some 152, none, .mv (.t 17)⟩,
  ⟨some 153, none, .mv (.t 13)⟩,
  ⟨some 154, none, .bin .lss (.int .u64) false (.t 152) (.t 153)⟩,
  ⟨some 155, none, .mv (.t 154)⟩,
  ⟨some 156, some (155, false), .mv (.t 17)⟩,
  ⟨some 157, some (155, false), .mv (.t 11)⟩,
  ⟨some 158, some (155, false), .bin .gtr (.int .u64) false (.t 156) (.t 157)⟩,
  ⟨some 159, none, .pick (.t 155) (.k (.bool true)) (.t 158)⟩]) (.cond (.t 159) (.seq (.ops [⟨some 160, none, .mv (.t 11)⟩,
  ⟨some 161, none, .ifc 204 (.k (.int .i64 1))⟩,
  ⟨some 6, none, .mv (.t 160)⟩,
  ⟨some 7, none, .mv (.t 161)⟩]) (.ret)) (.skip))) (.ops [⟨some 162, none, .mv (.t 17)⟩,
  ⟨some 13, none, .mv (.t 162)⟩])))))))))) (.ops [⟨some 163, none, .bin .add (.int .i64) true (.t 101) (.k (.int .i64 1))⟩,
  ⟨some 101, none, .mv (.t 163)⟩])))
def l144_0 : CC := l144_0b
theorem l144_0x (P : Program) (T : TT) (G : GT) (Q : EQ) (t : Env) (σ : St) : aC P T G l144_0 Q t σ = aC P T G l144_0b Q t σ := rfl
/-- internal/strconv.ParseUint -/
def c144 : CF := ⟨172, [.t 6, .t 7], .seq (.ops [⟨some 6, none, .mv (.k (.int .u64 0))⟩,
  ⟨some 7, none, .mv (.k (.nili))⟩]) (.seq (.seq (.ops [⟨some 18, none, .mv (.t 0)⟩,
  ⟨some 19, none, .bin .eql (.str) true (.t 18) (.k (.str []))⟩]) (.cond (.t 19) (.seq (.ops [⟨some 20, none, .ifc 204 (.k (.int .i64 2))⟩,
  ⟨some 6, none, .mv (.k (.int .u64 0))⟩,
  ⟨some 7, none, .mv (.t 20)⟩]) (.ret)) (.skip))) (.seq (.ops [⟨some 21, none, .mv (.t 1)⟩,
  ⟨some 22, none, .bin .eql (.int .i64) true (.t 21) (.k (.int .i64 0))⟩,
  ⟨some 8, none, .mv (.t 22)⟩]) (.seq (.ops [⟨some 23, none, .mv (.t 0)⟩,
  ⟨some 9, none, .mv (.t 23)⟩]) (.seq (.block 0 (.seq (.ops [⟨some 26, none, .mv (.t 1)⟩,
  ⟨some 27, none, .bin .leq (.int .i64) true (.k (.int .i64 2)) (.t 26)⟩,
  ⟨some 28, none, .mv (.t 27)⟩,
  ⟨some 29, some (28, true), .mv (.t 1)⟩,
  ⟨some 30, some (28, true), .bin .leq (.int .i64) true (.t 29) (.k (.int .i64 36))⟩,
  ⟨some 31, none, .pick (.t 28) (.t 30) (.k (.bool false))⟩,
  ⟨some 25, none, .mv (.t 31)⟩]) (.cond (.t 25) (.skip) (.seq (.ops [⟨some 33, none, .mv (.t 1)⟩,
  ⟨some 34, none, .bin .eql (.int .i64) true (.t 33) (.k (.int .i64 0))⟩,
  ⟨some 32, none, .mv (.t 34)⟩]) (.cond (.t 32) (.seq (.ops [⟨some 1, none, .mv (.k (.int .i64 10))⟩]) (.seq (.ops [⟨some 35, none, .mv (.t 0)⟩,
  ⟨some 36, none, .ixstr (.t 35) (.k (.int .i64 0))⟩,
  ⟨some 37, none, .bin .eql (.int .u8) true (.t 36) (.k (.int .u8 48))⟩]) (.cond (.t 37) (.block 1 (.seq (.ops [⟨some 41, none, .mv (.t 0)⟩,
  ⟨some 42, none, .lens (.t 41)⟩,
  ⟨some 43, none, .bin .geq (.int .i64) true (.t 42) (.k (.int .i64 3))⟩,
  ⟨some 44, none, .mv (.t 43)⟩,
  ⟨some 45, some (44, true), .mv (.t 0)⟩,
  ⟨some 46, some (44, true), .ixstr (.t 45) (.k (.int .i64 1))⟩,
  ⟨some 47, some (44, true), .call (.k (.fn (.func 153) [] [])) [.t 46]⟩,
  ⟨some 48, some (44, true), .bin .eql (.int .u8) true (.t 47) (.k (.int .u8 98))⟩,
  ⟨some 49, none, .pick (.t 44) (.t 48) (.k (.bool false))⟩,
  ⟨some 40, none, .mv (.t 49)⟩]) (.cond (.t 40) (.seq (.ops [⟨some 1, none, .mv (.k (.int .i64 2))⟩]) (.ops [⟨some 50, none, .mv (.t 0)⟩,
  ⟨some 51, none, .slstr (.t 50) (some (.k (.int .i64 2))) none⟩,
  ⟨some 0, none, .mv (.t 51)⟩])) (.seq (.ops [⟨some 53, none, .mv (.t 0)⟩,
  ⟨some 54, none, .lens (.t 53)⟩,
  ⟨some 55, none, .bin .geq (.int .i64) true (.t 54) (.k (.int .i64 3))⟩,
  ⟨some 56, none, .mv (.t 55)⟩,
  ⟨some 57, some (56, true), .mv (.t 0)⟩,
  ⟨some 58, some (56, true), .ixstr (.t 57) (.k (.int .i64 1))⟩,
  ⟨some 59, some (56, true), .call (.k (.fn (.func 153) [] [])) [.t 58]⟩,
  ⟨some 60, some (56, true), .bin .eql (.int .u8) true (.t 59) (.k (.int .u8 111))⟩,
  ⟨some 61, none, .pick (.t 56) (.t 60) (.k (.bool false))⟩,
  ⟨some 52, none, .mv (.t 61)⟩]) (.cond (.t 52) (.seq (.ops [⟨some 1, none, .mv (.k (.int .i64 8))⟩]) (.ops [⟨some 62, none, .mv (.t 0)⟩,
  ⟨some 63, none, .slstr (.t 62) (some (.k (.int .i64 2))) none⟩,
  ⟨some 0, none, .mv (.t 63)⟩])) (.seq (.ops [⟨some 65, none, .mv (.t 0)⟩,
  ⟨some 66, none, .lens (.t 65)⟩,
  ⟨some 67, none, .bin .geq (.int .i64) true (.t 66) (.k (.int .i64 3))⟩,
  ⟨some 68, none, .mv (.t 67)⟩,
  ⟨some 69, some (68, true), .mv (.t 0)⟩,
  ⟨some 70, some (68, true), .ixstr (.t 69) (.k (.int .i64 1))⟩,
  ⟨some 71, some (68, true), .call (.k (.fn (.func 153) [] [])) [.t 70]⟩,
  ⟨some 72, some (68, true), .bin .eql (.int .u8) true (.t 71) (.k (.int .u8 120))⟩,
  ⟨some 73, none, .pick (.t 68) (.t 72) (.k (.bool false))⟩,
  ⟨some 64, none, .mv (.t 73)⟩]) (.cond (.t 64) (.seq (.ops [⟨some 1, none, .mv (.k (.int .i64 16))⟩]) (.ops [⟨some 74, none, .mv (.t 0)⟩,
  ⟨some 75, none, .slstr (.t 74) (some (.k (.int .i64 2))) none⟩,
  ⟨some 0, none, .mv (.t 75)⟩])) (.seq (.ops [⟨some 1, none, .mv (.k (.int .i64 8))⟩]) (.ops [⟨some 38, none, .mv (.t 0)⟩,
  ⟨some 39, none, .slstr (.t 38) (some (.k (.int .i64 1))) none⟩,
  ⟨some 0, none, .mv (.t 39)⟩]))))))))) (.skip)))) (.seq (.ops [⟨some 24, none, .ifc 204 (.k (.int .i64 3))⟩,
  ⟨some 6, none, .mv (.k (.int .u64 0))⟩,
  ⟨some 7, none, .mv (.t 24)⟩]) (.ret))))))) (.seq (.seq (.ops [⟨some 76, none, .mv (.t 2)⟩,
  ⟨some 77, none, .bin .eql (.int .i64) true (.t 76) (.k (.int .i64 0))⟩]) (.cond (.t 77) (.ops [⟨some 2, none, .mv (.k (.int .i64 64))⟩]) (.seq (.ops [⟨some 78, none, .mv (.t 2)⟩,
  ⟨some 79, none, .bin .lss (.int .i64) true (.t 78) (.k (.int .i64 0))⟩,
  ⟨some 80, none, .mv (.t 79)⟩,
  ⟨some 81, some (80, false), .mv (.t 2)⟩,
  ⟨some 82, some (80, false), .bin .gtr (.int .i64) true (.t 81) (.k (.int .i64 64))⟩,
  ⟨some 83, none, .pick (.t 80) (.k (.bool true)) (.t 82)⟩]) (.cond (.t 83) (.seq (.ops [⟨some 84, none, .ifc 204 (.k (.int .i64 4))⟩,
  ⟨some 6, none, .mv (.k (.int .u64 0))⟩,
  ⟨some 7, none, .mv (.t 84)⟩]) (.ret)) (.skip))))) (.seq (.ops [⟨some 10, none, .mv (.k (.int .u64 0))⟩]) (.seq (.seq (.ops [⟨some 85, none, .mv (.t 1)⟩]) (.block 2 (.seq (.ops [⟨some 91, none, .bin .eql (.int .i64) true (.t 85) (.k (.int .i64 10))⟩,
  ⟨some 90, none, .mv (.t 91)⟩]) (.cond (.t 90) (.ops [⟨some 10, none, .mv (.k (.int .u64 1844674407370955162))⟩]) (.seq (.ops [⟨some 93, none, .bin .eql (.int .i64) true (.t 85) (.k (.int .i64 16))⟩,
  ⟨some 92, none, .mv (.t 93)⟩]) (.cond (.t 92) (.ops [⟨some 10, none, .mv (.k (.int .u64 1152921504606846976))⟩]) (.ops [⟨some 86, none, .mv (.t 1)⟩,
  ⟨some 87, none, .cvi .u64 (.t 86)⟩,
  ⟨some 88, none, .bin .quo (.int .u64) true (.k (.int .u64 18446744073709551615)) (.t 87)⟩,
  ⟨some 89, none, .bin .add (.int .u64) true (.t 88) (.k (.int .u64 1))⟩,
  ⟨some 10, none, .mv (.t 89)⟩]))))))) (.seq (.ops [⟨some 94, none, .mv (.t 2)⟩,
  ⟨some 95, none, .cvi .u64 (.t 94)⟩,
  ⟨some 96, none, .bin .shl (.int .u64) true (.k (.int .u64 1)) (.t 95)⟩,
  ⟨some 97, none, .bin .sub (.int .u64) true (.t 96) (.k (.int .u64 1))⟩,
  ⟨some 11, none, .mv (.t 97)⟩]) (.seq (.ops [⟨some 12, none, .mv (.k (.bool false))⟩]) (.seq (.ops [⟨some 13, none, .mv (.k (.int .u64 0))⟩]) (.seq (.seq (.ops [⟨some 98, none, .mv (.t 0)⟩,
  ⟨some 99, none, .more (.s2b 5) [.t 98]⟩,
  ⟨some 100, none, .lenl (.t 99)⟩,
  ⟨some 101, none, .mv (.k (.int .i64 0))⟩]) (.block 3 (.loop l144_0))) (.seq (.seq (.ops [⟨some 164, none, .mv (.t 12)⟩,
  ⟨some 165, none, .mv (.t 164)⟩,
  ⟨some 166, some (165, true), .mv (.t 9)⟩,
  ⟨some 167, some (165, true), .call (.k (.fn (.func 154) [] [])) [.t 166]⟩,
  ⟨some 168, some (165, true), .un .not (.t 167)⟩,
  ⟨some 169, none, .pick (.t 165) (.t 168) (.k (.bool false))⟩]) (.cond (.t 169) (.seq (.ops [⟨some 170, none, .ifc 204 (.k (.int .i64 2))⟩,
  ⟨some 6, none, .mv (.k (.int .u64 0))⟩,
  ⟨some 7, none, .mv (.t 170)⟩]) (.ret)) (.skip))) (.seq (.ops [⟨some 171, none, .mv (.t 13)⟩,
  ⟨some 6, none, .mv (.t 171)⟩,
  ⟨some 7, none, .mv (.k (.nili))⟩]) (.ret))))))))))))))⟩
theorem fk144 (G : GT) : FOk Tryz.prog tt G 144 c144 := ⟨_, Tryz.func144, by kernel_rfl⟩
/-- internal/strconv.lower -/
def c153 : CF := ⟨5, [.t 2], .seq (.ops [⟨some 2, none, .mv (.k (.int .u8 0))⟩]) (.seq (.ops [⟨some 3, none, .mv (.t 0)⟩,
  ⟨some 4, none, .bin .or (.int .u8) true (.t 3) (.k (.int .u8 32))⟩,
  ⟨some 2, none, .mv (.t 4)⟩]) (.ret))⟩
theorem fk153 (G : GT) : FOk Tryz.prog tt G 153 c153 := ⟨_, Tryz.func153, by kernel_rfl⟩
end Go.Ab.Sz
