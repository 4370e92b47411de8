/- The table of this seat's types for the abstract machine, and that it is the program's. Printed by a program of this work (gen_tt.py). -/
import Derived.Test.YtpejbkckppnamaaDoorProg
import Derived.Test.YtpejbkckppnamaaDoorAbComp3
import Derived.KernelRfl
set_option linter.all false
set_option linter.unusedVariables false
set_option linter.unusedSimpArgs false
namespace Go.Ab.Sd
open Go Go.Ab Go.Proofs
set_option maxRecDepth 20000
def g0 : GT := fun _ => none
def ti1 : TI := ⟨1, 8, .func, [.niln]⟩
theorem ok1 : TIok Tryd.prog 1 ti1 := ⟨⟨Tryd.t1, _, by kernel_rfl, rfl, rfl, rfl, rfl⟩, rfl, rfl, ⟨_, Tryd.underlying1, ⟨_, _, _, rfl⟩⟩⟩
def ti2 : TI := ⟨1, 8, .int .i64, [.int .i64 0]⟩
theorem ok2 : TIok Tryd.prog 2 ti2 := ⟨⟨Tryd.t2, _, by kernel_rfl, rfl, rfl, rfl, rfl⟩, rfl, rfl, ⟨_, Tryd.underlying2, rfl⟩⟩
def ti3 : TI := ⟨1, 8, .int .i64, [.int .i64 0]⟩
theorem ok3 : TIok Tryd.prog 3 ti3 := ⟨⟨Tryd.t3, _, by kernel_rfl, rfl, rfl, rfl, rfl⟩, rfl, rfl, ⟨_, Tryd.underlying3, rfl⟩⟩
def ti4 : TI := ⟨1, 1, .bool, [.bool false]⟩
theorem ok4 : TIok Tryd.prog 4 ti4 := ⟨⟨Tryd.t4, _, by kernel_rfl, rfl, rfl, rfl, rfl⟩, rfl, rfl, ⟨_, Tryd.underlying4, rfl⟩⟩
def ti5 : TI := ⟨1, 1, .int .u8, [.int .u8 0]⟩
theorem ok5 : TIok Tryd.prog 5 ti5 := ⟨⟨Tryd.t5, _, by kernel_rfl, rfl, rfl, rfl, rfl⟩, rfl, rfl, ⟨_, Tryd.underlying5, rfl⟩⟩
def ti6 : TI := ⟨1, 1, .int .u8, [.int .u8 0]⟩
theorem ok6 : TIok Tryd.prog 6 ti6 := ⟨⟨Tryd.t6, _, by kernel_rfl, rfl, rfl, rfl, rfl⟩, rfl, rfl, ⟨_, Tryd.underlying6, rfl⟩⟩
def ti7 : TI := ⟨4, 24, .struct [(0, 2), (1, 3), (2, 4), (3, 6)], [.int .i64 0, .int .i64 0, .bool false, .int .u8 0]⟩
theorem ok7 : TIok Tryd.prog 7 ti7 := ⟨⟨Tryd.t7, _, by kernel_rfl, rfl, rfl, rfl, rfl⟩, rfl, rfl, ⟨_, Tryd.underlying7, ⟨_, rfl, rfl⟩⟩⟩
def ti8 : TI := ⟨4, 24, .struct [(0, 2), (1, 3), (2, 4), (3, 6)], [.int .i64 0, .int .i64 0, .bool false, .int .u8 0]⟩
theorem ok8 : TIok Tryd.prog 8 ti8 := ⟨⟨Tryd.t8, _, by kernel_rfl, rfl, rfl, rfl, rfl⟩, rfl, rfl, ⟨_, Tryd.underlying8, ⟨_, rfl, rfl⟩⟩⟩
def ti9 : TI := ⟨1, 16, .str, [.str []]⟩
theorem ok9 : TIok Tryd.prog 9 ti9 := ⟨⟨Tryd.t9, _, by kernel_rfl, rfl, rfl, rfl, rfl⟩, rfl, rfl, ⟨_, Tryd.underlying9, rfl⟩⟩
def ti10 : TI := ⟨1, 16, .str, [.str []]⟩
theorem ok10 : TIok Tryd.prog 10 ti10 := ⟨⟨Tryd.t10, _, by kernel_rfl, rfl, rfl, rfl, rfl⟩, rfl, rfl, ⟨_, Tryd.underlying10, rfl⟩⟩
def ti11 : TI := ⟨1, 16, .str, [.str []]⟩
theorem ok11 : TIok Tryd.prog 11 ti11 := ⟨⟨Tryd.t11, _, by kernel_rfl, rfl, rfl, rfl, rfl⟩, rfl, rfl, ⟨_, Tryd.underlying11, rfl⟩⟩
def ti12 : TI := ⟨1, 8, .int .u64, [.int .u64 0]⟩
theorem ok12 : TIok Tryd.prog 12 ti12 := ⟨⟨Tryd.t12, _, by kernel_rfl, rfl, rfl, rfl, rfl⟩, rfl, rfl, ⟨_, Tryd.underlying12, rfl⟩⟩
def ti13 : TI := ⟨2, 24, .struct [(0, 9), (1, 12)], [.str [], .int .u64 0]⟩
theorem ok13 : TIok Tryd.prog 13 ti13 := ⟨⟨Tryd.t13, _, by kernel_rfl, rfl, rfl, rfl, rfl⟩, rfl, rfl, ⟨_, Tryd.underlying13, ⟨_, rfl, rfl⟩⟩⟩
def ti14 : TI := ⟨2, 24, .struct [(0, 9), (1, 12)], [.str [], .int .u64 0]⟩
theorem ok14 : TIok Tryd.prog 14 ti14 := ⟨⟨Tryd.t14, _, by kernel_rfl, rfl, rfl, rfl, rfl⟩, rfl, rfl, ⟨_, Tryd.underlying14, ⟨_, rfl, rfl⟩⟩⟩
def ti15 : TI := ⟨1, 8, .ptr 135, [.nilp]⟩
theorem ok15 : TIok Tryd.prog 15 ti15 := ⟨⟨Tryd.t15, _, by kernel_rfl, rfl, rfl, rfl, rfl⟩, rfl, rfl, ⟨_, Tryd.underlying15, rfl⟩⟩
def ti16 : TI := ⟨1, 8, .ptr 138, [.nilp]⟩
theorem ok16 : TIok Tryd.prog 16 ti16 := ⟨⟨Tryd.t16, _, by kernel_rfl, rfl, rfl, rfl, rfl⟩, rfl, rfl, ⟨_, Tryd.underlying16, rfl⟩⟩
def ti17 : TI := ⟨1, 8, .ptr 146, [.nilp]⟩
theorem ok17 : TIok Tryd.prog 17 ti17 := ⟨⟨Tryd.t17, _, by kernel_rfl, rfl, rfl, rfl, rfl⟩, rfl, rfl, ⟨_, Tryd.underlying17, rfl⟩⟩
def ti18 : TI := ⟨1, 8, .struct [(0, 17)], [.nilp]⟩
theorem ok18 : TIok Tryd.prog 18 ti18 := ⟨⟨Tryd.t18, _, by kernel_rfl, rfl, rfl, rfl, rfl⟩, rfl, rfl, ⟨_, Tryd.underlying18, ⟨_, rfl, rfl⟩⟩⟩
def ti19 : TI := ⟨1, 8, .struct [(0, 17)], [.nilp]⟩
theorem ok19 : TIok Tryd.prog 19 ti19 := ⟨⟨Tryd.t19, _, by kernel_rfl, rfl, rfl, rfl, rfl⟩, rfl, rfl, ⟨_, Tryd.underlying19, ⟨_, rfl, rfl⟩⟩⟩
def ti20 : TI := ⟨1, 16, .iface, [.nili]⟩
theorem ok20 : TIok Tryd.prog 20 ti20 := ⟨⟨Tryd.t20, _, by kernel_rfl, rfl, rfl, rfl, rfl⟩, rfl, rfl, ⟨_, Tryd.underlying20, ⟨_, rfl⟩⟩⟩
def ti21 : TI := ⟨1, 4, .int .i32, [.int .i32 0]⟩
theorem ok21 : TIok Tryd.prog 21 ti21 := ⟨⟨Tryd.t21, _, by kernel_rfl, rfl, rfl, rfl, rfl⟩, rfl, rfl, ⟨_, Tryd.underlying21, rfl⟩⟩
def ti22 : TI := ⟨1, 8, .func, [.niln]⟩
theorem ok22 : TIok Tryd.prog 22 ti22 := ⟨⟨Tryd.t22, _, by kernel_rfl, rfl, rfl, rfl, rfl⟩, rfl, rfl, ⟨_, Tryd.underlying22, ⟨_, _, _, rfl⟩⟩⟩
def ti23 : TI := ⟨1, 8, .func, [.niln]⟩
theorem ok23 : TIok Tryd.prog 23 ti23 := ⟨⟨Tryd.t23, _, by kernel_rfl, rfl, rfl, rfl, rfl⟩, rfl, rfl, ⟨_, Tryd.underlying23, ⟨_, _, _, rfl⟩⟩⟩
def ti24 : TI := ⟨1, 24, .slice 31, [.nils]⟩
theorem ok24 : TIok Tryd.prog 24 ti24 := ⟨⟨Tryd.t24, _, by kernel_rfl, rfl, rfl, rfl, rfl⟩, rfl, rfl, ⟨_, Tryd.underlying24, rfl⟩⟩
def ti25 : TI := ⟨1, 8, .int .i64, [.int .i64 0]⟩
theorem ok25 : TIok Tryd.prog 25 ti25 := ⟨⟨Tryd.t25, _, by kernel_rfl, rfl, rfl, rfl, rfl⟩, rfl, rfl, ⟨_, Tryd.underlying25, rfl⟩⟩
def ti27 : TI := ⟨1, 8, .func, [.niln]⟩
theorem ok27 : TIok Tryd.prog 27 ti27 := ⟨⟨Tryd.t27, _, by kernel_rfl, rfl, rfl, rfl, rfl⟩, rfl, rfl, ⟨_, Tryd.underlying27, ⟨_, _, _, rfl⟩⟩⟩
def ti28 : TI := ⟨1, 8, .func, [.niln]⟩
theorem ok28 : TIok Tryd.prog 28 ti28 := ⟨⟨Tryd.t28, _, by kernel_rfl, rfl, rfl, rfl, rfl⟩, rfl, rfl, ⟨_, Tryd.underlying28, ⟨_, _, _, rfl⟩⟩⟩
def ti29 : TI := ⟨1, 24, .slice 33, [.nils]⟩
theorem ok29 : TIok Tryd.prog 29 ti29 := ⟨⟨Tryd.t29, _, by kernel_rfl, rfl, rfl, rfl, rfl⟩, rfl, rfl, ⟨_, Tryd.underlying29, rfl⟩⟩
def ti30 : TI := ⟨5, 72, .struct [(0, 3), (1, 9), (2, 9), (3, 29), (4, 4)], [.int .i64 0, .str [], .str [], .nils, .bool false]⟩
theorem ok30 : TIok Tryd.prog 30 ti30 := ⟨⟨Tryd.t30, _, by kernel_rfl, rfl, rfl, rfl, rfl⟩, rfl, rfl, ⟨_, Tryd.underlying30, ⟨_, rfl, rfl⟩⟩⟩
def ti31 : TI := ⟨5, 72, .struct [(0, 3), (1, 9), (2, 9), (3, 29), (4, 4)], [.int .i64 0, .str [], .str [], .nils, .bool false]⟩
theorem ok31 : TIok Tryd.prog 31 ti31 := ⟨⟨Tryd.t31, _, by kernel_rfl, rfl, rfl, rfl, rfl⟩, rfl, rfl, ⟨_, Tryd.underlying31, ⟨_, rfl, rfl⟩⟩⟩
def ti32 : TI := ⟨2, 32, .struct [(0, 9), (1, 9)], [.str [], .str []]⟩
theorem ok32 : TIok Tryd.prog 32 ti32 := ⟨⟨Tryd.t32, _, by kernel_rfl, rfl, rfl, rfl, rfl⟩, rfl, rfl, ⟨_, Tryd.underlying32, ⟨_, rfl, rfl⟩⟩⟩
def ti33 : TI := ⟨2, 32, .struct [(0, 9), (1, 9)], [.str [], .str []]⟩
theorem ok33 : TIok Tryd.prog 33 ti33 := ⟨⟨Tryd.t33, _, by kernel_rfl, rfl, rfl, rfl, rfl⟩, rfl, rfl, ⟨_, Tryd.underlying33, ⟨_, rfl, rfl⟩⟩⟩
def ti34 : TI := ⟨1, 8, .int .u64, [.int .u64 0]⟩
theorem ok34 : TIok Tryd.prog 34 ti34 := ⟨⟨Tryd.t34, _, by kernel_rfl, rfl, rfl, rfl, rfl⟩, rfl, rfl, ⟨_, Tryd.underlying34, rfl⟩⟩
def ti35 : TI := ⟨1, 8, .func, [.niln]⟩
theorem ok35 : TIok Tryd.prog 35 ti35 := ⟨⟨Tryd.t35, _, by kernel_rfl, rfl, rfl, rfl, rfl⟩, rfl, rfl, ⟨_, Tryd.underlying35, ⟨_, _, _, rfl⟩⟩⟩
def ti36 : TI := ⟨1, 8, .int .u64, [.int .u64 0]⟩
theorem ok36 : TIok Tryd.prog 36 ti36 := ⟨⟨Tryd.t36, _, by kernel_rfl, rfl, rfl, rfl, rfl⟩, rfl, rfl, ⟨_, Tryd.underlying36, rfl⟩⟩
def ti37 : TI := ⟨1, 8, .func, [.niln]⟩
theorem ok37 : TIok Tryd.prog 37 ti37 := ⟨⟨Tryd.t37, _, by kernel_rfl, rfl, rfl, rfl, rfl⟩, rfl, rfl, ⟨_, Tryd.underlying37, ⟨_, _, _, rfl⟩⟩⟩
def ti38 : TI := ⟨1, 8, .func, [.niln]⟩
theorem ok38 : TIok Tryd.prog 38 ti38 := ⟨⟨Tryd.t38, _, by kernel_rfl, rfl, rfl, rfl, rfl⟩, rfl, rfl, ⟨_, Tryd.underlying38, ⟨_, _, _, rfl⟩⟩⟩
def ti39 : TI := ⟨1, 8, .func, [.niln]⟩
theorem ok39 : TIok Tryd.prog 39 ti39 := ⟨⟨Tryd.t39, _, by kernel_rfl, rfl, rfl, rfl, rfl⟩, rfl, rfl, ⟨_, Tryd.underlying39, ⟨_, _, _, rfl⟩⟩⟩
def ti40 : TI := ⟨1, 24, .slice 9, [.nils]⟩
theorem ok40 : TIok Tryd.prog 40 ti40 := ⟨⟨Tryd.t40, _, by kernel_rfl, rfl, rfl, rfl, rfl⟩, rfl, rfl, ⟨_, Tryd.underlying40, rfl⟩⟩
def ti41 : TI := ⟨1, 8, .func, [.niln]⟩
theorem ok41 : TIok Tryd.prog 41 ti41 := ⟨⟨Tryd.t41, _, by kernel_rfl, rfl, rfl, rfl, rfl⟩, rfl, rfl, ⟨_, Tryd.underlying41, ⟨_, _, _, rfl⟩⟩⟩
def ti42 : TI := ⟨1, 8, .func, [.niln]⟩
theorem ok42 : TIok Tryd.prog 42 ti42 := ⟨⟨Tryd.t42, _, by kernel_rfl, rfl, rfl, rfl, rfl⟩, rfl, rfl, ⟨_, Tryd.underlying42, ⟨_, _, _, rfl⟩⟩⟩
def ti43 : TI := ⟨1, 8, .ptr 45, [.nilp]⟩
theorem ok43 : TIok Tryd.prog 43 ti43 := ⟨⟨Tryd.t43, _, by kernel_rfl, rfl, rfl, rfl, rfl⟩, rfl, rfl, ⟨_, Tryd.underlying43, rfl⟩⟩
def ti44 : TI := ⟨1, 16, .struct [(0, 9)], [.str []]⟩
theorem ok44 : TIok Tryd.prog 44 ti44 := ⟨⟨Tryd.t44, _, by kernel_rfl, rfl, rfl, rfl, rfl⟩, rfl, rfl, ⟨_, Tryd.underlying44, ⟨_, rfl, rfl⟩⟩⟩
def ti45 : TI := ⟨1, 16, .struct [(0, 9)], [.str []]⟩
theorem ok45 : TIok Tryd.prog 45 ti45 := ⟨⟨Tryd.t45, _, by kernel_rfl, rfl, rfl, rfl, rfl⟩, rfl, rfl, ⟨_, Tryd.underlying45, ⟨_, rfl, rfl⟩⟩⟩
def ti47 : TI := ⟨1, 8, .func, [.niln]⟩
theorem ok47 : TIok Tryd.prog 47 ti47 := ⟨⟨Tryd.t47, _, by kernel_rfl, rfl, rfl, rfl, rfl⟩, rfl, rfl, ⟨_, Tryd.underlying47, ⟨_, _, _, rfl⟩⟩⟩
def ti48 : TI := ⟨1, 8, .func, [.niln]⟩
theorem ok48 : TIok Tryd.prog 48 ti48 := ⟨⟨Tryd.t48, _, by kernel_rfl, rfl, rfl, rfl, rfl⟩, rfl, rfl, ⟨_, Tryd.underlying48, ⟨_, _, _, rfl⟩⟩⟩
def ti49 : TI := ⟨1, 24, .slice 5, [.nils]⟩
theorem ok49 : TIok Tryd.prog 49 ti49 := ⟨⟨Tryd.t49, _, by kernel_rfl, rfl, rfl, rfl, rfl⟩, rfl, rfl, ⟨_, Tryd.underlying49, rfl⟩⟩
def ti50 : TI := ⟨1, 8, .func, [.niln]⟩
theorem ok50 : TIok Tryd.prog 50 ti50 := ⟨⟨Tryd.t50, _, by kernel_rfl, rfl, rfl, rfl, rfl⟩, rfl, rfl, ⟨_, Tryd.underlying50, ⟨_, _, _, rfl⟩⟩⟩
def ti52 : TI := ⟨1, 8, .func, [.niln]⟩
theorem ok52 : TIok Tryd.prog 52 ti52 := ⟨⟨Tryd.t52, _, by kernel_rfl, rfl, rfl, rfl, rfl⟩, rfl, rfl, ⟨_, Tryd.underlying52, ⟨_, _, _, rfl⟩⟩⟩
def ti53 : TI := ⟨1, 8, .func, [.niln]⟩
theorem ok53 : TIok Tryd.prog 53 ti53 := ⟨⟨Tryd.t53, _, by kernel_rfl, rfl, rfl, rfl, rfl⟩, rfl, rfl, ⟨_, Tryd.underlying53, ⟨_, _, _, rfl⟩⟩⟩
def ti54 : TI := ⟨1, 8, .func, [.niln]⟩
theorem ok54 : TIok Tryd.prog 54 ti54 := ⟨⟨Tryd.t54, _, by kernel_rfl, rfl, rfl, rfl, rfl⟩, rfl, rfl, ⟨_, Tryd.underlying54, ⟨_, _, _, rfl⟩⟩⟩
def ti56 : TI := ⟨1, 8, .func, [.niln]⟩
theorem ok56 : TIok Tryd.prog 56 ti56 := ⟨⟨Tryd.t56, _, by kernel_rfl, rfl, rfl, rfl, rfl⟩, rfl, rfl, ⟨_, Tryd.underlying56, ⟨_, _, _, rfl⟩⟩⟩
def ti57 : TI := ⟨1, 8, .func, [.niln]⟩
theorem ok57 : TIok Tryd.prog 57 ti57 := ⟨⟨Tryd.t57, _, by kernel_rfl, rfl, rfl, rfl, rfl⟩, rfl, rfl, ⟨_, Tryd.underlying57, ⟨_, _, _, rfl⟩⟩⟩
def ti58 : TI := ⟨1, 8, .func, [.niln]⟩
theorem ok58 : TIok Tryd.prog 58 ti58 := ⟨⟨Tryd.t58, _, by kernel_rfl, rfl, rfl, rfl, rfl⟩, rfl, rfl, ⟨_, Tryd.underlying58, ⟨_, _, _, rfl⟩⟩⟩
def ti59 : TI := ⟨1, 8, .func, [.niln]⟩
theorem ok59 : TIok Tryd.prog 59 ti59 := ⟨⟨Tryd.t59, _, by kernel_rfl, rfl, rfl, rfl, rfl⟩, rfl, rfl, ⟨_, Tryd.underlying59, ⟨_, _, _, rfl⟩⟩⟩
def ti60 : TI := ⟨256, 256, .arr 256 5, [.int .u8 0, .int .u8 0, .int .u8 0, .int .u8 0, .int .u8 0, .int .u8 0, .int .u8 0, .int .u8 0, .int .u8 0, .int .u8 0, .int .u8 0, .int .u8 0, .int .u8 0, .int .u8 0, .int .u8 0, .int .u8 0, .int .u8 0, .int .u8 0, .int .u8 0, .int .u8 0, .int .u8 0, .int .u8 0, .int .u8 0, .int .u8 0, .int .u8 0, .int .u8 0, .int .u8 0, .int .u8 0, .int .u8 0, .int .u8 0, .int .u8 0, .int .u8 0, .int .u8 0, .int .u8 0, .int .u8 0, .int .u8 0, .int .u8 0, .int .u8 0, .int .u8 0, .int .u8 0, .int .u8 0, .int .u8 0, .int .u8 0, .int .u8 0, .int .u8 0, .int .u8 0, .int .u8 0, .int .u8 0, .int .u8 0, .int .u8 0, .int .u8 0, .int .u8 0, .int .u8 0, .int .u8 0, .int .u8 0, .int .u8 0, .int .u8 0, .int .u8 0, .int .u8 0, .int .u8 0, .int .u8 0, .int .u8 0, .int .u8 0, .int .u8 0, .int .u8 0, .int .u8 0, .int .u8 0, .int .u8 0, .int .u8 0, .int .u8 0, .int .u8 0, .int .u8 0, .int .u8 0, .int .u8 0, .int .u8 0, .int .u8 0, .int .u8 0, .int .u8 0, .int .u8 0, .int .u8 0, .int .u8 0, .int .u8 0, .int .u8 0, .int .u8 0, .int .u8 0, .int .u8 0, .int .u8 0, .int .u8 0, .int .u8 0, .int .u8 0, .int .u8 0, .int .u8 0, .int .u8 0, .int .u8 0, .int .u8 0, .int .u8 0, .int .u8 0, .int .u8 0, .int .u8 0, .int .u8 0, .int .u8 0, .int .u8 0, .int .u8 0, .int .u8 0, .int .u8 0, .int .u8 0, .int .u8 0, .int .u8 0, .int .u8 0, .int .u8 0, .int .u8 0, .int .u8 0, .int .u8 0, .int .u8 0, .int .u8 0, .int .u8 0, .int .u8 0, .int .u8 0, .int .u8 0, .int .u8 0, .int .u8 0, .int .u8 0, .int .u8 0, .int .u8 0, .int .u8 0, .int .u8 0, .int .u8 0, .int .u8 0, .int .u8 0, .int .u8 0, .int .u8 0, .int .u8 0, .int .u8 0, .int .u8 0, .int .u8 0, .int .u8 0, .int .u8 0, .int .u8 0, .int .u8 0, .int .u8 0, .int .u8 0, .int .u8 0, .int .u8 0, .int .u8 0, .int .u8 0, .int .u8 0, .int .u8 0, .int .u8 0, .int .u8 0, .int .u8 0, .int .u8 0, .int .u8 0, .int .u8 0, .int .u8 0, .int .u8 0, .int .u8 0, .int .u8 0, .int .u8 0, .int .u8 0, .int .u8 0, .int .u8 0, .int .u8 0, .int .u8 0, .int .u8 0, .int .u8 0, .int .u8 0, .int .u8 0, .int .u8 0, .int .u8 0, .int .u8 0, .int .u8 0, .int .u8 0, .int .u8 0, .int .u8 0, .int .u8 0, .int .u8 0, .int .u8 0, .int .u8 0, .int .u8 0, .int .u8 0, .int .u8 0, .int .u8 0, .int .u8 0, .int .u8 0, .int .u8 0, .int .u8 0, .int .u8 0, .int .u8 0, .int .u8 0, .int .u8 0, .int .u8 0, .int .u8 0, .int .u8 0, .int .u8 0, .int .u8 0, .int .u8 0, .int .u8 0, .int .u8 0, .int .u8 0, .int .u8 0, .int .u8 0, .int .u8 0, .int .u8 0, .int .u8 0, .int .u8 0, .int .u8 0, .int .u8 0, .int .u8 0, .int .u8 0, .int .u8 0, .int .u8 0, .int .u8 0, .int .u8 0, .int .u8 0, .int .u8 0, .int .u8 0, .int .u8 0, .int .u8 0, .int .u8 0, .int .u8 0, .int .u8 0, .int .u8 0, .int .u8 0, .int .u8 0, .int .u8 0, .int .u8 0, .int .u8 0, .int .u8 0, .int .u8 0, .int .u8 0, .int .u8 0, .int .u8 0, .int .u8 0, .int .u8 0, .int .u8 0, .int .u8 0, .int .u8 0, .int .u8 0, .int .u8 0, .int .u8 0, .int .u8 0, .int .u8 0, .int .u8 0, .int .u8 0, .int .u8 0, .int .u8 0, .int .u8 0, .int .u8 0, .int .u8 0, .int .u8 0, .int .u8 0, .int .u8 0, .int .u8 0, .int .u8 0, .int .u8 0, .int .u8 0]⟩
theorem ok60 : TIok Tryd.prog 60 ti60 := ⟨⟨Tryd.t60, _, by kernel_rfl, rfl, rfl, rfl, rfl⟩, rfl, rfl, ⟨_, Tryd.underlying60, rfl⟩⟩
def ti61 : TI := ⟨2, 2, .struct [(0, 5), (1, 5)], [.int .u8 0, .int .u8 0]⟩
theorem ok61 : TIok Tryd.prog 61 ti61 := ⟨⟨Tryd.t61, _, by kernel_rfl, rfl, rfl, rfl, rfl⟩, rfl, rfl, ⟨_, Tryd.underlying61, ⟨_, rfl, rfl⟩⟩⟩
def ti62 : TI := ⟨2, 2, .struct [(0, 5), (1, 5)], [.int .u8 0, .int .u8 0]⟩
theorem ok62 : TIok Tryd.prog 62 ti62 := ⟨⟨Tryd.t62, _, by kernel_rfl, rfl, rfl, rfl, rfl⟩, rfl, rfl, ⟨_, Tryd.underlying62, ⟨_, rfl, rfl⟩⟩⟩
def ti63 : TI := ⟨32, 32, .arr 16 62, [.int .u8 0, .int .u8 0, .int .u8 0, .int .u8 0, .int .u8 0, .int .u8 0, .int .u8 0, .int .u8 0, .int .u8 0, .int .u8 0, .int .u8 0, .int .u8 0, .int .u8 0, .int .u8 0, .int .u8 0, .int .u8 0, .int .u8 0, .int .u8 0, .int .u8 0, .int .u8 0, .int .u8 0, .int .u8 0, .int .u8 0, .int .u8 0, .int .u8 0, .int .u8 0, .int .u8 0, .int .u8 0, .int .u8 0, .int .u8 0, .int .u8 0, .int .u8 0]⟩
theorem ok63 : TIok Tryd.prog 63 ti63 := ⟨⟨Tryd.t63, _, by kernel_rfl, rfl, rfl, rfl, rfl⟩, rfl, rfl, ⟨_, Tryd.underlying63, rfl⟩⟩
def ti64 : TI := ⟨1, 8, .func, [.niln]⟩
theorem ok64 : TIok Tryd.prog 64 ti64 := ⟨⟨Tryd.t64, _, by kernel_rfl, rfl, rfl, rfl, rfl⟩, rfl, rfl, ⟨_, Tryd.underlying64, ⟨_, _, _, rfl⟩⟩⟩
def ti65 : TI := ⟨1, 8, .func, [.niln]⟩
theorem ok65 : TIok Tryd.prog 65 ti65 := ⟨⟨Tryd.t65, _, by kernel_rfl, rfl, rfl, rfl, rfl⟩, rfl, rfl, ⟨_, Tryd.underlying65, ⟨_, _, _, rfl⟩⟩⟩
def ti67 : TI := ⟨1, 8, .func, [.niln]⟩
theorem ok67 : TIok Tryd.prog 67 ti67 := ⟨⟨Tryd.t67, _, by kernel_rfl, rfl, rfl, rfl, rfl⟩, rfl, rfl, ⟨_, Tryd.underlying67, ⟨_, _, _, rfl⟩⟩⟩
def ti68 : TI := ⟨1, 8, .func, [.niln]⟩
theorem ok68 : TIok Tryd.prog 68 ti68 := ⟨⟨Tryd.t68, _, by kernel_rfl, rfl, rfl, rfl, rfl⟩, rfl, rfl, ⟨_, Tryd.underlying68, ⟨_, _, _, rfl⟩⟩⟩
def ti69 : TI := ⟨1, 8, .func, [.niln]⟩
theorem ok69 : TIok Tryd.prog 69 ti69 := ⟨⟨Tryd.t69, _, by kernel_rfl, rfl, rfl, rfl, rfl⟩, rfl, rfl, ⟨_, Tryd.underlying69, ⟨_, _, _, rfl⟩⟩⟩
def ti70 : TI := ⟨1, 8, .func, [.niln]⟩
theorem ok70 : TIok Tryd.prog 70 ti70 := ⟨⟨Tryd.t70, _, by kernel_rfl, rfl, rfl, rfl, rfl⟩, rfl, rfl, ⟨_, Tryd.underlying70, ⟨_, _, _, rfl⟩⟩⟩
def ti71 : TI := ⟨1, 8, .func, [.niln]⟩
theorem ok71 : TIok Tryd.prog 71 ti71 := ⟨⟨Tryd.t71, _, by kernel_rfl, rfl, rfl, rfl, rfl⟩, rfl, rfl, ⟨_, Tryd.underlying71, ⟨_, _, _, rfl⟩⟩⟩
def ti72 : TI := ⟨1, 8, .func, [.niln]⟩
theorem ok72 : TIok Tryd.prog 72 ti72 := ⟨⟨Tryd.t72, _, by kernel_rfl, rfl, rfl, rfl, rfl⟩, rfl, rfl, ⟨_, Tryd.underlying72, ⟨_, _, _, rfl⟩⟩⟩
def ti73 : TI := ⟨1, 8, .func, [.niln]⟩
theorem ok73 : TIok Tryd.prog 73 ti73 := ⟨⟨Tryd.t73, _, by kernel_rfl, rfl, rfl, rfl, rfl⟩, rfl, rfl, ⟨_, Tryd.underlying73, ⟨_, _, _, rfl⟩⟩⟩
def ti74 : TI := ⟨1, 8, .func, [.niln]⟩
theorem ok74 : TIok Tryd.prog 74 ti74 := ⟨⟨Tryd.t74, _, by kernel_rfl, rfl, rfl, rfl, rfl⟩, rfl, rfl, ⟨_, Tryd.underlying74, ⟨_, _, _, rfl⟩⟩⟩
def ti75 : TI := ⟨1, 8, .func, [.niln]⟩
theorem ok75 : TIok Tryd.prog 75 ti75 := ⟨⟨Tryd.t75, _, by kernel_rfl, rfl, rfl, rfl, rfl⟩, rfl, rfl, ⟨_, Tryd.underlying75, ⟨_, _, _, rfl⟩⟩⟩
def ti76 : TI := ⟨1, 8, .ptr 78, [.nilp]⟩
theorem ok76 : TIok Tryd.prog 76 ti76 := ⟨⟨Tryd.t76, _, by kernel_rfl, rfl, rfl, rfl, rfl⟩, rfl, rfl, ⟨_, Tryd.underlying76, rfl⟩⟩
def ti77 : TI := ⟨2, 32, .struct [(0, 76), (1, 49)], [.nilp, .nils]⟩
theorem ok77 : TIok Tryd.prog 77 ti77 := ⟨⟨Tryd.t77, _, by kernel_rfl, rfl, rfl, rfl, rfl⟩, rfl, rfl, ⟨_, Tryd.underlying77, ⟨_, rfl, rfl⟩⟩⟩
def ti78 : TI := ⟨2, 32, .struct [(0, 76), (1, 49)], [.nilp, .nils]⟩
theorem ok78 : TIok Tryd.prog 78 ti78 := ⟨⟨Tryd.t78, _, by kernel_rfl, rfl, rfl, rfl, rfl⟩, rfl, rfl, ⟨_, Tryd.underlying78, ⟨_, rfl, rfl⟩⟩⟩
def ti80 : TI := ⟨1, 8, .func, [.niln]⟩
theorem ok80 : TIok Tryd.prog 80 ti80 := ⟨⟨Tryd.t80, _, by kernel_rfl, rfl, rfl, rfl, rfl⟩, rfl, rfl, ⟨_, Tryd.underlying80, ⟨_, _, _, rfl⟩⟩⟩
def ti81 : TI := ⟨1, 16, .iface, [.nili]⟩
theorem ok81 : TIok Tryd.prog 81 ti81 := ⟨⟨Tryd.t81, _, by kernel_rfl, rfl, rfl, rfl, rfl⟩, rfl, rfl, ⟨_, Tryd.underlying81, ⟨_, rfl⟩⟩⟩
def ti82 : TI := ⟨1, 16, .iface, [.nili]⟩
theorem ok82 : TIok Tryd.prog 82 ti82 := ⟨⟨Tryd.t82, _, by kernel_rfl, rfl, rfl, rfl, rfl⟩, rfl, rfl, ⟨_, Tryd.underlying82, ⟨_, rfl⟩⟩⟩
def ti84 : TI := ⟨1, 8, .func, [.niln]⟩
theorem ok84 : TIok Tryd.prog 84 ti84 := ⟨⟨Tryd.t84, _, by kernel_rfl, rfl, rfl, rfl, rfl⟩, rfl, rfl, ⟨_, Tryd.underlying84, ⟨_, _, _, rfl⟩⟩⟩
def ti85 : TI := ⟨1, 8, .func, [.niln]⟩
theorem ok85 : TIok Tryd.prog 85 ti85 := ⟨⟨Tryd.t85, _, by kernel_rfl, rfl, rfl, rfl, rfl⟩, rfl, rfl, ⟨_, Tryd.underlying85, ⟨_, _, _, rfl⟩⟩⟩
def ti86 : TI := ⟨1, 8, .func, [.niln]⟩
theorem ok86 : TIok Tryd.prog 86 ti86 := ⟨⟨Tryd.t86, _, by kernel_rfl, rfl, rfl, rfl, rfl⟩, rfl, rfl, ⟨_, Tryd.underlying86, ⟨_, _, _, rfl⟩⟩⟩
def ti87 : TI := ⟨256, 256, .arr 256 4, [.bool false, .bool false, .bool false, .bool false, .bool false, .bool false, .bool false, .bool false, .bool false, .bool false, .bool false, .bool false, .bool false, .bool false, .bool false, .bool false, .bool false, .bool false, .bool false, .bool false, .bool false, .bool false, .bool false, .bool false, .bool false, .bool false, .bool false, .bool false, .bool false, .bool false, .bool false, .bool false, .bool false, .bool false, .bool false, .bool false, .bool false, .bool false, .bool false, .bool false, .bool false, .bool false, .bool false, .bool false, .bool false, .bool false, .bool false, .bool false, .bool false, .bool false, .bool false, .bool false, .bool false, .bool false, .bool false, .bool false, .bool false, .bool false, .bool false, .bool false, .bool false, .bool false, .bool false, .bool false, .bool false, .bool false, .bool false, .bool false, .bool false, .bool false, .bool false, .bool false, .bool false, .bool false, .bool false, .bool false, .bool false, .bool false, .bool false, .bool false, .bool false, .bool false, .bool false, .bool false, .bool false, .bool false, .bool false, .bool false, .bool false, .bool false, .bool false, .bool false, .bool false, .bool false, .bool false, .bool false, .bool false, .bool false, .bool false, .bool false, .bool false, .bool false, .bool false, .bool false, .bool false, .bool false, .bool false, .bool false, .bool false, .bool false, .bool false, .bool false, .bool false, .bool false, .bool false, .bool false, .bool false, .bool false, .bool false, .bool false, .bool false, .bool false, .bool false, .bool false, .bool false, .bool false, .bool false, .bool false, .bool false, .bool false, .bool false, .bool false, .bool false, .bool false, .bool false, .bool false, .bool false, .bool false, .bool false, .bool false, .bool false, .bool false, .bool false, .bool false, .bool false, .bool false, .bool false, .bool false, .bool false, .bool false, .bool false, .bool false, .bool false, .bool false, .bool false, .bool false, .bool false, .bool false, .bool false, .bool false, .bool false, .bool false, .bool false, .bool false, .bool false, .bool false, .bool false, .bool false, .bool false, .bool false, .bool false, .bool false, .bool false, .bool false, .bool false, .bool false, .bool false, .bool false, .bool false, .bool false, .bool false, .bool false, .bool false, .bool false, .bool false, .bool false, .bool false, .bool false, .bool false, .bool false, .bool false, .bool false, .bool false, .bool false, .bool false, .bool false, .bool false, .bool false, .bool false, .bool false, .bool false, .bool false, .bool false, .bool false, .bool false, .bool false, .bool false, .bool false, .bool false, .bool false, .bool false, .bool false, .bool false, .bool false, .bool false, .bool false, .bool false, .bool false, .bool false, .bool false, .bool false, .bool false, .bool false, .bool false, .bool false, .bool false, .bool false, .bool false, .bool false, .bool false, .bool false, .bool false, .bool false, .bool false, .bool false, .bool false, .bool false, .bool false, .bool false, .bool false, .bool false, .bool false, .bool false, .bool false, .bool false, .bool false, .bool false, .bool false, .bool false, .bool false, .bool false, .bool false, .bool false, .bool false, .bool false, .bool false]⟩
theorem ok87 : TIok Tryd.prog 87 ti87 := ⟨⟨Tryd.t87, _, by kernel_rfl, rfl, rfl, rfl, rfl⟩, rfl, rfl, ⟨_, Tryd.underlying87, rfl⟩⟩
def ti88 : TI := ⟨256, 256, .arr 256 4, [.bool false, .bool false, .bool false, .bool false, .bool false, .bool false, .bool false, .bool false, .bool false, .bool false, .bool false, .bool false, .bool false, .bool false, .bool false, .bool false, .bool false, .bool false, .bool false, .bool false, .bool false, .bool false, .bool false, .bool false, .bool false, .bool false, .bool false, .bool false, .bool false, .bool false, .bool false, .bool false, .bool false, .bool false, .bool false, .bool false, .bool false, .bool false, .bool false, .bool false, .bool false, .bool false, .bool false, .bool false, .bool false, .bool false, .bool false, .bool false, .bool false, .bool false, .bool false, .bool false, .bool false, .bool false, .bool false, .bool false, .bool false, .bool false, .bool false, .bool false, .bool false, .bool false, .bool false, .bool false, .bool false, .bool false, .bool false, .bool false, .bool false, .bool false, .bool false, .bool false, .bool false, .bool false, .bool false, .bool false, .bool false, .bool false, .bool false, .bool false, .bool false, .bool false, .bool false, .bool false, .bool false, .bool false, .bool false, .bool false, .bool false, .bool false, .bool false, .bool false, .bool false, .bool false, .bool false, .bool false, .bool false, .bool false, .bool false, .bool false, .bool false, .bool false, .bool false, .bool false, .bool false, .bool false, .bool false, .bool false, .bool false, .bool false, .bool false, .bool false, .bool false, .bool false, .bool false, .bool false, .bool false, .bool false, .bool false, .bool false, .bool false, .bool false, .bool false, .bool false, .bool false, .bool false, .bool false, .bool false, .bool false, .bool false, .bool false, .bool false, .bool false, .bool false, .bool false, .bool false, .bool false, .bool false, .bool false, .bool false, .bool false, .bool false, .bool false, .bool false, .bool false, .bool false, .bool false, .bool false, .bool false, .bool false, .bool false, .bool false, .bool false, .bool false, .bool false, .bool false, .bool false, .bool false, .bool false, .bool false, .bool false, .bool false, .bool false, .bool false, .bool false, .bool false, .bool false, .bool false, .bool false, .bool false, .bool false, .bool false, .bool false, .bool false, .bool false, .bool false, .bool false, .bool false, .bool false, .bool false, .bool false, .bool false, .bool false, .bool false, .bool false, .bool false, .bool false, .bool false, .bool false, .bool false, .bool false, .bool false, .bool false, .bool false, .bool false, .bool false, .bool false, .bool false, .bool false, .bool false, .bool false, .bool false, .bool false, .bool false, .bool false, .bool false, .bool false, .bool false, .bool false, .bool false, .bool false, .bool false, .bool false, .bool false, .bool false, .bool false, .bool false, .bool false, .bool false, .bool false, .bool false, .bool false, .bool false, .bool false, .bool false, .bool false, .bool false, .bool false, .bool false, .bool false, .bool false, .bool false, .bool false, .bool false, .bool false, .bool false, .bool false, .bool false, .bool false, .bool false, .bool false, .bool false, .bool false, .bool false, .bool false, .bool false, .bool false, .bool false, .bool false, .bool false, .bool false, .bool false, .bool false, .bool false, .bool false, .bool false]⟩
theorem ok88 : TIok Tryd.prog 88 ti88 := ⟨⟨Tryd.t88, _, by kernel_rfl, rfl, rfl, rfl, rfl⟩, rfl, rfl, ⟨_, Tryd.underlying88, rfl⟩⟩
def ti90 : TI := ⟨1, 8, .func, [.niln]⟩
theorem ok90 : TIok Tryd.prog 90 ti90 := ⟨⟨Tryd.t90, _, by kernel_rfl, rfl, rfl, rfl, rfl⟩, rfl, rfl, ⟨_, Tryd.underlying90, ⟨_, _, _, rfl⟩⟩⟩
def ti91 : TI := ⟨1, 8, .func, [.niln]⟩
theorem ok91 : TIok Tryd.prog 91 ti91 := ⟨⟨Tryd.t91, _, by kernel_rfl, rfl, rfl, rfl, rfl⟩, rfl, rfl, ⟨_, Tryd.underlying91, ⟨_, _, _, rfl⟩⟩⟩
def ti92 : TI := ⟨1, 8, .ptr 88, [.nilp]⟩
theorem ok92 : TIok Tryd.prog 92 ti92 := ⟨⟨Tryd.t92, _, by kernel_rfl, rfl, rfl, rfl, rfl⟩, rfl, rfl, ⟨_, Tryd.underlying92, rfl⟩⟩
def ti93 : TI := ⟨1, 8, .ptr 5, [.nilp]⟩
theorem ok93 : TIok Tryd.prog 93 ti93 := ⟨⟨Tryd.t93, _, by kernel_rfl, rfl, rfl, rfl, rfl⟩, rfl, rfl, ⟨_, Tryd.underlying93, rfl⟩⟩
def ti94 : TI := ⟨1, 8, .func, [.niln]⟩
theorem ok94 : TIok Tryd.prog 94 ti94 := ⟨⟨Tryd.t94, _, by kernel_rfl, rfl, rfl, rfl, rfl⟩, rfl, rfl, ⟨_, Tryd.underlying94, ⟨_, _, _, rfl⟩⟩⟩
def ti95 : TI := ⟨1, 8, .func, [.niln]⟩
theorem ok95 : TIok Tryd.prog 95 ti95 := ⟨⟨Tryd.t95, _, by kernel_rfl, rfl, rfl, rfl, rfl⟩, rfl, rfl, ⟨_, Tryd.underlying95, ⟨_, _, _, rfl⟩⟩⟩
def ti97 : TI := ⟨1, 8, .func, [.niln]⟩
theorem ok97 : TIok Tryd.prog 97 ti97 := ⟨⟨Tryd.t97, _, by kernel_rfl, rfl, rfl, rfl, rfl⟩, rfl, rfl, ⟨_, Tryd.underlying97, ⟨_, _, _, rfl⟩⟩⟩
def ti98 : TI := ⟨1, 8, .func, [.niln]⟩
theorem ok98 : TIok Tryd.prog 98 ti98 := ⟨⟨Tryd.t98, _, by kernel_rfl, rfl, rfl, rfl, rfl⟩, rfl, rfl, ⟨_, Tryd.underlying98, ⟨_, _, _, rfl⟩⟩⟩
def ti99 : TI := ⟨1, 8, .other, [.nilp]⟩
theorem ok99 : TIok Tryd.prog 99 ti99 := ⟨⟨Tryd.t99, _, by kernel_rfl, rfl, rfl, rfl, rfl⟩, rfl, rfl, ⟨_, Tryd.underlying99, ⟨rfl, fun _ => nofun⟩⟩⟩
def ti100 : TI := ⟨1, 8, .func, [.niln]⟩
theorem ok100 : TIok Tryd.prog 100 ti100 := ⟨⟨Tryd.t100, _, by kernel_rfl, rfl, rfl, rfl, rfl⟩, rfl, rfl, ⟨_, Tryd.underlying100, ⟨_, _, _, rfl⟩⟩⟩
def ti102 : TI := ⟨1, 8, .func, [.niln]⟩
theorem ok102 : TIok Tryd.prog 102 ti102 := ⟨⟨Tryd.t102, _, by kernel_rfl, rfl, rfl, rfl, rfl⟩, rfl, rfl, ⟨_, Tryd.underlying102, ⟨_, _, _, rfl⟩⟩⟩
def ti103 : TI := ⟨1, 8, .func, [.niln]⟩
theorem ok103 : TIok Tryd.prog 103 ti103 := ⟨⟨Tryd.t103, _, by kernel_rfl, rfl, rfl, rfl, rfl⟩, rfl, rfl, ⟨_, Tryd.underlying103, ⟨_, _, _, rfl⟩⟩⟩
def ti104 : TI := ⟨1, 8, .func, [.niln]⟩
theorem ok104 : TIok Tryd.prog 104 ti104 := ⟨⟨Tryd.t104, _, by kernel_rfl, rfl, rfl, rfl, rfl⟩, rfl, rfl, ⟨_, Tryd.underlying104, ⟨_, _, _, rfl⟩⟩⟩
def ti105 : TI := ⟨1, 8, .func, [.niln]⟩
theorem ok105 : TIok Tryd.prog 105 ti105 := ⟨⟨Tryd.t105, _, by kernel_rfl, rfl, rfl, rfl, rfl⟩, rfl, rfl, ⟨_, Tryd.underlying105, ⟨_, _, _, rfl⟩⟩⟩
def ti106 : TI := ⟨1, 4, .int .u32, [.int .u32 0]⟩
theorem ok106 : TIok Tryd.prog 106 ti106 := ⟨⟨Tryd.t106, _, by kernel_rfl, rfl, rfl, rfl, rfl⟩, rfl, rfl, ⟨_, Tryd.underlying106, rfl⟩⟩
def ti108 : TI := ⟨1, 8, .func, [.niln]⟩
theorem ok108 : TIok Tryd.prog 108 ti108 := ⟨⟨Tryd.t108, _, by kernel_rfl, rfl, rfl, rfl, rfl⟩, rfl, rfl, ⟨_, Tryd.underlying108, ⟨_, _, _, rfl⟩⟩⟩
def ti109 : TI := ⟨1, 8, .int .i64, [.int .i64 0]⟩
theorem ok109 : TIok Tryd.prog 109 ti109 := ⟨⟨Tryd.t109, _, by kernel_rfl, rfl, rfl, rfl, rfl⟩, rfl, rfl, ⟨_, Tryd.underlying109, rfl⟩⟩
def ti110 : TI := ⟨1, 8, .func, [.niln]⟩
theorem ok110 : TIok Tryd.prog 110 ti110 := ⟨⟨Tryd.t110, _, by kernel_rfl, rfl, rfl, rfl, rfl⟩, rfl, rfl, ⟨_, Tryd.underlying110, ⟨_, _, _, rfl⟩⟩⟩
def ti111 : TI := ⟨1, 8, .ptr 115, [.nilp]⟩
theorem ok111 : TIok Tryd.prog 111 ti111 := ⟨⟨Tryd.t111, _, by kernel_rfl, rfl, rfl, rfl, rfl⟩, rfl, rfl, ⟨_, Tryd.underlying111, rfl⟩⟩
def ti112 : TI := ⟨1, 8, .func, [.niln]⟩
theorem ok112 : TIok Tryd.prog 112 ti112 := ⟨⟨Tryd.t112, _, by kernel_rfl, rfl, rfl, rfl, rfl⟩, rfl, rfl, ⟨_, Tryd.underlying112, ⟨_, _, _, rfl⟩⟩⟩
def ti113 : TI := ⟨1, 8, .func, [.niln]⟩
theorem ok113 : TIok Tryd.prog 113 ti113 := ⟨⟨Tryd.t113, _, by kernel_rfl, rfl, rfl, rfl, rfl⟩, rfl, rfl, ⟨_, Tryd.underlying113, ⟨_, _, _, rfl⟩⟩⟩
def ti114 : TI := ⟨3, 48, .struct [(0, 9), (1, 9), (2, 82)], [.str [], .str [], .nili]⟩
theorem ok114 : TIok Tryd.prog 114 ti114 := ⟨⟨Tryd.t114, _, by kernel_rfl, rfl, rfl, rfl, rfl⟩, rfl, rfl, ⟨_, Tryd.underlying114, ⟨_, rfl, rfl⟩⟩⟩
def ti115 : TI := ⟨3, 48, .struct [(0, 9), (1, 9), (2, 82)], [.str [], .str [], .nili]⟩
theorem ok115 : TIok Tryd.prog 115 ti115 := ⟨⟨Tryd.t115, _, by kernel_rfl, rfl, rfl, rfl, rfl⟩, rfl, rfl, ⟨_, Tryd.underlying115, ⟨_, rfl, rfl⟩⟩⟩
def ti116 : TI := ⟨1, 8, .func, [.niln]⟩
theorem ok116 : TIok Tryd.prog 116 ti116 := ⟨⟨Tryd.t116, _, by kernel_rfl, rfl, rfl, rfl, rfl⟩, rfl, rfl, ⟨_, Tryd.underlying116, ⟨_, _, _, rfl⟩⟩⟩
def ti117 : TI := ⟨1, 8, .func, [.niln]⟩
theorem ok117 : TIok Tryd.prog 117 ti117 := ⟨⟨Tryd.t117, _, by kernel_rfl, rfl, rfl, rfl, rfl⟩, rfl, rfl, ⟨_, Tryd.underlying117, ⟨_, _, _, rfl⟩⟩⟩
def ti118 : TI := ⟨1, 8, .ptr 120, [.nilp]⟩
theorem ok118 : TIok Tryd.prog 118 ti118 := ⟨⟨Tryd.t118, _, by kernel_rfl, rfl, rfl, rfl, rfl⟩, rfl, rfl, ⟨_, Tryd.underlying118, rfl⟩⟩
def ti119 : TI := ⟨1, 16, .struct [(0, 9)], [.str []]⟩
theorem ok119 : TIok Tryd.prog 119 ti119 := ⟨⟨Tryd.t119, _, by kernel_rfl, rfl, rfl, rfl, rfl⟩, rfl, rfl, ⟨_, Tryd.underlying119, ⟨_, rfl, rfl⟩⟩⟩
def ti120 : TI := ⟨1, 16, .struct [(0, 9)], [.str []]⟩
theorem ok120 : TIok Tryd.prog 120 ti120 := ⟨⟨Tryd.t120, _, by kernel_rfl, rfl, rfl, rfl, rfl⟩, rfl, rfl, ⟨_, Tryd.underlying120, ⟨_, rfl, rfl⟩⟩⟩
def ti121 : TI := ⟨1, 8, .func, [.niln]⟩
theorem ok121 : TIok Tryd.prog 121 ti121 := ⟨⟨Tryd.t121, _, by kernel_rfl, rfl, rfl, rfl, rfl⟩, rfl, rfl, ⟨_, Tryd.underlying121, ⟨_, _, _, rfl⟩⟩⟩
def ti122 : TI := ⟨24, 24, .arr 24 5, [.int .u8 0, .int .u8 0, .int .u8 0, .int .u8 0, .int .u8 0, .int .u8 0, .int .u8 0, .int .u8 0, .int .u8 0, .int .u8 0, .int .u8 0, .int .u8 0, .int .u8 0, .int .u8 0, .int .u8 0, .int .u8 0, .int .u8 0, .int .u8 0, .int .u8 0, .int .u8 0, .int .u8 0, .int .u8 0, .int .u8 0, .int .u8 0]⟩
theorem ok122 : TIok Tryd.prog 122 ti122 := ⟨⟨Tryd.t122, _, by kernel_rfl, rfl, rfl, rfl, rfl⟩, rfl, rfl, ⟨_, Tryd.underlying122, rfl⟩⟩
def ti123 : TI := ⟨1, 8, .func, [.niln]⟩
theorem ok123 : TIok Tryd.prog 123 ti123 := ⟨⟨Tryd.t123, _, by kernel_rfl, rfl, rfl, rfl, rfl⟩, rfl, rfl, ⟨_, Tryd.underlying123, ⟨_, _, _, rfl⟩⟩⟩
def ti124 : TI := ⟨1, 8, .func, [.niln]⟩
theorem ok124 : TIok Tryd.prog 124 ti124 := ⟨⟨Tryd.t124, _, by kernel_rfl, rfl, rfl, rfl, rfl⟩, rfl, rfl, ⟨_, Tryd.underlying124, ⟨_, _, _, rfl⟩⟩⟩
def ti126 : TI := ⟨1, 8, .func, [.niln]⟩
theorem ok126 : TIok Tryd.prog 126 ti126 := ⟨⟨Tryd.t126, _, by kernel_rfl, rfl, rfl, rfl, rfl⟩, rfl, rfl, ⟨_, Tryd.underlying126, ⟨_, _, _, rfl⟩⟩⟩
def ti127 : TI := ⟨1, 8, .func, [.niln]⟩
theorem ok127 : TIok Tryd.prog 127 ti127 := ⟨⟨Tryd.t127, _, by kernel_rfl, rfl, rfl, rfl, rfl⟩, rfl, rfl, ⟨_, Tryd.underlying127, ⟨_, _, _, rfl⟩⟩⟩
def ti128 : TI := ⟨20, 160, .arr 20 36, [.int .u64 0, .int .u64 0, .int .u64 0, .int .u64 0, .int .u64 0, .int .u64 0, .int .u64 0, .int .u64 0, .int .u64 0, .int .u64 0, .int .u64 0, .int .u64 0, .int .u64 0, .int .u64 0, .int .u64 0, .int .u64 0, .int .u64 0, .int .u64 0, .int .u64 0, .int .u64 0]⟩
theorem ok128 : TIok Tryd.prog 128 ti128 := ⟨⟨Tryd.t128, _, by kernel_rfl, rfl, rfl, rfl, rfl⟩, rfl, rfl, ⟨_, Tryd.underlying128, rfl⟩⟩
def ti129 : TI := ⟨65, 65, .arr 65 5, [.int .u8 0, .int .u8 0, .int .u8 0, .int .u8 0, .int .u8 0, .int .u8 0, .int .u8 0, .int .u8 0, .int .u8 0, .int .u8 0, .int .u8 0, .int .u8 0, .int .u8 0, .int .u8 0, .int .u8 0, .int .u8 0, .int .u8 0, .int .u8 0, .int .u8 0, .int .u8 0, .int .u8 0, .int .u8 0, .int .u8 0, .int .u8 0, .int .u8 0, .int .u8 0, .int .u8 0, .int .u8 0, .int .u8 0, .int .u8 0, .int .u8 0, .int .u8 0, .int .u8 0, .int .u8 0, .int .u8 0, .int .u8 0, .int .u8 0, .int .u8 0, .int .u8 0, .int .u8 0, .int .u8 0, .int .u8 0, .int .u8 0, .int .u8 0, .int .u8 0, .int .u8 0, .int .u8 0, .int .u8 0, .int .u8 0, .int .u8 0, .int .u8 0, .int .u8 0, .int .u8 0, .int .u8 0, .int .u8 0, .int .u8 0, .int .u8 0, .int .u8 0, .int .u8 0, .int .u8 0, .int .u8 0, .int .u8 0, .int .u8 0, .int .u8 0, .int .u8 0]⟩
theorem ok129 : TIok Tryd.prog 129 ti129 := ⟨⟨Tryd.t129, _, by kernel_rfl, rfl, rfl, rfl, rfl⟩, rfl, rfl, ⟨_, Tryd.underlying129, rfl⟩⟩
def ti130 : TI := ⟨1, 8, .func, [.niln]⟩
theorem ok130 : TIok Tryd.prog 130 ti130 := ⟨⟨Tryd.t130, _, by kernel_rfl, rfl, rfl, rfl, rfl⟩, rfl, rfl, ⟨_, Tryd.underlying130, ⟨_, _, _, rfl⟩⟩⟩
def ti131 : TI := ⟨1, 8, .func, [.niln]⟩
theorem ok131 : TIok Tryd.prog 131 ti131 := ⟨⟨Tryd.t131, _, by kernel_rfl, rfl, rfl, rfl, rfl⟩, rfl, rfl, ⟨_, Tryd.underlying131, ⟨_, _, _, rfl⟩⟩⟩
def ti132 : TI := ⟨32, 32, .arr 32 5, [.int .u8 0, .int .u8 0, .int .u8 0, .int .u8 0, .int .u8 0, .int .u8 0, .int .u8 0, .int .u8 0, .int .u8 0, .int .u8 0, .int .u8 0, .int .u8 0, .int .u8 0, .int .u8 0, .int .u8 0, .int .u8 0, .int .u8 0, .int .u8 0, .int .u8 0, .int .u8 0, .int .u8 0, .int .u8 0, .int .u8 0, .int .u8 0, .int .u8 0, .int .u8 0, .int .u8 0, .int .u8 0, .int .u8 0, .int .u8 0, .int .u8 0, .int .u8 0]⟩
theorem ok132 : TIok Tryd.prog 132 ti132 := ⟨⟨Tryd.t132, _, by kernel_rfl, rfl, rfl, rfl, rfl⟩, rfl, rfl, ⟨_, Tryd.underlying132, rfl⟩⟩
def ti133 : TI := ⟨64, 64, .arr 64 5, [.int .u8 0, .int .u8 0, .int .u8 0, .int .u8 0, .int .u8 0, .int .u8 0, .int .u8 0, .int .u8 0, .int .u8 0, .int .u8 0, .int .u8 0, .int .u8 0, .int .u8 0, .int .u8 0, .int .u8 0, .int .u8 0, .int .u8 0, .int .u8 0, .int .u8 0, .int .u8 0, .int .u8 0, .int .u8 0, .int .u8 0, .int .u8 0, .int .u8 0, .int .u8 0, .int .u8 0, .int .u8 0, .int .u8 0, .int .u8 0, .int .u8 0, .int .u8 0, .int .u8 0, .int .u8 0, .int .u8 0, .int .u8 0, .int .u8 0, .int .u8 0, .int .u8 0, .int .u8 0, .int .u8 0, .int .u8 0, .int .u8 0, .int .u8 0, .int .u8 0, .int .u8 0, .int .u8 0, .int .u8 0, .int .u8 0, .int .u8 0, .int .u8 0, .int .u8 0, .int .u8 0, .int .u8 0, .int .u8 0, .int .u8 0, .int .u8 0, .int .u8 0, .int .u8 0, .int .u8 0, .int .u8 0, .int .u8 0, .int .u8 0, .int .u8 0]⟩
theorem ok133 : TIok Tryd.prog 133 ti133 := ⟨⟨Tryd.t133, _, by kernel_rfl, rfl, rfl, rfl, rfl⟩, rfl, rfl, ⟨_, Tryd.underlying133, rfl⟩⟩
def ti134 : TI := ⟨4, 40, .struct [(0, 17), (1, 17), (2, 17), (3, 9)], [.nilp, .nilp, .nilp, .str []]⟩
theorem ok134 : TIok Tryd.prog 134 ti134 := ⟨⟨Tryd.t134, _, by kernel_rfl, rfl, rfl, rfl, rfl⟩, rfl, rfl, ⟨_, Tryd.underlying134, ⟨_, rfl, rfl⟩⟩⟩
def ti135 : TI := ⟨4, 40, .struct [(0, 17), (1, 17), (2, 17), (3, 9)], [.nilp, .nilp, .nilp, .str []]⟩
theorem ok135 : TIok Tryd.prog 135 ti135 := ⟨⟨Tryd.t135, _, by kernel_rfl, rfl, rfl, rfl, rfl⟩, rfl, rfl, ⟨_, Tryd.underlying135, ⟨_, rfl, rfl⟩⟩⟩
def ti136 : TI := ⟨0, 0, .arr 0 16, []⟩
theorem ok136 : TIok Tryd.prog 136 ti136 := ⟨⟨Tryd.t136, _, by kernel_rfl, rfl, rfl, rfl, rfl⟩, rfl, rfl, ⟨_, Tryd.underlying136, rfl⟩⟩
def ti137 : TI := ⟨0, 0, .struct [(0, 136)], []⟩
theorem ok137 : TIok Tryd.prog 137 ti137 := ⟨⟨Tryd.t137, _, by kernel_rfl, rfl, rfl, rfl, rfl⟩, rfl, rfl, ⟨_, Tryd.underlying137, ⟨_, rfl, rfl⟩⟩⟩
def ti138 : TI := ⟨0, 0, .struct [(0, 136)], []⟩
theorem ok138 : TIok Tryd.prog 138 ti138 := ⟨⟨Tryd.t138, _, by kernel_rfl, rfl, rfl, rfl, rfl⟩, rfl, rfl, ⟨_, Tryd.underlying138, ⟨_, rfl, rfl⟩⟩⟩
def ti139 : TI := ⟨1, 8, .func, [.niln]⟩
theorem ok139 : TIok Tryd.prog 139 ti139 := ⟨⟨Tryd.t139, _, by kernel_rfl, rfl, rfl, rfl, rfl⟩, rfl, rfl, ⟨_, Tryd.underlying139, ⟨_, _, _, rfl⟩⟩⟩
def ti140 : TI := ⟨1, 1, .int .u8, [.int .u8 0]⟩
theorem ok140 : TIok Tryd.prog 140 ti140 := ⟨⟨Tryd.t140, _, by kernel_rfl, rfl, rfl, rfl, rfl⟩, rfl, rfl, ⟨_, Tryd.underlying140, rfl⟩⟩
def ti141 : TI := ⟨1, 1, .int .u8, [.int .u8 0]⟩
theorem ok141 : TIok Tryd.prog 141 ti141 := ⟨⟨Tryd.t141, _, by kernel_rfl, rfl, rfl, rfl, rfl⟩, rfl, rfl, ⟨_, Tryd.underlying141, rfl⟩⟩
def ti142 : TI := ⟨1, 8, .func, [.niln]⟩
theorem ok142 : TIok Tryd.prog 142 ti142 := ⟨⟨Tryd.t142, _, by kernel_rfl, rfl, rfl, rfl, rfl⟩, rfl, rfl, ⟨_, Tryd.underlying142, ⟨_, _, _, rfl⟩⟩⟩
def ti143 : TI := ⟨1, 4, .int .i32, [.int .i32 0]⟩
theorem ok143 : TIok Tryd.prog 143 ti143 := ⟨⟨Tryd.t143, _, by kernel_rfl, rfl, rfl, rfl, rfl⟩, rfl, rfl, ⟨_, Tryd.underlying143, rfl⟩⟩
def ti144 : TI := ⟨1, 4, .int .i32, [.int .i32 0]⟩
theorem ok144 : TIok Tryd.prog 144 ti144 := ⟨⟨Tryd.t144, _, by kernel_rfl, rfl, rfl, rfl, rfl⟩, rfl, rfl, ⟨_, Tryd.underlying144, rfl⟩⟩
def ti145 : TI := ⟨11, 48, .struct [(0, 12), (1, 12), (2, 106), (3, 140), (4, 5), (5, 5), (6, 141), (7, 142), (8, 93), (9, 143), (10, 144)], [.int .u64 0, .int .u64 0, .int .u32 0, .int .u8 0, .int .u8 0, .int .u8 0, .int .u8 0, .niln, .nilp, .int .i32 0, .int .i32 0]⟩
theorem ok145 : TIok Tryd.prog 145 ti145 := ⟨⟨Tryd.t145, _, by kernel_rfl, rfl, rfl, rfl, rfl⟩, rfl, rfl, ⟨_, Tryd.underlying145, ⟨_, rfl, rfl⟩⟩⟩
def ti146 : TI := ⟨11, 48, .struct [(0, 12), (1, 12), (2, 106), (3, 140), (4, 5), (5, 5), (6, 141), (7, 142), (8, 93), (9, 143), (10, 144)], [.int .u64 0, .int .u64 0, .int .u32 0, .int .u8 0, .int .u8 0, .int .u8 0, .int .u8 0, .niln, .nilp, .int .i32 0, .int .i32 0]⟩
theorem ok146 : TIok Tryd.prog 146 ti146 := ⟨⟨Tryd.t146, _, by kernel_rfl, rfl, rfl, rfl, rfl⟩, rfl, rfl, ⟨_, Tryd.underlying146, ⟨_, rfl, rfl⟩⟩⟩
def ttl : List (Nat × TI) := [(1, ti1), (2, ti2), (3, ti3), (4, ti4), (5, ti5), (6, ti6), (7, ti7), (8, ti8), (9, ti9), (10, ti10), (11, ti11), (12, ti12), (13, ti13), (14, ti14), (15, ti15), (16, ti16), (17, ti17), (18, ti18), (19, ti19), (20, ti20), (21, ti21), (22, ti22), (23, ti23), (24, ti24), (25, ti25), (27, ti27), (28, ti28), (29, ti29), (30, ti30), (31, ti31), (32, ti32), (33, ti33), (34, ti34), (35, ti35), (36, ti36), (37, ti37), (38, ti38), (39, ti39), (40, ti40), (41, ti41), (42, ti42), (43, ti43), (44, ti44), (45, ti45), (47, ti47), (48, ti48), (49, ti49), (50, ti50), (52, ti52), (53, ti53), (54, ti54), (56, ti56), (57, ti57), (58, ti58), (59, ti59), (60, ti60), (61, ti61), (62, ti62), (63, ti63), (64, ti64), (65, ti65), (67, ti67), (68, ti68), (69, ti69), (70, ti70), (71, ti71), (72, ti72), (73, ti73), (74, ti74), (75, ti75), (76, ti76), (77, ti77), (78, ti78), (80, ti80), (81, ti81), (82, ti82), (84, ti84), (85, ti85), (86, ti86), (87, ti87), (88, ti88), (90, ti90), (91, ti91), (92, ti92), (93, ti93), (94, ti94), (95, ti95), (97, ti97), (98, ti98), (99, ti99), (100, ti100), (102, ti102), (103, ti103), (104, ti104), (105, ti105), (106, ti106), (108, ti108), (109, ti109), (110, ti110), (111, ti111), (112, ti112), (113, ti113), (114, ti114), (115, ti115), (116, ti116), (117, ti117), (118, ti118), (119, ti119), (120, ti120), (121, ti121), (122, ti122), (123, ti123), (124, ti124), (126, ti126), (127, ti127), (128, ti128), (129, ti129), (130, ti130), (131, ti131), (132, ti132), (133, ti133), (134, ti134), (135, ti135), (136, ti136), (137, ti137), (138, ti138), (139, ti139), (140, ti140), (141, ti141), (142, ti142), (143, ti143), (144, ti144), (145, ti145), (146, ti146)]
def tt : TT := fun t => lookT t ttl
theorem tok : TOK Tryd.prog tt := tok_of_all ⟨ok1, ok2, ok3, ok4, ok5, ok6, ok7, ok8, ok9, ok10, ok11, ok12, ok13, ok14, ok15, ok16, ok17, ok18, ok19, ok20, ok21, ok22, ok23, ok24, ok25, ok27, ok28, ok29, ok30, ok31, ok32, ok33, ok34, ok35, ok36, ok37, ok38, ok39, ok40, ok41, ok42, ok43, ok44, ok45, ok47, ok48, ok49, ok50, ok52, ok53, ok54, ok56, ok57, ok58, ok59, ok60, ok61, ok62, ok63, ok64, ok65, ok67, ok68, ok69, ok70, ok71, ok72, ok73, ok74, ok75, ok76, ok77, ok78, ok80, ok81, ok82, ok84, ok85, ok86, ok87, ok88, ok90, ok91, ok92, ok93, ok94, ok95, ok97, ok98, ok99, ok100, ok102, ok103, ok104, ok105, ok106, ok108, ok109, ok110, ok111, ok112, ok113, ok114, ok115, ok116, ok117, ok118, ok119, ok120, ok121, ok122, ok123, ok124, ok126, ok127, ok128, ok129, ok130, ok131, ok132, ok133, ok134, ok135, ok136, ok137, ok138, ok139, ok140, ok141, ok142, ok143, ok144, ok145, ok146, trivial⟩
theorem tt1 : tt 1 = some ti1 := rfl
theorem kd1 : kdOf tt 1 = some (.func) := rfl
theorem sz1 : szOf tt 1 = some 1 := rfl
theorem tt2 : tt 2 = some ti2 := rfl
theorem kd2 : kdOf tt 2 = some (.int .i64) := rfl
theorem sz2 : szOf tt 2 = some 1 := rfl
theorem tt3 : tt 3 = some ti3 := rfl
theorem kd3 : kdOf tt 3 = some (.int .i64) := rfl
theorem sz3 : szOf tt 3 = some 1 := rfl
theorem tt4 : tt 4 = some ti4 := rfl
theorem kd4 : kdOf tt 4 = some (.bool) := rfl
theorem sz4 : szOf tt 4 = some 1 := rfl
theorem tt5 : tt 5 = some ti5 := rfl
theorem kd5 : kdOf tt 5 = some (.int .u8) := rfl
theorem sz5 : szOf tt 5 = some 1 := rfl
theorem tt6 : tt 6 = some ti6 := rfl
theorem kd6 : kdOf tt 6 = some (.int .u8) := rfl
theorem sz6 : szOf tt 6 = some 1 := rfl
theorem tt7 : tt 7 = some ti7 := rfl
theorem kd7 : kdOf tt 7 = some (.struct [(0, 2), (1, 3), (2, 4), (3, 6)]) := rfl
theorem sz7 : szOf tt 7 = some 4 := rfl
theorem tt8 : tt 8 = some ti8 := rfl
theorem kd8 : kdOf tt 8 = some (.struct [(0, 2), (1, 3), (2, 4), (3, 6)]) := rfl
theorem sz8 : szOf tt 8 = some 4 := rfl
theorem tt9 : tt 9 = some ti9 := rfl
theorem kd9 : kdOf tt 9 = some (.str) := rfl
theorem sz9 : szOf tt 9 = some 1 := rfl
theorem tt10 : tt 10 = some ti10 := rfl
theorem kd10 : kdOf tt 10 = some (.str) := rfl
theorem sz10 : szOf tt 10 = some 1 := rfl
theorem tt11 : tt 11 = some ti11 := rfl
theorem kd11 : kdOf tt 11 = some (.str) := rfl
theorem sz11 : szOf tt 11 = some 1 := rfl
theorem tt12 : tt 12 = some ti12 := rfl
theorem kd12 : kdOf tt 12 = some (.int .u64) := rfl
theorem sz12 : szOf tt 12 = some 1 := rfl
theorem tt13 : tt 13 = some ti13 := rfl
theorem kd13 : kdOf tt 13 = some (.struct [(0, 9), (1, 12)]) := rfl
theorem sz13 : szOf tt 13 = some 2 := rfl
theorem tt14 : tt 14 = some ti14 := rfl
theorem kd14 : kdOf tt 14 = some (.struct [(0, 9), (1, 12)]) := rfl
theorem sz14 : szOf tt 14 = some 2 := rfl
theorem tt15 : tt 15 = some ti15 := rfl
theorem kd15 : kdOf tt 15 = some (.ptr 135) := rfl
theorem sz15 : szOf tt 15 = some 1 := rfl
theorem tt16 : tt 16 = some ti16 := rfl
theorem kd16 : kdOf tt 16 = some (.ptr 138) := rfl
theorem sz16 : szOf tt 16 = some 1 := rfl
theorem tt17 : tt 17 = some ti17 := rfl
theorem kd17 : kdOf tt 17 = some (.ptr 146) := rfl
theorem sz17 : szOf tt 17 = some 1 := rfl
theorem tt18 : tt 18 = some ti18 := rfl
theorem kd18 : kdOf tt 18 = some (.struct [(0, 17)]) := rfl
theorem sz18 : szOf tt 18 = some 1 := rfl
theorem tt19 : tt 19 = some ti19 := rfl
theorem kd19 : kdOf tt 19 = some (.struct [(0, 17)]) := rfl
theorem sz19 : szOf tt 19 = some 1 := rfl
theorem tt20 : tt 20 = some ti20 := rfl
theorem kd20 : kdOf tt 20 = some (.iface) := rfl
theorem sz20 : szOf tt 20 = some 1 := rfl
theorem tt21 : tt 21 = some ti21 := rfl
theorem kd21 : kdOf tt 21 = some (.int .i32) := rfl
theorem sz21 : szOf tt 21 = some 1 := rfl
theorem tt22 : tt 22 = some ti22 := rfl
theorem kd22 : kdOf tt 22 = some (.func) := rfl
theorem sz22 : szOf tt 22 = some 1 := rfl
theorem tt23 : tt 23 = some ti23 := rfl
theorem kd23 : kdOf tt 23 = some (.func) := rfl
theorem sz23 : szOf tt 23 = some 1 := rfl
theorem tt24 : tt 24 = some ti24 := rfl
theorem kd24 : kdOf tt 24 = some (.slice 31) := rfl
theorem sz24 : szOf tt 24 = some 1 := rfl
theorem tt25 : tt 25 = some ti25 := rfl
theorem kd25 : kdOf tt 25 = some (.int .i64) := rfl
theorem sz25 : szOf tt 25 = some 1 := rfl
theorem tt27 : tt 27 = some ti27 := rfl
theorem kd27 : kdOf tt 27 = some (.func) := rfl
theorem sz27 : szOf tt 27 = some 1 := rfl
theorem tt28 : tt 28 = some ti28 := rfl
theorem kd28 : kdOf tt 28 = some (.func) := rfl
theorem sz28 : szOf tt 28 = some 1 := rfl
theorem tt29 : tt 29 = some ti29 := rfl
theorem kd29 : kdOf tt 29 = some (.slice 33) := rfl
theorem sz29 : szOf tt 29 = some 1 := rfl
theorem tt30 : tt 30 = some ti30 := rfl
theorem kd30 : kdOf tt 30 = some (.struct [(0, 3), (1, 9), (2, 9), (3, 29), (4, 4)]) := rfl
theorem sz30 : szOf tt 30 = some 5 := rfl
theorem tt31 : tt 31 = some ti31 := rfl
theorem kd31 : kdOf tt 31 = some (.struct [(0, 3), (1, 9), (2, 9), (3, 29), (4, 4)]) := rfl
theorem sz31 : szOf tt 31 = some 5 := rfl
theorem tt32 : tt 32 = some ti32 := rfl
theorem kd32 : kdOf tt 32 = some (.struct [(0, 9), (1, 9)]) := rfl
theorem sz32 : szOf tt 32 = some 2 := rfl
theorem tt33 : tt 33 = some ti33 := rfl
theorem kd33 : kdOf tt 33 = some (.struct [(0, 9), (1, 9)]) := rfl
theorem sz33 : szOf tt 33 = some 2 := rfl
theorem tt34 : tt 34 = some ti34 := rfl
theorem kd34 : kdOf tt 34 = some (.int .u64) := rfl
theorem sz34 : szOf tt 34 = some 1 := rfl
theorem tt35 : tt 35 = some ti35 := rfl
theorem kd35 : kdOf tt 35 = some (.func) := rfl
theorem sz35 : szOf tt 35 = some 1 := rfl
theorem tt36 : tt 36 = some ti36 := rfl
theorem kd36 : kdOf tt 36 = some (.int .u64) := rfl
theorem sz36 : szOf tt 36 = some 1 := rfl
theorem tt37 : tt 37 = some ti37 := rfl
theorem kd37 : kdOf tt 37 = some (.func) := rfl
theorem sz37 : szOf tt 37 = some 1 := rfl
theorem tt38 : tt 38 = some ti38 := rfl
theorem kd38 : kdOf tt 38 = some (.func) := rfl
theorem sz38 : szOf tt 38 = some 1 := rfl
theorem tt39 : tt 39 = some ti39 := rfl
theorem kd39 : kdOf tt 39 = some (.func) := rfl
theorem sz39 : szOf tt 39 = some 1 := rfl
theorem tt40 : tt 40 = some ti40 := rfl
theorem kd40 : kdOf tt 40 = some (.slice 9) := rfl
theorem sz40 : szOf tt 40 = some 1 := rfl
theorem tt41 : tt 41 = some ti41 := rfl
theorem kd41 : kdOf tt 41 = some (.func) := rfl
theorem sz41 : szOf tt 41 = some 1 := rfl
theorem tt42 : tt 42 = some ti42 := rfl
theorem kd42 : kdOf tt 42 = some (.func) := rfl
theorem sz42 : szOf tt 42 = some 1 := rfl
theorem tt43 : tt 43 = some ti43 := rfl
theorem kd43 : kdOf tt 43 = some (.ptr 45) := rfl
theorem sz43 : szOf tt 43 = some 1 := rfl
theorem tt44 : tt 44 = some ti44 := rfl
theorem kd44 : kdOf tt 44 = some (.struct [(0, 9)]) := rfl
theorem sz44 : szOf tt 44 = some 1 := rfl
theorem tt45 : tt 45 = some ti45 := rfl
theorem kd45 : kdOf tt 45 = some (.struct [(0, 9)]) := rfl
theorem sz45 : szOf tt 45 = some 1 := rfl
theorem tt47 : tt 47 = some ti47 := rfl
theorem kd47 : kdOf tt 47 = some (.func) := rfl
theorem sz47 : szOf tt 47 = some 1 := rfl
theorem tt48 : tt 48 = some ti48 := rfl
theorem kd48 : kdOf tt 48 = some (.func) := rfl
theorem sz48 : szOf tt 48 = some 1 := rfl
theorem tt49 : tt 49 = some ti49 := rfl
theorem kd49 : kdOf tt 49 = some (.slice 5) := rfl
theorem sz49 : szOf tt 49 = some 1 := rfl
theorem tt50 : tt 50 = some ti50 := rfl
theorem kd50 : kdOf tt 50 = some (.func) := rfl
theorem sz50 : szOf tt 50 = some 1 := rfl
theorem tt52 : tt 52 = some ti52 := rfl
theorem kd52 : kdOf tt 52 = some (.func) := rfl
theorem sz52 : szOf tt 52 = some 1 := rfl
theorem tt53 : tt 53 = some ti53 := rfl
theorem kd53 : kdOf tt 53 = some (.func) := rfl
theorem sz53 : szOf tt 53 = some 1 := rfl
theorem tt54 : tt 54 = some ti54 := rfl
theorem kd54 : kdOf tt 54 = some (.func) := rfl
theorem sz54 : szOf tt 54 = some 1 := rfl
theorem tt56 : tt 56 = some ti56 := rfl
theorem kd56 : kdOf tt 56 = some (.func) := rfl
theorem sz56 : szOf tt 56 = some 1 := rfl
theorem tt57 : tt 57 = some ti57 := rfl
theorem kd57 : kdOf tt 57 = some (.func) := rfl
theorem sz57 : szOf tt 57 = some 1 := rfl
theorem tt58 : tt 58 = some ti58 := rfl
theorem kd58 : kdOf tt 58 = some (.func) := rfl
theorem sz58 : szOf tt 58 = some 1 := rfl
theorem tt59 : tt 59 = some ti59 := rfl
theorem kd59 : kdOf tt 59 = some (.func) := rfl
theorem sz59 : szOf tt 59 = some 1 := rfl
theorem tt60 : tt 60 = some ti60 := rfl
theorem kd60 : kdOf tt 60 = some (.arr 256 5) := rfl
theorem sz60 : szOf tt 60 = some 256 := rfl
theorem tt61 : tt 61 = some ti61 := rfl
theorem kd61 : kdOf tt 61 = some (.struct [(0, 5), (1, 5)]) := rfl
theorem sz61 : szOf tt 61 = some 2 := rfl
theorem tt62 : tt 62 = some ti62 := rfl
theorem kd62 : kdOf tt 62 = some (.struct [(0, 5), (1, 5)]) := rfl
theorem sz62 : szOf tt 62 = some 2 := rfl
theorem tt63 : tt 63 = some ti63 := rfl
theorem kd63 : kdOf tt 63 = some (.arr 16 62) := rfl
theorem sz63 : szOf tt 63 = some 32 := rfl
theorem tt64 : tt 64 = some ti64 := rfl
theorem kd64 : kdOf tt 64 = some (.func) := rfl
theorem sz64 : szOf tt 64 = some 1 := rfl
theorem tt65 : tt 65 = some ti65 := rfl
theorem kd65 : kdOf tt 65 = some (.func) := rfl
theorem sz65 : szOf tt 65 = some 1 := rfl
theorem tt67 : tt 67 = some ti67 := rfl
theorem kd67 : kdOf tt 67 = some (.func) := rfl
theorem sz67 : szOf tt 67 = some 1 := rfl
theorem tt68 : tt 68 = some ti68 := rfl
theorem kd68 : kdOf tt 68 = some (.func) := rfl
theorem sz68 : szOf tt 68 = some 1 := rfl
theorem tt69 : tt 69 = some ti69 := rfl
theorem kd69 : kdOf tt 69 = some (.func) := rfl
theorem sz69 : szOf tt 69 = some 1 := rfl
theorem tt70 : tt 70 = some ti70 := rfl
theorem kd70 : kdOf tt 70 = some (.func) := rfl
theorem sz70 : szOf tt 70 = some 1 := rfl
theorem tt71 : tt 71 = some ti71 := rfl
theorem kd71 : kdOf tt 71 = some (.func) := rfl
theorem sz71 : szOf tt 71 = some 1 := rfl
theorem tt72 : tt 72 = some ti72 := rfl
theorem kd72 : kdOf tt 72 = some (.func) := rfl
theorem sz72 : szOf tt 72 = some 1 := rfl
theorem tt73 : tt 73 = some ti73 := rfl
theorem kd73 : kdOf tt 73 = some (.func) := rfl
theorem sz73 : szOf tt 73 = some 1 := rfl
theorem tt74 : tt 74 = some ti74 := rfl
theorem kd74 : kdOf tt 74 = some (.func) := rfl
theorem sz74 : szOf tt 74 = some 1 := rfl
theorem tt75 : tt 75 = some ti75 := rfl
theorem kd75 : kdOf tt 75 = some (.func) := rfl
theorem sz75 : szOf tt 75 = some 1 := rfl
theorem tt76 : tt 76 = some ti76 := rfl
theorem kd76 : kdOf tt 76 = some (.ptr 78) := rfl
theorem sz76 : szOf tt 76 = some 1 := rfl
theorem tt77 : tt 77 = some ti77 := rfl
theorem kd77 : kdOf tt 77 = some (.struct [(0, 76), (1, 49)]) := rfl
theorem sz77 : szOf tt 77 = some 2 := rfl
theorem tt78 : tt 78 = some ti78 := rfl
theorem kd78 : kdOf tt 78 = some (.struct [(0, 76), (1, 49)]) := rfl
theorem sz78 : szOf tt 78 = some 2 := rfl
theorem tt80 : tt 80 = some ti80 := rfl
theorem kd80 : kdOf tt 80 = some (.func) := rfl
theorem sz80 : szOf tt 80 = some 1 := rfl
theorem tt81 : tt 81 = some ti81 := rfl
theorem kd81 : kdOf tt 81 = some (.iface) := rfl
theorem sz81 : szOf tt 81 = some 1 := rfl
theorem tt82 : tt 82 = some ti82 := rfl
theorem kd82 : kdOf tt 82 = some (.iface) := rfl
theorem sz82 : szOf tt 82 = some 1 := rfl
theorem tt84 : tt 84 = some ti84 := rfl
theorem kd84 : kdOf tt 84 = some (.func) := rfl
theorem sz84 : szOf tt 84 = some 1 := rfl
theorem tt85 : tt 85 = some ti85 := rfl
theorem kd85 : kdOf tt 85 = some (.func) := rfl
theorem sz85 : szOf tt 85 = some 1 := rfl
theorem tt86 : tt 86 = some ti86 := rfl
theorem kd86 : kdOf tt 86 = some (.func) := rfl
theorem sz86 : szOf tt 86 = some 1 := rfl
theorem tt87 : tt 87 = some ti87 := rfl
theorem kd87 : kdOf tt 87 = some (.arr 256 4) := rfl
theorem sz87 : szOf tt 87 = some 256 := rfl
theorem tt88 : tt 88 = some ti88 := rfl
theorem kd88 : kdOf tt 88 = some (.arr 256 4) := rfl
theorem sz88 : szOf tt 88 = some 256 := rfl
theorem tt90 : tt 90 = some ti90 := rfl
theorem kd90 : kdOf tt 90 = some (.func) := rfl
theorem sz90 : szOf tt 90 = some 1 := rfl
theorem tt91 : tt 91 = some ti91 := rfl
theorem kd91 : kdOf tt 91 = some (.func) := rfl
theorem sz91 : szOf tt 91 = some 1 := rfl
theorem tt92 : tt 92 = some ti92 := rfl
theorem kd92 : kdOf tt 92 = some (.ptr 88) := rfl
theorem sz92 : szOf tt 92 = some 1 := rfl
theorem tt93 : tt 93 = some ti93 := rfl
theorem kd93 : kdOf tt 93 = some (.ptr 5) := rfl
theorem sz93 : szOf tt 93 = some 1 := rfl
theorem tt94 : tt 94 = some ti94 := rfl
theorem kd94 : kdOf tt 94 = some (.func) := rfl
theorem sz94 : szOf tt 94 = some 1 := rfl
theorem tt95 : tt 95 = some ti95 := rfl
theorem kd95 : kdOf tt 95 = some (.func) := rfl
theorem sz95 : szOf tt 95 = some 1 := rfl
theorem tt97 : tt 97 = some ti97 := rfl
theorem kd97 : kdOf tt 97 = some (.func) := rfl
theorem sz97 : szOf tt 97 = some 1 := rfl
theorem tt98 : tt 98 = some ti98 := rfl
theorem kd98 : kdOf tt 98 = some (.func) := rfl
theorem sz98 : szOf tt 98 = some 1 := rfl
theorem tt99 : tt 99 = some ti99 := rfl
theorem kd99 : kdOf tt 99 = some (.other) := rfl
theorem sz99 : szOf tt 99 = some 1 := rfl
theorem tt100 : tt 100 = some ti100 := rfl
theorem kd100 : kdOf tt 100 = some (.func) := rfl
theorem sz100 : szOf tt 100 = some 1 := rfl
theorem tt102 : tt 102 = some ti102 := rfl
theorem kd102 : kdOf tt 102 = some (.func) := rfl
theorem sz102 : szOf tt 102 = some 1 := rfl
theorem tt103 : tt 103 = some ti103 := rfl
theorem kd103 : kdOf tt 103 = some (.func) := rfl
theorem sz103 : szOf tt 103 = some 1 := rfl
theorem tt104 : tt 104 = some ti104 := rfl
theorem kd104 : kdOf tt 104 = some (.func) := rfl
theorem sz104 : szOf tt 104 = some 1 := rfl
theorem tt105 : tt 105 = some ti105 := rfl
theorem kd105 : kdOf tt 105 = some (.func) := rfl
theorem sz105 : szOf tt 105 = some 1 := rfl
theorem tt106 : tt 106 = some ti106 := rfl
theorem kd106 : kdOf tt 106 = some (.int .u32) := rfl
theorem sz106 : szOf tt 106 = some 1 := rfl
theorem tt108 : tt 108 = some ti108 := rfl
theorem kd108 : kdOf tt 108 = some (.func) := rfl
theorem sz108 : szOf tt 108 = some 1 := rfl
theorem tt109 : tt 109 = some ti109 := rfl
theorem kd109 : kdOf tt 109 = some (.int .i64) := rfl
theorem sz109 : szOf tt 109 = some 1 := rfl
theorem tt110 : tt 110 = some ti110 := rfl
theorem kd110 : kdOf tt 110 = some (.func) := rfl
theorem sz110 : szOf tt 110 = some 1 := rfl
theorem tt111 : tt 111 = some ti111 := rfl
theorem kd111 : kdOf tt 111 = some (.ptr 115) := rfl
theorem sz111 : szOf tt 111 = some 1 := rfl
theorem tt112 : tt 112 = some ti112 := rfl
theorem kd112 : kdOf tt 112 = some (.func) := rfl
theorem sz112 : szOf tt 112 = some 1 := rfl
theorem tt113 : tt 113 = some ti113 := rfl
theorem kd113 : kdOf tt 113 = some (.func) := rfl
theorem sz113 : szOf tt 113 = some 1 := rfl
theorem tt114 : tt 114 = some ti114 := rfl
theorem kd114 : kdOf tt 114 = some (.struct [(0, 9), (1, 9), (2, 82)]) := rfl
theorem sz114 : szOf tt 114 = some 3 := rfl
theorem tt115 : tt 115 = some ti115 := rfl
theorem kd115 : kdOf tt 115 = some (.struct [(0, 9), (1, 9), (2, 82)]) := rfl
theorem sz115 : szOf tt 115 = some 3 := rfl
theorem tt116 : tt 116 = some ti116 := rfl
theorem kd116 : kdOf tt 116 = some (.func) := rfl
theorem sz116 : szOf tt 116 = some 1 := rfl
theorem tt117 : tt 117 = some ti117 := rfl
theorem kd117 : kdOf tt 117 = some (.func) := rfl
theorem sz117 : szOf tt 117 = some 1 := rfl
theorem tt118 : tt 118 = some ti118 := rfl
theorem kd118 : kdOf tt 118 = some (.ptr 120) := rfl
theorem sz118 : szOf tt 118 = some 1 := rfl
theorem tt119 : tt 119 = some ti119 := rfl
theorem kd119 : kdOf tt 119 = some (.struct [(0, 9)]) := rfl
theorem sz119 : szOf tt 119 = some 1 := rfl
theorem tt120 : tt 120 = some ti120 := rfl
theorem kd120 : kdOf tt 120 = some (.struct [(0, 9)]) := rfl
theorem sz120 : szOf tt 120 = some 1 := rfl
theorem tt121 : tt 121 = some ti121 := rfl
theorem kd121 : kdOf tt 121 = some (.func) := rfl
theorem sz121 : szOf tt 121 = some 1 := rfl
theorem tt122 : tt 122 = some ti122 := rfl
theorem kd122 : kdOf tt 122 = some (.arr 24 5) := rfl
theorem sz122 : szOf tt 122 = some 24 := rfl
theorem tt123 : tt 123 = some ti123 := rfl
theorem kd123 : kdOf tt 123 = some (.func) := rfl
theorem sz123 : szOf tt 123 = some 1 := rfl
theorem tt124 : tt 124 = some ti124 := rfl
theorem kd124 : kdOf tt 124 = some (.func) := rfl
theorem sz124 : szOf tt 124 = some 1 := rfl
theorem tt126 : tt 126 = some ti126 := rfl
theorem kd126 : kdOf tt 126 = some (.func) := rfl
theorem sz126 : szOf tt 126 = some 1 := rfl
theorem tt127 : tt 127 = some ti127 := rfl
theorem kd127 : kdOf tt 127 = some (.func) := rfl
theorem sz127 : szOf tt 127 = some 1 := rfl
theorem tt128 : tt 128 = some ti128 := rfl
theorem kd128 : kdOf tt 128 = some (.arr 20 36) := rfl
theorem sz128 : szOf tt 128 = some 20 := rfl
theorem tt129 : tt 129 = some ti129 := rfl
theorem kd129 : kdOf tt 129 = some (.arr 65 5) := rfl
theorem sz129 : szOf tt 129 = some 65 := rfl
theorem tt130 : tt 130 = some ti130 := rfl
theorem kd130 : kdOf tt 130 = some (.func) := rfl
theorem sz130 : szOf tt 130 = some 1 := rfl
theorem tt131 : tt 131 = some ti131 := rfl
theorem kd131 : kdOf tt 131 = some (.func) := rfl
theorem sz131 : szOf tt 131 = some 1 := rfl
theorem tt132 : tt 132 = some ti132 := rfl
theorem kd132 : kdOf tt 132 = some (.arr 32 5) := rfl
theorem sz132 : szOf tt 132 = some 32 := rfl
theorem tt133 : tt 133 = some ti133 := rfl
theorem kd133 : kdOf tt 133 = some (.arr 64 5) := rfl
theorem sz133 : szOf tt 133 = some 64 := rfl
theorem tt134 : tt 134 = some ti134 := rfl
theorem kd134 : kdOf tt 134 = some (.struct [(0, 17), (1, 17), (2, 17), (3, 9)]) := rfl
theorem sz134 : szOf tt 134 = some 4 := rfl
theorem tt135 : tt 135 = some ti135 := rfl
theorem kd135 : kdOf tt 135 = some (.struct [(0, 17), (1, 17), (2, 17), (3, 9)]) := rfl
theorem sz135 : szOf tt 135 = some 4 := rfl
theorem tt136 : tt 136 = some ti136 := rfl
theorem kd136 : kdOf tt 136 = some (.arr 0 16) := rfl
theorem sz136 : szOf tt 136 = some 0 := rfl
theorem tt137 : tt 137 = some ti137 := rfl
theorem kd137 : kdOf tt 137 = some (.struct [(0, 136)]) := rfl
theorem sz137 : szOf tt 137 = some 0 := rfl
theorem tt138 : tt 138 = some ti138 := rfl
theorem kd138 : kdOf tt 138 = some (.struct [(0, 136)]) := rfl
theorem sz138 : szOf tt 138 = some 0 := rfl
theorem tt139 : tt 139 = some ti139 := rfl
theorem kd139 : kdOf tt 139 = some (.func) := rfl
theorem sz139 : szOf tt 139 = some 1 := rfl
theorem tt140 : tt 140 = some ti140 := rfl
theorem kd140 : kdOf tt 140 = some (.int .u8) := rfl
theorem sz140 : szOf tt 140 = some 1 := rfl
theorem tt141 : tt 141 = some ti141 := rfl
theorem kd141 : kdOf tt 141 = some (.int .u8) := rfl
theorem sz141 : szOf tt 141 = some 1 := rfl
theorem tt142 : tt 142 = some ti142 := rfl
theorem kd142 : kdOf tt 142 = some (.func) := rfl
theorem sz142 : szOf tt 142 = some 1 := rfl
theorem tt143 : tt 143 = some ti143 := rfl
theorem kd143 : kdOf tt 143 = some (.int .i32) := rfl
theorem sz143 : szOf tt 143 = some 1 := rfl
theorem tt144 : tt 144 = some ti144 := rfl
theorem kd144 : kdOf tt 144 = some (.int .i32) := rfl
theorem sz144 : szOf tt 144 = some 1 := rfl
theorem tt145 : tt 145 = some ti145 := rfl
theorem kd145 : kdOf tt 145 = some (.struct [(0, 12), (1, 12), (2, 106), (3, 140), (4, 5), (5, 5), (6, 141), (7, 142), (8, 93), (9, 143), (10, 144)]) := rfl
theorem sz145 : szOf tt 145 = some 11 := rfl
theorem tt146 : tt 146 = some ti146 := rfl
theorem kd146 : kdOf tt 146 = some (.struct [(0, 12), (1, 12), (2, 106), (3, 140), (4, 5), (5, 5), (6, 141), (7, 142), (8, 93), (9, 143), (10, 144)]) := rfl
theorem sz146 : szOf tt 146 = some 11 := rfl
end Go.Ab.Sd
