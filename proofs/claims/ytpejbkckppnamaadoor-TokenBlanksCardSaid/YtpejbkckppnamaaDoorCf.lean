/- The table of this seat's types for the abstract machine, and that it is the program's. Printed by a program of this work (gen_tt.py). -/
import Derived.Test.YtpejbkckppnamaaDoorProg
import Derived.Test.YtpejbkckppnamaaDoorAbB
import Derived.KernelRfl
set_option linter.all false
set_option linter.unusedVariables false
set_option linter.unusedSimpArgs false
namespace Go.Ab.Sd
open Go Go.Ab Go.Proofs
set_option maxRecDepth 20000
def g0 : GT := fun _ => none
def ti1 : TI := ⟨1, 8, .func, [.niln]⟩
theorem ok1 : TIok Tryd.prog 1 ti1 := ⟨⟨Tryd.t1, _, by kernel_rfl, rfl, rfl, rfl, rfl⟩, rfl, rfl, ⟨_, Tryd.underlying1, ⟨_, _, _, rfl⟩⟩⟩
def ti2 : TI := ⟨1, 8, .int .i64, [.int .i64 0]⟩
theorem ok2 : TIok Tryd.prog 2 ti2 := ⟨⟨Tryd.t2, _, by kernel_rfl, rfl, rfl, rfl, rfl⟩, rfl, rfl, ⟨_, Tryd.underlying2, rfl⟩⟩
def ti3 : TI := ⟨1, 8, .int .i64, [.int .i64 0]⟩
theorem ok3 : TIok Tryd.prog 3 ti3 := ⟨⟨Tryd.t3, _, by kernel_rfl, rfl, rfl, rfl, rfl⟩, rfl, rfl, ⟨_, Tryd.underlying3, rfl⟩⟩
def ti4 : TI := ⟨1, 1, .bool, [.bool false]⟩
theorem ok4 : TIok Tryd.prog 4 ti4 := ⟨⟨Tryd.t4, _, by kernel_rfl, rfl, rfl, rfl, rfl⟩, rfl, rfl, ⟨_, Tryd.underlying4, rfl⟩⟩
def ti5 : TI := ⟨1, 1, .int .u8, [.int .u8 0]⟩
theorem ok5 : TIok Tryd.prog 5 ti5 := ⟨⟨Tryd.t5, _, by kernel_rfl, rfl, rfl, rfl, rfl⟩, rfl, rfl, ⟨_, Tryd.underlying5, rfl⟩⟩
def ti6 : TI := ⟨1, 1, .int .u8, [.int .u8 0]⟩
theorem ok6 : TIok Tryd.prog 6 ti6 := ⟨⟨Tryd.t6, _, by kernel_rfl, rfl, rfl, rfl, rfl⟩, rfl, rfl, ⟨_, Tryd.underlying6, rfl⟩⟩
def ti7 : TI := ⟨4, 24, .struct [(0, 2), (1, 3), (2, 4), (3, 6)], [.int .i64 0, .int .i64 0, .bool false, .int .u8 0]⟩
theorem ok7 : TIok Tryd.prog 7 ti7 := ⟨⟨Tryd.t7, _, by kernel_rfl, rfl, rfl, rfl, rfl⟩, rfl, rfl, ⟨_, Tryd.underlying7, ⟨_, rfl, rfl⟩⟩⟩
def ti8 : TI := ⟨4, 24, .struct [(0, 2), (1, 3), (2, 4), (3, 6)], [.int .i64 0, .int .i64 0, .bool false, .int .u8 0]⟩
theorem ok8 : TIok Tryd.prog 8 ti8 := ⟨⟨Tryd.t8, _, by kernel_rfl, rfl, rfl, rfl, rfl⟩, rfl, rfl, ⟨_, Tryd.underlying8, ⟨_, rfl, rfl⟩⟩⟩
def ti9 : TI := ⟨1, 16, .str, [.str []]⟩
theorem ok9 : TIok Tryd.prog 9 ti9 := ⟨⟨Tryd.t9, _, by kernel_rfl, rfl, rfl, rfl, rfl⟩, rfl, rfl, ⟨_, Tryd.underlying9, rfl⟩⟩
def ti10 : TI := ⟨1, 16, .str, [.str []]⟩
theorem ok10 : TIok Tryd.prog 10 ti10 := ⟨⟨Tryd.t10, _, by kernel_rfl, rfl, rfl, rfl, rfl⟩, rfl, rfl, ⟨_, Tryd.underlying10, rfl⟩⟩
def ti11 : TI := ⟨1, 16, .str, [.str []]⟩
theorem ok11 : TIok Tryd.prog 11 ti11 := ⟨⟨Tryd.t11, _, by kernel_rfl, rfl, rfl, rfl, rfl⟩, rfl, rfl, ⟨_, Tryd.underlying11, rfl⟩⟩
def ti12 : TI := ⟨1, 8, .int .u64, [.int .u64 0]⟩
theorem ok12 : TIok Tryd.prog 12 ti12 := ⟨⟨Tryd.t12, _, by kernel_rfl, rfl, rfl, rfl, rfl⟩, rfl, rfl, ⟨_, Tryd.underlying12, rfl⟩⟩
def ti13 : TI := ⟨2, 24, .struct [(0, 9), (1, 12)], [.str [], .int .u64 0]⟩
theorem ok13 : TIok Tryd.prog 13 ti13 := ⟨⟨Tryd.t13, _, by kernel_rfl, rfl, rfl, rfl, rfl⟩, rfl, rfl, ⟨_, Tryd.underlying13, ⟨_, rfl, rfl⟩⟩⟩
def ti14 : TI := ⟨2, 24, .struct [(0, 9), (1, 12)], [.str [], .int .u64 0]⟩
theorem ok14 : TIok Tryd.prog 14 ti14 := ⟨⟨Tryd.t14, _, by kernel_rfl, rfl, rfl, rfl, rfl⟩, rfl, rfl, ⟨_, Tryd.underlying14, ⟨_, rfl, rfl⟩⟩⟩
def ti15 : TI := ⟨1, 8, .ptr 135, [.nilp]⟩
theorem ok15 : TIok Tryd.prog 15 ti15 := ⟨⟨Tryd.t15, _, by kernel_rfl, rfl, rfl, rfl, rfl⟩, rfl, rfl, ⟨_, Tryd.underlying15, rfl⟩⟩
def ti16 : TI := ⟨1, 8, .ptr 138, [.nilp]⟩
theorem ok16 : TIok Tryd.prog 16 ti16 := ⟨⟨Tryd.t16, _, by kernel_rfl, rfl, rfl, rfl, rfl⟩, rfl, rfl, ⟨_, Tryd.underlying16, rfl⟩⟩
def ti17 : TI := ⟨1, 8, .ptr 146, [.nilp]⟩
theorem ok17 : TIok Tryd.prog 17 ti17 := ⟨⟨Tryd.t17, _, by kernel_rfl, rfl, rfl, rfl, rfl⟩, rfl, rfl, ⟨_, Tryd.underlying17, rfl⟩⟩
def ti18 : TI := ⟨1, 8, .struct [(0, 17)], [.nilp]⟩
theorem ok18 : TIok Tryd.prog 18 ti18 := ⟨⟨Tryd.t18, _, by kernel_rfl, rfl, rfl, rfl, rfl⟩, rfl, rfl, ⟨_, Tryd.underlying18, ⟨_, rfl, rfl⟩⟩⟩
def ti19 : TI := ⟨1, 8, .struct [(0, 17)], [.nilp]⟩
theorem ok19 : TIok Tryd.prog 19 ti19 := ⟨⟨Tryd.t19, _, by kernel_rfl, rfl, rfl, rfl, rfl⟩, rfl, rfl, ⟨_, Tryd.underlying19, ⟨_, rfl, rfl⟩⟩⟩
def ti20 : TI := ⟨1, 16, .iface, [.nili]⟩
theorem ok20 : TIok Tryd.prog 20 ti20 := ⟨⟨Tryd.t20, _, by kernel_rfl, rfl, rfl, rfl, rfl⟩, rfl, rfl, ⟨_, Tryd.underlying20, ⟨_, rfl⟩⟩⟩
def ti21 : TI := ⟨1, 4, .int .i32, [.int .i32 0]⟩
theorem ok21 : TIok Tryd.prog 21 ti21 := ⟨⟨Tryd.t21, _, by kernel_rfl, rfl, rfl, rfl, rfl⟩, rfl, rfl, ⟨_, Tryd.underlying21, rfl⟩⟩
def ti22 : TI := ⟨1, 8, .func, [.niln]⟩
theorem ok22 : TIok Tryd.prog 22 ti22 := ⟨⟨Tryd.t22, _, by kernel_rfl, rfl, rfl, rfl, rfl⟩, rfl, rfl, ⟨_, Tryd.underlying22, ⟨_, _, _, rfl⟩⟩⟩
def ti23 : TI := ⟨1, 8, .func, [.niln]⟩
theorem ok23 : TIok Tryd.prog 23 ti23 := ⟨⟨Tryd.t23, _, by kernel_rfl, rfl, rfl, rfl, rfl⟩, rfl, rfl, ⟨_, Tryd.underlying23, ⟨_, _, _, rfl⟩⟩⟩
def ti24 : TI := ⟨1, 24, .slice 31, [.nils]⟩
theorem ok24 : TIok Tryd.prog 24 ti24 := ⟨⟨Tryd.t24, _, by kernel_rfl, rfl, rfl, rfl, rfl⟩, rfl, rfl, ⟨_, Tryd.underlying24, rfl⟩⟩
def ti25 : TI := ⟨1, 8, .int .i64, [.int .i64 0]⟩
theorem ok25 : TIok Tryd.prog 25 ti25 := ⟨⟨Tryd.t25, _, by kernel_rfl, rfl, rfl, rfl, rfl⟩, rfl, rfl, ⟨_, Tryd.underlying25, rfl⟩⟩
def ti27 : TI := ⟨1, 8, .func, [.niln]⟩
theorem ok27 : TIok Tryd.prog 27 ti27 := ⟨⟨Tryd.t27, _, by kernel_rfl, rfl, rfl, rfl, rfl⟩, rfl, rfl, ⟨_, Tryd.underlying27, ⟨_, _, _, rfl⟩⟩⟩
def ti28 : TI := ⟨1, 8, .func, [.niln]⟩
theorem ok28 : TIok Tryd.prog 28 ti28 := ⟨⟨Tryd.t28, _, by kernel_rfl, rfl, rfl, rfl, rfl⟩, rfl, rfl, ⟨_, Tryd.underlying28, ⟨_, _, _, rfl⟩⟩⟩
def ti29 : TI := ⟨1, 24, .slice 33, [.nils]⟩
theorem ok29 : TIok Tryd.prog 29 ti29 := ⟨⟨Tryd.t29, _, by kernel_rfl, rfl, rfl, rfl, rfl⟩, rfl, rfl, ⟨_, Tryd.underlying29, rfl⟩⟩
def ti30 : TI := ⟨5, 72, .struct [(0, 3), (1, 9), (2, 9), (3, 29), (4, 4)], [.int .i64 0, .str [], .str [], .nils, .bool false]⟩
theorem ok30 : TIok Tryd.prog 30 ti30 := ⟨⟨Tryd.t30, _, by kernel_rfl, rfl, rfl, rfl, rfl⟩, rfl, rfl, ⟨_, Tryd.underlying30, ⟨_, rfl, rfl⟩⟩⟩
def ti31 : TI := ⟨5, 72, .struct [(0, 3), (1, 9), (2, 9), (3, 29), (4, 4)], [.int .i64 0, .str [], .str [], .nils, .bool false]⟩
theorem ok31 : TIok Tryd.prog 31 ti31 := ⟨⟨Tryd.t31, _, by kernel_rfl, rfl, rfl, rfl, rfl⟩, rfl, rfl, ⟨_, Tryd.underlying31, ⟨_, rfl, rfl⟩⟩⟩
def ti32 : TI := ⟨2, 32, .struct [(0, 9), (1, 9)], [.str [], .str []]⟩
theorem ok32 : TIok Tryd.prog 32 ti32 := ⟨⟨Tryd.t32, _, by kernel_rfl, rfl, rfl, rfl, rfl⟩, rfl, rfl, ⟨_, Tryd.underlying32, ⟨_, rfl, rfl⟩⟩⟩
def ti33 : TI := ⟨2, 32, .struct [(0, 9), (1, 9)], [.str [], .str []]⟩
theorem ok33 : TIok Tryd.prog 33 ti33 := ⟨⟨Tryd.t33, _, by kernel_rfl, rfl, rfl, rfl, rfl⟩, rfl, rfl, ⟨_, Tryd.underlying33, ⟨_, rfl, rfl⟩⟩⟩
def ti34 : TI := ⟨1, 8, .int .u64, [.int .u64 0]⟩
theorem ok34 : TIok Tryd.prog 34 ti34 := ⟨⟨Tryd.t34, _, by kernel_rfl, rfl, rfl, rfl, rfl⟩, rfl, rfl, ⟨_, Tryd.underlying34, rfl⟩⟩
def ti35 : TI := ⟨1, 8, .func, [.niln]⟩
theorem ok35 : TIok Tryd.prog 35 ti35 := ⟨⟨Tryd.t35, _, by kernel_rfl, rfl, rfl, rfl, rfl⟩, rfl, rfl, ⟨_, Tryd.underlying35, ⟨_, _, _, rfl⟩⟩⟩
def ti36 : TI := ⟨1, 8, .int .u64, [.int .u64 0]⟩
theorem ok36 : TIok Tryd.prog 36 ti36 := ⟨⟨Tryd.t36, _, by kernel_rfl, rfl, rfl, rfl, rfl⟩, rfl, rfl, ⟨_, Tryd.underlying36, rfl⟩⟩
def ti37 : TI := ⟨1, 8, .func, [.niln]⟩
theorem ok37 : TIok Tryd.prog 37 ti37 := ⟨⟨Tryd.t37, _, by kernel_rfl, rfl, rfl, rfl, rfl⟩, rfl, rfl, ⟨_, Tryd.underlying37, ⟨_, _, _, rfl⟩⟩⟩
def ti38 : TI := ⟨1, 8, .func, [.niln]⟩
theorem ok38 : TIok Tryd.prog 38 ti38 := ⟨⟨Tryd.t38, _, by kernel_rfl, rfl, rfl, rfl, rfl⟩, rfl, rfl, ⟨_, Tryd.underlying38, ⟨_, _, _, rfl⟩⟩⟩
def ti39 : TI := ⟨1, 8, .func, [.niln]⟩
theorem ok39 : TIok Tryd.prog 39 ti39 := ⟨⟨Tryd.t39, _, by kernel_rfl, rfl, rfl, rfl, rfl⟩, rfl, rfl, ⟨_, Tryd.underlying39, ⟨_, _, _, rfl⟩⟩⟩
def ti40 : TI := ⟨1, 24, .slice 9, [.nils]⟩
theorem ok40 : TIok Tryd.prog 40 ti40 := ⟨⟨Tryd.t40, _, by kernel_rfl, rfl, rfl, rfl, rfl⟩, rfl, rfl, ⟨_, Tryd.underlying40, rfl⟩⟩
def ti41 : TI := ⟨1, 8, .func, [.niln]⟩
theorem ok41 : TIok Tryd.prog 41 ti41 := ⟨⟨Tryd.t41, _, by kernel_rfl, rfl, rfl, rfl, rfl⟩, rfl, rfl, ⟨_, Tryd.underlying41, ⟨_, _, _, rfl⟩⟩⟩
def ti42 : TI := ⟨1, 8, .func, [.niln]⟩
theorem ok42 : TIok Tryd.prog 42 ti42 := ⟨⟨Tryd.t42, _, by kernel_rfl, rfl, rfl, rfl, rfl⟩, rfl, rfl, ⟨_, Tryd.underlying42, ⟨_, _, _, rfl⟩⟩⟩
def ti43 : TI := ⟨1, 8, .ptr 45, [.nilp]⟩
theorem ok43 : TIok Tryd.prog 43 ti43 := ⟨⟨Tryd.t43, _, by kernel_rfl, rfl, rfl, rfl, rfl⟩, rfl, rfl, ⟨_, Tryd.underlying43, rfl⟩⟩
def ti44 : TI := ⟨1, 16, .struct [(0, 9)], [.str []]⟩
theorem ok44 : TIok Tryd.prog 44 ti44 := ⟨⟨Tryd.t44, _, by kernel_rfl, rfl, rfl, rfl, rfl⟩, rfl, rfl, ⟨_, Tryd.underlying44, ⟨_, rfl, rfl⟩⟩⟩
def ti45 : TI := ⟨1, 16, .struct [(0, 9)], [.str []]⟩
theorem ok45 : TIok Tryd.prog 45 ti45 := ⟨⟨Tryd.t45, _, by kernel_rfl, rfl, rfl, rfl, rfl⟩, rfl, rfl, ⟨_, Tryd.underlying45, ⟨_, rfl, rfl⟩⟩⟩
def ti47 : TI := ⟨1, 8, .func, [.niln]⟩
theorem ok47 : TIok Tryd.prog 47 ti47 := ⟨⟨Tryd.t47, _, by kernel_rfl, rfl, rfl, rfl, rfl⟩, rfl, rfl, ⟨_, Tryd.underlying47, ⟨_, _, _, rfl⟩⟩⟩
def ti48 : TI := ⟨1, 8, .func, [.niln]⟩
theorem ok48 : TIok Tryd.prog 48 ti48 := ⟨⟨Tryd.t48, _, by kernel_rfl, rfl, rfl, rfl, rfl⟩, rfl, rfl, ⟨_, Tryd.underlying48, ⟨_, _, _, rfl⟩⟩⟩
def ti49 : TI := ⟨1, 24, .slice 5, [.nils]⟩
theorem ok49 : TIok Tryd.prog 49 ti49 := ⟨⟨Tryd.t49, _, by kernel_rfl, rfl, rfl, rfl, rfl⟩, rfl, rfl, ⟨_, Tryd.underlying49, rfl⟩⟩
def ti50 : TI := ⟨1, 8, .func, [.niln]⟩
theorem ok50 : TIok Tryd.prog 50 ti50 := ⟨⟨Tryd.t50, _, by kernel_rfl, rfl, rfl, rfl, rfl⟩, rfl, rfl, ⟨_, Tryd.underlying50, ⟨_, _, _, rfl⟩⟩⟩
def ti52 : TI := ⟨1, 8, .func, [.niln]⟩
theorem ok52 : TIok Tryd.prog 52 ti52 := ⟨⟨Tryd.t52, _, by kernel_rfl, rfl, rfl, rfl, rfl⟩, rfl, rfl, ⟨_, Tryd.underlying52, ⟨_, _, _, rfl⟩⟩⟩
def ti53 : TI := ⟨1, 8, .func, [.niln]⟩
theorem ok53 : TIok Tryd.prog 53 ti53 := ⟨⟨Tryd.t53, _, by kernel_rfl, rfl, rfl, rfl, rfl⟩, rfl, rfl, ⟨_, Tryd.underlying53, ⟨_, _, _, rfl⟩⟩⟩
def ti54 : TI := ⟨1, 8, .func, [.niln]⟩
theorem ok54 : TIok Tryd.prog 54 ti54 := ⟨⟨Tryd.t54, _, by kernel_rfl, rfl, rfl, rfl, rfl⟩, rfl, rfl, ⟨_, Tryd.underlying54, ⟨_, _, _, rfl⟩⟩⟩
def ti56 : TI := ⟨1, 8, .func, [.niln]⟩
theorem ok56 : TIok Tryd.prog 56 ti56 := ⟨⟨Tryd.t56, _, by kernel_rfl, rfl, rfl, rfl, rfl⟩, rfl, rfl, ⟨_, Tryd.underlying56, ⟨_, _, _, rfl⟩⟩⟩
def ti57 : TI := ⟨1, 8, .func, [.niln]⟩
theorem ok57 : TIok Tryd.prog 57 ti57 := ⟨⟨Tryd.t57, _, by kernel_rfl, rfl, rfl, rfl, rfl⟩, rfl, rfl, ⟨_, Tryd.underlying57, ⟨_, _, _, rfl⟩⟩⟩
def ti58 : TI := ⟨1, 8, .func, [.niln]⟩
theorem ok58 : TIok Tryd.prog 58 ti58 := ⟨⟨Tryd.t58, _, by kernel_rfl, rfl, rfl, rfl, rfl⟩, rfl, rfl, ⟨_, Tryd.underlying58, ⟨_, _, _, rfl⟩⟩⟩
def ti59 : TI := ⟨1, 8, .func, [.niln]⟩
theorem ok59 : TIok Tryd.prog 59 ti59 := ⟨⟨Tryd.t59, _, by kernel_rfl, rfl, rfl, rfl, rfl⟩, rfl, rfl, ⟨_, Tryd.underlying59, ⟨_, _, _, rfl⟩⟩⟩
def ti60 : TI := ⟨256, 256, .arr 256 5, [.int .u8 0, .int .u8 0, .int .u8 0, .int .u8 0, .int .u8 0, .int .u8 0, .int .u8 0, .int .u8 0, .int .u8 0, .int .u8 0, .int .u8 0, .int .u8 0, .int .u8 0, .int .u8 0, .int .u8 0, .int .u8 0, .int .u8 0, .int .u8 0, .int .u8 0, .int .u8 0, .int .u8 0, .int .u8 0, .int .u8 0, .int .u8 0, .int .u8 0, .int .u8 0, .int .u8 0, .int .u8 0, .int .u8 0, .int .u8 0, .int .u8 0, .int .u8 0, .int .u8 0, .int .u8 0, .int .u8 0, .int .u8 0, .int .u8 0, .int .u8 0, .int .u8 0, .int .u8 0, .int .u8 0, .int .u8 0, .int .u8 0, .int .u8 0, .int .u8 0, .int .u8 0, .int .u8 0, .int .u8 0, .int .u8 0, .int .u8 0, .int .u8 0, .int .u8 0, .int .u8 0, .int .u8 0, .int .u8 0, .int .u8 0, .int .u8 0, .int .u8 0, .int .u8 0, .int .u8 0, .int .u8 0, .int .u8 0, .int .u8 0, .int .u8 0, .int .u8 0, .int .u8 0, .int .u8 0, .int .u8 0, .int .u8 0, .int .u8 0, .int .u8 0, .int .u8 0, .int .u8 0, .int .u8 0, .int .u8 0, .int .u8 0, .int .u8 0, .int .u8 0, .int .u8 0, .int .u8 0, .int .u8 0, .int .u8 0, .int .u8 0, .int .u8 0, .int .u8 0, .int .u8 0, .int .u8 0, .int .u8 0, .int .u8 0, .int .u8 0, .int .u8 0, .int .u8 0, .int .u8 0, .int .u8 0, .int .u8 0, .int .u8 0, .int .u8 0, .int .u8 0, .int .u8 0, .int .u8 0, .int .u8 0, .int .u8 0, .int .u8 0, .int .u8 0, .int .u8 0, .int .u8 0, .int .u8 0, .int .u8 0, .int .u8 0, .int .u8 0, .int .u8 0, .int .u8 0, .int .u8 0, .int .u8 0, .int .u8 0, .int .u8 0, .int .u8 0, .int .u8 0, .int .u8 0, .int .u8 0, .int .u8 0, .int .u8 0, .int .u8 0, .int .u8 0, .int .u8 0, .int .u8 0, .int .u8 0, .int .u8 0, .int .u8 0, .int .u8 0, .int .u8 0, .int .u8 0, .int .u8 0, .int .u8 0, .int .u8 0, .int .u8 0, .int .u8 0, .int .u8 0, .int .u8 0, .int .u8 0, .int .u8 0, .int .u8 0, .int .u8 0, .int .u8 0, .int .u8 0, .int .u8 0, .int .u8 0, .int .u8 0, .int .u8 0, .int .u8 0, .int .u8 0, .int .u8 0, .int .u8 0, .int .u8 0, .int .u8 0, .int .u8 0, .int .u8 0, .int .u8 0, .int .u8 0, .int .u8 0, .int .u8 0, .int .u8 0, .int .u8 0, .int .u8 0, .int .u8 0, .int .u8 0, .int .u8 0, .int .u8 0, .int .u8 0, .int .u8 0, .int .u8 0, .int .u8 0, .int .u8 0, .int .u8 0, .int .u8 0, .int .u8 0, .int .u8 0, .int .u8 0, .int .u8 0, .int .u8 0, .int .u8 0, .int .u8 0, .int .u8 0, .int .u8 0, .int .u8 0, .int .u8 0, .int .u8 0, .int .u8 0, .int .u8 0, .int .u8 0, .int .u8 0, .int .u8 0, .int .u8 0, .int .u8 0, .int .u8 0, .int .u8 0, .int .u8 0, .int .u8 0, .int .u8 0, .int .u8 0, .int .u8 0, .int .u8 0, .int .u8 0, .int .u8 0, .int .u8 0, .int .u8 0, .int .u8 0, .int .u8 0, .int .u8 0, .int .u8 0, .int .u8 0, .int .u8 0, .int .u8 0, .int .u8 0, .int .u8 0, .int .u8 0, .int .u8 0, .int .u8 0, .int .u8 0, .int .u8 0, .int .u8 0, .int .u8 0, .int .u8 0, .int .u8 0, .int .u8 0, .int .u8 0, .int .u8 0, .int .u8 0, .int .u8 0, .int .u8 0, .int .u8 0, .int .u8 0, .int .u8 0, .int .u8 0, .int .u8 0, .int .u8 0, .int .u8 0, .int .u8 0, .int .u8 0, .int .u8 0, .int .u8 0, .int .u8 0, .int .u8 0, .int .u8 0, .int .u8 0, .int .u8 0, .int .u8 0, .int .u8 0, .int .u8 0, .int .u8 0, .int .u8 0, .int .u8 0, .int .u8 0, .int .u8 0, .int .u8 0, .int .u8 0]⟩
theorem ok60 : TIok Tryd.prog 60 ti60 := ⟨⟨Tryd.t60, _, by kernel_rfl, rfl, rfl, rfl, rfl⟩, rfl, rfl, ⟨_, Tryd.underlying60, rfl⟩⟩
def ti61 : TI := ⟨2, 2, .struct [(0, 5), (1, 5)], [.int .u8 0, .int .u8 0]⟩
theorem ok61 : TIok Tryd.prog 61 ti61 := ⟨⟨Tryd.t61, _, by kernel_rfl, rfl, rfl, rfl, rfl⟩, rfl, rfl, ⟨_, Tryd.underlying61, ⟨_, rfl, rfl⟩⟩⟩
def ti62 : TI := ⟨2, 2, .struct [(0, 5), (1, 5)], [.int .u8 0, .int .u8 0]⟩
theorem ok62 : TIok Tryd.prog 62 ti62 := ⟨⟨Tryd.t62, _, by kernel_rfl, rfl, rfl, rfl, rfl⟩, rfl, rfl, ⟨_, Tryd.underlying62, ⟨_, rfl, rfl⟩⟩⟩
def ti63 : TI := ⟨32, 32, .arr 16 62, [.int .u8 0, .int .u8 0, .int .u8 0, .int .u8 0, .int .u8 0, .int .u8 0, .int .u8 0, .int .u8 0, .int .u8 0, .int .u8 0, .int .u8 0, .int .u8 0, .int .u8 0, .int .u8 0, .int .u8 0, .int .u8 0, .int .u8 0, .int .u8 0, .int .u8 0, .int .u8 0, .int .u8 0, .int .u8 0, .int .u8 0, .int .u8 0, .int .u8 0, .int .u8 0, .int .u8 0, .int .u8 0, .int .u8 0, .int .u8 0, .int .u8 0, .int .u8 0]⟩
theorem ok63 : TIok Tryd.prog 63 ti63 := ⟨⟨Tryd.t63, _, by kernel_rfl, rfl, rfl, rfl, rfl⟩, rfl, rfl, ⟨_, Tryd.underlying63, rfl⟩⟩
def ti64 : TI := ⟨1, 8, .func, [.niln]⟩
theorem ok64 : TIok Tryd.prog 64 ti64 := ⟨⟨Tryd.t64, _, by kernel_rfl, rfl, rfl, rfl, rfl⟩, rfl, rfl, ⟨_, Tryd.underlying64, ⟨_, _, _, rfl⟩⟩⟩
def ti65 : TI := ⟨1, 8, .func, [.niln]⟩
theorem ok65 : TIok Tryd.prog 65 ti65 := ⟨⟨Tryd.t65, _, by kernel_rfl, rfl, rfl, rfl, rfl⟩, rfl, rfl, ⟨_, Tryd.underlying65, ⟨_, _, _, rfl⟩⟩⟩
def ti67 : TI := ⟨1, 8, .func, [.niln]⟩
theorem ok67 : TIok Tryd.prog 67 ti67 := ⟨⟨Tryd.t67, _, by kernel_rfl, rfl, rfl, rfl, rfl⟩, rfl, rfl, ⟨_, Tryd.underlying67, ⟨_, _, _, rfl⟩⟩⟩
def ti68 : TI := ⟨1, 8, .func, [.niln]⟩
theorem ok68 : TIok Tryd.prog 68 ti68 := ⟨⟨Tryd.t68, _, by kernel_rfl, rfl, rfl, rfl, rfl⟩, rfl, rfl, ⟨_, Tryd.underlying68, ⟨_, _, _, rfl⟩⟩⟩
def ti69 : TI := ⟨1, 8, .func, [.niln]⟩
theorem ok69 : TIok Tryd.prog 69 ti69 := ⟨⟨Tryd.t69, _, by kernel_rfl, rfl, rfl, rfl, rfl⟩, rfl, rfl, ⟨_, Tryd.underlying69, ⟨_, _, _, rfl⟩⟩⟩
def ti70 : TI := ⟨1, 8, .func, [.niln]⟩
theorem ok70 : TIok Tryd.prog 70 ti70 := ⟨⟨Tryd.t70, _, by kernel_rfl, rfl, rfl, rfl, rfl⟩, rfl, rfl, ⟨_, Tryd.underlying70, ⟨_, _, _, rfl⟩⟩⟩
def ti71 : TI := ⟨1, 8, .func, [.niln]⟩
theorem ok71 : TIok Tryd.prog 71 ti71 := ⟨⟨Tryd.t71, _, by kernel_rfl, rfl, rfl, rfl, rfl⟩, rfl, rfl, ⟨_, Tryd.underlying71, ⟨_, _, _, rfl⟩⟩⟩
def ti72 : TI := ⟨1, 8, .func, [.niln]⟩
theorem ok72 : TIok Tryd.prog 72 ti72 := ⟨⟨Tryd.t72, _, by kernel_rfl, rfl, rfl, rfl, rfl⟩, rfl, rfl, ⟨_, Tryd.underlying72, ⟨_, _, _, rfl⟩⟩⟩
def ti73 : TI := ⟨1, 8, .func, [.niln]⟩
theorem ok73 : TIok Tryd.prog 73 ti73 := ⟨⟨Tryd.t73, _, by kernel_rfl, rfl, rfl, rfl, rfl⟩, rfl, rfl, ⟨_, Tryd.underlying73, ⟨_, _, _, rfl⟩⟩⟩
def ti74 : TI := ⟨1, 8, .func, [.niln]⟩
theorem ok74 : TIok Tryd.prog 74 ti74 := ⟨⟨Tryd.t74, _, by kernel_rfl, rfl, rfl, rfl, rfl⟩, rfl, rfl, ⟨_, Tryd.underlying74, ⟨_, _, _, rfl⟩⟩⟩
def ti75 : TI := ⟨1, 8, .func, [.niln]⟩
theorem ok75 : TIok Tryd.prog 75 ti75 := ⟨⟨Tryd.t75, _, by kernel_rfl, rfl, rfl, rfl, rfl⟩, rfl, rfl, ⟨_, Tryd.underlying75, ⟨_, _, _, rfl⟩⟩⟩
def ti76 : TI := ⟨1, 8, .ptr 78, [.nilp]⟩
theorem ok76 : TIok Tryd.prog 76 ti76 := ⟨⟨Tryd.t76, _, by kernel_rfl, rfl, rfl, rfl, rfl⟩, rfl, rfl, ⟨_, Tryd.underlying76, rfl⟩⟩
def ti77 : TI := ⟨2, 32, .struct [(0, 76), (1, 49)], [.nilp, .nils]⟩
theorem ok77 : TIok Tryd.prog 77 ti77 := ⟨⟨Tryd.t77, _, by kernel_rfl, rfl, rfl, rfl, rfl⟩, rfl, rfl, ⟨_, Tryd.underlying77, ⟨_, rfl, rfl⟩⟩⟩
def ti78 : TI := ⟨2, 32, .struct [(0, 76), (1, 49)], [.nilp, .nils]⟩
theorem ok78 : TIok Tryd.prog 78 ti78 := ⟨⟨Tryd.t78, _, by kernel_rfl, rfl, rfl, rfl, rfl⟩, rfl, rfl, ⟨_, Tryd.underlying78, ⟨_, rfl, rfl⟩⟩⟩
def ti80 : TI := ⟨1, 8, .func, [.niln]⟩
theorem ok80 : TIok Tryd.prog 80 ti80 := ⟨⟨Tryd.t80, _, by kernel_rfl, rfl, rfl, rfl, rfl⟩, rfl, rfl, ⟨_, Tryd.underlying80, ⟨_, _, _, rfl⟩⟩⟩
def ti81 : TI := ⟨1, 16, .iface, [.nili]⟩
theorem ok81 : TIok Tryd.prog 81 ti81 := ⟨⟨Tryd.t81, _, by kernel_rfl, rfl, rfl, rfl, rfl⟩, rfl, rfl, ⟨_, Tryd.underlying81, ⟨_, rfl⟩⟩⟩
def ti82 : TI := ⟨1, 16, .iface, [.nili]⟩
theorem ok82 : TIok Tryd.prog 82 ti82 := ⟨⟨Tryd.t82, _, by kernel_rfl, rfl, rfl, rfl, rfl⟩, rfl, rfl, ⟨_, Tryd.underlying82, ⟨_, rfl⟩⟩⟩
def ti84 : TI := ⟨1, 8, .func, [.niln]⟩
theorem ok84 : TIok Tryd.prog 84 ti84 := ⟨⟨Tryd.t84, _, by kernel_rfl, rfl, rfl, rfl, rfl⟩, rfl, rfl, ⟨_, Tryd.underlying84, ⟨_, _, _, rfl⟩⟩⟩
def ti85 : TI := ⟨1, 8, .func, [.niln]⟩
theorem ok85 : TIok Tryd.prog 85 ti85 := ⟨⟨Tryd.t85, _, by kernel_rfl, rfl, rfl, rfl, rfl⟩, rfl, rfl, ⟨_, Tryd.underlying85, ⟨_, _, _, rfl⟩⟩⟩
def ti86 : TI := ⟨1, 8, .func, [.niln]⟩
theorem ok86 : TIok Tryd.prog 86 ti86 := ⟨⟨Tryd.t86, _, by kernel_rfl, rfl, rfl, rfl, rfl⟩, rfl, rfl, ⟨_, Tryd.underlying86, ⟨_, _, _, rfl⟩⟩⟩
def ti87 : TI := ⟨256, 256, .arr 256 4, [.bool false, .bool false, .bool false, .bool false, .bool false, .bool false, .bool false, .bool false, .bool false, .bool false, .bool false, .bool false, .bool false, .bool false, .bool false, .bool false, .bool false, .bool false, .bool false, .bool false, .bool false, .bool false, .bool false, .bool false, .bool false, .bool false, .bool false, .bool false, .bool false, .bool false, .bool false, .bool false, .bool false, .bool false, .bool false, .bool false, .bool false, .bool false, .bool false, .bool false, .bool false, .bool false, .bool false, .bool false, .bool false, .bool false, .bool false, .bool false, .bool false, .bool false, .bool false, .bool false, .bool false, .bool false, .bool false, .bool false, .bool false, .bool false, .bool false, .bool false, .bool false, .bool false, .bool false, .bool false, .bool false, .bool false, .bool false, .bool false, .bool false, .bool false, .bool false, .bool false, .bool false, .bool false, .bool false, .bool false, .bool false, .bool false, .bool false, .bool false, .bool false, .bool false, .bool false, .bool false, .bool false, .bool false, .bool false, .bool false, .bool false, .bool false, .bool false, .bool false, .bool false, .bool false, .bool false, .bool false, .bool false, .bool false, .bool false, .bool false, .bool false, .bool false, .bool false, .bool false, .bool false, .bool false, .bool false, .bool false, .bool false, .bool false, .bool false, .bool false, .bool false, .bool false, .bool false, .bool false, .bool false, .bool false, .bool false, .bool false, .bool false, .bool false, .bool false, .bool false, .bool false, .bool false, .bool false, .bool false, .bool false, .bool false, .bool false, .bool false, .bool false, .bool false, .bool false, .bool false, .bool false, .bool false, .bool false, .bool false, .bool false, .bool false, .bool false, .bool false, .bool false, .bool false, .bool false, .bool false, .bool false, .bool false, .bool false, .bool false, .bool false, .bool false, .bool false, .bool false, .bool false, .bool false, .bool false, .bool false, .bool false, .bool false, .bool false, .bool false, .bool false, .bool false, .bool false, .bool false, .bool false, .bool false, .bool false, .bool false, .bool false, .bool false, .bool false, .bool false, .bool false, .bool false, .bool false, .bool false, .bool false, .bool false, .bool false, .bool false, .bool false, .bool false, .bool false, .bool false, .bool false, .bool false, .bool false, .bool false, .bool false, .bool false, .bool false, .bool false, .bool false, .bool false, .bool false, .bool false, .bool false, .bool false, .bool false, .bool false, .bool false, .bool false, .bool false, .bool false, .bool false, .bool false, .bool false, .bool false, .bool false, .bool false, .bool false, .bool false, .bool false, .bool false, .bool false, .bool false, .bool false, .bool false, .bool false, .bool false, .bool false, .bool false, .bool false, .bool false, .bool false, .bool false, .bool false, .bool false, .bool false, .bool false, .bool false, .bool false, .bool false, .bool false, .bool false, .bool false, .bool false, .bool false, .bool false, .bool false, .bool false, .bool false, .bool false, .bool false, .bool false, .bool false, .bool false, .bool false, .bool false, .bool false, .bool false, .bool false]⟩
theorem ok87 : TIok Tryd.prog 87 ti87 := ⟨⟨Tryd.t87, _, by kernel_rfl, rfl, rfl, rfl, rfl⟩, rfl, rfl, ⟨_, Tryd.underlying87, rfl⟩⟩
def ti88 : TI := ⟨256, 256, .arr 256 4, [.bool false, .bool false, .bool false, .bool false, .bool false, .bool false, .bool false, .bool false, .bool false, .bool false, .bool false, .bool false, .bool false, .bool false, .bool false, .bool false, .bool false, .bool false, .bool false, .bool false, .bool false, .bool false, .bool false, .bool false, .bool false, .bool false, .bool false, .bool false, .bool false, .bool false, .bool false, .bool false, .bool false, .bool false, .bool false, .bool false, .bool false, .bool false, .bool false, .bool false, .bool false, .bool false, .bool false, .bool false, .bool false, .bool false, .bool false, .bool false, .bool false, .bool false, .bool false, .bool false, .bool false, .bool false, .bool false, .bool false, .bool false, .bool false, .bool false, .bool false, .bool false, .bool false, .bool false, .bool false, .bool false, .bool false, .bool false, .bool false, .bool false, .bool false, .bool false, .bool false, .bool false, .bool false, .bool false, .bool false, .bool false, .bool false, .bool false, .bool false, .bool false, .bool false, .bool false, .bool false, .bool false, .bool false, .bool false, .bool false, .bool false, .bool false, .bool false, .bool false, .bool false, .bool false, .bool false, .bool false, .bool false, .bool false, .bool false, .bool false, .bool false, .bool false, .bool false, .bool false, .bool false, .bool false, .bool false, .bool false, .bool false, .bool false, .bool false, .bool false, .bool false, .bool false, .bool false, .bool false, .bool false, .bool false, .bool false, .bool false, .bool false, .bool false, .bool false, .bool false, .bool false, .bool false, .bool false, .bool false, .bool false, .bool false, .bool false, .bool false, .bool false, .bool false, .bool false, .bool false, .bool false, .bool false, .bool false, .bool false, .bool false, .bool false, .bool false, .bool false, .bool false, .bool false, .bool false, .bool false, .bool false, .bool false, .bool false, .bool false, .bool false, .bool false, .bool false, .bool false, .bool false, .bool false, .bool false, .bool false, .bool false, .bool false, .bool false, .bool false, .bool false, .bool false, .bool false, .bool false, .bool false, .bool false, .bool false, .bool false, .bool false, .bool false, .bool false, .bool false, .bool false, .bool false, .bool false, .bool false, .bool false, .bool false, .bool false, .bool false, .bool false, .bool false, .bool false, .bool false, .bool false, .bool false, .bool false, .bool false, .bool false, .bool false, .bool false, .bool false, .bool false, .bool false, .bool false, .bool false, .bool false, .bool false, .bool false, .bool false, .bool false, .bool false, .bool false, .bool false, .bool false, .bool false, .bool false, .bool false, .bool false, .bool false, .bool false, .bool false, .bool false, .bool false, .bool false, .bool false, .bool false, .bool false, .bool false, .bool false, .bool false, .bool false, .bool false, .bool false, .bool false, .bool false, .bool false, .bool false, .bool false, .bool false, .bool false, .bool false, .bool false, .bool false, .bool false, .bool false, .bool false, .bool false, .bool false, .bool false, .bool false, .bool false, .bool false, .bool false, .bool false, .bool false, .bool false, .bool false, .bool false, .bool false, .bool false, .bool false]⟩
theorem ok88 : TIok Tryd.prog 88 ti88 := ⟨⟨Tryd.t88, _, by kernel_rfl, rfl, rfl, rfl, rfl⟩, rfl, rfl, ⟨_, Tryd.underlying88, rfl⟩⟩
def ti90 : TI := ⟨1, 8, .func, [.niln]⟩
theorem ok90 : TIok Tryd.prog 90 ti90 := ⟨⟨Tryd.t90, _, by kernel_rfl, rfl, rfl, rfl, rfl⟩, rfl, rfl, ⟨_, Tryd.underlying90, ⟨_, _, _, rfl⟩⟩⟩
def ti91 : TI := ⟨1, 8, .func, [.niln]⟩
theorem ok91 : TIok Tryd.prog 91 ti91 := ⟨⟨Tryd.t91, _, by kernel_rfl, rfl, rfl, rfl, rfl⟩, rfl, rfl, ⟨_, Tryd.underlying91, ⟨_, _, _, rfl⟩⟩⟩
def ti92 : TI := ⟨1, 8, .ptr 88, [.nilp]⟩
theorem ok92 : TIok Tryd.prog 92 ti92 := ⟨⟨Tryd.t92, _, by kernel_rfl, rfl, rfl, rfl, rfl⟩, rfl, rfl, ⟨_, Tryd.underlying92, rfl⟩⟩
def ti93 : TI := ⟨1, 8, .ptr 5, [.nilp]⟩
theorem ok93 : TIok Tryd.prog 93 ti93 := ⟨⟨Tryd.t93, _, by kernel_rfl, rfl, rfl, rfl, rfl⟩, rfl, rfl, ⟨_, Tryd.underlying93, rfl⟩⟩
def ti94 : TI := ⟨1, 8, .func, [.niln]⟩
theorem ok94 : TIok Tryd.prog 94 ti94 := ⟨⟨Tryd.t94, _, by kernel_rfl, rfl, rfl, rfl, rfl⟩, rfl, rfl, ⟨_, Tryd.underlying94, ⟨_, _, _, rfl⟩⟩⟩
def ti95 : TI := ⟨1, 8, .func, [.niln]⟩
theorem ok95 : TIok Tryd.prog 95 ti95 := ⟨⟨Tryd.t95, _, by kernel_rfl, rfl, rfl, rfl, rfl⟩, rfl, rfl, ⟨_, Tryd.underlying95, ⟨_, _, _, rfl⟩⟩⟩
def ti97 : TI := ⟨1, 8, .func, [.niln]⟩
theorem ok97 : TIok Tryd.prog 97 ti97 := ⟨⟨Tryd.t97, _, by kernel_rfl, rfl, rfl, rfl, rfl⟩, rfl, rfl, ⟨_, Tryd.underlying97, ⟨_, _, _, rfl⟩⟩⟩
def ti98 : TI := ⟨1, 8, .func, [.niln]⟩
theorem ok98 : TIok Tryd.prog 98 ti98 := ⟨⟨Tryd.t98, _, by kernel_rfl, rfl, rfl, rfl, rfl⟩, rfl, rfl, ⟨_, Tryd.underlying98, ⟨_, _, _, rfl⟩⟩⟩
def ti99 : TI := ⟨1, 8, .other, [.nilp]⟩
theorem ok99 : TIok Tryd.prog 99 ti99 := ⟨⟨Tryd.t99, _, by kernel_rfl, rfl, rfl, rfl, rfl⟩, rfl, rfl, ⟨_, Tryd.underlying99, ⟨rfl, fun _ => nofun⟩⟩⟩
def ti100 : TI := ⟨1, 8, .func, [.niln]⟩
theorem ok100 : TIok Tryd.prog 100 ti100 := ⟨⟨Tryd.t100, _, by kernel_rfl, rfl, rfl, rfl, rfl⟩, rfl, rfl, ⟨_, Tryd.underlying100, ⟨_, _, _, rfl⟩⟩⟩
def ti102 : TI := ⟨1, 8, .func, [.niln]⟩
theorem ok102 : TIok Tryd.prog 102 ti102 := ⟨⟨Tryd.t102, _, by kernel_rfl, rfl, rfl, rfl, rfl⟩, rfl, rfl, ⟨_, Tryd.underlying102, ⟨_, _, _, rfl⟩⟩⟩
def ti103 : TI := ⟨1, 8, .func, [.niln]⟩
theorem ok103 : TIok Tryd.prog 103 ti103 := ⟨⟨Tryd.t103, _, by kernel_rfl, rfl, rfl, rfl, rfl⟩, rfl, rfl, ⟨_, Tryd.underlying103, ⟨_, _, _, rfl⟩⟩⟩
def ti104 : TI := ⟨1, 8, .func, [.niln]⟩
theorem ok104 : TIok Tryd.prog 104 ti104 := ⟨⟨Tryd.t104, _, by kernel_rfl, rfl, rfl, rfl, rfl⟩, rfl, rfl, ⟨_, Tryd.underlying104, ⟨_, _, _, rfl⟩⟩⟩
def ti105 : TI := ⟨1, 8, .func, [.niln]⟩
theorem ok105 : TIok Tryd.prog 105 ti105 := ⟨⟨Tryd.t105, _, by kernel_rfl, rfl, rfl, rfl, rfl⟩, rfl, rfl, ⟨_, Tryd.underlying105, ⟨_, _, _, rfl⟩⟩⟩
def ti106 : TI := ⟨1, 4, .int .u32, [.int .u32 0]⟩
theorem ok106 : TIok Tryd.prog 106 ti106 := ⟨⟨Tryd.t106, _, by kernel_rfl, rfl, rfl, rfl, rfl⟩, rfl, rfl, ⟨_, Tryd.underlying106, rfl⟩⟩
def ti108 : TI := ⟨1, 8, .func, [.niln]⟩
theorem ok108 : TIok Tryd.prog 108 ti108 := ⟨⟨Tryd.t108, _, by kernel_rfl, rfl, rfl, rfl, rfl⟩, rfl, rfl, ⟨_, Tryd.underlying108, ⟨_, _, _, rfl⟩⟩⟩
def ti109 : TI := ⟨1, 8, .int .i64, [.int .i64 0]⟩
theorem ok109 : TIok Tryd.prog 109 ti109 := ⟨⟨Tryd.t109, _, by kernel_rfl, rfl, rfl, rfl, rfl⟩, rfl, rfl, ⟨_, Tryd.underlying109, rfl⟩⟩
def ti110 : TI := ⟨1, 8, .func, [.niln]⟩
theorem ok110 : TIok Tryd.prog 110 ti110 := ⟨⟨Tryd.t110, _, by kernel_rfl, rfl, rfl, rfl, rfl⟩, rfl, rfl, ⟨_, Tryd.underlying110, ⟨_, _, _, rfl⟩⟩⟩
def ti111 : TI := ⟨1, 8, .ptr 115, [.nilp]⟩
theorem ok111 : TIok Tryd.prog 111 ti111 := ⟨⟨Tryd.t111, _, by kernel_rfl, rfl, rfl, rfl, rfl⟩, rfl, rfl, ⟨_, Tryd.underlying111, rfl⟩⟩
def ti112 : TI := ⟨1, 8, .func, [.niln]⟩
theorem ok112 : TIok Tryd.prog 112 ti112 := ⟨⟨Tryd.t112, _, by kernel_rfl, rfl, rfl, rfl, rfl⟩, rfl, rfl, ⟨_, Tryd.underlying112, ⟨_, _, _, rfl⟩⟩⟩
def ti113 : TI := ⟨1, 8, .func, [.niln]⟩
theorem ok113 : TIok Tryd.prog 113 ti113 := ⟨⟨Tryd.t113, _, by kernel_rfl, rfl, rfl, rfl, rfl⟩, rfl, rfl, ⟨_, Tryd.underlying113, ⟨_, _, _, rfl⟩⟩⟩
def ti114 : TI := ⟨3, 48, .struct [(0, 9), (1, 9), (2, 82)], [.str [], .str [], .nili]⟩
theorem ok114 : TIok Tryd.prog 114 ti114 := ⟨⟨Tryd.t114, _, by kernel_rfl, rfl, rfl, rfl, rfl⟩, rfl, rfl, ⟨_, Tryd.underlying114, ⟨_, rfl, rfl⟩⟩⟩
def ti115 : TI := ⟨3, 48, .struct [(0, 9), (1, 9), (2, 82)], [.str [], .str [], .nili]⟩
theorem ok115 : TIok Tryd.prog 115 ti115 := ⟨⟨Tryd.t115, _, by kernel_rfl, rfl, rfl, rfl, rfl⟩, rfl, rfl, ⟨_, Tryd.underlying115, ⟨_, rfl, rfl⟩⟩⟩
def ti116 : TI := ⟨1, 8, .func, [.niln]⟩
theorem ok116 : TIok Tryd.prog 116 ti116 := ⟨⟨Tryd.t116, _, by kernel_rfl, rfl, rfl, rfl, rfl⟩, rfl, rfl, ⟨_, Tryd.underlying116, ⟨_, _, _, rfl⟩⟩⟩
def ti117 : TI := ⟨1, 8, .func, [.niln]⟩
theorem ok117 : TIok Tryd.prog 117 ti117 := ⟨⟨Tryd.t117, _, by kernel_rfl, rfl, rfl, rfl, rfl⟩, rfl, rfl, ⟨_, Tryd.underlying117, ⟨_, _, _, rfl⟩⟩⟩
def ti118 : TI := ⟨1, 8, .ptr 120, [.nilp]⟩
theorem ok118 : TIok Tryd.prog 118 ti118 := ⟨⟨Tryd.t118, _, by kernel_rfl, rfl, rfl, rfl, rfl⟩, rfl, rfl, ⟨_, Tryd.underlying118, rfl⟩⟩
def ti119 : TI := ⟨1, 16, .struct [(0, 9)], [.str []]⟩
theorem ok119 : TIok Tryd.prog 119 ti119 := ⟨⟨Tryd.t119, _, by kernel_rfl, rfl, rfl, rfl, rfl⟩, rfl, rfl, ⟨_, Tryd.underlying119, ⟨_, rfl, rfl⟩⟩⟩
def ti120 : TI := ⟨1, 16, .struct [(0, 9)], [.str []]⟩
theorem ok120 : TIok Tryd.prog 120 ti120 := ⟨⟨Tryd.t120, _, by kernel_rfl, rfl, rfl, rfl, rfl⟩, rfl, rfl, ⟨_, Tryd.underlying120, ⟨_, rfl, rfl⟩⟩⟩
def ti121 : TI := ⟨1, 8, .func, [.niln]⟩
theorem ok121 : TIok Tryd.prog 121 ti121 := ⟨⟨Tryd.t121, _, by kernel_rfl, rfl, rfl, rfl, rfl⟩, rfl, rfl, ⟨_, Tryd.underlying121, ⟨_, _, _, rfl⟩⟩⟩
def ti122 : TI := ⟨24, 24, .arr 24 5, [.int .u8 0, .int .u8 0, .int .u8 0, .int .u8 0, .int .u8 0, .int .u8 0, .int .u8 0, .int .u8 0, .int .u8 0, .int .u8 0, .int .u8 0, .int .u8 0, .int .u8 0, .int .u8 0, .int .u8 0, .int .u8 0, .int .u8 0, .int .u8 0, .int .u8 0, .int .u8 0, .int .u8 0, .int .u8 0, .int .u8 0, .int .u8 0]⟩
theorem ok122 : TIok Tryd.prog 122 ti122 := ⟨⟨Tryd.t122, _, by kernel_rfl, rfl, rfl, rfl, rfl⟩, rfl, rfl, ⟨_, Tryd.underlying122, rfl⟩⟩
def ti123 : TI := ⟨1, 8, .func, [.niln]⟩
theorem ok123 : TIok Tryd.prog 123 ti123 := ⟨⟨Tryd.t123, _, by kernel_rfl, rfl, rfl, rfl, rfl⟩, rfl, rfl, ⟨_, Tryd.underlying123, ⟨_, _, _, rfl⟩⟩⟩
def ti124 : TI := ⟨1, 8, .func, [.niln]⟩
theorem ok124 : TIok Tryd.prog 124 ti124 := ⟨⟨Tryd.t124, _, by kernel_rfl, rfl, rfl, rfl, rfl⟩, rfl, rfl, ⟨_, Tryd.underlying124, ⟨_, _, _, rfl⟩⟩⟩
def ti126 : TI := ⟨1, 8, .func, [.niln]⟩
theorem ok126 : TIok Tryd.prog 126 ti126 := ⟨⟨Tryd.t126, _, by kernel_rfl, rfl, rfl, rfl, rfl⟩, rfl, rfl, ⟨_, Tryd.underlying126, ⟨_, _, _, rfl⟩⟩⟩
def ti127 : TI := ⟨1, 8, .func, [.niln]⟩
theorem ok127 : TIok Tryd.prog 127 ti127 := ⟨⟨Tryd.t127, _, by kernel_rfl, rfl, rfl, rfl, rfl⟩, rfl, rfl, ⟨_, Tryd.underlying127, ⟨_, _, _, rfl⟩⟩⟩
def ti128 : TI := ⟨20, 160, .arr 20 36, [.int .u64 0, .int .u64 0, .int .u64 0, .int .u64 0, .int .u64 0, .int .u64 0, .int .u64 0, .int .u64 0, .int .u64 0, .int .u64 0, .int .u64 0, .int .u64 0, .int .u64 0, .int .u64 0, .int .u64 0, .int .u64 0, .int .u64 0, .int .u64 0, .int .u64 0, .int .u64 0]⟩
theorem ok128 : TIok Tryd.prog 128 ti128 := ⟨⟨Tryd.t128, _, by kernel_rfl, rfl, rfl, rfl, rfl⟩, rfl, rfl, ⟨_, Tryd.underlying128, rfl⟩⟩
def ti129 : TI := ⟨65, 65, .arr 65 5, [.int .u8 0, .int .u8 0, .int .u8 0, .int .u8 0, .int .u8 0, .int .u8 0, .int .u8 0, .int .u8 0, .int .u8 0, .int .u8 0, .int .u8 0, .int .u8 0, .int .u8 0, .int .u8 0, .int .u8 0, .int .u8 0, .int .u8 0, .int .u8 0, .int .u8 0, .int .u8 0, .int .u8 0, .int .u8 0, .int .u8 0, .int .u8 0, .int .u8 0, .int .u8 0, .int .u8 0, .int .u8 0, .int .u8 0, .int .u8 0, .int .u8 0, .int .u8 0, .int .u8 0, .int .u8 0, .int .u8 0, .int .u8 0, .int .u8 0, .int .u8 0, .int .u8 0, .int .u8 0, .int .u8 0, .int .u8 0, .int .u8 0, .int .u8 0, .int .u8 0, .int .u8 0, .int .u8 0, .int .u8 0, .int .u8 0, .int .u8 0, .int .u8 0, .int .u8 0, .int .u8 0, .int .u8 0, .int .u8 0, .int .u8 0, .int .u8 0, .int .u8 0, .int .u8 0, .int .u8 0, .int .u8 0, .int .u8 0, .int .u8 0, .int .u8 0, .int .u8 0]⟩
theorem ok129 : TIok Tryd.prog 129 ti129 := ⟨⟨Tryd.t129, _, by kernel_rfl, rfl, rfl, rfl, rfl⟩, rfl, rfl, ⟨_, Tryd.underlying129, rfl⟩⟩
def ti130 : TI := ⟨1, 8, .func, [.niln]⟩
theorem ok130 : TIok Tryd.prog 130 ti130 := ⟨⟨Tryd.t130, _, by kernel_rfl, rfl, rfl, rfl, rfl⟩, rfl, rfl, ⟨_, Tryd.underlying130, ⟨_, _, _, rfl⟩⟩⟩
def ti131 : TI := ⟨1, 8, .func, [.niln]⟩
theorem ok131 : TIok Tryd.prog 131 ti131 := ⟨⟨Tryd.t131, _, by kernel_rfl, rfl, rfl, rfl, rfl⟩, rfl, rfl, ⟨_, Tryd.underlying131, ⟨_, _, _, rfl⟩⟩⟩
def ti132 : TI := ⟨32, 32, .arr 32 5, [.int .u8 0, .int .u8 0, .int .u8 0, .int .u8 0, .int .u8 0, .int .u8 0, .int .u8 0, .int .u8 0, .int .u8 0, .int .u8 0, .int .u8 0, .int .u8 0, .int .u8 0, .int .u8 0, .int .u8 0, .int .u8 0, .int .u8 0, .int .u8 0, .int .u8 0, .int .u8 0, .int .u8 0, .int .u8 0, .int .u8 0, .int .u8 0, .int .u8 0, .int .u8 0, .int .u8 0, .int .u8 0, .int .u8 0, .int .u8 0, .int .u8 0, .int .u8 0]⟩
theorem ok132 : TIok Tryd.prog 132 ti132 := ⟨⟨Tryd.t132, _, by kernel_rfl, rfl, rfl, rfl, rfl⟩, rfl, rfl, ⟨_, Tryd.underlying132, rfl⟩⟩
def ti133 : TI := ⟨64, 64, .arr 64 5, [.int .u8 0, .int .u8 0, .int .u8 0, .int .u8 0, .int .u8 0, .int .u8 0, .int .u8 0, .int .u8 0, .int .u8 0, .int .u8 0, .int .u8 0, .int .u8 0, .int .u8 0, .int .u8 0, .int .u8 0, .int .u8 0, .int .u8 0, .int .u8 0, .int .u8 0, .int .u8 0, .int .u8 0, .int .u8 0, .int .u8 0, .int .u8 0, .int .u8 0, .int .u8 0, .int .u8 0, .int .u8 0, .int .u8 0, .int .u8 0, .int .u8 0, .int .u8 0, .int .u8 0, .int .u8 0, .int .u8 0, .int .u8 0, .int .u8 0, .int .u8 0, .int .u8 0, .int .u8 0, .int .u8 0, .int .u8 0, .int .u8 0, .int .u8 0, .int .u8 0, .int .u8 0, .int .u8 0, .int .u8 0, .int .u8 0, .int .u8 0, .int .u8 0, .int .u8 0, .int .u8 0, .int .u8 0, .int .u8 0, .int .u8 0, .int .u8 0, .int .u8 0, .int .u8 0, .int .u8 0, .int .u8 0, .int .u8 0, .int .u8 0, .int .u8 0]⟩
theorem ok133 : TIok Tryd.prog 133 ti133 := ⟨⟨Tryd.t133, _, by kernel_rfl, rfl, rfl, rfl, rfl⟩, rfl, rfl, ⟨_, Tryd.underlying133, rfl⟩⟩
def ti134 : TI := ⟨4, 40, .struct [(0, 17), (1, 17), (2, 17), (3, 9)], [.nilp, .nilp, .nilp, .str []]⟩
theorem ok134 : TIok Tryd.prog 134 ti134 := ⟨⟨Tryd.t134, _, by kernel_rfl, rfl, rfl, rfl, rfl⟩, rfl, rfl, ⟨_, Tryd.underlying134, ⟨_, rfl, rfl⟩⟩⟩
def ti135 : TI := ⟨4, 40, .struct [(0, 17), (1, 17), (2, 17), (3, 9)], [.nilp, .nilp, .nilp, .str []]⟩
theorem ok135 : TIok Tryd.prog 135 ti135 := ⟨⟨Tryd.t135, _, by kernel_rfl, rfl, rfl, rfl, rfl⟩, rfl, rfl, ⟨_, Tryd.underlying135, ⟨_, rfl, rfl⟩⟩⟩
def ti136 : TI := ⟨0, 0, .arr 0 16, []⟩
theorem ok136 : TIok Tryd.prog 136 ti136 := ⟨⟨Tryd.t136, _, by kernel_rfl, rfl, rfl, rfl, rfl⟩, rfl, rfl, ⟨_, Tryd.underlying136, rfl⟩⟩
def ti137 : TI := ⟨0, 0, .struct [(0, 136)], []⟩
theorem ok137 : TIok Tryd.prog 137 ti137 := ⟨⟨Tryd.t137, _, by kernel_rfl, rfl, rfl, rfl, rfl⟩, rfl, rfl, ⟨_, Tryd.underlying137, ⟨_, rfl, rfl⟩⟩⟩
def ti138 : TI := ⟨0, 0, .struct [(0, 136)], []⟩
theorem ok138 : TIok Tryd.prog 138 ti138 := ⟨⟨Tryd.t138, _, by kernel_rfl, rfl, rfl, rfl, rfl⟩, rfl, rfl, ⟨_, Tryd.underlying138, ⟨_, rfl, rfl⟩⟩⟩
def ti139 : TI := ⟨1, 8, .func, [.niln]⟩
theorem ok139 : TIok Tryd.prog 139 ti139 := ⟨⟨Tryd.t139, _, by kernel_rfl, rfl, rfl, rfl, rfl⟩, rfl, rfl, ⟨_, Tryd.underlying139, ⟨_, _, _, rfl⟩⟩⟩
def ti140 : TI := ⟨1, 1, .int .u8, [.int .u8 0]⟩
theorem ok140 : TIok Tryd.prog 140 ti140 := ⟨⟨Tryd.t140, _, by kernel_rfl, rfl, rfl, rfl, rfl⟩, rfl, rfl, ⟨_, Tryd.underlying140, rfl⟩⟩
def ti141 : TI := ⟨1, 1, .int .u8, [.int .u8 0]⟩
theorem ok141 : TIok Tryd.prog 141 ti141 := ⟨⟨Tryd.t141, _, by kernel_rfl, rfl, rfl, rfl, rfl⟩, rfl, rfl, ⟨_, Tryd.underlying141, rfl⟩⟩
def ti142 : TI := ⟨1, 8, .func, [.niln]⟩
theorem ok142 : TIok Tryd.prog 142 ti142 := ⟨⟨Tryd.t142, _, by kernel_rfl, rfl, rfl, rfl, rfl⟩, rfl, rfl, ⟨_, Tryd.underlying142, ⟨_, _, _, rfl⟩⟩⟩
def ti143 : TI := ⟨1, 4, .int .i32, [.int .i32 0]⟩
theorem ok143 : TIok Tryd.prog 143 ti143 := ⟨⟨Tryd.t143, _, by kernel_rfl, rfl, rfl, rfl, rfl⟩, rfl, rfl, ⟨_, Tryd.underlying143, rfl⟩⟩
def ti144 : TI := ⟨1, 4, .int .i32, [.int .i32 0]⟩
theorem ok144 : TIok Tryd.prog 144 ti144 := ⟨⟨Tryd.t144, _, by kernel_rfl, rfl, rfl, rfl, rfl⟩, rfl, rfl, ⟨_, Tryd.underlying144, rfl⟩⟩
def ti145 : TI := ⟨11, 48, .struct [(0, 12), (1, 12), (2, 106), (3, 140), (4, 5), (5, 5), (6, 141), (7, 142), (8, 93), (9, 143), (10, 144)], [.int .u64 0, .int .u64 0, .int .u32 0, .int .u8 0, .int .u8 0, .int .u8 0, .int .u8 0, .niln, .nilp, .int .i32 0, .int .i32 0]⟩
theorem ok145 : TIok Tryd.prog 145 ti145 := ⟨⟨Tryd.t145, _, by kernel_rfl, rfl, rfl, rfl, rfl⟩, rfl, rfl, ⟨_, Tryd.underlying145, ⟨_, rfl, rfl⟩⟩⟩
def ti146 : TI := ⟨11, 48, .struct [(0, 12), (1, 12), (2, 106), (3, 140), (4, 5), (5, 5), (6, 141), (7, 142), (8, 93), (9, 143), (10, 144)], [.int .u64 0, .int .u64 0, .int .u32 0, .int .u8 0, .int .u8 0, .int .u8 0, .int .u8 0, .niln, .nilp, .int .i32 0, .int .i32 0]⟩
theorem ok146 : TIok Tryd.prog 146 ti146 := ⟨⟨Tryd.t146, _, by kernel_rfl, rfl, rfl, rfl, rfl⟩, rfl, rfl, ⟨_, Tryd.underlying146, ⟨_, rfl, rfl⟩⟩⟩
def ttl : List (Nat × TI) := [(1, ti1), (2, ti2), (3, ti3), (4, ti4), (5, ti5), (6, ti6), (7, ti7), (8, ti8), (9, ti9), (10, ti10), (11, ti11), (12, ti12), (13, ti13), (14, ti14), (15, ti15), (16, ti16), (17, ti17), (18, ti18), (19, ti19), (20, ti20), (21, ti21), (22, ti22), (23, ti23), (24, ti24), (25, ti25), (27, ti27), (28, ti28), (29, ti29), (30, ti30), (31, ti31), (32, ti32), (33, ti33), (34, ti34), (35, ti35), (36, ti36), (37, ti37), (38, ti38), (39, ti39), (40, ti40), (41, ti41), (42, ti42), (43, ti43), (44, ti44), (45, ti45), (47, ti47), (48, ti48), (49, ti49), (50, ti50), (52, ti52), (53, ti53), (54, ti54), (56, ti56), (57, ti57), (58, ti58), (59, ti59), (60, ti60), (61, ti61), (62, ti62), (63, ti63), (64, ti64), (65, ti65), (67, ti67), (68, ti68), (69, ti69), (70, ti70), (71, ti71), (72, ti72), (73, ti73), (74, ti74), (75, ti75), (76, ti76), (77, ti77), (78, ti78), (80, ti80), (81, ti81), (82, ti82), (84, ti84), (85, ti85), (86, ti86), (87, ti87), (88, ti88), (90, ti90), (91, ti91), (92, ti92), (93, ti93), (94, ti94), (95, ti95), (97, ti97), (98, ti98), (99, ti99), (100, ti100), (102, ti102), (103, ti103), (104, ti104), (105, ti105), (106, ti106), (108, ti108), (109, ti109), (110, ti110), (111, ti111), (112, ti112), (113, ti113), (114, ti114), (115, ti115), (116, ti116), (117, ti117), (118, ti118), (119, ti119), (120, ti120), (121, ti121), (122, ti122), (123, ti123), (124, ti124), (126, ti126), (127, ti127), (128, ti128), (129, ti129), (130, ti130), (131, ti131), (132, ti132), (133, ti133), (134, ti134), (135, ti135), (136, ti136), (137, ti137), (138, ti138), (139, ti139), (140, ti140), (141, ti141), (142, ti142), (143, ti143), (144, ti144), (145, ti145), (146, ti146)]
def tt : TT := fun t => lookT t ttl
theorem tok : TOK Tryd.prog tt := tok_of_all ⟨ok1, ok2, ok3, ok4, ok5, ok6, ok7, ok8, ok9, ok10, ok11, ok12, ok13, ok14, ok15, ok16, ok17, ok18, ok19, ok20, ok21, ok22, ok23, ok24, ok25, ok27, ok28, ok29, ok30, ok31, ok32, ok33, ok34, ok35, ok36, ok37, ok38, ok39, ok40, ok41, ok42, ok43, ok44, ok45, ok47, ok48, ok49, ok50, ok52, ok53, ok54, ok56, ok57, ok58, ok59, ok60, ok61, ok62, ok63, ok64, ok65, ok67, ok68, ok69, ok70, ok71, ok72, ok73, ok74, ok75, ok76, ok77, ok78, ok80, ok81, ok82, ok84, ok85, ok86, ok87, ok88, ok90, ok91, ok92, ok93, ok94, ok95, ok97, ok98, ok99, ok100, ok102, ok103, ok104, ok105, ok106, ok108, ok109, ok110, ok111, ok112, ok113, ok114, ok115, ok116, ok117, ok118, ok119, ok120, ok121, ok122, ok123, ok124, ok126, ok127, ok128, ok129, ok130, ok131, ok132, ok133, ok134, ok135, ok136, ok137, ok138, ok139, ok140, ok141, ok142, ok143, ok144, ok145, ok146, trivial⟩
theorem tt1 : tt 1 = some ti1 := rfl
theorem kd1 : kdOf tt 1 = some (.func) := rfl
theorem sz1 : szOf tt 1 = some 1 := rfl
theorem tt2 : tt 2 = some ti2 := rfl
theorem kd2 : kdOf tt 2 = some (.int .i64) := rfl
theorem sz2 : szOf tt 2 = some 1 := rfl
theorem tt3 : tt 3 = some ti3 := rfl
theorem kd3 : kdOf tt 3 = some (.int .i64) := rfl
theorem sz3 : szOf tt 3 = some 1 := rfl
theorem tt4 : tt 4 = some ti4 := rfl
theorem kd4 : kdOf tt 4 = some (.bool) := rfl
theorem sz4 : szOf tt 4 = some 1 := rfl
theorem tt5 : tt 5 = some ti5 := rfl
theorem kd5 : kdOf tt 5 = some (.int .u8) := rfl
theorem sz5 : szOf tt 5 = some 1 := rfl
theorem tt6 : tt 6 = some ti6 := rfl
theorem kd6 : kdOf tt 6 = some (.int .u8) := rfl
theorem sz6 : szOf tt 6 = some 1 := rfl
theorem tt7 : tt 7 = some ti7 := rfl
theorem kd7 : kdOf tt 7 = some (.struct [(0, 2), (1, 3), (2, 4), (3, 6)]) := rfl
theorem sz7 : szOf tt 7 = some 4 := rfl
theorem tt8 : tt 8 = some ti8 := rfl
theorem kd8 : kdOf tt 8 = some (.struct [(0, 2), (1, 3), (2, 4), (3, 6)]) := rfl
theorem sz8 : szOf tt 8 = some 4 := rfl
theorem tt9 : tt 9 = some ti9 := rfl
theorem kd9 : kdOf tt 9 = some (.str) := rfl
theorem sz9 : szOf tt 9 = some 1 := rfl
theorem tt10 : tt 10 = some ti10 := rfl
theorem kd10 : kdOf tt 10 = some (.str) := rfl
theorem sz10 : szOf tt 10 = some 1 := rfl
theorem tt11 : tt 11 = some ti11 := rfl
theorem kd11 : kdOf tt 11 = some (.str) := rfl
theorem sz11 : szOf tt 11 = some 1 := rfl
theorem tt12 : tt 12 = some ti12 := rfl
theorem kd12 : kdOf tt 12 = some (.int .u64) := rfl
theorem sz12 : szOf tt 12 = some 1 := rfl
theorem tt13 : tt 13 = some ti13 := rfl
theorem kd13 : kdOf tt 13 = some (.struct [(0, 9), (1, 12)]) := rfl
theorem sz13 : szOf tt 13 = some 2 := rfl
theorem tt14 : tt 14 = some ti14 := rfl
theorem kd14 : kdOf tt 14 = some (.struct [(0, 9), (1, 12)]) := rfl
theorem sz14 : szOf tt 14 = some 2 := rfl
theorem tt15 : tt 15 = some ti15 := rfl
theorem kd15 : kdOf tt 15 = some (.ptr 135) := rfl
theorem sz15 : szOf tt 15 = some 1 := rfl
theorem tt16 : tt 16 = some ti16 := rfl
theorem kd16 : kdOf tt 16 = some (.ptr 138) := rfl
theorem sz16 : szOf tt 16 = some 1 := rfl
theorem tt17 : tt 17 = some ti17 := rfl
theorem kd17 : kdOf tt 17 = some (.ptr 146) := rfl
theorem sz17 : szOf tt 17 = some 1 := rfl
theorem tt18 : tt 18 = some ti18 := rfl
theorem kd18 : kdOf tt 18 = some (.struct [(0, 17)]) := rfl
theorem sz18 : szOf tt 18 = some 1 := rfl
theorem tt19 : tt 19 = some ti19 := rfl
theorem kd19 : kdOf tt 19 = some (.struct [(0, 17)]) := rfl
theorem sz19 : szOf tt 19 = some 1 := rfl
theorem tt20 : tt 20 = some ti20 := rfl
theorem kd20 : kdOf tt 20 = some (.iface) := rfl
theorem sz20 : szOf tt 20 = some 1 := rfl
theorem tt21 : tt 21 = some ti21 := rfl
theorem kd21 : kdOf tt 21 = some (.int .i32) := rfl
theorem sz21 : szOf tt 21 = some 1 := rfl
theorem tt22 : tt 22 = some ti22 := rfl
theorem kd22 : kdOf tt 22 = some (.func) := rfl
theorem sz22 : szOf tt 22 = some 1 := rfl
theorem tt23 : tt 23 = some ti23 := rfl
theorem kd23 : kdOf tt 23 = some (.func) := rfl
theorem sz23 : szOf tt 23 = some 1 := rfl
theorem tt24 : tt 24 = some ti24 := rfl
theorem kd24 : kdOf tt 24 = some (.slice 31) := rfl
theorem sz24 : szOf tt 24 = some 1 := rfl
theorem tt25 : tt 25 = some ti25 := rfl
theorem kd25 : kdOf tt 25 = some (.int .i64) := rfl
theorem sz25 : szOf tt 25 = some 1 := rfl
theorem tt27 : tt 27 = some ti27 := rfl
theorem kd27 : kdOf tt 27 = some (.func) := rfl
theorem sz27 : szOf tt 27 = some 1 := rfl
theorem tt28 : tt 28 = some ti28 := rfl
theorem kd28 : kdOf tt 28 = some (.func) := rfl
theorem sz28 : szOf tt 28 = some 1 := rfl
theorem tt29 : tt 29 = some ti29 := rfl
theorem kd29 : kdOf tt 29 = some (.slice 33) := rfl
theorem sz29 : szOf tt 29 = some 1 := rfl
theorem tt30 : tt 30 = some ti30 := rfl
theorem kd30 : kdOf tt 30 = some (.struct [(0, 3), (1, 9), (2, 9), (3, 29), (4, 4)]) := rfl
theorem sz30 : szOf tt 30 = some 5 := rfl
theorem tt31 : tt 31 = some ti31 := rfl
theorem kd31 : kdOf tt 31 = some (.struct [(0, 3), (1, 9), (2, 9), (3, 29), (4, 4)]) := rfl
theorem sz31 : szOf tt 31 = some 5 := rfl
theorem tt32 : tt 32 = some ti32 := rfl
theorem kd32 : kdOf tt 32 = some (.struct [(0, 9), (1, 9)]) := rfl
theorem sz32 : szOf tt 32 = some 2 := rfl
theorem tt33 : tt 33 = some ti33 := rfl
theorem kd33 : kdOf tt 33 = some (.struct [(0, 9), (1, 9)]) := rfl
theorem sz33 : szOf tt 33 = some 2 := rfl
theorem tt34 : tt 34 = some ti34 := rfl
theorem kd34 : kdOf tt 34 = some (.int .u64) := rfl
theorem sz34 : szOf tt 34 = some 1 := rfl
theorem tt35 : tt 35 = some ti35 := rfl
theorem kd35 : kdOf tt 35 = some (.func) := rfl
theorem sz35 : szOf tt 35 = some 1 := rfl
theorem tt36 : tt 36 = some ti36 := rfl
theorem kd36 : kdOf tt 36 = some (.int .u64) := rfl
theorem sz36 : szOf tt 36 = some 1 := rfl
theorem tt37 : tt 37 = some ti37 := rfl
theorem kd37 : kdOf tt 37 = some (.func) := rfl
theorem sz37 : szOf tt 37 = some 1 := rfl
theorem tt38 : tt 38 = some ti38 := rfl
theorem kd38 : kdOf tt 38 = some (.func) := rfl
theorem sz38 : szOf tt 38 = some 1 := rfl
theorem tt39 : tt 39 = some ti39 := rfl
theorem kd39 : kdOf tt 39 = some (.func) := rfl
theorem sz39 : szOf tt 39 = some 1 := rfl
theorem tt40 : tt 40 = some ti40 := rfl
theorem kd40 : kdOf tt 40 = some (.slice 9) := rfl
theorem sz40 : szOf tt 40 = some 1 := rfl
theorem tt41 : tt 41 = some ti41 := rfl
theorem kd41 : kdOf tt 41 = some (.func) := rfl
theorem sz41 : szOf tt 41 = some 1 := rfl
theorem tt42 : tt 42 = some ti42 := rfl
theorem kd42 : kdOf tt 42 = some (.func) := rfl
theorem sz42 : szOf tt 42 = some 1 := rfl
theorem tt43 : tt 43 = some ti43 := rfl
theorem kd43 : kdOf tt 43 = some (.ptr 45) := rfl
theorem sz43 : szOf tt 43 = some 1 := rfl
theorem tt44 : tt 44 = some ti44 := rfl
theorem kd44 : kdOf tt 44 = some (.struct [(0, 9)]) := rfl
theorem sz44 : szOf tt 44 = some 1 := rfl
theorem tt45 : tt 45 = some ti45 := rfl
theorem kd45 : kdOf tt 45 = some (.struct [(0, 9)]) := rfl
theorem sz45 : szOf tt 45 = some 1 := rfl
theorem tt47 : tt 47 = some ti47 := rfl
theorem kd47 : kdOf tt 47 = some (.func) := rfl
theorem sz47 : szOf tt 47 = some 1 := rfl
theorem tt48 : tt 48 = some ti48 := rfl
theorem kd48 : kdOf tt 48 = some (.func) := rfl
theorem sz48 : szOf tt 48 = some 1 := rfl
theorem tt49 : tt 49 = some ti49 := rfl
theorem kd49 : kdOf tt 49 = some (.slice 5) := rfl
theorem sz49 : szOf tt 49 = some 1 := rfl
theorem tt50 : tt 50 = some ti50 := rfl
theorem kd50 : kdOf tt 50 = some (.func) := rfl
theorem sz50 : szOf tt 50 = some 1 := rfl
theorem tt52 : tt 52 = some ti52 := rfl
theorem kd52 : kdOf tt 52 = some (.func) := rfl
theorem sz52 : szOf tt 52 = some 1 := rfl
theorem tt53 : tt 53 = some ti53 := rfl
theorem kd53 : kdOf tt 53 = some (.func) := rfl
theorem sz53 : szOf tt 53 = some 1 := rfl
theorem tt54 : tt 54 = some ti54 := rfl
theorem kd54 : kdOf tt 54 = some (.func) := rfl
theorem sz54 : szOf tt 54 = some 1 := rfl
theorem tt56 : tt 56 = some ti56 := rfl
theorem kd56 : kdOf tt 56 = some (.func) := rfl
theorem sz56 : szOf tt 56 = some 1 := rfl
theorem tt57 : tt 57 = some ti57 := rfl
theorem kd57 : kdOf tt 57 = some (.func) := rfl
theorem sz57 : szOf tt 57 = some 1 := rfl
theorem tt58 : tt 58 = some ti58 := rfl
theorem kd58 : kdOf tt 58 = some (.func) := rfl
theorem sz58 : szOf tt 58 = some 1 := rfl
theorem tt59 : tt 59 = some ti59 := rfl
theorem kd59 : kdOf tt 59 = some (.func) := rfl
theorem sz59 : szOf tt 59 = some 1 := rfl
theorem tt60 : tt 60 = some ti60 := rfl
theorem kd60 : kdOf tt 60 = some (.arr 256 5) := rfl
theorem sz60 : szOf tt 60 = some 256 := rfl
theorem tt61 : tt 61 = some ti61 := rfl
theorem kd61 : kdOf tt 61 = some (.struct [(0, 5), (1, 5)]) := rfl
theorem sz61 : szOf tt 61 = some 2 := rfl
theorem tt62 : tt 62 = some ti62 := rfl
theorem kd62 : kdOf tt 62 = some (.struct [(0, 5), (1, 5)]) := rfl
theorem sz62 : szOf tt 62 = some 2 := rfl
theorem tt63 : tt 63 = some ti63 := rfl
theorem kd63 : kdOf tt 63 = some (.arr 16 62) := rfl
theorem sz63 : szOf tt 63 = some 32 := rfl
theorem tt64 : tt 64 = some ti64 := rfl
theorem kd64 : kdOf tt 64 = some (.func) := rfl
theorem sz64 : szOf tt 64 = some 1 := rfl
theorem tt65 : tt 65 = some ti65 := rfl
theorem kd65 : kdOf tt 65 = some (.func) := rfl
theorem sz65 : szOf tt 65 = some 1 := rfl
theorem tt67 : tt 67 = some ti67 := rfl
theorem kd67 : kdOf tt 67 = some (.func) := rfl
theorem sz67 : szOf tt 67 = some 1 := rfl
theorem tt68 : tt 68 = some ti68 := rfl
theorem kd68 : kdOf tt 68 = some (.func) := rfl
theorem sz68 : szOf tt 68 = some 1 := rfl
theorem tt69 : tt 69 = some ti69 := rfl
theorem kd69 : kdOf tt 69 = some (.func) := rfl
theorem sz69 : szOf tt 69 = some 1 := rfl
theorem tt70 : tt 70 = some ti70 := rfl
theorem kd70 : kdOf tt 70 = some (.func) := rfl
theorem sz70 : szOf tt 70 = some 1 := rfl
theorem tt71 : tt 71 = some ti71 := rfl
theorem kd71 : kdOf tt 71 = some (.func) := rfl
theorem sz71 : szOf tt 71 = some 1 := rfl
theorem tt72 : tt 72 = some ti72 := rfl
theorem kd72 : kdOf tt 72 = some (.func) := rfl
theorem sz72 : szOf tt 72 = some 1 := rfl
theorem tt73 : tt 73 = some ti73 := rfl
theorem kd73 : kdOf tt 73 = some (.func) := rfl
theorem sz73 : szOf tt 73 = some 1 := rfl
theorem tt74 : tt 74 = some ti74 := rfl
theorem kd74 : kdOf tt 74 = some (.func) := rfl
theorem sz74 : szOf tt 74 = some 1 := rfl
theorem tt75 : tt 75 = some ti75 := rfl
theorem kd75 : kdOf tt 75 = some (.func) := rfl
theorem sz75 : szOf tt 75 = some 1 := rfl
theorem tt76 : tt 76 = some ti76 := rfl
theorem kd76 : kdOf tt 76 = some (.ptr 78) := rfl
theorem sz76 : szOf tt 76 = some 1 := rfl
theorem tt77 : tt 77 = some ti77 := rfl
theorem kd77 : kdOf tt 77 = some (.struct [(0, 76), (1, 49)]) := rfl
theorem sz77 : szOf tt 77 = some 2 := rfl
theorem tt78 : tt 78 = some ti78 := rfl
theorem kd78 : kdOf tt 78 = some (.struct [(0, 76), (1, 49)]) := rfl
theorem sz78 : szOf tt 78 = some 2 := rfl
theorem tt80 : tt 80 = some ti80 := rfl
theorem kd80 : kdOf tt 80 = some (.func) := rfl
theorem sz80 : szOf tt 80 = some 1 := rfl
theorem tt81 : tt 81 = some ti81 := rfl
theorem kd81 : kdOf tt 81 = some (.iface) := rfl
theorem sz81 : szOf tt 81 = some 1 := rfl
theorem tt82 : tt 82 = some ti82 := rfl
theorem kd82 : kdOf tt 82 = some (.iface) := rfl
theorem sz82 : szOf tt 82 = some 1 := rfl
theorem tt84 : tt 84 = some ti84 := rfl
theorem kd84 : kdOf tt 84 = some (.func) := rfl
theorem sz84 : szOf tt 84 = some 1 := rfl
theorem tt85 : tt 85 = some ti85 := rfl
theorem kd85 : kdOf tt 85 = some (.func) := rfl
theorem sz85 : szOf tt 85 = some 1 := rfl
theorem tt86 : tt 86 = some ti86 := rfl
theorem kd86 : kdOf tt 86 = some (.func) := rfl
theorem sz86 : szOf tt 86 = some 1 := rfl
theorem tt87 : tt 87 = some ti87 := rfl
theorem kd87 : kdOf tt 87 = some (.arr 256 4) := rfl
theorem sz87 : szOf tt 87 = some 256 := rfl
theorem tt88 : tt 88 = some ti88 := rfl
theorem kd88 : kdOf tt 88 = some (.arr 256 4) := rfl
theorem sz88 : szOf tt 88 = some 256 := rfl
theorem tt90 : tt 90 = some ti90 := rfl
theorem kd90 : kdOf tt 90 = some (.func) := rfl
theorem sz90 : szOf tt 90 = some 1 := rfl
theorem tt91 : tt 91 = some ti91 := rfl
theorem kd91 : kdOf tt 91 = some (.func) := rfl
theorem sz91 : szOf tt 91 = some 1 := rfl
theorem tt92 : tt 92 = some ti92 := rfl
theorem kd92 : kdOf tt 92 = some (.ptr 88) := rfl
theorem sz92 : szOf tt 92 = some 1 := rfl
theorem tt93 : tt 93 = some ti93 := rfl
theorem kd93 : kdOf tt 93 = some (.ptr 5) := rfl
theorem sz93 : szOf tt 93 = some 1 := rfl
theorem tt94 : tt 94 = some ti94 := rfl
theorem kd94 : kdOf tt 94 = some (.func) := rfl
theorem sz94 : szOf tt 94 = some 1 := rfl
theorem tt95 : tt 95 = some ti95 := rfl
theorem kd95 : kdOf tt 95 = some (.func) := rfl
theorem sz95 : szOf tt 95 = some 1 := rfl
theorem tt97 : tt 97 = some ti97 := rfl
theorem kd97 : kdOf tt 97 = some (.func) := rfl
theorem sz97 : szOf tt 97 = some 1 := rfl
theorem tt98 : tt 98 = some ti98 := rfl
theorem kd98 : kdOf tt 98 = some (.func) := rfl
theorem sz98 : szOf tt 98 = some 1 := rfl
theorem tt99 : tt 99 = some ti99 := rfl
theorem kd99 : kdOf tt 99 = some (.other) := rfl
theorem sz99 : szOf tt 99 = some 1 := rfl
theorem tt100 : tt 100 = some ti100 := rfl
theorem kd100 : kdOf tt 100 = some (.func) := rfl
theorem sz100 : szOf tt 100 = some 1 := rfl
theorem tt102 : tt 102 = some ti102 := rfl
theorem kd102 : kdOf tt 102 = some (.func) := rfl
theorem sz102 : szOf tt 102 = some 1 := rfl
theorem tt103 : tt 103 = some ti103 := rfl
theorem kd103 : kdOf tt 103 = some (.func) := rfl
theorem sz103 : szOf tt 103 = some 1 := rfl
theorem tt104 : tt 104 = some ti104 := rfl
theorem kd104 : kdOf tt 104 = some (.func) := rfl
theorem sz104 : szOf tt 104 = some 1 := rfl
theorem tt105 : tt 105 = some ti105 := rfl
theorem kd105 : kdOf tt 105 = some (.func) := rfl
theorem sz105 : szOf tt 105 = some 1 := rfl
theorem tt106 : tt 106 = some ti106 := rfl
theorem kd106 : kdOf tt 106 = some (.int .u32) := rfl
theorem sz106 : szOf tt 106 = some 1 := rfl
theorem tt108 : tt 108 = some ti108 := rfl
theorem kd108 : kdOf tt 108 = some (.func) := rfl
theorem sz108 : szOf tt 108 = some 1 := rfl
theorem tt109 : tt 109 = some ti109 := rfl
theorem kd109 : kdOf tt 109 = some (.int .i64) := rfl
theorem sz109 : szOf tt 109 = some 1 := rfl
theorem tt110 : tt 110 = some ti110 := rfl
theorem kd110 : kdOf tt 110 = some (.func) := rfl
theorem sz110 : szOf tt 110 = some 1 := rfl
theorem tt111 : tt 111 = some ti111 := rfl
theorem kd111 : kdOf tt 111 = some (.ptr 115) := rfl
theorem sz111 : szOf tt 111 = some 1 := rfl
theorem tt112 : tt 112 = some ti112 := rfl
theorem kd112 : kdOf tt 112 = some (.func) := rfl
theorem sz112 : szOf tt 112 = some 1 := rfl
theorem tt113 : tt 113 = some ti113 := rfl
theorem kd113 : kdOf tt 113 = some (.func) := rfl
theorem sz113 : szOf tt 113 = some 1 := rfl
theorem tt114 : tt 114 = some ti114 := rfl
theorem kd114 : kdOf tt 114 = some (.struct [(0, 9), (1, 9), (2, 82)]) := rfl
theorem sz114 : szOf tt 114 = some 3 := rfl
theorem tt115 : tt 115 = some ti115 := rfl
theorem kd115 : kdOf tt 115 = some (.struct [(0, 9), (1, 9), (2, 82)]) := rfl
theorem sz115 : szOf tt 115 = some 3 := rfl
theorem tt116 : tt 116 = some ti116 := rfl
theorem kd116 : kdOf tt 116 = some (.func) := rfl
theorem sz116 : szOf tt 116 = some 1 := rfl
theorem tt117 : tt 117 = some ti117 := rfl
theorem kd117 : kdOf tt 117 = some (.func) := rfl
theorem sz117 : szOf tt 117 = some 1 := rfl
theorem tt118 : tt 118 = some ti118 := rfl
theorem kd118 : kdOf tt 118 = some (.ptr 120) := rfl
theorem sz118 : szOf tt 118 = some 1 := rfl
theorem tt119 : tt 119 = some ti119 := rfl
theorem kd119 : kdOf tt 119 = some (.struct [(0, 9)]) := rfl
theorem sz119 : szOf tt 119 = some 1 := rfl
theorem tt120 : tt 120 = some ti120 := rfl
theorem kd120 : kdOf tt 120 = some (.struct [(0, 9)]) := rfl
theorem sz120 : szOf tt 120 = some 1 := rfl
theorem tt121 : tt 121 = some ti121 := rfl
theorem kd121 : kdOf tt 121 = some (.func) := rfl
theorem sz121 : szOf tt 121 = some 1 := rfl
theorem tt122 : tt 122 = some ti122 := rfl
theorem kd122 : kdOf tt 122 = some (.arr 24 5) := rfl
theorem sz122 : szOf tt 122 = some 24 := rfl
theorem tt123 : tt 123 = some ti123 := rfl
theorem kd123 : kdOf tt 123 = some (.func) := rfl
theorem sz123 : szOf tt 123 = some 1 := rfl
theorem tt124 : tt 124 = some ti124 := rfl
theorem kd124 : kdOf tt 124 = some (.func) := rfl
theorem sz124 : szOf tt 124 = some 1 := rfl
theorem tt126 : tt 126 = some ti126 := rfl
theorem kd126 : kdOf tt 126 = some (.func) := rfl
theorem sz126 : szOf tt 126 = some 1 := rfl
theorem tt127 : tt 127 = some ti127 := rfl
theorem kd127 : kdOf tt 127 = some (.func) := rfl
theorem sz127 : szOf tt 127 = some 1 := rfl
theorem tt128 : tt 128 = some ti128 := rfl
theorem kd128 : kdOf tt 128 = some (.arr 20 36) := rfl
theorem sz128 : szOf tt 128 = some 20 := rfl
theorem tt129 : tt 129 = some ti129 := rfl
theorem kd129 : kdOf tt 129 = some (.arr 65 5) := rfl
theorem sz129 : szOf tt 129 = some 65 := rfl
theorem tt130 : tt 130 = some ti130 := rfl
theorem kd130 : kdOf tt 130 = some (.func) := rfl
theorem sz130 : szOf tt 130 = some 1 := rfl
theorem tt131 : tt 131 = some ti131 := rfl
theorem kd131 : kdOf tt 131 = some (.func) := rfl
theorem sz131 : szOf tt 131 = some 1 := rfl
theorem tt132 : tt 132 = some ti132 := rfl
theorem kd132 : kdOf tt 132 = some (.arr 32 5) := rfl
theorem sz132 : szOf tt 132 = some 32 := rfl
theorem tt133 : tt 133 = some ti133 := rfl
theorem kd133 : kdOf tt 133 = some (.arr 64 5) := rfl
theorem sz133 : szOf tt 133 = some 64 := rfl
theorem tt134 : tt 134 = some ti134 := rfl
theorem kd134 : kdOf tt 134 = some (.struct [(0, 17), (1, 17), (2, 17), (3, 9)]) := rfl
theorem sz134 : szOf tt 134 = some 4 := rfl
theorem tt135 : tt 135 = some ti135 := rfl
theorem kd135 : kdOf tt 135 = some (.struct [(0, 17), (1, 17), (2, 17), (3, 9)]) := rfl
theorem sz135 : szOf tt 135 = some 4 := rfl
theorem tt136 : tt 136 = some ti136 := rfl
theorem kd136 : kdOf tt 136 = some (.arr 0 16) := rfl
theorem sz136 : szOf tt 136 = some 0 := rfl
theorem tt137 : tt 137 = some ti137 := rfl
theorem kd137 : kdOf tt 137 = some (.struct [(0, 136)]) := rfl
theorem sz137 : szOf tt 137 = some 0 := rfl
theorem tt138 : tt 138 = some ti138 := rfl
theorem kd138 : kdOf tt 138 = some (.struct [(0, 136)]) := rfl
theorem sz138 : szOf tt 138 = some 0 := rfl
theorem tt139 : tt 139 = some ti139 := rfl
theorem kd139 : kdOf tt 139 = some (.func) := rfl
theorem sz139 : szOf tt 139 = some 1 := rfl
theorem tt140 : tt 140 = some ti140 := rfl
theorem kd140 : kdOf tt 140 = some (.int .u8) := rfl
theorem sz140 : szOf tt 140 = some 1 := rfl
theorem tt141 : tt 141 = some ti141 := rfl
theorem kd141 : kdOf tt 141 = some (.int .u8) := rfl
theorem sz141 : szOf tt 141 = some 1 := rfl
theorem tt142 : tt 142 = some ti142 := rfl
theorem kd142 : kdOf tt 142 = some (.func) := rfl
theorem sz142 : szOf tt 142 = some 1 := rfl
theorem tt143 : tt 143 = some ti143 := rfl
theorem kd143 : kdOf tt 143 = some (.int .i32) := rfl
theorem sz143 : szOf tt 143 = some 1 := rfl
theorem tt144 : tt 144 = some ti144 := rfl
theorem kd144 : kdOf tt 144 = some (.int .i32) := rfl
theorem sz144 : szOf tt 144 = some 1 := rfl
theorem tt145 : tt 145 = some ti145 := rfl
theorem kd145 : kdOf tt 145 = some (.struct [(0, 12), (1, 12), (2, 106), (3, 140), (4, 5), (5, 5), (6, 141), (7, 142), (8, 93), (9, 143), (10, 144)]) := rfl
theorem sz145 : szOf tt 145 = some 11 := rfl
theorem tt146 : tt 146 = some ti146 := rfl
theorem kd146 : kdOf tt 146 = some (.struct [(0, 12), (1, 12), (2, 106), (3, 140), (4, 5), (5, 5), (6, 141), (7, 142), (8, 93), (9, 143), (10, 144)]) := rfl
theorem sz146 : szOf tt 146 = some 11 := rfl
end Go.Ab.Sd
namespace Go.Ab.Sd
open Go Go.Ab Go.Proofs
set_option maxRecDepth 20000
/-- gosem.cut.init -/
def c2 : CF := ⟨1, [], .ops [⟨some 0, none, .call (.k (.fn (.func 1) [] [])) []⟩]⟩
theorem fk2 (G : GT) : FOk Tryd.prog tt G 2 c2 := ⟨_, Tryd.func2, by kernel_rfl⟩
/-- comptoir/comptoirlaw07.TokenTexts -/
def c3 : CF := ⟨76, [.t 2], .seq (.ops [⟨some 2, none, .mv (.k (.bool false))⟩]) (.seq (.seq (.ops [⟨some 5, none, .mv (.t 0)⟩,
  ⟨some 6, none, .lens (.t 5)⟩,
  ⟨some 7, none, .bin .gtr (.int .i64) true (.t 6) (.k (.int .i64 300))⟩,
  ⟨some 8, none, .mv (.t 7)⟩,
  ⟨some 9, some (8, false), .mv (.t 0)⟩,
  ⟨some 10, some (8, false), .call (.k (.fn (.func 7) [] [])) [.t 9]⟩,
  ⟨some 11, some (8, false), .un .not (.t 10)⟩,
  ⟨some 12, none, .pick (.t 8) (.k (.bool true)) (.t 11)⟩]) (.cond (.t 12) (.seq (.ops [⟨some 13, none, .call (.k (.fn (.func 8) [] [])) []⟩,
  ⟨some 2, none, .mv (.t 13)⟩]) (.ret)) (.skip))) (.seq (.ops [⟨some 15, none, .mv (.t 0)⟩,
  ⟨some 16, none, .call (.k (.fn (.func 10) [] [])) [.t 15]⟩,
  ⟨some 17, none, .bin .add (.str) true (.k (.str [60, 97, 32, 98, 61, 34])) (.t 16)⟩,
  ⟨some 18, none, .bin .add (.str) true (.t 17) (.k (.str [34, 62]))⟩,
  ⟨some 19, none, .mv (.t 0)⟩,
  ⟨some 20, none, .call (.k (.fn (.func 10) [] [])) [.t 19]⟩,
  ⟨some 21, none, .bin .add (.str) false (.t 18) (.t 20)⟩,
  ⟨some 22, none, .bin .add (.str) true (.t 21) (.k (.str [60, 47, 97, 62]))⟩,
  ⟨some 23, none, .call (.k (.fn (.func 9) [] [])) [.t 22]⟩,
  ⟨some 14, none, .mv (.t 23)⟩,
  ⟨some 24, none, .ex (.t 14) 0⟩,
  ⟨some 25, none, .ex (.t 14) 1⟩,
  ⟨some 3, none, .mv (.t 24)⟩,
  ⟨some 4, none, .mv (.t 25)⟩]) (.seq (.seq (.ops [⟨some 26, none, .call (.k (.fn (.func 8) [] [])) []⟩,
  ⟨some 27, none, .un .not (.t 26)⟩,
  ⟨some 28, none, .mv (.t 27)⟩,
  ⟨some 29, some (28, false), .mv (.t 4)⟩,
  ⟨some 30, some (28, false), .bin .neq (.int .i64) true (.t 29) (.k (.int .i64 0))⟩,
  ⟨some 31, none, .pick (.t 28) (.k (.bool true)) (.t 30)⟩,
  ⟨some 32, none, .mv (.t 31)⟩,
  ⟨some 33, some (32, false), .mv (.t 3)⟩,
  ⟨some 34, some (32, false), .lenl (.t 33)⟩,
  ⟨some 35, some (32, false), .bin .lss (.int .i64) true (.t 34) (.k (.int .i64 2))⟩,
  ⟨some 36, none, .pick (.t 32) (.k (.bool true)) (.t 35)⟩,
  ⟨some 37, none, .mv (.t 36)⟩,
  ⟨some 38, some (37, false), .mv (.t 3)⟩,
  ⟨some 39, some (37, false), .ixs 5 (.t 38) (.k (.int .i64 0))⟩,
  ⟨some 40, some (37, false), .fa 3 (.t 39)⟩,
  ⟨some 41, some (37, false), .ld none (.t 40)⟩,
  ⟨some 42, some (37, false), .lenl (.t 41)⟩,
  ⟨some 43, some (37, false), .bin .neq (.int .i64) true (.t 42) (.k (.int .i64 1))⟩,
  ⟨some 44, none, .pick (.t 37) (.k (.bool true)) (.t 43)⟩,
  ⟨some 45, none, .mv (.t 44)⟩,
  ⟨some 46, some (45, false), .mv (.t 3)⟩,
  ⟨some 47, some (45, false), .ixs 5 (.t 46) (.k (.int .i64 0))⟩,
  ⟨some 48, some (45, false), .fa 3 (.t 47)⟩,
  ⟨some 49, some (45, false), .ld none (.t 48)⟩,
  ⟨some 50, some (45, false), .ixs 2 (.t 49) (.k (.int .i64 0))⟩,
  ⟨some 51, some (45, false), .fa 1 (.t 50)⟩,
  ⟨some 52, some (45, false), .ld none (.t 51)⟩,
  ⟨some 53, some (45, false), .mv (.t 0)⟩,
  ⟨some 54, some (45, false), .bin .neq (.str) false (.t 52) (.t 53)⟩,
  ⟨some 55, none, .pick (.t 45) (.k (.bool true)) (.t 54)⟩]) (.cond (.t 55) (.seq (.ops [⟨some 2, none, .mv (.k (.bool false))⟩]) (.ret)) (.skip))) (.seq (.ops [⟨some 56, none, .mv (.t 0)⟩,
  ⟨some 57, none, .bin .eql (.str) true (.t 56) (.k (.str []))⟩,
  ⟨some 58, none, .mv (.t 57)⟩,
  ⟨some 59, some (58, true), .mv (.t 3)⟩,
  ⟨some 60, some (58, true), .lenl (.t 59)⟩,
  ⟨some 61, some (58, true), .bin .eql (.int .i64) true (.t 60) (.k (.int .i64 2))⟩,
  ⟨some 62, none, .pick (.t 58) (.t 61) (.k (.bool false))⟩,
  ⟨some 63, none, .mv (.t 62)⟩,
  ⟨some 64, some (63, false), .mv (.t 3)⟩,
  ⟨some 65, some (63, false), .lenl (.t 64)⟩,
  ⟨some 66, some (63, false), .bin .eql (.int .i64) true (.t 65) (.k (.int .i64 3))⟩,
  ⟨some 67, some (63, false), .mv (.t 66)⟩,
  ⟨some 68, some (67, true), .mv (.t 3)⟩,
  ⟨some 69, some (67, true), .ixs 5 (.t 68) (.k (.int .i64 1))⟩,
  ⟨some 70, some (67, true), .fa 2 (.t 69)⟩,
  ⟨some 71, some (67, true), .ld none (.t 70)⟩,
  ⟨some 72, some (67, true), .mv (.t 0)⟩,
  ⟨some 73, some (67, true), .bin .eql (.str) false (.t 71) (.t 72)⟩,
  ⟨some 74, some (63, false), .pick (.t 67) (.t 73) (.k (.bool false))⟩,
  ⟨some 75, none, .pick (.t 63) (.k (.bool true)) (.t 74)⟩,
  ⟨some 2, none, .mv (.t 75)⟩]) (.ret)))))⟩
theorem fk3 (G : GT) : FOk Tryd.prog tt G 3 c3 := ⟨_, Tryd.func3, by kernel_rfl⟩
def l4_0b : CC := .seq (.seq (.ops [⟨some 14, none, .mv (.t 4)⟩,
  ⟨some 15, none, .bin .gtr (.int .i64) true (.t 14) (.k (.int .i64 0))⟩,
  ⟨some 16, none, .mv (.t 15)⟩,
  ⟨some 17, some (16, false), .mv (.t 3)⟩,
  ⟨some 18, some (16, false), .bin .eql (.str) true (.t 17) (.k (.str []))⟩,
  ⟨some 19, none, .pick (.t 16) (.k (.bool true)) (.t 18)⟩]) (.cond (.t 19) (.skip) (.exit 0))) (.seq (.block 1 (.ops [⟨some 22, none, .mv (.t 4)⟩,
  ⟨some 23, none, .bin .rem (.int .i64) true (.t 22) (.k (.int .i64 16))⟩,
  ⟨some 24, none, .mv (.t 4)⟩,
  ⟨some 25, none, .bin .rem (.int .i64) true (.t 24) (.k (.int .i64 16))⟩,
  ⟨some 26, none, .bin .add (.int .i64) true (.t 25) (.k (.int .i64 1))⟩,
  ⟨some 27, none, .slstr (.k (.str [48, 49, 50, 51, 52, 53, 54, 55, 56, 57, 97, 98, 99, 100, 101, 102])) (some (.t 23)) (some (.t 26))⟩,
  ⟨some 28, none, .mv (.t 3)⟩,
  ⟨some 29, none, .bin .add (.str) false (.t 27) (.t 28)⟩,
  ⟨some 3, none, .mv (.t 29)⟩])) (.ops [⟨some 20, none, .mv (.t 4)⟩,
  ⟨some 21, none, .bin .quo (.int .i64) true (.t 20) (.k (.int .i64 16))⟩,
  ⟨some 4, none, .mv (.t 21)⟩]))
def l4_0 : CC := l4_0b
theorem l4_0x (P : Program) (T : TT) (G : GT) (Q : EQ) (t : Env) (σ : St) : aC P T G l4_0 Q t σ = aC P T G l4_0b Q t σ := rfl
/-- comptoir/comptoirlaw07.TokenNumbers -/
def c4 : CF := ⟨87, [.t 2], .seq (.ops [⟨some 2, none, .mv (.k (.bool false))⟩]) (.seq (.ops [⟨some 9, none, .mv (.t 0)⟩,
  ⟨some 10, none, .cvi .u64 (.t 9)⟩,
  ⟨some 11, none, .bin .rem (.int .u64) true (.t 10) (.k (.int .u64 1200000))⟩,
  ⟨some 12, none, .cvi .i64 (.t 11)⟩,
  ⟨some 0, none, .mv (.t 12)⟩]) (.seq (.ops [⟨some 3, none, .mv (.k (.str []))⟩]) (.seq (.seq (.ops [⟨some 13, none, .mv (.t 0)⟩,
  ⟨some 4, none, .mv (.t 13)⟩]) (.block 0 (.loop l4_0))) (.seq (.ops [⟨some 31, none, .mv (.t 0)⟩,
  ⟨some 32, none, .cvi .u64 (.t 31)⟩,
  ⟨some 33, none, .call (.k (.fn (.func 11) [] [])) [.t 32]⟩,
  ⟨some 34, none, .bin .add (.str) true (.k (.str [38, 35])) (.t 33)⟩,
  ⟨some 35, none, .bin .add (.str) true (.t 34) (.k (.str [59]))⟩,
  ⟨some 36, none, .call (.k (.fn (.func 9) [] [])) [.t 35]⟩,
  ⟨some 30, none, .mv (.t 36)⟩,
  ⟨some 37, none, .ex (.t 30) 0⟩,
  ⟨some 38, none, .ex (.t 30) 1⟩,
  ⟨some 5, none, .mv (.t 37)⟩,
  ⟨some 6, none, .mv (.t 38)⟩]) (.seq (.ops [⟨some 40, none, .mv (.t 3)⟩,
  ⟨some 41, none, .bin .add (.str) true (.k (.str [38, 35, 120])) (.t 40)⟩,
  ⟨some 42, none, .bin .add (.str) true (.t 41) (.k (.str [59]))⟩,
  ⟨some 43, none, .call (.k (.fn (.func 9) [] [])) [.t 42]⟩,
  ⟨some 39, none, .mv (.t 43)⟩,
  ⟨some 44, none, .ex (.t 39) 0⟩,
  ⟨some 45, none, .ex (.t 39) 1⟩,
  ⟨some 7, none, .mv (.t 44)⟩,
  ⟨some 8, none, .mv (.t 45)⟩]) (.seq (.seq (.ops [⟨some 46, none, .mv (.t 0)⟩,
  ⟨some 47, none, .call (.k (.fn (.func 12) [] [])) [.t 46]⟩,
  ⟨some 48, none, .un .not (.t 47)⟩]) (.cond (.t 48) (.seq (.ops [⟨some 49, none, .call (.k (.fn (.func 8) [] [])) []⟩,
  ⟨some 50, none, .mv (.t 49)⟩,
  ⟨some 51, some (50, true), .mv (.t 6)⟩,
  ⟨some 52, some (50, true), .bin .eql (.int .i64) true (.t 51) (.k (.int .i64 9))⟩,
  ⟨some 53, none, .pick (.t 50) (.t 52) (.k (.bool false))⟩,
  ⟨some 54, none, .mv (.t 53)⟩,
  ⟨some 55, some (54, true), .mv (.t 8)⟩,
  ⟨some 56, some (54, true), .bin .eql (.int .i64) true (.t 55) (.k (.int .i64 9))⟩,
  ⟨some 57, none, .pick (.t 54) (.t 56) (.k (.bool false))⟩,
  ⟨some 2, none, .mv (.t 57)⟩]) (.ret)) (.skip))) (.seq (.ops [⟨some 58, none, .call (.k (.fn (.func 8) [] [])) []⟩,
  ⟨some 59, none, .mv (.t 58)⟩,
  ⟨some 60, some (59, true), .mv (.t 6)⟩,
  ⟨some 61, some (59, true), .bin .eql (.int .i64) true (.t 60) (.k (.int .i64 0))⟩,
  ⟨some 62, none, .pick (.t 59) (.t 61) (.k (.bool false))⟩,
  ⟨some 63, none, .mv (.t 62)⟩,
  ⟨some 64, some (63, true), .mv (.t 8)⟩,
  ⟨some 65, some (63, true), .bin .eql (.int .i64) true (.t 64) (.k (.int .i64 0))⟩,
  ⟨some 66, none, .pick (.t 63) (.t 65) (.k (.bool false))⟩,
  ⟨some 67, none, .mv (.t 66)⟩,
  ⟨some 68, some (67, true), .mv (.t 5)⟩,
  ⟨some 69, some (67, true), .lenl (.t 68)⟩,
  ⟨some 70, some (67, true), .bin .eql (.int .i64) true (.t 69) (.k (.int .i64 1))⟩,
  ⟨some 71, none, .pick (.t 67) (.t 70) (.k (.bool false))⟩,
  ⟨some 72, none, .mv (.t 71)⟩,
  ⟨some 73, some (72, true), .mv (.t 5)⟩,
  ⟨some 74, some (72, true), .mv (.t 7)⟩,
  ⟨some 75, some (72, true), .call (.k (.fn (.func 13) [] [])) [.t 73, .t 74, .k (.fn (.func 14) [] [])]⟩,
  ⟨some 76, none, .pick (.t 72) (.t 75) (.k (.bool false))⟩,
  ⟨some 77, none, .mv (.t 76)⟩,
  ⟨some 78, some (77, true), .mv (.t 5)⟩,
  ⟨some 79, some (77, true), .ixs 5 (.t 78) (.k (.int .i64 0))⟩,
  ⟨some 80, some (77, true), .fa 2 (.t 79)⟩,
  ⟨some 81, some (77, true), .ld none (.t 80)⟩,
  ⟨some 82, some (77, true), .mv (.t 0)⟩,
  ⟨some 83, some (77, true), .cvi .i32 (.t 82)⟩,
  ⟨some 84, some (77, true), .cvs (.t 83)⟩,
  ⟨some 85, some (77, true), .bin .eql (.str) false (.t 81) (.t 84)⟩,
  ⟨some 86, none, .pick (.t 77) (.t 85) (.k (.bool false))⟩,
  ⟨some 2, none, .mv (.t 86)⟩]) (.ret))))))))⟩
theorem fk4 (G : GT) : FOk Tryd.prog tt G 4 c4 := ⟨_, Tryd.func4, by kernel_rfl⟩
/-- comptoir/comptoirlaw07.TokenRefuses -/
def c5 : CF := ⟨53, [.t 2], .seq (.ops [⟨some 2, none, .mv (.k (.bool false))⟩]) (.seq (.ops [⟨some 10, none, .mks 9 1 [.str []] 18 [(0, .k (.str [60])), (1, .k (.str [60, 97])), (2, .k (.str [60, 97, 32, 98, 62])), (3, .k (.str [60, 97, 32, 98, 61, 99, 62])), (4, .k (.str [60, 97, 32, 98, 61, 34, 49, 34, 99, 61, 34, 50, 34, 62])), (5, .k (.str [60, 97, 32, 98, 61, 34, 49, 34, 32, 98, 61, 34, 50, 34, 62])), (6, .k (.str [60, 97, 32, 98, 61, 34, 60, 34, 62])), (7, .k (.str [60, 33, 45, 45, 32, 97, 32, 45, 45, 62])), (8, .k (.str [60, 33, 91, 67, 68, 65, 84, 65, 91, 97, 93, 93, 62])), (9, .k (.str [60, 63, 120, 63, 62])), (10, .k (.str [32, 60, 63, 120, 109, 108, 32, 118, 101, 114, 115, 105, 111, 110, 61, 34, 49, 46, 48, 34, 32, 101, 110, 99, 111, 100, 105, 110, 103, 61, 34, 85, 84, 70, 45, 56, 34, 63, 62])), (11, .k (.str [38, 120, 59])), (12, .k (.str [38, 35, 49, 59])), (13, .k (.str [60, 47, 32, 97, 62])), (14, .k (.str [60, 49, 62])), (15, .k (.str [60, 33, 68, 79, 67, 84, 89, 80, 69, 32, 97, 62])), (16, .k (.str [38, 35, 49, 50, 51, 52, 53, 54, 55, 56, 59])), (17, .k (.str [38]))]⟩,
  ⟨some 3, none, .mv (.t 10)⟩]) (.seq (.ops [⟨some 11, none, .mks 9 1 [.str []] 18 [(0, .k (.str [])), (1, .k (.str [60, 97, 62])), (2, .k (.str [60, 97, 32, 98, 61, 39, 99, 39, 62])), (3, .k (.str [60, 97, 32, 98, 32, 61, 32, 34, 99, 34, 32, 62])), (4, .k (.str [60, 97, 32, 98, 61, 34, 49, 34, 32, 99, 61, 34, 50, 34, 62])), (5, .k (.str [60, 97, 32, 98, 61, 34, 49, 34, 32, 99, 61, 39, 49, 39, 47, 62])), (6, .k (.str [60, 97, 32, 98, 61, 39, 38, 108, 116, 59, 39, 62])), (7, .k (.str [97, 32, 45, 45, 62])), (8, .k (.str [91, 67, 68, 65, 84, 65, 91, 97, 93, 93, 62])), (9, .k (.str [60, 63, 120, 109, 108, 32, 118, 101, 114, 115, 105, 111, 110, 61, 34, 49, 46, 48, 34, 32, 101, 110, 99, 111, 100, 105, 110, 103, 61, 34, 85, 84, 70, 45, 56, 34, 63, 62])), (10, .k (.str [60, 63, 120, 109, 108, 32, 118, 101, 114, 115, 105, 111, 110, 61, 34, 49, 46, 48, 34, 32, 101, 110, 99, 111, 100, 105, 110, 103, 61, 34, 85, 84, 70, 45, 56, 34, 63, 62, 32])), (11, .k (.str [38, 97, 109, 112, 59, 120, 59])), (12, .k (.str [38, 35, 57, 59])), (13, .k (.str [60, 47, 97, 32, 62])), (14, .k (.str [60, 95, 49, 62])), (15, .k (.str [60, 97, 47, 62])), (16, .k (.str [38, 35, 120, 49, 48, 70, 70, 70, 70, 59])), (17, .k (.str [38, 97, 109, 112, 59]))]⟩,
  ⟨some 4, none, .mv (.t 11)⟩]) (.seq (.ops [⟨some 12, none, .mv (.t 0)⟩,
  ⟨some 13, none, .cvi .u64 (.t 12)⟩,
  ⟨some 14, none, .bin .rem (.int .u64) true (.t 13) (.k (.int .u64 18))⟩,
  ⟨some 15, none, .cvi .i64 (.t 14)⟩,
  ⟨some 5, none, .mv (.t 15)⟩]) (.seq (.ops [⟨some 17, none, .mv (.t 3)⟩,
  ⟨some 18, none, .mv (.t 5)⟩,
  ⟨some 19, none, .ixs 1 (.t 17) (.t 18)⟩,
  ⟨some 20, none, .ld none (.t 19)⟩,
  ⟨some 21, none, .call (.k (.fn (.func 9) [] [])) [.t 20]⟩,
  ⟨some 16, none, .mv (.t 21)⟩,
  ⟨some 22, none, .ex (.t 16) 0⟩,
  ⟨some 23, none, .ex (.t 16) 1⟩,
  ⟨some 6, none, .mv (.t 22)⟩,
  ⟨some 7, none, .mv (.t 23)⟩]) (.seq (.ops [⟨some 25, none, .mv (.t 4)⟩,
  ⟨some 26, none, .mv (.t 5)⟩,
  ⟨some 27, none, .ixs 1 (.t 25) (.t 26)⟩,
  ⟨some 28, none, .ld none (.t 27)⟩,
  ⟨some 29, none, .call (.k (.fn (.func 9) [] [])) [.t 28]⟩,
  ⟨some 24, none, .mv (.t 29)⟩,
  ⟨some 30, none, .ex (.t 24) 0⟩,
  ⟨some 31, none, .ex (.t 24) 1⟩,
  ⟨some 8, none, .mv (.t 30)⟩,
  ⟨some 9, none, .mv (.t 31)⟩]) (.seq (.ops [⟨some 32, none, .call (.k (.fn (.func 8) [] [])) []⟩,
  ⟨some 33, none, .mv (.t 32)⟩,
  ⟨some 34, some (33, true), .mv (.t 7)⟩,
  ⟨some 35, some (33, true), .bin .eql (.int .i64) true (.t 34) (.k (.int .i64 9))⟩,
  ⟨some 36, none, .pick (.t 33) (.t 35) (.k (.bool false))⟩,
  ⟨some 37, none, .mv (.t 36)⟩,
  ⟨some 38, some (37, true), .mv (.t 9)⟩,
  ⟨some 39, some (37, true), .bin .eql (.int .i64) true (.t 38) (.k (.int .i64 0))⟩,
  ⟨some 40, none, .pick (.t 37) (.t 39) (.k (.bool false))⟩,
  ⟨some 41, none, .mv (.t 40)⟩,
  ⟨some 42, some (41, true), .mv (.t 8)⟩,
  ⟨some 43, some (41, true), .lenl (.t 42)⟩,
  ⟨some 44, some (41, true), .bin .gtr (.int .i64) true (.t 43) (.k (.int .i64 0))⟩,
  ⟨some 45, some (41, true), .mv (.t 5)⟩,
  ⟨some 46, some (41, true), .bin .neq (.int .i64) true (.t 45) (.k (.int .i64 0))⟩,
  ⟨some 47, some (41, true), .mv (.t 46)⟩,
  ⟨some 48, some (47, true), .mv (.t 5)⟩,
  ⟨some 49, some (47, true), .bin .neq (.int .i64) true (.t 48) (.k (.int .i64 9))⟩,
  ⟨some 50, some (41, true), .pick (.t 47) (.t 49) (.k (.bool false))⟩,
  ⟨some 51, some (41, true), .bin .eql (.bool) false (.t 44) (.t 50)⟩,
  ⟨some 52, none, .pick (.t 41) (.t 51) (.k (.bool false))⟩,
  ⟨some 2, none, .mv (.t 52)⟩]) (.ret)))))))⟩
theorem fk5 (G : GT) : FOk Tryd.prog tt G 5 c5 := ⟨_, Tryd.func5, by kernel_rfl⟩
/-- comptoir/comptoirlaw07.TokenBlanks -/
def c6 : CF := ⟨83, [.t 4], .seq (.ops [⟨some 4, none, .mv (.k (.bool false))⟩]) (.seq (.seq (.ops [⟨some 11, none, .mv (.t 1)⟩,
  ⟨some 12, none, .lens (.t 11)⟩,
  ⟨some 13, none, .bin .gtr (.int .i64) true (.t 12) (.k (.int .i64 100))⟩,
  ⟨some 14, none, .mv (.t 13)⟩,
  ⟨some 15, some (14, false), .mv (.t 1)⟩,
  ⟨some 16, some (14, false), .call (.k (.fn (.func 7) [] [])) [.t 15]⟩,
  ⟨some 17, some (14, false), .un .not (.t 16)⟩,
  ⟨some 18, none, .pick (.t 14) (.k (.bool true)) (.t 17)⟩]) (.cond (.t 18) (.seq (.ops [⟨some 19, none, .call (.k (.fn (.func 8) [] [])) []⟩,
  ⟨some 4, none, .mv (.t 19)⟩]) (.ret)) (.skip))) (.seq (.ops [⟨some 20, none, .mks 9 1 [.str []] 4 [(0, .k (.str [32])), (1, .k (.str [9, 10])), (2, .k (.str [32, 32, 32])), (3, .k (.str [13, 32]))]⟩,
  ⟨some 21, none, .mv (.t 0)⟩,
  ⟨some 22, none, .cvi .u64 (.t 21)⟩,
  ⟨some 23, none, .bin .rem (.int .u64) true (.t 22) (.k (.int .u64 4))⟩,
  ⟨some 24, none, .cvi .i64 (.t 23)⟩,
  ⟨some 25, none, .ixs 1 (.t 20) (.t 24)⟩,
  ⟨some 26, none, .ld none (.t 25)⟩,
  ⟨some 5, none, .mv (.t 26)⟩]) (.seq (.ops [⟨some 27, none, .mv (.t 1)⟩,
  ⟨some 28, none, .call (.k (.fn (.func 10) [] [])) [.t 27]⟩,
  ⟨some 6, none, .mv (.t 28)⟩]) (.seq (.ops [⟨some 30, none, .mv (.t 6)⟩,
  ⟨some 31, none, .bin .add (.str) true (.k (.str [60, 97, 32, 98, 61, 34])) (.t 30)⟩,
  ⟨some 32, none, .bin .add (.str) true (.t 31) (.k (.str [34, 32, 99, 61, 34, 49, 34, 62, 116, 60, 47, 97, 62, 60, 100, 47, 62]))⟩,
  ⟨some 33, none, .call (.k (.fn (.func 9) [] [])) [.t 32]⟩,
  ⟨some 29, none, .mv (.t 33)⟩,
  ⟨some 34, none, .ex (.t 29) 0⟩,
  ⟨some 35, none, .ex (.t 29) 1⟩,
  ⟨some 7, none, .mv (.t 34)⟩,
  ⟨some 8, none, .mv (.t 35)⟩]) (.seq (.ops [⟨some 37, none, .mv (.t 5)⟩,
  ⟨some 38, none, .bin .add (.str) true (.k (.str [60, 97])) (.t 37)⟩,
  ⟨some 39, none, .bin .add (.str) true (.t 38) (.k (.str [98]))⟩,
  ⟨some 40, none, .mv (.t 5)⟩,
  ⟨some 41, none, .bin .add (.str) false (.t 39) (.t 40)⟩,
  ⟨some 42, none, .bin .add (.str) true (.t 41) (.k (.str [61]))⟩,
  ⟨some 43, none, .mv (.t 5)⟩,
  ⟨some 44, none, .bin .add (.str) false (.t 42) (.t 43)⟩,
  ⟨some 45, none, .bin .add (.str) true (.t 44) (.k (.str [34]))⟩,
  ⟨some 46, none, .mv (.t 6)⟩,
  ⟨some 47, none, .bin .add (.str) false (.t 45) (.t 46)⟩,
  ⟨some 48, none, .bin .add (.str) true (.t 47) (.k (.str [34]))⟩,
  ⟨some 49, none, .mv (.t 5)⟩,
  ⟨some 50, none, .bin .add (.str) false (.t 48) (.t 49)⟩,
  ⟨some 51, none, .bin .add (.str) true (.t 50) (.k (.str [99, 61, 34, 49, 34]))⟩,
  ⟨some 52, none, .mv (.t 5)⟩,
  ⟨some 53, none, .bin .add (.str) false (.t 51) (.t 52)⟩,
  ⟨some 54, none, .bin .add (.str) true (.t 53) (.k (.str [62, 116, 60, 47, 97]))⟩,
  ⟨some 55, none, .mv (.t 5)⟩,
  ⟨some 56, none, .bin .add (.str) false (.t 54) (.t 55)⟩,
  ⟨some 57, none, .bin .add (.str) true (.t 56) (.k (.str [62, 60, 100]))⟩,
  ⟨some 58, none, .mv (.t 5)⟩,
  ⟨some 59, none, .bin .add (.str) false (.t 57) (.t 58)⟩,
  ⟨some 60, none, .bin .add (.str) true (.t 59) (.k (.str [47, 62]))⟩,
  ⟨some 61, none, .call (.k (.fn (.func 9) [] [])) [.t 60]⟩,
  ⟨some 36, none, .mv (.t 61)⟩,
  ⟨some 62, none, .ex (.t 36) 0⟩,
  ⟨some 63, none, .ex (.t 36) 1⟩,
  ⟨some 9, none, .mv (.t 62)⟩,
  ⟨some 10, none, .mv (.t 63)⟩]) (.seq (.ops [⟨some 64, none, .call (.k (.fn (.func 8) [] [])) []⟩,
  ⟨some 65, none, .mv (.t 64)⟩,
  ⟨some 66, some (65, true), .mv (.t 8)⟩,
  ⟨some 67, some (65, true), .bin .eql (.int .i64) true (.t 66) (.k (.int .i64 0))⟩,
  ⟨some 68, none, .pick (.t 65) (.t 67) (.k (.bool false))⟩,
  ⟨some 69, none, .mv (.t 68)⟩,
  ⟨some 70, some (69, true), .mv (.t 10)⟩,
  ⟨some 71, some (69, true), .bin .eql (.int .i64) true (.t 70) (.k (.int .i64 0))⟩,
  ⟨some 72, none, .pick (.t 69) (.t 71) (.k (.bool false))⟩,
  ⟨some 73, none, .mv (.t 72)⟩,
  ⟨some 74, some (73, true), .mv (.t 7)⟩,
  ⟨some 75, some (73, true), .mv (.t 9)⟩,
  ⟨some 76, some (73, true), .call (.k (.fn (.func 13) [] [])) [.t 74, .t 75, .k (.fn (.func 14) [] [])]⟩,
  ⟨some 77, none, .pick (.t 73) (.t 76) (.k (.bool false))⟩,
  ⟨some 78, none, .mv (.t 77)⟩,
  ⟨some 79, some (78, true), .mv (.t 7)⟩,
  ⟨some 80, some (78, true), .lenl (.t 79)⟩,
  ⟨some 81, some (78, true), .bin .eql (.int .i64) true (.t 80) (.k (.int .i64 4))⟩,
  ⟨some 82, none, .pick (.t 78) (.t 81) (.k (.bool false))⟩,
  ⟨some 4, none, .mv (.t 82)⟩]) (.ret)))))))⟩
theorem fk6 (G : GT) : FOk Tryd.prog tt G 6 c6 := ⟨_, Tryd.func6, by kernel_rfl⟩
/-- comptoir/comptoirref01.Utf8 -/
def c7 : CF := ⟨6, [.t 2], .seq (.ops [⟨some 2, none, .mv (.k (.bool false))⟩]) (.seq (.ops [⟨some 3, none, .mv (.t 0)⟩,
  ⟨some 4, none, .call (.k (.fn (.func 15) [] [])) [.t 3]⟩,
  ⟨some 5, none, .bin .geq (.int .i64) true (.t 4) (.k (.int .i64 0))⟩,
  ⟨some 2, none, .mv (.t 5)⟩]) (.ret))⟩
theorem fk7 (G : GT) : FOk Tryd.prog tt G 7 c7 := ⟨_, Tryd.func7, by kernel_rfl⟩
/-- comptoir/comptoirlaw07.awake -/
def c8 : CF := ⟨28, [.t 0], .seq (.ops [⟨some 0, none, .mv (.k (.bool false))⟩]) (.seq (.ops [⟨some 4, none, .call (.k (.fn (.func 9) [] [])) [.k (.str [60, 97, 62, 120, 60, 47, 97, 62])]⟩,
  ⟨some 3, none, .mv (.t 4)⟩,
  ⟨some 5, none, .ex (.t 3) 0⟩,
  ⟨some 6, none, .ex (.t 3) 1⟩,
  ⟨some 1, none, .mv (.t 5)⟩,
  ⟨some 2, none, .mv (.t 6)⟩]) (.seq (.ops [⟨some 7, none, .mv (.t 2)⟩,
  ⟨some 8, none, .bin .eql (.int .i64) true (.t 7) (.k (.int .i64 0))⟩,
  ⟨some 9, none, .mv (.t 8)⟩,
  ⟨some 10, some (9, true), .mv (.t 1)⟩,
  ⟨some 11, some (9, true), .lenl (.t 10)⟩,
  ⟨some 12, some (9, true), .bin .eql (.int .i64) true (.t 11) (.k (.int .i64 3))⟩,
  ⟨some 13, none, .pick (.t 9) (.t 12) (.k (.bool false))⟩,
  ⟨some 14, none, .mv (.t 13)⟩,
  ⟨some 15, some (14, true), .mv (.t 1)⟩,
  ⟨some 16, some (14, true), .ixs 5 (.t 15) (.k (.int .i64 0))⟩,
  ⟨some 17, some (14, true), .fa 1 (.t 16)⟩,
  ⟨some 18, some (14, true), .ld none (.t 17)⟩,
  ⟨some 19, some (14, true), .bin .eql (.str) true (.t 18) (.k (.str [97]))⟩,
  ⟨some 20, none, .pick (.t 14) (.t 19) (.k (.bool false))⟩,
  ⟨some 21, none, .mv (.t 20)⟩,
  ⟨some 22, some (21, true), .mv (.t 1)⟩,
  ⟨some 23, some (21, true), .ixs 5 (.t 22) (.k (.int .i64 1))⟩,
  ⟨some 24, some (21, true), .fa 2 (.t 23)⟩,
  ⟨some 25, some (21, true), .ld none (.t 24)⟩,
  ⟨some 26, some (21, true), .bin .eql (.str) true (.t 25) (.k (.str [120]))⟩,
  ⟨some 27, none, .pick (.t 21) (.t 26) (.k (.bool false))⟩,
  ⟨some 0, none, .mv (.t 27)⟩]) (.ret)))⟩
theorem fk8 (G : GT) : FOk Tryd.prog tt G 8 c8 := ⟨_, Tryd.func8, by kernel_rfl⟩
def l9_0b : CC := .seq (.seq (.ops [⟨some 21, none, .mv (.t 4)⟩,
  ⟨some 22, none, .nilc (.t 21)⟩,
  ⟨some 23, none, .fa 0 (.t 22)⟩,
  ⟨some 24, none, .ld none (.t 23)⟩,
  ⟨some 25, none, .bin .neq (.str) true (.t 24) (.k (.str []))⟩]) (.cond (.t 25) (.skip) (.exit 1))) (.block 2 (.seq (.ops [⟨some 27, none, .mv (.t 4)⟩,
  ⟨some 28, none, .call (.k (.fn (.func 18) [] [])) [.t 27]⟩,
  ⟨some 29, none, .call (.t 28) []⟩,
  ⟨some 26, none, .mv (.t 29)⟩,
  ⟨some 30, none, .ex (.t 26) 0⟩,
  ⟨some 31, none, .ex (.t 26) 1⟩,
  ⟨some 6, none, .alloc 31 [.int .i64 0, .str [], .str [], .nils, .bool false]⟩,
  ⟨none, none, .st 5 (.t 6) (.t 30)⟩,
  ⟨some 7, none, .mv (.t 31)⟩]) (.seq (.seq (.ops [⟨some 32, none, .mv (.t 7)⟩,
  ⟨some 33, none, .un .not (.t 32)⟩]) (.cond (.t 33) (.seq (.ops [⟨some 2, none, .mv (.k (.nils))⟩,
  ⟨some 3, none, .mv (.k (.int .i64 9))⟩]) (.ret)) (.skip))) (.ops [⟨some 34, none, .mv (.t 5)⟩,
  ⟨some 35, none, .ld (some 5) (.t 6)⟩,
  ⟨some 36, none, .mks 31 5 [.int .i64 0, .str [], .str [], .nils, .bool false] 1 [(0, .t 35)]⟩,
  ⟨some 37, none, .app 31 5 72 (.t 34) (.t 36)⟩,
  ⟨some 5, none, .mv (.t 37)⟩]))))
def l9_0 : CC := l9_0b
theorem l9_0x (P : Program) (T : TT) (G : GT) (Q : EQ) (t : Env) (σ : St) : aC P T G l9_0 Q t σ = aC P T G l9_0b Q t σ := rfl
/-- comptoir/token.Tokens -/
def c9 : CF := ⟨39, [.t 2, .t 3], .seq (.ops [⟨some 2, none, .mv (.k (.nils))⟩,
  ⟨some 3, none, .mv (.k (.int .i64 0))⟩]) (.seq (.block 0 (.seq (.ops [⟨some 9, none, .mv (.t 0)⟩,
  ⟨some 10, none, .lens (.t 9)⟩,
  ⟨some 11, none, .bin .gtr (.int .i64) true (.t 10) (.k (.int .i64 4096))⟩,
  ⟨some 8, none, .mv (.t 11)⟩]) (.cond (.t 8) (.seq (.ops [⟨some 2, none, .mv (.k (.nils))⟩,
  ⟨some 3, none, .mv (.k (.int .i64 4))⟩]) (.ret)) (.seq (.ops [⟨some 13, none, .mv (.t 0)⟩,
  ⟨some 14, none, .call (.k (.fn (.func 16) [] [])) [.t 13]⟩,
  ⟨some 15, none, .un .not (.t 14)⟩,
  ⟨some 12, none, .mv (.t 15)⟩]) (.cond (.t 12) (.seq (.ops [⟨some 2, none, .mv (.k (.nils))⟩,
  ⟨some 3, none, .mv (.k (.int .i64 7))⟩]) (.ret)) (.skip)))))) (.seq (.ops [⟨some 16, none, .mv (.t 0)⟩,
  ⟨some 17, none, .mk [.str []] [(0, 1, .t 16)]⟩,
  ⟨some 18, none, .box 45 (.t 17)⟩,
  ⟨some 4, none, .mv (.t 18)⟩]) (.seq (.ops [⟨some 19, none, .mv (.t 4)⟩,
  ⟨some 20, none, .call (.k (.fn (.func 17) [] [])) [.t 19, .k (.str [60, 63, 120, 109, 108, 32, 118, 101, 114, 115, 105, 111, 110, 61, 34, 49, 46, 48, 34, 32, 101, 110, 99, 111, 100, 105, 110, 103, 61, 34, 85, 84, 70, 45, 56, 34, 63, 62])]⟩]) (.seq (.ops [⟨some 5, none, .mv (.k (.nils))⟩]) (.seq (.block 1 (.loop l9_0)) (.seq (.ops [⟨some 38, none, .mv (.t 5)⟩,
  ⟨some 2, none, .mv (.t 38)⟩,
  ⟨some 3, none, .mv (.k (.int .i64 0))⟩]) (.ret)))))))⟩
theorem fk9 (G : GT) : FOk Tryd.prog tt G 9 c9 := ⟨_, Tryd.func9, by kernel_rfl⟩
def l10_0b : CC := .seq (.seq (.ops [⟨some 5, none, .mv (.t 4)⟩,
  ⟨some 6, none, .mv (.t 0)⟩,
  ⟨some 7, none, .lens (.t 6)⟩,
  ⟨some 8, none, .bin .lss (.int .i64) false (.t 5) (.t 7)⟩]) (.cond (.t 8) (.skip) (.exit 0))) (.seq (.block 1 (.seq (.ops [⟨some 11, none, .mv (.t 0)⟩,
  ⟨some 12, none, .mv (.t 4)⟩,
  ⟨some 13, none, .ixstr (.t 11) (.t 12)⟩]) (.block 2 (.seq (.ops [⟨some 22, none, .bin .eql (.int .u8) true (.t 13) (.k (.int .u8 38))⟩,
  ⟨some 21, none, .mv (.t 22)⟩]) (.cond (.t 21) (.ops [⟨some 23, none, .mv (.t 3)⟩,
  ⟨some 24, none, .bin .add (.str) true (.t 23) (.k (.str [38, 97, 109, 112, 59]))⟩,
  ⟨some 3, none, .mv (.t 24)⟩]) (.seq (.ops [⟨some 26, none, .bin .eql (.int .u8) true (.t 13) (.k (.int .u8 60))⟩,
  ⟨some 25, none, .mv (.t 26)⟩]) (.cond (.t 25) (.ops [⟨some 27, none, .mv (.t 3)⟩,
  ⟨some 28, none, .bin .add (.str) true (.t 27) (.k (.str [38, 108, 116, 59]))⟩,
  ⟨some 3, none, .mv (.t 28)⟩]) (.seq (.ops [⟨some 30, none, .bin .eql (.int .u8) true (.t 13) (.k (.int .u8 62))⟩,
  ⟨some 29, none, .mv (.t 30)⟩]) (.cond (.t 29) (.ops [⟨some 31, none, .mv (.t 3)⟩,
  ⟨some 32, none, .bin .add (.str) true (.t 31) (.k (.str [38, 103, 116, 59]))⟩,
  ⟨some 3, none, .mv (.t 32)⟩]) (.seq (.ops [⟨some 34, none, .bin .eql (.int .u8) true (.t 13) (.k (.int .u8 34))⟩,
  ⟨some 33, none, .mv (.t 34)⟩]) (.cond (.t 33) (.ops [⟨some 35, none, .mv (.t 3)⟩,
  ⟨some 36, none, .bin .add (.str) true (.t 35) (.k (.str [38, 113, 117, 111, 116, 59]))⟩,
  ⟨some 3, none, .mv (.t 36)⟩]) (.ops [⟨some 14, none, .mv (.t 3)⟩,
  ⟨some 15, none, .mv (.t 0)⟩,
  ⟨some 16, none, .mv (.t 4)⟩,
  ⟨some 17, none, .mv (.t 4)⟩,
  ⟨some 18, none, .bin .add (.int .i64) true (.t 17) (.k (.int .i64 1))⟩,
  ⟨some 19, none, .slstr (.t 15) (some (.t 16)) (some (.t 18))⟩,
  ⟨some 20, none, .bin .add (.str) false (.t 14) (.t 19)⟩,
  ⟨some 3, none, .mv (.t 20)⟩])))))))))))) (.ops [⟨some 9, none, .mv (.t 4)⟩,
  ⟨some 10, none, .bin .add (.int .i64) true (.t 9) (.k (.int .i64 1))⟩,
  ⟨some 4, none, .mv (.t 10)⟩]))
def l10_0 : CC := l10_0b
theorem l10_0x (P : Program) (T : TT) (G : GT) (Q : EQ) (t : Env) (σ : St) : aC P T G l10_0 Q t σ = aC P T G l10_0b Q t σ := rfl
/-- comptoir/comptoirref07.Escape -/
def c10 : CF := ⟨38, [.t 2], .seq (.ops [⟨some 2, none, .mv (.k (.str []))⟩]) (.seq (.ops [⟨some 3, none, .mv (.k (.str []))⟩]) (.seq (.seq (.ops [⟨some 4, none, .mv (.k (.int .i64 0))⟩]) (.block 0 (.loop l10_0))) (.seq (.ops [⟨some 37, none, .mv (.t 3)⟩,
  ⟨some 2, none, .mv (.t 37)⟩]) (.ret))))⟩
theorem fk10 (G : GT) : FOk Tryd.prog tt G 10 c10 := ⟨_, Tryd.func10, by kernel_rfl⟩
/-- comptoir/comptoirhelp.Digits -/
def c11 : CF := ⟨20, [.t 2], .seq (.ops [⟨some 2, none, .mv (.k (.str []))⟩]) (.seq (.seq (.ops [⟨some 3, none, .mv (.t 0)⟩,
  ⟨some 4, none, .bin .lss (.int .u64) true (.t 3) (.k (.int .u64 10))⟩]) (.cond (.t 4) (.seq (.ops [⟨some 5, none, .mv (.t 0)⟩,
  ⟨some 6, none, .bin .add (.int .u64) true (.k (.int .u64 48)) (.t 5)⟩,
  ⟨some 7, none, .cvi .u8 (.t 6)⟩,
  ⟨some 8, none, .mks 5 1 [.int .u8 0] 1 [(0, .t 7)]⟩,
  ⟨some 9, none, .more (.b2s 49) [.t 8]⟩,
  ⟨some 2, none, .mv (.t 9)⟩]) (.ret)) (.skip))) (.seq (.mix (.q 0 ⟨some 10, none, .mv (.t 0)⟩ (.q 0 ⟨some 11, none, .bin .quo (.int .u64) true (.t 10) (.k (.int .u64 10))⟩ (.q 0 ⟨some 13, none, .mv (.t 0)⟩ (.q 0 ⟨some 14, none, .bin .rem (.int .u64) true (.t 13) (.k (.int .u64 10))⟩ (.q 0 ⟨some 15, none, .bin .add (.int .u64) true (.k (.int .u64 48)) (.t 14)⟩ (.q 0 ⟨some 16, none, .cvi .u8 (.t 15)⟩ (.alt (.e ⟨some 12, none, .call (.k (.fn (.func 11) [] [])) [.t 11]⟩ (.e ⟨some 17, none, .mks 5 1 [.int .u8 0] 1 [(0, .t 16)]⟩ (.e ⟨some 18, none, .more (.b2s 49) [.t 17]⟩ (.q 0 ⟨some 19, none, .bin .add (.str) false (.t 12) (.t 18)⟩ (.q 0 ⟨some 2, none, .mv (.t 19)⟩ (.done)))))) (.e ⟨some 17, none, .mks 5 1 [.int .u8 0] 1 [(0, .t 16)]⟩ (.alt (.e ⟨some 12, none, .call (.k (.fn (.func 11) [] [])) [.t 11]⟩ (.e ⟨some 18, none, .more (.b2s 49) [.t 17]⟩ (.q 0 ⟨some 19, none, .bin .add (.str) false (.t 12) (.t 18)⟩ (.q 0 ⟨some 2, none, .mv (.t 19)⟩ (.done))))) (.e ⟨some 18, none, .more (.b2s 49) [.t 17]⟩ (.e ⟨some 12, none, .call (.k (.fn (.func 11) [] [])) [.t 11]⟩ (.q 0 ⟨some 19, none, .bin .add (.str) false (.t 12) (.t 18)⟩ (.q 0 ⟨some 2, none, .mv (.t 19)⟩ (.done))))))))))))))) (.ret)))⟩
theorem fk11 (G : GT) : FOk Tryd.prog tt G 11 c11 := ⟨_, Tryd.func11, by kernel_rfl⟩
/-- comptoir/comptoirref01.Char -/
def c12 : CF := ⟨37, [.t 2], .seq (.ops [⟨some 2, none, .mv (.k (.bool false))⟩]) (.seq (.ops [⟨some 3, none, .mv (.t 0)⟩,
  ⟨some 4, none, .bin .eql (.int .i64) true (.t 3) (.k (.int .i64 9))⟩,
  ⟨some 5, none, .mv (.t 4)⟩,
  ⟨some 6, some (5, false), .mv (.t 0)⟩,
  ⟨some 7, some (5, false), .bin .eql (.int .i64) true (.t 6) (.k (.int .i64 10))⟩,
  ⟨some 8, none, .pick (.t 5) (.k (.bool true)) (.t 7)⟩,
  ⟨some 9, none, .mv (.t 8)⟩,
  ⟨some 10, some (9, false), .mv (.t 0)⟩,
  ⟨some 11, some (9, false), .bin .eql (.int .i64) true (.t 10) (.k (.int .i64 13))⟩,
  ⟨some 12, none, .pick (.t 9) (.k (.bool true)) (.t 11)⟩,
  ⟨some 13, none, .mv (.t 12)⟩,
  ⟨some 14, some (13, false), .mv (.t 0)⟩,
  ⟨some 15, some (13, false), .bin .geq (.int .i64) true (.t 14) (.k (.int .i64 32))⟩,
  ⟨some 16, some (13, false), .mv (.t 15)⟩,
  ⟨some 17, some (16, true), .mv (.t 0)⟩,
  ⟨some 18, some (16, true), .bin .lss (.int .i64) true (.t 17) (.k (.int .i64 55296))⟩,
  ⟨some 19, some (13, false), .pick (.t 16) (.t 18) (.k (.bool false))⟩,
  ⟨some 20, none, .pick (.t 13) (.k (.bool true)) (.t 19)⟩,
  ⟨some 21, none, .mv (.t 20)⟩,
  ⟨some 22, some (21, false), .mv (.t 0)⟩,
  ⟨some 23, some (21, false), .bin .gtr (.int .i64) true (.t 22) (.k (.int .i64 57343))⟩,
  ⟨some 24, some (21, false), .mv (.t 23)⟩,
  ⟨some 25, some (24, true), .mv (.t 0)⟩,
  ⟨some 26, some (24, true), .bin .lss (.int .i64) true (.t 25) (.k (.int .i64 65534))⟩,
  ⟨some 27, some (21, false), .pick (.t 24) (.t 26) (.k (.bool false))⟩,
  ⟨some 28, none, .pick (.t 21) (.k (.bool true)) (.t 27)⟩,
  ⟨some 29, none, .mv (.t 28)⟩,
  ⟨some 30, some (29, false), .mv (.t 0)⟩,
  ⟨some 31, some (29, false), .bin .gtr (.int .i64) true (.t 30) (.k (.int .i64 65535))⟩,
  ⟨some 32, some (29, false), .mv (.t 31)⟩,
  ⟨some 33, some (32, true), .mv (.t 0)⟩,
  ⟨some 34, some (32, true), .bin .leq (.int .i64) true (.t 33) (.k (.int .i64 1114111))⟩,
  ⟨some 35, some (29, false), .pick (.t 32) (.t 34) (.k (.bool false))⟩,
  ⟨some 36, none, .pick (.t 29) (.k (.bool true)) (.t 35)⟩,
  ⟨some 2, none, .mv (.t 36)⟩]) (.ret))⟩
theorem fk12 (G : GT) : FOk Tryd.prog tt G 12 c12 := ⟨_, Tryd.func12, by kernel_rfl⟩
def l13_0b : CC := .seq (.seq (.ops [⟨some 13, none, .mv (.t 7)⟩,
  ⟨some 14, none, .mv (.t 0)⟩,
  ⟨some 15, none, .lenl (.t 14)⟩,
  ⟨some 16, none, .bin .lss (.int .i64) false (.t 13) (.t 15)⟩]) (.cond (.t 16) (.skip) (.exit 0))) (.seq (.block 1 (.seq (.mix (.q 0 ⟨some 19, none, .mv (.t 2)⟩ (.q 0 ⟨some 20, none, .mv (.t 0)⟩ (.q 0 ⟨some 21, none, .mv (.t 7)⟩ (.q 1 ⟨some 22, none, .ixs 5 (.t 20) (.t 21)⟩ (.q 1 ⟨some 23, none, .ld (some 5) (.t 22)⟩ (.q 0 ⟨some 24, none, .mv (.t 1)⟩ (.q 0 ⟨some 25, none, .mv (.t 7)⟩ (.q 1 ⟨some 26, none, .ixs 5 (.t 24) (.t 25)⟩ (.q 1 ⟨some 27, none, .ld (some 5) (.t 26)⟩ (.e ⟨some 28, none, .call (.t 19) [.t 23, .t 27]⟩ (.q 0 ⟨some 29, none, .un .not (.t 28)⟩ (.done))))))))))))) (.cond (.t 29) (.seq (.ops [⟨some 6, none, .mv (.k (.bool false))⟩]) (.ret)) (.skip)))) (.ops [⟨some 17, none, .mv (.t 7)⟩,
  ⟨some 18, none, .bin .add (.int .i64) true (.t 17) (.k (.int .i64 1))⟩,
  ⟨some 7, none, .mv (.t 18)⟩]))
def l13_0 : CC := l13_0b
theorem l13_0x (P : Program) (T : TT) (G : GT) (Q : EQ) (t : Env) (σ : St) : aC P T G l13_0 Q t σ = aC P T G l13_0b Q t σ := rfl
/-- comptoir/comptoirhelp.Same[comptoir/api.Token] -/
def c13 : CF := ⟨30, [.t 6], .seq (.ops [⟨some 6, none, .mv (.k (.bool false))⟩]) (.seq (.seq (.ops [⟨some 8, none, .mv (.t 0)⟩,
  ⟨some 9, none, .lenl (.t 8)⟩,
  ⟨some 10, none, .mv (.t 1)⟩,
  ⟨some 11, none, .lenl (.t 10)⟩,
  ⟨some 12, none, .bin .neq (.int .i64) false (.t 9) (.t 11)⟩]) (.cond (.t 12) (.seq (.ops [⟨some 6, none, .mv (.k (.bool false))⟩]) (.ret)) (.skip))) (.seq (.seq (.ops [⟨some 7, none, .mv (.k (.int .i64 0))⟩]) (.block 0 (.loop l13_0))) (.seq (.ops [⟨some 6, none, .mv (.k (.bool true))⟩]) (.ret))))⟩
theorem fk13 (G : GT) : FOk Tryd.prog tt G 13 c13 := ⟨_, Tryd.func13, by kernel_rfl⟩
/-- comptoir/comptoirhelp.Token -/
def c14 : CF := ⟨38, [.t 4], .seq (.ops [⟨some 2, none, .box 31 (.t 0)⟩,
  ⟨some 3, none, .box 31 (.t 1)⟩,
  ⟨some 4, none, .mv (.k (.bool false))⟩]) (.seq (.ops [⟨some 5, none, .fa 0 (.t 2)⟩,
  ⟨some 6, none, .ld none (.t 5)⟩,
  ⟨some 7, none, .fa 0 (.t 3)⟩,
  ⟨some 8, none, .ld none (.t 7)⟩,
  ⟨some 9, none, .bin .eql (.int .i64) false (.t 6) (.t 8)⟩,
  ⟨some 10, none, .mv (.t 9)⟩,
  ⟨some 11, some (10, true), .fa 1 (.t 2)⟩,
  ⟨some 12, some (10, true), .ld none (.t 11)⟩,
  ⟨some 13, some (10, true), .fa 1 (.t 3)⟩,
  ⟨some 14, some (10, true), .ld none (.t 13)⟩,
  ⟨some 15, some (10, true), .bin .eql (.str) false (.t 12) (.t 14)⟩,
  ⟨some 16, none, .pick (.t 10) (.t 15) (.k (.bool false))⟩,
  ⟨some 17, none, .mv (.t 16)⟩,
  ⟨some 18, some (17, true), .fa 2 (.t 2)⟩,
  ⟨some 19, some (17, true), .ld none (.t 18)⟩,
  ⟨some 20, some (17, true), .fa 2 (.t 3)⟩,
  ⟨some 21, some (17, true), .ld none (.t 20)⟩,
  ⟨some 22, some (17, true), .bin .eql (.str) false (.t 19) (.t 21)⟩,
  ⟨some 23, none, .pick (.t 17) (.t 22) (.k (.bool false))⟩,
  ⟨some 24, none, .mv (.t 23)⟩,
  ⟨some 25, some (24, true), .fa 4 (.t 2)⟩,
  ⟨some 26, some (24, true), .ld none (.t 25)⟩,
  ⟨some 27, some (24, true), .fa 4 (.t 3)⟩,
  ⟨some 28, some (24, true), .ld none (.t 27)⟩,
  ⟨some 29, some (24, true), .bin .eql (.bool) false (.t 26) (.t 28)⟩,
  ⟨some 30, none, .pick (.t 24) (.t 29) (.k (.bool false))⟩,
  ⟨some 31, none, .mv (.t 30)⟩,
  ⟨some 32, some (31, true), .fa 3 (.t 2)⟩,
  ⟨some 33, some (31, true), .ld none (.t 32)⟩,
  ⟨some 34, some (31, true), .fa 3 (.t 3)⟩,
  ⟨some 35, some (31, true), .ld none (.t 34)⟩,
  ⟨some 36, some (31, true), .call (.k (.fn (.func 19) [] [])) [.t 33, .t 35]⟩,
  ⟨some 37, none, .pick (.t 31) (.t 36) (.k (.bool false))⟩,
  ⟨some 4, none, .mv (.t 37)⟩]) (.ret))⟩
theorem fk14 (G : GT) : FOk Tryd.prog tt G 14 c14 := ⟨_, Tryd.func14, by kernel_rfl⟩
def l15_0b : CC := .seq (.seq (.ops [⟨some 7, none, .mv (.t 4)⟩,
  ⟨some 8, none, .mv (.t 0)⟩,
  ⟨some 9, none, .lens (.t 8)⟩,
  ⟨some 10, none, .bin .lss (.int .i64) false (.t 7) (.t 9)⟩]) (.cond (.t 10) (.skip) (.exit 0))) (.block 1 (.seq (.ops [⟨some 12, none, .mv (.t 0)⟩,
  ⟨some 13, none, .mv (.t 4)⟩,
  ⟨some 14, none, .call (.k (.fn (.func 20) [] [])) [.t 12, .t 13]⟩,
  ⟨some 11, none, .mv (.t 14)⟩,
  ⟨some 15, none, .ex (.t 11) 0⟩,
  ⟨some 16, none, .ex (.t 11) 1⟩,
  ⟨some 5, none, .mv (.t 15)⟩,
  ⟨some 6, none, .mv (.t 16)⟩]) (.seq (.seq (.ops [⟨some 17, none, .mv (.t 6)⟩,
  ⟨some 18, none, .bin .eql (.int .i64) true (.t 17) (.k (.int .i64 0))⟩]) (.cond (.t 18) (.seq (.ops [⟨some 2, none, .mv (.k (.int .i64 (-1)))⟩]) (.ret)) (.skip))) (.seq (.ops [⟨some 19, none, .mv (.t 4)⟩,
  ⟨some 20, none, .mv (.t 6)⟩,
  ⟨some 21, none, .bin .add (.int .i64) false (.t 19) (.t 20)⟩,
  ⟨some 4, none, .mv (.t 21)⟩]) (.ops [⟨some 22, none, .mv (.t 3)⟩,
  ⟨some 23, none, .bin .add (.int .i64) true (.t 22) (.k (.int .i64 1))⟩,
  ⟨some 3, none, .mv (.t 23)⟩])))))
def l15_0 : CC := l15_0b
theorem l15_0x (P : Program) (T : TT) (G : GT) (Q : EQ) (t : Env) (σ : St) : aC P T G l15_0 Q t σ = aC P T G l15_0b Q t σ := rfl
/-- comptoir/comptoirref01.count -/
def c15 : CF := ⟨25, [.t 2], .seq (.ops [⟨some 2, none, .mv (.k (.int .i64 0))⟩]) (.seq (.ops [⟨some 3, none, .mv (.k (.int .i64 0))⟩]) (.seq (.seq (.ops [⟨some 4, none, .mv (.k (.int .i64 0))⟩]) (.block 0 (.loop l15_0))) (.seq (.ops [⟨some 24, none, .mv (.t 3)⟩,
  ⟨some 2, none, .mv (.t 24)⟩]) (.ret))))⟩
theorem fk15 (G : GT) : FOk Tryd.prog tt G 15 c15 := ⟨_, Tryd.func15, by kernel_rfl⟩
/-- comptoir/text.Utf8 -/
def c16 : CF := ⟨10, [.t 2], .seq (.ops [⟨some 2, none, .mv (.k (.bool false))⟩]) (.seq (.ops [⟨some 3, none, .mv (.t 0)⟩,
  ⟨some 4, none, .call (.k (.fn (.func 21) [] [])) [.t 3]⟩,
  ⟨some 5, none, .mv (.t 4)⟩,
  ⟨some 6, some (5, true), .mv (.t 0)⟩,
  ⟨some 7, some (5, true), .call (.k (.fn (.func 22) [] [])) [.t 6, .k (.fn (.func 23) [] [])]⟩,
  ⟨some 8, some (5, true), .bin .lss (.int .i64) true (.t 7) (.k (.int .i64 0))⟩,
  ⟨some 9, none, .pick (.t 5) (.t 8) (.k (.bool false))⟩,
  ⟨some 2, none, .mv (.t 9)⟩]) (.ret))⟩
theorem fk16 (G : GT) : FOk Tryd.prog tt G 16 c16 := ⟨_, Tryd.func16, by kernel_rfl⟩
/-- (*comptoir/token.walk).pass -/
def c17 : CF := ⟨21, [.t 4], .seq (.ops [⟨some 4, none, .mv (.k (.bool false))⟩]) (.seq (.ops [⟨some 8, none, .mv (.t 0)⟩,
  ⟨some 9, none, .nilc (.t 8)⟩,
  ⟨some 10, none, .fa 0 (.t 9)⟩,
  ⟨some 11, none, .ld none (.t 10)⟩,
  ⟨some 12, none, .mv (.t 1)⟩,
  ⟨some 13, none, .call (.k (.fn (.func 25) [] [])) [.t 11, .t 12]⟩,
  ⟨some 7, none, .mv (.t 13)⟩,
  ⟨some 14, none, .ex (.t 7) 0⟩,
  ⟨some 15, none, .ex (.t 7) 1⟩,
  ⟨some 5, none, .mv (.t 14)⟩,
  ⟨some 6, none, .mv (.t 15)⟩]) (.seq (.ops [⟨some 16, none, .mv (.t 0)⟩,
  ⟨some 17, none, .mv (.t 5)⟩,
  ⟨some 18, none, .nilc (.t 16)⟩,
  ⟨some 19, none, .fa 0 (.t 18)⟩,
  ⟨none, none, .st 1 (.t 19) (.t 17)⟩]) (.seq (.ops [⟨some 20, none, .mv (.t 6)⟩,
  ⟨some 4, none, .mv (.t 20)⟩]) (.ret))))⟩
theorem fk17 (G : GT) : FOk Tryd.prog tt G 17 c17 := ⟨_, Tryd.func17, by kernel_rfl⟩
/-- (*comptoir/token.walk).step -/
def c18 : CF := ⟨15, [.t 2], .seq (.ops [⟨some 2, none, .mv (.k (.niln))⟩]) (.seq (.block 0 (.seq (.ops [⟨some 4, none, .mv (.t 0)⟩,
  ⟨some 5, none, .call (.k (.fn (.func 17) [] [])) [.t 4, .k (.str [60, 47])]⟩,
  ⟨some 3, none, .mv (.t 5)⟩]) (.cond (.t 3) (.seq (.ops [⟨some 6, none, .mv (.t 0)⟩,
  ⟨some 7, none, .mkf (.func 26) [.t 6] []⟩,
  ⟨some 2, none, .mv (.t 7)⟩]) (.ret)) (.seq (.ops [⟨some 9, none, .mv (.t 0)⟩,
  ⟨some 10, none, .call (.k (.fn (.func 17) [] [])) [.t 9, .k (.str [60])]⟩,
  ⟨some 8, none, .mv (.t 10)⟩]) (.cond (.t 8) (.seq (.ops [⟨some 11, none, .mv (.t 0)⟩,
  ⟨some 12, none, .mkf (.func 27) [.t 11] []⟩,
  ⟨some 2, none, .mv (.t 12)⟩]) (.ret)) (.skip)))))) (.seq (.ops [⟨some 13, none, .mv (.t 0)⟩,
  ⟨some 14, none, .mkf (.func 28) [.t 13] []⟩,
  ⟨some 2, none, .mv (.t 14)⟩]) (.ret)))⟩
theorem fk18 (G : GT) : FOk Tryd.prog tt G 18 c18 := ⟨_, Tryd.func18, by kernel_rfl⟩
/-- comptoir/comptoirhelp.Plain[comptoir/api.Attr] -/
def c19 : CF := ⟨8, [.t 4], .seq (.ops [⟨some 4, none, .mv (.k (.bool false))⟩]) (.seq (.ops [⟨some 5, none, .mv (.t 0)⟩,
  ⟨some 6, none, .mv (.t 1)⟩,
  ⟨some 7, none, .call (.k (.fn (.func 29) [] [])) [.t 5, .t 6, .k (.fn (.func 30) [] [])]⟩,
  ⟨some 4, none, .mv (.t 7)⟩]) (.ret))⟩
theorem fk19 (G : GT) : FOk Tryd.prog tt G 19 c19 := ⟨_, Tryd.func19, by kernel_rfl⟩
def l20_0b : CC := .seq (.seq (.ops [⟨some 50, none, .mv (.t 9)⟩,
  ⟨some 51, none, .mv (.t 7)⟩,
  ⟨some 52, none, .bin .lss (.int .i64) false (.t 50) (.t 51)⟩]) (.cond (.t 52) (.skip) (.exit 1))) (.seq (.block 2 (.seq (.seq (.ops [⟨some 55, none, .mv (.t 0)⟩,
  ⟨some 56, none, .mv (.t 1)⟩,
  ⟨some 57, none, .mv (.t 9)⟩,
  ⟨some 58, none, .bin .add (.int .i64) false (.t 56) (.t 57)⟩,
  ⟨some 59, none, .ixstr (.t 55) (.t 58)⟩,
  ⟨some 60, none, .bin .and (.int .u8) true (.t 59) (.k (.int .u8 192))⟩,
  ⟨some 61, none, .bin .neq (.int .u8) true (.t 60) (.k (.int .u8 128))⟩]) (.cond (.t 61) (.seq (.ops [⟨some 4, none, .mv (.k (.int .i64 0))⟩,
  ⟨some 5, none, .mv (.k (.int .i64 0))⟩]) (.ret)) (.skip))) (.ops [⟨some 62, none, .mv (.t 6)⟩,
  ⟨some 63, none, .bin .shl (.int .i64) true (.t 62) (.k (.int .u64 6))⟩,
  ⟨some 64, none, .mv (.t 0)⟩,
  ⟨some 65, none, .mv (.t 1)⟩,
  ⟨some 66, none, .mv (.t 9)⟩,
  ⟨some 67, none, .bin .add (.int .i64) false (.t 65) (.t 66)⟩,
  ⟨some 68, none, .ixstr (.t 64) (.t 67)⟩,
  ⟨some 69, none, .bin .and (.int .u8) true (.t 68) (.k (.int .u8 63))⟩,
  ⟨some 70, none, .cvi .i64 (.t 69)⟩,
  ⟨some 71, none, .bin .or (.int .i64) false (.t 63) (.t 70)⟩,
  ⟨some 6, none, .mv (.t 71)⟩]))) (.ops [⟨some 53, none, .mv (.t 9)⟩,
  ⟨some 54, none, .bin .add (.int .i64) true (.t 53) (.k (.int .i64 1))⟩,
  ⟨some 9, none, .mv (.t 54)⟩]))
def l20_0 : CC := l20_0b
theorem l20_0x (P : Program) (T : TT) (G : GT) (Q : EQ) (t : Env) (σ : St) : aC P T G l20_0 Q t σ = aC P T G l20_0b Q t σ := rfl
/-- comptoir/comptoirref01.char -/
def c20 : CF := ⟨82, [.t 4, .t 5], .seq (.ops [⟨some 4, none, .mv (.k (.int .i64 0))⟩,
  ⟨some 5, none, .mv (.k (.int .i64 0))⟩]) (.seq (.ops [⟨some 10, none, .mv (.t 0)⟩,
  ⟨some 11, none, .mv (.t 1)⟩,
  ⟨some 12, none, .ixstr (.t 10) (.t 11)⟩,
  ⟨some 13, none, .cvi .i64 (.t 12)⟩,
  ⟨some 6, none, .mv (.t 13)⟩]) (.seq (.ops [⟨some 7, none, .mv (.k (.int .i64 1))⟩,
  ⟨some 8, none, .mv (.k (.int .i64 0))⟩]) (.seq (.block 0 (.seq (.ops [⟨some 15, none, .mv (.t 6)⟩,
  ⟨some 16, none, .bin .lss (.int .i64) true (.t 15) (.k (.int .i64 128))⟩,
  ⟨some 14, none, .mv (.t 16)⟩]) (.cond (.t 14) (.skip) (.seq (.ops [⟨some 18, none, .mv (.t 6)⟩,
  ⟨some 19, none, .bin .geq (.int .i64) true (.t 18) (.k (.int .i64 192))⟩,
  ⟨some 20, none, .mv (.t 19)⟩,
  ⟨some 21, some (20, true), .mv (.t 6)⟩,
  ⟨some 22, some (20, true), .bin .lss (.int .i64) true (.t 21) (.k (.int .i64 224))⟩,
  ⟨some 23, none, .pick (.t 20) (.t 22) (.k (.bool false))⟩,
  ⟨some 17, none, .mv (.t 23)⟩]) (.cond (.t 17) (.ops [⟨some 24, none, .mv (.t 6)⟩,
  ⟨some 25, none, .bin .and (.int .i64) true (.t 24) (.k (.int .i64 31))⟩,
  ⟨some 7, none, .mv (.k (.int .i64 2))⟩,
  ⟨some 8, none, .mv (.k (.int .i64 128))⟩,
  ⟨some 6, none, .mv (.t 25)⟩]) (.seq (.ops [⟨some 27, none, .mv (.t 6)⟩,
  ⟨some 28, none, .bin .geq (.int .i64) true (.t 27) (.k (.int .i64 224))⟩,
  ⟨some 29, none, .mv (.t 28)⟩,
  ⟨some 30, some (29, true), .mv (.t 6)⟩,
  ⟨some 31, some (29, true), .bin .lss (.int .i64) true (.t 30) (.k (.int .i64 240))⟩,
  ⟨some 32, none, .pick (.t 29) (.t 31) (.k (.bool false))⟩,
  ⟨some 26, none, .mv (.t 32)⟩]) (.cond (.t 26) (.ops [⟨some 33, none, .mv (.t 6)⟩,
  ⟨some 34, none, .bin .and (.int .i64) true (.t 33) (.k (.int .i64 15))⟩,
  ⟨some 7, none, .mv (.k (.int .i64 3))⟩,
  ⟨some 8, none, .mv (.k (.int .i64 2048))⟩,
  ⟨some 6, none, .mv (.t 34)⟩]) (.seq (.ops [⟨some 36, none, .mv (.t 6)⟩,
  ⟨some 37, none, .bin .geq (.int .i64) true (.t 36) (.k (.int .i64 240))⟩,
  ⟨some 38, none, .mv (.t 37)⟩,
  ⟨some 39, some (38, true), .mv (.t 6)⟩,
  ⟨some 40, some (38, true), .bin .lss (.int .i64) true (.t 39) (.k (.int .i64 248))⟩,
  ⟨some 41, none, .pick (.t 38) (.t 40) (.k (.bool false))⟩,
  ⟨some 35, none, .mv (.t 41)⟩]) (.cond (.t 35) (.ops [⟨some 42, none, .mv (.t 6)⟩,
  ⟨some 43, none, .bin .and (.int .i64) true (.t 42) (.k (.int .i64 7))⟩,
  ⟨some 7, none, .mv (.k (.int .i64 4))⟩,
  ⟨some 8, none, .mv (.k (.int .i64 65536))⟩,
  ⟨some 6, none, .mv (.t 43)⟩]) (.seq (.ops [⟨some 4, none, .mv (.k (.int .i64 0))⟩,
  ⟨some 5, none, .mv (.k (.int .i64 0))⟩]) (.ret))))))))))) (.seq (.seq (.ops [⟨some 44, none, .mv (.t 1)⟩,
  ⟨some 45, none, .mv (.t 7)⟩,
  ⟨some 46, none, .bin .add (.int .i64) false (.t 44) (.t 45)⟩,
  ⟨some 47, none, .mv (.t 0)⟩,
  ⟨some 48, none, .lens (.t 47)⟩,
  ⟨some 49, none, .bin .gtr (.int .i64) false (.t 46) (.t 48)⟩]) (.cond (.t 49) (.seq (.ops [⟨some 4, none, .mv (.k (.int .i64 0))⟩,
  ⟨some 5, none, .mv (.k (.int .i64 0))⟩]) (.ret)) (.skip))) (.seq (.seq (.ops [⟨some 9, none, .mv (.k (.int .i64 1))⟩]) (.block 1 (.loop l20_0))) (.seq (.seq (.ops [⟨some 72, none, .mv (.t 6)⟩,
  ⟨some 73, none, .mv (.t 8)⟩,
  ⟨some 74, none, .bin .lss (.int .i64) false (.t 72) (.t 73)⟩,
  ⟨some 75, none, .mv (.t 74)⟩,
  ⟨some 76, some (75, false), .mv (.t 6)⟩,
  ⟨some 77, some (75, false), .call (.k (.fn (.func 12) [] [])) [.t 76]⟩,
  ⟨some 78, some (75, false), .un .not (.t 77)⟩,
  ⟨some 79, none, .pick (.t 75) (.k (.bool true)) (.t 78)⟩]) (.cond (.t 79) (.seq (.ops [⟨some 4, none, .mv (.k (.int .i64 0))⟩,
  ⟨some 5, none, .mv (.k (.int .i64 0))⟩]) (.ret)) (.skip))) (.seq (.ops [⟨some 80, none, .mv (.t 6)⟩,
  ⟨some 81, none, .mv (.t 7)⟩,
  ⟨some 4, none, .mv (.t 80)⟩,
  ⟨some 5, none, .mv (.t 81)⟩]) (.ret))))))))⟩
theorem fk20 (G : GT) : FOk Tryd.prog tt G 20 c20 := ⟨_, Tryd.func20, by kernel_rfl⟩
/-- strings.IndexFunc -/
def c22 : CF := ⟨8, [.t 4], .seq (.ops [⟨some 4, none, .mv (.k (.int .i64 0))⟩]) (.seq (.ops [⟨some 5, none, .mv (.t 0)⟩,
  ⟨some 6, none, .mv (.t 1)⟩,
  ⟨some 7, none, .call (.k (.fn (.func 32) [] [])) [.t 5, .t 6, .k (.bool true)]⟩,
  ⟨some 4, none, .mv (.t 7)⟩]) (.ret))⟩
theorem fk22 (G : GT) : FOk Tryd.prog tt G 22 c22 := ⟨_, Tryd.func22, by kernel_rfl⟩
/-- comptoir/text.Utf8$1 -/
def c23 : CF := ⟨6, [.t 2], .seq (.ops [⟨some 2, none, .mv (.k (.bool false))⟩]) (.seq (.ops [⟨some 3, none, .mv (.t 0)⟩,
  ⟨some 4, none, .call (.k (.fn (.func 24) [] [])) [.t 3]⟩,
  ⟨some 5, none, .un .not (.t 4)⟩,
  ⟨some 2, none, .mv (.t 5)⟩]) (.ret))⟩
theorem fk23 (G : GT) : FOk Tryd.prog tt G 23 c23 := ⟨_, Tryd.func23, by kernel_rfl⟩
/-- comptoir/text.may -/
def c24 : CF := ⟨25, [.t 2], .seq (.ops [⟨some 2, none, .mv (.k (.bool false))⟩]) (.seq (.ops [⟨some 3, none, .mv (.t 0)⟩,
  ⟨some 4, none, .bin .eql (.int .i32) true (.t 3) (.k (.int .i32 9))⟩,
  ⟨some 5, none, .mv (.t 4)⟩,
  ⟨some 6, some (5, false), .mv (.t 0)⟩,
  ⟨some 7, some (5, false), .bin .eql (.int .i32) true (.t 6) (.k (.int .i32 10))⟩,
  ⟨some 8, none, .pick (.t 5) (.k (.bool true)) (.t 7)⟩,
  ⟨some 9, none, .mv (.t 8)⟩,
  ⟨some 10, some (9, false), .mv (.t 0)⟩,
  ⟨some 11, some (9, false), .bin .eql (.int .i32) true (.t 10) (.k (.int .i32 13))⟩,
  ⟨some 12, none, .pick (.t 9) (.k (.bool true)) (.t 11)⟩,
  ⟨some 13, none, .mv (.t 12)⟩,
  ⟨some 14, some (13, false), .mv (.t 0)⟩,
  ⟨some 15, some (13, false), .bin .geq (.int .i32) true (.t 14) (.k (.int .i32 32))⟩,
  ⟨some 16, some (13, false), .mv (.t 15)⟩,
  ⟨some 17, some (16, true), .mv (.t 0)⟩,
  ⟨some 18, some (16, true), .bin .neq (.int .i32) true (.t 17) (.k (.int .i32 65534))⟩,
  ⟨some 19, some (13, false), .pick (.t 16) (.t 18) (.k (.bool false))⟩,
  ⟨some 20, some (13, false), .mv (.t 19)⟩,
  ⟨some 21, some (20, true), .mv (.t 0)⟩,
  ⟨some 22, some (20, true), .bin .neq (.int .i32) true (.t 21) (.k (.int .i32 65535))⟩,
  ⟨some 23, some (13, false), .pick (.t 20) (.t 22) (.k (.bool false))⟩,
  ⟨some 24, none, .pick (.t 13) (.k (.bool true)) (.t 23)⟩,
  ⟨some 2, none, .mv (.t 24)⟩]) (.ret))⟩
theorem fk24 (G : GT) : FOk Tryd.prog tt G 24 c24 := ⟨_, Tryd.func24, by kernel_rfl⟩
/-- strings.CutPrefix -/
def c25 : CF := ⟨11, [.t 4, .t 5], .seq (.ops [⟨some 4, none, .mv (.k (.str []))⟩,
  ⟨some 5, none, .mv (.k (.bool false))⟩]) (.seq (.ops [⟨some 6, none, .mv (.t 0)⟩,
  ⟨some 7, none, .mv (.t 1)⟩,
  ⟨some 8, none, .call (.k (.fn (.func 33) [] [])) [.t 6, .t 7]⟩,
  ⟨some 9, none, .ex (.t 8) 0⟩,
  ⟨some 10, none, .ex (.t 8) 1⟩,
  ⟨some 4, none, .mv (.t 9)⟩,
  ⟨some 5, none, .mv (.t 10)⟩]) (.ret))⟩
theorem fk25 (G : GT) : FOk Tryd.prog tt G 25 c25 := ⟨_, Tryd.func25, by kernel_rfl⟩
/-- (*comptoir/token.walk).end -/
def c26 : CF := ⟨18, [.c 2 (some 5), .t 3], .seq (.ops [⟨some 2, none, .alloc 31 [.int .i64 0, .str [], .str [], .nils, .bool false]⟩,
  ⟨some 3, none, .mv (.k (.bool false))⟩]) (.seq (.ops [⟨some 5, none, .mv (.t 0)⟩,
  ⟨some 6, none, .call (.k (.fn (.func 34) [] [])) [.t 5]⟩,
  ⟨some 7, none, .mk [.int .i64 0, .str [], .str [], .nils, .bool false] [(0, 1, .k (.int .i64 2)), (1, 1, .t 6)]⟩,
  ⟨some 4, none, .alloc 31 [.int .i64 0, .str [], .str [], .nils, .bool false]⟩,
  ⟨none, none, .st 5 (.t 4) (.t 7)⟩]) (.seq (.ops [⟨some 8, none, .mv (.t 0)⟩,
  ⟨some 9, none, .call (.k (.fn (.func 35) [] [])) [.t 8, .k (.str [9, 10, 13, 32])]⟩]) (.seq (.mix (.q 1 ⟨some 10, none, .ld (some 5) (.t 4)⟩ (.q 1 ⟨some 11, none, .fa 1 (.t 4)⟩ (.q 1 ⟨some 12, none, .ld none (.t 11)⟩ (.q 0 ⟨some 13, none, .bin .neq (.str) true (.t 12) (.k (.str []))⟩ (.q 0 ⟨some 14, none, .mv (.t 13)⟩ (.q 0 ⟨some 15, some (14, true), .mv (.t 0)⟩ (.e ⟨some 16, some (14, true), .call (.k (.fn (.func 17) [] [])) [.t 15, .k (.str [62])]⟩ (.q 0 ⟨some 17, none, .pick (.t 14) (.t 16) (.k (.bool false))⟩ (.e ⟨none, none, .st 5 (.t 2) (.t 10)⟩ (.q 0 ⟨some 3, none, .mv (.t 17)⟩ (.done)))))))))))) (.ret))))⟩
theorem fk26 (G : GT) : FOk Tryd.prog tt G 26 c26 := ⟨_, Tryd.func26, by kernel_rfl⟩
def l27_0b : CC := .seq (.seq (.ops [⟨some 11, none, .fa 1 (.t 4)⟩,
  ⟨some 12, none, .ld none (.t 11)⟩,
  ⟨some 13, none, .bin .neq (.str) true (.t 12) (.k (.str []))⟩]) (.cond (.t 13) (.skip) (.exit 0))) (.block 1 (.seq (.ops [⟨some 14, none, .mv (.t 0)⟩,
  ⟨some 15, none, .call (.k (.fn (.func 35) [] [])) [.t 14, .k (.str [9, 10, 13, 32])]⟩,
  ⟨some 5, none, .mv (.t 15)⟩]) (.seq (.seq (.ops [⟨some 16, none, .mv (.t 0)⟩,
  ⟨some 17, none, .call (.k (.fn (.func 17) [] [])) [.t 16, .k (.str [62])]⟩]) (.cond (.t 17) (.seq (.ops [⟨some 18, none, .ld (some 5) (.t 4)⟩,
  ⟨none, none, .st 5 (.t 2) (.t 18)⟩,
  ⟨some 3, none, .mv (.k (.bool true))⟩]) (.ret)) (.skip))) (.seq (.seq (.ops [⟨some 19, none, .mv (.t 0)⟩,
  ⟨some 20, none, .call (.k (.fn (.func 17) [] [])) [.t 19, .k (.str [47, 62])]⟩]) (.cond (.t 20) (.seq (.ops [⟨some 21, none, .fa 4 (.t 4)⟩,
  ⟨none, none, .st 1 (.t 21) (.k (.bool true))⟩]) (.seq (.ops [⟨some 22, none, .ld (some 5) (.t 4)⟩,
  ⟨none, none, .st 5 (.t 2) (.t 22)⟩,
  ⟨some 3, none, .mv (.k (.bool true))⟩]) (.ret))) (.skip))) (.seq (.ops [⟨some 24, none, .mv (.t 0)⟩,
  ⟨some 25, none, .call (.k (.fn (.func 36) [] [])) [.t 24]⟩,
  ⟨some 23, none, .mv (.t 25)⟩,
  ⟨some 26, none, .ex (.t 23) 0⟩,
  ⟨some 27, none, .ex (.t 23) 1⟩,
  ⟨some 6, none, .alloc 33 [.str [], .str []]⟩,
  ⟨none, none, .st 2 (.t 6) (.t 26)⟩,
  ⟨some 7, none, .mv (.t 27)⟩]) (.seq (.seq (.ops [⟨some 28, none, .mv (.t 5)⟩,
  ⟨some 29, none, .bin .eql (.str) true (.t 28) (.k (.str []))⟩,
  ⟨some 30, none, .mv (.t 29)⟩,
  ⟨some 31, some (30, false), .mv (.t 7)⟩,
  ⟨some 32, some (30, false), .un .not (.t 31)⟩,
  ⟨some 33, none, .pick (.t 30) (.k (.bool true)) (.t 32)⟩,
  ⟨some 34, none, .mv (.t 33)⟩,
  ⟨some 35, some (34, false), .fa 3 (.t 4)⟩,
  ⟨some 36, some (34, false), .ld none (.t 35)⟩,
  ⟨some 37, some (34, false), .mkf (.func 38) [] [.t 6]⟩,
  ⟨some 38, some (34, false), .call (.k (.fn (.func 37) [] [])) [.t 36, .t 37]⟩,
  ⟨some 39, none, .pick (.t 34) (.k (.bool true)) (.t 38)⟩]) (.cond (.t 39) (.seq (.ops [⟨some 40, none, .ld (some 5) (.t 4)⟩,
  ⟨none, none, .st 5 (.t 2) (.t 40)⟩,
  ⟨some 3, none, .mv (.k (.bool false))⟩]) (.ret)) (.skip))) (.ops [⟨some 41, none, .fa 3 (.t 4)⟩,
  ⟨some 42, none, .ld none (.t 41)⟩,
  ⟨some 43, none, .ld (some 2) (.t 6)⟩,
  ⟨some 44, none, .mks 33 2 [.str [], .str []] 1 [(0, .t 43)]⟩,
  ⟨some 45, none, .app 33 2 32 (.t 42) (.t 44)⟩,
  ⟨some 46, none, .fa 3 (.t 4)⟩,
  ⟨none, none, .st 1 (.t 46) (.t 45)⟩])))))))
def l27_0 : CC := l27_0b
theorem l27_0x (P : Program) (T : TT) (G : GT) (Q : EQ) (t : Env) (σ : St) : aC P T G l27_0 Q t σ = aC P T G l27_0b Q t σ := rfl
/-- (*comptoir/token.walk).open -/
def c27 : CF := ⟨48, [.c 2 (some 5), .t 3], .seq (.ops [⟨some 2, none, .alloc 31 [.int .i64 0, .str [], .str [], .nils, .bool false]⟩,
  ⟨some 3, none, .mv (.k (.bool false))⟩]) (.seq (.ops [⟨some 8, none, .mv (.t 0)⟩,
  ⟨some 9, none, .call (.k (.fn (.func 34) [] [])) [.t 8]⟩,
  ⟨some 10, none, .mk [.int .i64 0, .str [], .str [], .nils, .bool false] [(0, 1, .k (.int .i64 1)), (1, 1, .t 9)]⟩,
  ⟨some 4, none, .alloc 31 [.int .i64 0, .str [], .str [], .nils, .bool false]⟩,
  ⟨none, none, .st 5 (.t 4) (.t 10)⟩]) (.seq (.block 0 (.loop l27_0)) (.seq (.ops [⟨some 47, none, .ld (some 5) (.t 4)⟩,
  ⟨none, none, .st 5 (.t 2) (.t 47)⟩,
  ⟨some 3, none, .mv (.k (.bool false))⟩]) (.ret))))⟩
theorem fk27 (G : GT) : FOk Tryd.prog tt G 27 c27 := ⟨_, Tryd.func27, by kernel_rfl⟩
/-- (*comptoir/token.walk).plain -/
def c28 : CF := ⟨43, [.c 2 (some 5), .t 3], .seq (.ops [⟨some 2, none, .alloc 31 [.int .i64 0, .str [], .str [], .nils, .bool false]⟩,
  ⟨some 3, none, .mv (.k (.bool false))⟩]) (.seq (.ops [⟨some 8, none, .mv (.t 0)⟩,
  ⟨some 9, none, .nilc (.t 8)⟩,
  ⟨some 10, none, .fa 0 (.t 9)⟩,
  ⟨some 11, none, .ld none (.t 10)⟩,
  ⟨some 12, none, .call (.k (.fn (.func 39) [] [])) [.t 11, .k (.int .u8 60)]⟩,
  ⟨some 4, none, .mv (.t 12)⟩]) (.seq (.seq (.ops [⟨some 13, none, .mv (.t 4)⟩,
  ⟨some 14, none, .bin .lss (.int .i64) true (.t 13) (.k (.int .i64 0))⟩]) (.cond (.t 14) (.ops [⟨some 15, none, .mv (.t 0)⟩,
  ⟨some 16, none, .nilc (.t 15)⟩,
  ⟨some 17, none, .fa 0 (.t 16)⟩,
  ⟨some 18, none, .ld none (.t 17)⟩,
  ⟨some 19, none, .lens (.t 18)⟩,
  ⟨some 4, none, .mv (.t 19)⟩]) (.skip))) (.seq (.ops [⟨some 20, none, .mv (.t 0)⟩,
  ⟨some 21, none, .nilc (.t 20)⟩,
  ⟨some 22, none, .fa 0 (.t 21)⟩,
  ⟨some 23, none, .ld none (.t 22)⟩,
  ⟨some 24, none, .mv (.t 4)⟩,
  ⟨some 25, none, .slstr (.t 23) none (some (.t 24))⟩,
  ⟨some 5, none, .mv (.t 25)⟩]) (.seq (.ops [⟨some 26, none, .mv (.t 0)⟩,
  ⟨some 27, none, .mv (.t 0)⟩,
  ⟨some 28, none, .nilc (.t 27)⟩,
  ⟨some 29, none, .fa 0 (.t 28)⟩,
  ⟨some 30, none, .ld none (.t 29)⟩,
  ⟨some 31, none, .mv (.t 4)⟩,
  ⟨some 32, none, .slstr (.t 30) (some (.t 31)) none⟩,
  ⟨some 33, none, .nilc (.t 26)⟩,
  ⟨some 34, none, .fa 0 (.t 33)⟩,
  ⟨none, none, .st 1 (.t 34) (.t 32)⟩]) (.seq (.ops [⟨some 36, none, .mv (.t 5)⟩,
  ⟨some 37, none, .call (.k (.fn (.func 40) [] [])) [.t 36]⟩,
  ⟨some 35, none, .mv (.t 37)⟩,
  ⟨some 38, none, .ex (.t 35) 0⟩,
  ⟨some 39, none, .ex (.t 35) 1⟩,
  ⟨some 6, none, .mv (.t 38)⟩,
  ⟨some 7, none, .mv (.t 39)⟩]) (.seq (.ops [⟨some 40, none, .mv (.t 6)⟩,
  ⟨some 41, none, .mk [.int .i64 0, .str [], .str [], .nils, .bool false] [(0, 1, .k (.int .i64 3)), (2, 1, .t 40)]⟩,
  ⟨some 42, none, .mv (.t 7)⟩,
  ⟨none, none, .st 5 (.t 2) (.t 41)⟩,
  ⟨some 3, none, .mv (.t 42)⟩]) (.ret)))))))⟩
theorem fk28 (G : GT) : FOk Tryd.prog tt G 28 c28 := ⟨_, Tryd.func28, by kernel_rfl⟩
def l29_0b : CC := .seq (.seq (.ops [⟨some 13, none, .mv (.t 7)⟩,
  ⟨some 14, none, .mv (.t 0)⟩,
  ⟨some 15, none, .lenl (.t 14)⟩,
  ⟨some 16, none, .bin .lss (.int .i64) false (.t 13) (.t 15)⟩]) (.cond (.t 16) (.skip) (.exit 0))) (.seq (.block 1 (.seq (.mix (.q 0 ⟨some 19, none, .mv (.t 2)⟩ (.q 0 ⟨some 20, none, .mv (.t 0)⟩ (.q 0 ⟨some 21, none, .mv (.t 7)⟩ (.q 1 ⟨some 22, none, .ixs 2 (.t 20) (.t 21)⟩ (.q 1 ⟨some 23, none, .ld (some 2) (.t 22)⟩ (.q 0 ⟨some 24, none, .mv (.t 1)⟩ (.q 0 ⟨some 25, none, .mv (.t 7)⟩ (.q 1 ⟨some 26, none, .ixs 2 (.t 24) (.t 25)⟩ (.q 1 ⟨some 27, none, .ld (some 2) (.t 26)⟩ (.e ⟨some 28, none, .call (.t 19) [.t 23, .t 27]⟩ (.q 0 ⟨some 29, none, .un .not (.t 28)⟩ (.done))))))))))))) (.cond (.t 29) (.seq (.ops [⟨some 6, none, .mv (.k (.bool false))⟩]) (.ret)) (.skip)))) (.ops [⟨some 17, none, .mv (.t 7)⟩,
  ⟨some 18, none, .bin .add (.int .i64) true (.t 17) (.k (.int .i64 1))⟩,
  ⟨some 7, none, .mv (.t 18)⟩]))
def l29_0 : CC := l29_0b
theorem l29_0x (P : Program) (T : TT) (G : GT) (Q : EQ) (t : Env) (σ : St) : aC P T G l29_0 Q t σ = aC P T G l29_0b Q t σ := rfl
/-- comptoir/comptoirhelp.Same[comptoir/api.Attr] -/
def c29 : CF := ⟨30, [.t 6], .seq (.ops [⟨some 6, none, .mv (.k (.bool false))⟩]) (.seq (.seq (.ops [⟨some 8, none, .mv (.t 0)⟩,
  ⟨some 9, none, .lenl (.t 8)⟩,
  ⟨some 10, none, .mv (.t 1)⟩,
  ⟨some 11, none, .lenl (.t 10)⟩,
  ⟨some 12, none, .bin .neq (.int .i64) false (.t 9) (.t 11)⟩]) (.cond (.t 12) (.seq (.ops [⟨some 6, none, .mv (.k (.bool false))⟩]) (.ret)) (.skip))) (.seq (.seq (.ops [⟨some 7, none, .mv (.k (.int .i64 0))⟩]) (.block 0 (.loop l29_0))) (.seq (.ops [⟨some 6, none, .mv (.k (.bool true))⟩]) (.ret))))⟩
theorem fk29 (G : GT) : FOk Tryd.prog tt G 29 c29 := ⟨_, Tryd.func29, by kernel_rfl⟩
/-- comptoir/comptoirhelp.Plain[comptoir/api.Attr]$1 -/
def c30 : CF := ⟨8, [.t 4], .seq (.ops [⟨some 2, none, .box 33 (.t 0)⟩,
  ⟨some 3, none, .box 33 (.t 1)⟩,
  ⟨some 4, none, .mv (.k (.bool false))⟩]) (.seq (.ops [⟨some 5, none, .ld (some 2) (.t 2)⟩,
  ⟨some 6, none, .ld (some 2) (.t 3)⟩,
  ⟨some 7, none, .bin .eql (.struct [(0, 9), (1, 9)]) false (.t 5) (.t 6)⟩,
  ⟨some 4, none, .mv (.t 7)⟩]) (.ret))⟩
theorem fk30 (G : GT) : FOk Tryd.prog tt G 30 c30 := ⟨_, Tryd.func30, by kernel_rfl⟩
/-- unicode/utf8.word[string] -/
def c31 : CF := ⟨59, [.t 2], .seq (.ops [⟨some 2, none, .mv (.k (.int .u64 0))⟩]) (.seq (.cond (.k (.bool false)) (.seq (.draw [⟨some 3, none, .mv (.t 0)⟩,
  ⟨some 4, none, .ixstr (.t 3) (.k (.int .i64 0))⟩,
  ⟨some 5, none, .cvi .u64 (.t 4)⟩,
  ⟨some 6, none, .mv (.t 0)⟩,
  ⟨some 7, none, .ixstr (.t 6) (.k (.int .i64 1))⟩,
  ⟨some 8, none, .cvi .u64 (.t 7)⟩,
  ⟨some 9, none, .bin .shl (.int .u64) true (.t 8) (.k (.int .u64 8))⟩,
  ⟨some 10, none, .bin .or (.int .u64) false (.t 5) (.t 9)⟩,
  ⟨some 11, none, .mv (.t 0)⟩,
  ⟨some 12, none, .ixstr (.t 11) (.k (.int .i64 2))⟩,
  ⟨some 13, none, .cvi .u64 (.t 12)⟩,
  ⟨some 14, none, .bin .shl (.int .u64) true (.t 13) (.k (.int .u64 16))⟩,
  ⟨some 15, none, .bin .or (.int .u64) false (.t 10) (.t 14)⟩,
  ⟨some 16, none, .mv (.t 0)⟩,
  ⟨some 17, none, .ixstr (.t 16) (.k (.int .i64 3))⟩,
  ⟨some 18, none, .cvi .u64 (.t 17)⟩,
  ⟨some 19, none, .bin .shl (.int .u64) true (.t 18) (.k (.int .u64 24))⟩,
  ⟨some 20, none, .bin .or (.int .u64) false (.t 15) (.t 19)⟩,
  ⟨some 2, none, .mv (.t 20)⟩]) (.ret)) (.skip)) (.seq (.draw [⟨some 21, none, .mv (.t 0)⟩,
  ⟨some 22, none, .ixstr (.t 21) (.k (.int .i64 0))⟩,
  ⟨some 23, none, .cvi .u64 (.t 22)⟩,
  ⟨some 24, none, .mv (.t 0)⟩,
  ⟨some 25, none, .ixstr (.t 24) (.k (.int .i64 1))⟩,
  ⟨some 26, none, .cvi .u64 (.t 25)⟩,
  ⟨some 27, none, .bin .shl (.int .u64) true (.t 26) (.k (.int .u64 8))⟩,
  ⟨some 28, none, .bin .or (.int .u64) false (.t 23) (.t 27)⟩,
  ⟨some 29, none, .mv (.t 0)⟩,
  ⟨some 30, none, .ixstr (.t 29) (.k (.int .i64 2))⟩,
  ⟨some 31, none, .cvi .u64 (.t 30)⟩,
  ⟨some 32, none, .bin .shl (.int .u64) true (.t 31) (.k (.int .u64 16))⟩,
  ⟨some 33, none, .bin .or (.int .u64) false (.t 28) (.t 32)⟩,
  ⟨some 34, none, .mv (.t 0)⟩,
  ⟨some 35, none, .ixstr (.t 34) (.k (.int .i64 3))⟩,
  ⟨some 36, none, .cvi .u64 (.t 35)⟩,
  ⟨some 37, none, .bin .shl (.int .u64) true (.t 36) (.k (.int .u64 24))⟩,
  ⟨some 38, none, .bin .or (.int .u64) false (.t 33) (.t 37)⟩,
  ⟨some 39, none, .mv (.t 0)⟩,
  ⟨some 40, none, .ixstr (.t 39) (.k (.int .i64 4))⟩,
  ⟨some 41, none, .cvi .u64 (.t 40)⟩,
  ⟨some 42, none, .bin .shl (.int .u64) true (.t 41) (.k (.int .u64 32))⟩,
  ⟨some 43, none, .bin .or (.int .u64) false (.t 38) (.t 42)⟩,
  ⟨some 44, none, .mv (.t 0)⟩,
  ⟨some 45, none, .ixstr (.t 44) (.k (.int .i64 5))⟩,
  ⟨some 46, none, .cvi .u64 (.t 45)⟩,
  ⟨some 47, none, .bin .shl (.int .u64) true (.t 46) (.k (.int .u64 40))⟩,
  ⟨some 48, none, .bin .or (.int .u64) false (.t 43) (.t 47)⟩,
  ⟨some 49, none, .mv (.t 0)⟩,
  ⟨some 50, none, .ixstr (.t 49) (.k (.int .i64 6))⟩,
  ⟨some 51, none, .cvi .u64 (.t 50)⟩,
  ⟨some 52, none, .bin .shl (.int .u64) true (.t 51) (.k (.int .u64 48))⟩,
  ⟨some 53, none, .bin .or (.int .u64) false (.t 48) (.t 52)⟩,
  ⟨some 54, none, .mv (.t 0)⟩,
  ⟨some 55, none, .ixstr (.t 54) (.k (.int .i64 7))⟩,
  ⟨some 56, none, .cvi .u64 (.t 55)⟩,
  ⟨some 57, none, .bin .shl (.int .u64) true (.t 56) (.k (.int .u64 56))⟩,
  ⟨some 58, none, .bin .or (.int .u64) false (.t 53) (.t 57)⟩,
  ⟨some 2, none, .mv (.t 58)⟩]) (.ret)))⟩
theorem fk31 (G : GT) : FOk Tryd.prog tt G 31 c31 := ⟨_, Tryd.func31, by kernel_rfl⟩
def l32_0b : CC := .seq (.ops [⟨some 11, none, .more .nxt [.t 10]⟩,
  ⟨some 12, none, .ex (.t 11) 0⟩]) (.seq (.cond (.t 12) (.skip) (.exit 0)) (.block 1 (.seq (.ops [⟨some 13, none, .ex (.t 11) 1⟩,
  ⟨some 14, none, .ex (.t 11) 2⟩,
  ⟨some 7, none, .mv (.t 13)⟩,
  ⟨some 8, none, .mv (.t 14)⟩]) (.seq (.ops [⟨some 15, none, .mv (.t 1)⟩,
  ⟨some 16, none, .mv (.t 8)⟩,
  ⟨some 17, none, .call (.t 15) [.t 16]⟩,
  ⟨some 18, none, .mv (.t 2)⟩,
  ⟨some 19, none, .bin .eql (.bool) false (.t 17) (.t 18)⟩]) (.cond (.t 19) (.seq (.ops [⟨some 20, none, .mv (.t 7)⟩,
  ⟨some 6, none, .mv (.t 20)⟩]) (.ret)) (.skip))))))
def l32_0 : CC := l32_0b
theorem l32_0x (P : Program) (T : TT) (G : GT) (Q : EQ) (t : Env) (σ : St) : aC P T G l32_0 Q t σ = aC P T G l32_0b Q t σ := rfl
/-- strings.indexFunc -/
def c32 : CF := ⟨21, [.t 6], .seq (.ops [⟨some 6, none, .mv (.k (.int .i64 0))⟩]) (.seq (.seq (.ops [⟨some 9, none, .mv (.t 0)⟩,
  ⟨some 10, none, .more .rng [.t 9]⟩]) (.block 0 (.loop l32_0))) (.seq (.ops [⟨some 6, none, .mv (.k (.int .i64 (-1)))⟩]) (.ret)))⟩
theorem fk32 (G : GT) : FOk Tryd.prog tt G 32 c32 := ⟨_, Tryd.func32, by kernel_rfl⟩
/-- internal/stringslite.CutPrefix -/
def c33 : CF := ⟨15, [.t 4, .t 5], .seq (.ops [⟨some 4, none, .mv (.k (.str []))⟩,
  ⟨some 5, none, .mv (.k (.bool false))⟩]) (.seq (.seq (.ops [⟨some 6, none, .mv (.t 0)⟩,
  ⟨some 7, none, .mv (.t 1)⟩,
  ⟨some 8, none, .call (.k (.fn (.func 41) [] [])) [.t 6, .t 7]⟩,
  ⟨some 9, none, .un .not (.t 8)⟩]) (.cond (.t 9) (.seq (.ops [⟨some 10, none, .mv (.t 0)⟩,
  ⟨some 4, none, .mv (.t 10)⟩,
  ⟨some 5, none, .mv (.k (.bool false))⟩]) (.ret)) (.skip))) (.seq (.ops [⟨some 11, none, .mv (.t 0)⟩,
  ⟨some 12, none, .mv (.t 1)⟩,
  ⟨some 13, none, .lens (.t 12)⟩,
  ⟨some 14, none, .slstr (.t 11) (some (.t 13)) none⟩,
  ⟨some 4, none, .mv (.t 14)⟩,
  ⟨some 5, none, .mv (.k (.bool true))⟩]) (.ret)))⟩
theorem fk33 (G : GT) : FOk Tryd.prog tt G 33 c33 := ⟨_, Tryd.func33, by kernel_rfl⟩
/-- (*comptoir/token.walk).name -/
def c34 : CF := ⟨19, [.t 2], .seq (.ops [⟨some 2, none, .mv (.k (.str []))⟩]) (.seq (.seq (.ops [⟨some 3, none, .mv (.t 0)⟩,
  ⟨some 4, none, .nilc (.t 3)⟩,
  ⟨some 5, none, .fa 0 (.t 4)⟩,
  ⟨some 6, none, .ld none (.t 5)⟩,
  ⟨some 7, none, .bin .eql (.str) true (.t 6) (.k (.str []))⟩,
  ⟨some 8, none, .mv (.t 7)⟩,
  ⟨some 9, some (8, false), .mv (.t 0)⟩,
  ⟨some 10, some (8, false), .nilc (.t 9)⟩,
  ⟨some 11, some (8, false), .fa 0 (.t 10)⟩,
  ⟨some 12, some (8, false), .ld none (.t 11)⟩,
  ⟨some 13, some (8, false), .slstr (.t 12) none (some (.k (.int .i64 1)))⟩,
  ⟨some 14, some (8, false), .call (.k (.fn (.func 42) [] [])) [.k (.str [97, 98, 99, 100, 101, 102, 103, 104, 105, 106, 107, 108, 109, 110, 111, 112, 113, 114, 115, 116, 117, 118, 119, 120, 121, 122, 65, 66, 67, 68, 69, 70, 71, 72, 73, 74, 75, 76, 77, 78, 79, 80, 81, 82, 83, 84, 85, 86, 87, 88, 89, 90, 95]), .t 13]⟩,
  ⟨some 15, some (8, false), .un .not (.t 14)⟩,
  ⟨some 16, none, .pick (.t 8) (.k (.bool true)) (.t 15)⟩]) (.cond (.t 16) (.seq (.ops [⟨some 2, none, .mv (.k (.str []))⟩]) (.ret)) (.skip))) (.seq (.ops [⟨some 17, none, .mv (.t 0)⟩,
  ⟨some 18, none, .call (.k (.fn (.func 35) [] [])) [.t 17, .k (.str [97, 98, 99, 100, 101, 102, 103, 104, 105, 106, 107, 108, 109, 110, 111, 112, 113, 114, 115, 116, 117, 118, 119, 120, 121, 122, 65, 66, 67, 68, 69, 70, 71, 72, 73, 74, 75, 76, 77, 78, 79, 80, 81, 82, 83, 84, 85, 86, 87, 88, 89, 90, 48, 49, 50, 51, 52, 53, 54, 55, 56, 57, 95, 45, 46, 58])]⟩,
  ⟨some 2, none, .mv (.t 18)⟩]) (.ret)))⟩
theorem fk34 (G : GT) : FOk Tryd.prog tt G 34 c34 := ⟨_, Tryd.func34, by kernel_rfl⟩
/-- (*comptoir/token.walk).run -/
def c35 : CF := ⟨31, [.t 4], .seq (.ops [⟨some 4, none, .mv (.k (.str []))⟩]) (.seq (.ops [⟨some 7, none, .mv (.t 0)⟩,
  ⟨some 8, none, .nilc (.t 7)⟩,
  ⟨some 9, none, .fa 0 (.t 8)⟩,
  ⟨some 10, none, .ld none (.t 9)⟩,
  ⟨some 11, none, .mv (.t 1)⟩,
  ⟨some 12, none, .call (.k (.fn (.func 43) [] [])) [.t 10, .t 11]⟩,
  ⟨some 5, none, .mv (.t 12)⟩]) (.seq (.draw [⟨some 13, none, .mv (.t 0)⟩,
  ⟨some 14, none, .nilc (.t 13)⟩,
  ⟨some 15, none, .fa 0 (.t 14)⟩,
  ⟨some 16, none, .ld none (.t 15)⟩,
  ⟨some 17, none, .mv (.t 0)⟩,
  ⟨some 18, none, .nilc (.t 17)⟩,
  ⟨some 19, none, .fa 0 (.t 18)⟩,
  ⟨some 20, none, .ld none (.t 19)⟩,
  ⟨some 21, none, .lens (.t 20)⟩,
  ⟨some 22, none, .mv (.t 5)⟩,
  ⟨some 23, none, .lens (.t 22)⟩,
  ⟨some 24, none, .bin .sub (.int .i64) false (.t 21) (.t 23)⟩,
  ⟨some 25, none, .slstr (.t 16) none (some (.t 24))⟩,
  ⟨some 6, none, .mv (.t 25)⟩]) (.seq (.ops [⟨some 26, none, .mv (.t 0)⟩,
  ⟨some 27, none, .mv (.t 5)⟩,
  ⟨some 28, none, .nilc (.t 26)⟩,
  ⟨some 29, none, .fa 0 (.t 28)⟩,
  ⟨none, none, .st 1 (.t 29) (.t 27)⟩]) (.seq (.ops [⟨some 30, none, .mv (.t 6)⟩,
  ⟨some 4, none, .mv (.t 30)⟩]) (.ret)))))⟩
theorem fk35 (G : GT) : FOk Tryd.prog tt G 35 c35 := ⟨_, Tryd.func35, by kernel_rfl⟩
/-- (*comptoir/token.walk).attr -/
def c36 : CF := ⟨30, [.c 2 (some 2), .t 3], .seq (.ops [⟨some 2, none, .alloc 33 [.str [], .str []]⟩,
  ⟨some 3, none, .mv (.k (.bool false))⟩]) (.seq (.ops [⟨some 6, none, .mv (.t 0)⟩,
  ⟨some 7, none, .call (.k (.fn (.func 34) [] [])) [.t 6]⟩,
  ⟨some 8, none, .mk [.str [], .str []] [(0, 1, .t 7)]⟩,
  ⟨some 4, none, .alloc 33 [.str [], .str []]⟩,
  ⟨none, none, .st 2 (.t 4) (.t 8)⟩]) (.seq (.ops [⟨some 9, none, .mv (.t 0)⟩,
  ⟨some 10, none, .call (.k (.fn (.func 35) [] [])) [.t 9, .k (.str [9, 10, 13, 32])]⟩]) (.seq (.seq (.ops [⟨some 11, none, .fa 0 (.t 4)⟩,
  ⟨some 12, none, .ld none (.t 11)⟩,
  ⟨some 13, none, .bin .eql (.str) true (.t 12) (.k (.str []))⟩,
  ⟨some 14, none, .mv (.t 13)⟩,
  ⟨some 15, some (14, false), .mv (.t 0)⟩,
  ⟨some 16, some (14, false), .call (.k (.fn (.func 17) [] [])) [.t 15, .k (.str [61])]⟩,
  ⟨some 17, some (14, false), .un .not (.t 16)⟩,
  ⟨some 18, none, .pick (.t 14) (.k (.bool true)) (.t 17)⟩]) (.cond (.t 18) (.seq (.ops [⟨some 19, none, .ld (some 2) (.t 4)⟩,
  ⟨none, none, .st 2 (.t 2) (.t 19)⟩,
  ⟨some 3, none, .mv (.k (.bool false))⟩]) (.ret)) (.skip))) (.seq (.ops [⟨some 20, none, .mv (.t 0)⟩,
  ⟨some 21, none, .call (.k (.fn (.func 35) [] [])) [.t 20, .k (.str [9, 10, 13, 32])]⟩]) (.seq (.ops [⟨some 5, none, .mv (.k (.bool false))⟩]) (.seq (.ops [⟨some 23, none, .mv (.t 0)⟩,
  ⟨some 24, none, .call (.k (.fn (.func 44) [] [])) [.t 23]⟩,
  ⟨some 22, none, .mv (.t 24)⟩,
  ⟨some 25, none, .ex (.t 22) 0⟩,
  ⟨some 26, none, .ex (.t 22) 1⟩,
  ⟨some 27, none, .fa 1 (.t 4)⟩,
  ⟨none, none, .st 1 (.t 27) (.t 25)⟩,
  ⟨some 5, none, .mv (.t 26)⟩]) (.seq (.ops [⟨some 28, none, .ld (some 2) (.t 4)⟩,
  ⟨some 29, none, .mv (.t 5)⟩,
  ⟨none, none, .st 2 (.t 2) (.t 28)⟩,
  ⟨some 3, none, .mv (.t 29)⟩]) (.ret))))))))⟩
theorem fk36 (G : GT) : FOk Tryd.prog tt G 36 c36 := ⟨_, Tryd.func36, by kernel_rfl⟩
/-- slices.ContainsFunc[[]comptoir/api.Attr,comptoir/api.Attr] -/
def c37 : CF := ⟨9, [.t 4], .seq (.ops [⟨some 4, none, .mv (.k (.bool false))⟩]) (.seq (.ops [⟨some 5, none, .mv (.t 0)⟩,
  ⟨some 6, none, .mv (.t 1)⟩,
  ⟨some 7, none, .call (.k (.fn (.func 45) [] [])) [.t 5, .t 6]⟩,
  ⟨some 8, none, .bin .geq (.int .i64) true (.t 7) (.k (.int .i64 0))⟩,
  ⟨some 4, none, .mv (.t 8)⟩]) (.ret))⟩
theorem fk37 (G : GT) : FOk Tryd.prog tt G 37 c37 := ⟨_, Tryd.func37, by kernel_rfl⟩
/-- (*comptoir/token.walk).open$1 -/
def c38 : CF := ⟨9, [.t 3], .seq (.ops [⟨some 2, none, .box 33 (.t 0)⟩,
  ⟨some 3, none, .mv (.k (.bool false))⟩]) (.seq (.ops [⟨some 4, none, .fa 0 (.t 2)⟩,
  ⟨some 5, none, .ld none (.t 4)⟩,
  ⟨some 6, none, .fa 0 (.t 1)⟩,
  ⟨some 7, none, .ld none (.t 6)⟩,
  ⟨some 8, none, .bin .eql (.str) false (.t 5) (.t 7)⟩,
  ⟨some 3, none, .mv (.t 8)⟩]) (.ret))⟩
theorem fk38 (G : GT) : FOk Tryd.prog tt G 38 c38 := ⟨_, Tryd.func38, by kernel_rfl⟩
/-- strings.IndexByte -/
def c39 : CF := ⟨8, [.t 4], .seq (.ops [⟨some 4, none, .mv (.k (.int .i64 0))⟩]) (.seq (.ops [⟨some 5, none, .mv (.t 0)⟩,
  ⟨some 6, none, .mv (.t 1)⟩,
  ⟨some 7, none, .call (.k (.fn (.func 46) [] [])) [.t 5, .t 6]⟩,
  ⟨some 4, none, .mv (.t 7)⟩]) (.ret))⟩
theorem fk39 (G : GT) : FOk Tryd.prog tt G 39 c39 := ⟨_, Tryd.func39, by kernel_rfl⟩
def l40_0b : CC := .block 1 (.seq (.ops [⟨some 12, none, .mv (.t 0)⟩,
  ⟨some 13, none, .call (.k (.fn (.func 47) [] [])) [.t 12, .k (.str [38])]⟩,
  ⟨some 11, none, .mv (.t 13)⟩,
  ⟨some 14, none, .ex (.t 11) 0⟩,
  ⟨some 15, none, .ex (.t 11) 1⟩,
  ⟨some 16, none, .ex (.t 11) 2⟩,
  ⟨some 5, none, .mv (.t 14)⟩,
  ⟨some 6, none, .mv (.t 15)⟩,
  ⟨some 7, none, .mv (.t 16)⟩]) (.seq (.ops [⟨some 17, none, .mv (.t 5)⟩,
  ⟨some 18, none, .call (.k (.fn (.func 48) [] [])) [.t 4, .t 17]⟩]) (.seq (.seq (.ops [⟨some 19, none, .mv (.t 7)⟩,
  ⟨some 20, none, .un .not (.t 19)⟩]) (.cond (.t 20) (.seq (.ops [⟨some 21, none, .call (.k (.fn (.func 49) [] [])) [.t 4]⟩,
  ⟨some 2, none, .mv (.t 21)⟩,
  ⟨some 3, none, .mv (.k (.bool true))⟩]) (.ret)) (.skip))) (.seq (.ops [⟨some 23, none, .mv (.t 6)⟩,
  ⟨some 24, none, .call (.k (.fn (.func 47) [] [])) [.t 23, .k (.str [59])]⟩,
  ⟨some 22, none, .mv (.t 24)⟩,
  ⟨some 25, none, .ex (.t 22) 0⟩,
  ⟨some 26, none, .ex (.t 22) 1⟩,
  ⟨some 27, none, .ex (.t 22) 2⟩,
  ⟨some 8, none, .mv (.t 25)⟩,
  ⟨some 9, none, .mv (.t 26)⟩,
  ⟨some 7, none, .mv (.t 27)⟩]) (.seq (.ops [⟨some 28, none, .mv (.t 8)⟩,
  ⟨some 29, none, .call (.k (.fn (.func 50) [] [])) [.t 28]⟩,
  ⟨some 10, none, .mv (.t 29)⟩]) (.seq (.seq (.ops [⟨some 30, none, .mv (.t 7)⟩,
  ⟨some 31, none, .un .not (.t 30)⟩,
  ⟨some 32, none, .mv (.t 31)⟩,
  ⟨some 33, some (32, false), .mv (.t 10)⟩,
  ⟨some 34, some (32, false), .bin .eql (.str) true (.t 33) (.k (.str []))⟩,
  ⟨some 35, none, .pick (.t 32) (.k (.bool true)) (.t 34)⟩]) (.cond (.t 35) (.seq (.ops [⟨some 2, none, .mv (.k (.str []))⟩,
  ⟨some 3, none, .mv (.k (.bool false))⟩]) (.ret)) (.skip))) (.seq (.ops [⟨some 36, none, .mv (.t 10)⟩,
  ⟨some 37, none, .call (.k (.fn (.func 48) [] [])) [.t 4, .t 36]⟩]) (.ops [⟨some 38, none, .mv (.t 9)⟩,
  ⟨some 0, none, .mv (.t 38)⟩]))))))))
def l40_0 : CC := l40_0b
theorem l40_0x (P : Program) (T : TT) (G : GT) (Q : EQ) (t : Env) (σ : St) : aC P T G l40_0 Q t σ = aC P T G l40_0b Q t σ := rfl
/-- comptoir/token.value -/
def c40 : CF := ⟨39, [.t 2, .t 3], .seq (.ops [⟨some 2, none, .mv (.k (.str []))⟩,
  ⟨some 3, none, .mv (.k (.bool false))⟩]) (.seq (.ops [⟨some 4, none, .alloc 78 [.nilp, .nils]⟩]) (.block 0 (.loop l40_0)))⟩
theorem fk40 (G : GT) : FOk Tryd.prog tt G 40 c40 := ⟨_, Tryd.func40, by kernel_rfl⟩
/-- internal/stringslite.HasPrefix -/
def c41 : CF := ⟨18, [.t 4], .seq (.ops [⟨some 4, none, .mv (.k (.bool false))⟩]) (.seq (.ops [⟨some 5, none, .mv (.t 0)⟩,
  ⟨some 6, none, .lens (.t 5)⟩,
  ⟨some 7, none, .mv (.t 1)⟩,
  ⟨some 8, none, .lens (.t 7)⟩,
  ⟨some 9, none, .bin .geq (.int .i64) false (.t 6) (.t 8)⟩,
  ⟨some 10, none, .mv (.t 9)⟩,
  ⟨some 11, some (10, true), .mv (.t 0)⟩,
  ⟨some 12, some (10, true), .mv (.t 1)⟩,
  ⟨some 13, some (10, true), .lens (.t 12)⟩,
  ⟨some 14, some (10, true), .slstr (.t 11) none (some (.t 13))⟩,
  ⟨some 15, some (10, true), .mv (.t 1)⟩,
  ⟨some 16, some (10, true), .bin .eql (.str) false (.t 14) (.t 15)⟩,
  ⟨some 17, none, .pick (.t 10) (.t 16) (.k (.bool false))⟩,
  ⟨some 4, none, .mv (.t 17)⟩]) (.ret))⟩
theorem fk41 (G : GT) : FOk Tryd.prog tt G 41 c41 := ⟨_, Tryd.func41, by kernel_rfl⟩
/-- strings.Contains -/
def c42 : CF := ⟨9, [.t 4], .seq (.ops [⟨some 4, none, .mv (.k (.bool false))⟩]) (.seq (.ops [⟨some 5, none, .mv (.t 0)⟩,
  ⟨some 6, none, .mv (.t 1)⟩,
  ⟨some 7, none, .call (.k (.fn (.func 51) [] [])) [.t 5, .t 6]⟩,
  ⟨some 8, none, .bin .geq (.int .i64) true (.t 7) (.k (.int .i64 0))⟩,
  ⟨some 4, none, .mv (.t 8)⟩]) (.ret))⟩
theorem fk42 (G : GT) : FOk Tryd.prog tt G 42 c42 := ⟨_, Tryd.func42, by kernel_rfl⟩
/-- strings.TrimLeft -/
def c43 : CF := ⟨37, [.t 4], .seq (.ops [⟨some 4, none, .mv (.k (.str []))⟩]) (.seq (.seq (.ops [⟨some 7, none, .mv (.t 0)⟩,
  ⟨some 8, none, .bin .eql (.str) true (.t 7) (.k (.str []))⟩,
  ⟨some 9, none, .mv (.t 8)⟩,
  ⟨some 10, some (9, false), .mv (.t 1)⟩,
  ⟨some 11, some (9, false), .bin .eql (.str) true (.t 10) (.k (.str []))⟩,
  ⟨some 12, none, .pick (.t 9) (.k (.bool true)) (.t 11)⟩]) (.cond (.t 12) (.seq (.ops [⟨some 13, none, .mv (.t 0)⟩,
  ⟨some 4, none, .mv (.t 13)⟩]) (.ret)) (.skip))) (.seq (.seq (.ops [⟨some 14, none, .mv (.t 1)⟩,
  ⟨some 15, none, .lens (.t 14)⟩,
  ⟨some 16, none, .bin .eql (.int .i64) true (.t 15) (.k (.int .i64 1))⟩,
  ⟨some 17, none, .mv (.t 16)⟩,
  ⟨some 18, some (17, true), .mv (.t 1)⟩,
  ⟨some 19, some (17, true), .ixstr (.t 18) (.k (.int .i64 0))⟩,
  ⟨some 20, some (17, true), .bin .lss (.int .u8) true (.t 19) (.k (.int .u8 128))⟩,
  ⟨some 21, none, .pick (.t 17) (.t 20) (.k (.bool false))⟩]) (.cond (.t 21) (.seq (.ops [⟨some 22, none, .mv (.t 0)⟩,
  ⟨some 23, none, .mv (.t 1)⟩,
  ⟨some 24, none, .ixstr (.t 23) (.k (.int .i64 0))⟩,
  ⟨some 25, none, .call (.k (.fn (.func 52) [] [])) [.t 22, .t 24]⟩,
  ⟨some 4, none, .mv (.t 25)⟩]) (.ret)) (.skip))) (.seq (.seq (.ops [⟨some 27, none, .mv (.t 1)⟩,
  ⟨some 28, none, .call (.k (.fn (.func 53) [] [])) [.t 27]⟩,
  ⟨some 26, none, .mv (.t 28)⟩,
  ⟨some 29, none, .ex (.t 26) 0⟩,
  ⟨some 30, none, .ex (.t 26) 1⟩,
  ⟨some 5, none, .alloc 88 (List.replicate 256 (.bool false))⟩,
  ⟨none, none, .st 256 (.t 5) (.t 29)⟩,
  ⟨some 6, none, .mv (.t 30)⟩]) (.seq (.ops [⟨some 31, none, .mv (.t 6)⟩]) (.cond (.t 31) (.seq (.ops [⟨some 32, none, .mv (.t 0)⟩,
  ⟨some 33, none, .call (.k (.fn (.func 54) [] [])) [.t 32, .t 5]⟩,
  ⟨some 4, none, .mv (.t 33)⟩]) (.ret)) (.skip)))) (.seq (.ops [⟨some 34, none, .mv (.t 0)⟩,
  ⟨some 35, none, .mv (.t 1)⟩,
  ⟨some 36, none, .call (.k (.fn (.func 55) [] [])) [.t 34, .t 35]⟩,
  ⟨some 4, none, .mv (.t 36)⟩]) (.ret)))))⟩
theorem fk43 (G : GT) : FOk Tryd.prog tt G 43 c43 := ⟨_, Tryd.func43, by kernel_rfl⟩
def l44_0b : CC := .seq (.ops [⟨some 14, none, .bin .lss (.int .i64) false (.t 13) (.t 12)⟩]) (.seq (.cond (.t 14) (.skip) (.exit 0)) (.seq (.block 1 (.seq (.ops [⟨some 15, none, .ixs 1 (.t 11) (.t 13)⟩,
  ⟨some 16, none, .ld none (.t 15)⟩,
  ⟨some 5, none, .mv (.t 16)⟩]) (.seq (.seq (.ops [⟨some 17, none, .mv (.t 0)⟩,
  ⟨some 18, none, .mv (.t 5)⟩,
  ⟨some 19, none, .call (.k (.fn (.func 17) [] [])) [.t 17, .t 18]⟩,
  ⟨some 20, none, .un .not (.t 19)⟩]) (.cond (.t 20) (.exit 1) (.skip))) (.seq (.ops [⟨some 22, none, .mv (.t 0)⟩,
  ⟨some 23, none, .nilc (.t 22)⟩,
  ⟨some 24, none, .fa 0 (.t 23)⟩,
  ⟨some 25, none, .ld none (.t 24)⟩,
  ⟨some 26, none, .mv (.t 5)⟩,
  ⟨some 27, none, .call (.k (.fn (.func 47) [] [])) [.t 25, .t 26]⟩,
  ⟨some 21, none, .mv (.t 27)⟩,
  ⟨some 28, none, .ex (.t 21) 0⟩,
  ⟨some 29, none, .ex (.t 21) 1⟩,
  ⟨some 30, none, .ex (.t 21) 2⟩,
  ⟨some 6, none, .mv (.t 28)⟩,
  ⟨some 7, none, .mv (.t 29)⟩,
  ⟨some 8, none, .mv (.t 30)⟩]) (.seq (.ops [⟨some 31, none, .mv (.t 0)⟩,
  ⟨some 32, none, .mv (.t 7)⟩,
  ⟨some 33, none, .nilc (.t 31)⟩,
  ⟨some 34, none, .fa 0 (.t 33)⟩,
  ⟨none, none, .st 1 (.t 34) (.t 32)⟩]) (.seq (.ops [⟨some 36, none, .mv (.t 6)⟩,
  ⟨some 37, none, .call (.k (.fn (.func 40) [] [])) [.t 36]⟩,
  ⟨some 35, none, .mv (.t 37)⟩,
  ⟨some 38, none, .ex (.t 35) 0⟩,
  ⟨some 39, none, .ex (.t 35) 1⟩,
  ⟨some 9, none, .mv (.t 38)⟩,
  ⟨some 10, none, .mv (.t 39)⟩]) (.seq (.ops [⟨some 40, none, .mv (.t 9)⟩,
  ⟨some 41, none, .mv (.t 8)⟩,
  ⟨some 42, none, .mv (.t 41)⟩,
  ⟨some 43, some (42, true), .mv (.t 10)⟩,
  ⟨some 44, none, .pick (.t 42) (.t 43) (.k (.bool false))⟩,
  ⟨some 45, none, .mv (.t 44)⟩,
  ⟨some 46, some (45, true), .mv (.t 6)⟩,
  ⟨some 47, some (45, true), .call (.k (.fn (.func 42) [] [])) [.t 46, .k (.str [60])]⟩,
  ⟨some 48, some (45, true), .un .not (.t 47)⟩,
  ⟨some 49, none, .pick (.t 45) (.t 48) (.k (.bool false))⟩,
  ⟨some 2, none, .mv (.t 40)⟩,
  ⟨some 3, none, .mv (.t 49)⟩]) (.ret)))))))) (.ops [⟨some 50, none, .bin .add (.int .i64) true (.t 13) (.k (.int .i64 1))⟩,
  ⟨some 13, none, .mv (.t 50)⟩])))
def l44_0 : CC := l44_0b
theorem l44_0x (P : Program) (T : TT) (G : GT) (Q : EQ) (t : Env) (σ : St) : aC P T G l44_0 Q t σ = aC P T G l44_0b Q t σ := rfl
/-- (*comptoir/token.walk).quoted -/
def c44 : CF := ⟨51, [.t 2, .t 3], .seq (.ops [⟨some 2, none, .mv (.k (.str []))⟩,
  ⟨some 3, none, .mv (.k (.bool false))⟩]) (.seq (.seq (.ops [⟨some 11, none, .mks 9 1 [.str []] 2 [(0, .k (.str [34])), (1, .k (.str [39]))]⟩,
  ⟨some 12, none, .lenl (.t 11)⟩,
  ⟨some 13, none, .mv (.k (.int .i64 0))⟩]) (.block 0 (.loop l44_0))) (.seq (.ops [⟨some 2, none, .mv (.k (.str []))⟩,
  ⟨some 3, none, .mv (.k (.bool false))⟩]) (.ret)))⟩
theorem fk44 (G : GT) : FOk Tryd.prog tt G 44 c44 := ⟨_, Tryd.func44, by kernel_rfl⟩
def l45_0b : CC := .seq (.ops [⟨some 9, none, .bin .lss (.int .i64) false (.t 8) (.t 7)⟩]) (.seq (.cond (.t 9) (.skip) (.exit 0)) (.seq (.block 1 (.seq (.ops [⟨some 10, none, .mv (.t 8)⟩,
  ⟨some 5, none, .mv (.t 10)⟩]) (.seq (.ops [⟨some 11, none, .mv (.t 1)⟩,
  ⟨some 12, none, .mv (.t 0)⟩,
  ⟨some 13, none, .mv (.t 5)⟩,
  ⟨some 14, none, .ixs 2 (.t 12) (.t 13)⟩,
  ⟨some 15, none, .ld (some 2) (.t 14)⟩,
  ⟨some 16, none, .call (.t 11) [.t 15]⟩]) (.cond (.t 16) (.seq (.ops [⟨some 17, none, .mv (.t 5)⟩,
  ⟨some 4, none, .mv (.t 17)⟩]) (.ret)) (.skip))))) (.ops [⟨some 18, none, .bin .add (.int .i64) true (.t 8) (.k (.int .i64 1))⟩,
  ⟨some 8, none, .mv (.t 18)⟩])))
def l45_0 : CC := l45_0b
theorem l45_0x (P : Program) (T : TT) (G : GT) (Q : EQ) (t : Env) (σ : St) : aC P T G l45_0 Q t σ = aC P T G l45_0b Q t σ := rfl
/-- slices.IndexFunc[[]comptoir/api.Attr,comptoir/api.Attr] -/
def c45 : CF := ⟨19, [.t 4], .seq (.ops [⟨some 4, none, .mv (.k (.int .i64 0))⟩]) (.seq (.seq (.ops [⟨some 6, none, .mv (.t 0)⟩,
  ⟨some 7, none, .lenl (.t 6)⟩,
  ⟨some 8, none, .mv (.k (.int .i64 0))⟩]) (.block 0 (.loop l45_0))) (.seq (.ops [⟨some 4, none, .mv (.k (.int .i64 (-1)))⟩]) (.ret)))⟩
theorem fk45 (G : GT) : FOk Tryd.prog tt G 45 c45 := ⟨_, Tryd.func45, by kernel_rfl⟩
/-- internal/stringslite.IndexByte -/
def c46 : CF := ⟨8, [.t 4], .seq (.ops [⟨some 4, none, .mv (.k (.int .i64 0))⟩]) (.seq (.ops [⟨some 5, none, .mv (.t 0)⟩,
  ⟨some 6, none, .mv (.t 1)⟩,
  ⟨some 7, none, .call (.k (.fn (.func 56) [] [])) [.t 5, .t 6]⟩,
  ⟨some 4, none, .mv (.t 7)⟩]) (.ret))⟩
theorem fk46 (G : GT) : FOk Tryd.prog tt G 46 c46 := ⟨_, Tryd.func46, by kernel_rfl⟩
/-- strings.Cut -/
def c47 : CF := ⟨13, [.t 4, .t 5, .t 6], .seq (.ops [⟨some 4, none, .mv (.k (.str []))⟩,
  ⟨some 5, none, .mv (.k (.str []))⟩,
  ⟨some 6, none, .mv (.k (.bool false))⟩]) (.seq (.ops [⟨some 7, none, .mv (.t 0)⟩,
  ⟨some 8, none, .mv (.t 1)⟩,
  ⟨some 9, none, .call (.k (.fn (.func 57) [] [])) [.t 7, .t 8]⟩,
  ⟨some 10, none, .ex (.t 9) 0⟩,
  ⟨some 11, none, .ex (.t 9) 1⟩,
  ⟨some 12, none, .ex (.t 9) 2⟩,
  ⟨some 4, none, .mv (.t 10)⟩,
  ⟨some 5, none, .mv (.t 11)⟩,
  ⟨some 6, none, .mv (.t 12)⟩]) (.ret))⟩
theorem fk47 (G : GT) : FOk Tryd.prog tt G 47 c47 := ⟨_, Tryd.func47, by kernel_rfl⟩
/-- (*strings.Builder).WriteString -/
def c48 : CF := ⟨19, [.t 4, .t 5], .seq (.ops [⟨some 4, none, .mv (.k (.int .i64 0))⟩,
  ⟨some 5, none, .mv (.k (.nili))⟩]) (.seq (.ops [⟨some 6, none, .mv (.t 0)⟩,
  ⟨some 7, none, .call (.k (.fn (.func 58) [] [])) [.t 6]⟩]) (.seq (.ops [⟨some 8, none, .mv (.t 0)⟩,
  ⟨some 9, none, .mv (.t 0)⟩,
  ⟨some 10, none, .nilc (.t 9)⟩,
  ⟨some 11, none, .fa 1 (.t 10)⟩,
  ⟨some 12, none, .ld none (.t 11)⟩,
  ⟨some 13, none, .mv (.t 1)⟩,
  ⟨some 14, none, .app 5 1 1 (.t 12) (.t 13)⟩,
  ⟨some 15, none, .nilc (.t 8)⟩,
  ⟨some 16, none, .fa 1 (.t 15)⟩,
  ⟨none, none, .st 1 (.t 16) (.t 14)⟩]) (.seq (.ops [⟨some 17, none, .mv (.t 1)⟩,
  ⟨some 18, none, .lens (.t 17)⟩,
  ⟨some 4, none, .mv (.t 18)⟩,
  ⟨some 5, none, .mv (.k (.nili))⟩]) (.ret))))⟩
theorem fk48 (G : GT) : FOk Tryd.prog tt G 48 c48 := ⟨_, Tryd.func48, by kernel_rfl⟩
/-- comptoir/token.sign -/
def c50 : CF := ⟨34, [.t 2], .seq (.ops [⟨some 2, none, .mv (.k (.str []))⟩]) (.seq (.seq (.ops [⟨some 7, none, .mv (.t 0)⟩]) (.block 0 (.seq (.ops [⟨some 9, none, .bin .eql (.str) true (.t 7) (.k (.str [108, 116]))⟩,
  ⟨some 8, none, .mv (.t 9)⟩]) (.cond (.t 8) (.seq (.ops [⟨some 2, none, .mv (.k (.str [60]))⟩]) (.ret)) (.seq (.ops [⟨some 11, none, .bin .eql (.str) true (.t 7) (.k (.str [103, 116]))⟩,
  ⟨some 10, none, .mv (.t 11)⟩]) (.cond (.t 10) (.seq (.ops [⟨some 2, none, .mv (.k (.str [62]))⟩]) (.ret)) (.seq (.ops [⟨some 13, none, .bin .eql (.str) true (.t 7) (.k (.str [97, 109, 112]))⟩,
  ⟨some 12, none, .mv (.t 13)⟩]) (.cond (.t 12) (.seq (.ops [⟨some 2, none, .mv (.k (.str [38]))⟩]) (.ret)) (.seq (.ops [⟨some 15, none, .bin .eql (.str) true (.t 7) (.k (.str [113, 117, 111, 116]))⟩,
  ⟨some 14, none, .mv (.t 15)⟩]) (.cond (.t 14) (.seq (.ops [⟨some 2, none, .mv (.k (.str [34]))⟩]) (.ret)) (.seq (.ops [⟨some 17, none, .bin .eql (.str) true (.t 7) (.k (.str [97, 112, 111, 115]))⟩,
  ⟨some 16, none, .mv (.t 17)⟩]) (.cond (.t 16) (.seq (.ops [⟨some 2, none, .mv (.k (.str [39]))⟩]) (.ret)) (.skip))))))))))))) (.seq (.seq (.ops [⟨some 19, none, .mv (.t 0)⟩,
  ⟨some 20, none, .call (.k (.fn (.func 25) [] [])) [.t 19, .k (.str [35, 120])]⟩,
  ⟨some 18, none, .mv (.t 20)⟩,
  ⟨some 21, none, .ex (.t 18) 0⟩,
  ⟨some 22, none, .ex (.t 18) 1⟩,
  ⟨some 3, none, .mv (.t 21)⟩,
  ⟨some 4, none, .mv (.t 22)⟩]) (.seq (.ops [⟨some 23, none, .mv (.t 4)⟩]) (.cond (.t 23) (.seq (.ops [⟨some 24, none, .mv (.t 3)⟩,
  ⟨some 25, none, .call (.k (.fn (.func 59) [] [])) [.t 24, .k (.str [48, 49, 50, 51, 52, 53, 54, 55, 56, 57, 97, 98, 99, 100, 101, 102, 65, 66, 67, 68, 69, 70]), .k (.int .i64 6), .k (.int .i64 16)]⟩,
  ⟨some 2, none, .mv (.t 25)⟩]) (.ret)) (.skip)))) (.seq (.seq (.ops [⟨some 27, none, .mv (.t 0)⟩,
  ⟨some 28, none, .call (.k (.fn (.func 25) [] [])) [.t 27, .k (.str [35])]⟩,
  ⟨some 26, none, .mv (.t 28)⟩,
  ⟨some 29, none, .ex (.t 26) 0⟩,
  ⟨some 30, none, .ex (.t 26) 1⟩,
  ⟨some 5, none, .mv (.t 29)⟩,
  ⟨some 6, none, .mv (.t 30)⟩]) (.seq (.ops [⟨some 31, none, .mv (.t 6)⟩]) (.cond (.t 31) (.seq (.ops [⟨some 32, none, .mv (.t 5)⟩,
  ⟨some 33, none, .call (.k (.fn (.func 59) [] [])) [.t 32, .k (.str [48, 49, 50, 51, 52, 53, 54, 55, 56, 57]), .k (.int .i64 7), .k (.int .i64 10)]⟩,
  ⟨some 2, none, .mv (.t 33)⟩]) (.ret)) (.skip)))) (.seq (.ops [⟨some 2, none, .mv (.k (.str []))⟩]) (.ret)))))⟩
theorem fk50 (G : GT) : FOk Tryd.prog tt G 50 c50 := ⟨_, Tryd.func50, by kernel_rfl⟩
/-- strings.Index -/
def c51 : CF := ⟨8, [.t 4], .seq (.ops [⟨some 4, none, .mv (.k (.int .i64 0))⟩]) (.seq (.ops [⟨some 5, none, .mv (.t 0)⟩,
  ⟨some 6, none, .mv (.t 1)⟩,
  ⟨some 7, none, .call (.k (.fn (.func 60) [] [])) [.t 5, .t 6]⟩,
  ⟨some 4, none, .mv (.t 7)⟩]) (.ret))⟩
theorem fk51 (G : GT) : FOk Tryd.prog tt G 51 c51 := ⟨_, Tryd.func51, by kernel_rfl⟩
def l52_0b : CC := .seq (.seq (.ops [⟨some 5, none, .mv (.t 0)⟩,
  ⟨some 6, none, .lens (.t 5)⟩,
  ⟨some 7, none, .bin .gtr (.int .i64) true (.t 6) (.k (.int .i64 0))⟩,
  ⟨some 8, none, .mv (.t 7)⟩,
  ⟨some 9, some (8, true), .mv (.t 0)⟩,
  ⟨some 10, some (8, true), .ixstr (.t 9) (.k (.int .i64 0))⟩,
  ⟨some 11, some (8, true), .mv (.t 1)⟩,
  ⟨some 12, some (8, true), .bin .eql (.int .u8) false (.t 10) (.t 11)⟩,
  ⟨some 13, none, .pick (.t 8) (.t 12) (.k (.bool false))⟩]) (.cond (.t 13) (.skip) (.exit 0))) (.block 1 (.ops [⟨some 14, none, .mv (.t 0)⟩,
  ⟨some 15, none, .slstr (.t 14) (some (.k (.int .i64 1))) none⟩,
  ⟨some 0, none, .mv (.t 15)⟩]))
def l52_0 : CC := l52_0b
theorem l52_0x (P : Program) (T : TT) (G : GT) (Q : EQ) (t : Env) (σ : St) : aC P T G l52_0 Q t σ = aC P T G l52_0b Q t σ := rfl
/-- strings.trimLeftByte -/
def c52 : CF := ⟨17, [.t 4], .seq (.ops [⟨some 4, none, .mv (.k (.str []))⟩]) (.seq (.block 0 (.loop l52_0)) (.seq (.ops [⟨some 16, none, .mv (.t 0)⟩,
  ⟨some 4, none, .mv (.t 16)⟩]) (.ret)))⟩
theorem fk52 (G : GT) : FOk Tryd.prog tt G 52 c52 := ⟨_, Tryd.func52, by kernel_rfl⟩
def l53_0b : CC := .seq (.seq (.ops [⟨some 6, none, .mv (.t 4)⟩,
  ⟨some 7, none, .mv (.t 0)⟩,
  ⟨some 8, none, .lens (.t 7)⟩,
  ⟨some 9, none, .bin .lss (.int .i64) false (.t 6) (.t 8)⟩]) (.cond (.t 9) (.skip) (.exit 0))) (.seq (.block 1 (.seq (.ops [⟨some 12, none, .mv (.t 0)⟩,
  ⟨some 13, none, .mv (.t 4)⟩,
  ⟨some 14, none, .ixstr (.t 12) (.t 13)⟩,
  ⟨some 5, none, .mv (.t 14)⟩]) (.seq (.seq (.ops [⟨some 15, none, .mv (.t 5)⟩,
  ⟨some 16, none, .bin .geq (.int .u8) true (.t 15) (.k (.int .u8 128))⟩]) (.cond (.t 16) (.seq (.ops [⟨some 17, none, .ld (some 256) (.t 2)⟩,
  ⟨none, none, .st 256 (.t 2) (.t 17)⟩,
  ⟨some 3, none, .mv (.k (.bool false))⟩]) (.ret)) (.skip))) (.ops [⟨some 18, none, .mv (.t 5)⟩,
  ⟨some 19, none, .ixa 256 1 (.t 2) (.t 18)⟩,
  ⟨none, none, .st 1 (.t 19) (.k (.bool true))⟩])))) (.ops [⟨some 10, none, .mv (.t 4)⟩,
  ⟨some 11, none, .bin .add (.int .i64) true (.t 10) (.k (.int .i64 1))⟩,
  ⟨some 4, none, .mv (.t 11)⟩]))
def l53_0 : CC := l53_0b
theorem l53_0x (P : Program) (T : TT) (G : GT) (Q : EQ) (t : Env) (σ : St) : aC P T G l53_0 Q t σ = aC P T G l53_0b Q t σ := rfl
/-- strings.makeASCIISet -/
def c53 : CF := ⟨21, [.c 2 (some 256), .t 3], .seq (.ops [⟨some 2, none, .alloc 88 (List.replicate 256 (.bool false))⟩,
  ⟨some 3, none, .mv (.k (.bool false))⟩]) (.seq (.seq (.ops [⟨some 4, none, .mv (.k (.int .i64 0))⟩]) (.block 0 (.loop l53_0))) (.seq (.ops [⟨some 20, none, .ld (some 256) (.t 2)⟩,
  ⟨none, none, .st 256 (.t 2) (.t 20)⟩,
  ⟨some 3, none, .mv (.k (.bool true))⟩]) (.ret)))⟩
theorem fk53 (G : GT) : FOk Tryd.prog tt G 53 c53 := ⟨_, Tryd.func53, by kernel_rfl⟩
def l54_0b : CC := .seq (.seq (.ops [⟨some 5, none, .mv (.t 0)⟩,
  ⟨some 6, none, .lens (.t 5)⟩,
  ⟨some 7, none, .bin .gtr (.int .i64) true (.t 6) (.k (.int .i64 0))⟩]) (.cond (.t 7) (.skip) (.exit 0))) (.block 1 (.seq (.seq (.ops [⟨some 8, none, .mv (.t 1)⟩,
  ⟨some 9, none, .mv (.t 0)⟩,
  ⟨some 10, none, .ixstr (.t 9) (.k (.int .i64 0))⟩,
  ⟨some 11, none, .call (.k (.fn (.func 61) [] [])) [.t 8, .t 10]⟩,
  ⟨some 12, none, .un .not (.t 11)⟩]) (.cond (.t 12) (.exit 0) (.skip))) (.ops [⟨some 13, none, .mv (.t 0)⟩,
  ⟨some 14, none, .slstr (.t 13) (some (.k (.int .i64 1))) none⟩,
  ⟨some 0, none, .mv (.t 14)⟩])))
def l54_0 : CC := l54_0b
theorem l54_0x (P : Program) (T : TT) (G : GT) (Q : EQ) (t : Env) (σ : St) : aC P T G l54_0 Q t σ = aC P T G l54_0b Q t σ := rfl
/-- strings.trimLeftASCII -/
def c54 : CF := ⟨16, [.t 4], .seq (.ops [⟨some 4, none, .mv (.k (.str []))⟩]) (.seq (.block 0 (.loop l54_0)) (.seq (.ops [⟨some 15, none, .mv (.t 0)⟩,
  ⟨some 4, none, .mv (.t 15)⟩]) (.ret)))⟩
theorem fk54 (G : GT) : FOk Tryd.prog tt G 54 c54 := ⟨_, Tryd.func54, by kernel_rfl⟩
def l55_0b : CC := .seq (.seq (.ops [⟨some 7, none, .mv (.t 0)⟩,
  ⟨some 8, none, .lens (.t 7)⟩,
  ⟨some 9, none, .bin .gtr (.int .i64) true (.t 8) (.k (.int .i64 0))⟩]) (.cond (.t 9) (.skip) (.exit 0))) (.block 1 (.seq (.ops [⟨some 11, none, .mv (.t 0)⟩,
  ⟨some 12, none, .call (.k (.fn (.func 62) [] [])) [.t 11]⟩,
  ⟨some 10, none, .mv (.t 12)⟩,
  ⟨some 13, none, .ex (.t 10) 0⟩,
  ⟨some 14, none, .ex (.t 10) 1⟩,
  ⟨some 5, none, .mv (.t 13)⟩,
  ⟨some 6, none, .mv (.t 14)⟩]) (.seq (.seq (.ops [⟨some 15, none, .mv (.t 1)⟩,
  ⟨some 16, none, .mv (.t 5)⟩,
  ⟨some 17, none, .call (.k (.fn (.func 63) [] [])) [.t 15, .t 16]⟩,
  ⟨some 18, none, .un .not (.t 17)⟩]) (.cond (.t 18) (.exit 0) (.skip))) (.ops [⟨some 19, none, .mv (.t 0)⟩,
  ⟨some 20, none, .mv (.t 6)⟩,
  ⟨some 21, none, .slstr (.t 19) (some (.t 20)) none⟩,
  ⟨some 0, none, .mv (.t 21)⟩]))))
def l55_0 : CC := l55_0b
theorem l55_0x (P : Program) (T : TT) (G : GT) (Q : EQ) (t : Env) (σ : St) : aC P T G l55_0 Q t σ = aC P T G l55_0b Q t σ := rfl
/-- strings.trimLeftUnicode -/
def c55 : CF := ⟨23, [.t 4], .seq (.ops [⟨some 4, none, .mv (.k (.str []))⟩]) (.seq (.block 0 (.loop l55_0)) (.seq (.ops [⟨some 22, none, .mv (.t 0)⟩,
  ⟨some 4, none, .mv (.t 22)⟩]) (.ret)))⟩
theorem fk55 (G : GT) : FOk Tryd.prog tt G 55 c55 := ⟨_, Tryd.func55, by kernel_rfl⟩
/-- internal/stringslite.Cut -/
def c57 : CF := ⟨23, [.t 4, .t 5, .t 6], .seq (.ops [⟨some 4, none, .mv (.k (.str []))⟩,
  ⟨some 5, none, .mv (.k (.str []))⟩,
  ⟨some 6, none, .mv (.k (.bool false))⟩]) (.seq (.seq (.ops [⟨some 8, none, .mv (.t 0)⟩,
  ⟨some 9, none, .mv (.t 1)⟩,
  ⟨some 10, none, .call (.k (.fn (.func 60) [] [])) [.t 8, .t 9]⟩,
  ⟨some 7, none, .mv (.t 10)⟩]) (.seq (.ops [⟨some 11, none, .mv (.t 7)⟩,
  ⟨some 12, none, .bin .geq (.int .i64) true (.t 11) (.k (.int .i64 0))⟩]) (.cond (.t 12) (.seq (.draw [⟨some 13, none, .mv (.t 0)⟩,
  ⟨some 14, none, .mv (.t 7)⟩,
  ⟨some 15, none, .slstr (.t 13) none (some (.t 14))⟩,
  ⟨some 16, none, .mv (.t 0)⟩,
  ⟨some 17, none, .mv (.t 7)⟩,
  ⟨some 18, none, .mv (.t 1)⟩,
  ⟨some 19, none, .lens (.t 18)⟩,
  ⟨some 20, none, .bin .add (.int .i64) false (.t 17) (.t 19)⟩,
  ⟨some 21, none, .slstr (.t 16) (some (.t 20)) none⟩,
  ⟨some 4, none, .mv (.t 15)⟩,
  ⟨some 5, none, .mv (.t 21)⟩,
  ⟨some 6, none, .mv (.k (.bool true))⟩]) (.ret)) (.skip)))) (.seq (.ops [⟨some 22, none, .mv (.t 0)⟩,
  ⟨some 4, none, .mv (.t 22)⟩,
  ⟨some 5, none, .mv (.k (.str []))⟩,
  ⟨some 6, none, .mv (.k (.bool false))⟩]) (.ret)))⟩
theorem fk57 (G : GT) : FOk Tryd.prog tt G 57 c57 := ⟨_, Tryd.func57, by kernel_rfl⟩
/-- comptoir/token.number -/
def c59 : CF := ⟨53, [.t 8], .seq (.ops [⟨some 8, none, .mv (.k (.str []))⟩]) (.seq (.seq (.ops [⟨some 12, none, .mv (.t 0)⟩,
  ⟨some 13, none, .bin .eql (.str) true (.t 12) (.k (.str []))⟩,
  ⟨some 14, none, .mv (.t 13)⟩,
  ⟨some 15, some (14, false), .mv (.t 0)⟩,
  ⟨some 16, some (14, false), .lens (.t 15)⟩,
  ⟨some 17, some (14, false), .mv (.t 2)⟩,
  ⟨some 18, some (14, false), .bin .gtr (.int .i64) false (.t 16) (.t 17)⟩,
  ⟨some 19, none, .pick (.t 14) (.k (.bool true)) (.t 18)⟩,
  ⟨some 20, none, .mv (.t 19)⟩,
  ⟨some 21, some (20, false), .mv (.t 0)⟩,
  ⟨some 22, some (20, false), .mv (.t 1)⟩,
  ⟨some 23, some (20, false), .call (.k (.fn (.func 66) [] [])) [.t 21, .t 22]⟩,
  ⟨some 24, some (20, false), .mv (.t 1)⟩,
  ⟨some 25, some (20, false), .call (.k (.fn (.func 65) [] [])) [.t 23, .t 24]⟩,
  ⟨some 26, some (20, false), .bin .neq (.str) true (.t 25) (.k (.str []))⟩,
  ⟨some 27, none, .pick (.t 20) (.k (.bool true)) (.t 26)⟩]) (.cond (.t 27) (.seq (.ops [⟨some 8, none, .mv (.k (.str []))⟩]) (.ret)) (.skip))) (.seq (.ops [⟨some 29, none, .mv (.t 0)⟩,
  ⟨some 30, none, .mv (.t 3)⟩,
  ⟨some 31, none, .call (.k (.fn (.func 67) [] [])) [.t 29, .t 30, .k (.int .i64 32)]⟩,
  ⟨some 28, none, .mv (.t 31)⟩,
  ⟨some 32, none, .ex (.t 28) 0⟩,
  ⟨some 33, none, .ex (.t 28) 1⟩,
  ⟨some 9, none, .mv (.t 32)⟩,
  ⟨some 10, none, .mv (.t 33)⟩]) (.seq (.seq (.ops [⟨some 34, none, .mv (.t 10)⟩,
  ⟨some 35, none, .bin .neq (.iface) true (.t 34) (.k (.nili))⟩,
  ⟨some 36, none, .mv (.t 35)⟩,
  ⟨some 37, some (36, false), .mv (.t 9)⟩,
  ⟨some 38, some (36, false), .bin .gtr (.int .u64) true (.t 37) (.k (.int .u64 1114111))⟩,
  ⟨some 39, none, .pick (.t 36) (.k (.bool true)) (.t 38)⟩,
  ⟨some 40, none, .mv (.t 39)⟩,
  ⟨some 41, some (40, false), .mv (.t 9)⟩,
  ⟨some 42, some (40, false), .cvi .i32 (.t 41)⟩,
  ⟨some 43, some (40, false), .call (.k (.fn (.func 68) [] [])) [.t 42]⟩,
  ⟨some 44, some (40, false), .un .not (.t 43)⟩,
  ⟨some 45, none, .pick (.t 40) (.k (.bool true)) (.t 44)⟩]) (.cond (.t 45) (.seq (.ops [⟨some 8, none, .mv (.k (.str []))⟩]) (.ret)) (.skip))) (.seq (.ops [⟨some 46, none, .mv (.t 9)⟩,
  ⟨some 47, none, .cvi .i32 (.t 46)⟩,
  ⟨some 48, none, .cvs (.t 47)⟩,
  ⟨some 11, none, .mv (.t 48)⟩]) (.seq (.seq (.ops [⟨some 49, none, .mv (.t 11)⟩,
  ⟨some 50, none, .call (.k (.fn (.func 16) [] [])) [.t 49]⟩,
  ⟨some 51, none, .un .not (.t 50)⟩]) (.cond (.t 51) (.seq (.ops [⟨some 8, none, .mv (.k (.str []))⟩]) (.ret)) (.skip))) (.seq (.ops [⟨some 52, none, .mv (.t 11)⟩,
  ⟨some 8, none, .mv (.t 52)⟩]) (.ret)))))))⟩
theorem fk59 (G : GT) : FOk Tryd.prog tt G 59 c59 := ⟨_, Tryd.func59, by kernel_rfl⟩
/-- (*strings.asciiSet).contains -/
def c61 : CF := ⟨10, [.t 4], .seq (.ops [⟨some 4, none, .mv (.k (.bool false))⟩]) (.seq (.ops [⟨some 5, none, .mv (.t 0)⟩,
  ⟨some 6, none, .mv (.t 1)⟩,
  ⟨some 7, none, .nilc (.t 5)⟩,
  ⟨some 8, none, .ixa 256 1 (.t 7) (.t 6)⟩,
  ⟨some 9, none, .ld none (.t 8)⟩,
  ⟨some 4, none, .mv (.t 9)⟩]) (.ret))⟩
theorem fk61 (G : GT) : FOk Tryd.prog tt G 61 c61 := ⟨_, Tryd.func61, by kernel_rfl⟩
/-- unicode/utf8.DecodeRuneInString -/
def c62 : CF := ⟨19, [.t 2, .t 3], .seq (.ops [⟨some 2, none, .mv (.k (.int .i32 0))⟩,
  ⟨some 3, none, .mv (.k (.int .i64 0))⟩]) (.seq (.seq (.ops [⟨some 4, none, .mv (.t 0)⟩,
  ⟨some 5, none, .bin .neq (.str) true (.t 4) (.k (.str []))⟩,
  ⟨some 6, none, .mv (.t 5)⟩,
  ⟨some 7, some (6, true), .mv (.t 0)⟩,
  ⟨some 8, some (6, true), .ixstr (.t 7) (.k (.int .i64 0))⟩,
  ⟨some 9, some (6, true), .bin .lss (.int .u8) true (.t 8) (.k (.int .u8 128))⟩,
  ⟨some 10, none, .pick (.t 6) (.t 9) (.k (.bool false))⟩]) (.cond (.t 10) (.seq (.ops [⟨some 11, none, .mv (.t 0)⟩,
  ⟨some 12, none, .ixstr (.t 11) (.k (.int .i64 0))⟩,
  ⟨some 13, none, .cvi .i32 (.t 12)⟩,
  ⟨some 2, none, .mv (.t 13)⟩,
  ⟨some 3, none, .mv (.k (.int .i64 1))⟩]) (.ret)) (.ops [⟨some 15, none, .mv (.t 0)⟩,
  ⟨some 16, none, .call (.k (.fn (.func 72) [] [])) [.t 15]⟩,
  ⟨some 14, none, .mv (.t 16)⟩,
  ⟨some 17, none, .ex (.t 14) 0⟩,
  ⟨some 18, none, .ex (.t 14) 1⟩,
  ⟨some 2, none, .mv (.t 17)⟩,
  ⟨some 3, none, .mv (.t 18)⟩]))) (.ret))⟩
theorem fk62 (G : GT) : FOk Tryd.prog tt G 62 c62 := ⟨_, Tryd.func62, by kernel_rfl⟩
/-- strings.ContainsRune -/
def c63 : CF := ⟨9, [.t 4], .seq (.ops [⟨some 4, none, .mv (.k (.bool false))⟩]) (.seq (.ops [⟨some 5, none, .mv (.t 0)⟩,
  ⟨some 6, none, .mv (.t 1)⟩,
  ⟨some 7, none, .call (.k (.fn (.func 73) [] [])) [.t 5, .t 6]⟩,
  ⟨some 8, none, .bin .geq (.int .i64) true (.t 7) (.k (.int .i64 0))⟩,
  ⟨some 4, none, .mv (.t 8)⟩]) (.ret))⟩
theorem fk63 (G : GT) : FOk Tryd.prog tt G 63 c63 := ⟨_, Tryd.func63, by kernel_rfl⟩
def l65_0b : CC := .seq (.ops [⟨some 20, none, .more .nxt [.t 19]⟩,
  ⟨some 21, none, .ex (.t 20) 0⟩]) (.seq (.cond (.t 21) (.skip) (.exit 2)) (.block 3 (.seq (.ops [⟨some 22, none, .ex (.t 20) 2⟩,
  ⟨some 9, none, .mv (.t 22)⟩]) (.ops [⟨some 23, none, .mv (.t 7)⟩,
  ⟨some 24, none, .mv (.t 23)⟩,
  ⟨some 25, some (24, false), .mv (.t 5)⟩,
  ⟨some 26, some (24, false), .mv (.t 9)⟩,
  ⟨some 27, some (24, false), .bin .eql (.int .i32) false (.t 25) (.t 26)⟩,
  ⟨some 28, none, .pick (.t 24) (.k (.bool true)) (.t 27)⟩,
  ⟨some 7, none, .mv (.t 28)⟩]))))
def l65_0 : CC := l65_0b
theorem l65_0x (P : Program) (T : TT) (G : GT) (Q : EQ) (t : Env) (σ : St) : aC P T G l65_0 Q t σ = aC P T G l65_0b Q t σ := rfl
def l65_1b : CC := .seq (.seq (.ops [⟨some 10, none, .mv (.t 0)⟩,
  ⟨some 11, none, .lens (.t 10)⟩,
  ⟨some 12, none, .bin .gtr (.int .i64) true (.t 11) (.k (.int .i64 0))⟩]) (.cond (.t 12) (.skip) (.exit 0))) (.block 1 (.seq (.ops [⟨some 14, none, .mv (.t 0)⟩,
  ⟨some 15, none, .call (.k (.fn (.func 74) [] [])) [.t 14]⟩,
  ⟨some 13, none, .mv (.t 15)⟩,
  ⟨some 16, none, .ex (.t 13) 0⟩,
  ⟨some 17, none, .ex (.t 13) 1⟩,
  ⟨some 5, none, .mv (.t 16)⟩,
  ⟨some 6, none, .mv (.t 17)⟩]) (.seq (.ops [⟨some 7, none, .mv (.k (.bool false))⟩]) (.seq (.seq (.ops [⟨some 18, none, .mv (.t 1)⟩,
  ⟨some 19, none, .more .rng [.t 18]⟩]) (.block 2 (.loop l65_0))) (.seq (.seq (.ops [⟨some 29, none, .mv (.t 7)⟩,
  ⟨some 30, none, .un .not (.t 29)⟩]) (.cond (.t 30) (.seq (.ops [⟨some 31, none, .mv (.t 0)⟩,
  ⟨some 4, none, .mv (.t 31)⟩]) (.ret)) (.skip))) (.ops [⟨some 32, none, .mv (.t 0)⟩,
  ⟨some 33, none, .mv (.t 0)⟩,
  ⟨some 34, none, .lens (.t 33)⟩,
  ⟨some 35, none, .mv (.t 6)⟩,
  ⟨some 36, none, .bin .sub (.int .i64) false (.t 34) (.t 35)⟩,
  ⟨some 37, none, .slstr (.t 32) none (some (.t 36))⟩,
  ⟨some 0, none, .mv (.t 37)⟩]))))))
def l65_1 : CC := l65_1b
theorem l65_1x (P : Program) (T : TT) (G : GT) (Q : EQ) (t : Env) (σ : St) : aC P T G l65_1 Q t σ = aC P T G l65_1b Q t σ := rfl
/-- comptoir/token.cutRight -/
def c65 : CF := ⟨39, [.t 4], .seq (.ops [⟨some 4, none, .mv (.k (.str []))⟩]) (.seq (.block 0 (.loop l65_1)) (.seq (.ops [⟨some 38, none, .mv (.t 0)⟩,
  ⟨some 4, none, .mv (.t 38)⟩]) (.ret)))⟩
theorem fk65 (G : GT) : FOk Tryd.prog tt G 65 c65 := ⟨_, Tryd.func65, by kernel_rfl⟩
def l66_0b : CC := .seq (.ops [⟨some 18, none, .more .nxt [.t 17]⟩,
  ⟨some 19, none, .ex (.t 18) 0⟩]) (.seq (.cond (.t 19) (.skip) (.exit 2)) (.block 3 (.seq (.ops [⟨some 20, none, .ex (.t 18) 2⟩,
  ⟨some 9, none, .mv (.t 20)⟩]) (.ops [⟨some 21, none, .mv (.t 7)⟩,
  ⟨some 22, none, .mv (.t 21)⟩,
  ⟨some 23, some (22, false), .mv (.t 6)⟩,
  ⟨some 24, some (22, false), .mv (.t 9)⟩,
  ⟨some 25, some (22, false), .bin .eql (.int .i32) false (.t 23) (.t 24)⟩,
  ⟨some 26, none, .pick (.t 22) (.k (.bool true)) (.t 25)⟩,
  ⟨some 7, none, .mv (.t 26)⟩]))))
def l66_0 : CC := l66_0b
theorem l66_0x (P : Program) (T : TT) (G : GT) (Q : EQ) (t : Env) (σ : St) : aC P T G l66_0 Q t σ = aC P T G l66_0b Q t σ := rfl
def l66_1b : CC := .seq (.ops [⟨some 12, none, .more .nxt [.t 11]⟩,
  ⟨some 13, none, .ex (.t 12) 0⟩]) (.seq (.cond (.t 13) (.skip) (.exit 0)) (.block 1 (.seq (.ops [⟨some 14, none, .ex (.t 12) 1⟩,
  ⟨some 15, none, .ex (.t 12) 2⟩,
  ⟨some 5, none, .mv (.t 14)⟩,
  ⟨some 6, none, .mv (.t 15)⟩]) (.seq (.ops [⟨some 7, none, .mv (.k (.bool false))⟩]) (.seq (.seq (.ops [⟨some 16, none, .mv (.t 1)⟩,
  ⟨some 17, none, .more .rng [.t 16]⟩]) (.block 2 (.loop l66_0))) (.seq (.ops [⟨some 27, none, .mv (.t 7)⟩,
  ⟨some 28, none, .un .not (.t 27)⟩]) (.cond (.t 28) (.seq (.ops [⟨some 29, none, .mv (.t 0)⟩,
  ⟨some 30, none, .mv (.t 5)⟩,
  ⟨some 31, none, .slstr (.t 29) (some (.t 30)) none⟩,
  ⟨some 4, none, .mv (.t 31)⟩]) (.ret)) (.skip))))))))
def l66_1 : CC := l66_1b
theorem l66_1x (P : Program) (T : TT) (G : GT) (Q : EQ) (t : Env) (σ : St) : aC P T G l66_1 Q t σ = aC P T G l66_1b Q t σ := rfl
/-- comptoir/token.cutLeft -/
def c66 : CF := ⟨32, [.t 4], .seq (.ops [⟨some 4, none, .mv (.k (.str []))⟩]) (.seq (.seq (.ops [⟨some 10, none, .mv (.t 0)⟩,
  ⟨some 11, none, .more .rng [.t 10]⟩]) (.block 0 (.loop l66_1))) (.seq (.ops [⟨some 4, none, .mv (.k (.str []))⟩]) (.ret)))⟩
theorem fk66 (G : GT) : FOk Tryd.prog tt G 66 c66 := ⟨_, Tryd.func66, by kernel_rfl⟩
/-- strconv.ParseUint -/
def c67 : CF := ⟨26, [.t 6, .t 7], .seq (.ops [⟨some 6, none, .mv (.k (.int .u64 0))⟩,
  ⟨some 7, none, .mv (.k (.nili))⟩]) (.seq (.ops [⟨some 11, none, .mv (.t 0)⟩,
  ⟨some 12, none, .mv (.t 1)⟩,
  ⟨some 13, none, .mv (.t 2)⟩,
  ⟨some 14, none, .call (.k (.fn (.func 75) [] [])) [.t 11, .t 12, .t 13]⟩,
  ⟨some 10, none, .mv (.t 14)⟩,
  ⟨some 15, none, .ex (.t 10) 0⟩,
  ⟨some 16, none, .ex (.t 10) 1⟩,
  ⟨some 8, none, .mv (.t 15)⟩,
  ⟨some 9, none, .mv (.t 16)⟩]) (.seq (.seq (.ops [⟨some 17, none, .mv (.t 9)⟩,
  ⟨some 18, none, .bin .neq (.iface) true (.t 17) (.k (.nili))⟩]) (.cond (.t 18) (.seq (.ops [⟨some 19, none, .mv (.t 8)⟩,
  ⟨some 20, none, .mv (.t 0)⟩,
  ⟨some 21, none, .mv (.t 1)⟩,
  ⟨some 22, none, .mv (.t 2)⟩,
  ⟨some 23, none, .mv (.t 9)⟩,
  ⟨some 24, none, .call (.k (.fn (.func 76) [] [])) [.k (.str [80, 97, 114, 115, 101, 85, 105, 110, 116]), .t 20, .t 21, .t 22, .t 23]⟩,
  ⟨some 6, none, .mv (.t 19)⟩,
  ⟨some 7, none, .mv (.t 24)⟩]) (.ret)) (.skip))) (.seq (.ops [⟨some 25, none, .mv (.t 8)⟩,
  ⟨some 6, none, .mv (.t 25)⟩,
  ⟨some 7, none, .mv (.k (.nili))⟩]) (.ret))))⟩
theorem fk67 (G : GT) : FOk Tryd.prog tt G 67 c67 := ⟨_, Tryd.func67, by kernel_rfl⟩
/-- unicode/utf8.ValidRune -/
def c68 : CF := ⟨17, [.t 2], .seq (.ops [⟨some 2, none, .mv (.k (.bool false))⟩]) (.seq (.block 0 (.seq (.ops [⟨some 4, none, .mv (.t 0)⟩,
  ⟨some 5, none, .bin .leq (.int .i32) true (.k (.int .i32 0)) (.t 4)⟩,
  ⟨some 6, none, .mv (.t 5)⟩,
  ⟨some 7, some (6, true), .mv (.t 0)⟩,
  ⟨some 8, some (6, true), .bin .lss (.int .i32) true (.t 7) (.k (.int .i32 55296))⟩,
  ⟨some 9, none, .pick (.t 6) (.t 8) (.k (.bool false))⟩,
  ⟨some 3, none, .mv (.t 9)⟩]) (.cond (.t 3) (.seq (.ops [⟨some 2, none, .mv (.k (.bool true))⟩]) (.ret)) (.seq (.ops [⟨some 11, none, .mv (.t 0)⟩,
  ⟨some 12, none, .bin .lss (.int .i32) true (.k (.int .i32 57343)) (.t 11)⟩,
  ⟨some 13, none, .mv (.t 12)⟩,
  ⟨some 14, some (13, true), .mv (.t 0)⟩,
  ⟨some 15, some (13, true), .bin .leq (.int .i32) true (.t 14) (.k (.int .i32 1114111))⟩,
  ⟨some 16, none, .pick (.t 13) (.t 15) (.k (.bool false))⟩,
  ⟨some 10, none, .mv (.t 16)⟩]) (.cond (.t 10) (.seq (.ops [⟨some 2, none, .mv (.k (.bool true))⟩]) (.ret)) (.skip)))))) (.seq (.ops [⟨some 2, none, .mv (.k (.bool false))⟩]) (.ret)))⟩
theorem fk68 (G : GT) : FOk Tryd.prog tt G 68 c68 := ⟨_, Tryd.func68, by kernel_rfl⟩
/-- internal/bytealg.Cutover -/
def c70 : CF := ⟨6, [.t 2], .seq (.ops [⟨some 2, none, .mv (.k (.int .i64 0))⟩]) (.seq (.ops [⟨some 3, none, .mv (.t 0)⟩,
  ⟨some 4, none, .bin .add (.int .i64) true (.t 3) (.k (.int .i64 16))⟩,
  ⟨some 5, none, .bin .quo (.int .i64) true (.t 4) (.k (.int .i64 8))⟩,
  ⟨some 2, none, .mv (.t 5)⟩]) (.ret))⟩
theorem fk70 (G : GT) : FOk Tryd.prog tt G 70 c70 := ⟨_, Tryd.func70, by kernel_rfl⟩
def l71_0b : CC := .seq (.seq (.ops [⟨some 18, none, .mv (.t 9)⟩,
  ⟨some 19, none, .mv (.t 7)⟩,
  ⟨some 20, none, .bin .lss (.int .i64) false (.t 18) (.t 19)⟩]) (.cond (.t 20) (.skip) (.exit 0))) (.seq (.block 1 (.ops [⟨some 23, none, .mv (.t 8)⟩,
  ⟨some 24, none, .bin .mul (.int .u32) true (.t 23) (.k (.int .u32 16777619))⟩,
  ⟨some 25, none, .mv (.t 0)⟩,
  ⟨some 26, none, .mv (.t 9)⟩,
  ⟨some 27, none, .ixstr (.t 25) (.t 26)⟩,
  ⟨some 28, none, .cvi .u32 (.t 27)⟩,
  ⟨some 29, none, .bin .add (.int .u32) false (.t 24) (.t 28)⟩,
  ⟨some 8, none, .mv (.t 29)⟩])) (.ops [⟨some 21, none, .mv (.t 9)⟩,
  ⟨some 22, none, .bin .add (.int .i64) true (.t 21) (.k (.int .i64 1))⟩,
  ⟨some 9, none, .mv (.t 22)⟩]))
def l71_0 : CC := l71_0b
theorem l71_0x (P : Program) (T : TT) (G : GT) (Q : EQ) (t : Env) (σ : St) : aC P T G l71_0 Q t σ = aC P T G l71_0b Q t σ := rfl
def l71_1b : CC := .seq (.seq (.ops [⟨some 41, none, .mv (.t 10)⟩,
  ⟨some 42, none, .mv (.t 0)⟩,
  ⟨some 43, none, .lens (.t 42)⟩,
  ⟨some 44, none, .bin .lss (.int .i64) false (.t 41) (.t 43)⟩]) (.cond (.t 44) (.skip) (.exit 2))) (.block 3 (.seq (.ops [⟨some 45, none, .mv (.t 8)⟩,
  ⟨some 46, none, .bin .mul (.int .u32) true (.t 45) (.k (.int .u32 16777619))⟩,
  ⟨some 8, none, .mv (.t 46)⟩]) (.seq (.ops [⟨some 47, none, .mv (.t 8)⟩,
  ⟨some 48, none, .mv (.t 0)⟩,
  ⟨some 49, none, .mv (.t 10)⟩,
  ⟨some 50, none, .ixstr (.t 48) (.t 49)⟩,
  ⟨some 51, none, .cvi .u32 (.t 50)⟩,
  ⟨some 52, none, .bin .add (.int .u32) false (.t 47) (.t 51)⟩,
  ⟨some 8, none, .mv (.t 52)⟩]) (.seq (.ops [⟨some 53, none, .mv (.t 8)⟩,
  ⟨some 54, none, .mv (.t 6)⟩,
  ⟨some 55, none, .mv (.t 0)⟩,
  ⟨some 56, none, .mv (.t 10)⟩,
  ⟨some 57, none, .mv (.t 7)⟩,
  ⟨some 58, none, .bin .sub (.int .i64) false (.t 56) (.t 57)⟩,
  ⟨some 59, none, .ixstr (.t 55) (.t 58)⟩,
  ⟨some 60, none, .cvi .u32 (.t 59)⟩,
  ⟨some 61, none, .bin .mul (.int .u32) false (.t 54) (.t 60)⟩,
  ⟨some 62, none, .bin .sub (.int .u32) false (.t 53) (.t 61)⟩,
  ⟨some 8, none, .mv (.t 62)⟩]) (.seq (.ops [⟨some 63, none, .mv (.t 10)⟩,
  ⟨some 64, none, .bin .add (.int .i64) true (.t 63) (.k (.int .i64 1))⟩,
  ⟨some 10, none, .mv (.t 64)⟩]) (.seq (.ops [⟨some 65, none, .mv (.t 8)⟩,
  ⟨some 66, none, .mv (.t 5)⟩,
  ⟨some 67, none, .bin .eql (.int .u32) false (.t 65) (.t 66)⟩,
  ⟨some 68, none, .mv (.t 67)⟩,
  ⟨some 69, some (68, true), .mv (.t 0)⟩,
  ⟨some 70, some (68, true), .mv (.t 10)⟩,
  ⟨some 71, some (68, true), .mv (.t 7)⟩,
  ⟨some 72, some (68, true), .bin .sub (.int .i64) false (.t 70) (.t 71)⟩,
  ⟨some 73, some (68, true), .mv (.t 10)⟩,
  ⟨some 74, some (68, true), .slstr (.t 69) (some (.t 72)) (some (.t 73))⟩,
  ⟨some 75, some (68, true), .mv (.t 1)⟩,
  ⟨some 76, some (68, true), .bin .eql (.str) false (.t 74) (.t 75)⟩,
  ⟨some 77, none, .pick (.t 68) (.t 76) (.k (.bool false))⟩]) (.cond (.t 77) (.seq (.ops [⟨some 78, none, .mv (.t 10)⟩,
  ⟨some 79, none, .mv (.t 7)⟩,
  ⟨some 80, none, .bin .sub (.int .i64) false (.t 78) (.t 79)⟩,
  ⟨some 4, none, .mv (.t 80)⟩]) (.ret)) (.skip))))))))
def l71_1 : CC := l71_1b
theorem l71_1x (P : Program) (T : TT) (G : GT) (Q : EQ) (t : Env) (σ : St) : aC P T G l71_1 Q t σ = aC P T G l71_1b Q t σ := rfl
/-- internal/bytealg.IndexRabinKarp[string] -/
def c71 : CF := ⟨81, [.t 4], .seq (.ops [⟨some 4, none, .mv (.k (.int .i64 0))⟩]) (.seq (.ops [⟨some 12, none, .mv (.t 1)⟩,
  ⟨some 13, none, .call (.k (.fn (.func 77) [] [])) [.t 12]⟩,
  ⟨some 11, none, .mv (.t 13)⟩,
  ⟨some 14, none, .ex (.t 11) 0⟩,
  ⟨some 15, none, .ex (.t 11) 1⟩,
  ⟨some 5, none, .mv (.t 14)⟩,
  ⟨some 6, none, .mv (.t 15)⟩]) (.seq (.ops [⟨some 16, none, .mv (.t 1)⟩,
  ⟨some 17, none, .lens (.t 16)⟩,
  ⟨some 7, none, .mv (.t 17)⟩]) (.seq (.ops [⟨some 8, none, .mv (.k (.int .u32 0))⟩]) (.seq (.seq (.ops [⟨some 9, none, .mv (.k (.int .i64 0))⟩]) (.block 0 (.loop l71_0))) (.seq (.seq (.ops [⟨some 30, none, .mv (.t 8)⟩,
  ⟨some 31, none, .mv (.t 5)⟩,
  ⟨some 32, none, .bin .eql (.int .u32) false (.t 30) (.t 31)⟩,
  ⟨some 33, none, .mv (.t 32)⟩,
  ⟨some 34, some (33, true), .mv (.t 0)⟩,
  ⟨some 35, some (33, true), .mv (.t 7)⟩,
  ⟨some 36, some (33, true), .slstr (.t 34) none (some (.t 35))⟩,
  ⟨some 37, some (33, true), .mv (.t 1)⟩,
  ⟨some 38, some (33, true), .bin .eql (.str) false (.t 36) (.t 37)⟩,
  ⟨some 39, none, .pick (.t 33) (.t 38) (.k (.bool false))⟩]) (.cond (.t 39) (.seq (.ops [⟨some 4, none, .mv (.k (.int .i64 0))⟩]) (.ret)) (.skip))) (.seq (.seq (.ops [⟨some 40, none, .mv (.t 7)⟩,
  ⟨some 10, none, .mv (.t 40)⟩]) (.block 2 (.loop l71_1))) (.seq (.ops [⟨some 4, none, .mv (.k (.int .i64 (-1)))⟩]) (.ret))))))))⟩
theorem fk71 (G : GT) : FOk Tryd.prog tt G 71 c71 := ⟨_, Tryd.func71, by kernel_rfl⟩
def l74_0b : CC := .seq (.seq (.ops [⟨some 25, none, .mv (.t 5)⟩,
  ⟨some 26, none, .mv (.t 6)⟩,
  ⟨some 27, none, .bin .geq (.int .i64) false (.t 25) (.t 26)⟩]) (.cond (.t 27) (.skip) (.exit 0))) (.seq (.block 1 (.seq (.ops [⟨some 30, none, .mv (.t 0)⟩,
  ⟨some 31, none, .mv (.t 5)⟩,
  ⟨some 32, none, .ixstr (.t 30) (.t 31)⟩,
  ⟨some 33, none, .call (.k (.fn (.func 78) [] [])) [.t 32]⟩]) (.cond (.t 33) (.exit 0) (.skip)))) (.ops [⟨some 28, none, .mv (.t 5)⟩,
  ⟨some 29, none, .bin .sub (.int .i64) true (.t 28) (.k (.int .i64 1))⟩,
  ⟨some 5, none, .mv (.t 29)⟩]))
def l74_0 : CC := l74_0b
theorem l74_0x (P : Program) (T : TT) (G : GT) (Q : EQ) (t : Env) (σ : St) : aC P T G l74_0 Q t σ = aC P T G l74_0b Q t σ := rfl
/-- unicode/utf8.DecodeLastRuneInString -/
def c74 : CF := ⟨51, [.t 2, .t 3], .seq (.ops [⟨some 2, none, .mv (.k (.int .i32 0))⟩,
  ⟨some 3, none, .mv (.k (.int .i64 0))⟩]) (.seq (.ops [⟨some 7, none, .mv (.t 0)⟩,
  ⟨some 8, none, .lens (.t 7)⟩,
  ⟨some 4, none, .mv (.t 8)⟩]) (.seq (.seq (.ops [⟨some 9, none, .mv (.t 4)⟩,
  ⟨some 10, none, .bin .eql (.int .i64) true (.t 9) (.k (.int .i64 0))⟩]) (.cond (.t 10) (.seq (.ops [⟨some 2, none, .mv (.k (.int .i32 65533))⟩,
  ⟨some 3, none, .mv (.k (.int .i64 0))⟩]) (.ret)) (.skip))) (.seq (.ops [⟨some 11, none, .mv (.t 4)⟩,
  ⟨some 12, none, .bin .sub (.int .i64) true (.t 11) (.k (.int .i64 1))⟩,
  ⟨some 5, none, .mv (.t 12)⟩]) (.seq (.ops [⟨some 13, none, .mv (.t 0)⟩,
  ⟨some 14, none, .mv (.t 5)⟩,
  ⟨some 15, none, .ixstr (.t 13) (.t 14)⟩,
  ⟨some 16, none, .cvi .i32 (.t 15)⟩,
  ⟨some 2, none, .mv (.t 16)⟩]) (.seq (.seq (.ops [⟨some 17, none, .mv (.t 2)⟩,
  ⟨some 18, none, .bin .lss (.int .i32) true (.t 17) (.k (.int .i32 128))⟩]) (.cond (.t 18) (.seq (.ops [⟨some 19, none, .mv (.t 2)⟩,
  ⟨some 2, none, .mv (.t 19)⟩,
  ⟨some 3, none, .mv (.k (.int .i64 1))⟩]) (.ret)) (.skip))) (.seq (.ops [⟨some 20, none, .mv (.t 4)⟩,
  ⟨some 21, none, .bin .sub (.int .i64) true (.t 20) (.k (.int .i64 4))⟩,
  ⟨some 22, none, .more .mx [.t 21, .k (.int .i64 0)]⟩,
  ⟨some 6, none, .mv (.t 22)⟩]) (.seq (.seq (.ops [⟨some 23, none, .mv (.t 5)⟩,
  ⟨some 24, none, .bin .sub (.int .i64) true (.t 23) (.k (.int .i64 1))⟩,
  ⟨some 5, none, .mv (.t 24)⟩]) (.block 0 (.loop l74_0))) (.seq (.seq (.ops [⟨some 34, none, .mv (.t 5)⟩,
  ⟨some 35, none, .bin .lss (.int .i64) true (.t 34) (.k (.int .i64 0))⟩]) (.cond (.t 35) (.ops [⟨some 5, none, .mv (.k (.int .i64 0))⟩]) (.skip))) (.seq (.ops [⟨some 37, none, .mv (.t 0)⟩,
  ⟨some 38, none, .mv (.t 5)⟩,
  ⟨some 39, none, .mv (.t 4)⟩,
  ⟨some 40, none, .slstr (.t 37) (some (.t 38)) (some (.t 39))⟩,
  ⟨some 41, none, .call (.k (.fn (.func 62) [] [])) [.t 40]⟩,
  ⟨some 36, none, .mv (.t 41)⟩,
  ⟨some 42, none, .ex (.t 36) 0⟩,
  ⟨some 43, none, .ex (.t 36) 1⟩,
  ⟨some 2, none, .mv (.t 42)⟩,
  ⟨some 3, none, .mv (.t 43)⟩]) (.seq (.seq (.ops [⟨some 44, none, .mv (.t 5)⟩,
  ⟨some 45, none, .mv (.t 3)⟩,
  ⟨some 46, none, .bin .add (.int .i64) false (.t 44) (.t 45)⟩,
  ⟨some 47, none, .mv (.t 4)⟩,
  ⟨some 48, none, .bin .neq (.int .i64) false (.t 46) (.t 47)⟩]) (.cond (.t 48) (.seq (.ops [⟨some 2, none, .mv (.k (.int .i32 65533))⟩,
  ⟨some 3, none, .mv (.k (.int .i64 1))⟩]) (.ret)) (.skip))) (.seq (.ops [⟨some 49, none, .mv (.t 2)⟩,
  ⟨some 50, none, .mv (.t 3)⟩,
  ⟨some 2, none, .mv (.t 49)⟩,
  ⟨some 3, none, .mv (.t 50)⟩]) (.ret))))))))))))⟩
theorem fk74 (G : GT) : FOk Tryd.prog tt G 74 c74 := ⟨_, Tryd.func74, by kernel_rfl⟩
def l75_0b : CC := .seq (.ops [⟨some 102, none, .bin .lss (.int .i64) false (.t 101) (.t 100)⟩]) (.seq (.cond (.t 102) (.skip) (.exit 3)) (.seq (.block 4 (.seq (.ops [⟨some 103, none, .ixs 1 (.t 99) (.t 101)⟩,
  ⟨some 104, none, .ld none (.t 103)⟩,
  ⟨some 15, none, .mv (.t 104)⟩]) (.seq (.ops [⟨some 16, none, .mv (.k (.int .u8 0))⟩]) (.seq (.block 5 (.seq (.ops [⟨some 107, none, .mv (.t 15)⟩,
  ⟨some 108, none, .bin .eql (.int .u8) true (.t 107) (.k (.int .u8 95))⟩,
  ⟨some 109, none, .mv (.t 108)⟩,
  ⟨some 110, some (109, true), .mv (.t 8)⟩,
  ⟨some 111, none, .pick (.t 109) (.t 110) (.k (.bool false))⟩,
  ⟨some 106, none, .mv (.t 111)⟩]) (.cond (.t 106) (.seq (.ops [⟨some 12, none, .mv (.k (.bool true))⟩]) (.exit 4)) (.seq (.ops [⟨some 113, none, .mv (.t 15)⟩,
  ⟨some 114, none, .bin .leq (.int .u8) true (.k (.int .u8 48)) (.t 113)⟩,
  ⟨some 115, none, .mv (.t 114)⟩,
  ⟨some 116, some (115, true), .mv (.t 15)⟩,
  ⟨some 117, some (115, true), .bin .leq (.int .u8) true (.t 116) (.k (.int .u8 57))⟩,
  ⟨some 118, none, .pick (.t 115) (.t 117) (.k (.bool false))⟩,
  ⟨some 112, none, .mv (.t 118)⟩]) (.cond (.t 112) (.ops [⟨some 119, none, .mv (.t 15)⟩,
  ⟨some 120, none, .bin .sub (.int .u8) true (.t 119) (.k (.int .u8 48))⟩,
  ⟨some 16, none, .mv (.t 120)⟩]) (.seq (.ops [⟨some 122, none, .mv (.t 15)⟩,
  ⟨some 123, none, .call (.k (.fn (.func 79) [] [])) [.t 122]⟩,
  ⟨some 124, none, .bin .leq (.int .u8) true (.k (.int .u8 97)) (.t 123)⟩,
  ⟨some 125, none, .mv (.t 124)⟩,
  ⟨some 126, some (125, true), .mv (.t 15)⟩,
  ⟨some 127, some (125, true), .call (.k (.fn (.func 79) [] [])) [.t 126]⟩,
  ⟨some 128, some (125, true), .bin .leq (.int .u8) true (.t 127) (.k (.int .u8 122))⟩,
  ⟨some 129, none, .pick (.t 125) (.t 128) (.k (.bool false))⟩,
  ⟨some 121, none, .mv (.t 129)⟩]) (.cond (.t 121) (.ops [⟨some 130, none, .mv (.t 15)⟩,
  ⟨some 131, none, .call (.k (.fn (.func 79) [] [])) [.t 130]⟩,
  ⟨some 132, none, .bin .sub (.int .u8) true (.t 131) (.k (.int .u8 97))⟩,
  ⟨some 133, none, .bin .add (.int .u8) true (.t 132) (.k (.int .u8 10))⟩,
  ⟨some 16, none, .mv (.t 133)⟩]) (.seq (.ops [⟨some 105, none, .ifc 109 (.k (.int .i64 2))⟩,
  ⟨some 6, none, .mv (.k (.int .u64 0))⟩,
  ⟨some 7, none, .mv (.t 105)⟩]) (.ret))))))))) (.seq (.seq (.ops [⟨some 134, none, .mv (.t 16)⟩,
  ⟨some 135, none, .mv (.t 1)⟩,
  ⟨some 136, none, .cvi .u8 (.t 135)⟩,
  ⟨some 137, none, .bin .geq (.int .u8) false (.t 134) (.t 136)⟩]) (.cond (.t 137) (.seq (.ops [⟨some 138, none, .ifc 109 (.k (.int .i64 2))⟩,
  ⟨some 6, none, .mv (.k (.int .u64 0))⟩,
  ⟨some 7, none, .mv (.t 138)⟩]) (.ret)) (.skip))) (.seq (.seq (.ops [⟨some 139, none, .mv (.t 13)⟩,
  ⟨some 140, none, .mv (.t 10)⟩,
  ⟨some 141, none, .bin .geq (.int .u64) false (.t 139) (.t 140)⟩]) (.cond (.t 141) (.seq (.ops [⟨some 142, none, .mv (.t 11)⟩,
  ⟨some 143, none, .ifc 109 (.k (.int .i64 1))⟩,
  ⟨some 6, none, .mv (.t 142)⟩,
  ⟨some 7, none, .mv (.t 143)⟩]) (.ret)) (.skip))) (.seq (.ops [⟨some 144, none, .mv (.t 13)⟩,
  ⟨some 145, none, .mv (.t 1)⟩,
  ⟨some 146, none, .cvi .u64 (.t 145)⟩,
  ⟨some 147, none, .bin .mul (.int .u64) false (.t 144) (.t 146)⟩,
  ⟨some 13, none, .mv (.t 147)⟩]) (.seq (.ops [⟨some 148, none, .mv (.t 13)⟩,
  ⟨some 149, none, .mv (.t 16)⟩,
  ⟨some 150, none, .cvi .u64 (.t 149)⟩,
  ⟨some 151, none, .bin .add (.int .u64) false (.t 148) (.t 150)⟩,
  ⟨some 17, none, .mv (.t 151)⟩]) (.seq (.seq (.ops [⟨some 152, none, .mv (.t 17)⟩,
  ⟨some 153, none, .mv (.t 13)⟩,
  ⟨some 154, none, .bin .lss (.int .u64) false (.t 152) (.t 153)⟩,
  ⟨some 155, none, .mv (.t 154)⟩,
  ⟨some 156, some (155, false), .mv (.t 17)⟩,
  ⟨some 157, some (155, false), .mv (.t 11)⟩,
  ⟨some 158, some (155, false), .bin .gtr (.int .u64) false (.t 156) (.t 157)⟩,
  ⟨some 159, none, .pick (.t 155) (.k (.bool true)) (.t 158)⟩]) (.cond (.t 159) (.seq (.ops [⟨some 160, none, .mv (.t 11)⟩,
  ⟨some 161, none, .ifc 109 (.k (.int .i64 1))⟩,
  ⟨some 6, none, .mv (.t 160)⟩,
  ⟨some 7, none, .mv (.t 161)⟩]) (.ret)) (.skip))) (.ops [⟨some 162, none, .mv (.t 17)⟩,
  ⟨some 13, none, .mv (.t 162)⟩])))))))))) (.ops [⟨some 163, none, .bin .add (.int .i64) true (.t 101) (.k (.int .i64 1))⟩,
  ⟨some 101, none, .mv (.t 163)⟩])))
def l75_0 : CC := l75_0b
theorem l75_0x (P : Program) (T : TT) (G : GT) (Q : EQ) (t : Env) (σ : St) : aC P T G l75_0 Q t σ = aC P T G l75_0b Q t σ := rfl
/-- internal/strconv.ParseUint -/
def c75 : CF := ⟨172, [.t 6, .t 7], .seq (.ops [⟨some 6, none, .mv (.k (.int .u64 0))⟩,
  ⟨some 7, none, .mv (.k (.nili))⟩]) (.seq (.seq (.ops [⟨some 18, none, .mv (.t 0)⟩,
  ⟨some 19, none, .bin .eql (.str) true (.t 18) (.k (.str []))⟩]) (.cond (.t 19) (.seq (.ops [⟨some 20, none, .ifc 109 (.k (.int .i64 2))⟩,
  ⟨some 6, none, .mv (.k (.int .u64 0))⟩,
  ⟨some 7, none, .mv (.t 20)⟩]) (.ret)) (.skip))) (.seq (.ops [⟨some 21, none, .mv (.t 1)⟩,
  ⟨some 22, none, .bin .eql (.int .i64) true (.t 21) (.k (.int .i64 0))⟩,
  ⟨some 8, none, .mv (.t 22)⟩]) (.seq (.ops [⟨some 23, none, .mv (.t 0)⟩,
  ⟨some 9, none, .mv (.t 23)⟩]) (.seq (.block 0 (.seq (.ops [⟨some 26, none, .mv (.t 1)⟩,
  ⟨some 27, none, .bin .leq (.int .i64) true (.k (.int .i64 2)) (.t 26)⟩,
  ⟨some 28, none, .mv (.t 27)⟩,
  ⟨some 29, some (28, true), .mv (.t 1)⟩,
  ⟨some 30, some (28, true), .bin .leq (.int .i64) true (.t 29) (.k (.int .i64 36))⟩,
  ⟨some 31, none, .pick (.t 28) (.t 30) (.k (.bool false))⟩,
  ⟨some 25, none, .mv (.t 31)⟩]) (.cond (.t 25) (.skip) (.seq (.ops [⟨some 33, none, .mv (.t 1)⟩,
  ⟨some 34, none, .bin .eql (.int .i64) true (.t 33) (.k (.int .i64 0))⟩,
  ⟨some 32, none, .mv (.t 34)⟩]) (.cond (.t 32) (.seq (.ops [⟨some 1, none, .mv (.k (.int .i64 10))⟩]) (.seq (.ops [⟨some 35, none, .mv (.t 0)⟩,
  ⟨some 36, none, .ixstr (.t 35) (.k (.int .i64 0))⟩,
  ⟨some 37, none, .bin .eql (.int .u8) true (.t 36) (.k (.int .u8 48))⟩]) (.cond (.t 37) (.block 1 (.seq (.ops [⟨some 41, none, .mv (.t 0)⟩,
  ⟨some 42, none, .lens (.t 41)⟩,
  ⟨some 43, none, .bin .geq (.int .i64) true (.t 42) (.k (.int .i64 3))⟩,
  ⟨some 44, none, .mv (.t 43)⟩,
  ⟨some 45, some (44, true), .mv (.t 0)⟩,
  ⟨some 46, some (44, true), .ixstr (.t 45) (.k (.int .i64 1))⟩,
  ⟨some 47, some (44, true), .call (.k (.fn (.func 79) [] [])) [.t 46]⟩,
  ⟨some 48, some (44, true), .bin .eql (.int .u8) true (.t 47) (.k (.int .u8 98))⟩,
  ⟨some 49, none, .pick (.t 44) (.t 48) (.k (.bool false))⟩,
  ⟨some 40, none, .mv (.t 49)⟩]) (.cond (.t 40) (.seq (.ops [⟨some 1, none, .mv (.k (.int .i64 2))⟩]) (.ops [⟨some 50, none, .mv (.t 0)⟩,
  ⟨some 51, none, .slstr (.t 50) (some (.k (.int .i64 2))) none⟩,
  ⟨some 0, none, .mv (.t 51)⟩])) (.seq (.ops [⟨some 53, none, .mv (.t 0)⟩,
  ⟨some 54, none, .lens (.t 53)⟩,
  ⟨some 55, none, .bin .geq (.int .i64) true (.t 54) (.k (.int .i64 3))⟩,
  ⟨some 56, none, .mv (.t 55)⟩,
  ⟨some 57, some (56, true), .mv (.t 0)⟩,
  ⟨some 58, some (56, true), .ixstr (.t 57) (.k (.int .i64 1))⟩,
  ⟨some 59, some (56, true), .call (.k (.fn (.func 79) [] [])) [.t 58]⟩,
  ⟨some 60, some (56, true), .bin .eql (.int .u8) true (.t 59) (.k (.int .u8 111))⟩,
  ⟨some 61, none, .pick (.t 56) (.t 60) (.k (.bool false))⟩,
  ⟨some 52, none, .mv (.t 61)⟩]) (.cond (.t 52) (.seq (.ops [⟨some 1, none, .mv (.k (.int .i64 8))⟩]) (.ops [⟨some 62, none, .mv (.t 0)⟩,
  ⟨some 63, none, .slstr (.t 62) (some (.k (.int .i64 2))) none⟩,
  ⟨some 0, none, .mv (.t 63)⟩])) (.seq (.ops [⟨some 65, none, .mv (.t 0)⟩,
  ⟨some 66, none, .lens (.t 65)⟩,
  ⟨some 67, none, .bin .geq (.int .i64) true (.t 66) (.k (.int .i64 3))⟩,
  ⟨some 68, none, .mv (.t 67)⟩,
  ⟨some 69, some (68, true), .mv (.t 0)⟩,
  ⟨some 70, some (68, true), .ixstr (.t 69) (.k (.int .i64 1))⟩,
  ⟨some 71, some (68, true), .call (.k (.fn (.func 79) [] [])) [.t 70]⟩,
  ⟨some 72, some (68, true), .bin .eql (.int .u8) true (.t 71) (.k (.int .u8 120))⟩,
  ⟨some 73, none, .pick (.t 68) (.t 72) (.k (.bool false))⟩,
  ⟨some 64, none, .mv (.t 73)⟩]) (.cond (.t 64) (.seq (.ops [⟨some 1, none, .mv (.k (.int .i64 16))⟩]) (.ops [⟨some 74, none, .mv (.t 0)⟩,
  ⟨some 75, none, .slstr (.t 74) (some (.k (.int .i64 2))) none⟩,
  ⟨some 0, none, .mv (.t 75)⟩])) (.seq (.ops [⟨some 1, none, .mv (.k (.int .i64 8))⟩]) (.ops [⟨some 38, none, .mv (.t 0)⟩,
  ⟨some 39, none, .slstr (.t 38) (some (.k (.int .i64 1))) none⟩,
  ⟨some 0, none, .mv (.t 39)⟩]))))))))) (.skip)))) (.seq (.ops [⟨some 24, none, .ifc 109 (.k (.int .i64 3))⟩,
  ⟨some 6, none, .mv (.k (.int .u64 0))⟩,
  ⟨some 7, none, .mv (.t 24)⟩]) (.ret))))))) (.seq (.seq (.ops [⟨some 76, none, .mv (.t 2)⟩,
  ⟨some 77, none, .bin .eql (.int .i64) true (.t 76) (.k (.int .i64 0))⟩]) (.cond (.t 77) (.ops [⟨some 2, none, .mv (.k (.int .i64 64))⟩]) (.seq (.ops [⟨some 78, none, .mv (.t 2)⟩,
  ⟨some 79, none, .bin .lss (.int .i64) true (.t 78) (.k (.int .i64 0))⟩,
  ⟨some 80, none, .mv (.t 79)⟩,
  ⟨some 81, some (80, false), .mv (.t 2)⟩,
  ⟨some 82, some (80, false), .bin .gtr (.int .i64) true (.t 81) (.k (.int .i64 64))⟩,
  ⟨some 83, none, .pick (.t 80) (.k (.bool true)) (.t 82)⟩]) (.cond (.t 83) (.seq (.ops [⟨some 84, none, .ifc 109 (.k (.int .i64 4))⟩,
  ⟨some 6, none, .mv (.k (.int .u64 0))⟩,
  ⟨some 7, none, .mv (.t 84)⟩]) (.ret)) (.skip))))) (.seq (.ops [⟨some 10, none, .mv (.k (.int .u64 0))⟩]) (.seq (.seq (.ops [⟨some 85, none, .mv (.t 1)⟩]) (.block 2 (.seq (.ops [⟨some 91, none, .bin .eql (.int .i64) true (.t 85) (.k (.int .i64 10))⟩,
  ⟨some 90, none, .mv (.t 91)⟩]) (.cond (.t 90) (.ops [⟨some 10, none, .mv (.k (.int .u64 1844674407370955162))⟩]) (.seq (.ops [⟨some 93, none, .bin .eql (.int .i64) true (.t 85) (.k (.int .i64 16))⟩,
  ⟨some 92, none, .mv (.t 93)⟩]) (.cond (.t 92) (.ops [⟨some 10, none, .mv (.k (.int .u64 1152921504606846976))⟩]) (.ops [⟨some 86, none, .mv (.t 1)⟩,
  ⟨some 87, none, .cvi .u64 (.t 86)⟩,
  ⟨some 88, none, .bin .quo (.int .u64) true (.k (.int .u64 18446744073709551615)) (.t 87)⟩,
  ⟨some 89, none, .bin .add (.int .u64) true (.t 88) (.k (.int .u64 1))⟩,
  ⟨some 10, none, .mv (.t 89)⟩]))))))) (.seq (.ops [⟨some 94, none, .mv (.t 2)⟩,
  ⟨some 95, none, .cvi .u64 (.t 94)⟩,
  ⟨some 96, none, .bin .shl (.int .u64) true (.k (.int .u64 1)) (.t 95)⟩,
  ⟨some 97, none, .bin .sub (.int .u64) true (.t 96) (.k (.int .u64 1))⟩,
  ⟨some 11, none, .mv (.t 97)⟩]) (.seq (.ops [⟨some 12, none, .mv (.k (.bool false))⟩]) (.seq (.ops [⟨some 13, none, .mv (.k (.int .u64 0))⟩]) (.seq (.seq (.ops [⟨some 98, none, .mv (.t 0)⟩,
  ⟨some 99, none, .more (.s2b 5) [.t 98]⟩,
  ⟨some 100, none, .lenl (.t 99)⟩,
  ⟨some 101, none, .mv (.k (.int .i64 0))⟩]) (.block 3 (.loop l75_0))) (.seq (.seq (.ops [⟨some 164, none, .mv (.t 12)⟩,
  ⟨some 165, none, .mv (.t 164)⟩,
  ⟨some 166, some (165, true), .mv (.t 9)⟩,
  ⟨some 167, some (165, true), .call (.k (.fn (.func 80) [] [])) [.t 166]⟩,
  ⟨some 168, some (165, true), .un .not (.t 167)⟩,
  ⟨some 169, none, .pick (.t 165) (.t 168) (.k (.bool false))⟩]) (.cond (.t 169) (.seq (.ops [⟨some 170, none, .ifc 109 (.k (.int .i64 2))⟩,
  ⟨some 6, none, .mv (.k (.int .u64 0))⟩,
  ⟨some 7, none, .mv (.t 170)⟩]) (.ret)) (.skip))) (.seq (.ops [⟨some 171, none, .mv (.t 13)⟩,
  ⟨some 6, none, .mv (.t 171)⟩,
  ⟨some 7, none, .mv (.k (.nili))⟩]) (.ret))))))))))))))⟩
theorem fk75 (G : GT) : FOk Tryd.prog tt G 75 c75 := ⟨_, Tryd.func75, by kernel_rfl⟩
/-- strconv.toError -/
def c76 : CF := ⟨43, [.t 10], .seq (.ops [⟨some 10, none, .mv (.k (.nili))⟩]) (.seq (.seq (.ops [⟨some 11, none, .mv (.t 4)⟩]) (.block 0 (.seq (.ops [⟨some 13, none, .ifc 109 (.k (.int .i64 2))⟩,
  ⟨some 14, none, .bin .eql (.iface) false (.t 11) (.t 13)⟩,
  ⟨some 12, none, .mv (.t 14)⟩]) (.cond (.t 12) (.seq (.ops [⟨some 15, none, .mv (.t 0)⟩,
  ⟨some 16, none, .mv (.t 1)⟩,
  ⟨some 17, none, .call (.k (.fn (.func 81) [] [])) [.t 15, .t 16]⟩,
  ⟨some 18, none, .ifc 111 (.t 17)⟩,
  ⟨some 10, none, .mv (.t 18)⟩]) (.ret)) (.seq (.ops [⟨some 20, none, .ifc 109 (.k (.int .i64 1))⟩,
  ⟨some 21, none, .bin .eql (.iface) false (.t 11) (.t 20)⟩,
  ⟨some 19, none, .mv (.t 21)⟩]) (.cond (.t 19) (.seq (.ops [⟨some 22, none, .mv (.t 0)⟩,
  ⟨some 23, none, .mv (.t 1)⟩,
  ⟨some 24, none, .call (.k (.fn (.func 82) [] [])) [.t 22, .t 23]⟩,
  ⟨some 25, none, .ifc 111 (.t 24)⟩,
  ⟨some 10, none, .mv (.t 25)⟩]) (.ret)) (.seq (.ops [⟨some 27, none, .ifc 109 (.k (.int .i64 3))⟩,
  ⟨some 28, none, .bin .eql (.iface) false (.t 11) (.t 27)⟩,
  ⟨some 26, none, .mv (.t 28)⟩]) (.cond (.t 26) (.seq (.ops [⟨some 29, none, .mv (.t 0)⟩,
  ⟨some 30, none, .mv (.t 1)⟩,
  ⟨some 31, none, .mv (.t 2)⟩,
  ⟨some 32, none, .call (.k (.fn (.func 83) [] [])) [.t 29, .t 30, .t 31]⟩,
  ⟨some 33, none, .ifc 111 (.t 32)⟩,
  ⟨some 10, none, .mv (.t 33)⟩]) (.ret)) (.seq (.ops [⟨some 35, none, .ifc 109 (.k (.int .i64 4))⟩,
  ⟨some 36, none, .bin .eql (.iface) false (.t 11) (.t 35)⟩,
  ⟨some 34, none, .mv (.t 36)⟩]) (.cond (.t 34) (.seq (.ops [⟨some 37, none, .mv (.t 0)⟩,
  ⟨some 38, none, .mv (.t 1)⟩,
  ⟨some 39, none, .mv (.t 3)⟩,
  ⟨some 40, none, .call (.k (.fn (.func 84) [] [])) [.t 37, .t 38, .t 39]⟩,
  ⟨some 41, none, .ifc 111 (.t 40)⟩,
  ⟨some 10, none, .mv (.t 41)⟩]) (.ret)) (.skip))))))))))) (.seq (.ops [⟨some 42, none, .mv (.t 4)⟩,
  ⟨some 10, none, .mv (.t 42)⟩]) (.ret)))⟩
theorem fk76 (G : GT) : FOk Tryd.prog tt G 76 c76 := ⟨_, Tryd.func76, by kernel_rfl⟩
def l77_0b : CC := .seq (.seq (.ops [⟨some 9, none, .mv (.t 5)⟩,
  ⟨some 10, none, .mv (.t 0)⟩,
  ⟨some 11, none, .lens (.t 10)⟩,
  ⟨some 12, none, .bin .lss (.int .i64) false (.t 9) (.t 11)⟩]) (.cond (.t 12) (.skip) (.exit 0))) (.seq (.block 1 (.ops [⟨some 15, none, .mv (.t 4)⟩,
  ⟨some 16, none, .bin .mul (.int .u32) true (.t 15) (.k (.int .u32 16777619))⟩,
  ⟨some 17, none, .mv (.t 0)⟩,
  ⟨some 18, none, .mv (.t 5)⟩,
  ⟨some 19, none, .ixstr (.t 17) (.t 18)⟩,
  ⟨some 20, none, .cvi .u32 (.t 19)⟩,
  ⟨some 21, none, .bin .add (.int .u32) false (.t 16) (.t 20)⟩,
  ⟨some 4, none, .mv (.t 21)⟩])) (.ops [⟨some 13, none, .mv (.t 5)⟩,
  ⟨some 14, none, .bin .add (.int .i64) true (.t 13) (.k (.int .i64 1))⟩,
  ⟨some 5, none, .mv (.t 14)⟩]))
def l77_0 : CC := l77_0b
theorem l77_0x (P : Program) (T : TT) (G : GT) (Q : EQ) (t : Env) (σ : St) : aC P T G l77_0 Q t σ = aC P T G l77_0b Q t σ := rfl
def l77_1b : CC := .seq (.seq (.ops [⟨some 24, none, .mv (.t 8)⟩,
  ⟨some 25, none, .bin .gtr (.int .i64) true (.t 24) (.k (.int .i64 0))⟩]) (.cond (.t 25) (.skip) (.exit 2))) (.seq (.block 3 (.seq (.seq (.ops [⟨some 28, none, .mv (.t 8)⟩,
  ⟨some 29, none, .bin .and (.int .i64) true (.t 28) (.k (.int .i64 1))⟩,
  ⟨some 30, none, .bin .neq (.int .i64) true (.t 29) (.k (.int .i64 0))⟩]) (.cond (.t 30) (.ops [⟨some 31, none, .mv (.t 6)⟩,
  ⟨some 32, none, .mv (.t 7)⟩,
  ⟨some 33, none, .bin .mul (.int .u32) false (.t 31) (.t 32)⟩,
  ⟨some 6, none, .mv (.t 33)⟩]) (.skip))) (.ops [⟨some 34, none, .mv (.t 7)⟩,
  ⟨some 35, none, .mv (.t 7)⟩,
  ⟨some 36, none, .bin .mul (.int .u32) false (.t 34) (.t 35)⟩,
  ⟨some 7, none, .mv (.t 36)⟩]))) (.ops [⟨some 26, none, .mv (.t 8)⟩,
  ⟨some 27, none, .bin .shr (.int .i64) true (.t 26) (.k (.int .u64 1))⟩,
  ⟨some 8, none, .mv (.t 27)⟩]))
def l77_1 : CC := l77_1b
theorem l77_1x (P : Program) (T : TT) (G : GT) (Q : EQ) (t : Env) (σ : St) : aC P T G l77_1 Q t σ = aC P T G l77_1b Q t σ := rfl
/-- internal/bytealg.hashStr[string] -/
def c77 : CF := ⟨39, [.t 2, .t 3], .seq (.ops [⟨some 2, none, .mv (.k (.int .u32 0))⟩,
  ⟨some 3, none, .mv (.k (.int .u32 0))⟩]) (.seq (.ops [⟨some 4, none, .mv (.k (.int .u32 0))⟩]) (.seq (.seq (.ops [⟨some 5, none, .mv (.k (.int .i64 0))⟩]) (.block 0 (.loop l77_0))) (.seq (.ops [⟨some 6, none, .mv (.k (.int .u32 1))⟩,
  ⟨some 7, none, .mv (.k (.int .u32 16777619))⟩]) (.seq (.seq (.ops [⟨some 22, none, .mv (.t 0)⟩,
  ⟨some 23, none, .lens (.t 22)⟩,
  ⟨some 8, none, .mv (.t 23)⟩]) (.block 2 (.loop l77_1))) (.seq (.ops [⟨some 37, none, .mv (.t 4)⟩,
  ⟨some 38, none, .mv (.t 6)⟩,
  ⟨some 2, none, .mv (.t 37)⟩,
  ⟨some 3, none, .mv (.t 38)⟩]) (.ret))))))⟩
theorem fk77 (G : GT) : FOk Tryd.prog tt G 77 c77 := ⟨_, Tryd.func77, by kernel_rfl⟩
/-- unicode/utf8.RuneStart -/
def c78 : CF := ⟨6, [.t 2], .seq (.ops [⟨some 2, none, .mv (.k (.bool false))⟩]) (.seq (.ops [⟨some 3, none, .mv (.t 0)⟩,
  ⟨some 4, none, .bin .and (.int .u8) true (.t 3) (.k (.int .u8 192))⟩,
  ⟨some 5, none, .bin .neq (.int .u8) true (.t 4) (.k (.int .u8 128))⟩,
  ⟨some 2, none, .mv (.t 5)⟩]) (.ret))⟩
theorem fk78 (G : GT) : FOk Tryd.prog tt G 78 c78 := ⟨_, Tryd.func78, by kernel_rfl⟩
/-- internal/strconv.lower -/
def c79 : CF := ⟨5, [.t 2], .seq (.ops [⟨some 2, none, .mv (.k (.int .u8 0))⟩]) (.seq (.ops [⟨some 3, none, .mv (.t 0)⟩,
  ⟨some 4, none, .bin .or (.int .u8) true (.t 3) (.k (.int .u8 32))⟩,
  ⟨some 2, none, .mv (.t 4)⟩]) (.ret))⟩
theorem fk79 (G : GT) : FOk Tryd.prog tt G 79 c79 := ⟨_, Tryd.func79, by kernel_rfl⟩
def l80_0b : CC := .seq (.seq (.ops [⟨some 51, none, .mv (.t 4)⟩,
  ⟨some 52, none, .mv (.t 0)⟩,
  ⟨some 53, none, .lens (.t 52)⟩,
  ⟨some 54, none, .bin .lss (.int .i64) false (.t 51) (.t 53)⟩]) (.cond (.t 54) (.skip) (.exit 0))) (.seq (.block 1 (.seq (.seq (.ops [⟨some 57, none, .mv (.t 0)⟩,
  ⟨some 58, none, .mv (.t 4)⟩,
  ⟨some 59, none, .ixstr (.t 57) (.t 58)⟩,
  ⟨some 60, none, .bin .leq (.int .u8) true (.k (.int .u8 48)) (.t 59)⟩,
  ⟨some 61, none, .mv (.t 60)⟩,
  ⟨some 62, some (61, true), .mv (.t 0)⟩,
  ⟨some 63, some (61, true), .mv (.t 4)⟩,
  ⟨some 64, some (61, true), .ixstr (.t 62) (.t 63)⟩,
  ⟨some 65, some (61, true), .bin .leq (.int .u8) true (.t 64) (.k (.int .u8 57))⟩,
  ⟨some 66, none, .pick (.t 61) (.t 65) (.k (.bool false))⟩,
  ⟨some 67, none, .mv (.t 66)⟩,
  ⟨some 68, some (67, false), .mv (.t 5)⟩,
  ⟨some 69, some (67, false), .mv (.t 68)⟩,
  ⟨some 70, some (69, true), .mv (.t 0)⟩,
  ⟨some 71, some (69, true), .mv (.t 4)⟩,
  ⟨some 72, some (69, true), .ixstr (.t 70) (.t 71)⟩,
  ⟨some 73, some (69, true), .call (.k (.fn (.func 79) [] [])) [.t 72]⟩,
  ⟨some 74, some (69, true), .bin .leq (.int .u8) true (.k (.int .u8 97)) (.t 73)⟩,
  ⟨some 75, some (67, false), .pick (.t 69) (.t 74) (.k (.bool false))⟩,
  ⟨some 76, some (67, false), .mv (.t 75)⟩,
  ⟨some 77, some (76, true), .mv (.t 0)⟩,
  ⟨some 78, some (76, true), .mv (.t 4)⟩,
  ⟨some 79, some (76, true), .ixstr (.t 77) (.t 78)⟩,
  ⟨some 80, some (76, true), .call (.k (.fn (.func 79) [] [])) [.t 79]⟩,
  ⟨some 81, some (76, true), .bin .leq (.int .u8) true (.t 80) (.k (.int .u8 102))⟩,
  ⟨some 82, some (67, false), .pick (.t 76) (.t 81) (.k (.bool false))⟩,
  ⟨some 83, none, .pick (.t 67) (.k (.bool true)) (.t 82)⟩]) (.cond (.t 83) (.seq (.ops [⟨some 3, none, .mv (.k (.int .i32 48))⟩]) (.exit 1)) (.skip))) (.seq (.seq (.ops [⟨some 84, none, .mv (.t 0)⟩,
  ⟨some 85, none, .mv (.t 4)⟩,
  ⟨some 86, none, .ixstr (.t 84) (.t 85)⟩,
  ⟨some 87, none, .bin .eql (.int .u8) true (.t 86) (.k (.int .u8 95))⟩]) (.cond (.t 87) (.seq (.seq (.ops [⟨some 88, none, .mv (.t 3)⟩,
  ⟨some 89, none, .bin .neq (.int .i32) true (.t 88) (.k (.int .i32 48))⟩]) (.cond (.t 89) (.seq (.ops [⟨some 2, none, .mv (.k (.bool false))⟩]) (.ret)) (.skip))) (.seq (.ops [⟨some 3, none, .mv (.k (.int .i32 95))⟩]) (.exit 1))) (.skip))) (.seq (.seq (.ops [⟨some 90, none, .mv (.t 3)⟩,
  ⟨some 91, none, .bin .eql (.int .i32) true (.t 90) (.k (.int .i32 95))⟩]) (.cond (.t 91) (.seq (.ops [⟨some 2, none, .mv (.k (.bool false))⟩]) (.ret)) (.skip))) (.ops [⟨some 3, none, .mv (.k (.int .i32 33))⟩]))))) (.ops [⟨some 55, none, .mv (.t 4)⟩,
  ⟨some 56, none, .bin .add (.int .i64) true (.t 55) (.k (.int .i64 1))⟩,
  ⟨some 4, none, .mv (.t 56)⟩]))
def l80_0 : CC := l80_0b
theorem l80_0x (P : Program) (T : TT) (G : GT) (Q : EQ) (t : Env) (σ : St) : aC P T G l80_0 Q t σ = aC P T G l80_0b Q t σ := rfl
/-- internal/strconv.underscoreOK -/
def c80 : CF := ⟨94, [.t 2], .seq (.ops [⟨some 2, none, .mv (.k (.bool false))⟩]) (.seq (.ops [⟨some 3, none, .mv (.k (.int .i32 94))⟩]) (.seq (.ops [⟨some 4, none, .mv (.k (.int .i64 0))⟩]) (.seq (.seq (.ops [⟨some 6, none, .mv (.t 0)⟩,
  ⟨some 7, none, .lens (.t 6)⟩,
  ⟨some 8, none, .bin .geq (.int .i64) true (.t 7) (.k (.int .i64 1))⟩,
  ⟨some 9, none, .mv (.t 8)⟩,
  ⟨some 10, some (9, true), .mv (.t 0)⟩,
  ⟨some 11, some (9, true), .ixstr (.t 10) (.k (.int .i64 0))⟩,
  ⟨some 12, some (9, true), .bin .eql (.int .u8) true (.t 11) (.k (.int .u8 45))⟩,
  ⟨some 13, some (9, true), .mv (.t 12)⟩,
  ⟨some 14, some (13, false), .mv (.t 0)⟩,
  ⟨some 15, some (13, false), .ixstr (.t 14) (.k (.int .i64 0))⟩,
  ⟨some 16, some (13, false), .bin .eql (.int .u8) true (.t 15) (.k (.int .u8 43))⟩,
  ⟨some 17, some (9, true), .pick (.t 13) (.k (.bool true)) (.t 16)⟩,
  ⟨some 18, none, .pick (.t 9) (.t 17) (.k (.bool false))⟩]) (.cond (.t 18) (.ops [⟨some 19, none, .mv (.t 0)⟩,
  ⟨some 20, none, .slstr (.t 19) (some (.k (.int .i64 1))) none⟩,
  ⟨some 0, none, .mv (.t 20)⟩]) (.skip))) (.seq (.ops [⟨some 5, none, .mv (.k (.bool false))⟩]) (.seq (.seq (.ops [⟨some 21, none, .mv (.t 0)⟩,
  ⟨some 22, none, .lens (.t 21)⟩,
  ⟨some 23, none, .bin .geq (.int .i64) true (.t 22) (.k (.int .i64 2))⟩,
  ⟨some 24, none, .mv (.t 23)⟩,
  ⟨some 25, some (24, true), .mv (.t 0)⟩,
  ⟨some 26, some (24, true), .ixstr (.t 25) (.k (.int .i64 0))⟩,
  ⟨some 27, some (24, true), .bin .eql (.int .u8) true (.t 26) (.k (.int .u8 48))⟩,
  ⟨some 28, none, .pick (.t 24) (.t 27) (.k (.bool false))⟩,
  ⟨some 29, none, .mv (.t 28)⟩,
  ⟨some 30, some (29, true), .mv (.t 0)⟩,
  ⟨some 31, some (29, true), .ixstr (.t 30) (.k (.int .i64 1))⟩,
  ⟨some 32, some (29, true), .call (.k (.fn (.func 79) [] [])) [.t 31]⟩,
  ⟨some 33, some (29, true), .bin .eql (.int .u8) true (.t 32) (.k (.int .u8 98))⟩,
  ⟨some 34, some (29, true), .mv (.t 33)⟩,
  ⟨some 35, some (34, false), .mv (.t 0)⟩,
  ⟨some 36, some (34, false), .ixstr (.t 35) (.k (.int .i64 1))⟩,
  ⟨some 37, some (34, false), .call (.k (.fn (.func 79) [] [])) [.t 36]⟩,
  ⟨some 38, some (34, false), .bin .eql (.int .u8) true (.t 37) (.k (.int .u8 111))⟩,
  ⟨some 39, some (29, true), .pick (.t 34) (.k (.bool true)) (.t 38)⟩,
  ⟨some 40, some (29, true), .mv (.t 39)⟩,
  ⟨some 41, some (40, false), .mv (.t 0)⟩,
  ⟨some 42, some (40, false), .ixstr (.t 41) (.k (.int .i64 1))⟩,
  ⟨some 43, some (40, false), .call (.k (.fn (.func 79) [] [])) [.t 42]⟩,
  ⟨some 44, some (40, false), .bin .eql (.int .u8) true (.t 43) (.k (.int .u8 120))⟩,
  ⟨some 45, some (29, true), .pick (.t 40) (.k (.bool true)) (.t 44)⟩,
  ⟨some 46, none, .pick (.t 29) (.t 45) (.k (.bool false))⟩]) (.cond (.t 46) (.seq (.ops [⟨some 4, none, .mv (.k (.int .i64 2))⟩]) (.seq (.ops [⟨some 3, none, .mv (.k (.int .i32 48))⟩]) (.ops [⟨some 47, none, .mv (.t 0)⟩,
  ⟨some 48, none, .ixstr (.t 47) (.k (.int .i64 1))⟩,
  ⟨some 49, none, .call (.k (.fn (.func 79) [] [])) [.t 48]⟩,
  ⟨some 50, none, .bin .eql (.int .u8) true (.t 49) (.k (.int .u8 120))⟩,
  ⟨some 5, none, .mv (.t 50)⟩]))) (.skip))) (.seq (.block 0 (.loop l80_0)) (.seq (.ops [⟨some 92, none, .mv (.t 3)⟩,
  ⟨some 93, none, .bin .neq (.int .i32) true (.t 92) (.k (.int .i32 95))⟩,
  ⟨some 2, none, .mv (.t 93)⟩]) (.ret))))))))⟩
theorem fk80 (G : GT) : FOk Tryd.prog tt G 80 c80 := ⟨_, Tryd.func80, by kernel_rfl⟩
/-- strconv.baseError -/
def c83 : CF := ⟨16, [.t 6], .seq (.ops [⟨some 6, none, .mv (.k (.nilp))⟩]) (.seq (.ops [⟨some 7, none, .mv (.t 0)⟩,
  ⟨some 8, none, .mv (.t 1)⟩,
  ⟨some 9, none, .call (.k (.fn (.func 85) [] [])) [.t 8]⟩,
  ⟨some 10, none, .mv (.t 2)⟩,
  ⟨some 11, none, .call (.k (.fn (.func 87) [] [])) [.t 10]⟩,
  ⟨some 12, none, .bin .add (.str) true (.k (.str [105, 110, 118, 97, 108, 105, 100, 32, 98, 97, 115, 101, 32])) (.t 11)⟩,
  ⟨some 13, none, .call (.k (.fn (.func 86) [] [])) [.t 12]⟩,
  ⟨some 14, none, .mk [.str [], .str [], .nili] [(0, 1, .t 7), (1, 1, .t 9), (2, 1, .t 13)]⟩,
  ⟨some 15, none, .box 115 (.t 14)⟩,
  ⟨some 6, none, .mv (.t 15)⟩]) (.ret))⟩
theorem fk83 (G : GT) : FOk Tryd.prog tt G 83 c83 := ⟨_, Tryd.func83, by kernel_rfl⟩
/-- strconv.bitSizeError -/
def c84 : CF := ⟨16, [.t 6], .seq (.ops [⟨some 6, none, .mv (.k (.nilp))⟩]) (.seq (.ops [⟨some 7, none, .mv (.t 0)⟩,
  ⟨some 8, none, .mv (.t 1)⟩,
  ⟨some 9, none, .call (.k (.fn (.func 85) [] [])) [.t 8]⟩,
  ⟨some 10, none, .mv (.t 2)⟩,
  ⟨some 11, none, .call (.k (.fn (.func 87) [] [])) [.t 10]⟩,
  ⟨some 12, none, .bin .add (.str) true (.k (.str [105, 110, 118, 97, 108, 105, 100, 32, 98, 105, 116, 32, 115, 105, 122, 101, 32])) (.t 11)⟩,
  ⟨some 13, none, .call (.k (.fn (.func 86) [] [])) [.t 12]⟩,
  ⟨some 14, none, .mk [.str [], .str [], .nili] [(0, 1, .t 7), (1, 1, .t 9), (2, 1, .t 13)]⟩,
  ⟨some 15, none, .box 115 (.t 14)⟩,
  ⟨some 6, none, .mv (.t 15)⟩]) (.ret))⟩
theorem fk84 (G : GT) : FOk Tryd.prog tt G 84 c84 := ⟨_, Tryd.func84, by kernel_rfl⟩
/-- errors.New -/
def c86 : CF := ⟨7, [.t 2], .seq (.ops [⟨some 2, none, .mv (.k (.nili))⟩]) (.seq (.ops [⟨some 3, none, .mv (.t 0)⟩,
  ⟨some 4, none, .mk [.str []] [(0, 1, .t 3)]⟩,
  ⟨some 5, none, .box 120 (.t 4)⟩,
  ⟨some 6, none, .ifc 118 (.t 5)⟩,
  ⟨some 2, none, .mv (.t 6)⟩]) (.ret))⟩
theorem fk86 (G : GT) : FOk Tryd.prog tt G 86 c86 := ⟨_, Tryd.func86, by kernel_rfl⟩
/-- strconv.Itoa -/
def c87 : CF := ⟨5, [.t 2], .seq (.ops [⟨some 2, none, .mv (.k (.str []))⟩]) (.seq (.ops [⟨some 3, none, .mv (.t 0)⟩,
  ⟨some 4, none, .call (.k (.fn (.func 88) [] [])) [.t 3]⟩,
  ⟨some 2, none, .mv (.t 4)⟩]) (.ret))⟩
theorem fk87 (G : GT) : FOk Tryd.prog tt G 87 c87 := ⟨_, Tryd.func87, by kernel_rfl⟩
/-- internal/strconv.Itoa -/
def c88 : CF := ⟨5, [.t 2], .seq (.ops [⟨some 2, none, .mv (.k (.str []))⟩]) (.seq (.ops [⟨some 3, none, .mv (.t 0)⟩,
  ⟨some 4, none, .call (.k (.fn (.func 89) [] [])) [.t 3, .k (.int .i64 10)]⟩,
  ⟨some 2, none, .mv (.t 4)⟩]) (.ret))⟩
theorem fk88 (G : GT) : FOk Tryd.prog tt G 88 c88 := ⟨_, Tryd.func88, by kernel_rfl⟩
/-- internal/strconv.small -/
def c90 : CF := ⟨15, [.t 2], .seq (.ops [⟨some 2, none, .mv (.k (.str []))⟩]) (.seq (.seq (.ops [⟨some 3, none, .mv (.t 0)⟩,
  ⟨some 4, none, .bin .lss (.int .i64) true (.t 3) (.k (.int .i64 10))⟩]) (.cond (.t 4) (.seq (.ops [⟨some 5, none, .mv (.t 0)⟩,
  ⟨some 6, none, .mv (.t 0)⟩,
  ⟨some 7, none, .bin .add (.int .i64) true (.t 6) (.k (.int .i64 1))⟩,
  ⟨some 8, none, .slstr (.k (.str [48, 49, 50, 51, 52, 53, 54, 55, 56, 57, 97, 98, 99, 100, 101, 102, 103, 104, 105, 106, 107, 108, 109, 110, 111, 112, 113, 114, 115, 116, 117, 118, 119, 120, 121, 122])) (some (.t 5)) (some (.t 7))⟩,
  ⟨some 2, none, .mv (.t 8)⟩]) (.ret)) (.skip))) (.seq (.ops [⟨some 9, none, .mv (.t 0)⟩,
  ⟨some 10, none, .bin .mul (.int .i64) true (.t 9) (.k (.int .i64 2))⟩,
  ⟨some 11, none, .mv (.t 0)⟩,
  ⟨some 12, none, .bin .mul (.int .i64) true (.t 11) (.k (.int .i64 2))⟩,
  ⟨some 13, none, .bin .add (.int .i64) true (.t 12) (.k (.int .i64 2))⟩,
  ⟨some 14, none, .slstr (.k (.str [48, 48, 48, 49, 48, 50, 48, 51, 48, 52, 48, 53, 48, 54, 48, 55, 48, 56, 48, 57, 49, 48, 49, 49, 49, 50, 49, 51, 49, 52, 49, 53, 49, 54, 49, 55, 49, 56, 49, 57, 50, 48, 50, 49, 50, 50, 50, 51, 50, 52, 50, 53, 50, 54, 50, 55, 50, 56, 50, 57, 51, 48, 51, 49, 51, 50, 51, 51, 51, 52, 51, 53, 51, 54, 51, 55, 51, 56, 51, 57, 52, 48, 52, 49, 52, 50, 52, 51, 52, 52, 52, 53, 52, 54, 52, 55, 52, 56, 52, 57, 53, 48, 53, 49, 53, 50, 53, 51, 53, 52, 53, 53, 53, 54, 53, 55, 53, 56, 53, 57, 54, 48, 54, 49, 54, 50, 54, 51, 54, 52, 54, 53, 54, 54, 54, 55, 54, 56, 54, 57, 55, 48, 55, 49, 55, 50, 55, 51, 55, 52, 55, 53, 55, 54, 55, 55, 55, 56, 55, 57, 56, 48, 56, 49, 56, 50, 56, 51, 56, 52, 56, 53, 56, 54, 56, 55, 56, 56, 56, 57, 57, 48, 57, 49, 57, 50, 57, 51, 57, 52, 57, 53, 57, 54, 57, 55, 57, 56, 57, 57])) (some (.t 10)) (some (.t 13))⟩,
  ⟨some 2, none, .mv (.t 14)⟩]) (.ret)))⟩
theorem fk90 (G : GT) : FOk Tryd.prog tt G 90 c90 := ⟨_, Tryd.func90, by kernel_rfl⟩
def l92_0b : CC := .seq (.seq (.ops [⟨some 19, none, .mv (.t 4)⟩,
  ⟨some 20, none, .bin .geq (.int .i64) true (.t 19) (.k (.int .i64 8))⟩]) (.cond (.t 20) (.skip) (.exit 0))) (.block 1 (.seq (.ops [⟨some 21, none, .mv (.t 1)⟩,
  ⟨some 22, none, .bin .rem (.int .u64) true (.t 21) (.k (.int .u64 100000000))⟩,
  ⟨some 23, none, .cvi .u32 (.t 22)⟩,
  ⟨some 5, none, .mv (.t 23)⟩]) (.seq (.ops [⟨some 24, none, .mv (.t 1)⟩,
  ⟨some 25, none, .bin .quo (.int .u64) true (.t 24) (.k (.int .u64 100000000))⟩,
  ⟨some 1, none, .mv (.t 25)⟩]) (.seq (.ops [⟨some 26, none, .mv (.t 5)⟩,
  ⟨some 27, none, .bin .quo (.int .u32) true (.t 26) (.k (.int .u32 10000))⟩,
  ⟨some 28, none, .mv (.t 5)⟩,
  ⟨some 29, none, .bin .rem (.int .u32) true (.t 28) (.k (.int .u32 10000))⟩,
  ⟨some 6, none, .mv (.t 27)⟩,
  ⟨some 7, none, .mv (.t 29)⟩]) (.seq (.ops [⟨some 30, none, .mv (.t 7)⟩,
  ⟨some 31, none, .bin .quo (.int .u32) true (.t 30) (.k (.int .u32 100))⟩,
  ⟨some 32, none, .bin .mul (.int .u32) true (.t 31) (.k (.int .u32 2))⟩,
  ⟨some 33, none, .mv (.t 7)⟩,
  ⟨some 34, none, .bin .rem (.int .u32) true (.t 33) (.k (.int .u32 100))⟩,
  ⟨some 35, none, .bin .mul (.int .u32) true (.t 34) (.k (.int .u32 2))⟩,
  ⟨some 8, none, .mv (.t 32)⟩,
  ⟨some 9, none, .mv (.t 35)⟩]) (.seq (.ops [⟨some 36, none, .mv (.t 6)⟩,
  ⟨some 37, none, .bin .quo (.int .u32) true (.t 36) (.k (.int .u32 100))⟩,
  ⟨some 38, none, .bin .mul (.int .u32) true (.t 37) (.k (.int .u32 2))⟩,
  ⟨some 39, none, .mv (.t 6)⟩,
  ⟨some 40, none, .bin .rem (.int .u32) true (.t 39) (.k (.int .u32 100))⟩,
  ⟨some 41, none, .bin .mul (.int .u32) true (.t 40) (.k (.int .u32 2))⟩,
  ⟨some 10, none, .mv (.t 38)⟩,
  ⟨some 11, none, .mv (.t 41)⟩]) (.seq (.mix (.q 0 ⟨some 42, none, .mv (.t 0)⟩ (.q 0 ⟨some 43, none, .mv (.t 4)⟩ (.q 0 ⟨some 44, none, .bin .sub (.int .i64) true (.t 43) (.k (.int .i64 1))⟩ (.q 0 ⟨some 45, none, .mv (.t 0)⟩ (.q 0 ⟨some 46, none, .mv (.t 4)⟩ (.q 0 ⟨some 47, none, .bin .sub (.int .i64) true (.t 46) (.k (.int .i64 2))⟩ (.q 0 ⟨some 48, none, .mv (.t 9)⟩ (.q 0 ⟨some 49, none, .bin .add (.int .u32) true (.t 48) (.k (.int .u32 1))⟩ (.q 0 ⟨some 50, none, .ixstr (.k (.str [48, 48, 48, 49, 48, 50, 48, 51, 48, 52, 48, 53, 48, 54, 48, 55, 48, 56, 48, 57, 49, 48, 49, 49, 49, 50, 49, 51, 49, 52, 49, 53, 49, 54, 49, 55, 49, 56, 49, 57, 50, 48, 50, 49, 50, 50, 50, 51, 50, 52, 50, 53, 50, 54, 50, 55, 50, 56, 50, 57, 51, 48, 51, 49, 51, 50, 51, 51, 51, 52, 51, 53, 51, 54, 51, 55, 51, 56, 51, 57, 52, 48, 52, 49, 52, 50, 52, 51, 52, 52, 52, 53, 52, 54, 52, 55, 52, 56, 52, 57, 53, 48, 53, 49, 53, 50, 53, 51, 53, 52, 53, 53, 53, 54, 53, 55, 53, 56, 53, 57, 54, 48, 54, 49, 54, 50, 54, 51, 54, 52, 54, 53, 54, 54, 54, 55, 54, 56, 54, 57, 55, 48, 55, 49, 55, 50, 55, 51, 55, 52, 55, 53, 55, 54, 55, 55, 55, 56, 55, 57, 56, 48, 56, 49, 56, 50, 56, 51, 56, 52, 56, 53, 56, 54, 56, 55, 56, 56, 56, 57, 57, 48, 57, 49, 57, 50, 57, 51, 57, 52, 57, 53, 57, 54, 57, 55, 57, 56, 57, 57])) (.t 49)⟩ (.q 0 ⟨some 51, none, .mv (.t 9)⟩ (.q 0 ⟨some 52, none, .ixstr (.k (.str [48, 48, 48, 49, 48, 50, 48, 51, 48, 52, 48, 53, 48, 54, 48, 55, 48, 56, 48, 57, 49, 48, 49, 49, 49, 50, 49, 51, 49, 52, 49, 53, 49, 54, 49, 55, 49, 56, 49, 57, 50, 48, 50, 49, 50, 50, 50, 51, 50, 52, 50, 53, 50, 54, 50, 55, 50, 56, 50, 57, 51, 48, 51, 49, 51, 50, 51, 51, 51, 52, 51, 53, 51, 54, 51, 55, 51, 56, 51, 57, 52, 48, 52, 49, 52, 50, 52, 51, 52, 52, 52, 53, 52, 54, 52, 55, 52, 56, 52, 57, 53, 48, 53, 49, 53, 50, 53, 51, 53, 52, 53, 53, 53, 54, 53, 55, 53, 56, 53, 57, 54, 48, 54, 49, 54, 50, 54, 51, 54, 52, 54, 53, 54, 54, 54, 55, 54, 56, 54, 57, 55, 48, 55, 49, 55, 50, 55, 51, 55, 52, 55, 53, 55, 54, 55, 55, 55, 56, 55, 57, 56, 48, 56, 49, 56, 50, 56, 51, 56, 52, 56, 53, 56, 54, 56, 55, 56, 56, 56, 57, 57, 48, 57, 49, 57, 50, 57, 51, 57, 52, 57, 53, 57, 54, 57, 55, 57, 56, 57, 57])) (.t 51)⟩ (.q 1 ⟨some 53, none, .ixs 1 (.t 42) (.t 44)⟩ (.e ⟨none, none, .st 1 (.t 53) (.t 50)⟩ (.q 1 ⟨some 54, none, .ixs 1 (.t 45) (.t 47)⟩ (.e ⟨none, none, .st 1 (.t 54) (.t 52)⟩ (.done))))))))))))))))) (.seq (.mix (.q 0 ⟨some 55, none, .mv (.t 0)⟩ (.q 0 ⟨some 56, none, .mv (.t 4)⟩ (.q 0 ⟨some 57, none, .bin .sub (.int .i64) true (.t 56) (.k (.int .i64 3))⟩ (.q 0 ⟨some 58, none, .mv (.t 0)⟩ (.q 0 ⟨some 59, none, .mv (.t 4)⟩ (.q 0 ⟨some 60, none, .bin .sub (.int .i64) true (.t 59) (.k (.int .i64 4))⟩ (.q 0 ⟨some 61, none, .mv (.t 8)⟩ (.q 0 ⟨some 62, none, .bin .add (.int .u32) true (.t 61) (.k (.int .u32 1))⟩ (.q 0 ⟨some 63, none, .ixstr (.k (.str [48, 48, 48, 49, 48, 50, 48, 51, 48, 52, 48, 53, 48, 54, 48, 55, 48, 56, 48, 57, 49, 48, 49, 49, 49, 50, 49, 51, 49, 52, 49, 53, 49, 54, 49, 55, 49, 56, 49, 57, 50, 48, 50, 49, 50, 50, 50, 51, 50, 52, 50, 53, 50, 54, 50, 55, 50, 56, 50, 57, 51, 48, 51, 49, 51, 50, 51, 51, 51, 52, 51, 53, 51, 54, 51, 55, 51, 56, 51, 57, 52, 48, 52, 49, 52, 50, 52, 51, 52, 52, 52, 53, 52, 54, 52, 55, 52, 56, 52, 57, 53, 48, 53, 49, 53, 50, 53, 51, 53, 52, 53, 53, 53, 54, 53, 55, 53, 56, 53, 57, 54, 48, 54, 49, 54, 50, 54, 51, 54, 52, 54, 53, 54, 54, 54, 55, 54, 56, 54, 57, 55, 48, 55, 49, 55, 50, 55, 51, 55, 52, 55, 53, 55, 54, 55, 55, 55, 56, 55, 57, 56, 48, 56, 49, 56, 50, 56, 51, 56, 52, 56, 53, 56, 54, 56, 55, 56, 56, 56, 57, 57, 48, 57, 49, 57, 50, 57, 51, 57, 52, 57, 53, 57, 54, 57, 55, 57, 56, 57, 57])) (.t 62)⟩ (.q 0 ⟨some 64, none, .mv (.t 8)⟩ (.q 0 ⟨some 65, none, .ixstr (.k (.str [48, 48, 48, 49, 48, 50, 48, 51, 48, 52, 48, 53, 48, 54, 48, 55, 48, 56, 48, 57, 49, 48, 49, 49, 49, 50, 49, 51, 49, 52, 49, 53, 49, 54, 49, 55, 49, 56, 49, 57, 50, 48, 50, 49, 50, 50, 50, 51, 50, 52, 50, 53, 50, 54, 50, 55, 50, 56, 50, 57, 51, 48, 51, 49, 51, 50, 51, 51, 51, 52, 51, 53, 51, 54, 51, 55, 51, 56, 51, 57, 52, 48, 52, 49, 52, 50, 52, 51, 52, 52, 52, 53, 52, 54, 52, 55, 52, 56, 52, 57, 53, 48, 53, 49, 53, 50, 53, 51, 53, 52, 53, 53, 53, 54, 53, 55, 53, 56, 53, 57, 54, 48, 54, 49, 54, 50, 54, 51, 54, 52, 54, 53, 54, 54, 54, 55, 54, 56, 54, 57, 55, 48, 55, 49, 55, 50, 55, 51, 55, 52, 55, 53, 55, 54, 55, 55, 55, 56, 55, 57, 56, 48, 56, 49, 56, 50, 56, 51, 56, 52, 56, 53, 56, 54, 56, 55, 56, 56, 56, 57, 57, 48, 57, 49, 57, 50, 57, 51, 57, 52, 57, 53, 57, 54, 57, 55, 57, 56, 57, 57])) (.t 64)⟩ (.q 1 ⟨some 66, none, .ixs 1 (.t 55) (.t 57)⟩ (.e ⟨none, none, .st 1 (.t 66) (.t 63)⟩ (.q 1 ⟨some 67, none, .ixs 1 (.t 58) (.t 60)⟩ (.e ⟨none, none, .st 1 (.t 67) (.t 65)⟩ (.done))))))))))))))))) (.seq (.mix (.q 0 ⟨some 68, none, .mv (.t 0)⟩ (.q 0 ⟨some 69, none, .mv (.t 4)⟩ (.q 0 ⟨some 70, none, .bin .sub (.int .i64) true (.t 69) (.k (.int .i64 5))⟩ (.q 0 ⟨some 71, none, .mv (.t 0)⟩ (.q 0 ⟨some 72, none, .mv (.t 4)⟩ (.q 0 ⟨some 73, none, .bin .sub (.int .i64) true (.t 72) (.k (.int .i64 6))⟩ (.q 0 ⟨some 74, none, .mv (.t 11)⟩ (.q 0 ⟨some 75, none, .bin .add (.int .u32) true (.t 74) (.k (.int .u32 1))⟩ (.q 0 ⟨some 76, none, .ixstr (.k (.str [48, 48, 48, 49, 48, 50, 48, 51, 48, 52, 48, 53, 48, 54, 48, 55, 48, 56, 48, 57, 49, 48, 49, 49, 49, 50, 49, 51, 49, 52, 49, 53, 49, 54, 49, 55, 49, 56, 49, 57, 50, 48, 50, 49, 50, 50, 50, 51, 50, 52, 50, 53, 50, 54, 50, 55, 50, 56, 50, 57, 51, 48, 51, 49, 51, 50, 51, 51, 51, 52, 51, 53, 51, 54, 51, 55, 51, 56, 51, 57, 52, 48, 52, 49, 52, 50, 52, 51, 52, 52, 52, 53, 52, 54, 52, 55, 52, 56, 52, 57, 53, 48, 53, 49, 53, 50, 53, 51, 53, 52, 53, 53, 53, 54, 53, 55, 53, 56, 53, 57, 54, 48, 54, 49, 54, 50, 54, 51, 54, 52, 54, 53, 54, 54, 54, 55, 54, 56, 54, 57, 55, 48, 55, 49, 55, 50, 55, 51, 55, 52, 55, 53, 55, 54, 55, 55, 55, 56, 55, 57, 56, 48, 56, 49, 56, 50, 56, 51, 56, 52, 56, 53, 56, 54, 56, 55, 56, 56, 56, 57, 57, 48, 57, 49, 57, 50, 57, 51, 57, 52, 57, 53, 57, 54, 57, 55, 57, 56, 57, 57])) (.t 75)⟩ (.q 0 ⟨some 77, none, .mv (.t 11)⟩ (.q 0 ⟨some 78, none, .ixstr (.k (.str [48, 48, 48, 49, 48, 50, 48, 51, 48, 52, 48, 53, 48, 54, 48, 55, 48, 56, 48, 57, 49, 48, 49, 49, 49, 50, 49, 51, 49, 52, 49, 53, 49, 54, 49, 55, 49, 56, 49, 57, 50, 48, 50, 49, 50, 50, 50, 51, 50, 52, 50, 53, 50, 54, 50, 55, 50, 56, 50, 57, 51, 48, 51, 49, 51, 50, 51, 51, 51, 52, 51, 53, 51, 54, 51, 55, 51, 56, 51, 57, 52, 48, 52, 49, 52, 50, 52, 51, 52, 52, 52, 53, 52, 54, 52, 55, 52, 56, 52, 57, 53, 48, 53, 49, 53, 50, 53, 51, 53, 52, 53, 53, 53, 54, 53, 55, 53, 56, 53, 57, 54, 48, 54, 49, 54, 50, 54, 51, 54, 52, 54, 53, 54, 54, 54, 55, 54, 56, 54, 57, 55, 48, 55, 49, 55, 50, 55, 51, 55, 52, 55, 53, 55, 54, 55, 55, 55, 56, 55, 57, 56, 48, 56, 49, 56, 50, 56, 51, 56, 52, 56, 53, 56, 54, 56, 55, 56, 56, 56, 57, 57, 48, 57, 49, 57, 50, 57, 51, 57, 52, 57, 53, 57, 54, 57, 55, 57, 56, 57, 57])) (.t 77)⟩ (.q 1 ⟨some 79, none, .ixs 1 (.t 68) (.t 70)⟩ (.e ⟨none, none, .st 1 (.t 79) (.t 76)⟩ (.q 1 ⟨some 80, none, .ixs 1 (.t 71) (.t 73)⟩ (.e ⟨none, none, .st 1 (.t 80) (.t 78)⟩ (.done))))))))))))))))) (.seq (.mix (.q 0 ⟨some 81, none, .mv (.t 0)⟩ (.q 0 ⟨some 82, none, .mv (.t 4)⟩ (.q 0 ⟨some 83, none, .bin .sub (.int .i64) true (.t 82) (.k (.int .i64 7))⟩ (.q 0 ⟨some 84, none, .mv (.t 0)⟩ (.q 0 ⟨some 85, none, .mv (.t 4)⟩ (.q 0 ⟨some 86, none, .bin .sub (.int .i64) true (.t 85) (.k (.int .i64 8))⟩ (.q 0 ⟨some 87, none, .mv (.t 10)⟩ (.q 0 ⟨some 88, none, .bin .add (.int .u32) true (.t 87) (.k (.int .u32 1))⟩ (.q 0 ⟨some 89, none, .ixstr (.k (.str [48, 48, 48, 49, 48, 50, 48, 51, 48, 52, 48, 53, 48, 54, 48, 55, 48, 56, 48, 57, 49, 48, 49, 49, 49, 50, 49, 51, 49, 52, 49, 53, 49, 54, 49, 55, 49, 56, 49, 57, 50, 48, 50, 49, 50, 50, 50, 51, 50, 52, 50, 53, 50, 54, 50, 55, 50, 56, 50, 57, 51, 48, 51, 49, 51, 50, 51, 51, 51, 52, 51, 53, 51, 54, 51, 55, 51, 56, 51, 57, 52, 48, 52, 49, 52, 50, 52, 51, 52, 52, 52, 53, 52, 54, 52, 55, 52, 56, 52, 57, 53, 48, 53, 49, 53, 50, 53, 51, 53, 52, 53, 53, 53, 54, 53, 55, 53, 56, 53, 57, 54, 48, 54, 49, 54, 50, 54, 51, 54, 52, 54, 53, 54, 54, 54, 55, 54, 56, 54, 57, 55, 48, 55, 49, 55, 50, 55, 51, 55, 52, 55, 53, 55, 54, 55, 55, 55, 56, 55, 57, 56, 48, 56, 49, 56, 50, 56, 51, 56, 52, 56, 53, 56, 54, 56, 55, 56, 56, 56, 57, 57, 48, 57, 49, 57, 50, 57, 51, 57, 52, 57, 53, 57, 54, 57, 55, 57, 56, 57, 57])) (.t 88)⟩ (.q 0 ⟨some 90, none, .mv (.t 10)⟩ (.q 0 ⟨some 91, none, .ixstr (.k (.str [48, 48, 48, 49, 48, 50, 48, 51, 48, 52, 48, 53, 48, 54, 48, 55, 48, 56, 48, 57, 49, 48, 49, 49, 49, 50, 49, 51, 49, 52, 49, 53, 49, 54, 49, 55, 49, 56, 49, 57, 50, 48, 50, 49, 50, 50, 50, 51, 50, 52, 50, 53, 50, 54, 50, 55, 50, 56, 50, 57, 51, 48, 51, 49, 51, 50, 51, 51, 51, 52, 51, 53, 51, 54, 51, 55, 51, 56, 51, 57, 52, 48, 52, 49, 52, 50, 52, 51, 52, 52, 52, 53, 52, 54, 52, 55, 52, 56, 52, 57, 53, 48, 53, 49, 53, 50, 53, 51, 53, 52, 53, 53, 53, 54, 53, 55, 53, 56, 53, 57, 54, 48, 54, 49, 54, 50, 54, 51, 54, 52, 54, 53, 54, 54, 54, 55, 54, 56, 54, 57, 55, 48, 55, 49, 55, 50, 55, 51, 55, 52, 55, 53, 55, 54, 55, 55, 55, 56, 55, 57, 56, 48, 56, 49, 56, 50, 56, 51, 56, 52, 56, 53, 56, 54, 56, 55, 56, 56, 56, 57, 57, 48, 57, 49, 57, 50, 57, 51, 57, 52, 57, 53, 57, 54, 57, 55, 57, 56, 57, 57])) (.t 90)⟩ (.q 1 ⟨some 92, none, .ixs 1 (.t 81) (.t 83)⟩ (.e ⟨none, none, .st 1 (.t 92) (.t 89)⟩ (.q 1 ⟨some 93, none, .ixs 1 (.t 84) (.t 86)⟩ (.e ⟨none, none, .st 1 (.t 93) (.t 91)⟩ (.done))))))))))))))))) (.ops [⟨some 94, none, .mv (.t 4)⟩,
  ⟨some 95, none, .bin .sub (.int .i64) true (.t 94) (.k (.int .i64 8))⟩,
  ⟨some 4, none, .mv (.t 95)⟩])))))))))))
def l92_0 : CC := l92_0b
theorem l92_0x (P : Program) (T : TT) (G : GT) (Q : EQ) (t : Env) (σ : St) : aC P T G l92_0 Q t σ = aC P T G l92_0b Q t σ := rfl
/-- internal/strconv.formatBase10 -/
def c92 : CF := ⟨167, [], .seq (.ops [⟨some 17, none, .mv (.t 0)⟩,
  ⟨some 18, none, .lenl (.t 17)⟩,
  ⟨some 4, none, .mv (.t 18)⟩]) (.seq (.block 0 (.loop l92_0)) (.seq (.ops [⟨some 96, none, .mv (.t 1)⟩,
  ⟨some 97, none, .cvi .u32 (.t 96)⟩,
  ⟨some 12, none, .mv (.t 97)⟩]) (.seq (.seq (.ops [⟨some 98, none, .mv (.t 4)⟩,
  ⟨some 99, none, .bin .geq (.int .i64) true (.t 98) (.k (.int .i64 4))⟩]) (.cond (.t 99) (.seq (.ops [⟨some 100, none, .mv (.t 12)⟩,
  ⟨some 101, none, .bin .rem (.int .u32) true (.t 100) (.k (.int .u32 10000))⟩,
  ⟨some 13, none, .mv (.t 101)⟩]) (.seq (.ops [⟨some 102, none, .mv (.t 12)⟩,
  ⟨some 103, none, .bin .quo (.int .u32) true (.t 102) (.k (.int .u32 10000))⟩,
  ⟨some 12, none, .mv (.t 103)⟩]) (.seq (.ops [⟨some 104, none, .mv (.t 13)⟩,
  ⟨some 105, none, .bin .quo (.int .u32) true (.t 104) (.k (.int .u32 100))⟩,
  ⟨some 106, none, .bin .mul (.int .u32) true (.t 105) (.k (.int .u32 2))⟩,
  ⟨some 107, none, .mv (.t 13)⟩,
  ⟨some 108, none, .bin .rem (.int .u32) true (.t 107) (.k (.int .u32 100))⟩,
  ⟨some 109, none, .bin .mul (.int .u32) true (.t 108) (.k (.int .u32 2))⟩,
  ⟨some 14, none, .mv (.t 106)⟩,
  ⟨some 15, none, .mv (.t 109)⟩]) (.seq (.mix (.q 0 ⟨some 110, none, .mv (.t 0)⟩ (.q 0 ⟨some 111, none, .mv (.t 4)⟩ (.q 0 ⟨some 112, none, .bin .sub (.int .i64) true (.t 111) (.k (.int .i64 1))⟩ (.q 0 ⟨some 113, none, .mv (.t 0)⟩ (.q 0 ⟨some 114, none, .mv (.t 4)⟩ (.q 0 ⟨some 115, none, .bin .sub (.int .i64) true (.t 114) (.k (.int .i64 2))⟩ (.q 0 ⟨some 116, none, .mv (.t 15)⟩ (.q 0 ⟨some 117, none, .bin .add (.int .u32) true (.t 116) (.k (.int .u32 1))⟩ (.q 0 ⟨some 118, none, .ixstr (.k (.str [48, 48, 48, 49, 48, 50, 48, 51, 48, 52, 48, 53, 48, 54, 48, 55, 48, 56, 48, 57, 49, 48, 49, 49, 49, 50, 49, 51, 49, 52, 49, 53, 49, 54, 49, 55, 49, 56, 49, 57, 50, 48, 50, 49, 50, 50, 50, 51, 50, 52, 50, 53, 50, 54, 50, 55, 50, 56, 50, 57, 51, 48, 51, 49, 51, 50, 51, 51, 51, 52, 51, 53, 51, 54, 51, 55, 51, 56, 51, 57, 52, 48, 52, 49, 52, 50, 52, 51, 52, 52, 52, 53, 52, 54, 52, 55, 52, 56, 52, 57, 53, 48, 53, 49, 53, 50, 53, 51, 53, 52, 53, 53, 53, 54, 53, 55, 53, 56, 53, 57, 54, 48, 54, 49, 54, 50, 54, 51, 54, 52, 54, 53, 54, 54, 54, 55, 54, 56, 54, 57, 55, 48, 55, 49, 55, 50, 55, 51, 55, 52, 55, 53, 55, 54, 55, 55, 55, 56, 55, 57, 56, 48, 56, 49, 56, 50, 56, 51, 56, 52, 56, 53, 56, 54, 56, 55, 56, 56, 56, 57, 57, 48, 57, 49, 57, 50, 57, 51, 57, 52, 57, 53, 57, 54, 57, 55, 57, 56, 57, 57])) (.t 117)⟩ (.q 0 ⟨some 119, none, .mv (.t 15)⟩ (.q 0 ⟨some 120, none, .ixstr (.k (.str [48, 48, 48, 49, 48, 50, 48, 51, 48, 52, 48, 53, 48, 54, 48, 55, 48, 56, 48, 57, 49, 48, 49, 49, 49, 50, 49, 51, 49, 52, 49, 53, 49, 54, 49, 55, 49, 56, 49, 57, 50, 48, 50, 49, 50, 50, 50, 51, 50, 52, 50, 53, 50, 54, 50, 55, 50, 56, 50, 57, 51, 48, 51, 49, 51, 50, 51, 51, 51, 52, 51, 53, 51, 54, 51, 55, 51, 56, 51, 57, 52, 48, 52, 49, 52, 50, 52, 51, 52, 52, 52, 53, 52, 54, 52, 55, 52, 56, 52, 57, 53, 48, 53, 49, 53, 50, 53, 51, 53, 52, 53, 53, 53, 54, 53, 55, 53, 56, 53, 57, 54, 48, 54, 49, 54, 50, 54, 51, 54, 52, 54, 53, 54, 54, 54, 55, 54, 56, 54, 57, 55, 48, 55, 49, 55, 50, 55, 51, 55, 52, 55, 53, 55, 54, 55, 55, 55, 56, 55, 57, 56, 48, 56, 49, 56, 50, 56, 51, 56, 52, 56, 53, 56, 54, 56, 55, 56, 56, 56, 57, 57, 48, 57, 49, 57, 50, 57, 51, 57, 52, 57, 53, 57, 54, 57, 55, 57, 56, 57, 57])) (.t 119)⟩ (.q 1 ⟨some 121, none, .ixs 1 (.t 110) (.t 112)⟩ (.e ⟨none, none, .st 1 (.t 121) (.t 118)⟩ (.q 1 ⟨some 122, none, .ixs 1 (.t 113) (.t 115)⟩ (.e ⟨none, none, .st 1 (.t 122) (.t 120)⟩ (.done))))))))))))))))) (.seq (.mix (.q 0 ⟨some 123, none, .mv (.t 0)⟩ (.q 0 ⟨some 124, none, .mv (.t 4)⟩ (.q 0 ⟨some 125, none, .bin .sub (.int .i64) true (.t 124) (.k (.int .i64 3))⟩ (.q 0 ⟨some 126, none, .mv (.t 0)⟩ (.q 0 ⟨some 127, none, .mv (.t 4)⟩ (.q 0 ⟨some 128, none, .bin .sub (.int .i64) true (.t 127) (.k (.int .i64 4))⟩ (.q 0 ⟨some 129, none, .mv (.t 14)⟩ (.q 0 ⟨some 130, none, .bin .add (.int .u32) true (.t 129) (.k (.int .u32 1))⟩ (.q 0 ⟨some 131, none, .ixstr (.k (.str [48, 48, 48, 49, 48, 50, 48, 51, 48, 52, 48, 53, 48, 54, 48, 55, 48, 56, 48, 57, 49, 48, 49, 49, 49, 50, 49, 51, 49, 52, 49, 53, 49, 54, 49, 55, 49, 56, 49, 57, 50, 48, 50, 49, 50, 50, 50, 51, 50, 52, 50, 53, 50, 54, 50, 55, 50, 56, 50, 57, 51, 48, 51, 49, 51, 50, 51, 51, 51, 52, 51, 53, 51, 54, 51, 55, 51, 56, 51, 57, 52, 48, 52, 49, 52, 50, 52, 51, 52, 52, 52, 53, 52, 54, 52, 55, 52, 56, 52, 57, 53, 48, 53, 49, 53, 50, 53, 51, 53, 52, 53, 53, 53, 54, 53, 55, 53, 56, 53, 57, 54, 48, 54, 49, 54, 50, 54, 51, 54, 52, 54, 53, 54, 54, 54, 55, 54, 56, 54, 57, 55, 48, 55, 49, 55, 50, 55, 51, 55, 52, 55, 53, 55, 54, 55, 55, 55, 56, 55, 57, 56, 48, 56, 49, 56, 50, 56, 51, 56, 52, 56, 53, 56, 54, 56, 55, 56, 56, 56, 57, 57, 48, 57, 49, 57, 50, 57, 51, 57, 52, 57, 53, 57, 54, 57, 55, 57, 56, 57, 57])) (.t 130)⟩ (.q 0 ⟨some 132, none, .mv (.t 14)⟩ (.q 0 ⟨some 133, none, .ixstr (.k (.str [48, 48, 48, 49, 48, 50, 48, 51, 48, 52, 48, 53, 48, 54, 48, 55, 48, 56, 48, 57, 49, 48, 49, 49, 49, 50, 49, 51, 49, 52, 49, 53, 49, 54, 49, 55, 49, 56, 49, 57, 50, 48, 50, 49, 50, 50, 50, 51, 50, 52, 50, 53, 50, 54, 50, 55, 50, 56, 50, 57, 51, 48, 51, 49, 51, 50, 51, 51, 51, 52, 51, 53, 51, 54, 51, 55, 51, 56, 51, 57, 52, 48, 52, 49, 52, 50, 52, 51, 52, 52, 52, 53, 52, 54, 52, 55, 52, 56, 52, 57, 53, 48, 53, 49, 53, 50, 53, 51, 53, 52, 53, 53, 53, 54, 53, 55, 53, 56, 53, 57, 54, 48, 54, 49, 54, 50, 54, 51, 54, 52, 54, 53, 54, 54, 54, 55, 54, 56, 54, 57, 55, 48, 55, 49, 55, 50, 55, 51, 55, 52, 55, 53, 55, 54, 55, 55, 55, 56, 55, 57, 56, 48, 56, 49, 56, 50, 56, 51, 56, 52, 56, 53, 56, 54, 56, 55, 56, 56, 56, 57, 57, 48, 57, 49, 57, 50, 57, 51, 57, 52, 57, 53, 57, 54, 57, 55, 57, 56, 57, 57])) (.t 132)⟩ (.q 1 ⟨some 134, none, .ixs 1 (.t 123) (.t 125)⟩ (.e ⟨none, none, .st 1 (.t 134) (.t 131)⟩ (.q 1 ⟨some 135, none, .ixs 1 (.t 126) (.t 128)⟩ (.e ⟨none, none, .st 1 (.t 135) (.t 133)⟩ (.done))))))))))))))))) (.ops [⟨some 136, none, .mv (.t 4)⟩,
  ⟨some 137, none, .bin .sub (.int .i64) true (.t 136) (.k (.int .i64 4))⟩,
  ⟨some 4, none, .mv (.t 137)⟩])))))) (.skip))) (.seq (.seq (.ops [⟨some 138, none, .mv (.t 4)⟩,
  ⟨some 139, none, .bin .geq (.int .i64) true (.t 138) (.k (.int .i64 2))⟩]) (.cond (.t 139) (.seq (.ops [⟨some 140, none, .mv (.t 12)⟩,
  ⟨some 141, none, .bin .rem (.int .u32) true (.t 140) (.k (.int .u32 100))⟩,
  ⟨some 142, none, .bin .mul (.int .u32) true (.t 141) (.k (.int .u32 2))⟩,
  ⟨some 16, none, .mv (.t 142)⟩]) (.seq (.ops [⟨some 143, none, .mv (.t 12)⟩,
  ⟨some 144, none, .bin .quo (.int .u32) true (.t 143) (.k (.int .u32 100))⟩,
  ⟨some 12, none, .mv (.t 144)⟩]) (.seq (.mix (.q 0 ⟨some 145, none, .mv (.t 0)⟩ (.q 0 ⟨some 146, none, .mv (.t 4)⟩ (.q 0 ⟨some 147, none, .bin .sub (.int .i64) true (.t 146) (.k (.int .i64 1))⟩ (.q 0 ⟨some 148, none, .mv (.t 0)⟩ (.q 0 ⟨some 149, none, .mv (.t 4)⟩ (.q 0 ⟨some 150, none, .bin .sub (.int .i64) true (.t 149) (.k (.int .i64 2))⟩ (.q 0 ⟨some 151, none, .mv (.t 16)⟩ (.q 0 ⟨some 152, none, .bin .add (.int .u32) true (.t 151) (.k (.int .u32 1))⟩ (.q 0 ⟨some 153, none, .ixstr (.k (.str [48, 48, 48, 49, 48, 50, 48, 51, 48, 52, 48, 53, 48, 54, 48, 55, 48, 56, 48, 57, 49, 48, 49, 49, 49, 50, 49, 51, 49, 52, 49, 53, 49, 54, 49, 55, 49, 56, 49, 57, 50, 48, 50, 49, 50, 50, 50, 51, 50, 52, 50, 53, 50, 54, 50, 55, 50, 56, 50, 57, 51, 48, 51, 49, 51, 50, 51, 51, 51, 52, 51, 53, 51, 54, 51, 55, 51, 56, 51, 57, 52, 48, 52, 49, 52, 50, 52, 51, 52, 52, 52, 53, 52, 54, 52, 55, 52, 56, 52, 57, 53, 48, 53, 49, 53, 50, 53, 51, 53, 52, 53, 53, 53, 54, 53, 55, 53, 56, 53, 57, 54, 48, 54, 49, 54, 50, 54, 51, 54, 52, 54, 53, 54, 54, 54, 55, 54, 56, 54, 57, 55, 48, 55, 49, 55, 50, 55, 51, 55, 52, 55, 53, 55, 54, 55, 55, 55, 56, 55, 57, 56, 48, 56, 49, 56, 50, 56, 51, 56, 52, 56, 53, 56, 54, 56, 55, 56, 56, 56, 57, 57, 48, 57, 49, 57, 50, 57, 51, 57, 52, 57, 53, 57, 54, 57, 55, 57, 56, 57, 57])) (.t 152)⟩ (.q 0 ⟨some 154, none, .mv (.t 16)⟩ (.q 0 ⟨some 155, none, .ixstr (.k (.str [48, 48, 48, 49, 48, 50, 48, 51, 48, 52, 48, 53, 48, 54, 48, 55, 48, 56, 48, 57, 49, 48, 49, 49, 49, 50, 49, 51, 49, 52, 49, 53, 49, 54, 49, 55, 49, 56, 49, 57, 50, 48, 50, 49, 50, 50, 50, 51, 50, 52, 50, 53, 50, 54, 50, 55, 50, 56, 50, 57, 51, 48, 51, 49, 51, 50, 51, 51, 51, 52, 51, 53, 51, 54, 51, 55, 51, 56, 51, 57, 52, 48, 52, 49, 52, 50, 52, 51, 52, 52, 52, 53, 52, 54, 52, 55, 52, 56, 52, 57, 53, 48, 53, 49, 53, 50, 53, 51, 53, 52, 53, 53, 53, 54, 53, 55, 53, 56, 53, 57, 54, 48, 54, 49, 54, 50, 54, 51, 54, 52, 54, 53, 54, 54, 54, 55, 54, 56, 54, 57, 55, 48, 55, 49, 55, 50, 55, 51, 55, 52, 55, 53, 55, 54, 55, 55, 55, 56, 55, 57, 56, 48, 56, 49, 56, 50, 56, 51, 56, 52, 56, 53, 56, 54, 56, 55, 56, 56, 56, 57, 57, 48, 57, 49, 57, 50, 57, 51, 57, 52, 57, 53, 57, 54, 57, 55, 57, 56, 57, 57])) (.t 154)⟩ (.q 1 ⟨some 156, none, .ixs 1 (.t 145) (.t 147)⟩ (.e ⟨none, none, .st 1 (.t 156) (.t 153)⟩ (.q 1 ⟨some 157, none, .ixs 1 (.t 148) (.t 150)⟩ (.e ⟨none, none, .st 1 (.t 157) (.t 155)⟩ (.done))))))))))))))))) (.ops [⟨some 158, none, .mv (.t 4)⟩,
  ⟨some 159, none, .bin .sub (.int .i64) true (.t 158) (.k (.int .i64 2))⟩,
  ⟨some 4, none, .mv (.t 159)⟩])))) (.skip))) (.seq (.ops [⟨some 160, none, .mv (.t 4)⟩,
  ⟨some 161, none, .bin .gtr (.int .i64) true (.t 160) (.k (.int .i64 0))⟩]) (.cond (.t 161) (.ops [⟨some 162, none, .mv (.t 0)⟩,
  ⟨some 163, none, .mv (.t 12)⟩,
  ⟨some 164, none, .bin .add (.int .u32) true (.k (.int .u32 48)) (.t 163)⟩,
  ⟨some 165, none, .cvi .u8 (.t 164)⟩,
  ⟨some 166, none, .ixs 1 (.t 162) (.k (.int .i64 0))⟩,
  ⟨none, none, .st 1 (.t 166) (.t 165)⟩]) (.skip)))))))⟩
theorem fk92 (G : GT) : FOk Tryd.prog tt G 92 c92 := ⟨_, Tryd.func92, by kernel_rfl⟩
/-- internal/strconv.log10Pow2 -/
def c94 : CF := ⟨6, [.t 2], .seq (.ops [⟨some 2, none, .mv (.k (.int .i64 0))⟩]) (.seq (.ops [⟨some 3, none, .mv (.t 0)⟩,
  ⟨some 4, none, .bin .mul (.int .i64) true (.t 3) (.k (.int .i64 78913))⟩,
  ⟨some 5, none, .bin .shr (.int .i64) true (.t 4) (.k (.int .u64 18))⟩,
  ⟨some 2, none, .mv (.t 5)⟩]) (.ret))⟩
theorem fk94 (G : GT) : FOk Tryd.prog tt G 94 c94 := ⟨_, Tryd.func94, by kernel_rfl⟩
/-- math/bits.Len64 -/
def c95 : CF := ⟨25, [.t 2], .seq (.ops [⟨some 2, none, .mv (.k (.int .i64 0))⟩]) (.seq (.seq (.ops [⟨some 3, none, .mv (.t 0)⟩,
  ⟨some 4, none, .bin .geq (.int .u64) true (.t 3) (.k (.int .u64 4294967296))⟩]) (.cond (.t 4) (.seq (.ops [⟨some 5, none, .mv (.t 0)⟩,
  ⟨some 6, none, .bin .shr (.int .u64) true (.t 5) (.k (.int .u64 32))⟩,
  ⟨some 0, none, .mv (.t 6)⟩]) (.ops [⟨some 2, none, .mv (.k (.int .i64 32))⟩])) (.skip))) (.seq (.seq (.ops [⟨some 7, none, .mv (.t 0)⟩,
  ⟨some 8, none, .bin .geq (.int .u64) true (.t 7) (.k (.int .u64 65536))⟩]) (.cond (.t 8) (.seq (.ops [⟨some 9, none, .mv (.t 0)⟩,
  ⟨some 10, none, .bin .shr (.int .u64) true (.t 9) (.k (.int .u64 16))⟩,
  ⟨some 0, none, .mv (.t 10)⟩]) (.ops [⟨some 11, none, .mv (.t 2)⟩,
  ⟨some 12, none, .bin .add (.int .i64) true (.t 11) (.k (.int .i64 16))⟩,
  ⟨some 2, none, .mv (.t 12)⟩])) (.skip))) (.seq (.seq (.ops [⟨some 13, none, .mv (.t 0)⟩,
  ⟨some 14, none, .bin .geq (.int .u64) true (.t 13) (.k (.int .u64 256))⟩]) (.cond (.t 14) (.seq (.ops [⟨some 15, none, .mv (.t 0)⟩,
  ⟨some 16, none, .bin .shr (.int .u64) true (.t 15) (.k (.int .u64 8))⟩,
  ⟨some 0, none, .mv (.t 16)⟩]) (.ops [⟨some 17, none, .mv (.t 2)⟩,
  ⟨some 18, none, .bin .add (.int .i64) true (.t 17) (.k (.int .i64 8))⟩,
  ⟨some 2, none, .mv (.t 18)⟩])) (.skip))) (.seq (.ops [⟨some 19, none, .mv (.t 2)⟩,
  ⟨some 20, none, .mv (.t 0)⟩,
  ⟨some 21, none, .cvi .u8 (.t 20)⟩,
  ⟨some 22, none, .ixstr (.k (.str [0, 1, 2, 2, 3, 3, 3, 3, 4, 4, 4, 4, 4, 4, 4, 4, 5, 5, 5, 5, 5, 5, 5, 5, 5, 5, 5, 5, 5, 5, 5, 5, 6, 6, 6, 6, 6, 6, 6, 6, 6, 6, 6, 6, 6, 6, 6, 6, 6, 6, 6, 6, 6, 6, 6, 6, 6, 6, 6, 6, 6, 6, 6, 6, 7, 7, 7, 7, 7, 7, 7, 7, 7, 7, 7, 7, 7, 7, 7, 7, 7, 7, 7, 7, 7, 7, 7, 7, 7, 7, 7, 7, 7, 7, 7, 7, 7, 7, 7, 7, 7, 7, 7, 7, 7, 7, 7, 7, 7, 7, 7, 7, 7, 7, 7, 7, 7, 7, 7, 7, 7, 7, 7, 7, 7, 7, 7, 7, 8, 8, 8, 8, 8, 8, 8, 8, 8, 8, 8, 8, 8, 8, 8, 8, 8, 8, 8, 8, 8, 8, 8, 8, 8, 8, 8, 8, 8, 8, 8, 8, 8, 8, 8, 8, 8, 8, 8, 8, 8, 8, 8, 8, 8, 8, 8, 8, 8, 8, 8, 8, 8, 8, 8, 8, 8, 8, 8, 8, 8, 8, 8, 8, 8, 8, 8, 8, 8, 8, 8, 8, 8, 8, 8, 8, 8, 8, 8, 8, 8, 8, 8, 8, 8, 8, 8, 8, 8, 8, 8, 8, 8, 8, 8, 8, 8, 8, 8, 8, 8, 8, 8, 8, 8, 8, 8, 8, 8, 8, 8, 8, 8, 8, 8, 8, 8, 8, 8, 8, 8, 8, 8, 8, 8, 8, 8, 8])) (.t 21)⟩,
  ⟨some 23, none, .cvi .i64 (.t 22)⟩,
  ⟨some 24, none, .bin .add (.int .i64) false (.t 19) (.t 23)⟩,
  ⟨some 2, none, .mv (.t 24)⟩]) (.ret)))))⟩
theorem fk95 (G : GT) : FOk Tryd.prog tt G 95 c95 := ⟨_, Tryd.func95, by kernel_rfl⟩
/-- internal/strconv.bool2[int] -/
def c96 : CF := ⟨4, [.t 2], .seq (.ops [⟨some 2, none, .mv (.k (.int .i64 0))⟩]) (.seq (.seq (.ops [⟨some 3, none, .mv (.t 0)⟩]) (.cond (.t 3) (.seq (.ops [⟨some 2, none, .mv (.k (.int .i64 1))⟩]) (.ret)) (.skip))) (.seq (.ops [⟨some 2, none, .mv (.k (.int .i64 0))⟩]) (.ret)))⟩
theorem fk96 (G : GT) : FOk Tryd.prog tt G 96 c96 := ⟨_, Tryd.func96, by kernel_rfl⟩
/-- internal/strconv.isPowerOfTwo -/
def c97 : CF := ⟨8, [.t 2], .seq (.ops [⟨some 2, none, .mv (.k (.bool false))⟩]) (.seq (.ops [⟨some 3, none, .mv (.t 0)⟩,
  ⟨some 4, none, .mv (.t 0)⟩,
  ⟨some 5, none, .bin .sub (.int .i64) true (.t 4) (.k (.int .i64 1))⟩,
  ⟨some 6, none, .bin .and (.int .i64) false (.t 3) (.t 5)⟩,
  ⟨some 7, none, .bin .eql (.int .i64) true (.t 6) (.k (.int .i64 0))⟩,
  ⟨some 2, none, .mv (.t 7)⟩]) (.ret))⟩
theorem fk97 (G : GT) : FOk Tryd.prog tt G 97 c97 := ⟨_, Tryd.func97, by kernel_rfl⟩
/-- math/bits.TrailingZeros -/
def c98 : CF := ⟨8, [.t 2], .seq (.ops [⟨some 2, none, .mv (.k (.int .i64 0))⟩]) (.seq (.cond (.k (.bool false)) (.seq (.ops [⟨some 3, none, .mv (.t 0)⟩,
  ⟨some 4, none, .cvi .u32 (.t 3)⟩,
  ⟨some 5, none, .call (.k (.fn (.func 99) [] [])) [.t 4]⟩,
  ⟨some 2, none, .mv (.t 5)⟩]) (.ret)) (.skip)) (.seq (.ops [⟨some 6, none, .mv (.t 0)⟩,
  ⟨some 7, none, .call (.k (.fn (.func 100) [] [])) [.t 6]⟩,
  ⟨some 2, none, .mv (.t 7)⟩]) (.ret)))⟩
theorem fk98 (G : GT) : FOk Tryd.prog tt G 98 c98 := ⟨_, Tryd.func98, by kernel_rfl⟩
end Go.Ab.Sd
