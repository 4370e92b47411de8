/- The table of this seat's types for the abstract machine, and that it is the program's. Printed by a program of this work (gen_tt.py). -/
import Derived.Test.YtpejbkckppnamaaGreatDoorProg
import Derived.Test.YtpejbkckppnamaaGreatDoorAbB
import Derived.KernelRfl
set_option linter.all false
set_option linter.unusedVariables false
set_option linter.unusedSimpArgs false
namespace Go.Ab.Sz
open Go Go.Ab Go.Proofs
set_option maxRecDepth 20000
def g0 : GT := fun _ => none
def ti3 : TI := ⟨1, 8, .int .i64, [.int .i64 0]⟩
theorem ok3 : TIok Tryz.prog 3 ti3 := ⟨⟨Tryz.t3, _, by kernel_rfl, rfl, rfl, rfl, rfl⟩, rfl, rfl, ⟨_, Tryz.underlying3, rfl⟩⟩
def ti4 : TI := ⟨1, 1, .bool, [.bool false]⟩
theorem ok4 : TIok Tryz.prog 4 ti4 := ⟨⟨Tryz.t4, _, by kernel_rfl, rfl, rfl, rfl, rfl⟩, rfl, rfl, ⟨_, Tryz.underlying4, rfl⟩⟩
def ti5 : TI := ⟨1, 1, .int .u8, [.int .u8 0]⟩
theorem ok5 : TIok Tryz.prog 5 ti5 := ⟨⟨Tryz.t5, _, by kernel_rfl, rfl, rfl, rfl, rfl⟩, rfl, rfl, ⟨_, Tryz.underlying5, rfl⟩⟩
def ti9 : TI := ⟨1, 16, .str, [.str []]⟩
theorem ok9 : TIok Tryz.prog 9 ti9 := ⟨⟨Tryz.t9, _, by kernel_rfl, rfl, rfl, rfl, rfl⟩, rfl, rfl, ⟨_, Tryz.underlying9, rfl⟩⟩
def ti21 : TI := ⟨1, 4, .int .i32, [.int .i32 0]⟩
theorem ok21 : TIok Tryz.prog 21 ti21 := ⟨⟨Tryz.t21, _, by kernel_rfl, rfl, rfl, rfl, rfl⟩, rfl, rfl, ⟨_, Tryz.underlying21, rfl⟩⟩
def ti23 : TI := ⟨1, 24, .slice 30, [.nils]⟩
theorem ok23 : TIok Tryz.prog 23 ti23 := ⟨⟨Tryz.t23, _, by kernel_rfl, rfl, rfl, rfl, rfl⟩, rfl, rfl, ⟨_, Tryz.underlying23, rfl⟩⟩
def ti24 : TI := ⟨1, 8, .int .i64, [.int .i64 0]⟩
theorem ok24 : TIok Tryz.prog 24 ti24 := ⟨⟨Tryz.t24, _, by kernel_rfl, rfl, rfl, rfl, rfl⟩, rfl, rfl, ⟨_, Tryz.underlying24, rfl⟩⟩
def ti28 : TI := ⟨1, 24, .slice 64, [.nils]⟩
theorem ok28 : TIok Tryz.prog 28 ti28 := ⟨⟨Tryz.t28, _, by kernel_rfl, rfl, rfl, rfl, rfl⟩, rfl, rfl, ⟨_, Tryz.underlying28, rfl⟩⟩
def ti29 : TI := ⟨5, 72, .struct [(0, 3), (1, 9), (2, 9), (3, 28), (4, 4)], [.int .i64 0, .str [], .str [], .nils, .bool false]⟩
theorem ok29 : TIok Tryz.prog 29 ti29 := ⟨⟨Tryz.t29, _, by kernel_rfl, rfl, rfl, rfl, rfl⟩, rfl, rfl, ⟨_, Tryz.underlying29, ⟨_, rfl, rfl⟩⟩⟩
def ti30 : TI := ⟨5, 72, .struct [(0, 3), (1, 9), (2, 9), (3, 28), (4, 4)], [.int .i64 0, .str [], .str [], .nils, .bool false]⟩
theorem ok30 : TIok Tryz.prog 30 ti30 := ⟨⟨Tryz.t30, _, by kernel_rfl, rfl, rfl, rfl, rfl⟩, rfl, rfl, ⟨_, Tryz.underlying30, ⟨_, rfl, rfl⟩⟩⟩
def ti34 : TI := ⟨1, 24, .slice 40, [.nils]⟩
theorem ok34 : TIok Tryz.prog 34 ti34 := ⟨⟨Tryz.t34, _, by kernel_rfl, rfl, rfl, rfl, rfl⟩, rfl, rfl, ⟨_, Tryz.underlying34, rfl⟩⟩
def ti39 : TI := ⟨4, 64, .struct [(0, 3), (1, 9), (2, 9), (3, 28)], [.int .i64 0, .str [], .str [], .nils]⟩
theorem ok39 : TIok Tryz.prog 39 ti39 := ⟨⟨Tryz.t39, _, by kernel_rfl, rfl, rfl, rfl, rfl⟩, rfl, rfl, ⟨_, Tryz.underlying39, ⟨_, rfl, rfl⟩⟩⟩
def ti40 : TI := ⟨4, 64, .struct [(0, 3), (1, 9), (2, 9), (3, 28)], [.int .i64 0, .str [], .str [], .nils]⟩
theorem ok40 : TIok Tryz.prog 40 ti40 := ⟨⟨Tryz.t40, _, by kernel_rfl, rfl, rfl, rfl, rfl⟩, rfl, rfl, ⟨_, Tryz.underlying40, ⟨_, rfl, rfl⟩⟩⟩
def ti43 : TI := ⟨1, 24, .slice 3, [.nils]⟩
theorem ok43 : TIok Tryz.prog 43 ti43 := ⟨⟨Tryz.t43, _, by kernel_rfl, rfl, rfl, rfl, rfl⟩, rfl, rfl, ⟨_, Tryz.underlying43, rfl⟩⟩
def ti46 : TI := ⟨1, 8, .int .u64, [.int .u64 0]⟩
theorem ok46 : TIok Tryz.prog 46 ti46 := ⟨⟨Tryz.t46, _, by kernel_rfl, rfl, rfl, rfl, rfl⟩, rfl, rfl, ⟨_, Tryz.underlying46, rfl⟩⟩
def ti48 : TI := ⟨1, 24, .slice 9, [.nils]⟩
theorem ok48 : TIok Tryz.prog 48 ti48 := ⟨⟨Tryz.t48, _, by kernel_rfl, rfl, rfl, rfl, rfl⟩, rfl, rfl, ⟨_, Tryz.underlying48, rfl⟩⟩
def ti54 : TI := ⟨1, 16, .struct [(0, 9)], [.str []]⟩
theorem ok54 : TIok Tryz.prog 54 ti54 := ⟨⟨Tryz.t54, _, by kernel_rfl, rfl, rfl, rfl, rfl⟩, rfl, rfl, ⟨_, Tryz.underlying54, ⟨_, rfl, rfl⟩⟩⟩
def ti55 : TI := ⟨1, 16, .struct [(0, 9)], [.str []]⟩
theorem ok55 : TIok Tryz.prog 55 ti55 := ⟨⟨Tryz.t55, _, by kernel_rfl, rfl, rfl, rfl, rfl⟩, rfl, rfl, ⟨_, Tryz.underlying55, ⟨_, rfl, rfl⟩⟩⟩
def ti63 : TI := ⟨2, 32, .struct [(0, 9), (1, 9)], [.str [], .str []]⟩
theorem ok63 : TIok Tryz.prog 63 ti63 := ⟨⟨Tryz.t63, _, by kernel_rfl, rfl, rfl, rfl, rfl⟩, rfl, rfl, ⟨_, Tryz.underlying63, ⟨_, rfl, rfl⟩⟩⟩
def ti64 : TI := ⟨2, 32, .struct [(0, 9), (1, 9)], [.str [], .str []]⟩
theorem ok64 : TIok Tryz.prog 64 ti64 := ⟨⟨Tryz.t64, _, by kernel_rfl, rfl, rfl, rfl, rfl⟩, rfl, rfl, ⟨_, Tryz.underlying64, ⟨_, rfl, rfl⟩⟩⟩
def ti66 : TI := ⟨1, 24, .slice 4, [.nils]⟩
theorem ok66 : TIok Tryz.prog 66 ti66 := ⟨⟨Tryz.t66, _, by kernel_rfl, rfl, rfl, rfl, rfl⟩, rfl, rfl, ⟨_, Tryz.underlying66, rfl⟩⟩
def ti67 : TI := ⟨3, 72, .struct [(0, 34), (1, 43), (2, 66)], [.nils, .nils, .nils]⟩
theorem ok67 : TIok Tryz.prog 67 ti67 := ⟨⟨Tryz.t67, _, by kernel_rfl, rfl, rfl, rfl, rfl⟩, rfl, rfl, ⟨_, Tryz.underlying67, ⟨_, rfl, rfl⟩⟩⟩
def ti68 : TI := ⟨3, 72, .struct [(0, 34), (1, 43), (2, 66)], [.nils, .nils, .nils]⟩
theorem ok68 : TIok Tryz.prog 68 ti68 := ⟨⟨Tryz.t68, _, by kernel_rfl, rfl, rfl, rfl, rfl⟩, rfl, rfl, ⟨_, Tryz.underlying68, ⟨_, rfl, rfl⟩⟩⟩
def ti69 : TI := ⟨1, 8, .func, [.niln]⟩
theorem ok69 : TIok Tryz.prog 69 ti69 := ⟨⟨Tryz.t69, _, by kernel_rfl, rfl, rfl, rfl, rfl⟩, rfl, rfl, ⟨_, Tryz.underlying69, ⟨_, _, _, rfl⟩⟩⟩
def ti79 : TI := ⟨1, 8, .ptr 82, [.nilp]⟩
theorem ok79 : TIok Tryz.prog 79 ti79 := ⟨⟨Tryz.t79, _, by kernel_rfl, rfl, rfl, rfl, rfl⟩, rfl, rfl, ⟨_, Tryz.underlying79, rfl⟩⟩
def ti80 : TI := ⟨1, 24, .slice 5, [.nils]⟩
theorem ok80 : TIok Tryz.prog 80 ti80 := ⟨⟨Tryz.t80, _, by kernel_rfl, rfl, rfl, rfl, rfl⟩, rfl, rfl, ⟨_, Tryz.underlying80, rfl⟩⟩
def ti81 : TI := ⟨2, 32, .struct [(0, 79), (1, 80)], [.nilp, .nils]⟩
theorem ok81 : TIok Tryz.prog 81 ti81 := ⟨⟨Tryz.t81, _, by kernel_rfl, rfl, rfl, rfl, rfl⟩, rfl, rfl, ⟨_, Tryz.underlying81, ⟨_, rfl, rfl⟩⟩⟩
def ti82 : TI := ⟨2, 32, .struct [(0, 79), (1, 80)], [.nilp, .nils]⟩
theorem ok82 : TIok Tryz.prog 82 ti82 := ⟨⟨Tryz.t82, _, by kernel_rfl, rfl, rfl, rfl, rfl⟩, rfl, rfl, ⟨_, Tryz.underlying82, ⟨_, rfl, rfl⟩⟩⟩
def ti83 : TI := ⟨3, 56, .struct [(0, 34), (1, 82)], [.nils, .nilp, .nils]⟩
theorem ok83 : TIok Tryz.prog 83 ti83 := ⟨⟨Tryz.t83, _, by kernel_rfl, rfl, rfl, rfl, rfl⟩, rfl, rfl, ⟨_, Tryz.underlying83, ⟨_, rfl, rfl⟩⟩⟩
def ti84 : TI := ⟨3, 56, .struct [(0, 34), (1, 82)], [.nils, .nilp, .nils]⟩
theorem ok84 : TIok Tryz.prog 84 ti84 := ⟨⟨Tryz.t84, _, by kernel_rfl, rfl, rfl, rfl, rfl⟩, rfl, rfl, ⟨_, Tryz.underlying84, ⟨_, rfl, rfl⟩⟩⟩
def ti104 : TI := ⟨256, 256, .arr 256 5, [.int .u8 0, .int .u8 0, .int .u8 0, .int .u8 0, .int .u8 0, .int .u8 0, .int .u8 0, .int .u8 0, .int .u8 0, .int .u8 0, .int .u8 0, .int .u8 0, .int .u8 0, .int .u8 0, .int .u8 0, .int .u8 0, .int .u8 0, .int .u8 0, .int .u8 0, .int .u8 0, .int .u8 0, .int .u8 0, .int .u8 0, .int .u8 0, .int .u8 0, .int .u8 0, .int .u8 0, .int .u8 0, .int .u8 0, .int .u8 0, .int .u8 0, .int .u8 0, .int .u8 0, .int .u8 0, .int .u8 0, .int .u8 0, .int .u8 0, .int .u8 0, .int .u8 0, .int .u8 0, .int .u8 0, .int .u8 0, .int .u8 0, .int .u8 0, .int .u8 0, .int .u8 0, .int .u8 0, .int .u8 0, .int .u8 0, .int .u8 0, .int .u8 0, .int .u8 0, .int .u8 0, .int .u8 0, .int .u8 0, .int .u8 0, .int .u8 0, .int .u8 0, .int .u8 0, .int .u8 0, .int .u8 0, .int .u8 0, .int .u8 0, .int .u8 0, .int .u8 0, .int .u8 0, .int .u8 0, .int .u8 0, .int .u8 0, .int .u8 0, .int .u8 0, .int .u8 0, .int .u8 0, .int .u8 0, .int .u8 0, .int .u8 0, .int .u8 0, .int .u8 0, .int .u8 0, .int .u8 0, .int .u8 0, .int .u8 0, .int .u8 0, .int .u8 0, .int .u8 0, .int .u8 0, .int .u8 0, .int .u8 0, .int .u8 0, .int .u8 0, .int .u8 0, .int .u8 0, .int .u8 0, .int .u8 0, .int .u8 0, .int .u8 0, .int .u8 0, .int .u8 0, .int .u8 0, .int .u8 0, .int .u8 0, .int .u8 0, .int .u8 0, .int .u8 0, .int .u8 0, .int .u8 0, .int .u8 0, .int .u8 0, .int .u8 0, .int .u8 0, .int .u8 0, .int .u8 0, .int .u8 0, .int .u8 0, .int .u8 0, .int .u8 0, .int .u8 0, .int .u8 0, .int .u8 0, .int .u8 0, .int .u8 0, .int .u8 0, .int .u8 0, .int .u8 0, .int .u8 0, .int .u8 0, .int .u8 0, .int .u8 0, .int .u8 0, .int .u8 0, .int .u8 0, .int .u8 0, .int .u8 0, .int .u8 0, .int .u8 0, .int .u8 0, .int .u8 0, .int .u8 0, .int .u8 0, .int .u8 0, .int .u8 0, .int .u8 0, .int .u8 0, .int .u8 0, .int .u8 0, .int .u8 0, .int .u8 0, .int .u8 0, .int .u8 0, .int .u8 0, .int .u8 0, .int .u8 0, .int .u8 0, .int .u8 0, .int .u8 0, .int .u8 0, .int .u8 0, .int .u8 0, .int .u8 0, .int .u8 0, .int .u8 0, .int .u8 0, .int .u8 0, .int .u8 0, .int .u8 0, .int .u8 0, .int .u8 0, .int .u8 0, .int .u8 0, .int .u8 0, .int .u8 0, .int .u8 0, .int .u8 0, .int .u8 0, .int .u8 0, .int .u8 0, .int .u8 0, .int .u8 0, .int .u8 0, .int .u8 0, .int .u8 0, .int .u8 0, .int .u8 0, .int .u8 0, .int .u8 0, .int .u8 0, .int .u8 0, .int .u8 0, .int .u8 0, .int .u8 0, .int .u8 0, .int .u8 0, .int .u8 0, .int .u8 0, .int .u8 0, .int .u8 0, .int .u8 0, .int .u8 0, .int .u8 0, .int .u8 0, .int .u8 0, .int .u8 0, .int .u8 0, .int .u8 0, .int .u8 0, .int .u8 0, .int .u8 0, .int .u8 0, .int .u8 0, .int .u8 0, .int .u8 0, .int .u8 0, .int .u8 0, .int .u8 0, .int .u8 0, .int .u8 0, .int .u8 0, .int .u8 0, .int .u8 0, .int .u8 0, .int .u8 0, .int .u8 0, .int .u8 0, .int .u8 0, .int .u8 0, .int .u8 0, .int .u8 0, .int .u8 0, .int .u8 0, .int .u8 0, .int .u8 0, .int .u8 0, .int .u8 0, .int .u8 0, .int .u8 0, .int .u8 0, .int .u8 0, .int .u8 0, .int .u8 0, .int .u8 0, .int .u8 0, .int .u8 0, .int .u8 0, .int .u8 0, .int .u8 0, .int .u8 0, .int .u8 0, .int .u8 0, .int .u8 0, .int .u8 0, .int .u8 0, .int .u8 0, .int .u8 0, .int .u8 0, .int .u8 0, .int .u8 0]⟩
theorem ok104 : TIok Tryz.prog 104 ti104 := ⟨⟨Tryz.t104, _, by kernel_rfl, rfl, rfl, rfl, rfl⟩, rfl, rfl, ⟨_, Tryz.underlying104, rfl⟩⟩
def ti121 : TI := ⟨1, 16, .iface, [.nili]⟩
theorem ok121 : TIok Tryz.prog 121 ti121 := ⟨⟨Tryz.t121, _, by kernel_rfl, rfl, rfl, rfl, rfl⟩, rfl, rfl, ⟨_, Tryz.underlying121, ⟨_, rfl⟩⟩⟩
def ti122 : TI := ⟨1, 16, .iface, [.nili]⟩
theorem ok122 : TIok Tryz.prog 122 ti122 := ⟨⟨Tryz.t122, _, by kernel_rfl, rfl, rfl, rfl, rfl⟩, rfl, rfl, ⟨_, Tryz.underlying122, ⟨_, rfl⟩⟩⟩
def ti127 : TI := ⟨1, 8, .int .u64, [.int .u64 0]⟩
theorem ok127 : TIok Tryz.prog 127 ti127 := ⟨⟨Tryz.t127, _, by kernel_rfl, rfl, rfl, rfl, rfl⟩, rfl, rfl, ⟨_, Tryz.underlying127, rfl⟩⟩
def ti136 : TI := ⟨256, 256, .arr 256 4, [.bool false, .bool false, .bool false, .bool false, .bool false, .bool false, .bool false, .bool false, .bool false, .bool false, .bool false, .bool false, .bool false, .bool false, .bool false, .bool false, .bool false, .bool false, .bool false, .bool false, .bool false, .bool false, .bool false, .bool false, .bool false, .bool false, .bool false, .bool false, .bool false, .bool false, .bool false, .bool false, .bool false, .bool false, .bool false, .bool false, .bool false, .bool false, .bool false, .bool false, .bool false, .bool false, .bool false, .bool false, .bool false, .bool false, .bool false, .bool false, .bool false, .bool false, .bool false, .bool false, .bool false, .bool false, .bool false, .bool false, .bool false, .bool false, .bool false, .bool false, .bool false, .bool false, .bool false, .bool false, .bool false, .bool false, .bool false, .bool false, .bool false, .bool false, .bool false, .bool false, .bool false, .bool false, .bool false, .bool false, .bool false, .bool false, .bool false, .bool false, .bool false, .bool false, .bool false, .bool false, .bool false, .bool false, .bool false, .bool false, .bool false, .bool false, .bool false, .bool false, .bool false, .bool false, .bool false, .bool false, .bool false, .bool false, .bool false, .bool false, .bool false, .bool false, .bool false, .bool false, .bool false, .bool false, .bool false, .bool false, .bool false, .bool false, .bool false, .bool false, .bool false, .bool false, .bool false, .bool false, .bool false, .bool false, .bool false, .bool false, .bool false, .bool false, .bool false, .bool false, .bool false, .bool false, .bool false, .bool false, .bool false, .bool false, .bool false, .bool false, .bool false, .bool false, .bool false, .bool false, .bool false, .bool false, .bool false, .bool false, .bool false, .bool false, .bool false, .bool false, .bool false, .bool false, .bool false, .bool false, .bool false, .bool false, .bool false, .bool false, .bool false, .bool false, .bool false, .bool false, .bool false, .bool false, .bool false, .bool false, .bool false, .bool false, .bool false, .bool false, .bool false, .bool false, .bool false, .bool false, .bool false, .bool false, .bool false, .bool false, .bool false, .bool false, .bool false, .bool false, .bool false, .bool false, .bool false, .bool false, .bool false, .bool false, .bool false, .bool false, .bool false, .bool false, .bool false, .bool false, .bool false, .bool false, .bool false, .bool false, .bool false, .bool false, .bool false, .bool false, .bool false, .bool false, .bool false, .bool false, .bool false, .bool false, .bool false, .bool false, .bool false, .bool false, .bool false, .bool false, .bool false, .bool false, .bool false, .bool false, .bool false, .bool false, .bool false, .bool false, .bool false, .bool false, .bool false, .bool false, .bool false, .bool false, .bool false, .bool false, .bool false, .bool false, .bool false, .bool false, .bool false, .bool false, .bool false, .bool false, .bool false, .bool false, .bool false, .bool false, .bool false, .bool false, .bool false, .bool false, .bool false, .bool false, .bool false, .bool false, .bool false, .bool false, .bool false, .bool false, .bool false, .bool false, .bool false, .bool false, .bool false, .bool false, .bool false, .bool false]⟩
theorem ok136 : TIok Tryz.prog 136 ti136 := ⟨⟨Tryz.t136, _, by kernel_rfl, rfl, rfl, rfl, rfl⟩, rfl, rfl, ⟨_, Tryz.underlying136, rfl⟩⟩
def ti137 : TI := ⟨256, 256, .arr 256 4, [.bool false, .bool false, .bool false, .bool false, .bool false, .bool false, .bool false, .bool false, .bool false, .bool false, .bool false, .bool false, .bool false, .bool false, .bool false, .bool false, .bool false, .bool false, .bool false, .bool false, .bool false, .bool false, .bool false, .bool false, .bool false, .bool false, .bool false, .bool false, .bool false, .bool false, .bool false, .bool false, .bool false, .bool false, .bool false, .bool false, .bool false, .bool false, .bool false, .bool false, .bool false, .bool false, .bool false, .bool false, .bool false, .bool false, .bool false, .bool false, .bool false, .bool false, .bool false, .bool false, .bool false, .bool false, .bool false, .bool false, .bool false, .bool false, .bool false, .bool false, .bool false, .bool false, .bool false, .bool false, .bool false, .bool false, .bool false, .bool false, .bool false, .bool false, .bool false, .bool false, .bool false, .bool false, .bool false, .bool false, .bool false, .bool false, .bool false, .bool false, .bool false, .bool false, .bool false, .bool false, .bool false, .bool false, .bool false, .bool false, .bool false, .bool false, .bool false, .bool false, .bool false, .bool false, .bool false, .bool false, .bool false, .bool false, .bool false, .bool false, .bool false, .bool false, .bool false, .bool false, .bool false, .bool false, .bool false, .bool false, .bool false, .bool false, .bool false, .bool false, .bool false, .bool false, .bool false, .bool false, .bool false, .bool false, .bool false, .bool false, .bool false, .bool false, .bool false, .bool false, .bool false, .bool false, .bool false, .bool false, .bool false, .bool false, .bool false, .bool false, .bool false, .bool false, .bool false, .bool false, .bool false, .bool false, .bool false, .bool false, .bool false, .bool false, .bool false, .bool false, .bool false, .bool false, .bool false, .bool false, .bool false, .bool false, .bool false, .bool false, .bool false, .bool false, .bool false, .bool false, .bool false, .bool false, .bool false, .bool false, .bool false, .bool false, .bool false, .bool false, .bool false, .bool false, .bool false, .bool false, .bool false, .bool false, .bool false, .bool false, .bool false, .bool false, .bool false, .bool false, .bool false, .bool false, .bool false, .bool false, .bool false, .bool false, .bool false, .bool false, .bool false, .bool false, .bool false, .bool false, .bool false, .bool false, .bool false, .bool false, .bool false, .bool false, .bool false, .bool false, .bool false, .bool false, .bool false, .bool false, .bool false, .bool false, .bool false, .bool false, .bool false, .bool false, .bool false, .bool false, .bool false, .bool false, .bool false, .bool false, .bool false, .bool false, .bool false, .bool false, .bool false, .bool false, .bool false, .bool false, .bool false, .bool false, .bool false, .bool false, .bool false, .bool false, .bool false, .bool false, .bool false, .bool false, .bool false, .bool false, .bool false, .bool false, .bool false, .bool false, .bool false, .bool false, .bool false, .bool false, .bool false, .bool false, .bool false, .bool false, .bool false, .bool false, .bool false, .bool false, .bool false, .bool false, .bool false, .bool false, .bool false, .bool false, .bool false, .bool false]⟩
theorem ok137 : TIok Tryz.prog 137 ti137 := ⟨⟨Tryz.t137, _, by kernel_rfl, rfl, rfl, rfl, rfl⟩, rfl, rfl, ⟨_, Tryz.underlying137, rfl⟩⟩
def ti144 : TI := ⟨0, 0, .struct [], []⟩
theorem ok144 : TIok Tryz.prog 144 ti144 := ⟨⟨Tryz.t144, _, by kernel_rfl, rfl, rfl, rfl, rfl⟩, rfl, rfl, ⟨_, Tryz.underlying144, ⟨_, rfl, rfl⟩⟩⟩
def ti145 : TI := ⟨0, 0, .struct [], []⟩
theorem ok145 : TIok Tryz.prog 145 ti145 := ⟨⟨Tryz.t145, _, by kernel_rfl, rfl, rfl, rfl, rfl⟩, rfl, rfl, ⟨_, Tryz.underlying145, ⟨_, rfl, rfl⟩⟩⟩
def ti146 : TI := ⟨1, 4, .int .u32, [.int .u32 0]⟩
theorem ok146 : TIok Tryz.prog 146 ti146 := ⟨⟨Tryz.t146, _, by kernel_rfl, rfl, rfl, rfl, rfl⟩, rfl, rfl, ⟨_, Tryz.underlying146, rfl⟩⟩
def ti148 : TI := ⟨1, 4, .struct [(0, 145), (0, 146)], [.int .u32 0]⟩
theorem ok148 : TIok Tryz.prog 148 ti148 := ⟨⟨Tryz.t148, _, by kernel_rfl, rfl, rfl, rfl, rfl⟩, rfl, rfl, ⟨_, Tryz.underlying148, ⟨_, rfl, rfl⟩⟩⟩
def ti150 : TI := ⟨2, 8, .struct [(0, 21), (1, 146)], [.int .i32 0, .int .u32 0]⟩
theorem ok150 : TIok Tryz.prog 150 ti150 := ⟨⟨Tryz.t150, _, by kernel_rfl, rfl, rfl, rfl, rfl⟩, rfl, rfl, ⟨_, Tryz.underlying150, ⟨_, rfl, rfl⟩⟩⟩
def ti152 : TI := ⟨2, 8, .struct [(0, 144), (0, 150)], [.int .i32 0, .int .u32 0]⟩
theorem ok152 : TIok Tryz.prog 152 ti152 := ⟨⟨Tryz.t152, _, by kernel_rfl, rfl, rfl, rfl, rfl⟩, rfl, rfl, ⟨_, Tryz.underlying152, ⟨_, rfl, rfl⟩⟩⟩
def ti154 : TI := ⟨3, 12, .struct [(0, 144), (0, 148), (1, 152)], [.int .u32 0, .int .i32 0, .int .u32 0]⟩
theorem ok154 : TIok Tryz.prog 154 ti154 := ⟨⟨Tryz.t154, _, by kernel_rfl, rfl, rfl, rfl, rfl⟩, rfl, rfl, ⟨_, Tryz.underlying154, ⟨_, rfl, rfl⟩⟩⟩
def ti156 : TI := ⟨1, 16, .iface, [.nili]⟩
theorem ok156 : TIok Tryz.prog 156 ti156 := ⟨⟨Tryz.t156, _, by kernel_rfl, rfl, rfl, rfl, rfl⟩, rfl, rfl, ⟨_, Tryz.underlying156, ⟨_, rfl⟩⟩⟩
def ti157 : TI := ⟨5, 56, .struct [(0, 154), (3, 156), (4, 48)], [.int .u32 0, .int .i32 0, .int .u32 0, .nili, .nils]⟩
theorem ok157 : TIok Tryz.prog 157 ti157 := ⟨⟨Tryz.t157, _, by kernel_rfl, rfl, rfl, rfl, rfl⟩, rfl, rfl, ⟨_, Tryz.underlying157, ⟨_, rfl, rfl⟩⟩⟩
def ti158 : TI := ⟨5, 56, .struct [(0, 154), (3, 156), (4, 48)], [.int .u32 0, .int .i32 0, .int .u32 0, .nili, .nils]⟩
theorem ok158 : TIok Tryz.prog 158 ti158 := ⟨⟨Tryz.t158, _, by kernel_rfl, rfl, rfl, rfl, rfl⟩, rfl, rfl, ⟨_, Tryz.underlying158, ⟨_, rfl, rfl⟩⟩⟩
def ti177 : TI := ⟨1, 8, .ptr 196, [.nilp]⟩
theorem ok177 : TIok Tryz.prog 177 ti177 := ⟨⟨Tryz.t177, _, by kernel_rfl, rfl, rfl, rfl, rfl⟩, rfl, rfl, ⟨_, Tryz.underlying177, rfl⟩⟩
def ti179 : TI := ⟨1, 8, .ptr 202, [.nilp]⟩
theorem ok179 : TIok Tryz.prog 179 ti179 := ⟨⟨Tryz.t179, _, by kernel_rfl, rfl, rfl, rfl, rfl⟩, rfl, rfl, ⟨_, Tryz.underlying179, rfl⟩⟩
def ti181 : TI := ⟨256, 256, .arr 256 5, [.int .u8 0, .int .u8 0, .int .u8 0, .int .u8 0, .int .u8 0, .int .u8 0, .int .u8 0, .int .u8 0, .int .u8 0, .int .u8 0, .int .u8 0, .int .u8 0, .int .u8 0, .int .u8 0, .int .u8 0, .int .u8 0, .int .u8 0, .int .u8 0, .int .u8 0, .int .u8 0, .int .u8 0, .int .u8 0, .int .u8 0, .int .u8 0, .int .u8 0, .int .u8 0, .int .u8 0, .int .u8 0, .int .u8 0, .int .u8 0, .int .u8 0, .int .u8 0, .int .u8 0, .int .u8 0, .int .u8 0, .int .u8 0, .int .u8 0, .int .u8 0, .int .u8 0, .int .u8 0, .int .u8 0, .int .u8 0, .int .u8 0, .int .u8 0, .int .u8 0, .int .u8 0, .int .u8 0, .int .u8 0, .int .u8 0, .int .u8 0, .int .u8 0, .int .u8 0, .int .u8 0, .int .u8 0, .int .u8 0, .int .u8 0, .int .u8 0, .int .u8 0, .int .u8 0, .int .u8 0, .int .u8 0, .int .u8 0, .int .u8 0, .int .u8 0, .int .u8 0, .int .u8 0, .int .u8 0, .int .u8 0, .int .u8 0, .int .u8 0, .int .u8 0, .int .u8 0, .int .u8 0, .int .u8 0, .int .u8 0, .int .u8 0, .int .u8 0, .int .u8 0, .int .u8 0, .int .u8 0, .int .u8 0, .int .u8 0, .int .u8 0, .int .u8 0, .int .u8 0, .int .u8 0, .int .u8 0, .int .u8 0, .int .u8 0, .int .u8 0, .int .u8 0, .int .u8 0, .int .u8 0, .int .u8 0, .int .u8 0, .int .u8 0, .int .u8 0, .int .u8 0, .int .u8 0, .int .u8 0, .int .u8 0, .int .u8 0, .int .u8 0, .int .u8 0, .int .u8 0, .int .u8 0, .int .u8 0, .int .u8 0, .int .u8 0, .int .u8 0, .int .u8 0, .int .u8 0, .int .u8 0, .int .u8 0, .int .u8 0, .int .u8 0, .int .u8 0, .int .u8 0, .int .u8 0, .int .u8 0, .int .u8 0, .int .u8 0, .int .u8 0, .int .u8 0, .int .u8 0, .int .u8 0, .int .u8 0, .int .u8 0, .int .u8 0, .int .u8 0, .int .u8 0, .int .u8 0, .int .u8 0, .int .u8 0, .int .u8 0, .int .u8 0, .int .u8 0, .int .u8 0, .int .u8 0, .int .u8 0, .int .u8 0, .int .u8 0, .int .u8 0, .int .u8 0, .int .u8 0, .int .u8 0, .int .u8 0, .int .u8 0, .int .u8 0, .int .u8 0, .int .u8 0, .int .u8 0, .int .u8 0, .int .u8 0, .int .u8 0, .int .u8 0, .int .u8 0, .int .u8 0, .int .u8 0, .int .u8 0, .int .u8 0, .int .u8 0, .int .u8 0, .int .u8 0, .int .u8 0, .int .u8 0, .int .u8 0, .int .u8 0, .int .u8 0, .int .u8 0, .int .u8 0, .int .u8 0, .int .u8 0, .int .u8 0, .int .u8 0, .int .u8 0, .int .u8 0, .int .u8 0, .int .u8 0, .int .u8 0, .int .u8 0, .int .u8 0, .int .u8 0, .int .u8 0, .int .u8 0, .int .u8 0, .int .u8 0, .int .u8 0, .int .u8 0, .int .u8 0, .int .u8 0, .int .u8 0, .int .u8 0, .int .u8 0, .int .u8 0, .int .u8 0, .int .u8 0, .int .u8 0, .int .u8 0, .int .u8 0, .int .u8 0, .int .u8 0, .int .u8 0, .int .u8 0, .int .u8 0, .int .u8 0, .int .u8 0, .int .u8 0, .int .u8 0, .int .u8 0, .int .u8 0, .int .u8 0, .int .u8 0, .int .u8 0, .int .u8 0, .int .u8 0, .int .u8 0, .int .u8 0, .int .u8 0, .int .u8 0, .int .u8 0, .int .u8 0, .int .u8 0, .int .u8 0, .int .u8 0, .int .u8 0, .int .u8 0, .int .u8 0, .int .u8 0, .int .u8 0, .int .u8 0, .int .u8 0, .int .u8 0, .int .u8 0, .int .u8 0, .int .u8 0, .int .u8 0, .int .u8 0, .int .u8 0, .int .u8 0, .int .u8 0, .int .u8 0, .int .u8 0, .int .u8 0, .int .u8 0, .int .u8 0, .int .u8 0, .int .u8 0, .int .u8 0, .int .u8 0, .int .u8 0, .int .u8 0, .int .u8 0, .int .u8 0, .int .u8 0, .int .u8 0]⟩
theorem ok181 : TIok Tryz.prog 181 ti181 := ⟨⟨Tryz.t181, _, by kernel_rfl, rfl, rfl, rfl, rfl⟩, rfl, rfl, ⟨_, Tryz.underlying181, rfl⟩⟩
def ti182 : TI := ⟨1, 8, .ptr 181, [.nilp]⟩
theorem ok182 : TIok Tryz.prog 182 ti182 := ⟨⟨Tryz.t182, _, by kernel_rfl, rfl, rfl, rfl, rfl⟩, rfl, rfl, ⟨_, Tryz.underlying182, rfl⟩⟩
def ti183 : TI := ⟨256, 6144, .arr 256 80, [.nils, .nils, .nils, .nils, .nils, .nils, .nils, .nils, .nils, .nils, .nils, .nils, .nils, .nils, .nils, .nils, .nils, .nils, .nils, .nils, .nils, .nils, .nils, .nils, .nils, .nils, .nils, .nils, .nils, .nils, .nils, .nils, .nils, .nils, .nils, .nils, .nils, .nils, .nils, .nils, .nils, .nils, .nils, .nils, .nils, .nils, .nils, .nils, .nils, .nils, .nils, .nils, .nils, .nils, .nils, .nils, .nils, .nils, .nils, .nils, .nils, .nils, .nils, .nils, .nils, .nils, .nils, .nils, .nils, .nils, .nils, .nils, .nils, .nils, .nils, .nils, .nils, .nils, .nils, .nils, .nils, .nils, .nils, .nils, .nils, .nils, .nils, .nils, .nils, .nils, .nils, .nils, .nils, .nils, .nils, .nils, .nils, .nils, .nils, .nils, .nils, .nils, .nils, .nils, .nils, .nils, .nils, .nils, .nils, .nils, .nils, .nils, .nils, .nils, .nils, .nils, .nils, .nils, .nils, .nils, .nils, .nils, .nils, .nils, .nils, .nils, .nils, .nils, .nils, .nils, .nils, .nils, .nils, .nils, .nils, .nils, .nils, .nils, .nils, .nils, .nils, .nils, .nils, .nils, .nils, .nils, .nils, .nils, .nils, .nils, .nils, .nils, .nils, .nils, .nils, .nils, .nils, .nils, .nils, .nils, .nils, .nils, .nils, .nils, .nils, .nils, .nils, .nils, .nils, .nils, .nils, .nils, .nils, .nils, .nils, .nils, .nils, .nils, .nils, .nils, .nils, .nils, .nils, .nils, .nils, .nils, .nils, .nils, .nils, .nils, .nils, .nils, .nils, .nils, .nils, .nils, .nils, .nils, .nils, .nils, .nils, .nils, .nils, .nils, .nils, .nils, .nils, .nils, .nils, .nils, .nils, .nils, .nils, .nils, .nils, .nils, .nils, .nils, .nils, .nils, .nils, .nils, .nils, .nils, .nils, .nils, .nils, .nils, .nils, .nils, .nils, .nils, .nils, .nils, .nils, .nils, .nils, .nils, .nils, .nils, .nils, .nils, .nils, .nils, .nils, .nils, .nils, .nils, .nils, .nils, .nils, .nils, .nils, .nils, .nils, .nils]⟩
theorem ok183 : TIok Tryz.prog 183 ti183 := ⟨⟨Tryz.t183, _, by kernel_rfl, rfl, rfl, rfl, rfl⟩, rfl, rfl, ⟨_, Tryz.underlying183, rfl⟩⟩
def ti184 : TI := ⟨257, 6168, .struct [(0, 183), (256, 48)], [.nils, .nils, .nils, .nils, .nils, .nils, .nils, .nils, .nils, .nils, .nils, .nils, .nils, .nils, .nils, .nils, .nils, .nils, .nils, .nils, .nils, .nils, .nils, .nils, .nils, .nils, .nils, .nils, .nils, .nils, .nils, .nils, .nils, .nils, .nils, .nils, .nils, .nils, .nils, .nils, .nils, .nils, .nils, .nils, .nils, .nils, .nils, .nils, .nils, .nils, .nils, .nils, .nils, .nils, .nils, .nils, .nils, .nils, .nils, .nils, .nils, .nils, .nils, .nils, .nils, .nils, .nils, .nils, .nils, .nils, .nils, .nils, .nils, .nils, .nils, .nils, .nils, .nils, .nils, .nils, .nils, .nils, .nils, .nils, .nils, .nils, .nils, .nils, .nils, .nils, .nils, .nils, .nils, .nils, .nils, .nils, .nils, .nils, .nils, .nils, .nils, .nils, .nils, .nils, .nils, .nils, .nils, .nils, .nils, .nils, .nils, .nils, .nils, .nils, .nils, .nils, .nils, .nils, .nils, .nils, .nils, .nils, .nils, .nils, .nils, .nils, .nils, .nils, .nils, .nils, .nils, .nils, .nils, .nils, .nils, .nils, .nils, .nils, .nils, .nils, .nils, .nils, .nils, .nils, .nils, .nils, .nils, .nils, .nils, .nils, .nils, .nils, .nils, .nils, .nils, .nils, .nils, .nils, .nils, .nils, .nils, .nils, .nils, .nils, .nils, .nils, .nils, .nils, .nils, .nils, .nils, .nils, .nils, .nils, .nils, .nils, .nils, .nils, .nils, .nils, .nils, .nils, .nils, .nils, .nils, .nils, .nils, .nils, .nils, .nils, .nils, .nils, .nils, .nils, .nils, .nils, .nils, .nils, .nils, .nils, .nils, .nils, .nils, .nils, .nils, .nils, .nils, .nils, .nils, .nils, .nils, .nils, .nils, .nils, .nils, .nils, .nils, .nils, .nils, .nils, .nils, .nils, .nils, .nils, .nils, .nils, .nils, .nils, .nils, .nils, .nils, .nils, .nils, .nils, .nils, .nils, .nils, .nils, .nils, .nils, .nils, .nils, .nils, .nils, .nils, .nils, .nils, .nils, .nils, .nils, .nils, .nils, .nils, .nils, .nils, .nils, .nils]⟩
theorem ok184 : TIok Tryz.prog 184 ti184 := ⟨⟨Tryz.t184, _, by kernel_rfl, rfl, rfl, rfl, rfl⟩, rfl, rfl, ⟨_, Tryz.underlying184, ⟨_, rfl, rfl⟩⟩⟩
def ti185 : TI := ⟨257, 6168, .struct [(0, 183), (256, 48)], [.nils, .nils, .nils, .nils, .nils, .nils, .nils, .nils, .nils, .nils, .nils, .nils, .nils, .nils, .nils, .nils, .nils, .nils, .nils, .nils, .nils, .nils, .nils, .nils, .nils, .nils, .nils, .nils, .nils, .nils, .nils, .nils, .nils, .nils, .nils, .nils, .nils, .nils, .nils, .nils, .nils, .nils, .nils, .nils, .nils, .nils, .nils, .nils, .nils, .nils, .nils, .nils, .nils, .nils, .nils, .nils, .nils, .nils, .nils, .nils, .nils, .nils, .nils, .nils, .nils, .nils, .nils, .nils, .nils, .nils, .nils, .nils, .nils, .nils, .nils, .nils, .nils, .nils, .nils, .nils, .nils, .nils, .nils, .nils, .nils, .nils, .nils, .nils, .nils, .nils, .nils, .nils, .nils, .nils, .nils, .nils, .nils, .nils, .nils, .nils, .nils, .nils, .nils, .nils, .nils, .nils, .nils, .nils, .nils, .nils, .nils, .nils, .nils, .nils, .nils, .nils, .nils, .nils, .nils, .nils, .nils, .nils, .nils, .nils, .nils, .nils, .nils, .nils, .nils, .nils, .nils, .nils, .nils, .nils, .nils, .nils, .nils, .nils, .nils, .nils, .nils, .nils, .nils, .nils, .nils, .nils, .nils, .nils, .nils, .nils, .nils, .nils, .nils, .nils, .nils, .nils, .nils, .nils, .nils, .nils, .nils, .nils, .nils, .nils, .nils, .nils, .nils, .nils, .nils, .nils, .nils, .nils, .nils, .nils, .nils, .nils, .nils, .nils, .nils, .nils, .nils, .nils, .nils, .nils, .nils, .nils, .nils, .nils, .nils, .nils, .nils, .nils, .nils, .nils, .nils, .nils, .nils, .nils, .nils, .nils, .nils, .nils, .nils, .nils, .nils, .nils, .nils, .nils, .nils, .nils, .nils, .nils, .nils, .nils, .nils, .nils, .nils, .nils, .nils, .nils, .nils, .nils, .nils, .nils, .nils, .nils, .nils, .nils, .nils, .nils, .nils, .nils, .nils, .nils, .nils, .nils, .nils, .nils, .nils, .nils, .nils, .nils, .nils, .nils, .nils, .nils, .nils, .nils, .nils, .nils, .nils, .nils, .nils, .nils, .nils, .nils, .nils]⟩
theorem ok185 : TIok Tryz.prog 185 ti185 := ⟨⟨Tryz.t185, _, by kernel_rfl, rfl, rfl, rfl, rfl⟩, rfl, rfl, ⟨_, Tryz.underlying185, ⟨_, rfl, rfl⟩⟩⟩
def ti186 : TI := ⟨1, 8, .ptr 185, [.nilp]⟩
theorem ok186 : TIok Tryz.prog 186 ti186 := ⟨⟨Tryz.t186, _, by kernel_rfl, rfl, rfl, rfl, rfl⟩, rfl, rfl, ⟨_, Tryz.underlying186, rfl⟩⟩
def ti193 : TI := ⟨1, 8, .ptr 217, [.nilp]⟩
theorem ok193 : TIok Tryz.prog 193 ti193 := ⟨⟨Tryz.t193, _, by kernel_rfl, rfl, rfl, rfl, rfl⟩, rfl, rfl, ⟨_, Tryz.underlying193, rfl⟩⟩
def ti196 : TI := ⟨2, 24, .struct [(0, 193), (1, 9)], [.nilp, .str []]⟩
theorem ok196 : TIok Tryz.prog 196 ti196 := ⟨⟨Tryz.t196, _, by kernel_rfl, rfl, rfl, rfl, rfl⟩, rfl, rfl, ⟨_, Tryz.underlying196, ⟨_, rfl, rfl⟩⟩⟩
def ti197 : TI := ⟨1, 8, .ptr 200, [.nilp]⟩
theorem ok197 : TIok Tryz.prog 197 ti197 := ⟨⟨Tryz.t197, _, by kernel_rfl, rfl, rfl, rfl, rfl⟩, rfl, rfl, ⟨_, Tryz.underlying197, rfl⟩⟩
def ti198 : TI := ⟨1, 24, .slice 197, [.nils]⟩
theorem ok198 : TIok Tryz.prog 198 ti198 := ⟨⟨Tryz.t198, _, by kernel_rfl, rfl, rfl, rfl, rfl⟩, rfl, rfl, ⟨_, Tryz.underlying198, rfl⟩⟩
def ti200 : TI := ⟨5, 72, .struct [(0, 9), (1, 3), (2, 9), (3, 197), (4, 198)], [.str [], .int .i64 0, .str [], .nilp, .nils]⟩
theorem ok200 : TIok Tryz.prog 200 ti200 := ⟨⟨Tryz.t200, _, by kernel_rfl, rfl, rfl, rfl, rfl⟩, rfl, rfl, ⟨_, Tryz.underlying200, ⟨_, rfl, rfl⟩⟩⟩
def ti202 : TI := ⟨262, 336, .struct [(0, 200), (5, 3), (6, 104)], [.str [], .int .i64 0, .str [], .nilp, .nils, .int .i64 0, .int .u8 0, .int .u8 0, .int .u8 0, .int .u8 0, .int .u8 0, .int .u8 0, .int .u8 0, .int .u8 0, .int .u8 0, .int .u8 0, .int .u8 0, .int .u8 0, .int .u8 0, .int .u8 0, .int .u8 0, .int .u8 0, .int .u8 0, .int .u8 0, .int .u8 0, .int .u8 0, .int .u8 0, .int .u8 0, .int .u8 0, .int .u8 0, .int .u8 0, .int .u8 0, .int .u8 0, .int .u8 0, .int .u8 0, .int .u8 0, .int .u8 0, .int .u8 0, .int .u8 0, .int .u8 0, .int .u8 0, .int .u8 0, .int .u8 0, .int .u8 0, .int .u8 0, .int .u8 0, .int .u8 0, .int .u8 0, .int .u8 0, .int .u8 0, .int .u8 0, .int .u8 0, .int .u8 0, .int .u8 0, .int .u8 0, .int .u8 0, .int .u8 0, .int .u8 0, .int .u8 0, .int .u8 0, .int .u8 0, .int .u8 0, .int .u8 0, .int .u8 0, .int .u8 0, .int .u8 0, .int .u8 0, .int .u8 0, .int .u8 0, .int .u8 0, .int .u8 0, .int .u8 0, .int .u8 0, .int .u8 0, .int .u8 0, .int .u8 0, .int .u8 0, .int .u8 0, .int .u8 0, .int .u8 0, .int .u8 0, .int .u8 0, .int .u8 0, .int .u8 0, .int .u8 0, .int .u8 0, .int .u8 0, .int .u8 0, .int .u8 0, .int .u8 0, .int .u8 0, .int .u8 0, .int .u8 0, .int .u8 0, .int .u8 0, .int .u8 0, .int .u8 0, .int .u8 0, .int .u8 0, .int .u8 0, .int .u8 0, .int .u8 0, .int .u8 0, .int .u8 0, .int .u8 0, .int .u8 0, .int .u8 0, .int .u8 0, .int .u8 0, .int .u8 0, .int .u8 0, .int .u8 0, .int .u8 0, .int .u8 0, .int .u8 0, .int .u8 0, .int .u8 0, .int .u8 0, .int .u8 0, .int .u8 0, .int .u8 0, .int .u8 0, .int .u8 0, .int .u8 0, .int .u8 0, .int .u8 0, .int .u8 0, .int .u8 0, .int .u8 0, .int .u8 0, .int .u8 0, .int .u8 0, .int .u8 0, .int .u8 0, .int .u8 0, .int .u8 0, .int .u8 0, .int .u8 0, .int .u8 0, .int .u8 0, .int .u8 0, .int .u8 0, .int .u8 0, .int .u8 0, .int .u8 0, .int .u8 0, .int .u8 0, .int .u8 0, .int .u8 0, .int .u8 0, .int .u8 0, .int .u8 0, .int .u8 0, .int .u8 0, .int .u8 0, .int .u8 0, .int .u8 0, .int .u8 0, .int .u8 0, .int .u8 0, .int .u8 0, .int .u8 0, .int .u8 0, .int .u8 0, .int .u8 0, .int .u8 0, .int .u8 0, .int .u8 0, .int .u8 0, .int .u8 0, .int .u8 0, .int .u8 0, .int .u8 0, .int .u8 0, .int .u8 0, .int .u8 0, .int .u8 0, .int .u8 0, .int .u8 0, .int .u8 0, .int .u8 0, .int .u8 0, .int .u8 0, .int .u8 0, .int .u8 0, .int .u8 0, .int .u8 0, .int .u8 0, .int .u8 0, .int .u8 0, .int .u8 0, .int .u8 0, .int .u8 0, .int .u8 0, .int .u8 0, .int .u8 0, .int .u8 0, .int .u8 0, .int .u8 0, .int .u8 0, .int .u8 0, .int .u8 0, .int .u8 0, .int .u8 0, .int .u8 0, .int .u8 0, .int .u8 0, .int .u8 0, .int .u8 0, .int .u8 0, .int .u8 0, .int .u8 0, .int .u8 0, .int .u8 0, .int .u8 0, .int .u8 0, .int .u8 0, .int .u8 0, .int .u8 0, .int .u8 0, .int .u8 0, .int .u8 0, .int .u8 0, .int .u8 0, .int .u8 0, .int .u8 0, .int .u8 0, .int .u8 0, .int .u8 0, .int .u8 0, .int .u8 0, .int .u8 0, .int .u8 0, .int .u8 0, .int .u8 0, .int .u8 0, .int .u8 0, .int .u8 0, .int .u8 0, .int .u8 0, .int .u8 0, .int .u8 0, .int .u8 0, .int .u8 0, .int .u8 0, .int .u8 0, .int .u8 0, .int .u8 0, .int .u8 0, .int .u8 0, .int .u8 0, .int .u8 0, .int .u8 0, .int .u8 0, .int .u8 0, .int .u8 0, .int .u8 0, .int .u8 0, .int .u8 0, .int .u8 0, .int .u8 0, .int .u8 0]⟩
theorem ok202 : TIok Tryz.prog 202 ti202 := ⟨⟨Tryz.t202, _, by kernel_rfl, rfl, rfl, rfl, rfl⟩, rfl, rfl, ⟨_, Tryz.underlying202, ⟨_, rfl, rfl⟩⟩⟩
def ti204 : TI := ⟨1, 8, .int .i64, [.int .i64 0]⟩
theorem ok204 : TIok Tryz.prog 204 ti204 := ⟨⟨Tryz.t204, _, by kernel_rfl, rfl, rfl, rfl, rfl⟩, rfl, rfl, ⟨_, Tryz.underlying204, rfl⟩⟩
def ti215 : TI := ⟨256, 2048, .arr 256 3, [.int .i64 0, .int .i64 0, .int .i64 0, .int .i64 0, .int .i64 0, .int .i64 0, .int .i64 0, .int .i64 0, .int .i64 0, .int .i64 0, .int .i64 0, .int .i64 0, .int .i64 0, .int .i64 0, .int .i64 0, .int .i64 0, .int .i64 0, .int .i64 0, .int .i64 0, .int .i64 0, .int .i64 0, .int .i64 0, .int .i64 0, .int .i64 0, .int .i64 0, .int .i64 0, .int .i64 0, .int .i64 0, .int .i64 0, .int .i64 0, .int .i64 0, .int .i64 0, .int .i64 0, .int .i64 0, .int .i64 0, .int .i64 0, .int .i64 0, .int .i64 0, .int .i64 0, .int .i64 0, .int .i64 0, .int .i64 0, .int .i64 0, .int .i64 0, .int .i64 0, .int .i64 0, .int .i64 0, .int .i64 0, .int .i64 0, .int .i64 0, .int .i64 0, .int .i64 0, .int .i64 0, .int .i64 0, .int .i64 0, .int .i64 0, .int .i64 0, .int .i64 0, .int .i64 0, .int .i64 0, .int .i64 0, .int .i64 0, .int .i64 0, .int .i64 0, .int .i64 0, .int .i64 0, .int .i64 0, .int .i64 0, .int .i64 0, .int .i64 0, .int .i64 0, .int .i64 0, .int .i64 0, .int .i64 0, .int .i64 0, .int .i64 0, .int .i64 0, .int .i64 0, .int .i64 0, .int .i64 0, .int .i64 0, .int .i64 0, .int .i64 0, .int .i64 0, .int .i64 0, .int .i64 0, .int .i64 0, .int .i64 0, .int .i64 0, .int .i64 0, .int .i64 0, .int .i64 0, .int .i64 0, .int .i64 0, .int .i64 0, .int .i64 0, .int .i64 0, .int .i64 0, .int .i64 0, .int .i64 0, .int .i64 0, .int .i64 0, .int .i64 0, .int .i64 0, .int .i64 0, .int .i64 0, .int .i64 0, .int .i64 0, .int .i64 0, .int .i64 0, .int .i64 0, .int .i64 0, .int .i64 0, .int .i64 0, .int .i64 0, .int .i64 0, .int .i64 0, .int .i64 0, .int .i64 0, .int .i64 0, .int .i64 0, .int .i64 0, .int .i64 0, .int .i64 0, .int .i64 0, .int .i64 0, .int .i64 0, .int .i64 0, .int .i64 0, .int .i64 0, .int .i64 0, .int .i64 0, .int .i64 0, .int .i64 0, .int .i64 0, .int .i64 0, .int .i64 0, .int .i64 0, .int .i64 0, .int .i64 0, .int .i64 0, .int .i64 0, .int .i64 0, .int .i64 0, .int .i64 0, .int .i64 0, .int .i64 0, .int .i64 0, .int .i64 0, .int .i64 0, .int .i64 0, .int .i64 0, .int .i64 0, .int .i64 0, .int .i64 0, .int .i64 0, .int .i64 0, .int .i64 0, .int .i64 0, .int .i64 0, .int .i64 0, .int .i64 0, .int .i64 0, .int .i64 0, .int .i64 0, .int .i64 0, .int .i64 0, .int .i64 0, .int .i64 0, .int .i64 0, .int .i64 0, .int .i64 0, .int .i64 0, .int .i64 0, .int .i64 0, .int .i64 0, .int .i64 0, .int .i64 0, .int .i64 0, .int .i64 0, .int .i64 0, .int .i64 0, .int .i64 0, .int .i64 0, .int .i64 0, .int .i64 0, .int .i64 0, .int .i64 0, .int .i64 0, .int .i64 0, .int .i64 0, .int .i64 0, .int .i64 0, .int .i64 0, .int .i64 0, .int .i64 0, .int .i64 0, .int .i64 0, .int .i64 0, .int .i64 0, .int .i64 0, .int .i64 0, .int .i64 0, .int .i64 0, .int .i64 0, .int .i64 0, .int .i64 0, .int .i64 0, .int .i64 0, .int .i64 0, .int .i64 0, .int .i64 0, .int .i64 0, .int .i64 0, .int .i64 0, .int .i64 0, .int .i64 0, .int .i64 0, .int .i64 0, .int .i64 0, .int .i64 0, .int .i64 0, .int .i64 0, .int .i64 0, .int .i64 0, .int .i64 0, .int .i64 0, .int .i64 0, .int .i64 0, .int .i64 0, .int .i64 0, .int .i64 0, .int .i64 0, .int .i64 0, .int .i64 0, .int .i64 0, .int .i64 0, .int .i64 0, .int .i64 0, .int .i64 0, .int .i64 0, .int .i64 0, .int .i64 0, .int .i64 0, .int .i64 0, .int .i64 0, .int .i64 0, .int .i64 0, .int .i64 0, .int .i64 0, .int .i64 0, .int .i64 0, .int .i64 0, .int .i64 0, .int .i64 0, .int .i64 0]⟩
theorem ok215 : TIok Tryz.prog 215 ti215 := ⟨⟨Tryz.t215, _, by kernel_rfl, rfl, rfl, rfl, rfl⟩, rfl, rfl, ⟨_, Tryz.underlying215, rfl⟩⟩
def ti217 : TI := ⟨258, 2088, .struct [(0, 9), (1, 215), (257, 43)], [.str [], .int .i64 0, .int .i64 0, .int .i64 0, .int .i64 0, .int .i64 0, .int .i64 0, .int .i64 0, .int .i64 0, .int .i64 0, .int .i64 0, .int .i64 0, .int .i64 0, .int .i64 0, .int .i64 0, .int .i64 0, .int .i64 0, .int .i64 0, .int .i64 0, .int .i64 0, .int .i64 0, .int .i64 0, .int .i64 0, .int .i64 0, .int .i64 0, .int .i64 0, .int .i64 0, .int .i64 0, .int .i64 0, .int .i64 0, .int .i64 0, .int .i64 0, .int .i64 0, .int .i64 0, .int .i64 0, .int .i64 0, .int .i64 0, .int .i64 0, .int .i64 0, .int .i64 0, .int .i64 0, .int .i64 0, .int .i64 0, .int .i64 0, .int .i64 0, .int .i64 0, .int .i64 0, .int .i64 0, .int .i64 0, .int .i64 0, .int .i64 0, .int .i64 0, .int .i64 0, .int .i64 0, .int .i64 0, .int .i64 0, .int .i64 0, .int .i64 0, .int .i64 0, .int .i64 0, .int .i64 0, .int .i64 0, .int .i64 0, .int .i64 0, .int .i64 0, .int .i64 0, .int .i64 0, .int .i64 0, .int .i64 0, .int .i64 0, .int .i64 0, .int .i64 0, .int .i64 0, .int .i64 0, .int .i64 0, .int .i64 0, .int .i64 0, .int .i64 0, .int .i64 0, .int .i64 0, .int .i64 0, .int .i64 0, .int .i64 0, .int .i64 0, .int .i64 0, .int .i64 0, .int .i64 0, .int .i64 0, .int .i64 0, .int .i64 0, .int .i64 0, .int .i64 0, .int .i64 0, .int .i64 0, .int .i64 0, .int .i64 0, .int .i64 0, .int .i64 0, .int .i64 0, .int .i64 0, .int .i64 0, .int .i64 0, .int .i64 0, .int .i64 0, .int .i64 0, .int .i64 0, .int .i64 0, .int .i64 0, .int .i64 0, .int .i64 0, .int .i64 0, .int .i64 0, .int .i64 0, .int .i64 0, .int .i64 0, .int .i64 0, .int .i64 0, .int .i64 0, .int .i64 0, .int .i64 0, .int .i64 0, .int .i64 0, .int .i64 0, .int .i64 0, .int .i64 0, .int .i64 0, .int .i64 0, .int .i64 0, .int .i64 0, .int .i64 0, .int .i64 0, .int .i64 0, .int .i64 0, .int .i64 0, .int .i64 0, .int .i64 0, .int .i64 0, .int .i64 0, .int .i64 0, .int .i64 0, .int .i64 0, .int .i64 0, .int .i64 0, .int .i64 0, .int .i64 0, .int .i64 0, .int .i64 0, .int .i64 0, .int .i64 0, .int .i64 0, .int .i64 0, .int .i64 0, .int .i64 0, .int .i64 0, .int .i64 0, .int .i64 0, .int .i64 0, .int .i64 0, .int .i64 0, .int .i64 0, .int .i64 0, .int .i64 0, .int .i64 0, .int .i64 0, .int .i64 0, .int .i64 0, .int .i64 0, .int .i64 0, .int .i64 0, .int .i64 0, .int .i64 0, .int .i64 0, .int .i64 0, .int .i64 0, .int .i64 0, .int .i64 0, .int .i64 0, .int .i64 0, .int .i64 0, .int .i64 0, .int .i64 0, .int .i64 0, .int .i64 0, .int .i64 0, .int .i64 0, .int .i64 0, .int .i64 0, .int .i64 0, .int .i64 0, .int .i64 0, .int .i64 0, .int .i64 0, .int .i64 0, .int .i64 0, .int .i64 0, .int .i64 0, .int .i64 0, .int .i64 0, .int .i64 0, .int .i64 0, .int .i64 0, .int .i64 0, .int .i64 0, .int .i64 0, .int .i64 0, .int .i64 0, .int .i64 0, .int .i64 0, .int .i64 0, .int .i64 0, .int .i64 0, .int .i64 0, .int .i64 0, .int .i64 0, .int .i64 0, .int .i64 0, .int .i64 0, .int .i64 0, .int .i64 0, .int .i64 0, .int .i64 0, .int .i64 0, .int .i64 0, .int .i64 0, .int .i64 0, .int .i64 0, .int .i64 0, .int .i64 0, .int .i64 0, .int .i64 0, .int .i64 0, .int .i64 0, .int .i64 0, .int .i64 0, .int .i64 0, .int .i64 0, .int .i64 0, .int .i64 0, .int .i64 0, .int .i64 0, .int .i64 0, .int .i64 0, .int .i64 0, .int .i64 0, .int .i64 0, .int .i64 0, .int .i64 0, .int .i64 0, .int .i64 0, .int .i64 0, .int .i64 0, .int .i64 0, .int .i64 0, .int .i64 0, .int .i64 0, .int .i64 0, .int .i64 0, .nils]⟩
theorem ok217 : TIok Tryz.prog 217 ti217 := ⟨⟨Tryz.t217, _, by kernel_rfl, rfl, rfl, rfl, rfl⟩, rfl, rfl, ⟨_, Tryz.underlying217, ⟨_, rfl, rfl⟩⟩⟩
def ttl : List (Nat × TI) := [(3, ti3), (4, ti4), (5, ti5), (9, ti9), (21, ti21), (23, ti23), (24, ti24), (28, ti28), (29, ti29), (30, ti30), (34, ti34), (39, ti39), (40, ti40), (43, ti43), (46, ti46), (48, ti48), (54, ti54), (55, ti55), (63, ti63), (64, ti64), (66, ti66), (67, ti67), (68, ti68), (69, ti69), (79, ti79), (80, ti80), (81, ti81), (82, ti82), (83, ti83), (84, ti84), (104, ti104), (121, ti121), (122, ti122), (127, ti127), (136, ti136), (137, ti137), (144, ti144), (145, ti145), (146, ti146), (148, ti148), (150, ti150), (152, ti152), (154, ti154), (156, ti156), (157, ti157), (158, ti158), (177, ti177), (179, ti179), (181, ti181), (182, ti182), (183, ti183), (184, ti184), (185, ti185), (186, ti186), (193, ti193), (196, ti196), (197, ti197), (198, ti198), (200, ti200), (202, ti202), (204, ti204), (215, ti215), (217, ti217)]
def tt : TT := fun t => lookT t ttl
theorem tok : TOK Tryz.prog tt := tok_of_all ⟨ok3, ok4, ok5, ok9, ok21, ok23, ok24, ok28, ok29, ok30, ok34, ok39, ok40, ok43, ok46, ok48, ok54, ok55, ok63, ok64, ok66, ok67, ok68, ok69, ok79, ok80, ok81, ok82, ok83, ok84, ok104, ok121, ok122, ok127, ok136, ok137, ok144, ok145, ok146, ok148, ok150, ok152, ok154, ok156, ok157, ok158, ok177, ok179, ok181, ok182, ok183, ok184, ok185, ok186, ok193, ok196, ok197, ok198, ok200, ok202, ok204, ok215, ok217, trivial⟩
end Go.Ab.Sz
namespace Go.Ab.Sz
open Go Go.Ab Go.Proofs
set_option maxRecDepth 20000
/-- gosem.cut.init -/
def c2 : CF := ⟨1, [], .ops [⟨some 0, none, .call (.k (.fn (.func 1) [] [])) []⟩]⟩
/-- comptoir/comptoirlaw07.TokenTells -/
def c3 : CF := ⟨32, [.t 2], .seq (.ops [⟨some 2, none, .mv (.k (.bool false))⟩]) (.seq (.seq (.ops [⟨some 7, none, .mv (.t 0)⟩,
  ⟨some 8, none, .lens (.t 7)⟩,
  ⟨some 9, none, .bin .gtr (.int .i64) true (.t 8) (.k (.int .i64 5000))⟩]) (.cond (.t 9) (.seq (.ops [⟨some 10, none, .call (.k (.fn (.func 11) [] [])) []⟩,
  ⟨some 2, none, .mv (.t 10)⟩]) (.ret)) (.skip))) (.seq (.ops [⟨some 12, none, .mv (.t 0)⟩,
  ⟨some 13, none, .call (.k (.fn (.func 12) [] [])) [.t 12]⟩,
  ⟨some 11, none, .mv (.t 13)⟩,
  ⟨some 14, none, .ex (.t 11) 0⟩,
  ⟨some 15, none, .ex (.t 11) 1⟩,
  ⟨some 3, none, .mv (.t 14)⟩,
  ⟨some 4, none, .mv (.t 15)⟩]) (.seq (.ops [⟨some 17, none, .mv (.t 0)⟩,
  ⟨some 18, none, .call (.k (.fn (.func 13) [] [])) [.t 17]⟩,
  ⟨some 16, none, .mv (.t 18)⟩,
  ⟨some 19, none, .ex (.t 16) 0⟩,
  ⟨some 20, none, .ex (.t 16) 1⟩,
  ⟨some 5, none, .mv (.t 19)⟩,
  ⟨some 6, none, .mv (.t 20)⟩]) (.seq (.ops [⟨some 21, none, .call (.k (.fn (.func 11) [] [])) []⟩,
  ⟨some 22, none, .mv (.t 21)⟩,
  ⟨some 23, some (22, true), .mv (.t 3)⟩,
  ⟨some 24, some (22, true), .mv (.t 5)⟩,
  ⟨some 25, some (22, true), .call (.k (.fn (.func 14) [] [])) [.t 23, .t 24, .k (.fn (.func 15) [] [])]⟩,
  ⟨some 26, none, .pick (.t 22) (.t 25) (.k (.bool false))⟩,
  ⟨some 27, none, .mv (.t 26)⟩,
  ⟨some 28, some (27, true), .mv (.t 4)⟩,
  ⟨some 29, some (27, true), .mv (.t 6)⟩,
  ⟨some 30, some (27, true), .bin .eql (.int .i64) false (.t 28) (.t 29)⟩,
  ⟨some 31, none, .pick (.t 27) (.t 30) (.k (.bool false))⟩,
  ⟨some 2, none, .mv (.t 31)⟩]) (.ret)))))⟩
/-- comptoir/comptoirlaw07.TokenParts -/
def c4 : CF := ⟨75, [.t 4], .seq (.ops [⟨some 4, none, .mv (.k (.bool false))⟩]) (.seq (.seq (.ops [⟨some 13, none, .mv (.t 0)⟩,
  ⟨some 14, none, .lens (.t 13)⟩,
  ⟨some 15, none, .bin .gtr (.int .i64) true (.t 14) (.k (.int .i64 1000))⟩,
  ⟨some 16, none, .mv (.t 15)⟩,
  ⟨some 17, some (16, false), .mv (.t 1)⟩,
  ⟨some 18, some (16, false), .lens (.t 17)⟩,
  ⟨some 19, some (16, false), .bin .gtr (.int .i64) true (.t 18) (.k (.int .i64 1000))⟩,
  ⟨some 20, none, .pick (.t 16) (.k (.bool true)) (.t 19)⟩]) (.cond (.t 20) (.seq (.ops [⟨some 21, none, .call (.k (.fn (.func 11) [] [])) []⟩,
  ⟨some 4, none, .mv (.t 21)⟩]) (.ret)) (.skip))) (.seq (.ops [⟨some 23, none, .mv (.t 0)⟩,
  ⟨some 24, none, .call (.k (.fn (.func 13) [] [])) [.t 23]⟩,
  ⟨some 22, none, .mv (.t 24)⟩,
  ⟨some 25, none, .ex (.t 22) 0⟩,
  ⟨some 26, none, .ex (.t 22) 1⟩,
  ⟨some 5, none, .mv (.t 25)⟩,
  ⟨some 6, none, .mv (.t 26)⟩]) (.seq (.ops [⟨some 28, none, .mv (.t 1)⟩,
  ⟨some 29, none, .call (.k (.fn (.func 13) [] [])) [.t 28]⟩,
  ⟨some 27, none, .mv (.t 29)⟩,
  ⟨some 30, none, .ex (.t 27) 0⟩,
  ⟨some 31, none, .ex (.t 27) 1⟩,
  ⟨some 7, none, .mv (.t 30)⟩,
  ⟨some 8, none, .mv (.t 31)⟩]) (.seq (.ops [⟨some 32, none, .mv (.t 1)⟩,
  ⟨some 33, none, .lens (.t 32)⟩,
  ⟨some 34, none, .bin .gtr (.int .i64) true (.t 33) (.k (.int .i64 4))⟩,
  ⟨some 35, none, .mv (.t 34)⟩,
  ⟨some 36, some (35, true), .mv (.t 1)⟩,
  ⟨some 37, some (35, true), .slstr (.t 36) none (some (.k (.int .i64 5)))⟩,
  ⟨some 38, some (35, true), .bin .eql (.str) true (.t 37) (.k (.str [60, 63, 120, 109, 108]))⟩,
  ⟨some 39, none, .pick (.t 35) (.t 38) (.k (.bool false))⟩,
  ⟨some 9, none, .mv (.t 39)⟩]) (.seq (.seq (.ops [⟨some 40, none, .mv (.t 6)⟩,
  ⟨some 41, none, .bin .neq (.int .i64) true (.t 40) (.k (.int .i64 0))⟩,
  ⟨some 42, none, .mv (.t 41)⟩,
  ⟨some 43, some (42, false), .mv (.t 8)⟩,
  ⟨some 44, some (42, false), .bin .neq (.int .i64) true (.t 43) (.k (.int .i64 0))⟩,
  ⟨some 45, none, .pick (.t 42) (.k (.bool true)) (.t 44)⟩,
  ⟨some 46, none, .mv (.t 45)⟩,
  ⟨some 47, some (46, false), .mv (.t 9)⟩,
  ⟨some 48, none, .pick (.t 46) (.k (.bool true)) (.t 47)⟩]) (.cond (.t 48) (.seq (.ops [⟨some 49, none, .call (.k (.fn (.func 11) [] [])) []⟩,
  ⟨some 4, none, .mv (.t 49)⟩]) (.ret)) (.skip))) (.seq (.ops [⟨some 51, none, .mv (.t 0)⟩,
  ⟨some 52, none, .bin .add (.str) true (.t 51) (.k (.str [60, 99, 47, 62]))⟩,
  ⟨some 53, none, .mv (.t 1)⟩,
  ⟨some 54, none, .bin .add (.str) false (.t 52) (.t 53)⟩,
  ⟨some 55, none, .call (.k (.fn (.func 12) [] [])) [.t 54]⟩,
  ⟨some 50, none, .mv (.t 55)⟩,
  ⟨some 56, none, .ex (.t 50) 0⟩,
  ⟨some 57, none, .ex (.t 50) 1⟩,
  ⟨some 10, none, .mv (.t 56)⟩,
  ⟨some 11, none, .mv (.t 57)⟩]) (.seq (.ops [⟨some 58, none, .mv (.t 5)⟩,
  ⟨some 59, none, .app 30 5 72 (.k (.nils)) (.t 58)⟩,
  ⟨some 60, none, .mk [.int .i64 0, .str [], .str [], .nils, .bool false] [(0, 1, .k (.int .i64 1)), (1, 1, .k (.str [99])), (4, 1, .k (.bool true))]⟩,
  ⟨some 61, none, .mks 30 5 [.int .i64 0, .str [], .str [], .nils, .bool false] 1 [(0, .t 60)]⟩,
  ⟨some 62, none, .app 30 5 72 (.t 59) (.t 61)⟩,
  ⟨some 63, none, .mv (.t 7)⟩,
  ⟨some 64, none, .app 30 5 72 (.t 62) (.t 63)⟩,
  ⟨some 12, none, .mv (.t 64)⟩]) (.seq (.ops [⟨some 65, none, .call (.k (.fn (.func 11) [] [])) []⟩,
  ⟨some 66, none, .mv (.t 65)⟩,
  ⟨some 67, some (66, true), .mv (.t 11)⟩,
  ⟨some 68, some (66, true), .bin .eql (.int .i64) true (.t 67) (.k (.int .i64 0))⟩,
  ⟨some 69, none, .pick (.t 66) (.t 68) (.k (.bool false))⟩,
  ⟨some 70, none, .mv (.t 69)⟩,
  ⟨some 71, some (70, true), .mv (.t 10)⟩,
  ⟨some 72, some (70, true), .mv (.t 12)⟩,
  ⟨some 73, some (70, true), .call (.k (.fn (.func 14) [] [])) [.t 71, .t 72, .k (.fn (.func 15) [] [])]⟩,
  ⟨some 74, none, .pick (.t 70) (.t 73) (.k (.bool false))⟩,
  ⟨some 4, none, .mv (.t 74)⟩]) (.ret)))))))))⟩
/-- comptoir/comptoirlaw08.TreeTells -/
def c5 : CF := ⟨81, [.t 8], .seq (.ops [⟨some 8, none, .mv (.k (.bool false))⟩]) (.seq (.seq (.ops [⟨some 17, none, .mv (.t 0)⟩,
  ⟨some 18, none, .lenl (.t 17)⟩,
  ⟨some 19, none, .bin .gtr (.int .i64) true (.t 18) (.k (.int .i64 100))⟩,
  ⟨some 20, none, .mv (.t 19)⟩,
  ⟨some 21, some (20, false), .mv (.t 1)⟩,
  ⟨some 22, some (20, false), .lens (.t 21)⟩,
  ⟨some 23, some (20, false), .bin .gtr (.int .i64) true (.t 22) (.k (.int .i64 4000))⟩,
  ⟨some 24, none, .pick (.t 20) (.k (.bool true)) (.t 23)⟩,
  ⟨some 25, none, .mv (.t 24)⟩,
  ⟨some 26, some (25, false), .mv (.t 2)⟩,
  ⟨some 27, some (25, false), .lenl (.t 26)⟩,
  ⟨some 28, some (25, false), .bin .gtr (.int .i64) true (.t 27) (.k (.int .i64 100))⟩,
  ⟨some 29, none, .pick (.t 25) (.k (.bool true)) (.t 28)⟩]) (.cond (.t 29) (.seq (.ops [⟨some 30, none, .call (.k (.fn (.func 16) [] [])) []⟩,
  ⟨some 8, none, .mv (.t 30)⟩]) (.ret)) (.skip))) (.seq (.ops [⟨some 32, none, .mv (.t 0)⟩,
  ⟨some 33, none, .call (.k (.fn (.func 17) [] [])) [.t 32]⟩,
  ⟨some 31, none, .mv (.t 33)⟩,
  ⟨some 34, none, .ex (.t 31) 0⟩,
  ⟨some 35, none, .ex (.t 31) 1⟩,
  ⟨some 9, none, .mv (.t 34)⟩,
  ⟨some 10, none, .mv (.t 35)⟩]) (.seq (.ops [⟨some 37, none, .mv (.t 0)⟩,
  ⟨some 38, none, .call (.k (.fn (.func 18) [] [])) [.t 37]⟩,
  ⟨some 36, none, .mv (.t 38)⟩,
  ⟨some 39, none, .ex (.t 36) 0⟩,
  ⟨some 40, none, .ex (.t 36) 1⟩,
  ⟨some 11, none, .mv (.t 39)⟩,
  ⟨some 12, none, .mv (.t 40)⟩]) (.seq (.ops [⟨some 42, none, .mv (.t 1)⟩,
  ⟨some 43, none, .call (.k (.fn (.func 19) [] [])) [.t 42]⟩,
  ⟨some 41, none, .mv (.t 43)⟩,
  ⟨some 44, none, .ex (.t 41) 0⟩,
  ⟨some 45, none, .ex (.t 41) 1⟩,
  ⟨some 13, none, .mv (.t 44)⟩,
  ⟨some 14, none, .mv (.t 45)⟩]) (.seq (.ops [⟨some 47, none, .mv (.t 1)⟩,
  ⟨some 48, none, .call (.k (.fn (.func 20) [] [])) [.t 47]⟩,
  ⟨some 46, none, .mv (.t 48)⟩,
  ⟨some 49, none, .ex (.t 46) 0⟩,
  ⟨some 50, none, .ex (.t 46) 1⟩,
  ⟨some 15, none, .mv (.t 49)⟩,
  ⟨some 16, none, .mv (.t 50)⟩]) (.seq (.ops [⟨some 51, none, .call (.k (.fn (.func 16) [] [])) []⟩,
  ⟨some 52, none, .mv (.t 51)⟩,
  ⟨some 53, some (52, true), .mv (.t 9)⟩,
  ⟨some 54, some (52, true), .mv (.t 11)⟩,
  ⟨some 55, some (52, true), .call (.k (.fn (.func 21) [] [])) [.t 53, .t 54, .k (.fn (.func 22) [] [])]⟩,
  ⟨some 56, none, .pick (.t 52) (.t 55) (.k (.bool false))⟩,
  ⟨some 57, none, .mv (.t 56)⟩,
  ⟨some 58, some (57, true), .mv (.t 10)⟩,
  ⟨some 59, some (57, true), .mv (.t 12)⟩,
  ⟨some 60, some (57, true), .bin .eql (.int .i64) false (.t 58) (.t 59)⟩,
  ⟨some 61, none, .pick (.t 57) (.t 60) (.k (.bool false))⟩,
  ⟨some 62, none, .mv (.t 61)⟩,
  ⟨some 63, some (62, true), .mv (.t 13)⟩,
  ⟨some 64, some (62, true), .mv (.t 15)⟩,
  ⟨some 65, some (62, true), .call (.k (.fn (.func 21) [] [])) [.t 63, .t 64, .k (.fn (.func 22) [] [])]⟩,
  ⟨some 66, none, .pick (.t 62) (.t 65) (.k (.bool false))⟩,
  ⟨some 67, none, .mv (.t 66)⟩,
  ⟨some 68, some (67, true), .mv (.t 14)⟩,
  ⟨some 69, some (67, true), .mv (.t 16)⟩,
  ⟨some 70, some (67, true), .bin .eql (.int .i64) false (.t 68) (.t 69)⟩,
  ⟨some 71, none, .pick (.t 67) (.t 70) (.k (.bool false))⟩,
  ⟨some 72, none, .mv (.t 71)⟩,
  ⟨some 73, some (72, true), .mv (.t 2)⟩,
  ⟨some 74, some (72, true), .mv (.t 3)⟩,
  ⟨some 75, some (72, true), .call (.k (.fn (.func 24) [] [])) [.t 73, .t 74]⟩,
  ⟨some 76, some (72, true), .mv (.t 2)⟩,
  ⟨some 77, some (72, true), .mv (.t 3)⟩,
  ⟨some 78, some (72, true), .call (.k (.fn (.func 25) [] [])) [.t 76, .t 77]⟩,
  ⟨some 79, some (72, true), .call (.k (.fn (.func 23) [] [])) [.t 75, .t 78]⟩,
  ⟨some 80, none, .pick (.t 72) (.t 79) (.k (.bool false))⟩,
  ⟨some 8, none, .mv (.t 80)⟩]) (.ret)))))))⟩
/-- comptoir/comptoirlaw09.CanonBack -/
def c10 : CF := ⟨86, [.t 4], .seq (.ops [⟨some 4, none, .mv (.k (.bool false))⟩]) (.seq (.seq (.ops [⟨some 15, none, .mv (.t 0)⟩,
  ⟨some 16, none, .lenl (.t 15)⟩,
  ⟨some 17, none, .bin .gtr (.int .i64) true (.t 16) (.k (.int .i64 100))⟩,
  ⟨some 18, none, .mv (.t 17)⟩,
  ⟨some 19, some (18, false), .mv (.t 1)⟩,
  ⟨some 20, some (18, false), .lens (.t 19)⟩,
  ⟨some 21, some (18, false), .bin .gtr (.int .i64) true (.t 20) (.k (.int .i64 4000))⟩,
  ⟨some 22, none, .pick (.t 18) (.k (.bool true)) (.t 21)⟩]) (.cond (.t 22) (.seq (.ops [⟨some 23, none, .call (.k (.fn (.func 27) [] [])) []⟩,
  ⟨some 4, none, .mv (.t 23)⟩]) (.ret)) (.skip))) (.seq (.ops [⟨some 25, none, .mv (.t 0)⟩,
  ⟨some 26, none, .call (.k (.fn (.func 28) [] [])) [.t 25]⟩,
  ⟨some 24, none, .mv (.t 26)⟩,
  ⟨some 27, none, .ex (.t 24) 0⟩,
  ⟨some 28, none, .ex (.t 24) 1⟩,
  ⟨some 5, none, .mv (.t 27)⟩,
  ⟨some 6, none, .mv (.t 28)⟩]) (.seq (.seq (.ops [⟨some 29, none, .mv (.t 6)⟩,
  ⟨some 30, none, .bin .eql (.int .i64) true (.t 29) (.k (.int .i64 0))⟩,
  ⟨some 31, none, .mv (.t 30)⟩,
  ⟨some 32, some (31, true), .mv (.t 5)⟩,
  ⟨some 33, some (31, true), .lens (.t 32)⟩,
  ⟨some 34, some (31, true), .bin .leq (.int .i64) true (.t 33) (.k (.int .i64 4096))⟩,
  ⟨some 35, none, .pick (.t 31) (.t 34) (.k (.bool false))⟩]) (.cond (.t 35) (.seq (.ops [⟨some 37, none, .mv (.t 5)⟩,
  ⟨some 38, none, .call (.k (.fn (.func 19) [] [])) [.t 37]⟩,
  ⟨some 36, none, .mv (.t 38)⟩,
  ⟨some 39, none, .ex (.t 36) 0⟩,
  ⟨some 40, none, .ex (.t 36) 1⟩,
  ⟨some 7, none, .mv (.t 39)⟩,
  ⟨some 8, none, .mv (.t 40)⟩]) (.seq (.ops [⟨some 41, none, .mv (.t 8)⟩,
  ⟨some 42, none, .bin .neq (.int .i64) true (.t 41) (.k (.int .i64 0))⟩,
  ⟨some 43, none, .mv (.t 42)⟩,
  ⟨some 44, some (43, false), .mv (.t 7)⟩,
  ⟨some 45, some (43, false), .mv (.t 0)⟩,
  ⟨some 46, some (43, false), .call (.k (.fn (.func 21) [] [])) [.t 44, .t 45, .k (.fn (.func 22) [] [])]⟩,
  ⟨some 47, some (43, false), .un .not (.t 46)⟩,
  ⟨some 48, none, .pick (.t 43) (.k (.bool true)) (.t 47)⟩]) (.cond (.t 48) (.seq (.ops [⟨some 4, none, .mv (.k (.bool false))⟩]) (.ret)) (.skip)))) (.skip))) (.seq (.ops [⟨some 50, none, .mv (.t 1)⟩,
  ⟨some 51, none, .call (.k (.fn (.func 19) [] [])) [.t 50]⟩,
  ⟨some 49, none, .mv (.t 51)⟩,
  ⟨some 52, none, .ex (.t 49) 0⟩,
  ⟨some 53, none, .ex (.t 49) 1⟩,
  ⟨some 9, none, .mv (.t 52)⟩,
  ⟨some 10, none, .mv (.t 53)⟩]) (.seq (.seq (.ops [⟨some 54, none, .mv (.t 10)⟩,
  ⟨some 55, none, .bin .neq (.int .i64) true (.t 54) (.k (.int .i64 0))⟩]) (.cond (.t 55) (.seq (.ops [⟨some 56, none, .call (.k (.fn (.func 27) [] [])) []⟩,
  ⟨some 4, none, .mv (.t 56)⟩]) (.ret)) (.skip))) (.seq (.ops [⟨some 58, none, .mv (.t 9)⟩,
  ⟨some 59, none, .call (.k (.fn (.func 28) [] [])) [.t 58]⟩,
  ⟨some 57, none, .mv (.t 59)⟩,
  ⟨some 60, none, .ex (.t 57) 0⟩,
  ⟨some 61, none, .ex (.t 57) 1⟩,
  ⟨some 11, none, .mv (.t 60)⟩,
  ⟨some 12, none, .mv (.t 61)⟩]) (.seq (.ops [⟨some 63, none, .mv (.t 11)⟩,
  ⟨some 64, none, .call (.k (.fn (.func 19) [] [])) [.t 63]⟩,
  ⟨some 62, none, .mv (.t 64)⟩,
  ⟨some 65, none, .ex (.t 62) 0⟩,
  ⟨some 66, none, .ex (.t 62) 1⟩,
  ⟨some 13, none, .mv (.t 65)⟩,
  ⟨some 14, none, .mv (.t 66)⟩]) (.seq (.ops [⟨some 67, none, .call (.k (.fn (.func 27) [] [])) []⟩,
  ⟨some 68, none, .mv (.t 67)⟩,
  ⟨some 69, some (68, true), .mv (.t 12)⟩,
  ⟨some 70, some (68, true), .bin .eql (.int .i64) true (.t 69) (.k (.int .i64 0))⟩,
  ⟨some 71, none, .pick (.t 68) (.t 70) (.k (.bool false))⟩,
  ⟨some 72, none, .mv (.t 71)⟩,
  ⟨some 73, some (72, true), .mv (.t 11)⟩,
  ⟨some 74, some (72, true), .lens (.t 73)⟩,
  ⟨some 75, some (72, true), .bin .gtr (.int .i64) true (.t 74) (.k (.int .i64 4096))⟩,
  ⟨some 76, some (72, true), .mv (.t 75)⟩,
  ⟨some 77, some (76, false), .mv (.t 14)⟩,
  ⟨some 78, some (76, false), .bin .eql (.int .i64) true (.t 77) (.k (.int .i64 0))⟩,
  ⟨some 79, some (76, false), .mv (.t 78)⟩,
  ⟨some 80, some (79, true), .mv (.t 9)⟩,
  ⟨some 81, some (79, true), .mv (.t 13)⟩,
  ⟨some 82, some (79, true), .call (.k (.fn (.func 21) [] [])) [.t 80, .t 81, .k (.fn (.func 22) [] [])]⟩,
  ⟨some 83, some (76, false), .pick (.t 79) (.t 82) (.k (.bool false))⟩,
  ⟨some 84, some (72, true), .pick (.t 76) (.k (.bool true)) (.t 83)⟩,
  ⟨some 85, none, .pick (.t 72) (.t 84) (.k (.bool false))⟩,
  ⟨some 4, none, .mv (.t 85)⟩]) (.ret)))))))))⟩
theorem fk10 (G : GT) : FOk Tryz.prog tt G 10 c10 := ⟨_, Tryz.func10, by kernel_rfl⟩
def l12_0b : CC := .seq (.seq (.ops [⟨some 21, none, .mv (.t 4)⟩,
  ⟨some 22, none, .nilc (.t 21)⟩,
  ⟨some 23, none, .fa 0 (.t 22)⟩,
  ⟨some 24, none, .ld none (.t 23)⟩,
  ⟨some 25, none, .bin .neq (.str) true (.t 24) (.k (.str []))⟩]) (.cond (.t 25) (.skip) (.exit 1))) (.block 2 (.seq (.ops [⟨some 27, none, .mv (.t 4)⟩,
  ⟨some 28, none, .call (.k (.fn (.func 31) [] [])) [.t 27]⟩,
  ⟨some 29, none, .call (.t 28) []⟩,
  ⟨some 26, none, .mv (.t 29)⟩,
  ⟨some 30, none, .ex (.t 26) 0⟩,
  ⟨some 31, none, .ex (.t 26) 1⟩,
  ⟨some 6, none, .alloc 30 [.int .i64 0, .str [], .str [], .nils, .bool false]⟩,
  ⟨none, none, .st 5 (.t 6) (.t 30)⟩,
  ⟨some 7, none, .mv (.t 31)⟩]) (.seq (.seq (.ops [⟨some 32, none, .mv (.t 7)⟩,
  ⟨some 33, none, .un .not (.t 32)⟩]) (.cond (.t 33) (.seq (.ops [⟨some 2, none, .mv (.k (.nils))⟩,
  ⟨some 3, none, .mv (.k (.int .i64 9))⟩]) (.ret)) (.skip))) (.ops [⟨some 34, none, .mv (.t 5)⟩,
  ⟨some 35, none, .ld (some 5) (.t 6)⟩,
  ⟨some 36, none, .mks 30 5 [.int .i64 0, .str [], .str [], .nils, .bool false] 1 [(0, .t 35)]⟩,
  ⟨some 37, none, .app 30 5 72 (.t 34) (.t 36)⟩,
  ⟨some 5, none, .mv (.t 37)⟩]))))
def l12_0 : CC := l12_0b
theorem l12_0x (P : Program) (T : TT) (G : GT) (Q : EQ) (t : Env) (σ : St) : aC P T G l12_0 Q t σ = aC P T G l12_0b Q t σ := rfl
/-- comptoir/token.Tokens -/
def c12 : CF := ⟨39, [.t 2, .t 3], .seq (.ops [⟨some 2, none, .mv (.k (.nils))⟩,
  ⟨some 3, none, .mv (.k (.int .i64 0))⟩]) (.seq (.block 0 (.seq (.ops [⟨some 9, none, .mv (.t 0)⟩,
  ⟨some 10, none, .lens (.t 9)⟩,
  ⟨some 11, none, .bin .gtr (.int .i64) true (.t 10) (.k (.int .i64 4096))⟩,
  ⟨some 8, none, .mv (.t 11)⟩]) (.cond (.t 8) (.seq (.ops [⟨some 2, none, .mv (.k (.nils))⟩,
  ⟨some 3, none, .mv (.k (.int .i64 4))⟩]) (.ret)) (.seq (.ops [⟨some 13, none, .mv (.t 0)⟩,
  ⟨some 14, none, .call (.k (.fn (.func 29) [] [])) [.t 13]⟩,
  ⟨some 15, none, .un .not (.t 14)⟩,
  ⟨some 12, none, .mv (.t 15)⟩]) (.cond (.t 12) (.seq (.ops [⟨some 2, none, .mv (.k (.nils))⟩,
  ⟨some 3, none, .mv (.k (.int .i64 7))⟩]) (.ret)) (.skip)))))) (.seq (.ops [⟨some 16, none, .mv (.t 0)⟩,
  ⟨some 17, none, .mk [.str []] [(0, 1, .t 16)]⟩,
  ⟨some 18, none, .box 55 (.t 17)⟩,
  ⟨some 4, none, .mv (.t 18)⟩]) (.seq (.ops [⟨some 19, none, .mv (.t 4)⟩,
  ⟨some 20, none, .call (.k (.fn (.func 30) [] [])) [.t 19, .k (.str [60, 63, 120, 109, 108, 32, 118, 101, 114, 115, 105, 111, 110, 61, 34, 49, 46, 48, 34, 32, 101, 110, 99, 111, 100, 105, 110, 103, 61, 34, 85, 84, 70, 45, 56, 34, 63, 62])]⟩]) (.seq (.ops [⟨some 5, none, .mv (.k (.nils))⟩]) (.seq (.block 1 (.loop l12_0)) (.seq (.ops [⟨some 38, none, .mv (.t 5)⟩,
  ⟨some 2, none, .mv (.t 38)⟩,
  ⟨some 3, none, .mv (.k (.int .i64 0))⟩]) (.ret)))))))⟩
theorem fk12 (G : GT) : FOk Tryz.prog tt G 12 c12 := ⟨_, Tryz.func12, by kernel_rfl⟩
def l17_0b : CC := .seq (.ops [⟨some 15, none, .bin .lss (.int .i64) false (.t 14) (.t 13)⟩]) (.seq (.cond (.t 15) (.skip) (.exit 0)) (.seq (.block 1 (.seq (.ops [⟨some 16, none, .ixs 5 (.t 12) (.t 14)⟩,
  ⟨some 17, none, .ld (some 5) (.t 16)⟩,
  ⟨some 6, none, .alloc 30 [.int .i64 0, .str [], .str [], .nils, .bool false]⟩,
  ⟨none, none, .st 5 (.t 6) (.t 17)⟩]) (.seq (.ops [⟨some 18, none, .mv (.t 4)⟩,
  ⟨some 19, none, .fa 0 (.t 6)⟩,
  ⟨some 20, none, .ld none (.t 19)⟩,
  ⟨some 21, none, .call (.k (.fn (.func 36) [] [])) [.t 18, .t 20]⟩,
  ⟨some 7, none, .mv (.t 21)⟩]) (.seq (.seq (.ops [⟨some 22, none, .mv (.t 7)⟩,
  ⟨some 23, none, .bin .eql (.func) true (.t 22) (.k (.niln))⟩]) (.cond (.t 23) (.seq (.ops [⟨some 2, none, .mv (.k (.nils))⟩,
  ⟨some 3, none, .mv (.k (.int .i64 9))⟩]) (.ret)) (.skip))) (.seq (.ops [⟨some 24, none, .mv (.t 7)⟩,
  ⟨some 25, none, .ld (some 5) (.t 6)⟩,
  ⟨some 26, none, .call (.t 24) [.t 25]⟩,
  ⟨some 8, none, .mv (.t 26)⟩]) (.seq (.ops [⟨some 27, none, .mv (.t 8)⟩,
  ⟨some 28, none, .bin .neq (.int .i64) true (.t 27) (.k (.int .i64 0))⟩]) (.cond (.t 28) (.seq (.ops [⟨some 29, none, .mv (.t 8)⟩,
  ⟨some 2, none, .mv (.k (.nils))⟩,
  ⟨some 3, none, .mv (.t 29)⟩]) (.ret)) (.skip)))))))) (.ops [⟨some 30, none, .bin .add (.int .i64) true (.t 14) (.k (.int .i64 1))⟩,
  ⟨some 14, none, .mv (.t 30)⟩])))
def l17_0 : CC := l17_0b
theorem l17_0x (P : Program) (T : TT) (G : GT) (Q : EQ) (t : Env) (σ : St) : aC P T G l17_0 Q t σ = aC P T G l17_0b Q t σ := rfl
/-- comptoir/tree.Build -/
def c17 : CF := ⟨40, [.t 2, .t 3], .seq (.ops [⟨some 2, none, .mv (.k (.nils))⟩,
  ⟨some 3, none, .mv (.k (.int .i64 0))⟩]) (.seq (.ops [⟨some 10, none, .mk [.nils, .nils, .nils] []⟩,
  ⟨some 11, none, .box 68 (.t 10)⟩,
  ⟨some 4, none, .mv (.t 11)⟩]) (.seq (.seq (.ops [⟨some 12, none, .mv (.t 0)⟩,
  ⟨some 13, none, .lenl (.t 12)⟩,
  ⟨some 14, none, .mv (.k (.int .i64 0))⟩]) (.block 0 (.loop l17_0))) (.seq (.seq (.ops [⟨some 31, none, .mv (.t 4)⟩,
  ⟨some 32, none, .call (.k (.fn (.func 37) [] [])) [.t 31]⟩,
  ⟨some 9, none, .mv (.t 32)⟩]) (.seq (.ops [⟨some 33, none, .mv (.t 9)⟩,
  ⟨some 34, none, .bin .neq (.int .i64) true (.t 33) (.k (.int .i64 0))⟩]) (.cond (.t 34) (.seq (.ops [⟨some 35, none, .mv (.t 9)⟩,
  ⟨some 2, none, .mv (.k (.nils))⟩,
  ⟨some 3, none, .mv (.t 35)⟩]) (.ret)) (.skip)))) (.seq (.ops [⟨some 36, none, .mv (.t 4)⟩,
  ⟨some 37, none, .nilc (.t 36)⟩,
  ⟨some 38, none, .fa 0 (.t 37)⟩,
  ⟨some 39, none, .ld none (.t 38)⟩,
  ⟨some 2, none, .mv (.t 39)⟩,
  ⟨some 3, none, .mv (.k (.int .i64 0))⟩]) (.ret)))))⟩
theorem fk17 (G : GT) : FOk Tryz.prog tt G 17 c17 := ⟨_, Tryz.func17, by kernel_rfl⟩
/-- comptoir/tree.Parse -/
def c19 : CF := ⟨18, [.t 2, .t 3], .seq (.ops [⟨some 2, none, .mv (.k (.nils))⟩,
  ⟨some 3, none, .mv (.k (.int .i64 0))⟩]) (.seq (.ops [⟨some 7, none, .mv (.t 0)⟩,
  ⟨some 8, none, .call (.k (.fn (.func 12) [] [])) [.t 7]⟩,
  ⟨some 6, none, .mv (.t 8)⟩,
  ⟨some 9, none, .ex (.t 6) 0⟩,
  ⟨some 10, none, .ex (.t 6) 1⟩,
  ⟨some 4, none, .mv (.t 9)⟩,
  ⟨some 5, none, .mv (.t 10)⟩]) (.seq (.seq (.ops [⟨some 11, none, .mv (.t 5)⟩,
  ⟨some 12, none, .bin .neq (.int .i64) true (.t 11) (.k (.int .i64 0))⟩]) (.cond (.t 12) (.seq (.ops [⟨some 13, none, .mv (.t 5)⟩,
  ⟨some 2, none, .mv (.k (.nils))⟩,
  ⟨some 3, none, .mv (.t 13)⟩]) (.ret)) (.skip))) (.seq (.ops [⟨some 14, none, .mv (.t 4)⟩,
  ⟨some 15, none, .call (.k (.fn (.func 17) [] [])) [.t 14]⟩,
  ⟨some 16, none, .ex (.t 15) 0⟩,
  ⟨some 17, none, .ex (.t 15) 1⟩,
  ⟨some 2, none, .mv (.t 16)⟩,
  ⟨some 3, none, .mv (.t 17)⟩]) (.ret))))⟩
theorem fk19 (G : GT) : FOk Tryz.prog tt G 19 c19 := ⟨_, Tryz.func19, by kernel_rfl⟩
def l21_0b : CC := .seq (.seq (.ops [⟨some 13, none, .mv (.t 7)⟩,
  ⟨some 14, none, .mv (.t 0)⟩,
  ⟨some 15, none, .lenl (.t 14)⟩,
  ⟨some 16, none, .bin .lss (.int .i64) false (.t 13) (.t 15)⟩]) (.cond (.t 16) (.skip) (.exit 0))) (.seq (.block 1 (.seq (.mix (.q 0 ⟨some 19, none, .mv (.t 2)⟩ (.q 0 ⟨some 20, none, .mv (.t 0)⟩ (.q 0 ⟨some 21, none, .mv (.t 7)⟩ (.q 1 ⟨some 22, none, .ixs 4 (.t 20) (.t 21)⟩ (.q 1 ⟨some 23, none, .ld (some 4) (.t 22)⟩ (.q 0 ⟨some 24, none, .mv (.t 1)⟩ (.q 0 ⟨some 25, none, .mv (.t 7)⟩ (.q 1 ⟨some 26, none, .ixs 4 (.t 24) (.t 25)⟩ (.q 1 ⟨some 27, none, .ld (some 4) (.t 26)⟩ (.f ⟨some 28, none, .call (.t 19) [.t 23, .t 27]⟩ (.q 0 ⟨some 29, none, .un .not (.t 28)⟩ (.done))))))))))))) (.cond (.t 29) (.seq (.ops [⟨some 6, none, .mv (.k (.bool false))⟩]) (.ret)) (.skip)))) (.ops [⟨some 17, none, .mv (.t 7)⟩,
  ⟨some 18, none, .bin .add (.int .i64) true (.t 17) (.k (.int .i64 1))⟩,
  ⟨some 7, none, .mv (.t 18)⟩]))
def l21_0 : CC := l21_0b
theorem l21_0x (P : Program) (T : TT) (G : GT) (Q : EQ) (t : Env) (σ : St) : aC P T G l21_0 Q t σ = aC P T G l21_0b Q t σ := rfl
/-- comptoir/comptoirhelp.Same[comptoir/api.Node] -/
def c21 : CF := ⟨30, [.t 6], .seq (.ops [⟨some 6, none, .mv (.k (.bool false))⟩]) (.seq (.seq (.ops [⟨some 8, none, .mv (.t 0)⟩,
  ⟨some 9, none, .lenl (.t 8)⟩,
  ⟨some 10, none, .mv (.t 1)⟩,
  ⟨some 11, none, .lenl (.t 10)⟩,
  ⟨some 12, none, .bin .neq (.int .i64) false (.t 9) (.t 11)⟩]) (.cond (.t 12) (.seq (.ops [⟨some 6, none, .mv (.k (.bool false))⟩]) (.ret)) (.skip))) (.seq (.seq (.ops [⟨some 7, none, .mv (.k (.int .i64 0))⟩]) (.block 0 (.loop l21_0))) (.seq (.ops [⟨some 6, none, .mv (.k (.bool true))⟩]) (.ret))))⟩
theorem fk21 (G : GT) : FOk Tryz.prog tt G 21 c21 := ⟨_, Tryz.func21, by kernel_rfl⟩
/-- comptoir/comptoirhelp.Node -/
def c22 : CF := ⟨31, [.t 4], .seq (.ops [⟨some 2, none, .box 40 (.t 0)⟩,
  ⟨some 3, none, .box 40 (.t 1)⟩,
  ⟨some 4, none, .mv (.k (.bool false))⟩]) (.seq (.ops [⟨some 5, none, .fa 0 (.t 2)⟩,
  ⟨some 6, none, .ld none (.t 5)⟩,
  ⟨some 7, none, .fa 0 (.t 3)⟩,
  ⟨some 8, none, .ld none (.t 7)⟩,
  ⟨some 9, none, .bin .eql (.int .i64) false (.t 6) (.t 8)⟩,
  ⟨some 10, none, .mv (.t 9)⟩,
  ⟨some 11, some (10, true), .fa 1 (.t 2)⟩,
  ⟨some 12, some (10, true), .ld none (.t 11)⟩,
  ⟨some 13, some (10, true), .fa 1 (.t 3)⟩,
  ⟨some 14, some (10, true), .ld none (.t 13)⟩,
  ⟨some 15, some (10, true), .bin .eql (.str) false (.t 12) (.t 14)⟩,
  ⟨some 16, none, .pick (.t 10) (.t 15) (.k (.bool false))⟩,
  ⟨some 17, none, .mv (.t 16)⟩,
  ⟨some 18, some (17, true), .fa 2 (.t 2)⟩,
  ⟨some 19, some (17, true), .ld none (.t 18)⟩,
  ⟨some 20, some (17, true), .fa 2 (.t 3)⟩,
  ⟨some 21, some (17, true), .ld none (.t 20)⟩,
  ⟨some 22, some (17, true), .bin .eql (.str) false (.t 19) (.t 21)⟩,
  ⟨some 23, none, .pick (.t 17) (.t 22) (.k (.bool false))⟩,
  ⟨some 24, none, .mv (.t 23)⟩,
  ⟨some 25, some (24, true), .fa 3 (.t 2)⟩,
  ⟨some 26, some (24, true), .ld none (.t 25)⟩,
  ⟨some 27, some (24, true), .fa 3 (.t 3)⟩,
  ⟨some 28, some (24, true), .ld none (.t 27)⟩,
  ⟨some 29, some (24, true), .call (.k (.fn (.func 35) [] [])) [.t 26, .t 28]⟩,
  ⟨some 30, none, .pick (.t 24) (.t 29) (.k (.bool false))⟩,
  ⟨some 4, none, .mv (.t 30)⟩]) (.ret))⟩
theorem fk22 (G : GT) : FOk Tryz.prog tt G 22 c22 := ⟨_, Tryz.func22, by kernel_rfl⟩
def l24_0b : CC := .seq (.ops [⟨some 11, none, .bin .lss (.int .i64) false (.t 10) (.t 9)⟩]) (.seq (.cond (.t 11) (.skip) (.exit 0)) (.seq (.block 1 (.seq (.ops [⟨some 12, none, .mv (.t 10)⟩,
  ⟨some 13, none, .ixs 4 (.t 8) (.t 10)⟩,
  ⟨some 14, none, .ld (some 4) (.t 13)⟩,
  ⟨some 7, none, .alloc 40 [.int .i64 0, .str [], .str [], .nils]⟩,
  ⟨some 6, none, .mv (.t 12)⟩,
  ⟨none, none, .st 4 (.t 7) (.t 14)⟩]) (.seq (.ops [⟨some 15, none, .fa 0 (.t 7)⟩,
  ⟨some 16, none, .ld none (.t 15)⟩,
  ⟨some 17, none, .mv (.t 1)⟩,
  ⟨some 18, none, .bin .eql (.int .i64) false (.t 16) (.t 17)⟩,
  ⟨some 19, none, .mv (.t 18)⟩,
  ⟨some 20, some (19, true), .mv (.t 1)⟩,
  ⟨some 21, some (19, true), .bin .geq (.int .i64) true (.t 20) (.k (.int .i64 0))⟩,
  ⟨some 22, none, .pick (.t 19) (.t 21) (.k (.bool false))⟩,
  ⟨some 23, none, .mv (.t 22)⟩,
  ⟨some 24, some (23, true), .mv (.t 1)⟩,
  ⟨some 25, some (23, true), .mv (.t 0)⟩,
  ⟨some 26, some (23, true), .lenl (.t 25)⟩,
  ⟨some 27, some (23, true), .bin .lss (.int .i64) false (.t 24) (.t 26)⟩,
  ⟨some 28, none, .pick (.t 23) (.t 27) (.k (.bool false))⟩]) (.cond (.t 28) (.ops [⟨some 29, none, .mv (.t 5)⟩,
  ⟨some 30, none, .mv (.t 6)⟩,
  ⟨some 31, none, .mks 3 1 [.int .i64 0] 1 [(0, .t 30)]⟩,
  ⟨some 32, none, .app 3 1 8 (.t 29) (.t 31)⟩,
  ⟨some 5, none, .mv (.t 32)⟩]) (.skip))))) (.ops [⟨some 33, none, .bin .add (.int .i64) true (.t 10) (.k (.int .i64 1))⟩,
  ⟨some 10, none, .mv (.t 33)⟩])))
def l24_0 : CC := l24_0b
theorem l24_0x (P : Program) (T : TT) (G : GT) (Q : EQ) (t : Env) (σ : St) : aC P T G l24_0 Q t σ = aC P T G l24_0b Q t σ := rfl
/-- comptoir/tree.Kids -/
def c24 : CF := ⟨35, [.t 4], .seq (.ops [⟨some 4, none, .mv (.k (.nils))⟩]) (.seq (.ops [⟨some 5, none, .mv (.k (.nils))⟩]) (.seq (.seq (.ops [⟨some 8, none, .mv (.t 0)⟩,
  ⟨some 9, none, .lenl (.t 8)⟩,
  ⟨some 10, none, .mv (.k (.int .i64 0))⟩]) (.block 0 (.loop l24_0))) (.seq (.ops [⟨some 34, none, .mv (.t 5)⟩,
  ⟨some 4, none, .mv (.t 34)⟩]) (.ret))))⟩
theorem fk24 (G : GT) : FOk Tryz.prog tt G 24 c24 := ⟨_, Tryz.func24, by kernel_rfl⟩
/-- comptoir/comptoirlaw09.awake -/
def c27 : CF := ⟨16, [.t 0], .seq (.ops [⟨some 0, none, .mv (.k (.bool false))⟩]) (.seq (.ops [⟨some 4, none, .mk [.int .i64 0, .str [], .str [], .nils] [(0, 1, .k (.int .i64 (-1))), (1, 1, .k (.str [97]))]⟩,
  ⟨some 5, none, .mk [.int .i64 0, .str [], .str [], .nils] [(1, 1, .k (.str [98])), (2, 1, .k (.str [60]))]⟩,
  ⟨some 6, none, .mks 40 4 [.int .i64 0, .str [], .str [], .nils] 2 [(0, .t 4), (1, .t 5)]⟩,
  ⟨some 7, none, .call (.k (.fn (.func 28) [] [])) [.t 6]⟩,
  ⟨some 3, none, .mv (.t 7)⟩,
  ⟨some 8, none, .ex (.t 3) 0⟩,
  ⟨some 9, none, .ex (.t 3) 1⟩,
  ⟨some 1, none, .mv (.t 8)⟩,
  ⟨some 2, none, .mv (.t 9)⟩]) (.seq (.ops [⟨some 10, none, .mv (.t 2)⟩,
  ⟨some 11, none, .bin .eql (.int .i64) true (.t 10) (.k (.int .i64 0))⟩,
  ⟨some 12, none, .mv (.t 11)⟩,
  ⟨some 13, some (12, true), .mv (.t 1)⟩,
  ⟨some 14, some (12, true), .bin .eql (.str) true (.t 13) (.k (.str [60, 97, 62, 60, 98, 62, 38, 108, 116, 59, 60, 47, 98, 62, 60, 47, 97, 62]))⟩,
  ⟨some 15, none, .pick (.t 12) (.t 14) (.k (.bool false))⟩,
  ⟨some 0, none, .mv (.t 15)⟩]) (.ret)))⟩
theorem fk27 (G : GT) : FOk Tryz.prog tt G 27 c27 := ⟨_, Tryz.func27, by kernel_rfl⟩
/-- comptoir/canon.Write -/
def c28 : CF := ⟨17, [.t 2, .t 3], .seq (.ops [⟨some 2, none, .mv (.k (.str []))⟩,
  ⟨some 3, none, .mv (.k (.int .i64 0))⟩]) (.seq (.seq (.ops [⟨some 5, none, .mv (.t 0)⟩,
  ⟨some 6, none, .call (.k (.fn (.func 42) [] [])) [.t 5]⟩,
  ⟨some 7, none, .un .not (.t 6)⟩]) (.cond (.t 7) (.seq (.ops [⟨some 2, none, .mv (.k (.str []))⟩,
  ⟨some 3, none, .mv (.k (.int .i64 10))⟩]) (.ret)) (.skip))) (.seq (.ops [⟨some 8, none, .mv (.t 0)⟩,
  ⟨some 9, none, .mk [.nils, .nilp, .nils] [(0, 1, .t 8)]⟩,
  ⟨some 10, none, .box 84 (.t 9)⟩,
  ⟨some 4, none, .mv (.t 10)⟩]) (.seq (.ops [⟨some 11, none, .mv (.t 4)⟩,
  ⟨some 12, none, .call (.k (.fn (.func 43) [] [])) [.t 11, .k (.int .i64 0)]⟩]) (.seq (.ops [⟨some 13, none, .mv (.t 4)⟩,
  ⟨some 14, none, .nilc (.t 13)⟩,
  ⟨some 15, none, .fa 1 (.t 14)⟩,
  ⟨some 16, none, .call (.k (.fn (.func 44) [] [])) [.t 15]⟩,
  ⟨some 2, none, .mv (.t 16)⟩,
  ⟨some 3, none, .mv (.k (.int .i64 0))⟩]) (.ret)))))⟩
theorem fk28 (G : GT) : FOk Tryz.prog tt G 28 c28 := ⟨_, Tryz.func28, by kernel_rfl⟩
/-- comptoir/text.Utf8 -/
def c29 : CF := ⟨10, [.t 2], .seq (.ops [⟨some 2, none, .mv (.k (.bool false))⟩]) (.seq (.ops [⟨some 3, none, .mv (.t 0)⟩,
  ⟨some 4, none, .call (.k (.fn (.func 45) [] [])) [.t 3]⟩,
  ⟨some 5, none, .mv (.t 4)⟩,
  ⟨some 6, some (5, true), .mv (.t 0)⟩,
  ⟨some 7, some (5, true), .call (.k (.fn (.func 46) [] [])) [.t 6, .k (.fn (.func 47) [] [])]⟩,
  ⟨some 8, some (5, true), .bin .lss (.int .i64) true (.t 7) (.k (.int .i64 0))⟩,
  ⟨some 9, none, .pick (.t 5) (.t 8) (.k (.bool false))⟩,
  ⟨some 2, none, .mv (.t 9)⟩]) (.ret))⟩
theorem fk29 (G : GT) : FOk Tryz.prog tt G 29 c29 := ⟨_, Tryz.func29, by kernel_rfl⟩
/-- (*comptoir/token.walk).pass -/
def c30 : CF := ⟨21, [.t 4], .seq (.ops [⟨some 4, none, .mv (.k (.bool false))⟩]) (.seq (.ops [⟨some 8, none, .mv (.t 0)⟩,
  ⟨some 9, none, .nilc (.t 8)⟩,
  ⟨some 10, none, .fa 0 (.t 9)⟩,
  ⟨some 11, none, .ld none (.t 10)⟩,
  ⟨some 12, none, .mv (.t 1)⟩,
  ⟨some 13, none, .call (.k (.fn (.func 49) [] [])) [.t 11, .t 12]⟩,
  ⟨some 7, none, .mv (.t 13)⟩,
  ⟨some 14, none, .ex (.t 7) 0⟩,
  ⟨some 15, none, .ex (.t 7) 1⟩,
  ⟨some 5, none, .mv (.t 14)⟩,
  ⟨some 6, none, .mv (.t 15)⟩]) (.seq (.ops [⟨some 16, none, .mv (.t 0)⟩,
  ⟨some 17, none, .mv (.t 5)⟩,
  ⟨some 18, none, .nilc (.t 16)⟩,
  ⟨some 19, none, .fa 0 (.t 18)⟩,
  ⟨none, none, .st 1 (.t 19) (.t 17)⟩]) (.seq (.ops [⟨some 20, none, .mv (.t 6)⟩,
  ⟨some 4, none, .mv (.t 20)⟩]) (.ret))))⟩
theorem fk30 (G : GT) : FOk Tryz.prog tt G 30 c30 := ⟨_, Tryz.func30, by kernel_rfl⟩
/-- (*comptoir/token.walk).step -/
def c31 : CF := ⟨15, [.t 2], .seq (.ops [⟨some 2, none, .mv (.k (.niln))⟩]) (.seq (.block 0 (.seq (.ops [⟨some 4, none, .mv (.t 0)⟩,
  ⟨some 5, none, .call (.k (.fn (.func 30) [] [])) [.t 4, .k (.str [60, 47])]⟩,
  ⟨some 3, none, .mv (.t 5)⟩]) (.cond (.t 3) (.seq (.ops [⟨some 6, none, .mv (.t 0)⟩,
  ⟨some 7, none, .mkf (.func 50) [.t 6] []⟩,
  ⟨some 2, none, .mv (.t 7)⟩]) (.ret)) (.seq (.ops [⟨some 9, none, .mv (.t 0)⟩,
  ⟨some 10, none, .call (.k (.fn (.func 30) [] [])) [.t 9, .k (.str [60])]⟩,
  ⟨some 8, none, .mv (.t 10)⟩]) (.cond (.t 8) (.seq (.ops [⟨some 11, none, .mv (.t 0)⟩,
  ⟨some 12, none, .mkf (.func 51) [.t 11] []⟩,
  ⟨some 2, none, .mv (.t 12)⟩]) (.ret)) (.skip)))))) (.seq (.ops [⟨some 13, none, .mv (.t 0)⟩,
  ⟨some 14, none, .mkf (.func 52) [.t 13] []⟩,
  ⟨some 2, none, .mv (.t 14)⟩]) (.ret)))⟩
theorem fk31 (G : GT) : FOk Tryz.prog tt G 31 c31 := ⟨_, Tryz.func31, by kernel_rfl⟩
/-- comptoir/comptoirhelp.Plain[comptoir/api.Attr] -/
def c35 : CF := ⟨8, [.t 4], .seq (.ops [⟨some 4, none, .mv (.k (.bool false))⟩]) (.seq (.ops [⟨some 5, none, .mv (.t 0)⟩,
  ⟨some 6, none, .mv (.t 1)⟩,
  ⟨some 7, none, .call (.k (.fn (.func 58) [] [])) [.t 5, .t 6, .k (.fn (.func 59) [] [])]⟩,
  ⟨some 4, none, .mv (.t 7)⟩]) (.ret))⟩
theorem fk35 (G : GT) : FOk Tryz.prog tt G 35 c35 := ⟨_, Tryz.func35, by kernel_rfl⟩
/-- (*comptoir/tree.build).taker -/
def c36 : CF := ⟨18, [.t 4], .seq (.ops [⟨some 4, none, .mv (.k (.niln))⟩]) (.seq (.seq (.ops [⟨some 5, none, .mv (.t 1)⟩]) (.block 0 (.seq (.ops [⟨some 7, none, .bin .eql (.int .i64) true (.t 5) (.k (.int .i64 1))⟩,
  ⟨some 6, none, .mv (.t 7)⟩]) (.cond (.t 6) (.seq (.ops [⟨some 8, none, .mv (.t 0)⟩,
  ⟨some 9, none, .mkf (.func 60) [.t 8] []⟩,
  ⟨some 4, none, .mv (.t 9)⟩]) (.ret)) (.seq (.ops [⟨some 11, none, .bin .eql (.int .i64) true (.t 5) (.k (.int .i64 2))⟩,
  ⟨some 10, none, .mv (.t 11)⟩]) (.cond (.t 10) (.seq (.ops [⟨some 12, none, .mv (.t 0)⟩,
  ⟨some 13, none, .mkf (.func 61) [.t 12] []⟩,
  ⟨some 4, none, .mv (.t 13)⟩]) (.ret)) (.seq (.ops [⟨some 15, none, .bin .eql (.int .i64) true (.t 5) (.k (.int .i64 3))⟩,
  ⟨some 14, none, .mv (.t 15)⟩]) (.cond (.t 14) (.seq (.ops [⟨some 16, none, .mv (.t 0)⟩,
  ⟨some 17, none, .mkf (.func 62) [.t 16] []⟩,
  ⟨some 4, none, .mv (.t 17)⟩]) (.ret)) (.skip))))))))) (.seq (.ops [⟨some 4, none, .mv (.k (.niln))⟩]) (.ret)))⟩
theorem fk36 (G : GT) : FOk Tryz.prog tt G 36 c36 := ⟨_, Tryz.func36, by kernel_rfl⟩
def l37_0b : CC := .seq (.ops [⟨some 24, none, .bin .lss (.int .i64) false (.t 23) (.t 22)⟩]) (.seq (.cond (.t 24) (.skip) (.exit 0)) (.seq (.block 1 (.seq (.ops [⟨some 25, none, .mv (.t 23)⟩,
  ⟨some 3, none, .mv (.t 25)⟩]) (.seq (.seq (.ops [⟨some 26, none, .mv (.t 0)⟩,
  ⟨some 27, none, .nilc (.t 26)⟩,
  ⟨some 28, none, .fa 2 (.t 27)⟩,
  ⟨some 29, none, .ld none (.t 28)⟩,
  ⟨some 30, none, .mv (.t 3)⟩,
  ⟨some 31, none, .ixs 1 (.t 29) (.t 30)⟩,
  ⟨some 32, none, .ld none (.t 31)⟩,
  ⟨some 33, none, .un .not (.t 32)⟩]) (.cond (.t 33) (.exit 1) (.skip))) (.seq (.seq (.ops [⟨some 34, none, .mv (.t 0)⟩,
  ⟨some 35, none, .nilc (.t 34)⟩,
  ⟨some 36, none, .fa 0 (.t 35)⟩,
  ⟨some 37, none, .ld none (.t 36)⟩,
  ⟨some 38, none, .mv (.t 3)⟩,
  ⟨some 39, none, .ixs 4 (.t 37) (.t 38)⟩,
  ⟨some 40, none, .fa 2 (.t 39)⟩,
  ⟨some 41, none, .ld none (.t 40)⟩,
  ⟨some 42, none, .call (.k (.fn (.func 63) [] [])) [.t 41]⟩,
  ⟨some 43, none, .un .not (.t 42)⟩]) (.cond (.t 43) (.seq (.ops [⟨some 2, none, .mv (.k (.int .i64 12))⟩]) (.ret)) (.skip))) (.ops [⟨some 44, none, .mv (.t 0)⟩,
  ⟨some 45, none, .nilc (.t 44)⟩,
  ⟨some 46, none, .fa 0 (.t 45)⟩,
  ⟨some 47, none, .ld none (.t 46)⟩,
  ⟨some 48, none, .mv (.t 3)⟩,
  ⟨some 49, none, .ixs 4 (.t 47) (.t 48)⟩,
  ⟨some 50, none, .fa 2 (.t 49)⟩,
  ⟨none, none, .st 1 (.t 50) (.k (.str []))⟩]))))) (.ops [⟨some 51, none, .bin .add (.int .i64) true (.t 23) (.k (.int .i64 1))⟩,
  ⟨some 23, none, .mv (.t 51)⟩])))
def l37_0 : CC := l37_0b
theorem l37_0x (P : Program) (T : TT) (G : GT) (Q : EQ) (t : Env) (σ : St) : aC P T G l37_0 Q t σ = aC P T G l37_0b Q t σ := rfl
/-- (*comptoir/tree.build).done -/
def c37 : CF := ⟨52, [.t 2], .seq (.ops [⟨some 2, none, .mv (.k (.int .i64 0))⟩]) (.seq (.seq (.ops [⟨some 4, none, .mv (.t 0)⟩,
  ⟨some 5, none, .nilc (.t 4)⟩,
  ⟨some 6, none, .fa 0 (.t 5)⟩,
  ⟨some 7, none, .ld none (.t 6)⟩,
  ⟨some 8, none, .lenl (.t 7)⟩,
  ⟨some 9, none, .bin .eql (.int .i64) true (.t 8) (.k (.int .i64 0))⟩,
  ⟨some 10, none, .mv (.t 9)⟩,
  ⟨some 11, some (10, false), .mv (.t 0)⟩,
  ⟨some 12, some (10, false), .nilc (.t 11)⟩,
  ⟨some 13, some (10, false), .fa 1 (.t 12)⟩,
  ⟨some 14, some (10, false), .ld none (.t 13)⟩,
  ⟨some 15, some (10, false), .lenl (.t 14)⟩,
  ⟨some 16, some (10, false), .bin .gtr (.int .i64) true (.t 15) (.k (.int .i64 0))⟩,
  ⟨some 17, none, .pick (.t 10) (.k (.bool true)) (.t 16)⟩]) (.cond (.t 17) (.seq (.ops [⟨some 2, none, .mv (.k (.int .i64 10))⟩]) (.ret)) (.skip))) (.seq (.seq (.ops [⟨some 18, none, .mv (.t 0)⟩,
  ⟨some 19, none, .nilc (.t 18)⟩,
  ⟨some 20, none, .fa 0 (.t 19)⟩,
  ⟨some 21, none, .ld none (.t 20)⟩,
  ⟨some 22, none, .lenl (.t 21)⟩,
  ⟨some 23, none, .mv (.k (.int .i64 0))⟩]) (.block 0 (.loop l37_0))) (.seq (.ops [⟨some 2, none, .mv (.k (.int .i64 0))⟩]) (.ret))))⟩
theorem fk37 (G : GT) : FOk Tryz.prog tt G 37 c37 := ⟨_, Tryz.func37, by kernel_rfl⟩
def l42_0b : CC := .seq (.ops [⟨some 27, none, .bin .lss (.int .i64) false (.t 26) (.t 25)⟩]) (.seq (.cond (.t 27) (.skip) (.exit 0)) (.seq (.block 1 (.seq (.ops [⟨some 28, none, .mv (.t 26)⟩,
  ⟨some 29, none, .ixs 4 (.t 24) (.t 26)⟩,
  ⟨some 30, none, .ld (some 4) (.t 29)⟩,
  ⟨some 5, none, .alloc 40 [.int .i64 0, .str [], .str [], .nils]⟩,
  ⟨some 4, none, .mv (.t 28)⟩,
  ⟨none, none, .st 4 (.t 5) (.t 30)⟩]) (.seq (.ops [⟨some 32, none, .mv (.t 3)⟩,
  ⟨some 33, none, .fa 0 (.t 5)⟩,
  ⟨some 34, none, .ld none (.t 33)⟩,
  ⟨some 35, none, .call (.k (.fn (.func 64) [] [])) [.t 32, .t 34]⟩,
  ⟨some 31, none, .mv (.t 35)⟩,
  ⟨some 36, none, .ex (.t 31) 0⟩,
  ⟨some 37, none, .ex (.t 31) 1⟩,
  ⟨some 6, none, .mv (.t 36)⟩,
  ⟨some 7, none, .mv (.t 37)⟩]) (.seq (.seq (.ops [⟨some 38, none, .mv (.t 7)⟩,
  ⟨some 39, none, .un .not (.t 38)⟩,
  ⟨some 40, none, .mv (.t 39)⟩,
  ⟨some 41, some (40, false), .mv (.t 4)⟩,
  ⟨some 42, some (40, false), .bin .gtr (.int .i64) true (.t 41) (.k (.int .i64 0))⟩,
  ⟨some 43, some (40, false), .mv (.t 42)⟩,
  ⟨some 44, some (43, true), .mv (.t 6)⟩,
  ⟨some 45, some (43, true), .lenl (.t 44)⟩,
  ⟨some 46, some (43, true), .bin .eql (.int .i64) true (.t 45) (.k (.int .i64 1))⟩,
  ⟨some 47, some (40, false), .pick (.t 43) (.t 46) (.k (.bool false))⟩,
  ⟨some 48, none, .pick (.t 40) (.k (.bool true)) (.t 47)⟩,
  ⟨some 49, none, .mv (.t 48)⟩,
  ⟨some 50, some (49, false), .mv (.t 6)⟩,
  ⟨some 51, some (49, false), .lenl (.t 50)⟩,
  ⟨some 52, some (49, false), .bin .gtr (.int .i64) true (.t 51) (.k (.int .i64 32))⟩,
  ⟨some 53, none, .pick (.t 49) (.k (.bool true)) (.t 52)⟩,
  ⟨some 54, none, .mv (.t 53)⟩,
  ⟨some 55, some (54, false), .fa 1 (.t 5)⟩,
  ⟨some 56, some (54, false), .ld none (.t 55)⟩,
  ⟨some 57, some (54, false), .call (.k (.fn (.func 65) [] [])) [.t 56]⟩,
  ⟨some 58, some (54, false), .un .not (.t 57)⟩,
  ⟨some 59, none, .pick (.t 54) (.k (.bool true)) (.t 58)⟩,
  ⟨some 60, none, .mv (.t 59)⟩,
  ⟨some 61, some (60, false), .fa 3 (.t 5)⟩,
  ⟨some 62, some (60, false), .ld none (.t 61)⟩,
  ⟨some 63, some (60, false), .call (.k (.fn (.func 66) [] [])) [.t 62]⟩,
  ⟨some 64, some (60, false), .un .not (.t 63)⟩,
  ⟨some 65, none, .pick (.t 60) (.k (.bool true)) (.t 64)⟩,
  ⟨some 66, none, .mv (.t 65)⟩,
  ⟨some 67, some (66, false), .fa 2 (.t 5)⟩,
  ⟨some 68, some (66, false), .ld none (.t 67)⟩,
  ⟨some 69, some (66, false), .call (.k (.fn (.func 29) [] [])) [.t 68]⟩,
  ⟨some 70, some (66, false), .un .not (.t 69)⟩,
  ⟨some 71, none, .pick (.t 66) (.k (.bool true)) (.t 70)⟩]) (.cond (.t 71) (.seq (.ops [⟨some 2, none, .mv (.k (.bool false))⟩]) (.ret)) (.skip))) (.seq (.seq (.ops [⟨some 72, none, .mv (.t 4)⟩,
  ⟨some 73, none, .bin .gtr (.int .i64) true (.t 72) (.k (.int .i64 0))⟩,
  ⟨some 74, none, .mv (.t 73)⟩,
  ⟨some 75, some (74, true), .mv (.t 0)⟩,
  ⟨some 76, some (74, true), .fa 0 (.t 5)⟩,
  ⟨some 77, some (74, true), .ld none (.t 76)⟩,
  ⟨some 78, some (74, true), .ixs 4 (.t 75) (.t 77)⟩,
  ⟨some 79, some (74, true), .fa 2 (.t 78)⟩,
  ⟨some 80, some (74, true), .ld none (.t 79)⟩,
  ⟨some 81, some (74, true), .bin .neq (.str) true (.t 80) (.k (.str []))⟩,
  ⟨some 82, none, .pick (.t 74) (.t 81) (.k (.bool false))⟩]) (.cond (.t 82) (.seq (.ops [⟨some 2, none, .mv (.k (.bool false))⟩]) (.ret)) (.skip))) (.ops [⟨some 83, none, .mv (.t 6)⟩,
  ⟨some 84, none, .mv (.t 4)⟩,
  ⟨some 85, none, .mks 3 1 [.int .i64 0] 1 [(0, .t 84)]⟩,
  ⟨some 86, none, .app 3 1 8 (.t 83) (.t 85)⟩,
  ⟨some 3, none, .mv (.t 86)⟩])))))) (.ops [⟨some 87, none, .bin .add (.int .i64) true (.t 26) (.k (.int .i64 1))⟩,
  ⟨some 26, none, .mv (.t 87)⟩])))
def l42_0 : CC := l42_0b
theorem l42_0x (P : Program) (T : TT) (G : GT) (Q : EQ) (t : Env) (σ : St) : aC P T G l42_0 Q t σ = aC P T G l42_0b Q t σ := rfl
/-- comptoir/canon.Right -/
def c42 : CF := ⟨88, [.t 2], .seq (.ops [⟨some 2, none, .mv (.k (.bool false))⟩]) (.seq (.seq (.ops [⟨some 8, none, .mv (.t 0)⟩,
  ⟨some 9, none, .lenl (.t 8)⟩,
  ⟨some 10, none, .bin .eql (.int .i64) true (.t 9) (.k (.int .i64 0))⟩,
  ⟨some 11, none, .mv (.t 10)⟩,
  ⟨some 12, some (11, false), .mv (.t 0)⟩,
  ⟨some 13, some (11, false), .lenl (.t 12)⟩,
  ⟨some 14, some (11, false), .bin .gtr (.int .i64) true (.t 13) (.k (.int .i64 500))⟩,
  ⟨some 15, none, .pick (.t 11) (.k (.bool true)) (.t 14)⟩,
  ⟨some 16, none, .mv (.t 15)⟩,
  ⟨some 17, some (16, false), .mv (.t 0)⟩,
  ⟨some 18, some (16, false), .ixs 4 (.t 17) (.k (.int .i64 0))⟩,
  ⟨some 19, some (16, false), .fa 0 (.t 18)⟩,
  ⟨some 20, some (16, false), .ld none (.t 19)⟩,
  ⟨some 21, some (16, false), .bin .neq (.int .i64) true (.t 20) (.k (.int .i64 (-1)))⟩,
  ⟨some 22, none, .pick (.t 16) (.k (.bool true)) (.t 21)⟩]) (.cond (.t 22) (.seq (.ops [⟨some 2, none, .mv (.k (.bool false))⟩]) (.ret)) (.skip))) (.seq (.ops [⟨some 23, none, .mks 3 1 [.int .i64 0] 1 [(0, .k (.int .i64 (-1)))]⟩,
  ⟨some 3, none, .mv (.t 23)⟩]) (.seq (.seq (.ops [⟨some 24, none, .mv (.t 0)⟩,
  ⟨some 25, none, .lenl (.t 24)⟩,
  ⟨some 26, none, .mv (.k (.int .i64 0))⟩]) (.block 0 (.loop l42_0))) (.seq (.ops [⟨some 2, none, .mv (.k (.bool true))⟩]) (.ret)))))⟩
theorem fk42 (G : GT) : FOk Tryz.prog tt G 42 c42 := ⟨_, Tryz.func42, by kernel_rfl⟩
def l43_0b : CC := .seq (.ops [⟨some 24, none, .bin .lss (.int .i64) false (.t 23) (.t 22)⟩]) (.seq (.cond (.t 24) (.skip) (.exit 0)) (.seq (.block 1 (.seq (.ops [⟨some 25, none, .ixs 2 (.t 21) (.t 23)⟩,
  ⟨some 26, none, .ld (some 2) (.t 25)⟩,
  ⟨some 6, none, .alloc 64 [.str [], .str []]⟩,
  ⟨none, none, .st 2 (.t 6) (.t 26)⟩]) (.mix (.q 0 ⟨some 27, none, .mv (.t 0)⟩ (.q 1 ⟨some 28, none, .fa 0 (.t 6)⟩ (.q 1 ⟨some 29, none, .ld none (.t 28)⟩ (.q 1 ⟨some 30, none, .fa 1 (.t 6)⟩ (.q 1 ⟨some 31, none, .ld none (.t 30)⟩ (.e ⟨some 32, none, .call (.k (.fn (.func 68) [] [])) [.t 31]⟩ (.f ⟨some 33, none, .mks 9 1 [.str []] 5 [(0, .k (.str [32])), (1, .t 29), (2, .k (.str [61, 34])), (3, .t 32), (4, .k (.str [34]))]⟩ (.f ⟨some 34, none, .call (.k (.fn (.func 67) [] [])) [.t 27, .t 33]⟩ (.done)))))))))))) (.ops [⟨some 35, none, .bin .add (.int .i64) true (.t 23) (.k (.int .i64 1))⟩,
  ⟨some 23, none, .mv (.t 35)⟩])))
def l43_0 : CC := l43_0b
theorem l43_0x (P : Program) (T : TT) (G : GT) (Q : EQ) (t : Env) (σ : St) : aC P T G l43_0 Q t σ = aC P T G l43_0b Q t σ := rfl
/-- (*comptoir/canon.writer).node -/
def c43 : CF := ⟨68, [], .seq (.ops [⟨some 8, none, .mv (.t 0)⟩,
  ⟨some 9, none, .nilc (.t 8)⟩,
  ⟨some 10, none, .fa 0 (.t 9)⟩,
  ⟨some 11, none, .ld none (.t 10)⟩,
  ⟨some 12, none, .mv (.t 1)⟩,
  ⟨some 13, none, .ixs 4 (.t 11) (.t 12)⟩,
  ⟨some 14, none, .ld (some 4) (.t 13)⟩,
  ⟨some 4, none, .alloc 40 [.int .i64 0, .str [], .str [], .nils]⟩,
  ⟨none, none, .st 4 (.t 4) (.t 14)⟩]) (.seq (.ops [⟨some 15, none, .mv (.t 0)⟩,
  ⟨some 16, none, .fa 1 (.t 4)⟩,
  ⟨some 17, none, .ld none (.t 16)⟩,
  ⟨some 18, none, .mks 9 1 [.str []] 2 [(0, .k (.str [60])), (1, .t 17)]⟩,
  ⟨some 19, none, .call (.k (.fn (.func 67) [] [])) [.t 15, .t 18]⟩]) (.seq (.seq (.ops [⟨some 20, none, .fa 3 (.t 4)⟩,
  ⟨some 21, none, .ld none (.t 20)⟩,
  ⟨some 22, none, .lenl (.t 21)⟩,
  ⟨some 23, none, .mv (.k (.int .i64 0))⟩]) (.block 0 (.loop l43_0))) (.seq (.ops [⟨some 36, none, .mv (.t 0)⟩,
  ⟨some 37, none, .nilc (.t 36)⟩,
  ⟨some 38, none, .fa 0 (.t 37)⟩,
  ⟨some 39, none, .ld none (.t 38)⟩,
  ⟨some 40, none, .mv (.t 1)⟩,
  ⟨some 41, none, .call (.k (.fn (.func 24) [] [])) [.t 39, .t 40]⟩,
  ⟨some 7, none, .mv (.t 41)⟩]) (.seq (.seq (.ops [⟨some 42, none, .fa 2 (.t 4)⟩,
  ⟨some 43, none, .ld none (.t 42)⟩,
  ⟨some 44, none, .bin .eql (.str) true (.t 43) (.k (.str []))⟩,
  ⟨some 45, none, .mv (.t 44)⟩,
  ⟨some 46, some (45, true), .mv (.t 7)⟩,
  ⟨some 47, some (45, true), .lenl (.t 46)⟩,
  ⟨some 48, some (45, true), .bin .eql (.int .i64) true (.t 47) (.k (.int .i64 0))⟩,
  ⟨some 49, none, .pick (.t 45) (.t 48) (.k (.bool false))⟩]) (.cond (.t 49) (.seq (.ops [⟨some 50, none, .mv (.t 0)⟩,
  ⟨some 51, none, .mks 9 1 [.str []] 1 [(0, .k (.str [47, 62]))]⟩,
  ⟨some 52, none, .call (.k (.fn (.func 67) [] [])) [.t 50, .t 51]⟩]) (.ret)) (.skip))) (.seq (.ops [⟨some 53, none, .mv (.t 0)⟩,
  ⟨some 54, none, .fa 2 (.t 4)⟩,
  ⟨some 55, none, .ld none (.t 54)⟩,
  ⟨some 56, none, .call (.k (.fn (.func 68) [] [])) [.t 55]⟩,
  ⟨some 57, none, .mks 9 1 [.str []] 2 [(0, .k (.str [62])), (1, .t 56)]⟩,
  ⟨some 58, none, .call (.k (.fn (.func 67) [] [])) [.t 53, .t 57]⟩]) (.seq (.ops [⟨some 59, none, .mv (.t 7)⟩,
  ⟨some 60, none, .mv (.t 0)⟩,
  ⟨some 61, none, .mkf (.func 43) [.t 60] []⟩,
  ⟨some 62, none, .call (.k (.fn (.func 69) [] [])) [.t 59, .t 61]⟩]) (.ops [⟨some 63, none, .mv (.t 0)⟩,
  ⟨some 64, none, .fa 1 (.t 4)⟩,
  ⟨some 65, none, .ld none (.t 64)⟩,
  ⟨some 66, none, .mks 9 1 [.str []] 3 [(0, .k (.str [60, 47])), (1, .t 65), (2, .k (.str [62]))]⟩,
  ⟨some 67, none, .call (.k (.fn (.func 67) [] [])) [.t 63, .t 66]⟩])))))))⟩
theorem fk43 (G : GT) : FOk Tryz.prog tt G 43 c43 := ⟨_, Tryz.func43, by kernel_rfl⟩
/-- comptoir/text.Utf8$1 -/
def c47 : CF := ⟨6, [.t 2], .seq (.ops [⟨some 2, none, .mv (.k (.bool false))⟩]) (.seq (.ops [⟨some 3, none, .mv (.t 0)⟩,
  ⟨some 4, none, .call (.k (.fn (.func 48) [] [])) [.t 3]⟩,
  ⟨some 5, none, .un .not (.t 4)⟩,
  ⟨some 2, none, .mv (.t 5)⟩]) (.ret))⟩
theorem fk47 (G : GT) : FOk Tryz.prog tt G 47 c47 := ⟨_, Tryz.func47, by kernel_rfl⟩
/-- comptoir/text.may -/
def c48 : CF := ⟨25, [.t 2], .seq (.ops [⟨some 2, none, .mv (.k (.bool false))⟩]) (.seq (.ops [⟨some 3, none, .mv (.t 0)⟩,
  ⟨some 4, none, .bin .eql (.int .i32) true (.t 3) (.k (.int .i32 9))⟩,
  ⟨some 5, none, .mv (.t 4)⟩,
  ⟨some 6, some (5, false), .mv (.t 0)⟩,
  ⟨some 7, some (5, false), .bin .eql (.int .i32) true (.t 6) (.k (.int .i32 10))⟩,
  ⟨some 8, none, .pick (.t 5) (.k (.bool true)) (.t 7)⟩,
  ⟨some 9, none, .mv (.t 8)⟩,
  ⟨some 10, some (9, false), .mv (.t 0)⟩,
  ⟨some 11, some (9, false), .bin .eql (.int .i32) true (.t 10) (.k (.int .i32 13))⟩,
  ⟨some 12, none, .pick (.t 9) (.k (.bool true)) (.t 11)⟩,
  ⟨some 13, none, .mv (.t 12)⟩,
  ⟨some 14, some (13, false), .mv (.t 0)⟩,
  ⟨some 15, some (13, false), .bin .geq (.int .i32) true (.t 14) (.k (.int .i32 32))⟩,
  ⟨some 16, some (13, false), .mv (.t 15)⟩,
  ⟨some 17, some (16, true), .mv (.t 0)⟩,
  ⟨some 18, some (16, true), .bin .neq (.int .i32) true (.t 17) (.k (.int .i32 65534))⟩,
  ⟨some 19, some (13, false), .pick (.t 16) (.t 18) (.k (.bool false))⟩,
  ⟨some 20, some (13, false), .mv (.t 19)⟩,
  ⟨some 21, some (20, true), .mv (.t 0)⟩,
  ⟨some 22, some (20, true), .bin .neq (.int .i32) true (.t 21) (.k (.int .i32 65535))⟩,
  ⟨some 23, some (13, false), .pick (.t 20) (.t 22) (.k (.bool false))⟩,
  ⟨some 24, none, .pick (.t 13) (.k (.bool true)) (.t 23)⟩,
  ⟨some 2, none, .mv (.t 24)⟩]) (.ret))⟩
theorem fk48 (G : GT) : FOk Tryz.prog tt G 48 c48 := ⟨_, Tryz.func48, by kernel_rfl⟩
/-- (*comptoir/token.walk).end -/
def c50 : CF := ⟨18, [.c 2 (some 5), .t 3], .seq (.ops [⟨some 2, none, .alloc 30 [.int .i64 0, .str [], .str [], .nils, .bool false]⟩,
  ⟨some 3, none, .mv (.k (.bool false))⟩]) (.seq (.ops [⟨some 5, none, .mv (.t 0)⟩,
  ⟨some 6, none, .call (.k (.fn (.func 73) [] [])) [.t 5]⟩,
  ⟨some 7, none, .mk [.int .i64 0, .str [], .str [], .nils, .bool false] [(0, 1, .k (.int .i64 2)), (1, 1, .t 6)]⟩,
  ⟨some 4, none, .alloc 30 [.int .i64 0, .str [], .str [], .nils, .bool false]⟩,
  ⟨none, none, .st 5 (.t 4) (.t 7)⟩]) (.seq (.ops [⟨some 8, none, .mv (.t 0)⟩,
  ⟨some 9, none, .call (.k (.fn (.func 74) [] [])) [.t 8, .k (.str [9, 10, 13, 32])]⟩]) (.seq (.mix (.q 1 ⟨some 10, none, .ld (some 5) (.t 4)⟩ (.q 1 ⟨some 11, none, .fa 1 (.t 4)⟩ (.q 1 ⟨some 12, none, .ld none (.t 11)⟩ (.q 0 ⟨some 13, none, .bin .neq (.str) true (.t 12) (.k (.str []))⟩ (.q 0 ⟨some 14, none, .mv (.t 13)⟩ (.q 0 ⟨some 15, some (14, true), .mv (.t 0)⟩ (.e ⟨some 16, some (14, true), .call (.k (.fn (.func 30) [] [])) [.t 15, .k (.str [62])]⟩ (.q 0 ⟨some 17, none, .pick (.t 14) (.t 16) (.k (.bool false))⟩ (.f ⟨none, none, .st 5 (.t 2) (.t 10)⟩ (.q 0 ⟨some 3, none, .mv (.t 17)⟩ (.done)))))))))))) (.ret))))⟩
theorem fk50 (G : GT) : FOk Tryz.prog tt G 50 c50 := ⟨_, Tryz.func50, by kernel_rfl⟩
def l51_0b : CC := .seq (.seq (.ops [⟨some 11, none, .fa 1 (.t 4)⟩,
  ⟨some 12, none, .ld none (.t 11)⟩,
  ⟨some 13, none, .bin .neq (.str) true (.t 12) (.k (.str []))⟩]) (.cond (.t 13) (.skip) (.exit 0))) (.block 1 (.seq (.ops [⟨some 14, none, .mv (.t 0)⟩,
  ⟨some 15, none, .call (.k (.fn (.func 74) [] [])) [.t 14, .k (.str [9, 10, 13, 32])]⟩,
  ⟨some 5, none, .mv (.t 15)⟩]) (.seq (.seq (.ops [⟨some 16, none, .mv (.t 0)⟩,
  ⟨some 17, none, .call (.k (.fn (.func 30) [] [])) [.t 16, .k (.str [62])]⟩]) (.cond (.t 17) (.seq (.ops [⟨some 18, none, .ld (some 5) (.t 4)⟩,
  ⟨none, none, .st 5 (.t 2) (.t 18)⟩,
  ⟨some 3, none, .mv (.k (.bool true))⟩]) (.ret)) (.skip))) (.seq (.seq (.ops [⟨some 19, none, .mv (.t 0)⟩,
  ⟨some 20, none, .call (.k (.fn (.func 30) [] [])) [.t 19, .k (.str [47, 62])]⟩]) (.cond (.t 20) (.seq (.ops [⟨some 21, none, .fa 4 (.t 4)⟩,
  ⟨none, none, .st 1 (.t 21) (.k (.bool true))⟩]) (.seq (.ops [⟨some 22, none, .ld (some 5) (.t 4)⟩,
  ⟨none, none, .st 5 (.t 2) (.t 22)⟩,
  ⟨some 3, none, .mv (.k (.bool true))⟩]) (.ret))) (.skip))) (.seq (.ops [⟨some 24, none, .mv (.t 0)⟩,
  ⟨some 25, none, .call (.k (.fn (.func 75) [] [])) [.t 24]⟩,
  ⟨some 23, none, .mv (.t 25)⟩,
  ⟨some 26, none, .ex (.t 23) 0⟩,
  ⟨some 27, none, .ex (.t 23) 1⟩,
  ⟨some 6, none, .alloc 64 [.str [], .str []]⟩,
  ⟨none, none, .st 2 (.t 6) (.t 26)⟩,
  ⟨some 7, none, .mv (.t 27)⟩]) (.seq (.seq (.ops [⟨some 28, none, .mv (.t 5)⟩,
  ⟨some 29, none, .bin .eql (.str) true (.t 28) (.k (.str []))⟩,
  ⟨some 30, none, .mv (.t 29)⟩,
  ⟨some 31, some (30, false), .mv (.t 7)⟩,
  ⟨some 32, some (30, false), .un .not (.t 31)⟩,
  ⟨some 33, none, .pick (.t 30) (.k (.bool true)) (.t 32)⟩,
  ⟨some 34, none, .mv (.t 33)⟩,
  ⟨some 35, some (34, false), .fa 3 (.t 4)⟩,
  ⟨some 36, some (34, false), .ld none (.t 35)⟩,
  ⟨some 37, some (34, false), .mkf (.func 77) [] [.t 6]⟩,
  ⟨some 38, some (34, false), .call (.k (.fn (.func 76) [] [])) [.t 36, .t 37]⟩,
  ⟨some 39, none, .pick (.t 34) (.k (.bool true)) (.t 38)⟩]) (.cond (.t 39) (.seq (.ops [⟨some 40, none, .ld (some 5) (.t 4)⟩,
  ⟨none, none, .st 5 (.t 2) (.t 40)⟩,
  ⟨some 3, none, .mv (.k (.bool false))⟩]) (.ret)) (.skip))) (.ops [⟨some 41, none, .fa 3 (.t 4)⟩,
  ⟨some 42, none, .ld none (.t 41)⟩,
  ⟨some 43, none, .ld (some 2) (.t 6)⟩,
  ⟨some 44, none, .mks 64 2 [.str [], .str []] 1 [(0, .t 43)]⟩,
  ⟨some 45, none, .app 64 2 32 (.t 42) (.t 44)⟩,
  ⟨some 46, none, .fa 3 (.t 4)⟩,
  ⟨none, none, .st 1 (.t 46) (.t 45)⟩])))))))
def l51_0 : CC := l51_0b
theorem l51_0x (P : Program) (T : TT) (G : GT) (Q : EQ) (t : Env) (σ : St) : aC P T G l51_0 Q t σ = aC P T G l51_0b Q t σ := rfl
/-- (*comptoir/token.walk).open -/
def c51 : CF := ⟨48, [.c 2 (some 5), .t 3], .seq (.ops [⟨some 2, none, .alloc 30 [.int .i64 0, .str [], .str [], .nils, .bool false]⟩,
  ⟨some 3, none, .mv (.k (.bool false))⟩]) (.seq (.ops [⟨some 8, none, .mv (.t 0)⟩,
  ⟨some 9, none, .call (.k (.fn (.func 73) [] [])) [.t 8]⟩,
  ⟨some 10, none, .mk [.int .i64 0, .str [], .str [], .nils, .bool false] [(0, 1, .k (.int .i64 1)), (1, 1, .t 9)]⟩,
  ⟨some 4, none, .alloc 30 [.int .i64 0, .str [], .str [], .nils, .bool false]⟩,
  ⟨none, none, .st 5 (.t 4) (.t 10)⟩]) (.seq (.block 0 (.loop l51_0)) (.seq (.ops [⟨some 47, none, .ld (some 5) (.t 4)⟩,
  ⟨none, none, .st 5 (.t 2) (.t 47)⟩,
  ⟨some 3, none, .mv (.k (.bool false))⟩]) (.ret))))⟩
theorem fk51 (G : GT) : FOk Tryz.prog tt G 51 c51 := ⟨_, Tryz.func51, by kernel_rfl⟩
/-- (*comptoir/token.walk).plain -/
def c52 : CF := ⟨43, [.c 2 (some 5), .t 3], .seq (.ops [⟨some 2, none, .alloc 30 [.int .i64 0, .str [], .str [], .nils, .bool false]⟩,
  ⟨some 3, none, .mv (.k (.bool false))⟩]) (.seq (.ops [⟨some 8, none, .mv (.t 0)⟩,
  ⟨some 9, none, .nilc (.t 8)⟩,
  ⟨some 10, none, .fa 0 (.t 9)⟩,
  ⟨some 11, none, .ld none (.t 10)⟩,
  ⟨some 12, none, .call (.k (.fn (.func 78) [] [])) [.t 11, .k (.int .u8 60)]⟩,
  ⟨some 4, none, .mv (.t 12)⟩]) (.seq (.seq (.ops [⟨some 13, none, .mv (.t 4)⟩,
  ⟨some 14, none, .bin .lss (.int .i64) true (.t 13) (.k (.int .i64 0))⟩]) (.cond (.t 14) (.ops [⟨some 15, none, .mv (.t 0)⟩,
  ⟨some 16, none, .nilc (.t 15)⟩,
  ⟨some 17, none, .fa 0 (.t 16)⟩,
  ⟨some 18, none, .ld none (.t 17)⟩,
  ⟨some 19, none, .lens (.t 18)⟩,
  ⟨some 4, none, .mv (.t 19)⟩]) (.skip))) (.seq (.ops [⟨some 20, none, .mv (.t 0)⟩,
  ⟨some 21, none, .nilc (.t 20)⟩,
  ⟨some 22, none, .fa 0 (.t 21)⟩,
  ⟨some 23, none, .ld none (.t 22)⟩,
  ⟨some 24, none, .mv (.t 4)⟩,
  ⟨some 25, none, .slstr (.t 23) none (some (.t 24))⟩,
  ⟨some 5, none, .mv (.t 25)⟩]) (.seq (.ops [⟨some 26, none, .mv (.t 0)⟩,
  ⟨some 27, none, .mv (.t 0)⟩,
  ⟨some 28, none, .nilc (.t 27)⟩,
  ⟨some 29, none, .fa 0 (.t 28)⟩,
  ⟨some 30, none, .ld none (.t 29)⟩,
  ⟨some 31, none, .mv (.t 4)⟩,
  ⟨some 32, none, .slstr (.t 30) (some (.t 31)) none⟩,
  ⟨some 33, none, .nilc (.t 26)⟩,
  ⟨some 34, none, .fa 0 (.t 33)⟩,
  ⟨none, none, .st 1 (.t 34) (.t 32)⟩]) (.seq (.ops [⟨some 36, none, .mv (.t 5)⟩,
  ⟨some 37, none, .call (.k (.fn (.func 79) [] [])) [.t 36]⟩,
  ⟨some 35, none, .mv (.t 37)⟩,
  ⟨some 38, none, .ex (.t 35) 0⟩,
  ⟨some 39, none, .ex (.t 35) 1⟩,
  ⟨some 6, none, .mv (.t 38)⟩,
  ⟨some 7, none, .mv (.t 39)⟩]) (.seq (.ops [⟨some 40, none, .mv (.t 6)⟩,
  ⟨some 41, none, .mk [.int .i64 0, .str [], .str [], .nils, .bool false] [(0, 1, .k (.int .i64 3)), (2, 1, .t 40)]⟩,
  ⟨some 42, none, .mv (.t 7)⟩,
  ⟨none, none, .st 5 (.t 2) (.t 41)⟩,
  ⟨some 3, none, .mv (.t 42)⟩]) (.ret)))))))⟩
theorem fk52 (G : GT) : FOk Tryz.prog tt G 52 c52 := ⟨_, Tryz.func52, by kernel_rfl⟩
def l58_0b : CC := .seq (.seq (.ops [⟨some 13, none, .mv (.t 7)⟩,
  ⟨some 14, none, .mv (.t 0)⟩,
  ⟨some 15, none, .lenl (.t 14)⟩,
  ⟨some 16, none, .bin .lss (.int .i64) false (.t 13) (.t 15)⟩]) (.cond (.t 16) (.skip) (.exit 0))) (.seq (.block 1 (.seq (.mix (.q 0 ⟨some 19, none, .mv (.t 2)⟩ (.q 0 ⟨some 20, none, .mv (.t 0)⟩ (.q 0 ⟨some 21, none, .mv (.t 7)⟩ (.q 1 ⟨some 22, none, .ixs 2 (.t 20) (.t 21)⟩ (.q 1 ⟨some 23, none, .ld (some 2) (.t 22)⟩ (.q 0 ⟨some 24, none, .mv (.t 1)⟩ (.q 0 ⟨some 25, none, .mv (.t 7)⟩ (.q 1 ⟨some 26, none, .ixs 2 (.t 24) (.t 25)⟩ (.q 1 ⟨some 27, none, .ld (some 2) (.t 26)⟩ (.f ⟨some 28, none, .call (.t 19) [.t 23, .t 27]⟩ (.q 0 ⟨some 29, none, .un .not (.t 28)⟩ (.done))))))))))))) (.cond (.t 29) (.seq (.ops [⟨some 6, none, .mv (.k (.bool false))⟩]) (.ret)) (.skip)))) (.ops [⟨some 17, none, .mv (.t 7)⟩,
  ⟨some 18, none, .bin .add (.int .i64) true (.t 17) (.k (.int .i64 1))⟩,
  ⟨some 7, none, .mv (.t 18)⟩]))
def l58_0 : CC := l58_0b
theorem l58_0x (P : Program) (T : TT) (G : GT) (Q : EQ) (t : Env) (σ : St) : aC P T G l58_0 Q t σ = aC P T G l58_0b Q t σ := rfl
/-- comptoir/comptoirhelp.Same[comptoir/api.Attr] -/
def c58 : CF := ⟨30, [.t 6], .seq (.ops [⟨some 6, none, .mv (.k (.bool false))⟩]) (.seq (.seq (.ops [⟨some 8, none, .mv (.t 0)⟩,
  ⟨some 9, none, .lenl (.t 8)⟩,
  ⟨some 10, none, .mv (.t 1)⟩,
  ⟨some 11, none, .lenl (.t 10)⟩,
  ⟨some 12, none, .bin .neq (.int .i64) false (.t 9) (.t 11)⟩]) (.cond (.t 12) (.seq (.ops [⟨some 6, none, .mv (.k (.bool false))⟩]) (.ret)) (.skip))) (.seq (.seq (.ops [⟨some 7, none, .mv (.k (.int .i64 0))⟩]) (.block 0 (.loop l58_0))) (.seq (.ops [⟨some 6, none, .mv (.k (.bool true))⟩]) (.ret))))⟩
theorem fk58 (G : GT) : FOk Tryz.prog tt G 58 c58 := ⟨_, Tryz.func58, by kernel_rfl⟩
/-- (*comptoir/tree.build).begin -/
def c60 : CF := ⟨87, [.t 4], .seq (.ops [⟨some 3, none, .box 30 (.t 1)⟩,
  ⟨some 4, none, .mv (.k (.int .i64 0))⟩]) (.seq (.ops [⟨some 6, none, .mv (.t 0)⟩,
  ⟨some 7, none, .call (.k (.fn (.func 85) [] [])) [.t 6]⟩,
  ⟨some 5, none, .mv (.t 7)⟩]) (.seq (.block 0 (.seq (.ops [⟨some 9, none, .fa 1 (.t 3)⟩,
  ⟨some 10, none, .ld none (.t 9)⟩,
  ⟨some 11, none, .bin .eql (.str) true (.t 10) (.k (.str []))⟩,
  ⟨some 8, none, .mv (.t 11)⟩]) (.cond (.t 8) (.seq (.ops [⟨some 4, none, .mv (.k (.int .i64 9))⟩]) (.ret)) (.seq (.ops [⟨some 13, none, .mv (.t 5)⟩,
  ⟨some 14, none, .bin .lss (.int .i64) true (.t 13) (.k (.int .i64 0))⟩,
  ⟨some 15, none, .mv (.t 14)⟩,
  ⟨some 16, some (15, true), .mv (.t 0)⟩,
  ⟨some 17, some (15, true), .nilc (.t 16)⟩,
  ⟨some 18, some (15, true), .fa 0 (.t 17)⟩,
  ⟨some 19, some (15, true), .ld none (.t 18)⟩,
  ⟨some 20, some (15, true), .lenl (.t 19)⟩,
  ⟨some 21, some (15, true), .bin .gtr (.int .i64) true (.t 20) (.k (.int .i64 0))⟩,
  ⟨some 22, none, .pick (.t 15) (.t 21) (.k (.bool false))⟩,
  ⟨some 12, none, .mv (.t 22)⟩]) (.cond (.t 12) (.seq (.ops [⟨some 4, none, .mv (.k (.int .i64 10))⟩]) (.ret)) (.seq (.ops [⟨some 24, none, .mv (.t 0)⟩,
  ⟨some 25, none, .nilc (.t 24)⟩,
  ⟨some 26, none, .fa 1 (.t 25)⟩,
  ⟨some 27, none, .ld none (.t 26)⟩,
  ⟨some 28, none, .lenl (.t 27)⟩,
  ⟨some 29, none, .bin .geq (.int .i64) true (.t 28) (.k (.int .i64 32))⟩,
  ⟨some 23, none, .mv (.t 29)⟩]) (.cond (.t 23) (.seq (.ops [⟨some 4, none, .mv (.k (.int .i64 11))⟩]) (.ret)) (.seq (.ops [⟨some 31, none, .mv (.t 0)⟩,
  ⟨some 32, none, .nilc (.t 31)⟩,
  ⟨some 33, none, .fa 0 (.t 32)⟩,
  ⟨some 34, none, .ld none (.t 33)⟩,
  ⟨some 35, none, .lenl (.t 34)⟩,
  ⟨some 36, none, .bin .geq (.int .i64) true (.t 35) (.k (.int .i64 500))⟩,
  ⟨some 30, none, .mv (.t 36)⟩]) (.cond (.t 30) (.seq (.ops [⟨some 4, none, .mv (.k (.int .i64 4))⟩]) (.ret)) (.skip)))))))))) (.seq (.seq (.ops [⟨some 37, none, .mv (.t 5)⟩,
  ⟨some 38, none, .bin .geq (.int .i64) true (.t 37) (.k (.int .i64 0))⟩]) (.cond (.t 38) (.ops [⟨some 39, none, .mv (.t 0)⟩,
  ⟨some 40, none, .nilc (.t 39)⟩,
  ⟨some 41, none, .fa 2 (.t 40)⟩,
  ⟨some 42, none, .ld none (.t 41)⟩,
  ⟨some 43, none, .mv (.t 5)⟩,
  ⟨some 44, none, .ixs 1 (.t 42) (.t 43)⟩,
  ⟨none, none, .st 1 (.t 44) (.k (.bool true))⟩]) (.skip))) (.seq (.seq (.ops [⟨some 45, none, .fa 4 (.t 3)⟩,
  ⟨some 46, none, .ld none (.t 45)⟩,
  ⟨some 47, none, .un .not (.t 46)⟩]) (.cond (.t 47) (.mix (.q 0 ⟨some 48, none, .mv (.t 0)⟩ (.q 0 ⟨some 49, none, .mv (.t 0)⟩ (.q 1 ⟨some 50, none, .nilc (.t 49)⟩ (.q 1 ⟨some 51, none, .fa 1 (.t 50)⟩ (.q 1 ⟨some 52, none, .ld none (.t 51)⟩ (.q 0 ⟨some 53, none, .mv (.t 0)⟩ (.q 1 ⟨some 54, none, .nilc (.t 53)⟩ (.q 1 ⟨some 55, none, .fa 0 (.t 54)⟩ (.q 1 ⟨some 56, none, .ld none (.t 55)⟩ (.q 0 ⟨some 57, none, .lenl (.t 56)⟩ (.e ⟨some 58, none, .mks 3 1 [.int .i64 0] 1 [(0, .t 57)]⟩ (.f ⟨some 59, none, .app 3 1 8 (.t 52) (.t 58)⟩ (.q 1 ⟨some 60, none, .nilc (.t 48)⟩ (.q 1 ⟨some 61, none, .fa 1 (.t 60)⟩ (.f ⟨none, none, .st 1 (.t 61) (.t 59)⟩ (.done))))))))))))))))) (.skip))) (.seq (.mix (.q 0 ⟨some 62, none, .mv (.t 0)⟩ (.q 0 ⟨some 63, none, .mv (.t 0)⟩ (.q 1 ⟨some 64, none, .nilc (.t 63)⟩ (.q 1 ⟨some 65, none, .fa 0 (.t 64)⟩ (.q 1 ⟨some 66, none, .ld none (.t 65)⟩ (.q 0 ⟨some 67, none, .mv (.t 5)⟩ (.q 1 ⟨some 68, none, .fa 1 (.t 3)⟩ (.q 1 ⟨some 69, none, .ld none (.t 68)⟩ (.q 1 ⟨some 70, none, .fa 3 (.t 3)⟩ (.q 1 ⟨some 71, none, .ld none (.t 70)⟩ (.e ⟨some 72, none, .call (.k (.fn (.func 86) [] [])) [.t 71]⟩ (.q 0 ⟨some 73, none, .mk [.int .i64 0, .str [], .str [], .nils] [(0, 1, .t 67), (1, 1, .t 69), (3, 1, .t 72)]⟩ (.e ⟨some 74, none, .mks 40 4 [.int .i64 0, .str [], .str [], .nils] 1 [(0, .t 73)]⟩ (.f ⟨some 75, none, .app 40 4 64 (.t 66) (.t 74)⟩ (.q 1 ⟨some 76, none, .nilc (.t 62)⟩ (.q 1 ⟨some 77, none, .fa 0 (.t 76)⟩ (.f ⟨none, none, .st 1 (.t 77) (.t 75)⟩ (.done))))))))))))))))))) (.seq (.ops [⟨some 78, none, .mv (.t 0)⟩,
  ⟨some 79, none, .mv (.t 0)⟩,
  ⟨some 80, none, .nilc (.t 79)⟩,
  ⟨some 81, none, .fa 2 (.t 80)⟩,
  ⟨some 82, none, .ld none (.t 81)⟩,
  ⟨some 83, none, .mks 4 1 [.bool false] 1 [(0, .k (.bool false))]⟩,
  ⟨some 84, none, .app 4 1 1 (.t 82) (.t 83)⟩,
  ⟨some 85, none, .nilc (.t 78)⟩,
  ⟨some 86, none, .fa 2 (.t 85)⟩,
  ⟨none, none, .st 1 (.t 86) (.t 84)⟩]) (.seq (.ops [⟨some 4, none, .mv (.k (.int .i64 0))⟩]) (.ret))))))))⟩
theorem fk60 (G : GT) : FOk Tryz.prog tt G 60 c60 := ⟨_, Tryz.func60, by kernel_rfl⟩
/-- (*comptoir/tree.build).end -/
def c61 : CF := ⟨37, [.t 4], .seq (.ops [⟨some 3, none, .box 30 (.t 1)⟩,
  ⟨some 4, none, .mv (.k (.int .i64 0))⟩]) (.seq (.seq (.ops [⟨some 6, none, .mv (.t 0)⟩,
  ⟨some 7, none, .call (.k (.fn (.func 85) [] [])) [.t 6]⟩,
  ⟨some 5, none, .mv (.t 7)⟩]) (.seq (.draw [⟨some 8, none, .mv (.t 5)⟩,
  ⟨some 9, none, .bin .lss (.int .i64) true (.t 8) (.k (.int .i64 0))⟩,
  ⟨some 10, none, .mv (.t 9)⟩,
  ⟨some 11, some (10, false), .mv (.t 0)⟩,
  ⟨some 12, some (10, false), .nilc (.t 11)⟩,
  ⟨some 13, some (10, false), .fa 0 (.t 12)⟩,
  ⟨some 14, some (10, false), .ld none (.t 13)⟩,
  ⟨some 15, some (10, false), .mv (.t 5)⟩,
  ⟨some 16, some (10, false), .ixs 4 (.t 14) (.t 15)⟩,
  ⟨some 17, some (10, false), .fa 1 (.t 16)⟩,
  ⟨some 18, some (10, false), .ld none (.t 17)⟩,
  ⟨some 19, some (10, false), .fa 1 (.t 3)⟩,
  ⟨some 20, some (10, false), .ld none (.t 19)⟩,
  ⟨some 21, some (10, false), .bin .neq (.str) false (.t 18) (.t 20)⟩,
  ⟨some 22, none, .pick (.t 10) (.k (.bool true)) (.t 21)⟩]) (.cond (.t 22) (.seq (.ops [⟨some 4, none, .mv (.k (.int .i64 10))⟩]) (.ret)) (.skip)))) (.seq (.mix (.q 0 ⟨some 23, none, .mv (.t 0)⟩ (.q 0 ⟨some 24, none, .mv (.t 0)⟩ (.q 1 ⟨some 25, none, .nilc (.t 24)⟩ (.q 1 ⟨some 26, none, .fa 1 (.t 25)⟩ (.q 1 ⟨some 27, none, .ld none (.t 26)⟩ (.q 0 ⟨some 28, none, .mv (.t 0)⟩ (.q 1 ⟨some 29, none, .nilc (.t 28)⟩ (.q 1 ⟨some 30, none, .fa 1 (.t 29)⟩ (.q 1 ⟨some 31, none, .ld none (.t 30)⟩ (.q 0 ⟨some 32, none, .lenl (.t 31)⟩ (.q 0 ⟨some 33, none, .bin .sub (.int .i64) true (.t 32) (.k (.int .i64 1))⟩ (.q 1 ⟨some 34, none, .sls 1 (.t 27) none (some (.t 33)) none⟩ (.q 1 ⟨some 35, none, .nilc (.t 23)⟩ (.q 1 ⟨some 36, none, .fa 1 (.t 35)⟩ (.f ⟨none, none, .st 1 (.t 36) (.t 34)⟩ (.done))))))))))))))))) (.seq (.ops [⟨some 4, none, .mv (.k (.int .i64 0))⟩]) (.ret))))⟩
theorem fk61 (G : GT) : FOk Tryz.prog tt G 61 c61 := ⟨_, Tryz.func61, by kernel_rfl⟩
/-- (*comptoir/tree.build).text -/
def c62 : CF := ⟨29, [.t 4], .seq (.ops [⟨some 3, none, .box 30 (.t 1)⟩,
  ⟨some 4, none, .mv (.k (.int .i64 0))⟩]) (.seq (.ops [⟨some 6, none, .mv (.t 0)⟩,
  ⟨some 7, none, .call (.k (.fn (.func 85) [] [])) [.t 6]⟩,
  ⟨some 5, none, .mv (.t 7)⟩]) (.seq (.block 0 (.seq (.ops [⟨some 9, none, .mv (.t 5)⟩,
  ⟨some 10, none, .bin .geq (.int .i64) true (.t 9) (.k (.int .i64 0))⟩,
  ⟨some 8, none, .mv (.t 10)⟩]) (.cond (.t 8) (.mix (.q 0 ⟨some 11, none, .mv (.t 0)⟩ (.q 1 ⟨some 12, none, .nilc (.t 11)⟩ (.q 1 ⟨some 13, none, .fa 0 (.t 12)⟩ (.q 1 ⟨some 14, none, .ld none (.t 13)⟩ (.q 0 ⟨some 15, none, .mv (.t 5)⟩ (.q 1 ⟨some 16, none, .ixs 4 (.t 14) (.t 15)⟩ (.q 1 ⟨some 17, none, .fa 2 (.t 16)⟩ (.q 1 ⟨some 18, none, .ld none (.t 17)⟩ (.q 1 ⟨some 19, none, .fa 2 (.t 3)⟩ (.q 1 ⟨some 20, none, .ld none (.t 19)⟩ (.q 0 ⟨some 21, none, .bin .add (.str) false (.t 18) (.t 20)⟩ (.q 1 ⟨some 22, none, .ixs 4 (.t 14) (.t 15)⟩ (.q 1 ⟨some 23, none, .fa 2 (.t 22)⟩ (.f ⟨none, none, .st 1 (.t 23) (.t 21)⟩ (.done)))))))))))))))) (.seq (.ops [⟨some 25, none, .fa 2 (.t 3)⟩,
  ⟨some 26, none, .ld none (.t 25)⟩,
  ⟨some 27, none, .call (.k (.fn (.func 63) [] [])) [.t 26]⟩,
  ⟨some 28, none, .un .not (.t 27)⟩,
  ⟨some 24, none, .mv (.t 28)⟩]) (.cond (.t 24) (.seq (.ops [⟨some 4, none, .mv (.k (.int .i64 10))⟩]) (.ret)) (.skip)))))) (.seq (.ops [⟨some 4, none, .mv (.k (.int .i64 0))⟩]) (.ret))))⟩
theorem fk62 (G : GT) : FOk Tryz.prog tt G 62 c62 := ⟨_, Tryz.func62, by kernel_rfl⟩
/-- comptoir/tree.blank -/
def c63 : CF := ⟨6, [.t 2], .seq (.ops [⟨some 2, none, .mv (.k (.bool false))⟩]) (.seq (.ops [⟨some 3, none, .mv (.t 0)⟩,
  ⟨some 4, none, .call (.k (.fn (.func 87) [] [])) [.t 3, .k (.str [9, 10, 13, 32])]⟩,
  ⟨some 5, none, .bin .eql (.str) true (.t 4) (.k (.str []))⟩,
  ⟨some 2, none, .mv (.t 5)⟩]) (.ret))⟩
theorem fk63 (G : GT) : FOk Tryz.prog tt G 63 c63 := ⟨_, Tryz.func63, by kernel_rfl⟩
/-- comptoir/canon.open -/
def c64 : CF := ⟨16, [.t 4, .t 5], .seq (.ops [⟨some 4, none, .mv (.k (.nils))⟩,
  ⟨some 5, none, .mv (.k (.bool false))⟩]) (.seq (.ops [⟨some 7, none, .mv (.t 0)⟩,
  ⟨some 8, none, .mv (.t 1)⟩,
  ⟨some 9, none, .call (.k (.fn (.func 88) [] [])) [.t 7, .t 8]⟩,
  ⟨some 6, none, .mv (.t 9)⟩]) (.seq (.ops [⟨some 10, none, .mv (.t 0)⟩,
  ⟨some 11, none, .mv (.t 6)⟩,
  ⟨some 12, none, .bin .add (.int .i64) true (.t 11) (.k (.int .i64 1))⟩,
  ⟨some 13, none, .sls 1 (.t 10) none (some (.t 12)) none⟩,
  ⟨some 14, none, .mv (.t 6)⟩,
  ⟨some 15, none, .bin .geq (.int .i64) true (.t 14) (.k (.int .i64 0))⟩,
  ⟨some 4, none, .mv (.t 13)⟩,
  ⟨some 5, none, .mv (.t 15)⟩]) (.ret)))⟩
theorem fk64 (G : GT) : FOk Tryz.prog tt G 64 c64 := ⟨_, Tryz.func64, by kernel_rfl⟩
/-- comptoir/canon.name -/
def c65 : CF := ⟨15, [.t 2], .seq (.ops [⟨some 2, none, .mv (.k (.bool false))⟩]) (.seq (.ops [⟨some 3, none, .mv (.t 0)⟩,
  ⟨some 4, none, .bin .neq (.str) true (.t 3) (.k (.str []))⟩,
  ⟨some 5, none, .mv (.t 4)⟩,
  ⟨some 6, some (5, true), .mv (.t 0)⟩,
  ⟨some 7, some (5, true), .slstr (.t 6) none (some (.k (.int .i64 1)))⟩,
  ⟨some 8, some (5, true), .call (.k (.fn (.func 89) [] [])) [.k (.str [97, 98, 99, 100, 101, 102, 103, 104, 105, 106, 107, 108, 109, 110, 111, 112, 113, 114, 115, 116, 117, 118, 119, 120, 121, 122, 65, 66, 67, 68, 69, 70, 71, 72, 73, 74, 75, 76, 77, 78, 79, 80, 81, 82, 83, 84, 85, 86, 87, 88, 89, 90, 95]), .t 7]⟩,
  ⟨some 9, none, .pick (.t 5) (.t 8) (.k (.bool false))⟩,
  ⟨some 10, none, .mv (.t 9)⟩,
  ⟨some 11, some (10, true), .mv (.t 0)⟩,
  ⟨some 12, some (10, true), .call (.k (.fn (.func 87) [] [])) [.t 11, .k (.str [97, 98, 99, 100, 101, 102, 103, 104, 105, 106, 107, 108, 109, 110, 111, 112, 113, 114, 115, 116, 117, 118, 119, 120, 121, 122, 65, 66, 67, 68, 69, 70, 71, 72, 73, 74, 75, 76, 77, 78, 79, 80, 81, 82, 83, 84, 85, 86, 87, 88, 89, 90, 95, 48, 49, 50, 51, 52, 53, 54, 55, 56, 57, 45, 46, 58])]⟩,
  ⟨some 13, some (10, true), .bin .eql (.str) true (.t 12) (.k (.str []))⟩,
  ⟨some 14, none, .pick (.t 10) (.t 13) (.k (.bool false))⟩,
  ⟨some 2, none, .mv (.t 14)⟩]) (.ret))⟩
theorem fk65 (G : GT) : FOk Tryz.prog tt G 65 c65 := ⟨_, Tryz.func65, by kernel_rfl⟩
def l66_0b : CC := .seq (.ops [⟨some 8, none, .bin .lss (.int .i64) false (.t 7) (.t 6)⟩]) (.seq (.cond (.t 8) (.skip) (.exit 0)) (.seq (.block 1 (.seq (.ops [⟨some 9, none, .mv (.t 7)⟩,
  ⟨some 10, none, .ixs 2 (.t 5) (.t 7)⟩,
  ⟨some 11, none, .ld (some 2) (.t 10)⟩,
  ⟨some 4, none, .alloc 64 [.str [], .str []]⟩,
  ⟨some 3, none, .mv (.t 9)⟩,
  ⟨none, none, .st 2 (.t 4) (.t 11)⟩]) (.seq (.ops [⟨some 12, none, .fa 0 (.t 4)⟩,
  ⟨some 13, none, .ld none (.t 12)⟩,
  ⟨some 14, none, .call (.k (.fn (.func 65) [] [])) [.t 13]⟩,
  ⟨some 15, none, .un .not (.t 14)⟩,
  ⟨some 16, none, .mv (.t 15)⟩,
  ⟨some 17, some (16, false), .fa 1 (.t 4)⟩,
  ⟨some 18, some (16, false), .ld none (.t 17)⟩,
  ⟨some 19, some (16, false), .call (.k (.fn (.func 29) [] [])) [.t 18]⟩,
  ⟨some 20, some (16, false), .un .not (.t 19)⟩,
  ⟨some 21, none, .pick (.t 16) (.k (.bool true)) (.t 20)⟩,
  ⟨some 22, none, .mv (.t 21)⟩,
  ⟨some 23, some (22, false), .mv (.t 0)⟩,
  ⟨some 24, some (22, false), .mv (.t 3)⟩,
  ⟨some 25, some (22, false), .sls 2 (.t 23) none (some (.t 24)) none⟩,
  ⟨some 26, some (22, false), .mkf (.func 90) [] [.t 4]⟩,
  ⟨some 27, some (22, false), .call (.k (.fn (.func 76) [] [])) [.t 25, .t 26]⟩,
  ⟨some 28, none, .pick (.t 22) (.k (.bool true)) (.t 27)⟩]) (.cond (.t 28) (.seq (.ops [⟨some 2, none, .mv (.k (.bool false))⟩]) (.ret)) (.skip))))) (.ops [⟨some 29, none, .bin .add (.int .i64) true (.t 7) (.k (.int .i64 1))⟩,
  ⟨some 7, none, .mv (.t 29)⟩])))
def l66_0 : CC := l66_0b
theorem l66_0x (P : Program) (T : TT) (G : GT) (Q : EQ) (t : Env) (σ : St) : aC P T G l66_0 Q t σ = aC P T G l66_0b Q t σ := rfl
/-- comptoir/canon.attrs -/
def c66 : CF := ⟨30, [.t 2], .seq (.ops [⟨some 2, none, .mv (.k (.bool false))⟩]) (.seq (.seq (.ops [⟨some 5, none, .mv (.t 0)⟩,
  ⟨some 6, none, .lenl (.t 5)⟩,
  ⟨some 7, none, .mv (.k (.int .i64 0))⟩]) (.block 0 (.loop l66_0))) (.seq (.ops [⟨some 2, none, .mv (.k (.bool true))⟩]) (.ret)))⟩
theorem fk66 (G : GT) : FOk Tryz.prog tt G 66 c66 := ⟨_, Tryz.func66, by kernel_rfl⟩
def l67_0b : CC := .seq (.ops [⟨some 9, none, .bin .lss (.int .i64) false (.t 8) (.t 7)⟩]) (.seq (.cond (.t 9) (.skip) (.exit 0)) (.seq (.block 1 (.seq (.ops [⟨some 10, none, .ixs 1 (.t 6) (.t 8)⟩,
  ⟨some 11, none, .ld none (.t 10)⟩,
  ⟨some 5, none, .mv (.t 11)⟩]) (.ops [⟨some 12, none, .mv (.t 0)⟩,
  ⟨some 13, none, .nilc (.t 12)⟩,
  ⟨some 14, none, .fa 1 (.t 13)⟩,
  ⟨some 15, none, .mv (.t 5)⟩,
  ⟨some 16, none, .call (.k (.fn (.func 91) [] [])) [.t 14, .t 15]⟩]))) (.ops [⟨some 17, none, .bin .add (.int .i64) true (.t 8) (.k (.int .i64 1))⟩,
  ⟨some 8, none, .mv (.t 17)⟩])))
def l67_0 : CC := l67_0b
theorem l67_0x (P : Program) (T : TT) (G : GT) (Q : EQ) (t : Env) (σ : St) : aC P T G l67_0 Q t σ = aC P T G l67_0b Q t σ := rfl
/-- (*comptoir/canon.writer).put -/
def c67 : CF := ⟨18, [], .seq (.ops [⟨some 6, none, .mv (.t 1)⟩,
  ⟨some 7, none, .lenl (.t 6)⟩,
  ⟨some 8, none, .mv (.k (.int .i64 0))⟩]) (.block 0 (.loop l67_0))⟩
theorem fk67 (G : GT) : FOk Tryz.prog tt G 67 c67 := ⟨_, Tryz.func67, by kernel_rfl⟩
/-- comptoir/canon.escape -/
def c68 : CF := ⟨7, [.t 2], .seq (.ops [⟨some 2, none, .mv (.k (.str []))⟩]) (.seq (.ops [⟨some 3, none, .mks 9 1 [.str []] 8 [(0, .k (.str [38])), (1, .k (.str [38, 97, 109, 112, 59])), (2, .k (.str [60])), (3, .k (.str [38, 108, 116, 59])), (4, .k (.str [62])), (5, .k (.str [38, 103, 116, 59])), (6, .k (.str [34])), (7, .k (.str [38, 113, 117, 111, 116, 59]))]⟩,
  ⟨some 4, none, .call (.k (.fn (.func 92) [] [])) [.t 3]⟩,
  ⟨some 5, none, .mv (.t 0)⟩,
  ⟨some 6, none, .call (.k (.fn (.func 93) [] [])) [.t 4, .t 5]⟩,
  ⟨some 2, none, .mv (.t 6)⟩]) (.ret))⟩
theorem fk68 (G : GT) : FOk Tryz.prog tt G 68 c68 := ⟨_, Tryz.func68, by kernel_rfl⟩
def l69_0b : CC := .seq (.ops [⟨some 9, none, .bin .lss (.int .i64) false (.t 8) (.t 7)⟩]) (.seq (.cond (.t 9) (.skip) (.exit 0)) (.seq (.block 1 (.seq (.ops [⟨some 10, none, .ixs 1 (.t 6) (.t 8)⟩,
  ⟨some 11, none, .ld none (.t 10)⟩,
  ⟨some 5, none, .mv (.t 11)⟩]) (.ops [⟨some 12, none, .mv (.t 1)⟩,
  ⟨some 13, none, .mv (.t 5)⟩,
  ⟨some 14, none, .call (.t 12) [.t 13]⟩]))) (.ops [⟨some 15, none, .bin .add (.int .i64) true (.t 8) (.k (.int .i64 1))⟩,
  ⟨some 8, none, .mv (.t 15)⟩])))
def l69_0 : CC := l69_0b
theorem l69_0x (P : Program) (T : TT) (G : GT) (Q : EQ) (t : Env) (σ : St) : aC P T G l69_0 Q t σ = aC P T G l69_0b Q t σ := rfl
/-- comptoir/canon.each -/
def c69 : CF := ⟨16, [], .seq (.ops [⟨some 6, none, .mv (.t 0)⟩,
  ⟨some 7, none, .lenl (.t 6)⟩,
  ⟨some 8, none, .mv (.k (.int .i64 0))⟩]) (.block 0 (.loop l69_0))⟩
theorem fk69 (G : GT) : FOk Tryz.prog tt G 69 c69 := ⟨_, Tryz.func69, by kernel_rfl⟩
/-- (*comptoir/token.walk).name -/
def c73 : CF := ⟨19, [.t 2], .seq (.ops [⟨some 2, none, .mv (.k (.str []))⟩]) (.seq (.seq (.ops [⟨some 3, none, .mv (.t 0)⟩,
  ⟨some 4, none, .nilc (.t 3)⟩,
  ⟨some 5, none, .fa 0 (.t 4)⟩,
  ⟨some 6, none, .ld none (.t 5)⟩,
  ⟨some 7, none, .bin .eql (.str) true (.t 6) (.k (.str []))⟩,
  ⟨some 8, none, .mv (.t 7)⟩,
  ⟨some 9, some (8, false), .mv (.t 0)⟩,
  ⟨some 10, some (8, false), .nilc (.t 9)⟩,
  ⟨some 11, some (8, false), .fa 0 (.t 10)⟩,
  ⟨some 12, some (8, false), .ld none (.t 11)⟩,
  ⟨some 13, some (8, false), .slstr (.t 12) none (some (.k (.int .i64 1)))⟩,
  ⟨some 14, some (8, false), .call (.k (.fn (.func 89) [] [])) [.k (.str [97, 98, 99, 100, 101, 102, 103, 104, 105, 106, 107, 108, 109, 110, 111, 112, 113, 114, 115, 116, 117, 118, 119, 120, 121, 122, 65, 66, 67, 68, 69, 70, 71, 72, 73, 74, 75, 76, 77, 78, 79, 80, 81, 82, 83, 84, 85, 86, 87, 88, 89, 90, 95]), .t 13]⟩,
  ⟨some 15, some (8, false), .un .not (.t 14)⟩,
  ⟨some 16, none, .pick (.t 8) (.k (.bool true)) (.t 15)⟩]) (.cond (.t 16) (.seq (.ops [⟨some 2, none, .mv (.k (.str []))⟩]) (.ret)) (.skip))) (.seq (.ops [⟨some 17, none, .mv (.t 0)⟩,
  ⟨some 18, none, .call (.k (.fn (.func 74) [] [])) [.t 17, .k (.str [97, 98, 99, 100, 101, 102, 103, 104, 105, 106, 107, 108, 109, 110, 111, 112, 113, 114, 115, 116, 117, 118, 119, 120, 121, 122, 65, 66, 67, 68, 69, 70, 71, 72, 73, 74, 75, 76, 77, 78, 79, 80, 81, 82, 83, 84, 85, 86, 87, 88, 89, 90, 48, 49, 50, 51, 52, 53, 54, 55, 56, 57, 95, 45, 46, 58])]⟩,
  ⟨some 2, none, .mv (.t 18)⟩]) (.ret)))⟩
theorem fk73 (G : GT) : FOk Tryz.prog tt G 73 c73 := ⟨_, Tryz.func73, by kernel_rfl⟩
/-- (*comptoir/token.walk).run -/
def c74 : CF := ⟨31, [.t 4], .seq (.ops [⟨some 4, none, .mv (.k (.str []))⟩]) (.seq (.ops [⟨some 7, none, .mv (.t 0)⟩,
  ⟨some 8, none, .nilc (.t 7)⟩,
  ⟨some 9, none, .fa 0 (.t 8)⟩,
  ⟨some 10, none, .ld none (.t 9)⟩,
  ⟨some 11, none, .mv (.t 1)⟩,
  ⟨some 12, none, .call (.k (.fn (.func 95) [] [])) [.t 10, .t 11]⟩,
  ⟨some 5, none, .mv (.t 12)⟩]) (.seq (.draw [⟨some 13, none, .mv (.t 0)⟩,
  ⟨some 14, none, .nilc (.t 13)⟩,
  ⟨some 15, none, .fa 0 (.t 14)⟩,
  ⟨some 16, none, .ld none (.t 15)⟩,
  ⟨some 17, none, .mv (.t 0)⟩,
  ⟨some 18, none, .nilc (.t 17)⟩,
  ⟨some 19, none, .fa 0 (.t 18)⟩,
  ⟨some 20, none, .ld none (.t 19)⟩,
  ⟨some 21, none, .lens (.t 20)⟩,
  ⟨some 22, none, .mv (.t 5)⟩,
  ⟨some 23, none, .lens (.t 22)⟩,
  ⟨some 24, none, .bin .sub (.int .i64) false (.t 21) (.t 23)⟩,
  ⟨some 25, none, .slstr (.t 16) none (some (.t 24))⟩,
  ⟨some 6, none, .mv (.t 25)⟩]) (.seq (.ops [⟨some 26, none, .mv (.t 0)⟩,
  ⟨some 27, none, .mv (.t 5)⟩,
  ⟨some 28, none, .nilc (.t 26)⟩,
  ⟨some 29, none, .fa 0 (.t 28)⟩,
  ⟨none, none, .st 1 (.t 29) (.t 27)⟩]) (.seq (.ops [⟨some 30, none, .mv (.t 6)⟩,
  ⟨some 4, none, .mv (.t 30)⟩]) (.ret)))))⟩
theorem fk74 (G : GT) : FOk Tryz.prog tt G 74 c74 := ⟨_, Tryz.func74, by kernel_rfl⟩
/-- (*comptoir/token.walk).attr -/
def c75 : CF := ⟨30, [.c 2 (some 2), .t 3], .seq (.ops [⟨some 2, none, .alloc 64 [.str [], .str []]⟩,
  ⟨some 3, none, .mv (.k (.bool false))⟩]) (.seq (.ops [⟨some 6, none, .mv (.t 0)⟩,
  ⟨some 7, none, .call (.k (.fn (.func 73) [] [])) [.t 6]⟩,
  ⟨some 8, none, .mk [.str [], .str []] [(0, 1, .t 7)]⟩,
  ⟨some 4, none, .alloc 64 [.str [], .str []]⟩,
  ⟨none, none, .st 2 (.t 4) (.t 8)⟩]) (.seq (.ops [⟨some 9, none, .mv (.t 0)⟩,
  ⟨some 10, none, .call (.k (.fn (.func 74) [] [])) [.t 9, .k (.str [9, 10, 13, 32])]⟩]) (.seq (.seq (.ops [⟨some 11, none, .fa 0 (.t 4)⟩,
  ⟨some 12, none, .ld none (.t 11)⟩,
  ⟨some 13, none, .bin .eql (.str) true (.t 12) (.k (.str []))⟩,
  ⟨some 14, none, .mv (.t 13)⟩,
  ⟨some 15, some (14, false), .mv (.t 0)⟩,
  ⟨some 16, some (14, false), .call (.k (.fn (.func 30) [] [])) [.t 15, .k (.str [61])]⟩,
  ⟨some 17, some (14, false), .un .not (.t 16)⟩,
  ⟨some 18, none, .pick (.t 14) (.k (.bool true)) (.t 17)⟩]) (.cond (.t 18) (.seq (.ops [⟨some 19, none, .ld (some 2) (.t 4)⟩,
  ⟨none, none, .st 2 (.t 2) (.t 19)⟩,
  ⟨some 3, none, .mv (.k (.bool false))⟩]) (.ret)) (.skip))) (.seq (.ops [⟨some 20, none, .mv (.t 0)⟩,
  ⟨some 21, none, .call (.k (.fn (.func 74) [] [])) [.t 20, .k (.str [9, 10, 13, 32])]⟩]) (.seq (.ops [⟨some 5, none, .mv (.k (.bool false))⟩]) (.seq (.ops [⟨some 23, none, .mv (.t 0)⟩,
  ⟨some 24, none, .call (.k (.fn (.func 96) [] [])) [.t 23]⟩,
  ⟨some 22, none, .mv (.t 24)⟩,
  ⟨some 25, none, .ex (.t 22) 0⟩,
  ⟨some 26, none, .ex (.t 22) 1⟩,
  ⟨some 27, none, .fa 1 (.t 4)⟩,
  ⟨none, none, .st 1 (.t 27) (.t 25)⟩,
  ⟨some 5, none, .mv (.t 26)⟩]) (.seq (.ops [⟨some 28, none, .ld (some 2) (.t 4)⟩,
  ⟨some 29, none, .mv (.t 5)⟩,
  ⟨none, none, .st 2 (.t 2) (.t 28)⟩,
  ⟨some 3, none, .mv (.t 29)⟩]) (.ret))))))))⟩
theorem fk75 (G : GT) : FOk Tryz.prog tt G 75 c75 := ⟨_, Tryz.func75, by kernel_rfl⟩
/-- slices.ContainsFunc[[]comptoir/api.Attr,comptoir/api.Attr] -/
def c76 : CF := ⟨9, [.t 4], .seq (.ops [⟨some 4, none, .mv (.k (.bool false))⟩]) (.seq (.ops [⟨some 5, none, .mv (.t 0)⟩,
  ⟨some 6, none, .mv (.t 1)⟩,
  ⟨some 7, none, .call (.k (.fn (.func 97) [] [])) [.t 5, .t 6]⟩,
  ⟨some 8, none, .bin .geq (.int .i64) true (.t 7) (.k (.int .i64 0))⟩,
  ⟨some 4, none, .mv (.t 8)⟩]) (.ret))⟩
theorem fk76 (G : GT) : FOk Tryz.prog tt G 76 c76 := ⟨_, Tryz.func76, by kernel_rfl⟩
/-- (*comptoir/token.walk).open$1 -/
def c77 : CF := ⟨9, [.t 3], .seq (.ops [⟨some 2, none, .box 64 (.t 0)⟩,
  ⟨some 3, none, .mv (.k (.bool false))⟩]) (.seq (.ops [⟨some 4, none, .fa 0 (.t 2)⟩,
  ⟨some 5, none, .ld none (.t 4)⟩,
  ⟨some 6, none, .fa 0 (.t 1)⟩,
  ⟨some 7, none, .ld none (.t 6)⟩,
  ⟨some 8, none, .bin .eql (.str) false (.t 5) (.t 7)⟩,
  ⟨some 3, none, .mv (.t 8)⟩]) (.ret))⟩
theorem fk77 (G : GT) : FOk Tryz.prog tt G 77 c77 := ⟨_, Tryz.func77, by kernel_rfl⟩
def l79_0b : CC := .block 1 (.seq (.ops [⟨some 12, none, .mv (.t 0)⟩,
  ⟨some 13, none, .call (.k (.fn (.func 99) [] [])) [.t 12, .k (.str [38])]⟩,
  ⟨some 11, none, .mv (.t 13)⟩,
  ⟨some 14, none, .ex (.t 11) 0⟩,
  ⟨some 15, none, .ex (.t 11) 1⟩,
  ⟨some 16, none, .ex (.t 11) 2⟩,
  ⟨some 5, none, .mv (.t 14)⟩,
  ⟨some 6, none, .mv (.t 15)⟩,
  ⟨some 7, none, .mv (.t 16)⟩]) (.seq (.ops [⟨some 17, none, .mv (.t 5)⟩,
  ⟨some 18, none, .call (.k (.fn (.func 91) [] [])) [.t 4, .t 17]⟩]) (.seq (.seq (.ops [⟨some 19, none, .mv (.t 7)⟩,
  ⟨some 20, none, .un .not (.t 19)⟩]) (.cond (.t 20) (.seq (.ops [⟨some 21, none, .call (.k (.fn (.func 44) [] [])) [.t 4]⟩,
  ⟨some 2, none, .mv (.t 21)⟩,
  ⟨some 3, none, .mv (.k (.bool true))⟩]) (.ret)) (.skip))) (.seq (.ops [⟨some 23, none, .mv (.t 6)⟩,
  ⟨some 24, none, .call (.k (.fn (.func 99) [] [])) [.t 23, .k (.str [59])]⟩,
  ⟨some 22, none, .mv (.t 24)⟩,
  ⟨some 25, none, .ex (.t 22) 0⟩,
  ⟨some 26, none, .ex (.t 22) 1⟩,
  ⟨some 27, none, .ex (.t 22) 2⟩,
  ⟨some 8, none, .mv (.t 25)⟩,
  ⟨some 9, none, .mv (.t 26)⟩,
  ⟨some 7, none, .mv (.t 27)⟩]) (.seq (.ops [⟨some 28, none, .mv (.t 8)⟩,
  ⟨some 29, none, .call (.k (.fn (.func 100) [] [])) [.t 28]⟩,
  ⟨some 10, none, .mv (.t 29)⟩]) (.seq (.seq (.ops [⟨some 30, none, .mv (.t 7)⟩,
  ⟨some 31, none, .un .not (.t 30)⟩,
  ⟨some 32, none, .mv (.t 31)⟩,
  ⟨some 33, some (32, false), .mv (.t 10)⟩,
  ⟨some 34, some (32, false), .bin .eql (.str) true (.t 33) (.k (.str []))⟩,
  ⟨some 35, none, .pick (.t 32) (.k (.bool true)) (.t 34)⟩]) (.cond (.t 35) (.seq (.ops [⟨some 2, none, .mv (.k (.str []))⟩,
  ⟨some 3, none, .mv (.k (.bool false))⟩]) (.ret)) (.skip))) (.seq (.ops [⟨some 36, none, .mv (.t 10)⟩,
  ⟨some 37, none, .call (.k (.fn (.func 91) [] [])) [.t 4, .t 36]⟩]) (.ops [⟨some 38, none, .mv (.t 9)⟩,
  ⟨some 0, none, .mv (.t 38)⟩]))))))))
def l79_0 : CC := l79_0b
theorem l79_0x (P : Program) (T : TT) (G : GT) (Q : EQ) (t : Env) (σ : St) : aC P T G l79_0 Q t σ = aC P T G l79_0b Q t σ := rfl
/-- comptoir/token.value -/
def c79 : CF := ⟨39, [.t 2, .t 3], .seq (.ops [⟨some 2, none, .mv (.k (.str []))⟩,
  ⟨some 3, none, .mv (.k (.bool false))⟩]) (.seq (.ops [⟨some 4, none, .alloc 82 [.nilp, .nils]⟩]) (.block 0 (.loop l79_0)))⟩
theorem fk79 (G : GT) : FOk Tryz.prog tt G 79 c79 := ⟨_, Tryz.func79, by kernel_rfl⟩
/-- (*comptoir/tree.build).top -/
def c85 : CF := ⟨21, [.t 2], .seq (.ops [⟨some 2, none, .mv (.k (.int .i64 0))⟩]) (.seq (.seq (.ops [⟨some 3, none, .mv (.t 0)⟩,
  ⟨some 4, none, .nilc (.t 3)⟩,
  ⟨some 5, none, .fa 1 (.t 4)⟩,
  ⟨some 6, none, .ld none (.t 5)⟩,
  ⟨some 7, none, .lenl (.t 6)⟩,
  ⟨some 8, none, .bin .eql (.int .i64) true (.t 7) (.k (.int .i64 0))⟩]) (.cond (.t 8) (.seq (.ops [⟨some 2, none, .mv (.k (.int .i64 (-1)))⟩]) (.ret)) (.skip))) (.seq (.draw [⟨some 9, none, .mv (.t 0)⟩,
  ⟨some 10, none, .nilc (.t 9)⟩,
  ⟨some 11, none, .fa 1 (.t 10)⟩,
  ⟨some 12, none, .ld none (.t 11)⟩,
  ⟨some 13, none, .mv (.t 0)⟩,
  ⟨some 14, none, .nilc (.t 13)⟩,
  ⟨some 15, none, .fa 1 (.t 14)⟩,
  ⟨some 16, none, .ld none (.t 15)⟩,
  ⟨some 17, none, .lenl (.t 16)⟩,
  ⟨some 18, none, .bin .sub (.int .i64) true (.t 17) (.k (.int .i64 1))⟩,
  ⟨some 19, none, .ixs 1 (.t 12) (.t 18)⟩,
  ⟨some 20, none, .ld none (.t 19)⟩,
  ⟨some 2, none, .mv (.t 20)⟩]) (.ret)))⟩
theorem fk85 (G : GT) : FOk Tryz.prog tt G 85 c85 := ⟨_, Tryz.func85, by kernel_rfl⟩
/-- slices.Clone[[]comptoir/api.Attr,comptoir/api.Attr] -/
def c86 : CF := ⟨8, [.t 2], .seq (.ops [⟨some 2, none, .mv (.k (.nils))⟩]) (.seq (.seq (.ops [⟨some 3, none, .mv (.t 0)⟩,
  ⟨some 4, none, .bin .eql (.slice 64) true (.t 3) (.k (.nils))⟩]) (.cond (.t 4) (.seq (.ops [⟨some 2, none, .mv (.k (.nils))⟩]) (.ret)) (.skip))) (.seq (.ops [⟨some 5, none, .mks 64 2 [.str [], .str []] 0 []⟩,
  ⟨some 6, none, .mv (.t 0)⟩,
  ⟨some 7, none, .app 64 2 32 (.t 5) (.t 6)⟩,
  ⟨some 2, none, .mv (.t 7)⟩]) (.ret)))⟩
theorem fk86 (G : GT) : FOk Tryz.prog tt G 86 c86 := ⟨_, Tryz.func86, by kernel_rfl⟩
/-- strings.Trim -/
def c87 : CF := ⟨43, [.t 4], .seq (.ops [⟨some 4, none, .mv (.k (.str []))⟩]) (.seq (.seq (.ops [⟨some 7, none, .mv (.t 0)⟩,
  ⟨some 8, none, .bin .eql (.str) true (.t 7) (.k (.str []))⟩,
  ⟨some 9, none, .mv (.t 8)⟩,
  ⟨some 10, some (9, false), .mv (.t 1)⟩,
  ⟨some 11, some (9, false), .bin .eql (.str) true (.t 10) (.k (.str []))⟩,
  ⟨some 12, none, .pick (.t 9) (.k (.bool true)) (.t 11)⟩]) (.cond (.t 12) (.seq (.ops [⟨some 13, none, .mv (.t 0)⟩,
  ⟨some 4, none, .mv (.t 13)⟩]) (.ret)) (.skip))) (.seq (.seq (.ops [⟨some 14, none, .mv (.t 1)⟩,
  ⟨some 15, none, .lens (.t 14)⟩,
  ⟨some 16, none, .bin .eql (.int .i64) true (.t 15) (.k (.int .i64 1))⟩,
  ⟨some 17, none, .mv (.t 16)⟩,
  ⟨some 18, some (17, true), .mv (.t 1)⟩,
  ⟨some 19, some (17, true), .ixstr (.t 18) (.k (.int .i64 0))⟩,
  ⟨some 20, some (17, true), .bin .lss (.int .u8) true (.t 19) (.k (.int .u8 128))⟩,
  ⟨some 21, none, .pick (.t 17) (.t 20) (.k (.bool false))⟩]) (.cond (.t 21) (.seq (.mix (.q 0 ⟨some 22, none, .mv (.t 0)⟩ (.q 0 ⟨some 23, none, .mv (.t 1)⟩ (.q 0 ⟨some 24, none, .ixstr (.t 23) (.k (.int .i64 0))⟩ (.q 0 ⟨some 26, none, .mv (.t 1)⟩ (.q 0 ⟨some 27, none, .ixstr (.t 26) (.k (.int .i64 0))⟩ (.f ⟨some 25, none, .call (.k (.fn (.func 106) [] [])) [.t 22, .t 24]⟩ (.f ⟨some 28, none, .call (.k (.fn (.func 105) [] [])) [.t 25, .t 27]⟩ (.q 0 ⟨some 4, none, .mv (.t 28)⟩ (.done)))))))))) (.ret)) (.skip))) (.seq (.seq (.ops [⟨some 30, none, .mv (.t 1)⟩,
  ⟨some 31, none, .call (.k (.fn (.func 107) [] [])) [.t 30]⟩,
  ⟨some 29, none, .mv (.t 31)⟩,
  ⟨some 32, none, .ex (.t 29) 0⟩,
  ⟨some 33, none, .ex (.t 29) 1⟩,
  ⟨some 5, none, .alloc 137 (List.replicate 256 (.bool false))⟩,
  ⟨none, none, .st 256 (.t 5) (.t 32)⟩,
  ⟨some 6, none, .mv (.t 33)⟩]) (.seq (.ops [⟨some 34, none, .mv (.t 6)⟩]) (.cond (.t 34) (.seq (.ops [⟨some 35, none, .mv (.t 0)⟩,
  ⟨some 36, none, .call (.k (.fn (.func 109) [] [])) [.t 35, .t 5]⟩,
  ⟨some 37, none, .call (.k (.fn (.func 108) [] [])) [.t 36, .t 5]⟩,
  ⟨some 4, none, .mv (.t 37)⟩]) (.ret)) (.skip)))) (.seq (.ops [⟨some 38, none, .mv (.t 0)⟩,
  ⟨some 39, none, .mv (.t 1)⟩,
  ⟨some 40, none, .call (.k (.fn (.func 111) [] [])) [.t 38, .t 39]⟩,
  ⟨some 41, none, .mv (.t 1)⟩,
  ⟨some 42, none, .call (.k (.fn (.func 110) [] [])) [.t 40, .t 41]⟩,
  ⟨some 4, none, .mv (.t 42)⟩]) (.ret)))))⟩
theorem fk87 (G : GT) : FOk Tryz.prog tt G 87 c87 := ⟨_, Tryz.func87, by kernel_rfl⟩
def l88_0b : CC := .seq (.ops [⟨some 9, none, .bin .lss (.int .i64) false (.t 8) (.t 7)⟩]) (.seq (.cond (.t 9) (.skip) (.exit 0)) (.seq (.block 1 (.seq (.ops [⟨some 10, none, .mv (.t 8)⟩,
  ⟨some 5, none, .mv (.t 10)⟩]) (.seq (.ops [⟨some 11, none, .mv (.t 1)⟩,
  ⟨some 12, none, .mv (.t 0)⟩,
  ⟨some 13, none, .mv (.t 5)⟩,
  ⟨some 14, none, .ixs 1 (.t 12) (.t 13)⟩,
  ⟨some 15, none, .ld none (.t 14)⟩,
  ⟨some 16, none, .bin .eql (.int .i64) false (.t 11) (.t 15)⟩]) (.cond (.t 16) (.seq (.ops [⟨some 17, none, .mv (.t 5)⟩,
  ⟨some 4, none, .mv (.t 17)⟩]) (.ret)) (.skip))))) (.ops [⟨some 18, none, .bin .add (.int .i64) true (.t 8) (.k (.int .i64 1))⟩,
  ⟨some 8, none, .mv (.t 18)⟩])))
def l88_0 : CC := l88_0b
theorem l88_0x (P : Program) (T : TT) (G : GT) (Q : EQ) (t : Env) (σ : St) : aC P T G l88_0 Q t σ = aC P T G l88_0b Q t σ := rfl
/-- slices.Index[[]int,int] -/
def c88 : CF := ⟨19, [.t 4], .seq (.ops [⟨some 4, none, .mv (.k (.int .i64 0))⟩]) (.seq (.seq (.ops [⟨some 6, none, .mv (.t 0)⟩,
  ⟨some 7, none, .lenl (.t 6)⟩,
  ⟨some 8, none, .mv (.k (.int .i64 0))⟩]) (.block 0 (.loop l88_0))) (.seq (.ops [⟨some 4, none, .mv (.k (.int .i64 (-1)))⟩]) (.ret)))⟩
theorem fk88 (G : GT) : FOk Tryz.prog tt G 88 c88 := ⟨_, Tryz.func88, by kernel_rfl⟩
/-- comptoir/canon.attrs$1 -/
def c90 : CF := ⟨9, [.t 3], .seq (.ops [⟨some 2, none, .box 64 (.t 0)⟩,
  ⟨some 3, none, .mv (.k (.bool false))⟩]) (.seq (.ops [⟨some 4, none, .fa 0 (.t 2)⟩,
  ⟨some 5, none, .ld none (.t 4)⟩,
  ⟨some 6, none, .fa 0 (.t 1)⟩,
  ⟨some 7, none, .ld none (.t 6)⟩,
  ⟨some 8, none, .bin .eql (.str) false (.t 5) (.t 7)⟩,
  ⟨some 3, none, .mv (.t 8)⟩]) (.ret))⟩
theorem fk90 (G : GT) : FOk Tryz.prog tt G 90 c90 := ⟨_, Tryz.func90, by kernel_rfl⟩
/-- (*strings.Builder).WriteString -/
def c91 : CF := ⟨19, [.t 4, .t 5], .seq (.ops [⟨some 4, none, .mv (.k (.int .i64 0))⟩,
  ⟨some 5, none, .mv (.k (.nili))⟩]) (.seq (.ops [⟨some 6, none, .mv (.t 0)⟩,
  ⟨some 7, none, .call (.k (.fn (.func 113) [] [])) [.t 6]⟩]) (.seq (.ops [⟨some 8, none, .mv (.t 0)⟩,
  ⟨some 9, none, .mv (.t 0)⟩,
  ⟨some 10, none, .nilc (.t 9)⟩,
  ⟨some 11, none, .fa 1 (.t 10)⟩,
  ⟨some 12, none, .ld none (.t 11)⟩,
  ⟨some 13, none, .mv (.t 1)⟩,
  ⟨some 14, none, .app 5 1 1 (.t 12) (.t 13)⟩,
  ⟨some 15, none, .nilc (.t 8)⟩,
  ⟨some 16, none, .fa 1 (.t 15)⟩,
  ⟨none, none, .st 1 (.t 16) (.t 14)⟩]) (.seq (.ops [⟨some 17, none, .mv (.t 1)⟩,
  ⟨some 18, none, .lens (.t 17)⟩,
  ⟨some 4, none, .mv (.t 18)⟩,
  ⟨some 5, none, .mv (.k (.nili))⟩]) (.ret))))⟩
theorem fk91 (G : GT) : FOk Tryz.prog tt G 91 c91 := ⟨_, Tryz.func91, by kernel_rfl⟩
/-- strings.NewReplacer -/
def c92 : CF := ⟨12, [.t 2], .seq (.ops [⟨some 2, none, .mv (.k (.nilp))⟩]) (.seq (.seq (.ops [⟨some 3, none, .mv (.t 0)⟩,
  ⟨some 4, none, .lenl (.t 3)⟩,
  ⟨some 5, none, .bin .rem (.int .i64) true (.t 4) (.k (.int .i64 2))⟩,
  ⟨some 6, none, .bin .eql (.int .i64) true (.t 5) (.k (.int .i64 1))⟩]) (.cond (.t 6) (.ops [⟨some 7, none, .ifc 9 (.k (.str [115, 116, 114, 105, 110, 103, 115, 46, 78, 101, 119, 82, 101, 112, 108, 97, 99, 101, 114, 58, 32, 111, 100, 100, 32, 97, 114, 103, 117, 109, 101, 110, 116, 32, 99, 111, 117, 110, 116]))⟩,
  ⟨none, none, .more .bad []⟩]) (.skip))) (.seq (.ops [⟨some 8, none, .mv (.t 0)⟩,
  ⟨some 9, none, .app 9 1 16 (.k (.nils)) (.t 8)⟩,
  ⟨some 10, none, .mk [.int .u32 0, .int .i32 0, .int .u32 0, .nili, .nils] [(4, 1, .t 9)]⟩,
  ⟨some 11, none, .box 158 (.t 10)⟩,
  ⟨some 2, none, .mv (.t 11)⟩]) (.ret)))⟩
theorem fk92 (G : GT) : FOk Tryz.prog tt G 92 c92 := ⟨_, Tryz.func92, by kernel_rfl⟩
/-- strings.TrimLeft -/
def c95 : CF := ⟨37, [.t 4], .seq (.ops [⟨some 4, none, .mv (.k (.str []))⟩]) (.seq (.seq (.ops [⟨some 7, none, .mv (.t 0)⟩,
  ⟨some 8, none, .bin .eql (.str) true (.t 7) (.k (.str []))⟩,
  ⟨some 9, none, .mv (.t 8)⟩,
  ⟨some 10, some (9, false), .mv (.t 1)⟩,
  ⟨some 11, some (9, false), .bin .eql (.str) true (.t 10) (.k (.str []))⟩,
  ⟨some 12, none, .pick (.t 9) (.k (.bool true)) (.t 11)⟩]) (.cond (.t 12) (.seq (.ops [⟨some 13, none, .mv (.t 0)⟩,
  ⟨some 4, none, .mv (.t 13)⟩]) (.ret)) (.skip))) (.seq (.seq (.ops [⟨some 14, none, .mv (.t 1)⟩,
  ⟨some 15, none, .lens (.t 14)⟩,
  ⟨some 16, none, .bin .eql (.int .i64) true (.t 15) (.k (.int .i64 1))⟩,
  ⟨some 17, none, .mv (.t 16)⟩,
  ⟨some 18, some (17, true), .mv (.t 1)⟩,
  ⟨some 19, some (17, true), .ixstr (.t 18) (.k (.int .i64 0))⟩,
  ⟨some 20, some (17, true), .bin .lss (.int .u8) true (.t 19) (.k (.int .u8 128))⟩,
  ⟨some 21, none, .pick (.t 17) (.t 20) (.k (.bool false))⟩]) (.cond (.t 21) (.seq (.ops [⟨some 22, none, .mv (.t 0)⟩,
  ⟨some 23, none, .mv (.t 1)⟩,
  ⟨some 24, none, .ixstr (.t 23) (.k (.int .i64 0))⟩,
  ⟨some 25, none, .call (.k (.fn (.func 105) [] [])) [.t 22, .t 24]⟩,
  ⟨some 4, none, .mv (.t 25)⟩]) (.ret)) (.skip))) (.seq (.seq (.ops [⟨some 27, none, .mv (.t 1)⟩,
  ⟨some 28, none, .call (.k (.fn (.func 107) [] [])) [.t 27]⟩,
  ⟨some 26, none, .mv (.t 28)⟩,
  ⟨some 29, none, .ex (.t 26) 0⟩,
  ⟨some 30, none, .ex (.t 26) 1⟩,
  ⟨some 5, none, .alloc 137 (List.replicate 256 (.bool false))⟩,
  ⟨none, none, .st 256 (.t 5) (.t 29)⟩,
  ⟨some 6, none, .mv (.t 30)⟩]) (.seq (.ops [⟨some 31, none, .mv (.t 6)⟩]) (.cond (.t 31) (.seq (.ops [⟨some 32, none, .mv (.t 0)⟩,
  ⟨some 33, none, .call (.k (.fn (.func 108) [] [])) [.t 32, .t 5]⟩,
  ⟨some 4, none, .mv (.t 33)⟩]) (.ret)) (.skip)))) (.seq (.ops [⟨some 34, none, .mv (.t 0)⟩,
  ⟨some 35, none, .mv (.t 1)⟩,
  ⟨some 36, none, .call (.k (.fn (.func 110) [] [])) [.t 34, .t 35]⟩,
  ⟨some 4, none, .mv (.t 36)⟩]) (.ret)))))⟩
theorem fk95 (G : GT) : FOk Tryz.prog tt G 95 c95 := ⟨_, Tryz.func95, by kernel_rfl⟩
def l96_0b : CC := .seq (.ops [⟨some 14, none, .bin .lss (.int .i64) false (.t 13) (.t 12)⟩]) (.seq (.cond (.t 14) (.skip) (.exit 0)) (.seq (.block 1 (.seq (.ops [⟨some 15, none, .ixs 1 (.t 11) (.t 13)⟩,
  ⟨some 16, none, .ld none (.t 15)⟩,
  ⟨some 5, none, .mv (.t 16)⟩]) (.seq (.seq (.ops [⟨some 17, none, .mv (.t 0)⟩,
  ⟨some 18, none, .mv (.t 5)⟩,
  ⟨some 19, none, .call (.k (.fn (.func 30) [] [])) [.t 17, .t 18]⟩,
  ⟨some 20, none, .un .not (.t 19)⟩]) (.cond (.t 20) (.exit 1) (.skip))) (.seq (.ops [⟨some 22, none, .mv (.t 0)⟩,
  ⟨some 23, none, .nilc (.t 22)⟩,
  ⟨some 24, none, .fa 0 (.t 23)⟩,
  ⟨some 25, none, .ld none (.t 24)⟩,
  ⟨some 26, none, .mv (.t 5)⟩,
  ⟨some 27, none, .call (.k (.fn (.func 99) [] [])) [.t 25, .t 26]⟩,
  ⟨some 21, none, .mv (.t 27)⟩,
  ⟨some 28, none, .ex (.t 21) 0⟩,
  ⟨some 29, none, .ex (.t 21) 1⟩,
  ⟨some 30, none, .ex (.t 21) 2⟩,
  ⟨some 6, none, .mv (.t 28)⟩,
  ⟨some 7, none, .mv (.t 29)⟩,
  ⟨some 8, none, .mv (.t 30)⟩]) (.seq (.ops [⟨some 31, none, .mv (.t 0)⟩,
  ⟨some 32, none, .mv (.t 7)⟩,
  ⟨some 33, none, .nilc (.t 31)⟩,
  ⟨some 34, none, .fa 0 (.t 33)⟩,
  ⟨none, none, .st 1 (.t 34) (.t 32)⟩]) (.seq (.ops [⟨some 36, none, .mv (.t 6)⟩,
  ⟨some 37, none, .call (.k (.fn (.func 79) [] [])) [.t 36]⟩,
  ⟨some 35, none, .mv (.t 37)⟩,
  ⟨some 38, none, .ex (.t 35) 0⟩,
  ⟨some 39, none, .ex (.t 35) 1⟩,
  ⟨some 9, none, .mv (.t 38)⟩,
  ⟨some 10, none, .mv (.t 39)⟩]) (.seq (.ops [⟨some 40, none, .mv (.t 9)⟩,
  ⟨some 41, none, .mv (.t 8)⟩,
  ⟨some 42, none, .mv (.t 41)⟩,
  ⟨some 43, some (42, true), .mv (.t 10)⟩,
  ⟨some 44, none, .pick (.t 42) (.t 43) (.k (.bool false))⟩,
  ⟨some 45, none, .mv (.t 44)⟩,
  ⟨some 46, some (45, true), .mv (.t 6)⟩,
  ⟨some 47, some (45, true), .call (.k (.fn (.func 89) [] [])) [.t 46, .k (.str [60])]⟩,
  ⟨some 48, some (45, true), .un .not (.t 47)⟩,
  ⟨some 49, none, .pick (.t 45) (.t 48) (.k (.bool false))⟩,
  ⟨some 2, none, .mv (.t 40)⟩,
  ⟨some 3, none, .mv (.t 49)⟩]) (.ret)))))))) (.ops [⟨some 50, none, .bin .add (.int .i64) true (.t 13) (.k (.int .i64 1))⟩,
  ⟨some 13, none, .mv (.t 50)⟩])))
def l96_0 : CC := l96_0b
theorem l96_0x (P : Program) (T : TT) (G : GT) (Q : EQ) (t : Env) (σ : St) : aC P T G l96_0 Q t σ = aC P T G l96_0b Q t σ := rfl
/-- (*comptoir/token.walk).quoted -/
def c96 : CF := ⟨51, [.t 2, .t 3], .seq (.ops [⟨some 2, none, .mv (.k (.str []))⟩,
  ⟨some 3, none, .mv (.k (.bool false))⟩]) (.seq (.seq (.ops [⟨some 11, none, .mks 9 1 [.str []] 2 [(0, .k (.str [34])), (1, .k (.str [39]))]⟩,
  ⟨some 12, none, .lenl (.t 11)⟩,
  ⟨some 13, none, .mv (.k (.int .i64 0))⟩]) (.block 0 (.loop l96_0))) (.seq (.ops [⟨some 2, none, .mv (.k (.str []))⟩,
  ⟨some 3, none, .mv (.k (.bool false))⟩]) (.ret)))⟩
theorem fk96 (G : GT) : FOk Tryz.prog tt G 96 c96 := ⟨_, Tryz.func96, by kernel_rfl⟩
def l97_0b : CC := .seq (.ops [⟨some 9, none, .bin .lss (.int .i64) false (.t 8) (.t 7)⟩]) (.seq (.cond (.t 9) (.skip) (.exit 0)) (.seq (.block 1 (.seq (.ops [⟨some 10, none, .mv (.t 8)⟩,
  ⟨some 5, none, .mv (.t 10)⟩]) (.seq (.ops [⟨some 11, none, .mv (.t 1)⟩,
  ⟨some 12, none, .mv (.t 0)⟩,
  ⟨some 13, none, .mv (.t 5)⟩,
  ⟨some 14, none, .ixs 2 (.t 12) (.t 13)⟩,
  ⟨some 15, none, .ld (some 2) (.t 14)⟩,
  ⟨some 16, none, .call (.t 11) [.t 15]⟩]) (.cond (.t 16) (.seq (.ops [⟨some 17, none, .mv (.t 5)⟩,
  ⟨some 4, none, .mv (.t 17)⟩]) (.ret)) (.skip))))) (.ops [⟨some 18, none, .bin .add (.int .i64) true (.t 8) (.k (.int .i64 1))⟩,
  ⟨some 8, none, .mv (.t 18)⟩])))
def l97_0 : CC := l97_0b
theorem l97_0x (P : Program) (T : TT) (G : GT) (Q : EQ) (t : Env) (σ : St) : aC P T G l97_0 Q t σ = aC P T G l97_0b Q t σ := rfl
/-- slices.IndexFunc[[]comptoir/api.Attr,comptoir/api.Attr] -/
def c97 : CF := ⟨19, [.t 4], .seq (.ops [⟨some 4, none, .mv (.k (.int .i64 0))⟩]) (.seq (.seq (.ops [⟨some 6, none, .mv (.t 0)⟩,
  ⟨some 7, none, .lenl (.t 6)⟩,
  ⟨some 8, none, .mv (.k (.int .i64 0))⟩]) (.block 0 (.loop l97_0))) (.seq (.ops [⟨some 4, none, .mv (.k (.int .i64 (-1)))⟩]) (.ret)))⟩
theorem fk97 (G : GT) : FOk Tryz.prog tt G 97 c97 := ⟨_, Tryz.func97, by kernel_rfl⟩
/-- comptoir/token.sign -/
def c100 : CF := ⟨34, [.t 2], .seq (.ops [⟨some 2, none, .mv (.k (.str []))⟩]) (.seq (.seq (.ops [⟨some 7, none, .mv (.t 0)⟩]) (.block 0 (.seq (.ops [⟨some 9, none, .bin .eql (.str) true (.t 7) (.k (.str [108, 116]))⟩,
  ⟨some 8, none, .mv (.t 9)⟩]) (.cond (.t 8) (.seq (.ops [⟨some 2, none, .mv (.k (.str [60]))⟩]) (.ret)) (.seq (.ops [⟨some 11, none, .bin .eql (.str) true (.t 7) (.k (.str [103, 116]))⟩,
  ⟨some 10, none, .mv (.t 11)⟩]) (.cond (.t 10) (.seq (.ops [⟨some 2, none, .mv (.k (.str [62]))⟩]) (.ret)) (.seq (.ops [⟨some 13, none, .bin .eql (.str) true (.t 7) (.k (.str [97, 109, 112]))⟩,
  ⟨some 12, none, .mv (.t 13)⟩]) (.cond (.t 12) (.seq (.ops [⟨some 2, none, .mv (.k (.str [38]))⟩]) (.ret)) (.seq (.ops [⟨some 15, none, .bin .eql (.str) true (.t 7) (.k (.str [113, 117, 111, 116]))⟩,
  ⟨some 14, none, .mv (.t 15)⟩]) (.cond (.t 14) (.seq (.ops [⟨some 2, none, .mv (.k (.str [34]))⟩]) (.ret)) (.seq (.ops [⟨some 17, none, .bin .eql (.str) true (.t 7) (.k (.str [97, 112, 111, 115]))⟩,
  ⟨some 16, none, .mv (.t 17)⟩]) (.cond (.t 16) (.seq (.ops [⟨some 2, none, .mv (.k (.str [39]))⟩]) (.ret)) (.skip))))))))))))) (.seq (.seq (.ops [⟨some 19, none, .mv (.t 0)⟩,
  ⟨some 20, none, .call (.k (.fn (.func 49) [] [])) [.t 19, .k (.str [35, 120])]⟩,
  ⟨some 18, none, .mv (.t 20)⟩,
  ⟨some 21, none, .ex (.t 18) 0⟩,
  ⟨some 22, none, .ex (.t 18) 1⟩,
  ⟨some 3, none, .mv (.t 21)⟩,
  ⟨some 4, none, .mv (.t 22)⟩]) (.seq (.ops [⟨some 23, none, .mv (.t 4)⟩]) (.cond (.t 23) (.seq (.ops [⟨some 24, none, .mv (.t 3)⟩,
  ⟨some 25, none, .call (.k (.fn (.func 118) [] [])) [.t 24, .k (.str [48, 49, 50, 51, 52, 53, 54, 55, 56, 57, 97, 98, 99, 100, 101, 102, 65, 66, 67, 68, 69, 70]), .k (.int .i64 6), .k (.int .i64 16)]⟩,
  ⟨some 2, none, .mv (.t 25)⟩]) (.ret)) (.skip)))) (.seq (.seq (.ops [⟨some 27, none, .mv (.t 0)⟩,
  ⟨some 28, none, .call (.k (.fn (.func 49) [] [])) [.t 27, .k (.str [35])]⟩,
  ⟨some 26, none, .mv (.t 28)⟩,
  ⟨some 29, none, .ex (.t 26) 0⟩,
  ⟨some 30, none, .ex (.t 26) 1⟩,
  ⟨some 5, none, .mv (.t 29)⟩,
  ⟨some 6, none, .mv (.t 30)⟩]) (.seq (.ops [⟨some 31, none, .mv (.t 6)⟩]) (.cond (.t 31) (.seq (.ops [⟨some 32, none, .mv (.t 5)⟩,
  ⟨some 33, none, .call (.k (.fn (.func 118) [] [])) [.t 32, .k (.str [48, 49, 50, 51, 52, 53, 54, 55, 56, 57]), .k (.int .i64 7), .k (.int .i64 10)]⟩,
  ⟨some 2, none, .mv (.t 33)⟩]) (.ret)) (.skip)))) (.seq (.ops [⟨some 2, none, .mv (.k (.str []))⟩]) (.ret)))))⟩
theorem fk100 (G : GT) : FOk Tryz.prog tt G 100 c100 := ⟨_, Tryz.func100, by kernel_rfl⟩
def l108_0b : CC := .seq (.seq (.ops [⟨some 5, none, .mv (.t 0)⟩,
  ⟨some 6, none, .lens (.t 5)⟩,
  ⟨some 7, none, .bin .gtr (.int .i64) true (.t 6) (.k (.int .i64 0))⟩]) (.cond (.t 7) (.skip) (.exit 0))) (.block 1 (.seq (.seq (.ops [⟨some 8, none, .mv (.t 1)⟩,
  ⟨some 9, none, .mv (.t 0)⟩,
  ⟨some 10, none, .ixstr (.t 9) (.k (.int .i64 0))⟩,
  ⟨some 11, none, .call (.k (.fn (.func 119) [] [])) [.t 8, .t 10]⟩,
  ⟨some 12, none, .un .not (.t 11)⟩]) (.cond (.t 12) (.exit 0) (.skip))) (.ops [⟨some 13, none, .mv (.t 0)⟩,
  ⟨some 14, none, .slstr (.t 13) (some (.k (.int .i64 1))) none⟩,
  ⟨some 0, none, .mv (.t 14)⟩])))
def l108_0 : CC := l108_0b
theorem l108_0x (P : Program) (T : TT) (G : GT) (Q : EQ) (t : Env) (σ : St) : aC P T G l108_0 Q t σ = aC P T G l108_0b Q t σ := rfl
/-- strings.trimLeftASCII -/
def c108 : CF := ⟨16, [.t 4], .seq (.ops [⟨some 4, none, .mv (.k (.str []))⟩]) (.seq (.block 0 (.loop l108_0)) (.seq (.ops [⟨some 15, none, .mv (.t 0)⟩,
  ⟨some 4, none, .mv (.t 15)⟩]) (.ret)))⟩
theorem fk108 (G : GT) : FOk Tryz.prog tt G 108 c108 := ⟨_, Tryz.func108, by kernel_rfl⟩
def l109_0b : CC := .seq (.seq (.ops [⟨some 5, none, .mv (.t 0)⟩,
  ⟨some 6, none, .lens (.t 5)⟩,
  ⟨some 7, none, .bin .gtr (.int .i64) true (.t 6) (.k (.int .i64 0))⟩]) (.cond (.t 7) (.skip) (.exit 0))) (.block 1 (.seq (.seq (.ops [⟨some 8, none, .mv (.t 1)⟩,
  ⟨some 9, none, .mv (.t 0)⟩,
  ⟨some 10, none, .mv (.t 0)⟩,
  ⟨some 11, none, .lens (.t 10)⟩,
  ⟨some 12, none, .bin .sub (.int .i64) true (.t 11) (.k (.int .i64 1))⟩,
  ⟨some 13, none, .ixstr (.t 9) (.t 12)⟩,
  ⟨some 14, none, .call (.k (.fn (.func 119) [] [])) [.t 8, .t 13]⟩,
  ⟨some 15, none, .un .not (.t 14)⟩]) (.cond (.t 15) (.exit 0) (.skip))) (.ops [⟨some 16, none, .mv (.t 0)⟩,
  ⟨some 17, none, .mv (.t 0)⟩,
  ⟨some 18, none, .lens (.t 17)⟩,
  ⟨some 19, none, .bin .sub (.int .i64) true (.t 18) (.k (.int .i64 1))⟩,
  ⟨some 20, none, .slstr (.t 16) none (some (.t 19))⟩,
  ⟨some 0, none, .mv (.t 20)⟩])))
def l109_0 : CC := l109_0b
theorem l109_0x (P : Program) (T : TT) (G : GT) (Q : EQ) (t : Env) (σ : St) : aC P T G l109_0 Q t σ = aC P T G l109_0b Q t σ := rfl
/-- strings.trimRightASCII -/
def c109 : CF := ⟨22, [.t 4], .seq (.ops [⟨some 4, none, .mv (.k (.str []))⟩]) (.seq (.block 0 (.loop l109_0)) (.seq (.ops [⟨some 21, none, .mv (.t 0)⟩,
  ⟨some 4, none, .mv (.t 21)⟩]) (.ret)))⟩
theorem fk109 (G : GT) : FOk Tryz.prog tt G 109 c109 := ⟨_, Tryz.func109, by kernel_rfl⟩
/-- (*strings.Replacer).buildOnce -/
def c115 : CF := ⟨10, [], .seq (.ops [⟨some 2, none, .mv (.t 0)⟩,
  ⟨some 3, none, .mv (.t 0)⟩,
  ⟨some 4, none, .call (.k (.fn (.func 127) [] [])) [.t 3]⟩,
  ⟨some 5, none, .nilc (.t 2)⟩,
  ⟨some 6, none, .fa 3 (.t 5)⟩,
  ⟨none, none, .st 1 (.t 6) (.t 4)⟩]) (.ops [⟨some 7, none, .mv (.t 0)⟩,
  ⟨some 8, none, .nilc (.t 7)⟩,
  ⟨some 9, none, .fa 4 (.t 8)⟩,
  ⟨none, none, .st 1 (.t 9) (.k (.nils))⟩])⟩
theorem fk115 (G : GT) : FOk Tryz.prog tt G 115 c115 := ⟨_, Tryz.func115, by kernel_rfl⟩
/-- comptoir/token.number -/
def c118 : CF := ⟨53, [.t 8], .seq (.ops [⟨some 8, none, .mv (.k (.str []))⟩]) (.seq (.seq (.ops [⟨some 12, none, .mv (.t 0)⟩,
  ⟨some 13, none, .bin .eql (.str) true (.t 12) (.k (.str []))⟩,
  ⟨some 14, none, .mv (.t 13)⟩,
  ⟨some 15, some (14, false), .mv (.t 0)⟩,
  ⟨some 16, some (14, false), .lens (.t 15)⟩,
  ⟨some 17, some (14, false), .mv (.t 2)⟩,
  ⟨some 18, some (14, false), .bin .gtr (.int .i64) false (.t 16) (.t 17)⟩,
  ⟨some 19, none, .pick (.t 14) (.k (.bool true)) (.t 18)⟩,
  ⟨some 20, none, .mv (.t 19)⟩,
  ⟨some 21, some (20, false), .mv (.t 0)⟩,
  ⟨some 22, some (20, false), .mv (.t 1)⟩,
  ⟨some 23, some (20, false), .call (.k (.fn (.func 129) [] [])) [.t 21, .t 22]⟩,
  ⟨some 24, some (20, false), .mv (.t 1)⟩,
  ⟨some 25, some (20, false), .call (.k (.fn (.func 128) [] [])) [.t 23, .t 24]⟩,
  ⟨some 26, some (20, false), .bin .neq (.str) true (.t 25) (.k (.str []))⟩,
  ⟨some 27, none, .pick (.t 20) (.k (.bool true)) (.t 26)⟩]) (.cond (.t 27) (.seq (.ops [⟨some 8, none, .mv (.k (.str []))⟩]) (.ret)) (.skip))) (.seq (.ops [⟨some 29, none, .mv (.t 0)⟩,
  ⟨some 30, none, .mv (.t 3)⟩,
  ⟨some 31, none, .call (.k (.fn (.func 130) [] [])) [.t 29, .t 30, .k (.int .i64 32)]⟩,
  ⟨some 28, none, .mv (.t 31)⟩,
  ⟨some 32, none, .ex (.t 28) 0⟩,
  ⟨some 33, none, .ex (.t 28) 1⟩,
  ⟨some 9, none, .mv (.t 32)⟩,
  ⟨some 10, none, .mv (.t 33)⟩]) (.seq (.seq (.ops [⟨some 34, none, .mv (.t 10)⟩,
  ⟨some 35, none, .bin .neq (.iface) true (.t 34) (.k (.nili))⟩,
  ⟨some 36, none, .mv (.t 35)⟩,
  ⟨some 37, some (36, false), .mv (.t 9)⟩,
  ⟨some 38, some (36, false), .bin .gtr (.int .u64) true (.t 37) (.k (.int .u64 1114111))⟩,
  ⟨some 39, none, .pick (.t 36) (.k (.bool true)) (.t 38)⟩,
  ⟨some 40, none, .mv (.t 39)⟩,
  ⟨some 41, some (40, false), .mv (.t 9)⟩,
  ⟨some 42, some (40, false), .cvi .i32 (.t 41)⟩,
  ⟨some 43, some (40, false), .call (.k (.fn (.func 131) [] [])) [.t 42]⟩,
  ⟨some 44, some (40, false), .un .not (.t 43)⟩,
  ⟨some 45, none, .pick (.t 40) (.k (.bool true)) (.t 44)⟩]) (.cond (.t 45) (.seq (.ops [⟨some 8, none, .mv (.k (.str []))⟩]) (.ret)) (.skip))) (.seq (.ops [⟨some 46, none, .mv (.t 9)⟩,
  ⟨some 47, none, .cvi .i32 (.t 46)⟩,
  ⟨some 48, none, .cvs (.t 47)⟩,
  ⟨some 11, none, .mv (.t 48)⟩]) (.seq (.seq (.ops [⟨some 49, none, .mv (.t 11)⟩,
  ⟨some 50, none, .call (.k (.fn (.func 29) [] [])) [.t 49]⟩,
  ⟨some 51, none, .un .not (.t 50)⟩]) (.cond (.t 51) (.seq (.ops [⟨some 8, none, .mv (.k (.str []))⟩]) (.ret)) (.skip))) (.seq (.ops [⟨some 52, none, .mv (.t 11)⟩,
  ⟨some 8, none, .mv (.t 52)⟩]) (.ret)))))))⟩
theorem fk118 (G : GT) : FOk Tryz.prog tt G 118 c118 := ⟨_, Tryz.func118, by kernel_rfl⟩
/-- (*strings.asciiSet).contains -/
def c119 : CF := ⟨10, [.t 4], .seq (.ops [⟨some 4, none, .mv (.k (.bool false))⟩]) (.seq (.ops [⟨some 5, none, .mv (.t 0)⟩,
  ⟨some 6, none, .mv (.t 1)⟩,
  ⟨some 7, none, .nilc (.t 5)⟩,
  ⟨some 8, none, .ixa 256 1 (.t 7) (.t 6)⟩,
  ⟨some 9, none, .ld none (.t 8)⟩,
  ⟨some 4, none, .mv (.t 9)⟩]) (.ret))⟩
theorem fk119 (G : GT) : FOk Tryz.prog tt G 119 c119 := ⟨_, Tryz.func119, by kernel_rfl⟩
def l127_0b : CC := .seq (.seq (.ops [⟨some 37, none, .mv (.t 5)⟩,
  ⟨some 38, none, .mv (.t 3)⟩,
  ⟨some 39, none, .lenl (.t 38)⟩,
  ⟨some 40, none, .bin .lss (.int .i64) false (.t 37) (.t 39)⟩]) (.cond (.t 40) (.skip) (.exit 0))) (.seq (.block 1 (.seq (.seq (.ops [⟨some 43, none, .mv (.t 3)⟩,
  ⟨some 44, none, .mv (.t 5)⟩,
  ⟨some 45, none, .ixs 1 (.t 43) (.t 44)⟩,
  ⟨some 46, none, .ld none (.t 45)⟩,
  ⟨some 47, none, .lens (.t 46)⟩,
  ⟨some 48, none, .bin .neq (.int .i64) true (.t 47) (.k (.int .i64 1))⟩]) (.cond (.t 48) (.seq (.ops [⟨some 49, none, .mv (.t 3)⟩,
  ⟨some 50, none, .call (.k (.fn (.func 143) [] [])) [.t 49]⟩,
  ⟨some 51, none, .ifc 179 (.t 50)⟩,
  ⟨some 2, none, .mv (.t 51)⟩]) (.ret)) (.skip))) (.seq (.ops [⟨some 52, none, .mv (.t 3)⟩,
  ⟨some 53, none, .mv (.t 5)⟩,
  ⟨some 54, none, .bin .add (.int .i64) true (.t 53) (.k (.int .i64 1))⟩,
  ⟨some 55, none, .ixs 1 (.t 52) (.t 54)⟩,
  ⟨some 56, none, .ld none (.t 55)⟩,
  ⟨some 57, none, .lens (.t 56)⟩,
  ⟨some 58, none, .bin .neq (.int .i64) true (.t 57) (.k (.int .i64 1))⟩]) (.cond (.t 58) (.ops [⟨some 4, none, .mv (.k (.bool false))⟩]) (.skip))))) (.ops [⟨some 41, none, .mv (.t 5)⟩,
  ⟨some 42, none, .bin .add (.int .i64) true (.t 41) (.k (.int .i64 2))⟩,
  ⟨some 5, none, .mv (.t 42)⟩]))
def l127_0 : CC := l127_0b
theorem l127_0x (P : Program) (T : TT) (G : GT) (Q : EQ) (t : Env) (σ : St) : aC P T G l127_0 Q t σ = aC P T G l127_0b Q t σ := rfl
def l127_1b : CC := .seq (.ops [⟨some 62, none, .bin .lss (.int .i64) true (.t 61) (.k (.int .i64 256))⟩]) (.seq (.cond (.t 62) (.skip) (.exit 2)) (.seq (.block 3 (.seq (.ops [⟨some 63, none, .mv (.t 61)⟩,
  ⟨some 7, none, .mv (.t 63)⟩]) (.ops [⟨some 64, none, .mv (.t 7)⟩,
  ⟨some 65, none, .mv (.t 7)⟩,
  ⟨some 66, none, .cvi .u8 (.t 65)⟩,
  ⟨some 67, none, .ixa 256 1 (.t 6) (.t 64)⟩,
  ⟨none, none, .st 1 (.t 67) (.t 66)⟩]))) (.ops [⟨some 68, none, .bin .add (.int .i64) true (.t 61) (.k (.int .i64 1))⟩,
  ⟨some 61, none, .mv (.t 68)⟩])))
def l127_1 : CC := l127_1b
def l127_2b : CC := .seq (.seq (.ops [⟨some 72, none, .mv (.t 8)⟩,
  ⟨some 73, none, .bin .geq (.int .i64) true (.t 72) (.k (.int .i64 0))⟩]) (.cond (.t 73) (.skip) (.exit 4))) (.seq (.block 5 (.seq (.ops [⟨some 76, none, .mv (.t 3)⟩,
  ⟨some 77, none, .mv (.t 8)⟩,
  ⟨some 78, none, .ixs 1 (.t 76) (.t 77)⟩,
  ⟨some 79, none, .ld none (.t 78)⟩,
  ⟨some 80, none, .ixstr (.t 79) (.k (.int .i64 0))⟩,
  ⟨some 9, none, .mv (.t 80)⟩]) (.seq (.ops [⟨some 81, none, .mv (.t 3)⟩,
  ⟨some 82, none, .mv (.t 8)⟩,
  ⟨some 83, none, .bin .add (.int .i64) true (.t 82) (.k (.int .i64 1))⟩,
  ⟨some 84, none, .ixs 1 (.t 81) (.t 83)⟩,
  ⟨some 85, none, .ld none (.t 84)⟩,
  ⟨some 86, none, .ixstr (.t 85) (.k (.int .i64 0))⟩,
  ⟨some 10, none, .mv (.t 86)⟩]) (.ops [⟨some 87, none, .mv (.t 9)⟩,
  ⟨some 88, none, .mv (.t 10)⟩,
  ⟨some 89, none, .ixa 256 1 (.t 6) (.t 87)⟩,
  ⟨none, none, .st 1 (.t 89) (.t 88)⟩])))) (.ops [⟨some 74, none, .mv (.t 8)⟩,
  ⟨some 75, none, .bin .sub (.int .i64) true (.t 74) (.k (.int .i64 2))⟩,
  ⟨some 8, none, .mv (.t 75)⟩]))
def l127_2 : CC := l127_2b
def l127_3b : CC := .seq (.seq (.ops [⟨some 99, none, .mv (.t 12)⟩,
  ⟨some 100, none, .bin .geq (.int .i64) true (.t 99) (.k (.int .i64 0))⟩]) (.cond (.t 100) (.skip) (.exit 6))) (.seq (.block 7 (.seq (.ops [⟨some 103, none, .mv (.t 3)⟩,
  ⟨some 104, none, .mv (.t 12)⟩,
  ⟨some 105, none, .ixs 1 (.t 103) (.t 104)⟩,
  ⟨some 106, none, .ld none (.t 105)⟩,
  ⟨some 107, none, .ixstr (.t 106) (.k (.int .i64 0))⟩,
  ⟨some 13, none, .mv (.t 107)⟩]) (.seq (.ops [⟨some 108, none, .mv (.t 3)⟩,
  ⟨some 109, none, .mv (.t 12)⟩,
  ⟨some 110, none, .bin .add (.int .i64) true (.t 109) (.k (.int .i64 1))⟩,
  ⟨some 111, none, .ixs 1 (.t 108) (.t 110)⟩,
  ⟨some 112, none, .ld none (.t 111)⟩,
  ⟨some 14, none, .mv (.t 112)⟩]) (.seq (.seq (.ops [⟨some 113, none, .mv (.t 13)⟩,
  ⟨some 114, none, .fa 0 (.t 11)⟩,
  ⟨some 115, none, .ixa 256 1 (.t 114) (.t 113)⟩,
  ⟨some 116, none, .ld none (.t 115)⟩,
  ⟨some 117, none, .bin .eql (.slice 5) true (.t 116) (.k (.nils))⟩]) (.cond (.t 117) (.ops [⟨some 118, none, .fa 256 (.t 11)⟩,
  ⟨some 119, none, .ld none (.t 118)⟩,
  ⟨some 120, none, .mv (.t 13)⟩,
  ⟨some 121, none, .mks 5 1 [.int .u8 0] 1 [(0, .t 120)]⟩,
  ⟨some 122, none, .more (.b2s 80) [.t 121]⟩,
  ⟨some 123, none, .mks 9 1 [.str []] 1 [(0, .t 122)]⟩,
  ⟨some 124, none, .app 9 1 16 (.t 119) (.t 123)⟩,
  ⟨some 125, none, .fa 256 (.t 11)⟩,
  ⟨none, none, .st 1 (.t 125) (.t 124)⟩]) (.skip))) (.ops [⟨some 126, none, .mv (.t 13)⟩,
  ⟨some 127, none, .mv (.t 14)⟩,
  ⟨some 128, none, .more (.s2b 5) [.t 127]⟩,
  ⟨some 129, none, .fa 0 (.t 11)⟩,
  ⟨some 130, none, .ixa 256 1 (.t 129) (.t 126)⟩,
  ⟨none, none, .st 1 (.t 130) (.t 128)⟩]))))) (.ops [⟨some 101, none, .mv (.t 12)⟩,
  ⟨some 102, none, .bin .sub (.int .i64) true (.t 101) (.k (.int .i64 2))⟩,
  ⟨some 12, none, .mv (.t 102)⟩]))
def l127_3 : CC := l127_3b
theorem l127_3x (P : Program) (T : TT) (G : GT) (Q : EQ) (t : Env) (σ : St) : aC P T G l127_3 Q t σ = aC P T G l127_3b Q t σ := rfl
/-- (*strings.Replacer).build -/
def c127 : CF := ⟨132, [.t 2], .seq (.ops [⟨some 2, none, .mv (.k (.nili))⟩]) (.seq (.ops [⟨some 15, none, .mv (.t 0)⟩,
  ⟨some 16, none, .nilc (.t 15)⟩,
  ⟨some 17, none, .fa 4 (.t 16)⟩,
  ⟨some 18, none, .ld none (.t 17)⟩,
  ⟨some 3, none, .mv (.t 18)⟩]) (.seq (.seq (.ops [⟨some 19, none, .mv (.t 3)⟩,
  ⟨some 20, none, .lenl (.t 19)⟩,
  ⟨some 21, none, .bin .eql (.int .i64) true (.t 20) (.k (.int .i64 2))⟩,
  ⟨some 22, none, .mv (.t 21)⟩,
  ⟨some 23, some (22, true), .mv (.t 3)⟩,
  ⟨some 24, some (22, true), .ixs 1 (.t 23) (.k (.int .i64 0))⟩,
  ⟨some 25, some (22, true), .ld none (.t 24)⟩,
  ⟨some 26, some (22, true), .lens (.t 25)⟩,
  ⟨some 27, some (22, true), .bin .gtr (.int .i64) true (.t 26) (.k (.int .i64 1))⟩,
  ⟨some 28, none, .pick (.t 22) (.t 27) (.k (.bool false))⟩]) (.cond (.t 28) (.seq (.mix (.q 0 ⟨some 29, none, .mv (.t 3)⟩ (.q 1 ⟨some 30, none, .ixs 1 (.t 29) (.k (.int .i64 0))⟩ (.q 1 ⟨some 31, none, .ld none (.t 30)⟩ (.q 0 ⟨some 32, none, .mv (.t 3)⟩ (.q 1 ⟨some 33, none, .ixs 1 (.t 32) (.k (.int .i64 1))⟩ (.q 1 ⟨some 34, none, .ld none (.t 33)⟩ (.f ⟨some 35, none, .call (.k (.fn (.func 142) [] [])) [.t 31, .t 34]⟩ (.q 0 ⟨some 36, none, .ifc 177 (.t 35)⟩ (.q 0 ⟨some 2, none, .mv (.t 36)⟩ (.done))))))))))) (.ret)) (.skip))) (.seq (.ops [⟨some 4, none, .mv (.k (.bool true))⟩]) (.seq (.seq (.ops [⟨some 5, none, .mv (.k (.int .i64 0))⟩]) (.block 0 (.loop l127_0))) (.seq (.seq (.ops [⟨some 59, none, .mv (.t 4)⟩]) (.cond (.t 59) (.seq (.ops [⟨some 60, none, .mk (List.replicate 256 (.int .u8 0)) []⟩,
  ⟨some 6, none, .alloc 181 (List.replicate 256 (.int .u8 0))⟩,
  ⟨none, none, .st 256 (.t 6) (.t 60)⟩]) (.seq (.seq (.ops [⟨some 61, none, .mv (.k (.int .i64 0))⟩]) (.block 2 (.loop l127_1))) (.seq (.seq (.ops [⟨some 69, none, .mv (.t 3)⟩,
  ⟨some 70, none, .lenl (.t 69)⟩,
  ⟨some 71, none, .bin .sub (.int .i64) true (.t 70) (.k (.int .i64 2))⟩,
  ⟨some 8, none, .mv (.t 71)⟩]) (.block 4 (.loop l127_2))) (.seq (.ops [⟨some 90, none, .ifc 182 (.t 6)⟩,
  ⟨some 2, none, .mv (.t 90)⟩]) (.ret))))) (.skip))) (.seq (.ops [⟨some 91, none, .mv (.t 3)⟩,
  ⟨some 92, none, .lenl (.t 91)⟩,
  ⟨some 93, none, .bin .quo (.int .i64) true (.t 92) (.k (.int .i64 2))⟩,
  ⟨some 94, none, .more (.mksl 9 1 16 [.str []]) [(.k (.int .i64 0)), (.t 93)]⟩,
  ⟨some 95, none, .mk (List.replicate 257 (.nils)) [(256, 1, .t 94)]⟩,
  ⟨some 11, none, .alloc 185 (List.replicate 257 (.nils))⟩,
  ⟨none, none, .st 257 (.t 11) (.t 95)⟩]) (.seq (.seq (.ops [⟨some 96, none, .mv (.t 3)⟩,
  ⟨some 97, none, .lenl (.t 96)⟩,
  ⟨some 98, none, .bin .sub (.int .i64) true (.t 97) (.k (.int .i64 2))⟩,
  ⟨some 12, none, .mv (.t 98)⟩]) (.block 6 (.loop l127_3))) (.seq (.ops [⟨some 131, none, .ifc 186 (.t 11)⟩,
  ⟨some 2, none, .mv (.t 131)⟩]) (.ret)))))))))⟩
theorem fk127 (G : GT) : FOk Tryz.prog tt G 127 c127 := ⟨_, Tryz.func127, by kernel_rfl⟩
def l128_0b : CC := .seq (.ops [⟨some 20, none, .more .nxt [.t 19]⟩,
  ⟨some 21, none, .ex (.t 20) 0⟩]) (.seq (.cond (.t 21) (.skip) (.exit 2)) (.block 3 (.seq (.ops [⟨some 22, none, .ex (.t 20) 2⟩,
  ⟨some 9, none, .mv (.t 22)⟩]) (.ops [⟨some 23, none, .mv (.t 7)⟩,
  ⟨some 24, none, .mv (.t 23)⟩,
  ⟨some 25, some (24, false), .mv (.t 5)⟩,
  ⟨some 26, some (24, false), .mv (.t 9)⟩,
  ⟨some 27, some (24, false), .bin .eql (.int .i32) false (.t 25) (.t 26)⟩,
  ⟨some 28, none, .pick (.t 24) (.k (.bool true)) (.t 27)⟩,
  ⟨some 7, none, .mv (.t 28)⟩]))))
def l128_0 : CC := l128_0b
theorem l128_0x (P : Program) (T : TT) (G : GT) (Q : EQ) (t : Env) (σ : St) : aC P T G l128_0 Q t σ = aC P T G l128_0b Q t σ := rfl
def l128_1b : CC := .seq (.seq (.ops [⟨some 10, none, .mv (.t 0)⟩,
  ⟨some 11, none, .lens (.t 10)⟩,
  ⟨some 12, none, .bin .gtr (.int .i64) true (.t 11) (.k (.int .i64 0))⟩]) (.cond (.t 12) (.skip) (.exit 0))) (.block 1 (.seq (.ops [⟨some 14, none, .mv (.t 0)⟩,
  ⟨some 15, none, .call (.k (.fn (.func 122) [] [])) [.t 14]⟩,
  ⟨some 13, none, .mv (.t 15)⟩,
  ⟨some 16, none, .ex (.t 13) 0⟩,
  ⟨some 17, none, .ex (.t 13) 1⟩,
  ⟨some 5, none, .mv (.t 16)⟩,
  ⟨some 6, none, .mv (.t 17)⟩]) (.seq (.ops [⟨some 7, none, .mv (.k (.bool false))⟩]) (.seq (.seq (.ops [⟨some 18, none, .mv (.t 1)⟩,
  ⟨some 19, none, .more .rng [.t 18]⟩]) (.block 2 (.loop l128_0))) (.seq (.seq (.ops [⟨some 29, none, .mv (.t 7)⟩,
  ⟨some 30, none, .un .not (.t 29)⟩]) (.cond (.t 30) (.seq (.ops [⟨some 31, none, .mv (.t 0)⟩,
  ⟨some 4, none, .mv (.t 31)⟩]) (.ret)) (.skip))) (.ops [⟨some 32, none, .mv (.t 0)⟩,
  ⟨some 33, none, .mv (.t 0)⟩,
  ⟨some 34, none, .lens (.t 33)⟩,
  ⟨some 35, none, .mv (.t 6)⟩,
  ⟨some 36, none, .bin .sub (.int .i64) false (.t 34) (.t 35)⟩,
  ⟨some 37, none, .slstr (.t 32) none (some (.t 36))⟩,
  ⟨some 0, none, .mv (.t 37)⟩]))))))
def l128_1 : CC := l128_1b
theorem l128_1x (P : Program) (T : TT) (G : GT) (Q : EQ) (t : Env) (σ : St) : aC P T G l128_1 Q t σ = aC P T G l128_1b Q t σ := rfl
/-- comptoir/token.cutRight -/
def c128 : CF := ⟨39, [.t 4], .seq (.ops [⟨some 4, none, .mv (.k (.str []))⟩]) (.seq (.block 0 (.loop l128_1)) (.seq (.ops [⟨some 38, none, .mv (.t 0)⟩,
  ⟨some 4, none, .mv (.t 38)⟩]) (.ret)))⟩
theorem fk128 (G : GT) : FOk Tryz.prog tt G 128 c128 := ⟨_, Tryz.func128, by kernel_rfl⟩
def l129_0b : CC := .seq (.ops [⟨some 18, none, .more .nxt [.t 17]⟩,
  ⟨some 19, none, .ex (.t 18) 0⟩]) (.seq (.cond (.t 19) (.skip) (.exit 2)) (.block 3 (.seq (.ops [⟨some 20, none, .ex (.t 18) 2⟩,
  ⟨some 9, none, .mv (.t 20)⟩]) (.ops [⟨some 21, none, .mv (.t 7)⟩,
  ⟨some 22, none, .mv (.t 21)⟩,
  ⟨some 23, some (22, false), .mv (.t 6)⟩,
  ⟨some 24, some (22, false), .mv (.t 9)⟩,
  ⟨some 25, some (22, false), .bin .eql (.int .i32) false (.t 23) (.t 24)⟩,
  ⟨some 26, none, .pick (.t 22) (.k (.bool true)) (.t 25)⟩,
  ⟨some 7, none, .mv (.t 26)⟩]))))
def l129_0 : CC := l129_0b
theorem l129_0x (P : Program) (T : TT) (G : GT) (Q : EQ) (t : Env) (σ : St) : aC P T G l129_0 Q t σ = aC P T G l129_0b Q t σ := rfl
def l129_1b : CC := .seq (.ops [⟨some 12, none, .more .nxt [.t 11]⟩,
  ⟨some 13, none, .ex (.t 12) 0⟩]) (.seq (.cond (.t 13) (.skip) (.exit 0)) (.block 1 (.seq (.ops [⟨some 14, none, .ex (.t 12) 1⟩,
  ⟨some 15, none, .ex (.t 12) 2⟩,
  ⟨some 5, none, .mv (.t 14)⟩,
  ⟨some 6, none, .mv (.t 15)⟩]) (.seq (.ops [⟨some 7, none, .mv (.k (.bool false))⟩]) (.seq (.seq (.ops [⟨some 16, none, .mv (.t 1)⟩,
  ⟨some 17, none, .more .rng [.t 16]⟩]) (.block 2 (.loop l129_0))) (.seq (.ops [⟨some 27, none, .mv (.t 7)⟩,
  ⟨some 28, none, .un .not (.t 27)⟩]) (.cond (.t 28) (.seq (.ops [⟨some 29, none, .mv (.t 0)⟩,
  ⟨some 30, none, .mv (.t 5)⟩,
  ⟨some 31, none, .slstr (.t 29) (some (.t 30)) none⟩,
  ⟨some 4, none, .mv (.t 31)⟩]) (.ret)) (.skip))))))))
def l129_1 : CC := l129_1b
theorem l129_1x (P : Program) (T : TT) (G : GT) (Q : EQ) (t : Env) (σ : St) : aC P T G l129_1 Q t σ = aC P T G l129_1b Q t σ := rfl
/-- comptoir/token.cutLeft -/
def c129 : CF := ⟨32, [.t 4], .seq (.ops [⟨some 4, none, .mv (.k (.str []))⟩]) (.seq (.seq (.ops [⟨some 10, none, .mv (.t 0)⟩,
  ⟨some 11, none, .more .rng [.t 10]⟩]) (.block 0 (.loop l129_1))) (.seq (.ops [⟨some 4, none, .mv (.k (.str []))⟩]) (.ret)))⟩
theorem fk129 (G : GT) : FOk Tryz.prog tt G 129 c129 := ⟨_, Tryz.func129, by kernel_rfl⟩
/-- strconv.ParseUint -/
def c130 : CF := ⟨26, [.t 6, .t 7], .seq (.ops [⟨some 6, none, .mv (.k (.int .u64 0))⟩,
  ⟨some 7, none, .mv (.k (.nili))⟩]) (.seq (.ops [⟨some 11, none, .mv (.t 0)⟩,
  ⟨some 12, none, .mv (.t 1)⟩,
  ⟨some 13, none, .mv (.t 2)⟩,
  ⟨some 14, none, .call (.k (.fn (.func 144) [] [])) [.t 11, .t 12, .t 13]⟩,
  ⟨some 10, none, .mv (.t 14)⟩,
  ⟨some 15, none, .ex (.t 10) 0⟩,
  ⟨some 16, none, .ex (.t 10) 1⟩,
  ⟨some 8, none, .mv (.t 15)⟩,
  ⟨some 9, none, .mv (.t 16)⟩]) (.seq (.seq (.ops [⟨some 17, none, .mv (.t 9)⟩,
  ⟨some 18, none, .bin .neq (.iface) true (.t 17) (.k (.nili))⟩]) (.cond (.t 18) (.seq (.ops [⟨some 19, none, .mv (.t 8)⟩,
  ⟨some 20, none, .mv (.t 0)⟩,
  ⟨some 21, none, .mv (.t 1)⟩,
  ⟨some 22, none, .mv (.t 2)⟩,
  ⟨some 23, none, .mv (.t 9)⟩,
  ⟨some 24, none, .call (.k (.fn (.func 145) [] [])) [.k (.str [80, 97, 114, 115, 101, 85, 105, 110, 116]), .t 20, .t 21, .t 22, .t 23]⟩,
  ⟨some 6, none, .mv (.t 19)⟩,
  ⟨some 7, none, .mv (.t 24)⟩]) (.ret)) (.skip))) (.seq (.ops [⟨some 25, none, .mv (.t 8)⟩,
  ⟨some 6, none, .mv (.t 25)⟩,
  ⟨some 7, none, .mv (.k (.nili))⟩]) (.ret))))⟩
theorem fk130 (G : GT) : FOk Tryz.prog tt G 130 c130 := ⟨_, Tryz.func130, by kernel_rfl⟩
def l144_0b : CC := .seq (.ops [⟨some 102, none, .bin .lss (.int .i64) false (.t 101) (.t 100)⟩]) (.seq (.cond (.t 102) (.skip) (.exit 3)) (.seq (.block 4 (.seq (.ops [⟨some 103, none, .ixs 1 (.t 99) (.t 101)⟩,
  ⟨some 104, none, .ld none (.t 103)⟩,
  ⟨some 15, none, .mv (.t 104)⟩]) (.seq (.ops [⟨some 16, none, .mv (.k (.int .u8 0))⟩]) (.seq (.block 5 (.seq (.ops [⟨some 107, none, .mv (.t 15)⟩,
  ⟨some 108, none, .bin .eql (.int .u8) true (.t 107) (.k (.int .u8 95))⟩,
  ⟨some 109, none, .mv (.t 108)⟩,
  ⟨some 110, some (109, true), .mv (.t 8)⟩,
  ⟨some 111, none, .pick (.t 109) (.t 110) (.k (.bool false))⟩,
  ⟨some 106, none, .mv (.t 111)⟩]) (.cond (.t 106) (.seq (.ops [⟨some 12, none, .mv (.k (.bool true))⟩]) (.exit 4)) (.seq (.ops [⟨some 113, none, .mv (.t 15)⟩,
  ⟨some 114, none, .bin .leq (.int .u8) true (.k (.int .u8 48)) (.t 113)⟩,
  ⟨some 115, none, .mv (.t 114)⟩,
  ⟨some 116, some (115, true), .mv (.t 15)⟩,
  ⟨some 117, some (115, true), .bin .leq (.int .u8) true (.t 116) (.k (.int .u8 57))⟩,
  ⟨some 118, none, .pick (.t 115) (.t 117) (.k (.bool false))⟩,
  ⟨some 112, none, .mv (.t 118)⟩]) (.cond (.t 112) (.ops [⟨some 119, none, .mv (.t 15)⟩,
  ⟨some 120, none, .bin .sub (.int .u8) true (.t 119) (.k (.int .u8 48))⟩,
  ⟨some 16, none, .mv (.t 120)⟩]) (.seq (.ops [⟨some 122, none, .mv (.t 15)⟩,
  ⟨some 123, none, .call (.k (.fn (.func 153) [] [])) [.t 122]⟩,
  ⟨some 124, none, .bin .leq (.int .u8) true (.k (.int .u8 97)) (.t 123)⟩,
  ⟨some 125, none, .mv (.t 124)⟩,
  ⟨some 126, some (125, true), .mv (.t 15)⟩,
  ⟨some 127, some (125, true), .call (.k (.fn (.func 153) [] [])) [.t 126]⟩,
  ⟨some 128, some (125, true), .bin .leq (.int .u8) true (.t 127) (.k (.int .u8 122))⟩,
  ⟨some 129, none, .pick (.t 125) (.t 128) (.k (.bool false))⟩,
  ⟨some 121, none, .mv (.t 129)⟩]) (.cond (.t 121) (.ops [⟨some 130, none, .mv (.t 15)⟩,
  ⟨some 131, none, .call (.k (.fn (.func 153) [] [])) [.t 130]⟩,
  ⟨some 132, none, .bin .sub (.int .u8) true (.t 131) (.k (.int .u8 97))⟩,
  ⟨some 133, none, .bin .add (.int .u8) true (.t 132) (.k (.int .u8 10))⟩,
  ⟨some 16, none, .mv (.t 133)⟩]) (.seq (.ops [⟨some 105, none, .ifc 204 (.k (.int .i64 2))⟩,
  ⟨some 6, none, .mv (.k (.int .u64 0))⟩,
  ⟨some 7, none, .mv (.t 105)⟩]) (.ret))))))))) (.seq (.seq (.ops [⟨some 134, none, .mv (.t 16)⟩,
  ⟨some 135, none, .mv (.t 1)⟩,
  ⟨some 136, none, .cvi .u8 (.t 135)⟩,
  ⟨some 137, none, .bin .geq (.int .u8) false (.t 134) (.t 136)⟩]) (.cond (.t 137) (.seq (.ops [⟨some 138, none, .ifc 204 (.k (.int .i64 2))⟩,
  ⟨some 6, none, .mv (.k (.int .u64 0))⟩,
  ⟨some 7, none, .mv (.t 138)⟩]) (.ret)) (.skip))) (.seq (.seq (.ops [⟨some 139, none, .mv (.t 13)⟩,
  ⟨some 140, none, .mv (.t 10)⟩,
  ⟨some 141, none, .bin .geq (.int .u64) false (.t 139) (.t 140)⟩]) (.cond (.t 141) (.seq (.ops [⟨some 142, none, .mv (.t 11)⟩,
  ⟨some 143, none, .ifc 204 (.k (.int .i64 1))⟩,
  ⟨some 6, none, .mv (.t 142)⟩,
  ⟨some 7, none, .mv (.t 143)⟩]) (.ret)) (.skip))) (.seq (.ops [⟨some 144, none, .mv (.t 13)⟩,
  ⟨some 145, none, .mv (.t 1)⟩,
  ⟨some 146, none, .cvi .u64 (.t 145)⟩,
  ⟨some 147, none, .bin .mul (.int .u64) false (.t 144) (.t 146)⟩,
  ⟨some 13, none, .mv (.t 147)⟩]) (.seq (.ops [⟨some 148, none, .mv (.t 13)⟩,
  ⟨some 149, none, .mv (.t 16)⟩,
  ⟨some 150, none, .cvi .u64 (.t 149)⟩,
  ⟨some 151, none, .bin .add (.int .u64) false (.t 148) (.t 150)⟩,
  ⟨some 17, none, .mv (.t 151)⟩]) (.seq (.seq (.ops [⟨some 152, none, .mv (.t 17)⟩,
  ⟨some 153, none, .mv (.t 13)⟩,
  ⟨some 154, none, .bin .lss (.int .u64) false (.t 152) (.t 153)⟩,
  ⟨some 155, none, .mv (.t 154)⟩,
  ⟨some 156, some (155, false), .mv (.t 17)⟩,
  ⟨some 157, some (155, false), .mv (.t 11)⟩,
  ⟨some 158, some (155, false), .bin .gtr (.int .u64) false (.t 156) (.t 157)⟩,
  ⟨some 159, none, .pick (.t 155) (.k (.bool true)) (.t 158)⟩]) (.cond (.t 159) (.seq (.ops [⟨some 160, none, .mv (.t 11)⟩,
  ⟨some 161, none, .ifc 204 (.k (.int .i64 1))⟩,
  ⟨some 6, none, .mv (.t 160)⟩,
  ⟨some 7, none, .mv (.t 161)⟩]) (.ret)) (.skip))) (.ops [⟨some 162, none, .mv (.t 17)⟩,
  ⟨some 13, none, .mv (.t 162)⟩])))))))))) (.ops [⟨some 163, none, .bin .add (.int .i64) true (.t 101) (.k (.int .i64 1))⟩,
  ⟨some 101, none, .mv (.t 163)⟩])))
def l144_0 : CC := l144_0b
theorem l144_0x (P : Program) (T : TT) (G : GT) (Q : EQ) (t : Env) (σ : St) : aC P T G l144_0 Q t σ = aC P T G l144_0b Q t σ := rfl
/-- internal/strconv.ParseUint -/
def c144 : CF := ⟨172, [.t 6, .t 7], .seq (.ops [⟨some 6, none, .mv (.k (.int .u64 0))⟩,
  ⟨some 7, none, .mv (.k (.nili))⟩]) (.seq (.seq (.ops [⟨some 18, none, .mv (.t 0)⟩,
  ⟨some 19, none, .bin .eql (.str) true (.t 18) (.k (.str []))⟩]) (.cond (.t 19) (.seq (.ops [⟨some 20, none, .ifc 204 (.k (.int .i64 2))⟩,
  ⟨some 6, none, .mv (.k (.int .u64 0))⟩,
  ⟨some 7, none, .mv (.t 20)⟩]) (.ret)) (.skip))) (.seq (.ops [⟨some 21, none, .mv (.t 1)⟩,
  ⟨some 22, none, .bin .eql (.int .i64) true (.t 21) (.k (.int .i64 0))⟩,
  ⟨some 8, none, .mv (.t 22)⟩]) (.seq (.ops [⟨some 23, none, .mv (.t 0)⟩,
  ⟨some 9, none, .mv (.t 23)⟩]) (.seq (.block 0 (.seq (.ops [⟨some 26, none, .mv (.t 1)⟩,
  ⟨some 27, none, .bin .leq (.int .i64) true (.k (.int .i64 2)) (.t 26)⟩,
  ⟨some 28, none, .mv (.t 27)⟩,
  ⟨some 29, some (28, true), .mv (.t 1)⟩,
  ⟨some 30, some (28, true), .bin .leq (.int .i64) true (.t 29) (.k (.int .i64 36))⟩,
  ⟨some 31, none, .pick (.t 28) (.t 30) (.k (.bool false))⟩,
  ⟨some 25, none, .mv (.t 31)⟩]) (.cond (.t 25) (.skip) (.seq (.ops [⟨some 33, none, .mv (.t 1)⟩,
  ⟨some 34, none, .bin .eql (.int .i64) true (.t 33) (.k (.int .i64 0))⟩,
  ⟨some 32, none, .mv (.t 34)⟩]) (.cond (.t 32) (.seq (.ops [⟨some 1, none, .mv (.k (.int .i64 10))⟩]) (.seq (.ops [⟨some 35, none, .mv (.t 0)⟩,
  ⟨some 36, none, .ixstr (.t 35) (.k (.int .i64 0))⟩,
  ⟨some 37, none, .bin .eql (.int .u8) true (.t 36) (.k (.int .u8 48))⟩]) (.cond (.t 37) (.block 1 (.seq (.ops [⟨some 41, none, .mv (.t 0)⟩,
  ⟨some 42, none, .lens (.t 41)⟩,
  ⟨some 43, none, .bin .geq (.int .i64) true (.t 42) (.k (.int .i64 3))⟩,
  ⟨some 44, none, .mv (.t 43)⟩,
  ⟨some 45, some (44, true), .mv (.t 0)⟩,
  ⟨some 46, some (44, true), .ixstr (.t 45) (.k (.int .i64 1))⟩,
  ⟨some 47, some (44, true), .call (.k (.fn (.func 153) [] [])) [.t 46]⟩,
  ⟨some 48, some (44, true), .bin .eql (.int .u8) true (.t 47) (.k (.int .u8 98))⟩,
  ⟨some 49, none, .pick (.t 44) (.t 48) (.k (.bool false))⟩,
  ⟨some 40, none, .mv (.t 49)⟩]) (.cond (.t 40) (.seq (.ops [⟨some 1, none, .mv (.k (.int .i64 2))⟩]) (.ops [⟨some 50, none, .mv (.t 0)⟩,
  ⟨some 51, none, .slstr (.t 50) (some (.k (.int .i64 2))) none⟩,
  ⟨some 0, none, .mv (.t 51)⟩])) (.seq (.ops [⟨some 53, none, .mv (.t 0)⟩,
  ⟨some 54, none, .lens (.t 53)⟩,
  ⟨some 55, none, .bin .geq (.int .i64) true (.t 54) (.k (.int .i64 3))⟩,
  ⟨some 56, none, .mv (.t 55)⟩,
  ⟨some 57, some (56, true), .mv (.t 0)⟩,
  ⟨some 58, some (56, true), .ixstr (.t 57) (.k (.int .i64 1))⟩,
  ⟨some 59, some (56, true), .call (.k (.fn (.func 153) [] [])) [.t 58]⟩,
  ⟨some 60, some (56, true), .bin .eql (.int .u8) true (.t 59) (.k (.int .u8 111))⟩,
  ⟨some 61, none, .pick (.t 56) (.t 60) (.k (.bool false))⟩,
  ⟨some 52, none, .mv (.t 61)⟩]) (.cond (.t 52) (.seq (.ops [⟨some 1, none, .mv (.k (.int .i64 8))⟩]) (.ops [⟨some 62, none, .mv (.t 0)⟩,
  ⟨some 63, none, .slstr (.t 62) (some (.k (.int .i64 2))) none⟩,
  ⟨some 0, none, .mv (.t 63)⟩])) (.seq (.ops [⟨some 65, none, .mv (.t 0)⟩,
  ⟨some 66, none, .lens (.t 65)⟩,
  ⟨some 67, none, .bin .geq (.int .i64) true (.t 66) (.k (.int .i64 3))⟩,
  ⟨some 68, none, .mv (.t 67)⟩,
  ⟨some 69, some (68, true), .mv (.t 0)⟩,
  ⟨some 70, some (68, true), .ixstr (.t 69) (.k (.int .i64 1))⟩,
  ⟨some 71, some (68, true), .call (.k (.fn (.func 153) [] [])) [.t 70]⟩,
  ⟨some 72, some (68, true), .bin .eql (.int .u8) true (.t 71) (.k (.int .u8 120))⟩,
  ⟨some 73, none, .pick (.t 68) (.t 72) (.k (.bool false))⟩,
  ⟨some 64, none, .mv (.t 73)⟩]) (.cond (.t 64) (.seq (.ops [⟨some 1, none, .mv (.k (.int .i64 16))⟩]) (.ops [⟨some 74, none, .mv (.t 0)⟩,
  ⟨some 75, none, .slstr (.t 74) (some (.k (.int .i64 2))) none⟩,
  ⟨some 0, none, .mv (.t 75)⟩])) (.seq (.ops [⟨some 1, none, .mv (.k (.int .i64 8))⟩]) (.ops [⟨some 38, none, .mv (.t 0)⟩,
  ⟨some 39, none, .slstr (.t 38) (some (.k (.int .i64 1))) none⟩,
  ⟨some 0, none, .mv (.t 39)⟩]))))))))) (.skip)))) (.seq (.ops [⟨some 24, none, .ifc 204 (.k (.int .i64 3))⟩,
  ⟨some 6, none, .mv (.k (.int .u64 0))⟩,
  ⟨some 7, none, .mv (.t 24)⟩]) (.ret))))))) (.seq (.seq (.ops [⟨some 76, none, .mv (.t 2)⟩,
  ⟨some 77, none, .bin .eql (.int .i64) true (.t 76) (.k (.int .i64 0))⟩]) (.cond (.t 77) (.ops [⟨some 2, none, .mv (.k (.int .i64 64))⟩]) (.seq (.ops [⟨some 78, none, .mv (.t 2)⟩,
  ⟨some 79, none, .bin .lss (.int .i64) true (.t 78) (.k (.int .i64 0))⟩,
  ⟨some 80, none, .mv (.t 79)⟩,
  ⟨some 81, some (80, false), .mv (.t 2)⟩,
  ⟨some 82, some (80, false), .bin .gtr (.int .i64) true (.t 81) (.k (.int .i64 64))⟩,
  ⟨some 83, none, .pick (.t 80) (.k (.bool true)) (.t 82)⟩]) (.cond (.t 83) (.seq (.ops [⟨some 84, none, .ifc 204 (.k (.int .i64 4))⟩,
  ⟨some 6, none, .mv (.k (.int .u64 0))⟩,
  ⟨some 7, none, .mv (.t 84)⟩]) (.ret)) (.skip))))) (.seq (.ops [⟨some 10, none, .mv (.k (.int .u64 0))⟩]) (.seq (.seq (.ops [⟨some 85, none, .mv (.t 1)⟩]) (.block 2 (.seq (.ops [⟨some 91, none, .bin .eql (.int .i64) true (.t 85) (.k (.int .i64 10))⟩,
  ⟨some 90, none, .mv (.t 91)⟩]) (.cond (.t 90) (.ops [⟨some 10, none, .mv (.k (.int .u64 1844674407370955162))⟩]) (.seq (.ops [⟨some 93, none, .bin .eql (.int .i64) true (.t 85) (.k (.int .i64 16))⟩,
  ⟨some 92, none, .mv (.t 93)⟩]) (.cond (.t 92) (.ops [⟨some 10, none, .mv (.k (.int .u64 1152921504606846976))⟩]) (.ops [⟨some 86, none, .mv (.t 1)⟩,
  ⟨some 87, none, .cvi .u64 (.t 86)⟩,
  ⟨some 88, none, .bin .quo (.int .u64) true (.k (.int .u64 18446744073709551615)) (.t 87)⟩,
  ⟨some 89, none, .bin .add (.int .u64) true (.t 88) (.k (.int .u64 1))⟩,
  ⟨some 10, none, .mv (.t 89)⟩]))))))) (.seq (.ops [⟨some 94, none, .mv (.t 2)⟩,
  ⟨some 95, none, .cvi .u64 (.t 94)⟩,
  ⟨some 96, none, .bin .shl (.int .u64) true (.k (.int .u64 1)) (.t 95)⟩,
  ⟨some 97, none, .bin .sub (.int .u64) true (.t 96) (.k (.int .u64 1))⟩,
  ⟨some 11, none, .mv (.t 97)⟩]) (.seq (.ops [⟨some 12, none, .mv (.k (.bool false))⟩]) (.seq (.ops [⟨some 13, none, .mv (.k (.int .u64 0))⟩]) (.seq (.seq (.ops [⟨some 98, none, .mv (.t 0)⟩,
  ⟨some 99, none, .more (.s2b 5) [.t 98]⟩,
  ⟨some 100, none, .lenl (.t 99)⟩,
  ⟨some 101, none, .mv (.k (.int .i64 0))⟩]) (.block 3 (.loop l144_0))) (.seq (.seq (.ops [⟨some 164, none, .mv (.t 12)⟩,
  ⟨some 165, none, .mv (.t 164)⟩,
  ⟨some 166, some (165, true), .mv (.t 9)⟩,
  ⟨some 167, some (165, true), .call (.k (.fn (.func 154) [] [])) [.t 166]⟩,
  ⟨some 168, some (165, true), .un .not (.t 167)⟩,
  ⟨some 169, none, .pick (.t 165) (.t 168) (.k (.bool false))⟩]) (.cond (.t 169) (.seq (.ops [⟨some 170, none, .ifc 204 (.k (.int .i64 2))⟩,
  ⟨some 6, none, .mv (.k (.int .u64 0))⟩,
  ⟨some 7, none, .mv (.t 170)⟩]) (.ret)) (.skip))) (.seq (.ops [⟨some 171, none, .mv (.t 13)⟩,
  ⟨some 6, none, .mv (.t 171)⟩,
  ⟨some 7, none, .mv (.k (.nili))⟩]) (.ret))))))))))))))⟩
theorem fk144 (G : GT) : FOk Tryz.prog tt G 144 c144 := ⟨_, Tryz.func144, by kernel_rfl⟩
/-- internal/strconv.lower -/
def c153 : CF := ⟨5, [.t 2], .seq (.ops [⟨some 2, none, .mv (.k (.int .u8 0))⟩]) (.seq (.ops [⟨some 3, none, .mv (.t 0)⟩,
  ⟨some 4, none, .bin .or (.int .u8) true (.t 3) (.k (.int .u8 32))⟩,
  ⟨some 2, none, .mv (.t 4)⟩]) (.ret))⟩
theorem fk153 (G : GT) : FOk Tryz.prog tt G 153 c153 := ⟨_, Tryz.func153, by kernel_rfl⟩
def l220_0b : CC := .seq (.ops [⟨some 33, none, .bin .lss (.int .i64) false (.t 32) (.t 31)⟩]) (.seq (.cond (.t 33) (.skip) (.exit 0)) (.seq (.block 1 (.seq (.ops [⟨some 34, none, .ixs 1 (.t 30) (.t 32)⟩,
  ⟨some 35, none, .ld none (.t 34)⟩,
  ⟨some 8, none, .mv (.t 35)⟩]) (.seq (.ops [⟨some 36, none, .mv (.t 1)⟩,
  ⟨some 37, none, .mv (.t 8)⟩,
  ⟨some 38, none, .call (.k (.fn (.func 222) [] [])) [.t 36, .t 37]⟩,
  ⟨some 9, none, .mv (.t 38)⟩]) (.seq (.ops [⟨some 39, none, .mv (.t 9)⟩,
  ⟨some 40, none, .bin .neq (.int .i64) true (.t 39) (.k (.int .i64 0))⟩]) (.cond (.t 40) (.seq (.draw [⟨some 41, none, .mv (.t 5)⟩,
  ⟨some 42, none, .mv (.t 9)⟩,
  ⟨some 43, none, .mv (.t 0)⟩,
  ⟨some 44, none, .mv (.t 8)⟩,
  ⟨some 45, none, .ixstr (.t 44) (.k (.int .i64 0))⟩,
  ⟨some 46, none, .nilc (.t 43)⟩,
  ⟨some 47, none, .fa 0 (.t 46)⟩,
  ⟨some 48, none, .ixa 256 1 (.t 47) (.t 45)⟩,
  ⟨some 49, none, .ld none (.t 48)⟩,
  ⟨some 50, none, .lenl (.t 49)⟩,
  ⟨some 51, none, .bin .sub (.int .i64) true (.t 50) (.k (.int .i64 1))⟩,
  ⟨some 52, none, .bin .mul (.int .i64) false (.t 42) (.t 51)⟩,
  ⟨some 53, none, .bin .add (.int .i64) false (.t 41) (.t 52)⟩,
  ⟨some 5, none, .mv (.t 53)⟩]) (.ops [⟨some 6, none, .mv (.k (.bool true))⟩])) (.skip)))))) (.ops [⟨some 54, none, .bin .add (.int .i64) true (.t 32) (.k (.int .i64 1))⟩,
  ⟨some 32, none, .mv (.t 54)⟩])))
def l220_0 : CC := l220_0b
theorem l220_0x (P : Program) (T : TT) (G : GT) (Q : EQ) (t : Env) (σ : St) : aC P T G l220_0 Q t σ = aC P T G l220_0b Q t σ := rfl
def l220_1b : CC := .seq (.seq (.ops [⟨some 55, none, .mv (.t 10)⟩,
  ⟨some 56, none, .mv (.t 1)⟩,
  ⟨some 57, none, .lens (.t 56)⟩,
  ⟨some 58, none, .bin .lss (.int .i64) false (.t 55) (.t 57)⟩]) (.cond (.t 58) (.skip) (.exit 2))) (.seq (.block 3 (.seq (.ops [⟨some 61, none, .mv (.t 1)⟩,
  ⟨some 62, none, .mv (.t 10)⟩,
  ⟨some 63, none, .ixstr (.t 61) (.t 62)⟩,
  ⟨some 11, none, .mv (.t 63)⟩]) (.seq (.ops [⟨some 64, none, .mv (.t 0)⟩,
  ⟨some 65, none, .mv (.t 11)⟩,
  ⟨some 66, none, .nilc (.t 64)⟩,
  ⟨some 67, none, .fa 0 (.t 66)⟩,
  ⟨some 68, none, .ixa 256 1 (.t 67) (.t 65)⟩,
  ⟨some 69, none, .ld none (.t 68)⟩,
  ⟨some 70, none, .bin .neq (.slice 5) true (.t 69) (.k (.nils))⟩]) (.cond (.t 70) (.seq (.ops [⟨some 71, none, .mv (.t 5)⟩,
  ⟨some 72, none, .mv (.t 0)⟩,
  ⟨some 73, none, .mv (.t 11)⟩,
  ⟨some 74, none, .nilc (.t 72)⟩,
  ⟨some 75, none, .fa 0 (.t 74)⟩,
  ⟨some 76, none, .ixa 256 1 (.t 75) (.t 73)⟩,
  ⟨some 77, none, .ld none (.t 76)⟩,
  ⟨some 78, none, .lenl (.t 77)⟩,
  ⟨some 79, none, .bin .sub (.int .i64) true (.t 78) (.k (.int .i64 1))⟩,
  ⟨some 80, none, .bin .add (.int .i64) false (.t 71) (.t 79)⟩,
  ⟨some 5, none, .mv (.t 80)⟩]) (.ops [⟨some 6, none, .mv (.k (.bool true))⟩])) (.skip))))) (.ops [⟨some 59, none, .mv (.t 10)⟩,
  ⟨some 60, none, .bin .add (.int .i64) true (.t 59) (.k (.int .i64 1))⟩,
  ⟨some 10, none, .mv (.t 60)⟩]))
def l220_1 : CC := l220_1b
theorem l220_1x (P : Program) (T : TT) (G : GT) (Q : EQ) (t : Env) (σ : St) : aC P T G l220_1 Q t σ = aC P T G l220_1b Q t σ := rfl
def l220_2b : CC := .seq (.seq (.ops [⟨some 86, none, .mv (.t 14)⟩,
  ⟨some 87, none, .mv (.t 1)⟩,
  ⟨some 88, none, .lens (.t 87)⟩,
  ⟨some 89, none, .bin .lss (.int .i64) false (.t 86) (.t 88)⟩]) (.cond (.t 89) (.skip) (.exit 4))) (.seq (.block 5 (.seq (.ops [⟨some 92, none, .mv (.t 1)⟩,
  ⟨some 93, none, .mv (.t 14)⟩,
  ⟨some 94, none, .ixstr (.t 92) (.t 93)⟩,
  ⟨some 15, none, .mv (.t 94)⟩]) (.seq (.ops [⟨some 95, none, .mv (.t 0)⟩,
  ⟨some 96, none, .mv (.t 15)⟩,
  ⟨some 97, none, .nilc (.t 95)⟩,
  ⟨some 98, none, .fa 0 (.t 97)⟩,
  ⟨some 99, none, .ixa 256 1 (.t 98) (.t 96)⟩,
  ⟨some 100, none, .ld none (.t 99)⟩,
  ⟨some 101, none, .bin .neq (.slice 5) true (.t 100) (.k (.nils))⟩]) (.cond (.t 101) (.mix (.q 0 ⟨some 102, none, .mv (.t 13)⟩ (.q 0 ⟨some 103, none, .mv (.t 12)⟩ (.q 0 ⟨some 104, none, .mv (.t 13)⟩ (.q 1 ⟨some 105, none, .sls 1 (.t 103) (some (.t 104)) none none⟩ (.q 0 ⟨some 106, none, .mv (.t 0)⟩ (.q 0 ⟨some 107, none, .mv (.t 15)⟩ (.q 1 ⟨some 108, none, .nilc (.t 106)⟩ (.q 1 ⟨some 109, none, .fa 0 (.t 108)⟩ (.q 0 ⟨some 110, none, .ixa 256 1 (.t 109) (.t 107)⟩ (.q 1 ⟨some 111, none, .ld none (.t 110)⟩ (.f ⟨some 112, none, .more .cpy [.t 105, .t 111]⟩ (.q 0 ⟨some 113, none, .bin .add (.int .i64) false (.t 102) (.t 112)⟩ (.q 0 ⟨some 13, none, .mv (.t 113)⟩ (.done))))))))))))))) (.seq (.ops [⟨some 114, none, .mv (.t 12)⟩,
  ⟨some 115, none, .mv (.t 13)⟩,
  ⟨some 116, none, .mv (.t 15)⟩,
  ⟨some 117, none, .ixs 1 (.t 114) (.t 115)⟩,
  ⟨none, none, .st 1 (.t 117) (.t 116)⟩]) (.ops [⟨some 118, none, .mv (.t 13)⟩,
  ⟨some 119, none, .bin .add (.int .i64) true (.t 118) (.k (.int .i64 1))⟩,
  ⟨some 13, none, .mv (.t 119)⟩])))))) (.ops [⟨some 90, none, .mv (.t 14)⟩,
  ⟨some 91, none, .bin .add (.int .i64) true (.t 90) (.k (.int .i64 1))⟩,
  ⟨some 14, none, .mv (.t 91)⟩]))
def l220_2 : CC := l220_2b
theorem l220_2x (P : Program) (T : TT) (G : GT) (Q : EQ) (t : Env) (σ : St) : aC P T G l220_2 Q t σ = aC P T G l220_2b Q t σ := rfl
/-- (*strings.byteStringReplacer).Replace -/
def c220 : CF := ⟨122, [.t 4], .seq (.ops [⟨some 4, none, .mv (.k (.str []))⟩]) (.seq (.ops [⟨some 16, none, .mv (.t 1)⟩,
  ⟨some 17, none, .lens (.t 16)⟩,
  ⟨some 5, none, .mv (.t 17)⟩]) (.seq (.ops [⟨some 6, none, .mv (.k (.bool false))⟩]) (.seq (.seq (.ops [⟨some 18, none, .mv (.t 0)⟩,
  ⟨some 19, none, .nilc (.t 18)⟩,
  ⟨some 20, none, .fa 256 (.t 19)⟩,
  ⟨some 21, none, .ld none (.t 20)⟩,
  ⟨some 22, none, .lenl (.t 21)⟩,
  ⟨some 23, none, .bin .mul (.int .i64) true (.t 22) (.k (.int .i64 8))⟩,
  ⟨some 24, none, .mv (.t 1)⟩,
  ⟨some 25, none, .lens (.t 24)⟩,
  ⟨some 26, none, .bin .leq (.int .i64) false (.t 23) (.t 25)⟩]) (.cond (.t 26) (.seq (.ops [⟨some 27, none, .mv (.t 0)⟩,
  ⟨some 28, none, .nilc (.t 27)⟩,
  ⟨some 29, none, .fa 256 (.t 28)⟩,
  ⟨some 30, none, .ld none (.t 29)⟩,
  ⟨some 31, none, .lenl (.t 30)⟩,
  ⟨some 32, none, .mv (.k (.int .i64 0))⟩]) (.block 0 (.loop l220_0))) (.seq (.ops [⟨some 10, none, .mv (.k (.int .i64 0))⟩]) (.block 2 (.loop l220_1))))) (.seq (.seq (.ops [⟨some 81, none, .mv (.t 6)⟩,
  ⟨some 82, none, .un .not (.t 81)⟩]) (.cond (.t 82) (.seq (.ops [⟨some 83, none, .mv (.t 1)⟩,
  ⟨some 4, none, .mv (.t 83)⟩]) (.ret)) (.skip))) (.seq (.ops [⟨some 84, none, .mv (.t 5)⟩,
  ⟨some 85, none, .more (.mksl 5 1 1 [.int .u8 0]) [(.t 84), (.t 84)]⟩,
  ⟨some 12, none, .mv (.t 85)⟩]) (.seq (.ops [⟨some 13, none, .mv (.k (.int .i64 0))⟩]) (.seq (.seq (.ops [⟨some 14, none, .mv (.k (.int .i64 0))⟩]) (.block 4 (.loop l220_2))) (.seq (.ops [⟨some 120, none, .mv (.t 12)⟩,
  ⟨some 121, none, .more (.b2s 80) [.t 120]⟩,
  ⟨some 4, none, .mv (.t 121)⟩]) (.ret)))))))))⟩
theorem fk220 (G : GT) : FOk Tryz.prog tt G 220 c220 := ⟨_, Tryz.func220, by kernel_rfl⟩
def l222_0b : CC := .block 1 (.seq (.ops [⟨some 20, none, .mv (.t 0)⟩,
  ⟨some 21, none, .mv (.t 1)⟩,
  ⟨some 22, none, .call (.k (.fn (.func 112) [] [])) [.t 20, .t 21]⟩,
  ⟨some 6, none, .mv (.t 22)⟩]) (.seq (.seq (.ops [⟨some 23, none, .mv (.t 6)⟩,
  ⟨some 24, none, .bin .eql (.int .i64) true (.t 23) (.k (.int .i64 (-1)))⟩]) (.cond (.t 24) (.seq (.ops [⟨some 25, none, .mv (.t 5)⟩,
  ⟨some 4, none, .mv (.t 25)⟩]) (.ret)) (.skip))) (.seq (.ops [⟨some 26, none, .mv (.t 5)⟩,
  ⟨some 27, none, .bin .add (.int .i64) true (.t 26) (.k (.int .i64 1))⟩,
  ⟨some 5, none, .mv (.t 27)⟩]) (.ops [⟨some 28, none, .mv (.t 0)⟩,
  ⟨some 29, none, .mv (.t 6)⟩,
  ⟨some 30, none, .mv (.t 1)⟩,
  ⟨some 31, none, .lens (.t 30)⟩,
  ⟨some 32, none, .bin .add (.int .i64) false (.t 29) (.t 31)⟩,
  ⟨some 33, none, .slstr (.t 28) (some (.t 32)) none⟩,
  ⟨some 0, none, .mv (.t 33)⟩]))))
def l222_0 : CC := l222_0b
/-- strings.Count -/
def c222 : CF := ⟨34, [.t 4], .seq (.ops [⟨some 4, none, .mv (.k (.int .i64 0))⟩]) (.seq (.seq (.ops [⟨some 7, none, .mv (.t 1)⟩,
  ⟨some 8, none, .lens (.t 7)⟩,
  ⟨some 9, none, .bin .eql (.int .i64) true (.t 8) (.k (.int .i64 0))⟩]) (.cond (.t 9) (.seq (.ops [⟨some 10, none, .mv (.t 0)⟩,
  ⟨some 11, none, .call (.k (.fn (.func 223) [] [])) [.t 10]⟩,
  ⟨some 12, none, .bin .add (.int .i64) true (.t 11) (.k (.int .i64 1))⟩,
  ⟨some 4, none, .mv (.t 12)⟩]) (.ret)) (.skip))) (.seq (.seq (.ops [⟨some 13, none, .mv (.t 1)⟩,
  ⟨some 14, none, .lens (.t 13)⟩,
  ⟨some 15, none, .bin .eql (.int .i64) true (.t 14) (.k (.int .i64 1))⟩]) (.cond (.t 15) (.seq (.ops [⟨some 16, none, .mv (.t 0)⟩,
  ⟨some 17, none, .mv (.t 1)⟩,
  ⟨some 18, none, .ixstr (.t 17) (.k (.int .i64 0))⟩,
  ⟨some 19, none, .call (.k (.fn (.func 224) [] [])) [.t 16, .t 18]⟩,
  ⟨some 4, none, .mv (.t 19)⟩]) (.ret)) (.skip))) (.seq (.ops [⟨some 5, none, .mv (.k (.int .i64 0))⟩]) (.block 0 (.loop l222_0)))))⟩
theorem fk222 (G : GT) : FOk Tryz.prog tt G 222 c222 := ⟨_, Tryz.func222, by kernel_rfl⟩
end Go.Ab.Sz
