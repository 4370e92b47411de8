/-
  DERIVED: THE SHELF's CONTRACTS AT THIS DUMP, IN PLAIN WORDS (tools/lay-plain.mjs out of 'TryzShelf.lean', which tools/lay-shelf.mjs wrote): THE SAME DECLARATIONS UNDER THE SAME NAMES: 'import', 'namespace', 'open', 'def', 'theorem' AND NOTHING ELSE: no command of the shelf's: FOR A HAND-IN. Each laying: the table of numbers ('.._ren') and one theorem, a field a fact of the dump's own or the kernel's comparison; each contract: ONE APPLICATION.
-/
import Derived.Shelf.Unicode.ValidAny
import Derived.Shelf.Strings.Builder1
import Derived.Shelf.Strings.Trim
import Derived.Shelf.Small.Utf8
import Derived.Shelf.Small.Strs
import Derived.Shelf.Small.Wraps
import Derived.Shelf.Strings.BuilderF
import Derived.Shelf.Strings.BuilderK
import Derived.Shelf.Strconv.Itoa0
import Derived.Ground.MpProg
import Derived.Shelf.Pu.ParseUintPublic10
import Derived.Shelf.Strings.Search1
import Derived.Shelf.Strings.Search2
import Derived.Shelf.Strings.Search3
import Derived.Shelf.Strings.Cut
import Derived.Shelf.Strings.Count
import Derived.Shelf.LaysM
import Derived.Shelf.Strings.Shaped
import Derived.Shelf.GgClosure.StringsIndexFunc
import Derived.Ground.GgwProg
import Derived.Shelf.GgClosure.StringsIndexFuncTop
import Derived.Shelf.GgClosure.StringsRunes
import Derived.Shelf.Strings.Prefix
import Derived.Shelf.Strings.Runes
import Derived.Shelf.Strings.AsciiSet
import Derived.Shelf.Unicode.DecodeSlow
import Derived.Shelf.Unicode.DecodeAny
import Derived.Shelf.Unicode.DecodeLast
import Derived.Shelf.Strings.FuncGrows
import Derived.Test.YtpejbkckppnamaaGreatDoorProg
import Derived.Test.YtpejbkckppnamaaGreatDoorCf
import Derived.Test.YtpejbkckppnamaaGreatDoorAbB
import Derived.Laws.RangeAny
import Derived.Lib.TrimAscii
import Derived.Lib.TrimUEq
set_option linter.all false
set_option linter.unusedVariables false
set_option linter.unusedSimpArgs false
namespace Go.Proofs
open Go.Shelf
def Tryz.lays119_ren : Go.Shelf.Ren := ⟨fun | 119 => 131 | n => n, fun | 21 => 21 | 4 => 4 | n => n, fun | n => n⟩
theorem Tryz.lays119 : Go.Proofs.Lays.n119 Tryz.prog Tryz.lays119_ren := {
  mixed := by kernel_rfl
  f119 := Tryz.func131.trans (congrArg some (by kernel_rfl))
  t4 := Tryz.underlying4
  a4 := Tryz.isAgg4
  z4 := Tryz.sizeOf4
  v4 := Tryz.zeroValue4
  t21 := Tryz.underlying21
  a21 := Tryz.isAgg21
  z21 := Tryz.sizeOf21
  v21 := Tryz.zeroValue21 }
/-- utf8.ValidRune: "ValidRune reports whether r can be legally encoded as UTF-8. Code points that are out of range or a surrogate half are illegal.": IT RETURNS 'Lib.validRune r'; the world is as it was. (LAID: no walk: one application.) -/
theorem Tryz.utf8_ValidRune (r : Int) (w : World) :
    Calls Tryz.prog 131 #[.int .i32 r] w fun e w' => e = .returned (.bool (Lib.validRune r)) ∧ w' = w := Any.utf8_ValidRune Tryz.lays119 r w
def Tryz.lays137_ren : Go.Shelf.Ren := ⟨fun | 137 => 78 | 217 => 98 | 266 => 116 | n => n, fun | 9 => 9 | 5 => 5 | 3 => 3 | n => n, fun | n => n⟩
theorem Tryz.lays137 : Go.Proofs.Lays.n137 Tryz.prog Tryz.lays137_ren := {
  mixed := by kernel_rfl
  f137 := Tryz.func78.trans (congrArg some (by kernel_rfl))
  f217 := Tryz.func98.trans (congrArg some (by kernel_rfl))
  f266 := Tryz.func116.trans (congrArg some (by kernel_rfl))
  t3 := Tryz.underlying3
  a3 := Tryz.isAgg3
  z3 := Tryz.sizeOf3
  v3 := Tryz.zeroValue3
  t5 := Tryz.underlying5
  a5 := Tryz.isAgg5
  z5 := Tryz.sizeOf5
  v5 := Tryz.zeroValue5
  t9 := Tryz.underlying9
  a9 := Tryz.isAgg9
  z9 := Tryz.sizeOf9
  v9 := Tryz.zeroValue9 }
open Go.RowKit in
/-- strings.IndexByte: "IndexByte returns the index of the first instance of c in s, or -1 if c is not present in s.": IT RETURNS 'Lib.indexByte s c'; the world is as it was. (LAID: no walk: one application.) -/
theorem Tryz.strings_IndexByte (s : ByteArray) (c : Int) (w : World) :
    Calls Tryz.prog 78 #[.string s, .int .u8 c] w fun e w' => e = .returned (.int .i64 (Lib.indexByte s.data.toList c.toNat.toUInt8)) ∧ w' = w := Any.strings_IndexByte Tryz.lays137 s c w
def Tryz.lays103_ren : Go.Shelf.Ren := ⟨fun | 103 => 49 | 210 => 72 | 206 => 94 | n => n, fun | 9 => 9 | 4 => 4 | 24 => 89 | 3 => 3 | n => n, fun | n => n⟩
theorem Tryz.lays103 : Go.Proofs.Lays.n103 Tryz.prog Tryz.lays103_ren := {
  mixed := by kernel_rfl
  f103 := Tryz.func49.trans (congrArg some (by kernel_rfl))
  f206 := Tryz.func94.trans (congrArg some (by kernel_rfl))
  f210 := Tryz.func72.trans (congrArg some (by kernel_rfl))
  t3 := Tryz.underlying3
  a3 := Tryz.isAgg3
  z3 := Tryz.sizeOf3
  v3 := Tryz.zeroValue3
  t4 := Tryz.underlying4
  a4 := Tryz.isAgg4
  z4 := Tryz.sizeOf4
  v4 := Tryz.zeroValue4
  t9 := Tryz.underlying9
  a9 := Tryz.isAgg9
  z9 := Tryz.sizeOf9
  v9 := Tryz.zeroValue9
  t24 := Tryz.underlying89
  a24 := Tryz.isAgg89
  z24 := Tryz.sizeOf89
  v24 := Tryz.zeroValue89 }
open Go.RowKit in
/-- strings.CutPrefix: "CutPrefix returns s without the provided leading prefix string and reports whether it found the prefix. If s doesn't start with prefix, CutPrefix returns s, false. If prefix is the empty string, CutPrefix returns s, true.": IT RETURNS '(Lib.trimPrefix s p, Lib.hasPrefix s p)'; the world is as it was. (LAID: no walk: one application.) -/
theorem Tryz.strings_CutPrefix (s p : ByteArray) (w : World) :
    Calls Tryz.prog 49 #[.string s, .string p] w fun e w' => e = .returned (.tuple #[.string ⟨(Lib.trimPrefix s.data.toList p.data.toList).toArray⟩, .bool (Lib.hasPrefix s.data.toList p.data.toList)]) ∧ w' = w := Any.strings_CutPrefix Tryz.lays103 s p w
def Tryz.lays144_ren : Go.Shelf.Ren := ⟨fun | 144 => 89 | 143 => 112 | 219 => 123 | 217 => 98 | 225 => 135 | 224 => 136 | 267 => 137 | 266 => 116 | 314 => 146 | n => n, fun | 9 => 9 | 4 => 4 | 3 => 3 | 5 => 5 | 46 => 46 | 146 => 188 | 51 => 146 | n => n, fun | 1 => 2 | n => n⟩
theorem Tryz.lays144 : Go.Proofs.Lays.n144 Tryz.prog Tryz.lays144_ren := {
  mixed := by kernel_rfl
  f143 := Tryz.func112.trans (congrArg some (by kernel_rfl))
  f144 := Tryz.func89.trans (congrArg some (by kernel_rfl))
  f217 := Tryz.func98.trans (congrArg some (by kernel_rfl))
  f219 := Tryz.func123.trans (congrArg some (by kernel_rfl))
  f224 := Tryz.func136.trans (congrArg some (by kernel_rfl))
  f225 := Tryz.func135.trans (congrArg some (by kernel_rfl))
  f266 := Tryz.func116.trans (congrArg some (by kernel_rfl))
  f267 := Tryz.func137.trans (congrArg some (by kernel_rfl))
  f314 := Tryz.func146.trans (congrArg some (by kernel_rfl))
  t3 := Tryz.underlying3
  a3 := Tryz.isAgg3
  z3 := Tryz.sizeOf3
  v3 := Tryz.zeroValue3
  t4 := Tryz.underlying4
  a4 := Tryz.isAgg4
  z4 := Tryz.sizeOf4
  v4 := Tryz.zeroValue4
  t5 := Tryz.underlying5
  a5 := Tryz.isAgg5
  z5 := Tryz.sizeOf5
  v5 := Tryz.zeroValue5
  t9 := Tryz.underlying9
  a9 := Tryz.isAgg9
  z9 := Tryz.sizeOf9
  v9 := Tryz.zeroValue9
  t46 := Tryz.underlying46
  a46 := Tryz.isAgg46
  z46 := Tryz.sizeOf46
  v46 := Tryz.zeroValue46
  t51 := Tryz.underlying146
  a51 := Tryz.isAgg146
  z51 := Tryz.sizeOf146
  v51 := Tryz.zeroValue146
  t146 := Tryz.underlying188
  a146 := Tryz.isAgg188
  z146 := Tryz.sizeOf188
  v146 := Tryz.zeroValue188
  g1 := by kernel_rfl }
open Go.RowKit Go.Lib in
/-- strings.Contains: "Contains reports whether substr is within s.": IT RETURNS 'Lib.contains s substr'; the world is as it was. (LAID: no walk: one application.) -/
theorem Tryz.strings_Contains (s sub : ByteArray) (m : Int) (w : World) (hs : s.size < 4294967281) (hm : w.cell? ⟨2, 0, none⟩ = some (.int .i64 m)) :
    Calls Tryz.prog 89 #[.string s, .string sub] w fun e w' => e = .returned (.bool (Lib.contains s.data.toList sub.data.toList)) ∧ w' = w := Any.strings_Contains Tryz.lays144 s sub m w hs hm
def Tryz.lays145_ren : Go.Shelf.Ren := ⟨fun | 145 => 99 | 220 => 117 | 219 => 123 | 217 => 98 | 225 => 135 | 224 => 136 | 267 => 137 | 266 => 116 | 314 => 146 | n => n, fun | 9 => 9 | 4 => 4 | 59 => 130 | 3 => 3 | 5 => 5 | 46 => 46 | 146 => 188 | 51 => 146 | n => n, fun | 1 => 2 | n => n⟩
theorem Tryz.lays145 : Go.Proofs.Lays.n145 Tryz.prog Tryz.lays145_ren := {
  mixed := by kernel_rfl
  f145 := Tryz.func99.trans (congrArg some (by kernel_rfl))
  f217 := Tryz.func98.trans (congrArg some (by kernel_rfl))
  f219 := Tryz.func123.trans (congrArg some (by kernel_rfl))
  f220 := Tryz.func117.trans (congrArg some (by kernel_rfl))
  f224 := Tryz.func136.trans (congrArg some (by kernel_rfl))
  f225 := Tryz.func135.trans (congrArg some (by kernel_rfl))
  f266 := Tryz.func116.trans (congrArg some (by kernel_rfl))
  f267 := Tryz.func137.trans (congrArg some (by kernel_rfl))
  f314 := Tryz.func146.trans (congrArg some (by kernel_rfl))
  t3 := Tryz.underlying3
  a3 := Tryz.isAgg3
  z3 := Tryz.sizeOf3
  v3 := Tryz.zeroValue3
  t4 := Tryz.underlying4
  a4 := Tryz.isAgg4
  z4 := Tryz.sizeOf4
  v4 := Tryz.zeroValue4
  t5 := Tryz.underlying5
  a5 := Tryz.isAgg5
  z5 := Tryz.sizeOf5
  v5 := Tryz.zeroValue5
  t9 := Tryz.underlying9
  a9 := Tryz.isAgg9
  z9 := Tryz.sizeOf9
  v9 := Tryz.zeroValue9
  t46 := Tryz.underlying46
  a46 := Tryz.isAgg46
  z46 := Tryz.sizeOf46
  v46 := Tryz.zeroValue46
  t51 := Tryz.underlying146
  a51 := Tryz.isAgg146
  z51 := Tryz.sizeOf146
  v51 := Tryz.zeroValue146
  t59 := Tryz.underlying130
  a59 := Tryz.isAgg130
  z59 := Tryz.sizeOf130
  v59 := Tryz.zeroValue130
  t146 := Tryz.underlying188
  a146 := Tryz.isAgg188
  z146 := Tryz.sizeOf188
  v146 := Tryz.zeroValue188
  g1 := by kernel_rfl }
open Go.RowKit Go.Lib in
/-- strings.Cut: "Cut slices s around the first instance of sep, returning the text before and after sep. The found result reports whether sep appears in s. If sep does not appear in s, cut returns s, "", false.": IT RETURNS 'Lib.cut s sep'; the world is as it was but for the count of draws. (LAID: no walk: one application.) -/
theorem Tryz.strings_Cut (s sep : ByteArray) (m : Int) (w : World) (hs : s.size < 4294967281) (hm : w.cell? ⟨2, 0, none⟩ = some (.int .i64 m)) :
    Calls Tryz.prog 99 #[.string s, .string sep] w fun e w' => e = .returned (.tuple #[.string ⟨(Lib.cut s.data.toList sep.data.toList).1.toArray⟩, .string ⟨(Lib.cut s.data.toList sep.data.toList).2.1.toArray⟩, .bool (Lib.cut s.data.toList sep.data.toList).2.2]) ∧ ∃ n, w' = w.drewN n := Any.strings_Cut Tryz.lays145 s sep m w hs hm
def Tryz.laysGw15_ren : Go.Shelf.Ren := ⟨fun | 15 => 46 | 20 => 71 | n => n, fun | 9 => 9 | 23 => 88 | 3 => 3 | 4 => 4 | 0 => 0 | 21 => 21 | n => n, fun | n => n⟩
theorem Tryz.laysGw15 : Go.Proofs.LaysGw.n15 Tryz.prog Tryz.laysGw15_ren := {
  mixed := by kernel_rfl
  f15 := Tryz.func46.trans (congrArg some (by kernel_rfl))
  f20 := Tryz.func71.trans (congrArg some (by kernel_rfl))
  t0 := Tryz.underlying0
  a0 := Tryz.isAgg0
  z0 := Tryz.sizeOf0
  v0 := Tryz.zeroValue0
  i0 := by kernel_rfl
  t3 := Tryz.underlying3
  a3 := Tryz.isAgg3
  z3 := Tryz.sizeOf3
  v3 := Tryz.zeroValue3
  i3 := by kernel_rfl
  t4 := Tryz.underlying4
  a4 := Tryz.isAgg4
  z4 := Tryz.sizeOf4
  v4 := Tryz.zeroValue4
  i4 := by kernel_rfl
  t9 := Tryz.underlying9
  a9 := Tryz.isAgg9
  z9 := Tryz.sizeOf9
  v9 := Tryz.zeroValue9
  i9 := by kernel_rfl
  t21 := Tryz.underlying21
  a21 := Tryz.isAgg21
  z21 := Tryz.sizeOf21
  v21 := Tryz.zeroValue21
  i21 := by kernel_rfl
  t23 := Tryz.underlying88
  a23 := Tryz.isAgg88
  z23 := Tryz.sizeOf88
  v23 := Tryz.zeroValue88
  i23 := by kernel_rfl }
def Tryz.lays227_ren : Go.Shelf.Ren := ⟨fun | 227 => 107 | n => n, fun | 9 => 9 | 116 => 137 | 4 => 4 | 0 => 0 | 3 => 3 | 5 => 5 | n => n, fun | n => n⟩
theorem Tryz.lays227 : Go.Proofs.Lays.n227 Tryz.prog Tryz.lays227_ren := {
  mixed := by kernel_rfl
  f227 := Tryz.func107.trans (congrArg some (by kernel_rfl))
  t0 := Tryz.underlying0
  a0 := Tryz.isAgg0
  z0 := Tryz.sizeOf0
  v0 := Tryz.zeroValue0
  t3 := Tryz.underlying3
  a3 := Tryz.isAgg3
  z3 := Tryz.sizeOf3
  v3 := Tryz.zeroValue3
  t4 := Tryz.underlying4
  a4 := Tryz.isAgg4
  z4 := Tryz.sizeOf4
  v4 := Tryz.zeroValue4
  t5 := Tryz.underlying5
  a5 := Tryz.isAgg5
  z5 := Tryz.sizeOf5
  v5 := Tryz.zeroValue5
  t9 := Tryz.underlying9
  a9 := Tryz.isAgg9
  z9 := Tryz.sizeOf9
  v9 := Tryz.zeroValue9
  t116 := Tryz.underlying137
  a116 := Tryz.isAgg137
  z116 := Tryz.sizeOf137 }
open Go.RowKit Go.Lib in
theorem Tryz.strings_makeASCIISet (hv116 : ∀ w, (zeroValue 137).run Tryz.prog w = .ok (.agg (Array.replicate 256 (.bool false))) w) (chars : ByteArray) (w : World) (hs : chars.size < 4294967281) (hascii : ∀ (j : Nat) b, chars.data.toList[j]? = some b → b.toNat < 128) :
    Calls Tryz.prog 107 #[.string chars] w fun e w' => e = .returned (.tuple #[.agg (Lib.setCells chars.data.toList), .bool true]) ∧ w' = w.alloc (.cells (Lib.setCells chars.data.toList) 137) := Any.strings_makeASCIISet Tryz.lays227 hv116 (by kernel_rfl) chars w hs hascii
open Go.RowKit Go.Lib in
def Tryz.lays271_ren : Go.Shelf.Ren := ⟨fun | 271 => 122 | 120 => 134 | 197 => 120 | 260 => 132 | n => n, fun | 9 => 9 | 21 => 21 | 3 => 3 | 4 => 4 | 5 => 5 | 105 => 162 | 119 => 104 | 0 => 0 | 46 => 46 | 139 => 107 | 138 => 106 | n => n, fun | 3 => 0 | 4 => 1 | n => n⟩
theorem Tryz.lays271 : Go.Proofs.Lays.n271 Tryz.prog Tryz.lays271_ren := {
  mixed := by kernel_rfl
  f120 := Tryz.func134.trans (congrArg some (by kernel_rfl))
  f197 := Tryz.func120.trans (congrArg some (by kernel_rfl))
  f260 := Tryz.func132.trans (congrArg some (by kernel_rfl))
  f271 := Tryz.func122.trans (congrArg some (by kernel_rfl))
  t0 := Tryz.underlying0
  a0 := Tryz.isAgg0
  z0 := Tryz.sizeOf0
  v0 := Tryz.zeroValue0
  t3 := Tryz.underlying3
  a3 := Tryz.isAgg3
  z3 := Tryz.sizeOf3
  v3 := Tryz.zeroValue3
  t4 := Tryz.underlying4
  a4 := Tryz.isAgg4
  z4 := Tryz.sizeOf4
  v4 := Tryz.zeroValue4
  t5 := Tryz.underlying5
  a5 := Tryz.isAgg5
  z5 := Tryz.sizeOf5
  v5 := Tryz.zeroValue5
  t9 := Tryz.underlying9
  a9 := Tryz.isAgg9
  z9 := Tryz.sizeOf9
  v9 := Tryz.zeroValue9
  t21 := Tryz.underlying21
  a21 := Tryz.isAgg21
  z21 := Tryz.sizeOf21
  v21 := Tryz.zeroValue21
  t46 := Tryz.underlying46
  a46 := Tryz.isAgg46
  z46 := Tryz.sizeOf46
  v46 := Tryz.zeroValue46
  t105 := Tryz.underlying162
  a105 := Tryz.isAgg162
  z105 := Tryz.sizeOf162
  v105 := Tryz.zeroValue162
  t119 := Tryz.underlying104
  a119 := Tryz.isAgg104
  z119 := Tryz.sizeOf104
  t138 := Tryz.underlying106
  a138 := Tryz.isAgg106
  z138 := Tryz.sizeOf106
  v138 := Tryz.zeroValue106
  t139 := Tryz.underlying107
  a139 := Tryz.isAgg107
  z139 := Tryz.sizeOf107
  v139 := Tryz.zeroValue107
  g3 := by kernel_rfl
  g4 := by kernel_rfl }
open Go.RowKit Go.Lib in
/-- **unicode/utf8.DecodeLastRuneInString AT EVERY STRING.** (LAID: no walk: one application.) -/
theorem Tryz.utf8_DecodeLastRuneInString (s : ByteArray) (w : World) (hs : s.size ≤ 9223372036854775807) (hT : Lib.Utf8Tabs 0 1 w) :
    Calls Tryz.prog 122 #[.string s] w fun e w' => e = .returned (.tuple #[.int .i32 (Lib.decodeLastL s.data.toList).1, .int .i64 (Lib.decodeLastL s.data.toList).2]) ∧ Below w.heap.size w w' := Any.utf8_DecodeLastRuneInString Tryz.lays271 s w hs hT
open Go.RowKit Go.Lib in
theorem Tryz.strings_IndexFunc_grows (g : Nat) (lb : Array Value) (eg : ∀ args w, (callFunc g args).run Tryz.prog w = .ok (.enter g args) w) (p : Nat → Bool) (s : ByteArray) (w : World) (hp : PredGrows Tryz.prog g lb p w) :
    Calls Tryz.prog 46 #[.string s, .func (.func g) #[] lb] w fun e w' => e = .returned (.int .i64 (Lib.idxFunc p true s)) ∧ Below w.heap.size w w' := Any.strings_IndexFunc_grows Tryz.laysGw15 g lb eg p s w hp
def Tryz.laysValid_ren : Go.Shelf.Ren := ⟨fun | 196 => 45 | 259 => 70 | n => n, fun | 9 => 9 | 4 => 4 | 3 => 3 | 5 => 5 | 12 => 12 | 119 => 104 | 0 => 0 | 46 => 46 | 139 => 107 | 138 => 106 | 53 => 127 | n => n, fun | 3 => 0 | 4 => 1 | n => n⟩
theorem Tryz.laysValid : Go.Proofs.Lays.n196 Tryz.prog Tryz.laysValid_ren := {
  mixed := by kernel_rfl
  f196 := Tryz.func45.trans (congrArg some (by kernel_rfl))
  f259 := Tryz.func70.trans (congrArg some (by kernel_rfl))
  t0 := Tryz.underlying0
  a0 := Tryz.isAgg0
  z0 := Tryz.sizeOf0
  v0 := Tryz.zeroValue0
  t3 := Tryz.underlying3
  a3 := Tryz.isAgg3
  z3 := Tryz.sizeOf3
  v3 := Tryz.zeroValue3
  t4 := Tryz.underlying4
  a4 := Tryz.isAgg4
  z4 := Tryz.sizeOf4
  v4 := Tryz.zeroValue4
  t5 := Tryz.underlying5
  a5 := Tryz.isAgg5
  z5 := Tryz.sizeOf5
  v5 := Tryz.zeroValue5
  t9 := Tryz.underlying9
  a9 := Tryz.isAgg9
  z9 := Tryz.sizeOf9
  v9 := Tryz.zeroValue9
  t12 := Tryz.underlying12
  a12 := Tryz.isAgg12
  z12 := Tryz.sizeOf12
  v12 := Tryz.zeroValue12
  t46 := Tryz.underlying46
  a46 := Tryz.isAgg46
  z46 := Tryz.sizeOf46
  v46 := Tryz.zeroValue46
  t53 := Tryz.underlying127
  a53 := Tryz.isAgg127
  z53 := Tryz.sizeOf127
  v53 := Tryz.zeroValue127
  t119 := Tryz.underlying104
  a119 := Tryz.isAgg104
  z119 := Tryz.sizeOf104
  t138 := Tryz.underlying106
  a138 := Tryz.isAgg106
  z138 := Tryz.sizeOf106
  v138 := Tryz.zeroValue106
  t139 := Tryz.underlying107
  a139 := Tryz.isAgg107
  z139 := Tryz.sizeOf107
  v139 := Tryz.zeroValue107
  g3 := by kernel_rfl
  g4 := by kernel_rfl }

end Go.Proofs
namespace Go.Ab.Sz
open Go Go.Ab Go.Proofs Go.RowKit
set_option maxRecDepth 20000
theorem fm : Tryz.prog.follows .mixedOrders = true := by kernel_rfl
/-- The tables that the library reads: a character's first byte, what may follow, and the longest text that is looked for in one go. -/
def firstL : List AV := (List.range 256).map fun c => .int .u8 (Lib.firstT c)
def accL : List AV := (List.range 16).flatMap fun i => [.int .u8 (Lib.accLo i), .int .u8 (Lib.accHi i)]
def gD (m : Int) : GT := fun g => if g = 0 then some firstL else if g = 1 then some accL else if g = 2 then some [.int .i64 m] else none
section
variable {m : Int} {σ : St} {K : AV → St → Prop}
theorem gD_max {C : Cz} {w : World} (h : GOK (gD m) C) (hm : ∀ b o v, C.M b o = some v → w.cell? ⟨b, o, none⟩ = some v) : w.cell? ⟨2, 0, none⟩ = some (.int .i64 m) := by
  obtain ⟨vs, h1, h2⟩ := h.cell hm (g := 2) (cs := [.int .i64 m]) rfl
  cases h1 with | cons _ _ _ _ h1 _ => cases h1; exact h2 0 _ rfl
theorem same_below {w : World} {e : Ending} {v : Value} {C : Cz} {r : AV} (hr : Rep C r v) {w' : World} (h : e = .returned v ∧ w' = w) : ∃ v, e = .returned v ∧ Rep C r v ∧ Below w.heap.size w w' := ⟨v, h.1, hr, by rw [h.2]; exact Below.refl _ _⟩
theorem CutPrefix_c (s p : List UInt8) (h : K (.tup [.str (Lib.trimPrefix s p), .bool (Lib.hasPrefix s p)]) σ) : ACalls Tryz.prog (gD m) 49 [.str s, .str p] σ K :=
  ACalls.of_calls Tryz.func49 rfl (by decide) (fun C w vs _ _ ha => by
    rw [ha.ss_inv]
    exact (Tryz.strings_CutPrefix ⟨s.toArray⟩ ⟨p.toArray⟩ w).mono fun _ _ h => same_below (.tup _ _ (.cons _ _ _ _ (.str _) (.cons _ _ _ _ (.bool _) .nil))) h) h
theorem IndexByte_c (s : List UInt8) (c : Int) (h : K (.int .i64 (Lib.indexByte s c.toNat.toUInt8)) σ) : ACalls Tryz.prog (gD m) 78 [.str s, .int .u8 c] σ K :=
  ACalls.of_calls Tryz.func78 rfl (by decide) (fun C w vs _ _ ha => by
    rw [ha.si_inv]
    exact (Tryz.strings_IndexByte ⟨s.toArray⟩ c w).mono fun _ _ h => same_below (.int _ _) h) h
theorem Contains_c (s p : List UInt8) (hs : s.length < 4294967281) (h : K (.bool (Lib.contains s p)) σ) : ACalls Tryz.prog (gD m) 89 [.str s, .str p] σ K :=
  ACalls.of_calls Tryz.func89 rfl (by decide) (fun C w vs hm hg ha => by
    rw [ha.ss_inv]
    exact (Tryz.strings_Contains ⟨s.toArray⟩ ⟨p.toArray⟩ m w (by rw [str_size]; exact hs) (gD_max hg hm)).mono fun _ _ h => same_below (.bool _) h) h
theorem Cut_c (s p : List UInt8) (hs : s.length < 4294967281) (h : K (.tup [.str (Lib.cut s p).1, .str (Lib.cut s p).2.1, .bool (Lib.cut s p).2.2]) σ) : ACalls Tryz.prog (gD m) 99 [.str s, .str p] σ K :=
  ACalls.of_calls Tryz.func99 rfl (by decide) (fun C w vs hm hg ha => by
    rw [ha.ss_inv]
    exact (Tryz.strings_Cut ⟨s.toArray⟩ ⟨p.toArray⟩ m w (by rw [str_size]; exact hs) (gD_max hg hm)).mono fun _ _ ⟨h1, n, h2⟩ => ⟨_, h1, .tup _ _ (.cons _ _ _ _ (.str _) (.cons _ _ _ _ (.str _) (.cons _ _ _ _ (.bool _) .nil))), by rw [h2]; exact below_drewN n⟩) h
theorem ValidRune_c (r : Int) (h : K (.bool (Lib.validRune r)) σ) : ACalls Tryz.prog (gD m) 131 [.int .i32 r] σ K :=
  ACalls.of_calls Tryz.func131 rfl (by decide) (fun C w vs _ _ ha => by
    rw [ha.i_inv]
    exact (Tryz.utf8_ValidRune r w).mono fun _ _ h => same_below (.bool _) h) h
end
end Go.Ab.Sz
namespace Go.Ab.Sz
open Go Go.Ab Go.Proofs Go.RowKit
set_option maxRecDepth 20000
set_option linter.unusedSimpArgs false
section
variable {m : Int} {σ : St} {K : AV → St → Prop}
theorem contains_c (b : Nat) (x : UInt8) (ty : TypeId) (l : List AV) (v : Bool) (hv : getV σ b = some (.cells ty l)) (hl : l.length = 256) (hx : l[x.toNat]? = some (.bool v)) (h : K (.bool v) σ) :
    ACalls Tryz.prog (gD m) 119 [.vp b 0, .int .u8 x.toNat] σ K := by
  refine ACalls_fn tok fm (fk119 _) ?_
  have h256 : x.toNat < 256 := x.toNat_lt
  have e : List.take 1 (l.drop x.toNat) = [.bool v] := by
    rw [List.drop_eq_getElem_cons (by omega)]
    have := (List.getElem?_eq_some_iff.1 hx).2
    simp [this]
  simp only [c119, walkAll, walkL, E, hv, nilA, ixaX, Nat.reduceEqDiff, Nat.reduceAdd, ↓reduceIte, hl, Nat.zero_add, Nat.mul_one, e]
  exact ⟨⟨by omega, by omega⟩, by omega, h⟩
theorem trim_loop (b : Nat) (ty : TypeId) (l : List AV) (p : UInt8 → Bool) (hv : getV σ b = some (.cells ty l)) (hl : l.length = 256) (hp : ∀ x : UInt8, l[x.toNat]? = some (.bool (p x))) {Q : EQ} :
    ∀ (s : List UInt8) (e : Env), s.length < 9223372036854775808 → e 0 = some (.str s) → e 1 = some (.vp b 0) → (∀ e', e' 0 = some (.str (s.dropWhile p)) → Q (.exit 0) e' σ) → LoopC Tryz.prog tt (gD m) l108_0 Q e σ := by
  intro s
  induction s with
  | nil =>
    intro e hs h0 h1 hq
    refine LoopC_unfold tok fm ?_
    simp only [l108_0x, l108_0b, walkAll, walkL, h0, Nat.reduceEqDiff, ↓reduceIte, Int.natCast_zero, Int.lt_irrefl, decide_false, gt_iff_lt]
    exact hq _ (by simp [put, h0])
  | cons x s ih =>
    intro e hs h0 h1 hq
    refine LoopC_unfold tok fm ?_
    have d : decide ((0 : Int) < ((s.length + 1 : Nat) : Int)) = true := by simp
    simp only [l108_0x, l108_0b, walkAll, walkL, h0, h1, d, Nat.reduceEqDiff, ↓reduceIte, Int.le_refl, Int.toNat_zero]
    refine contains_c b x ty l (p x) hv hl (hp x) ?_
    simp only [walkAll, walkL, h0, h1, Nat.reduceEqDiff, ↓reduceIte]
    refine brC_split (fun hb => ?_) (fun hb => ?_)
    · simp only [Bool.not_eq_true'] at hb
      simp only [walkAll, walkL, h0, h1, Nat.reduceEqDiff, ↓reduceIte]
      exact hq _ (by simp [put, h0, List.dropWhile, hb])
    · simp only [Bool.not_eq_false'] at hb
      simp (disch := omega) only [walkAll, walkL, h0, h1, Nat.reduceEqDiff, ↓reduceIte]
      refine ih _ (by simp at hs; omega) (by simp [put]) (by simp [put, h1]) (fun e' he' => hq e' ?_)
      rw [he', List.dropWhile_cons_of_pos hb]
theorem trimASCII_c (b : Nat) (ty : TypeId) (l : List AV) (p : UInt8 → Bool) (s : List UInt8) (hv : getV σ b = some (.cells ty l)) (hl : l.length = 256) (hp : ∀ x : UInt8, l[x.toNat]? = some (.bool (p x))) (hs : s.length < 9223372036854775808)
    (h : K (.str (s.dropWhile p)) σ) : ACalls Tryz.prog (gD m) 108 [.str s, .vp b 0] σ K := by
  refine ACalls_fn tok fm (fk108 _) ?_
  simp only [c108, walkAll, walkL, E, Nat.reduceEqDiff, ↓reduceIte]
  refine trim_loop b ty l p hv hl hp s _ hs (by simp [put, E]) (by simp [put, E]) (fun e' he' => ?_)
  simp only [walkAll, walkL, he', Nat.reduceEqDiff, ↓reduceIte]
  exact h
theorem zeroSet (w : World) : (zeroValue 137).run Tryz.prog w = .ok (.agg (Array.replicate 256 (.bool false))) w := by kernel_rfl
def setL256 (chars : List UInt8) : List AV := (List.range 256).map fun j => .bool (chars.contains (UInt8.ofNat j))
theorem setL256_at (chars : List UInt8) (x : UInt8) : (setL256 chars)[x.toNat]? = some (.bool (chars.contains x)) := by
  have h := x.toNat_lt
  simp only [setL256, List.getElem?_map]
  rw [List.getElem?_range (by omega)]
  simp
theorem setL256_len (chars : List UInt8) : (setL256 chars).length = 256 := by simp [setL256]
theorem RepL.bools {C : Cz} {α : Type} (f : α → Bool) : ∀ (l : List α), RepL C (l.map fun j => .bool (f j)) (l.map fun j => .bool (f j))
  | [] => .nil
  | a :: l => .cons _ _ _ _ (.bool _) (RepL.bools f l)
theorem makeASCIISet_c (s : List UInt8) (hs : s.length < 4294967281) (ha : ∀ b ∈ s, b.toNat < 128) (h : K (.tup [.agg (setL256 s), .bool true]) σ) : ACalls Tryz.prog (gD m) 107 [.str s] σ K :=
  ACalls.of_calls Tryz.func107 rfl (by decide) (fun C w vs _ _ h => by
    rw [h.s_inv]
    refine (Tryz.strings_makeASCIISet zeroSet ⟨s.toArray⟩ w (by rw [str_size]; exact hs) (fun j b e => ha b (List.mem_of_getElem? e))).mono ?_
    rintro e w' ⟨he, hw⟩
    refine ⟨_, he, .tup _ _ (.cons _ _ _ _ ?_ (.cons _ _ _ _ (.bool _) .nil)), ?_⟩
    · have e : Lib.setCells s = ((List.range 256).map fun j => Value.bool (s.contains (UInt8.ofNat j))).toArray := by
        rw [Lib.setCells_eq]; apply Array.ext'; simp
      show Rep C _ (.agg (Lib.setCells s))
      rw [e]
      exact .agg _ _ (RepL.bools (C := C) (fun j => s.contains (UInt8.ofNat j)) (List.range 256))
    · rw [hw]; exact (Below.refl _ _).alloc (Nat.le_refl _) _) h
theorem DataL.ints {k : IntKind} {α : Type} (f : α → Int) : ∀ l : List α, DataL (l.map fun a => .int k (f a))
  | [] => .nil
  | _ :: l => .cons _ _ (.int _ _) (DataL.ints f l)
theorem gD_data (g : Nat) (cs : List AV) (h : gD m g = some cs) : DataL cs := by
  simp only [gD] at h
  split at h
  · cases h; exact DataL.ints _ _
  · split at h
    · cases h
      refine DataL.of_mem (fun c hc => ?_)
      simp only [accL, List.mem_flatMap] at hc
      obtain ⟨i, _, hc⟩ := hc
      simp only [List.mem_cons, List.not_mem_nil, or_false] at hc
      rcases hc with rfl | rfl <;> exact .int _ _
    · split at h
      · cases h; exact .cons _ _ (.int _ _) .nil
      · cases h
theorem setL_all {cs : List AV} : ∀ {l : List AV}, cs.length = l.length → setL l 0 cs = cs := by
  have key : ∀ (cs l : List AV) (o : Nat), o + cs.length = l.length → setL l o cs = l.take o ++ cs := by
    intro cs
    induction cs with
    | nil => intro l o h; simp at h; simp [setL, h]
    | cons c cs ih =>
      intro l o h
      simp only [List.length_cons] at h
      rw [setL, ih _ _ (by simp; omega)]
      rw [List.set_eq_take_append_cons_drop, if_pos (by omega)]
      simp [List.take_append, show o ≤ l.length by omega, show o + 1 - o = 1 by omega, List.take_take]
  intro l h
  simpa using key cs l 0 (by omega)
theorem TrimLeft_c (s set : List UInt8) (hs : s.length < 9223372036854775808) (h2 : 2 ≤ set.length) (h3 : set.length < 4294967281) (ha : ∀ b ∈ set, b.toNat < 128) (h : K (.str (s.dropWhile set.contains)) σ) :
    ACalls Tryz.prog (gD m) 95 [.str s, .str set] σ K := by
  refine (ACalls.frame gD_data (.cons _ _ (.str _) (.cons _ _ (.str _) .nil)) (Q := fun r => r = .str (s.dropWhile set.contains)) ?_ σ).mono (fun r σ' hr => by rw [hr.1, hr.2]; exact h)
  refine ACalls_fn tok fm (fk95 _) ?_
  have hne : (set == []) = false := by cases set with
    | nil => simp at h2
    | cons a l => rfl
  have h1 : ((set.length : Int) == 1) = false := by simp; omega
  have ho : onesN 256 (setL256 set) = true := by
    rw [onesN_eq]
    exact ⟨setL256_len _, by simp [setL256, AV.one]⟩
  have hl : setL (List.replicate 256 (AV.bool false)) 0 (setL256 set) = setL256 set := setL_all (by rw [setL256_len]; simp)
  have hle : (0 + (setL256 set).length ≤ (List.replicate 256 (AV.bool false)).length) = True := by rw [setL256_len]; simp
  simp only [c95, walkAll, walkL, E, hne, h1, Nat.reduceEqDiff, ↓reduceIte]
  refine brG_split (fun hb => ?_) (fun hb => ?_)
  · simp only [Bool.not_eq_true'] at hb
    simp only [walkAll, walkL, E, hne, h1, hb, Nat.reduceEqDiff, ↓reduceIte]
    refine makeASCIISet_c set h3 ha ?_
    simp only [walkAll, walkL, E, hne, h1, hb, ho, hl, hle, Nat.reduceEqDiff, ↓reduceIte]
    refine trimASCII_c 0 137 (setL256 set) set.contains s ?_ (setL256_len _) (setL256_at set) hs ?_
    · simp only [walkAll, walkL]
    · simp only [walkAll, walkL, E, Nat.reduceEqDiff, ↓reduceIte]
      exact .str _
  · simp only [Bool.not_eq_false'] at hb
    simp only [walkAll, walkL, E, hne, h1, hb, Nat.reduceEqDiff, ↓reduceIte]
    have : s = [] := by simpa using hb
    subst this
    exact ⟨.str _, rfl⟩
end
end Go.Ab.Sz
namespace Go.Ab.Sz
open Go Go.Ab Go.Proofs Go.RowKit
set_option maxRecDepth 20000
set_option linter.unusedSimpArgs false
section
variable {m : Int} {σ : St} {K : AV → St → Prop}
def mayS (r : Int) : Bool := r == 9 || r == 10 || r == 13 || (decide (32 ≤ r) && r != 65534 && r != 65535)
theorem may_c (r : Int) (h : K (.bool (mayS r)) σ) : ACalls Tryz.prog (gD m) 48 [.int .i32 r] σ K := by
  refine ACalls_fn tok fm (fk48 _) ?_
  simp only [c48, walkAll, walkL, E, Nat.reduceEqDiff, ↓reduceIte]
  repeat' (refine brG_split (fun hb => ?_) (fun hb => ?_) <;> (try simp only [beq_true, beq_false, Bool.not_eq_true', Bool.not_eq_false'] at hb) <;> simp only [hb, walkAll, walkL, Nat.reduceEqDiff, ↓reduceIte])
  all_goals (refine cast (congrArg (fun b => K (.bool b) σ) ?_) h; simp [mayS, *])
/-- What a name and a sign stand for. -/
abbrev W (σ : St) (b : Nat) (ty : TypeId) (s : List UInt8) : Prop := getV σ b = some (.cells ty [.str s])
theorem pass_c (b : Nat) (s x : List UInt8) (ty : TypeId) (hv : W σ b ty s) (h : K (.bool (Lib.hasPrefix s x)) (σ.setV b (.cells ty [.str (Lib.trimPrefix s x)]))) :
    ACalls Tryz.prog (gD m) 30 [.vp b 0, .str x] σ K := by
  refine ACalls_fn tok fm (fk30 _) ?_
  have hlt := getV_lt hv
  simp (disch := omega) only [c30, walkAll, walkL, E, hv, nilA, faX, Nat.reduceEqDiff, Nat.reduceAdd, Nat.reduceSub, Nat.reduceLeDiff, Nat.le_refl, ↓reduceIte]
  refine CutPrefix_c _ _ ?_
  simp (disch := omega) only [walkAll, walkL, E, hv, nilA, faX, Nat.reduceEqDiff, Nat.reduceAdd, Nat.reduceSub, Nat.reduceLeDiff, Nat.le_refl, ↓reduceIte]
  exact h
theorem dropWhile_le (p : UInt8 → Bool) (s : List UInt8) : (s.dropWhile p).length ≤ s.length := (List.dropWhile_suffix p).length_le
theorem take_run (p : UInt8 → Bool) (s : List UInt8) : s.take (s.length - (s.dropWhile p).length) = s.takeWhile p := by
  have h := List.takeWhile_append_dropWhile (p := p) (l := s)
  have hl : s.length - (s.dropWhile p).length = (s.takeWhile p).length := by
    have := congrArg List.length h; rw [List.length_append] at this; omega
  rw [hl]
  have k := List.take_left (l₁ := s.takeWhile p) (l₂ := s.dropWhile p)
  rw [h] at k; exact k
theorem run_c (b : Nat) (s x : List UInt8) (ty : TypeId) (hv : W σ b ty s) (hs : s.length < 9223372036854775808) (h2 : 2 ≤ x.length) (h3 : x.length < 4294967281) (ha : ∀ b ∈ x, b.toNat < 128)
    (h : K (.str (s.takeWhile x.contains)) (σ.setV b (.cells ty [.str (s.dropWhile x.contains)]))) :
    ACalls Tryz.prog (gD m) 74 [.vp b 0, .str x] σ K := by
  refine ACalls_fn tok fm (fk74 _) ?_
  have hlt := getV_lt hv
  simp (disch := omega) only [c74, walkAll, walkL, E, hv, nilA, faX, Nat.reduceEqDiff, Nat.reduceAdd, Nat.reduceSub, Nat.reduceLeDiff, Nat.le_refl, ↓reduceIte]
  refine TrimLeft_c s x hs h2 h3 ha ?_
  have hd := dropWhile_le x.contains s
  have e1 : ((s.length : Int) - ((s.dropWhile x.contains).length : Int)).toNat = s.length - (s.dropWhile x.contains).length := by omega
  simp (disch := omega) only [walkAll, walkL, E, hv, nilA, faX, wrap_i64, e1, take_run, Nat.sub_zero, Nat.reduceEqDiff, Nat.reduceAdd, Nat.reduceSub, Nat.reduceLeDiff, Nat.le_refl, ↓reduceIte]
  exact h
def firsts : List UInt8 := [97, 98, 99, 100, 101, 102, 103, 104, 105, 106, 107, 108, 109, 110, 111, 112, 113, 114, 115, 116, 117, 118, 119, 120, 121, 122, 65, 66, 67, 68, 69, 70, 71, 72, 73, 74, 75, 76, 77, 78, 79, 80, 81, 82, 83, 84, 85, 86, 87, 88, 89, 90, 95]
def withins : List UInt8 := [97, 98, 99, 100, 101, 102, 103, 104, 105, 106, 107, 108, 109, 110, 111, 112, 113, 114, 115, 116, 117, 118, 119, 120, 121, 122, 65, 66, 67, 68, 69, 70, 71, 72, 73, 74, 75, 76, 77, 78, 79, 80, 81, 82, 83, 84, 85, 86, 87, 88, 89, 90, 48, 49, 50, 51, 52, 53, 54, 55, 56, 57, 95, 45, 46, 58]
def nameS (s : List UInt8) : List UInt8 × List UInt8 := if s == [] || !Lib.contains firsts (s.take 1) then ([], s) else (s.takeWhile withins.contains, s.dropWhile withins.contains)
theorem name_c (b : Nat) (s : List UInt8) (ty : TypeId) (hv : W σ b ty s) (hs : s.length < 9223372036854775808)
    (h : K (.str (nameS s).1) (σ.setV b (.cells ty [.str (nameS s).2]))) : ACalls Tryz.prog (gD m) 73 [.vp b 0] σ K := by
  refine ACalls_fn tok fm (fk73 _) ?_
  have hlt := getV_lt hv
  simp (disch := omega) only [c73, walkAll, walkL, E, hv, nilA, faX, Nat.reduceEqDiff, Nat.reduceAdd, Nat.reduceSub, Nat.reduceLeDiff, Nat.le_refl, ↓reduceIte]
  refine brG_split (fun hb => ?_) (fun hb => ?_)
  · simp only [Bool.not_eq_true'] at hb
    have h1 : 1 ≤ s.length := by cases s with
      | nil => cases hb
      | cons a l => simp
    simp (disch := omega) only [hb, walkAll, walkL, E, hv, nilA, faX, Nat.sub_zero, Int.toNat_one, Nat.reduceEqDiff, Nat.reduceAdd, Nat.reduceSub, Nat.reduceLeDiff, Nat.le_refl, ↓reduceIte]
    refine Contains_c _ _ (by decide) ?_
    simp (disch := omega) only [hb, walkAll, walkL, E, hv, nilA, faX, Nat.reduceEqDiff, Nat.reduceAdd, Nat.reduceSub, Nat.reduceLeDiff, Nat.le_refl, ↓reduceIte]
    refine brC_split (fun hc => ?_) (fun hc => ?_)
    · simp (disch := omega) only [hb, walkAll, walkL, E, hv, nilA, faX, Nat.reduceEqDiff, Nat.reduceAdd, Nat.reduceSub, Nat.reduceLeDiff, Nat.le_refl, ↓reduceIte]
      have e : nameS s = ([], s) := by simp only [nameS, hb, firsts, hc]; rfl
      rw [e, setV_same hv] at h
      exact h
    · simp (disch := omega) only [hb, walkAll, walkL, E, hv, nilA, faX, Nat.reduceEqDiff, Nat.reduceAdd, Nat.reduceSub, Nat.reduceLeDiff, Nat.le_refl, ↓reduceIte]
      have e : nameS s = (s.takeWhile withins.contains, s.dropWhile withins.contains) := by simp only [nameS, hb, firsts, hc]; rfl
      rw [e] at h
      refine run_c b s withins ty hv hs (by decide) (by decide) (by decide) ?_
      simp (disch := omega) only [hb, walkAll, walkL, E, hv, nilA, faX, Nat.reduceEqDiff, Nat.reduceAdd, Nat.reduceSub, Nat.reduceLeDiff, Nat.le_refl, ↓reduceIte]
      exact h
  · simp only [Bool.not_eq_false'] at hb
    simp (disch := omega) only [hb, walkAll, walkL, E, hv, nilA, faX, Nat.reduceEqDiff, Nat.reduceAdd, Nat.reduceSub, Nat.reduceLeDiff, Nat.le_refl, ↓reduceIte]
    have e : nameS s = ([], s) := by simp only [nameS, hb]; rfl
    rw [e, setV_same hv] at h
    exact h
end
end Go.Ab.Sz
namespace Go.Ab.Sz
open Go Go.Ab Go.Proofs Go.RowKit
set_option maxRecDepth 20000
set_option linter.unusedSimpArgs false
section
variable {m : Int} {σ : St} {K : AV → St → Prop}
theorem dec_low (s : List UInt8) (j : Nat) (x : UInt8) (hx : s[j]? = some x) (h : x.toNat < 128) : Utf8.decode ⟨s.toArray⟩ j = (x.toNat, 1) := by
  obtain ⟨hl, he⟩ := List.getElem?_eq_some_iff.1 hx
  have hsz : j < (⟨s.toArray⟩ : ByteArray).size := by rw [str_size]; exact hl
  have e : (⟨s.toArray⟩ : ByteArray)[j]'hsz = x := by rw [← he]; rfl
  have := decode_ascii ⟨s.toArray⟩ j hsz (by rw [e]; exact h)
  rw [this, e]
theorem dec_high (s : List UInt8) (j : Nat) (x : UInt8) (hx : s[j]? = some x) (h : 128 ≤ x.toNat) : 128 ≤ (Utf8.decode ⟨s.toArray⟩ j).1 := by
  obtain ⟨hl, he⟩ := List.getElem?_eq_some_iff.1 hx
  have hsz : j < (⟨s.toArray⟩ : ByteArray).size := by rw [str_size]; exact hl
  have e : (⟨s.toArray⟩ : ByteArray)[j]'hsz = x := by rw [← he]; rfl
  exact (decode_high ⟨s.toArray⟩ j hsz (by rw [e]; exact h)).1
/-- Is the number one of these bytes? -/
def isIn (c : Int) (l : List UInt8) : Bool := l.any fun x => (x.toNat : Int) == c
theorem isIn_cons (c : Int) (x : UInt8) (l : List UInt8) : isIn c (x :: l) = (((x.toNat : Int) == c) || isIn c l) := rfl
theorem inner66 (k : Nat) (set : List UInt8) (ha : ∀ b ∈ set, b.toNat < 128) (c : Int) {Q : EQ} : ∀ (rest : List UInt8) (j : Nat) (inn : Bool) (e : Env) (σ : St), set.drop j = rest → getV σ k = some (.siter set j) → e 17 = some (.vp k 0) → e 7 = some (.bool inn) → e 6 = some (.int .i32 c) →
    (∀ e' σ', e' 7 = some (.bool (inn || isIn c rest)) → (∀ n, n = 0 ∨ n = 1 ∨ n = 5 ∨ n = 11 → e' n = e n) → (∀ b, b ≠ k → getV σ' b = getV σ b) → nvs σ' = nvs σ → Q (.exit 2) e' σ') →
    LoopC Tryz.prog tt (gD m) l129_0 Q e σ := by
  intro rest
  induction rest with
  | nil =>
    intro j inn e σ hd hv h17 h7 h6 hq
    have hj : set.length ≤ j := by simpa using hd
    refine LoopC_unfold tok fm ?_
    simp (disch := omega) only [l129_0x, l129_0b, walkAll, walkL, h17, hv, Nat.reduceEqDiff, ↓reduceIte]
    refine hq _ _ (by simp [put, h7, isIn]) ?_ (fun _ _ => rfl) rfl
    rintro n (rfl | rfl | rfl | rfl) <;> simp [put]
  | cons x rest ih =>
    intro j inn e σ hd hv h17 h7 h6 hq
    have hxj : set[j]? = some x := by
      have := congrArg (fun l => l[0]?) hd
      simpa using this
    have hj : j < set.length := (List.getElem?_eq_some_iff.1 hxj).1
    have hx : x.toNat < 128 := ha x (List.mem_of_getElem? hxj)
    have hdec := dec_low set j x hxj hx
    have hlt := getV_lt hv
    refine LoopC_unfold tok fm ?_
    simp (disch := omega) only [l129_0x, l129_0b, walkAll, walkL, h17, hv, h7, h6, hdec, Nat.reduceEqDiff, ↓reduceIte]
    have hrest : set.drop (j + 1) = rest := by
      rw [← List.drop_drop, hd]; rfl
    have hv' : getV (σ.setV k (.siter set (j + 1))) k = some (.siter set (j + 1)) := by simp only [getV, St.setV]; exact List.getElem?_set_self hlt
    have oth : ∀ b, b ≠ k → getV (σ.setV k (.siter set (j + 1))) b = getV σ b := fun b hb => by simp only [getV, St.setV]; rw [List.getElem?_set_ne (Ne.symm hb)]
    have hn : nvs (σ.setV k (.siter set (j + 1))) = nvs σ := by simp [nvs, St.setV]
    refine brG_split (fun hb => ?_) (fun hb => ?_)
    · simp only [Bool.not_eq_true'] at hb
      subst hb
      simp (disch := omega) only [walkAll, walkL, h17, hv, h7, h6, Nat.reduceEqDiff, ↓reduceIte]
      refine ih (j + 1) (c == (x.toNat : Int)) _ _ hrest hv' (by simp [put, h17]) (by simp [put]) (by simp [put, h6]) (fun e' σ' h1 h2 h3 h4 => hq e' σ' ?_ ?_ (fun b hb => (h3 b hb).trans (oth b hb)) (h4.trans hn))
      · rw [h1, isIn_cons]
        have : (c == (x.toNat : Int)) = ((x.toNat : Int) == c) := by rw [Bool.eq_iff_iff]; simp; exact eq_comm
        rw [this]; rfl
      · rintro n (rfl | rfl | rfl | rfl) <;> (rw [h2 _ (by simp)]; simp [put])
    · simp only [Bool.not_eq_false'] at hb
      subst hb
      simp (disch := omega) only [walkAll, walkL, h17, hv, h7, h6, Nat.reduceEqDiff, ↓reduceIte]
      refine ih (j + 1) true _ _ hrest hv' (by simp [put, h17]) (by simp [put]) (by simp [put, h6]) (fun e' σ' h1 h2 h3 h4 => hq e' σ' ?_ ?_ (fun b hb => (h3 b hb).trans (oth b hb)) (h4.trans hn))
      · rw [h1]; rfl
      · rintro n (rfl | rfl | rfl | rfl) <;> (rw [h2 _ (by simp)]; simp [put])
theorem isIn_low (set : List UInt8) (x : UInt8) : isIn (x.toNat : Int) set = set.contains x := by
  induction set with
  | nil => rfl
  | cons y l ih =>
    rw [isIn_cons, ih, List.contains_cons]
    congr 1
    rw [Bool.eq_iff_iff]
    simp only [beq_iff_eq]
    exact ⟨fun h => (UInt8.toNat_inj.1 (by omega)).symm, fun h => by rw [h]⟩
theorem isIn_high (set : List UInt8) (ha : ∀ b ∈ set, b.toNat < 128) (c : Int) (hc : 128 ≤ c) : isIn c set = false := by
  rw [isIn, List.any_eq_false]
  intro b hb
  have := ha b hb
  simp; omega
theorem contains_high (set : List UInt8) (ha : ∀ b ∈ set, b.toNat < 128) (x : UInt8) (hx : 128 ≤ x.toNat) : set.contains x = false := by
  rw [Bool.eq_false_iff]
  intro h
  have := ha x (by simpa using h)
  omega
theorem isIn_dec (s set : List UInt8) (ha : ∀ b ∈ set, b.toNat < 128) (j : Nat) (x : UInt8) (hx : s[j]? = some x) : isIn ((Utf8.decode ⟨s.toArray⟩ j).1 : Int) set = set.contains x := by
  by_cases h : x.toNat < 128
  · rw [dec_low s j x hx h]; exact isIn_low set x
  · rw [contains_high set ha x (by omega)]
    exact isIn_high set ha _ (by have := dec_high s j x hx (by omega); omega)
theorem outer66 (k : Nat) (s set : List UInt8) (hs : s.length < 9223372036854775808) (ha : ∀ b ∈ set, b.toNat < 128) {Q : EQ} : ∀ (rest : List UInt8) (pos : Nat) (e : Env) (σ : St), s.drop pos = rest → getV σ k = some (.siter s pos) → e 0 = some (.str s) → e 1 = some (.str set) → e 11 = some (.vp k 0) →
    (∀ e' σ', rest.dropWhile set.contains = [] → Q (.exit 0) e' σ') → (∀ e' σ', e' 4 = some (.str (rest.dropWhile set.contains)) → Q .ret e' σ') →
    LoopC Tryz.prog tt (gD m) l129_1 Q e σ := by
  intro rest
  induction rest with
  | nil =>
    intro pos e σ hd hv h0 h1 h11 hx hr
    have hj : s.length ≤ pos := by simpa using hd
    refine LoopC_unfold tok fm ?_
    simp (disch := omega) only [l129_1x, l129_1b, walkAll, walkL, h11, hv, Nat.reduceEqDiff, ↓reduceIte]
    exact hx _ _ rfl
  | cons x rest ih =>
    intro pos e σ hd hv h0 h1 h11 hx hr
    have hxj : s[pos]? = some x := by
      have := congrArg (fun l => l[0]?) hd
      simpa using this
    have hj : pos < s.length := (List.getElem?_eq_some_iff.1 hxj).1
    have hlt := getV_lt hv
    have hdec := isIn_dec s set ha pos x hxj
    refine LoopC_unfold tok fm ?_
    simp (disch := omega) only [l129_1x, l129_1b, walkAll, walkL, h11, hv, h0, h1, Nat.reduceEqDiff, ↓reduceIte]
    refine inner66 (nvs σ) set ha ((Utf8.decode ⟨s.toArray⟩ pos).1 : Int) set 0 false _ _ rfl ?_ (by simp [put]) (by simp [put]) (by simp [put]) ?_
    · simp only [getV, nvs, St.pushV, St.setV]; simp
    · intro e' σ' h7 hk hv' _
      rw [hdec, Bool.false_or] at h7
      have h0' : e' 0 = some (.str s) := by rw [hk 0 (by simp)]; simp [put, h0]
      have h1' : e' 1 = some (.str set) := by rw [hk 1 (by simp)]; simp [put, h1]
      have h5' : e' 5 = some (.int .i64 pos) := by rw [hk 5 (by simp)]; simp [put]
      have h11' : e' 11 = some (.vp k 0) := by rw [hk 11 (by simp)]; simp [put, h11]
      simp (disch := omega) only [walkAll, walkL, h7, h0', h5', Nat.reduceEqDiff, ↓reduceIte]
      refine brC_split (fun hb => ?_) (fun hb => ?_)
      · simp only [Bool.not_eq_true'] at hb
        simp (disch := omega) only [walkAll, walkL, h7, h0', h5', Nat.reduceEqDiff, ↓reduceIte, hd]
        refine hr _ _ ?_
        have hl : s.length - pos = (x :: rest).length := by rw [← hd]; simp
        simp only [put, Nat.reduceEqDiff, ↓reduceIte, hl, List.take_length, List.dropWhile, hb]
      · simp only [Bool.not_eq_false'] at hb
        have hlow : x.toNat < 128 := by
          rcases Nat.lt_or_ge x.toNat 128 with h | h
          · exact h
          · rw [contains_high set ha x h] at hb; cases hb
        have hd2 := dec_low s pos x hxj hlow
        simp (disch := omega) only [walkAll, walkL, h7, h0', h5', Nat.reduceEqDiff, ↓reduceIte]
        have hrest : s.drop (pos + 1) = rest := by rw [← List.drop_drop, hd]; rfl
        have e1 : (x :: rest).dropWhile set.contains = rest.dropWhile set.contains := by rw [List.dropWhile_cons_of_pos hb]
        rw [e1] at hx hr
        refine ih (pos + 1) _ σ' hrest ?_ (by simp [put, h0']) (by simp [put, h1']) (by simp [put, h11']) hx hr
        rw [hv' k (by omega), hd2]
        simp only [getV, nvs, St.pushV, St.setV] at *
        rw [List.getElem?_append_left (by simpa using hlt)]
        exact List.getElem?_set_self hlt
theorem cutLeft_c (s set : List UInt8) (hs : s.length < 9223372036854775808) (ha : ∀ b ∈ set, b.toNat < 128) (h : K (.str (s.dropWhile set.contains)) σ) : ACalls Tryz.prog (gD m) 129 [.str s, .str set] σ K := by
  refine (ACalls.frame gD_data (.cons _ _ (.str _) (.cons _ _ (.str _) .nil)) (Q := fun r => r = .str (s.dropWhile set.contains)) ?_ σ).mono (fun r σ' hr => by rw [hr.1, hr.2]; exact h)
  refine ACalls_fn tok fm (fk129 _) ?_
  simp only [c129, walkAll, walkL, E, Nat.reduceEqDiff, ↓reduceIte]
  refine outer66 0 s set hs ha s 0 _ _ rfl (by simp [getV]) (by simp [put, E]) (by simp [put, E]) (by simp [put, E]) (fun e' σ' he => ?_) (fun e' σ' he => ?_)
  · simp only [walkAll, walkL, Nat.reduceEqDiff, ↓reduceIte]
    exact ⟨.str _, by rw [he]⟩
  · simp only [walkAll, walkL, he, Nat.reduceEqDiff, ↓reduceIte]
    exact .str _
end
end Go.Ab.Sz
namespace Go.Ab.Sz
open Go Go.Ab Go.Proofs Go.RowKit
set_option maxRecDepth 20000
set_option linter.unusedSimpArgs false
section
variable {m : Int} {σ : St} {K : AV → St → Prop}
theorem RepL.ints_inv {C : Cz} {k : IntKind} {α : Type} (f : α → Int) : ∀ {l : List α} {vs : List Value}, RepL C (l.map fun a => AV.int k (f a)) vs → vs = l.map fun a => Value.int k (f a)
  | [], vs, h => by cases h; rfl
  | a :: l, vs, h => by
    cases h with | cons _ _ _ _ h1 t => cases h1; rw [RepL.ints_inv f t]; rfl
theorem gD_tabs {C : Cz} {w : World} (h : GOK (gD m) C) (hm : ∀ b o v, C.M b o = some v → w.cell? ⟨b, o, none⟩ = some v) : Lib.Utf8Tabs 0 1 w := by
  refine ⟨?_, ?_⟩
  · obtain ⟨vs, h1, h2⟩ := h.cell hm (g := 0) (cs := firstL) rfl
    have := RepL.ints_inv _ h1
    subst this
    intro c hc
    refine h2 c _ ?_
    rw [List.getElem?_map, List.getElem?_range hc]; rfl
  · obtain ⟨vs, h1, h2⟩ := h.cell hm (g := 1) (cs := accL) rfl
    have e : accL = (List.range 32).map fun j => AV.int .u8 (if j % 2 = 0 then Lib.accLo (j / 2) else Lib.accHi (j / 2)) := by rfl
    rw [e] at h1
    have := RepL.ints_inv _ h1
    subst this
    intro i hi
    refine ⟨h2 (2 * i) _ ?_, h2 (2 * i + 1) _ ?_⟩
    · rw [List.getElem?_map, List.getElem?_range (by omega)]
      simp
    · rw [List.getElem?_map, List.getElem?_range (by omega)]
      simp [show (2 * i + 1) % 2 = 1 by omega, show (2 * i + 1) / 2 = i by omega]
theorem DecodeLast_c (s : List UInt8) (hs : s.length ≤ 9223372036854775807) (h : K (.tup [.int .i32 (Lib.decodeLastL s).1, .int .i64 (Lib.decodeLastL s).2]) σ) : ACalls Tryz.prog (gD m) 122 [.str s] σ K :=
  ACalls.of_calls Tryz.func122 rfl (by decide) (fun C w vs hm hg ha => by
    rw [ha.s_inv]
    exact (Tryz.utf8_DecodeLastRuneInString ⟨s.toArray⟩ w (by rw [str_size]; exact hs) (gD_tabs hg hm)).mono fun _ _ h => ⟨_, h.1, .tup _ _ (.cons _ _ _ _ (.int _ _) (.cons _ _ _ _ (.int _ _) .nil)), h.2⟩) h
theorem last_high (t : List UInt8) (b : UInt8) (h : 128 ≤ b.toNat) : 128 ≤ (Lib.decodeLastL (t ++ [b])).1 := by
  have hlast : (t ++ [b]).getD ((t ++ [b]).length - 1) 0 = b := by simp [List.getD]
  unfold Lib.decodeLastL
  rw [if_neg (by simp), hlast, if_neg (by omega)]
  simp only
  split
  · rename_i heq
    have hdd : Lib.decodeL ((t ++ [b]).drop (Lib.lastStart (t ++ [b]))) = Utf8.decode ⟨(t ++ [b]).toArray⟩ (Lib.lastStart (t ++ [b])) := Lib.decodeL_drop ⟨(t ++ [b]).toArray⟩ _
    rw [hdd] at heq ⊢
    generalize Lib.lastStart (t ++ [b]) = k at *
    cases hx : (t ++ [b])[k]? with
    | none =>
      have hk : (t ++ [b]).length ≤ k := by simpa using hx
      have : 1 ≤ (Utf8.decode ⟨(t ++ [b]).toArray⟩ k).2 := by
        unfold Utf8.decode
        simp only
        repeat' split
        all_goals simp
      omega
    | some x =>
      by_cases hlow : x.toNat < 128
      · rw [dec_low _ k x hx hlow] at heq
        have hk : k = t.length := by simp at heq; omega
        subst hk
        simp at hx
        subst hx
        omega
      · exact dec_high _ k x hx (by omega)
  · simp [Utf8.runeError]
theorem inner65 (k : Nat) (set : List UInt8) (ha : ∀ b ∈ set, b.toNat < 128) (c : Int) {Q : EQ} : ∀ (rest : List UInt8) (j : Nat) (inn : Bool) (e : Env) (σ : St), set.drop j = rest → getV σ k = some (.siter set j) → e 19 = some (.vp k 0) → e 7 = some (.bool inn) → e 5 = some (.int .i32 c) →
    (∀ e' σ', e' 7 = some (.bool (inn || isIn c rest)) → (∀ n, n = 0 ∨ n = 1 ∨ n = 6 → e' n = e n) → Q (.exit 2) e' σ') →
    LoopC Tryz.prog tt (gD m) l128_0 Q e σ := by
  intro rest
  induction rest with
  | nil =>
    intro j inn e σ hd hv h17 h7 h6 hq
    have hj : set.length ≤ j := by simpa using hd
    refine LoopC_unfold tok fm ?_
    simp (disch := omega) only [l128_0x, l128_0b, walkAll, walkL, h17, hv, Nat.reduceEqDiff, ↓reduceIte]
    refine hq _ _ (by simp [put, h7, isIn]) ?_
    rintro n (rfl | rfl | rfl) <;> simp [put]
  | cons x rest ih =>
    intro j inn e σ hd hv h17 h7 h6 hq
    have hxj : set[j]? = some x := by
      have := congrArg (fun l => l[0]?) hd
      simpa using this
    have hj : j < set.length := (List.getElem?_eq_some_iff.1 hxj).1
    have hx : x.toNat < 128 := ha x (List.mem_of_getElem? hxj)
    have hdec := dec_low set j x hxj hx
    have hlt := getV_lt hv
    refine LoopC_unfold tok fm ?_
    simp (disch := omega) only [l128_0x, l128_0b, walkAll, walkL, h17, hv, h7, h6, hdec, Nat.reduceEqDiff, ↓reduceIte]
    have hrest : set.drop (j + 1) = rest := by
      rw [← List.drop_drop, hd]; rfl
    have hv' : getV (σ.setV k (.siter set (j + 1))) k = some (.siter set (j + 1)) := by simp only [getV, St.setV]; exact List.getElem?_set_self hlt
    refine brG_split (fun hb => ?_) (fun hb => ?_)
    · simp only [Bool.not_eq_true'] at hb
      subst hb
      simp (disch := omega) only [walkAll, walkL, h17, hv, h7, h6, Nat.reduceEqDiff, ↓reduceIte]
      refine ih (j + 1) (c == (x.toNat : Int)) _ _ hrest hv' (by simp [put, h17]) (by simp [put]) (by simp [put, h6]) (fun e' σ' h1 h2 => hq e' σ' ?_ ?_)
      · rw [h1, isIn_cons]
        have : (c == (x.toNat : Int)) = ((x.toNat : Int) == c) := by rw [Bool.eq_iff_iff]; simp; exact eq_comm
        rw [this]; rfl
      · rintro n (rfl | rfl | rfl) <;> (rw [h2 _ (by simp)]; simp [put])
    · simp only [Bool.not_eq_false'] at hb
      subst hb
      simp (disch := omega) only [walkAll, walkL, h17, hv, h7, h6, Nat.reduceEqDiff, ↓reduceIte]
      refine ih (j + 1) true _ _ hrest hv' (by simp [put, h17]) (by simp [put]) (by simp [put, h6]) (fun e' σ' h1 h2 => hq e' σ' ?_ ?_)
      · rw [h1]; rfl
      · rintro n (rfl | rfl | rfl) <;> (rw [h2 _ (by simp)]; simp [put])
/-- Without the bytes of a set at its end. -/
def cutR (set : List UInt8) (s : List UInt8) : List UInt8 := (s.reverse.dropWhile set.contains).reverse
theorem cutR_snoc (set : List UInt8) (t : List UInt8) (b : UInt8) : cutR set (t ++ [b]) = if set.contains b then cutR set t else t ++ [b] := by
  simp only [cutR, List.reverse_append, List.reverse_cons, List.reverse_nil, List.nil_append, List.singleton_append, List.dropWhile_cons]
  split <;> simp
theorem outer65 (set : List UInt8) (ha : ∀ b ∈ set, b.toNat < 128) {Q : EQ} : ∀ (n : Nat) (s : List UInt8) (e : Env) (σ : St), s.length = n → s.length < 9223372036854775807 → e 0 = some (.str s) → e 1 = some (.str set) →
    (∀ e' σ', e' 0 = some (.str []) → cutR set s = [] → Q (.exit 0) e' σ') → (∀ e' σ', e' 4 = some (.str (cutR set s)) → Q .ret e' σ') →
    LoopC Tryz.prog tt (gD m) l128_1 Q e σ := by
  intro n
  induction n with
  | zero =>
    intro s e σ hn hs h0 h1 hx hr
    have : s = [] := List.length_eq_zero_iff.1 hn
    subst this
    refine LoopC_unfold tok fm ?_
    simp (disch := omega) only [l128_1x, l128_1b, walkAll, walkL, h0, Int.natCast_zero, Int.lt_irrefl, decide_false, gt_iff_lt, Nat.reduceEqDiff, ↓reduceIte]
    exact hx _ _ (by simp [put, h0]) rfl
  | succ n ih =>
    intro s e σ hn hs h0 h1 hx hr
    obtain ⟨t, b, rfl⟩ : ∃ t b, s = t ++ [b] := by
      have hne : s ≠ [] := by intro e; rw [e] at hn; cases hn
      exact ⟨s.dropLast, s.getLast hne, (List.dropLast_concat_getLast hne).symm⟩
    have d : decide ((0 : Int) < (((t ++ [b]).length : Nat) : Int)) = true := by simp
    refine LoopC_unfold tok fm ?_
    simp (disch := omega) only [l128_1x, l128_1b, walkAll, walkL, h0, h1, d, Nat.reduceEqDiff, ↓reduceIte]
    refine DecodeLast_c _ (by omega) ?_
    simp (disch := omega) only [walkAll, walkL, h0, h1, Nat.reduceEqDiff, ↓reduceIte]
    refine inner65 (nvs σ) set ha ((Lib.decodeLastL (t ++ [b])).1 : Int) set 0 false _ _ rfl ?_ (by simp [put]) (by simp [put]) (by simp [put]) ?_
    · simp only [getV, nvs, St.pushV]; simp
    · intro e' σ' h7 hk
      have hin : isIn ((Lib.decodeLastL (t ++ [b])).1 : Int) set = set.contains b := by
        by_cases h : b.toNat < 128
        · rw [Lib.decodeLastL_ascii t b h]; exact isIn_low set b
        · rw [contains_high set ha b (by omega)]
          exact isIn_high set ha _ (by have := last_high t b (by omega); omega)
      rw [hin, Bool.false_or] at h7
      have h0' : e' 0 = some (.str (t ++ [b])) := by rw [hk 0 (by simp)]; simp [put, h0]
      have h1' : e' 1 = some (.str set) := by rw [hk 1 (by simp)]; simp [put, h1]
      have h6' : e' 6 = some (.int .i64 (Lib.decodeLastL (t ++ [b])).2) := by rw [hk 6 (by simp)]; simp [put]
      simp (disch := omega) only [walkAll, walkL, h7, h0', Nat.reduceEqDiff, ↓reduceIte]
      refine brC_split (fun hb => ?_) (fun hb => ?_)
      · simp only [Bool.not_eq_true'] at hb
        simp (disch := omega) only [walkAll, walkL, h7, h0', Nat.reduceEqDiff, ↓reduceIte]
        refine hr _ _ ?_
        rw [cutR_snoc, hb]
        simp [put]
      · simp only [Bool.not_eq_false'] at hb
        have hlow : b.toNat < 128 := by
          rcases Nat.lt_or_ge b.toNat 128 with h | h
          · exact h
          · rw [contains_high set ha b h] at hb; cases hb
        rw [Lib.decodeLastL_ascii t b hlow] at h6'
        have hl : (t ++ [b]).length = t.length + 1 := by simp
        have e1 : (((t.length + 1 : Nat) : Int) - ((1 : Nat) : Int)).toNat = t.length := by omega
        rw [hl] at hn hs
        simp (disch := omega) only [walkAll, walkL, h7, h0', h6', hl, wrap_i64, e1, Nat.sub_zero, List.take_left, Nat.reduceEqDiff, ↓reduceIte]
        rw [cutR_snoc, hb] at hx hr
        exact ih t _ σ' (by omega) (by omega) (by simp [put]) (by simp [put, h1']) hx hr
theorem cutRight_c (s set : List UInt8) (hs : s.length < 9223372036854775807) (ha : ∀ b ∈ set, b.toNat < 128) (h : K (.str (cutR set s)) σ) : ACalls Tryz.prog (gD m) 128 [.str s, .str set] σ K := by
  refine (ACalls.frame gD_data (.cons _ _ (.str _) (.cons _ _ (.str _) .nil)) (Q := fun r => r = .str (cutR set s)) ?_ σ).mono (fun r σ' hr => by rw [hr.1, hr.2]; exact h)
  refine ACalls_fn tok fm (fk128 _) ?_
  simp only [c128, walkAll, walkL, E, Nat.reduceEqDiff, ↓reduceIte]
  refine outer65 set ha s.length s _ _ rfl hs (by simp [put, E]) (by simp [put, E]) (fun e' σ' h0 he => ?_) (fun e' σ' he => ?_)
  · simp only [walkAll, walkL, h0, Nat.reduceEqDiff, ↓reduceIte]
    exact ⟨.str _, by rw [he]⟩
  · simp only [walkAll, walkL, he, Nat.reduceEqDiff, ↓reduceIte]
    exact .str _
end
end Go.Ab.Sz
namespace Go.Ab.Sz
open Go Go.Ab Go.Proofs Go.RowKit
set_option maxRecDepth 20000
set_option linter.unusedSimpArgs false
section
variable {m : Int} {σ : St} {K : AV → St → Prop}
theorem low_all : ∀ n : Fin 256, IntKind.u8.wrap ((BitVec.ofInt IntKind.u8.bits (n.val : Int) ||| BitVec.ofInt IntKind.u8.bits 32).toNat : Int) = ((UInt8.ofNat n.val ||| 32).toNat : Int) := by decide
theorem low_eq (x : UInt8) : IntKind.u8.wrap ((BitVec.ofInt IntKind.u8.bits (x.toNat : Int) ||| BitVec.ofInt IntKind.u8.bits 32).toNat : Int) = ((x ||| 32).toNat : Int) := by
  have := low_all ⟨x.toNat, x.toNat_lt⟩
  simpa using this
theorem lower_c (x : UInt8) (h : K (.int .u8 (x ||| 32).toNat) σ) : ACalls Tryz.prog (gD m) 153 [.int .u8 x.toNat] σ K := by
  refine ACalls_fn tok fm (fk153 _) ?_
  simp only [c153, walkAll, walkL, E, low_eq, Nat.reduceEqDiff, ↓reduceIte]
  exact h
/-- A digit's worth. -/
def dgt (x : UInt8) : Nat := if 48 ≤ x.toNat ∧ x.toNat ≤ 57 then x.toNat - 48 else (x ||| 32).toNat - 97 + 10
def isDgt (B : Nat) (x : UInt8) : Prop := (48 ≤ x.toNat ∧ x.toNat ≤ 57) ∨ (B = 16 ∧ 58 ≤ x.toNat ∧ x.toNat ≠ 95 ∧ 97 ≤ (x ||| 32).toNat ∧ (x ||| 32).toNat ≤ 102)
theorem dgt_lt {B : Nat} (hB : B = 10 ∨ B = 16) {x : UInt8} (h : isDgt B x) : dgt x < B := by
  unfold dgt
  rcases h with h | ⟨rfl, h1, h2, h3, h4⟩
  · rw [if_pos h]; omega
  · rw [if_neg (by omega)]; omega
theorem pu_loop (B : Nat) (hB : B = 10 ∨ B = 16) (r : Nat) (row : Row) (s : List UInt8) (hs : s.length ≤ 7) (hd : ∀ x ∈ s, isDgt B x) (hr : getR σ r = some (some row)) (he : row.els = bytesE s) (hz : row.esz = 1) (cut : Int) (hc : 268435456 ≤ cut) {Q : EQ} :
    ∀ (rest : List UInt8) (i acc : Nat) (e : Env), s.drop i = rest → acc < B ^ i → e 99 = some (.os r 0 s.length) → e 100 = some (.int .i64 s.length) → e 101 = some (.int .i64 i) → e 1 = some (.int .i64 B) → e 8 = some (.bool false) → e 10 = some (.int .u64 cut) → e 11 = some (.int .u64 4294967295) → e 12 = some (.bool false) → e 13 = some (.int .u64 acc) →
    (∀ e', e' 13 = some (.int .u64 (rest.foldl (fun (a : Nat) x => a * B + dgt x) acc : Nat)) → e' 12 = some (.bool false) → Q (.exit 3) e' σ) →
    LoopC Tryz.prog tt (gD m) l144_0 Q e σ := by
  intro rest
  induction rest with
  | nil =>
    intro i acc e hdr hacc h99 h100 h101 h1 h8 h10 h11 h12 h13 hq
    have hi : s.length ≤ i := by simpa using hdr
    have d : decide ((i : Int) < (s.length : Int)) = false := by simp; omega
    refine LoopC_unfold tok fm ?_
    simp (disch := omega) only [l144_0x, l144_0b, walkAll, walkL, h100, h101, d, Nat.reduceEqDiff, ↓reduceIte]
    exact hq _ (by simp [put, h13]) (by simp [put, h12])
  | cons x rest ih =>
    intro i acc e hdr hacc h99 h100 h101 h1 h8 h10 h11 h12 h13 hq
    have hxi : s[i]? = some x := by
      have := congrArg (fun l => l[0]?) hdr
      simpa using this
    have hi : i < s.length := (List.getElem?_eq_some_iff.1 hxi).1
    have hx := hd x (List.mem_of_getElem? hxi)
    have hdl := dgt_lt hB hx
    have hel : row.els[i]? = some [.int .u8 x.toNat] := by rw [he, bytesE, List.getElem?_map, hxi]; rfl
    have d : decide ((i : Int) < (s.length : Int)) = true := by simp; omega
    have hpow : B ^ i ≤ 16777216 := by
      have h6 : i ≤ 6 := by omega
      rcases hB with rfl | rfl
      · exact Nat.le_trans (Nat.pow_le_pow_right (by omega) h6) (by decide)
      · exact Nat.le_trans (Nat.pow_le_pow_right (by omega) h6) (by decide)
    have hacc' : acc * B + dgt x < B ^ (i + 1) := by
      rw [Nat.pow_succ]
      have : (acc + 1) * B ≤ B ^ i * B := Nat.mul_le_mul_right _ hacc
      rw [Nat.add_mul, Nat.one_mul] at this
      omega
    have hxl := x.toNat_lt
    refine LoopC_unfold tok fm ?_
    simp (disch := omega) only [l144_0x, l144_0b, walkAll, walkL, h99, h100, h101, d, hr, hz, hel, Nat.zero_add, Nat.reduceEqDiff, ↓reduceIte]
    have hm : acc * B + dgt x < 268435456 := by
      refine Nat.lt_of_lt_of_le hacc' ?_
      have h7 : i + 1 ≤ 7 := by omega
      rcases hB with rfl | rfl
      · exact Nat.le_trans (Nat.pow_le_pow_right (by omega) h7) (by decide)
      · exact Nat.le_trans (Nat.pow_le_pow_right (by omega) h7) (by decide)
    have w1 : IntKind.u8.wrap (B : Int) = B := wrap_u8 _ (by omega) (by omega)
    have w2 : IntKind.u64.wrap (B : Int) = B := wrap_u64 _ (by omega) (by omega)
    have w3 : IntKind.u64.wrap ((acc : Int) * (B : Int)) = ((acc * B : Nat) : Int) := by
      rw [← Int.natCast_mul]; exact wrap_u64 _ (by omega) (by omega)
    have w4 : IntKind.u64.wrap ((dgt x : Nat) : Int) = (dgt x : Nat) := wrap_u64 _ (by omega) (by omega)
    have w5 : IntKind.u64.wrap (((acc * B : Nat) : Int) + ((dgt x : Nat) : Int)) = ((acc * B + dgt x : Nat) : Int) := by
      rw [← Int.natCast_add]; exact wrap_u64 _ (by omega) (by omega)
    have c1 : decide ((B : Int) ≤ ((dgt x : Nat) : Int)) = false := by simp; omega
    have c2 : decide (cut ≤ (acc : Int)) = false := by
      have : acc ≤ 16777216 := by omega
      simp; omega
    have c3 : decide (((acc * B + dgt x : Nat) : Int) < ((acc * B : Nat) : Int)) = false := by simp only [decide_eq_false_iff_not]; omega
    have c4 : decide ((4294967295 : Int) < ((acc * B + dgt x : Nat) : Int)) = false := by simp only [decide_eq_false_iff_not]; omega
    have w6 : IntKind.i64.wrap ((i : Int) + 1) = ((i + 1 : Nat) : Int) := by
      rw [show ((i : Int) + 1) = ((i + 1 : Nat) : Int) by simp]; exact wrap_i64 _ (by omega) (by omega)
    have hrest : s.drop (i + 1) = rest := by rw [← List.drop_drop, hdr]; rfl
    rcases hx with hx | ⟨hB16, hx⟩
    · have d0 : IntKind.u8.wrap ((x.toNat : Int) - 48) = ((dgt x : Nat) : Int) := by
        have : dgt x = x.toNat - 48 := by unfold dgt; rw [if_pos hx]
        rw [this, wrap_u8 _ (by omega) (by omega)]; omega
      have d1 : ((x.toNat : Int) == 95) = false := by simp; omega
      have d2 : decide ((48 : Int) ≤ (x.toNat : Int)) = true := by simp; omega
      have d3 : decide ((x.toNat : Int) ≤ 57) = true := by simp; omega
      simp (disch := omega) only [walkAll, walkL, d0, d1, d2, d3, h8, h1, h10, h11, h13, h101, w1, w2, w3, w4, w5, w6, c1, c2, c3, c4, Nat.reduceEqDiff, Nat.reduceAdd, Nat.reduceLeDiff, Nat.le_refl, ↓reduceIte]
      exact ih (i + 1) (acc * B + dgt x) _ hrest hacc' (by simp [put, h99]) (by simp [put, h100]) (by simp [put]) (by simp [put, h1]) (by simp [put, h8]) (by simp [put, h10]) (by simp [put, h11]) (by simp [put, h12]) (by simp [put]) hq
    · have d1 : ((x.toNat : Int) == 95) = false := by simp; omega
      have d2 : decide ((48 : Int) ≤ (x.toNat : Int)) = true := by simp; omega
      have d3 : decide ((x.toNat : Int) ≤ 57) = false := by simp; omega
      have d4 : decide ((97 : Int) ≤ ((x ||| 32).toNat : Int)) = true := by simp only [decide_eq_true_eq]; omega
      have d5 : decide (((x ||| 32).toNat : Int) ≤ 122) = true := by simp only [decide_eq_true_eq]; omega
      have d6 : IntKind.u8.wrap (((x ||| 32).toNat : Int) - 97) = (((x ||| 32).toNat - 97 : Nat) : Int) := by
        rw [wrap_u8 _ (by omega) (by omega)]; omega
      have d7 : IntKind.u8.wrap ((((x ||| 32).toNat - 97 : Nat) : Int) + 10) = ((dgt x : Nat) : Int) := by
        have : dgt x = (x ||| 32).toNat - 97 + 10 := by unfold dgt; rw [if_neg (by omega)]
        rw [this, wrap_u8 _ (by omega) (by omega)]; omega
      simp (disch := omega) only [walkAll, walkL, d1, d2, d3, h8, h1, h10, h11, h13, Nat.reduceEqDiff, Nat.reduceAdd, Nat.reduceLeDiff, Nat.le_refl, ↓reduceIte]
      refine lower_c x ?_
      simp (disch := omega) only [walkAll, walkL, d4, d5, Nat.reduceEqDiff, Nat.reduceAdd, Nat.reduceLeDiff, Nat.le_refl, ↓reduceIte]
      refine lower_c x ?_
      simp (disch := omega) only [walkAll, walkL, d4, d5, Nat.reduceEqDiff, Nat.reduceAdd, Nat.reduceLeDiff, Nat.le_refl, ↓reduceIte]
      refine lower_c x ?_
      simp (disch := omega) only [walkAll, walkL, d6, d7, h8, h1, h10, h11, h13, h101, w1, w2, w3, w4, w5, w6, c1, c2, c3, c4, Nat.reduceEqDiff, Nat.reduceAdd, Nat.reduceLeDiff, Nat.le_refl, ↓reduceIte]
      exact ih (i + 1) (acc * B + dgt x) _ hrest hacc' (by simp [put, h99]) (by simp [put, h100]) (by simp [put]) (by simp [put, h1]) (by simp [put, h8]) (by simp [put, h10]) (by simp [put, h11]) (by simp [put, h12]) (by simp [put]) hq
/-- What digits say. -/
def digitsV (B : Nat) (s : List UInt8) : Nat := s.foldl (fun (a : Nat) x => a * B + dgt x) 0
theorem ParseUint75_c (B : Nat) (hB : B = 10 ∨ B = 16) (s : List UInt8) (h0 : s ≠ []) (hs : s.length ≤ 7) (hd : ∀ x ∈ s, isDgt B x) (h : K (.tup [.int .u64 (digitsV B s : Nat), .nili]) σ) :
    ACalls Tryz.prog (gD m) 144 [.str s, .int .i64 B, .int .i64 32] σ K := by
  refine (ACalls.frame gD_data (.cons _ _ (.str _) (.cons _ _ (.int _ _) (.cons _ _ (.int _ _) .nil))) (Q := fun r => r = .tup [.int .u64 (digitsV B s : Nat), .nili]) ?_ σ).mono (fun r σ' hr => by rw [hr.1, hr.2]; exact h)
  refine ACalls_fn tok fm (fk144 _) ?_
  have hne : (s == []) = false := by cases s with
    | nil => exact absurd rfl h0
    | cons a l => rfl
  have b0 : ((B : Int) == 0) = false := by rcases hB with rfl | rfl <;> rfl
  have b2 : decide ((2 : Int) ≤ (B : Int)) = true := by rcases hB with rfl | rfl <;> rfl
  have b36 : decide ((B : Int) ≤ 36) = true := by rcases hB with rfl | rfl <;> rfl
  have z1 : ((32 : Int) == 0) = false := rfl
  have z2 : decide ((32 : Int) < 0) = false := rfl
  have z3 : decide ((64 : Int) < 32) = false := rfl
  have w1 : IntKind.u64.wrap (32 : Int) = 32 := by decide
  have w2 : IntKind.u64.wrap (1 * 2 ^ (min (Int.toNat 32) IntKind.u64.bits)) = 4294967296 := by decide
  have w3 : IntKind.u64.wrap ((4294967296 : Int) - 1) = 4294967295 := by decide
  have fin : ∀ e' : Env, e' 13 = some (.int .u64 (digitsV B s : Nat)) → e' 12 = some (.bool false) → True := fun _ _ _ => trivial
  have b10 : ((B : Int) == 10) = decide (B = 10) := by rcases hB with rfl | rfl <;> rfl
  have b16 : ((B : Int) == 16) = decide (B = 16) := by rcases hB with rfl | rfl <;> rfl
  simp (disch := omega) only [c144, walkAll, walkL, E, hne, b0, b2, b36, z1, z2, z3, Nat.reduceEqDiff, ↓reduceIte]
  rcases hB with rfl | rfl
  · have q : (((10 : Nat) : Int) == 10) = true := rfl
    simp (disch := omega) only [q, walkAll, walkL, E, w1, w2, w3, Nat.reduceEqDiff, ↓reduceIte]
    refine pu_loop 10 (.inl rfl) 0 ⟨5, 1, 0, bytesE s⟩ s hs hd rfl rfl rfl 1844674407370955162 (by omega) s 0 0 _ rfl (by decide) (by simp [put]) (by simp [put]) (by simp [put]) (by simp [put, E]) (by simp [put]) (by simp [put]) (by simp [put]) (by simp [put]) (by simp [put]) (fun e' h13 h12 => ?_)
    simp (disch := omega) only [walkAll, walkL, h12, h13, Nat.reduceEqDiff, ↓reduceIte]
    exact ⟨.tup _ (.cons _ _ (.int _ _) (.cons _ _ .nili .nil)), rfl⟩
  · have q : (((16 : Nat) : Int) == 10) = false := rfl
    have q2 : (((16 : Nat) : Int) == 16) = true := rfl
    simp (disch := omega) only [q, q2, walkAll, walkL, E, w1, w2, w3, Nat.reduceEqDiff, ↓reduceIte]
    refine pu_loop 16 (.inr rfl) 0 ⟨5, 1, 0, bytesE s⟩ s hs hd rfl rfl rfl 1152921504606846976 (by omega) s 0 0 _ rfl (by decide) (by simp [put]) (by simp [put]) (by simp [put]) (by simp [put, E]) (by simp [put]) (by simp [put]) (by simp [put]) (by simp [put]) (by simp [put]) (fun e' h13 h12 => ?_)
    simp (disch := omega) only [walkAll, walkL, h12, h13, Nat.reduceEqDiff, ↓reduceIte]
    exact ⟨.tup _ (.cons _ _ (.int _ _) (.cons _ _ .nili .nil)), rfl⟩
theorem ParseUint_c (B : Nat) (hB : B = 10 ∨ B = 16) (s : List UInt8) (h0 : s ≠ []) (hs : s.length ≤ 7) (hd : ∀ x ∈ s, isDgt B x) (h : K (.tup [.int .u64 (digitsV B s : Nat), .nili]) σ) :
    ACalls Tryz.prog (gD m) 130 [.str s, .int .i64 B, .int .i64 32] σ K := by
  refine ACalls_fn tok fm (fk130 _) ?_
  simp (disch := omega) only [c130, walkAll, walkL, E, Nat.reduceEqDiff, ↓reduceIte]
  refine ParseUint75_c B hB s h0 hs hd ?_
  simp (disch := omega) only [walkAll, walkL, E, Nat.reduceEqDiff, ↓reduceIte]
  exact h
end
end Go.Ab.Sz
namespace Go.Ab.Sz
open Go Go.Ab Go.Proofs Go.RowKit
set_option maxRecDepth 20000
set_option linter.unusedSimpArgs false
section
variable {m : Int} {σ : St} {K : AV → St → Prop}
theorem IndexFunc_c (g : Nat) (fn : Func) (hf : Tryz.prog.funcs[g]? = some fn) (hb : fn.body.isSome = true) (hn : (fn.name == "runtime.NumGoroutine") = false) (p : Nat → Bool) (s : List UInt8)
    (hp : ∀ x : Nat, x ≤ 1114111 → ACalls Tryz.prog (gD m) g [.int .i32 x] ⟨[], []⟩ (fun r _ => r = .bool (p x)))
    (h : K (.int .i64 (Lib.idxFunc p true ⟨s.toArray⟩)) σ) : ACalls Tryz.prog (gD m) 46 [.str s, .fn (.func g) [] []] σ K :=
  ACalls.of_calls Tryz.func46 rfl (by decide) (fun C w vs hm hg ha => by
    obtain ⟨us, rfl, ha2⟩ := ha.str_inv
    obtain ⟨rfl⟩ : us = [.func (.func g) #[] #[]] := by
      clear ha
      cases ha2 with | cons _ _ _ _ h1 t => cases h1 with | fn _ _ _ vf vc h2 h3 => cases h2; cases h3; cases t; rfl
    have eg : ∀ args w, (callFunc g args).run Tryz.prog w = .ok (.enter g args) w := by
      intro args w
      unfold callFunc
      rw [Sem.run_bind, run_program, Result.andThen_ok]
      have hb' : fn.body.isNone = false := by cases hq : fn.body <;> simp_all
      simp only [hf, hb', hn, Bool.false_eq_true, if_false, Sem.run_pure]
    refine (Tryz.strings_IndexFunc_grows g #[] eg p ⟨s.toArray⟩ w ?_).mono fun e w' hh => ⟨_, hh.1, .int _ _, hh.2⟩
    intro W x hx hbel
    have hmW : ∀ b o v, C.M b o = some v → W.cell? ⟨b, o, none⟩ = some v := fun b o v e => by
      have hlt : b < w.heap.size := World.block_lt_of_cell? w _ (hm b o v e)
      rw [cell_of_heap (hbel.block b hlt)]; exact hm b o v e
    have := (hp x hx).to_calls hf hb hn (.cons _ _ (.int _ _) .nil) gD_data hmW hg (vs := [.int .i32 x]) (.cons _ _ _ _ (.int _ _) .nil)
    refine this.mono ?_
    rintro e w' ⟨v, r, D, he, hr, rfl, hb⟩
    cases hr
    exact ⟨he, hb⟩) h
theorem notMay_c (r : Int) (h : K (.bool (!mayS r)) σ) : ACalls Tryz.prog (gD m) 47 [.int .i32 r] σ K := by
  refine ACalls_fn tok fm (fk47 _) ?_
  simp only [c47, walkAll, walkL, E, Nat.reduceEqDiff, ↓reduceIte]
  refine may_c r ?_
  simp only [walkAll, walkL, E, Nat.reduceEqDiff, ↓reduceIte]
  exact h
end
end Go.Ab.Sz
namespace Go.Ab.Sz
open Go Go.Ab Go.Proofs Go.RowKit
set_option maxRecDepth 20000
set_option linter.unusedSimpArgs false
section
variable {m : Int} {σ : St} {K : AV → St → Prop}
theorem ValidString_c (s : List UInt8) (hs : s.length ≤ 9223372036854775807) (h : K (.bool (Lib.validD s)) σ) : ACalls Tryz.prog (gD m) 45 [.str s] σ K :=
  ACalls.of_calls Tryz.func45 rfl (by decide) (fun C w vs hm hg ha => by
    rw [ha.s_inv]
    have := Any.utf8_ValidString Tryz.laysValid ⟨s.toArray⟩ w (by rw [str_size]; exact hs) (gD_tabs hg hm)
    exact Calls.mono this fun _ _ h => ⟨_, h.1, .bool _, h.2⟩) h
/-- Is a text one that may be? -/
def utf8S (s : List UInt8) : Bool := Lib.validD s && decide (Lib.idxFunc (fun x => !mayS x) true ⟨s.toArray⟩ < 0)
theorem Utf8_c (s : List UInt8) (hs : s.length ≤ 9223372036854775807) (h : K (.bool (utf8S s)) σ) : ACalls Tryz.prog (gD m) 29 [.str s] σ K := by
  refine ACalls_fn tok fm (fk29 _) ?_
  simp only [c29, walkAll, walkL, E, Nat.reduceEqDiff, ↓reduceIte]
  refine ValidString_c s hs ?_
  simp only [walkAll, walkL, E, Nat.reduceEqDiff, ↓reduceIte]
  refine brG_split (fun hb => ?_) (fun hb => ?_)
  · simp only [hb, walkAll, walkL, E, Nat.reduceEqDiff, ↓reduceIte]
    refine IndexFunc_c 47 _ Tryz.func47 rfl (by decide) (fun x => !mayS x) s (fun x _ => notMay_c x rfl) ?_
    simp only [hb, walkAll, walkL, E, Nat.reduceEqDiff, ↓reduceIte]
    have e : utf8S s = decide (Lib.idxFunc (fun x => !mayS x) true ⟨s.toArray⟩ < 0) := by simp [utf8S, hb]
    rw [e] at h
    exact h
  · simp only [hb, walkAll, walkL, E, Nat.reduceEqDiff, ↓reduceIte]
    have e : utf8S s = false := by simp [utf8S, hb]
    rw [e] at h
    exact h
end
end Go.Ab.Sz
namespace Go.Ab.Sz
open Go Go.Ab Go.Proofs Go.RowKit
set_option maxRecDepth 40000
set_option linter.unusedSimpArgs false
section
variable {m : Int} {σ : St} {K : AV → St → Prop}
def tens : List UInt8 := [48, 49, 50, 51, 52, 53, 54, 55, 56, 57]
def hexes : List UInt8 := [48, 49, 50, 51, 52, 53, 54, 55, 56, 57, 97, 98, 99, 100, 101, 102, 65, 66, 67, 68, 69, 70]
theorem tens_dgt : ∀ x ∈ tens, isDgt 10 x := by unfold isDgt; decide
theorem hexes_dgt : ∀ x ∈ hexes, isDgt 16 x := by unfold isDgt; decide
theorem dropWhile_nil {p : UInt8 → Bool} : ∀ {l : List UInt8}, l.dropWhile p = [] → ∀ x ∈ l, p x = true
  | [], _, x, hx => by simp at hx
  | a :: l, h, x, hx => by
    rw [List.dropWhile_cons] at h
    split at h
    · rename_i ha
      rcases List.mem_cons.1 hx with rfl | hx
      · exact ha
      · exact dropWhile_nil h x hx
    · cases h
theorem all_of_cut {set s : List UInt8} (h : cutR set (s.dropWhile set.contains) = []) : ∀ x ∈ s, x ∈ set := by
  have hnil : s.dropWhile set.contains = [] := by
    cases hd : s.dropWhile set.contains with
    | nil => rfl
    | cons a l =>
      exfalso
      have ha : set.contains a = false := by
        have := List.head?_dropWhile_not set.contains s
        rw [hd] at this
        simpa using this
      rw [hd, cutR] at h
      have h2 : (a :: l).reverse.dropWhile set.contains = [] := by simpa using h
      have := dropWhile_nil h2 a (by simp)
      rw [this] at ha; cases ha
  intro x hx
  simpa using dropWhile_nil hnil x hx
/-- The character of digits; none: of none. -/
def numberS (set : List UInt8) (most B : Nat) (s : List UInt8) : List UInt8 :=
  if s == [] || decide (most < s.length) || !(cutR set (s.dropWhile set.contains) == []) then [] else
  if decide (1114111 < digitsV B s) || !Lib.validRune (digitsV B s) then [] else
  if utf8S (Utf8.encode (digitsV B s)).data.toList then (Utf8.encode (digitsV B s)).data.toList else []
theorem encode_len (r : Int) : (Utf8.encode r).data.toList.length ≤ 4 := by
  unfold Utf8.encode
  simp only
  repeat' split
  all_goals simp
set_option maxHeartbeats 1000000 in
theorem number_c (set : List UInt8) (most B : Nat) (hB : B = 10 ∨ B = 16) (hm : most ≤ 7) (hset : ∀ x ∈ set, x.toNat < 128) (hdg : ∀ x ∈ set, isDgt B x) (s : List UInt8) (hs : s.length < 9223372036854775807) (h : K (.str (numberS set most B s)) σ) :
    ACalls Tryz.prog (gD m) 118 [.str s, .str set, .int .i64 most, .int .i64 B] σ K := by
  refine ACalls_fn tok fm (fk118 _) ?_
  simp only [c118, walkAll, walkL, E, Nat.reduceEqDiff, ↓reduceIte]
  refine brG_split (fun hb => ?_) (fun hb => ?_)
  · simp only [Bool.not_eq_true'] at hb
    simp only [hb, walkAll, walkL, E, Nat.reduceEqDiff, ↓reduceIte]
    refine brG_split (fun hc => ?_) (fun hc => ?_)
    · simp only [Bool.not_eq_true'] at hc
      simp only [hb, hc, walkAll, walkL, E, Nat.reduceEqDiff, ↓reduceIte]
      refine cutLeft_c s set (by omega) hset ?_
      simp only [hb, hc, walkAll, walkL, E, Nat.reduceEqDiff, ↓reduceIte]
      refine cutRight_c _ set (by have := dropWhile_le set.contains s; omega) hset ?_
      simp only [hb, hc, walkAll, walkL, E, Nat.reduceEqDiff, ↓reduceIte]
      have hlen : s.length ≤ most := by simpa using hc
      have hc' : decide (most < s.length) = false := by simpa using hlen
      refine brC_split (fun hd => ?_) (fun hd => ?_)
      · simp only [walkAll, walkL, E, Nat.reduceEqDiff, ↓reduceIte]
        have e : numberS set most B s = [] := by unfold numberS; rw [if_pos (by rw [hd, Bool.or_true])]
        rw [e] at h; exact h
      · have hall := all_of_cut (set := set) (s := s) (by simpa using hd)
        have h0 : s ≠ [] := by intro e; rw [e] at hb; cases hb
        simp only [walkAll, walkL, E, Nat.reduceEqDiff, ↓reduceIte]
        refine ParseUint_c B hB s h0 (by omega) (fun x hx => hdg x (hall x hx)) ?_
        simp only [walkAll, walkL, E, Nat.reduceEqDiff, ↓reduceIte]
        have e1 : numberS set most B s = if decide (1114111 < digitsV B s) || !Lib.validRune (digitsV B s) then [] else if utf8S (Utf8.encode (digitsV B s)).data.toList then (Utf8.encode (digitsV B s)).data.toList else [] := by
          unfold numberS; rw [if_neg (by rw [hb, hc', hd]; decide)]
        refine brG_split (fun hf => ?_) (fun hf => ?_)
        · simp only [Bool.not_eq_true'] at hf
          have hv : digitsV B s ≤ 1114111 := by simp only [decide_eq_false_iff_not] at hf; omega
          have hf' : decide (1114111 < digitsV B s) = false := by simp only [decide_eq_false_iff_not]; omega
          have w : IntKind.i32.wrap ((digitsV B s : Nat) : Int) = (digitsV B s : Nat) := wrap_i32 _ (by omega) (by omega)
          simp only [hf, walkAll, walkL, E, Nat.reduceEqDiff, ↓reduceIte]
          rw [w]
          refine ValidRune_c ((digitsV B s : Nat) : Int) ?_
          simp only [hf, w, walkAll, walkL, E, Nat.reduceEqDiff, ↓reduceIte]
          cases hg : Lib.validRune ((digitsV B s : Nat) : Int) with
          | false =>
            simp only [hg, walkAll, walkL, E, Nat.reduceEqDiff, ↓reduceIte]
            rw [e1, if_pos (by rw [hg, Bool.not_false, Bool.or_true])] at h
            exact h
          | true =>
            simp only [hg, walkAll, walkL, E, Nat.reduceEqDiff, ↓reduceIte]
            rw [w]
            have hle := encode_len ((digitsV B s : Nat) : Int)
            refine Utf8_c (Utf8.encode ((digitsV B s : Nat) : Int)).data.toList (Nat.le_trans hle (by decide)) ?_
            rw [e1, if_neg (by rw [hf', hg]; decide)] at h
            cases hk : utf8S (Utf8.encode ((digitsV B s : Nat) : Int)).data.toList with
            | false =>
              simp only [hk, walkAll, walkL, E, Nat.reduceEqDiff, ↓reduceIte]
              rw [hk] at h
              exact h
            | true =>
              simp only [hk, w, walkAll, walkL, E, Nat.reduceEqDiff, ↓reduceIte]
              rw [hk] at h
              exact h
        · simp only [Bool.not_eq_false'] at hf
          have hf' : decide (1114111 < digitsV B s) = true := by simp only [decide_eq_true_eq] at hf ⊢; omega
          simp only [hf, walkAll, walkL, E, Nat.reduceEqDiff, ↓reduceIte]
          try simp only [hf, walkAll, walkL, E, Nat.reduceEqDiff, ↓reduceIte]
          rw [e1, if_pos (by rw [hf', Bool.true_or])] at h
          exact h
    · simp only [Bool.not_eq_false'] at hc
      simp only [hb, hc, walkAll, walkL, E, Nat.reduceEqDiff, ↓reduceIte]
      have hc' : decide (most < s.length) = true := by simpa using hc
      have e : numberS set most B s = [] := by unfold numberS; rw [if_pos (by rw [hc']; simp)]
      rw [e] at h; exact h
  · simp only [Bool.not_eq_false'] at hb
    simp only [hb, walkAll, walkL, E, Nat.reduceEqDiff, ↓reduceIte]
    have e : numberS set most B s = [] := by unfold numberS; rw [if_pos (by rw [hb]; rfl)]
    rw [e] at h; exact h
end
end Go.Ab.Sz
namespace Go.Ab.Sz
open Go Go.Ab Go.Proofs Go.RowKit
set_option maxRecDepth 40000
set_option linter.unusedSimpArgs false
section
variable {m : Int} {σ : St} {K : AV → St → Prop}
/-- What an entity is; none: of none. -/
def signS (s : List UInt8) : List UInt8 :=
  if s == [108, 116] then [60] else if s == [103, 116] then [62] else if s == [97, 109, 112] then [38] else if s == [113, 117, 111, 116] then [34] else if s == [97, 112, 111, 115] then [39] else
  if Lib.hasPrefix s [35, 120] then numberS hexes 6 16 (Lib.trimPrefix s [35, 120]) else
  if Lib.hasPrefix s [35] then numberS tens 7 10 (Lib.trimPrefix s [35]) else []
theorem trimPrefix_le (s p : List UInt8) : (Lib.trimPrefix s p).length ≤ s.length := by
  unfold Lib.trimPrefix
  split
  · simp
  · exact Nat.le_refl _
theorem sign_c (s : List UInt8) (hs : s.length < 9223372036854775807) (h : K (.str (signS s)) σ) : ACalls Tryz.prog (gD m) 100 [.str s] σ K := by
  refine ACalls_fn tok fm (fk100 _) ?_
  simp only [c100, walkAll, walkL, E, Nat.reduceEqDiff, ↓reduceIte]
  cases h1 : s == [108, 116] with
  | true => simp only [signS, h1, if_true] at h; simp only [h1, walkAll, walkL, E, Nat.reduceEqDiff, ↓reduceIte]; exact h
  | false =>
  simp only [h1, walkAll, walkL, E, Nat.reduceEqDiff, ↓reduceIte]
  cases h2 : s == [103, 116] with
  | true => simp only [signS, h1, h2, if_true, if_false, Bool.false_eq_true] at h; simp only [h2, walkAll, walkL, E, Nat.reduceEqDiff, ↓reduceIte]; exact h
  | false =>
  simp only [h2, walkAll, walkL, E, Nat.reduceEqDiff, ↓reduceIte]
  cases h3 : s == [97, 109, 112] with
  | true => simp only [signS, h1, h2, h3, if_true, if_false, Bool.false_eq_true] at h; simp only [h3, walkAll, walkL, E, Nat.reduceEqDiff, ↓reduceIte]; exact h
  | false =>
  simp only [h3, walkAll, walkL, E, Nat.reduceEqDiff, ↓reduceIte]
  cases h4 : s == [113, 117, 111, 116] with
  | true => simp only [signS, h1, h2, h3, h4, if_true, if_false, Bool.false_eq_true] at h; simp only [h4, walkAll, walkL, E, Nat.reduceEqDiff, ↓reduceIte]; exact h
  | false =>
  simp only [h4, walkAll, walkL, E, Nat.reduceEqDiff, ↓reduceIte]
  cases h5 : s == [97, 112, 111, 115] with
  | true => simp only [signS, h1, h2, h3, h4, h5, if_true, if_false, Bool.false_eq_true] at h; simp only [h5, walkAll, walkL, E, Nat.reduceEqDiff, ↓reduceIte]; exact h
  | false =>
  simp only [h5, walkAll, walkL, E, Nat.reduceEqDiff, ↓reduceIte]
  refine CutPrefix_c _ _ ?_
  simp only [walkAll, walkL, E, Nat.reduceEqDiff, ↓reduceIte]
  cases h6 : Lib.hasPrefix s [35, 120] with
  | true =>
    simp only [signS, h1, h2, h3, h4, h5, h6, if_true, if_false, Bool.false_eq_true] at h
    simp only [h6, walkAll, walkL, E, Nat.reduceEqDiff, ↓reduceIte]
    refine number_c hexes 6 16 (.inr rfl) (by decide) (by decide) hexes_dgt _ (by have := trimPrefix_le s [35, 120]; omega) ?_
    simp only [walkAll, walkL, E, Nat.reduceEqDiff, ↓reduceIte]
    exact h
  | false =>
  simp only [h6, walkAll, walkL, E, Nat.reduceEqDiff, ↓reduceIte]
  refine CutPrefix_c _ _ ?_
  simp only [walkAll, walkL, E, Nat.reduceEqDiff, ↓reduceIte]
  cases h7 : Lib.hasPrefix s [35] with
  | true =>
    simp only [signS, h1, h2, h3, h4, h5, h6, h7, if_true, if_false, Bool.false_eq_true] at h
    simp only [h7, walkAll, walkL, E, Nat.reduceEqDiff, ↓reduceIte]
    refine number_c tens 7 10 (.inl rfl) (by decide) (by decide) tens_dgt _ (by have := trimPrefix_le s [35]; omega) ?_
    simp only [walkAll, walkL, E, Nat.reduceEqDiff, ↓reduceIte]
    exact h
  | false =>
    simp only [signS, h1, h2, h3, h4, h5, h6, h7, if_true, if_false, Bool.false_eq_true] at h
    simp only [h7, walkAll, walkL, E, Nat.reduceEqDiff, ↓reduceIte]
    exact h
end
end Go.Ab.Sz
namespace Go.Ab.Sz
open Go Go.Ab Go.Proofs Go.RowKit
set_option maxRecDepth 100000
theorem lies78 : liesAt Tryz.prog Tryz.prog.depth 82 (2 / Tryz.prog.cellsOf 82) 0 82 1 = true := by kernel_rfl
theorem size78 : (Tryz.prog.info? 82).map (·.size) = some 2 := by kernel_rfl
set_option maxHeartbeats 1000000 in
theorem copyCheck_used (b : Nat) (w : World) (h0 : w.cell? ⟨b, 0, none⟩ = some (.pointer (some ⟨b, 0, none⟩))) :
    Calls Tryz.prog 113 #[.pointer (some ⟨b, 0, none⟩)] w fun e w' => e = .returned (.tuple #[]) ∧ w' = w := by
  obtain ⟨j, hj, _⟩ := Option.map_eq_some_iff.1 size78
  go_enter Tryz.func113, Tryz.ntmps113
  go_wp2
  rw [Lib.run_neq_ptr_same w _ Tryz.underlying79 hj]
  go_wp2
  go_end0
  exact ⟨rfl, rfl⟩
set_option maxHeartbeats 1000000 in
theorem copyCheck_fresh (b : Nat) (w : World) (h0 : w.cell? ⟨b, 0, none⟩ = some (.pointer none)) (hsh : w.shape? b = some (82, 2)) (hfz : w.frozen? ⟨b, 0, none⟩ = false) :
    Calls Tryz.prog 113 #[.pointer (some ⟨b, 0, none⟩)] w fun e w' => e = .returned (.tuple #[]) ∧ w' = w.setCell ⟨b, 0, none⟩ (.pointer (some ⟨b, 0, none⟩)) := by
  obtain ⟨j, hj, hjs⟩ := Option.map_eq_some_iff.1 size78
  go_enter Tryz.func113, Tryz.ntmps113
  go_wp2
  rw [Lib.run_to_unsafe w ⟨b, 0, none⟩ Tryz.underlying79 Tryz.underlying165 hj (by rw [hjs]; decide) hsh (Nat.zero_lt_succ 1)]
  simp only [Result.andThen]
  rw [Oper.upon_value]
  go_wp2
  rw [run_callFunc_extern Tryz.func124 (by kernel_rfl) (by kernel_rfl) (by kernel_rfl) (e := Extern.AbiNoEscape.same) (by kernel_rfl)]
  rw [Lib.run_noEscape]
  simp only [Result.andThen]
  rw [Oper.upon_value]
  go_wp2
  rw [Lib.run_from_unsafe w ⟨b, 0, none⟩ Tryz.underlying165 Tryz.underlying79 hj hsh lies78]
  simp only [Result.andThen]
  rw [Oper.upon_value]
  go_wp2
  go_end0
  exact ⟨rfl, rfl⟩
set_option maxHeartbeats 2000000 in
theorem String_heap (b : Nat) (w : World) (p : Value) (g o cap : Nat) (cur : Array Value) (fz : Nat × Nat) (l : List UInt8) (h0 : l ≠ []) (hbk : w.heap[b]? = some (.cells #[p, .slice (some ⟨g, o, none⟩) l.length cap] 82 (0, 0)))
    (hg : w.heap[g]? = some (.cells cur 5 fz)) (hn : o + l.length ≤ cur.size) (hcap : l.length ≤ cap) (h63 : l.length ≤ 9223372036854775807) (hcell : ∀ j x, l[j]? = some x → cur[o + j]? = some (.int .u8 x.toNat)) :
    Calls Tryz.prog 44 #[.pointer (some ⟨b, 0, none⟩)] w fun e w' => e = .returned (.string ⟨l.toArray⟩) ∧ w' = w.drew.freeze ⟨g, o, none⟩ l.length := by
  have hl0 : l.length ≠ 0 := by simpa using h0
  have c1 : w.drew.cell? ⟨b, 1, none⟩ = some (.slice (some ⟨g, o, none⟩) l.length cap) := by
    have : w.drew.heap[b]? = some (.cells #[p, .slice (some ⟨g, o, none⟩) l.length cap] 82 (0, 0)) := hbk
    rw [Lib.cell_of_heap this]; rfl
  have hSD : (Builtin.unsafeSliceData_ #[80] 102 #[.slice (some ⟨g, o, none⟩) l.length cap]).run Tryz.prog w.drew = .ok (.pointer (some ⟨g, o, none⟩)) w.drew :=
    Lib.run_unsafeSliceData_row _ _ _ _ _ _ (by omega)
  have hUS : (Builtin.unsafeString_ #[102, 3] 9 #[.pointer (some ⟨g, o, none⟩), .int .i64 l.length]).run Tryz.prog w.drew = .ok (.string ⟨l.toArray⟩) (w.drew.freeze ⟨g, o, none⟩ l.length) := by
    refine run_unsafeString_at w.drew 102 3 9 5 Tryz.underlying102 (by kernel_rfl) g o cur.size (by have hg' : w.drew.heap[g]? = some (.cells cur 5 fz) := hg; simp [World.shape?, hg']) l h0 hn h63 ?_
    intro j x hx
    have hg' : w.drew.heap[g]? = some (.cells cur 5 fz) := hg
    have := hcell j x hx
    have e : (⟨g, o, none⟩ : Addr).add j = ⟨g, o + j, none⟩ := by
      unfold Addr.add
      by_cases hj : j = 0
      · subst hj; simp
      · simp [hj]
    rw [e]
    simp [World.cell?, hg', this]
  go_enter Tryz.func44, Tryz.ntmps44
  go_wp2
  go_region
  all_goals (go_wp2; go_ret; exact ⟨rfl, rfl⟩)
set_option maxHeartbeats 2000000 in
theorem String_nil (b : Nat) (w : World) (p : Value) (hbk : w.heap[b]? = some (.cells #[p, .slice none 0 0] 82 (0, 0))) :
    Calls Tryz.prog 44 #[.pointer (some ⟨b, 0, none⟩)] w fun e w' => e = .returned (.string ⟨#[]⟩) ∧ w' = w.drew := by
  have hUS : ∀ (W : World) (q : Option Addr), (Builtin.unsafeString_ #[102, 3] 9 #[.pointer q, .int .i64 0]).run Tryz.prog W = .ok (.string .empty) W := fun W q => Lib.run_unsafeString_none W _ _ _ q
  have c1 : w.drew.cell? ⟨b, 1, none⟩ = some (.slice none 0 0) := by
    have : w.drew.heap[b]? = some (.cells #[p, .slice none 0 0] 82 (0, 0)) := hbk
    rw [Lib.cell_of_heap this]; rfl
  have hSD : (Builtin.unsafeSliceData_ #[80] 102 #[.slice none 0 0]).run Tryz.prog w.drew = .ok (.pointer none) w.drew := rfl
  go_enter Tryz.func44, Tryz.ntmps44
  go_wp2
  go_region
  all_goals (go_wp2; go_ret; exact ⟨rfl, rfl⟩)
section
variable {m : Int} {σ : St} {K : AV → St → Prop}
theorem copyCheck_c (b : Nat) (a buf : AV) (ha : a = .nilp ∨ a = .vp b 0) (hv : getV σ b = some (.cells 82 [a, buf])) (h : K (.tup []) (σ.setV b (.cells 82 [.vp b 0, buf]))) : ACalls Tryz.prog (gD m) 113 [.vp b 0] σ K :=
  ACalls.of_heap Tryz.func113 rfl (by decide) (fun C w vs h0 hg hr => by
    obtain ⟨us, rfl, hb, hr⟩ := hr.vp_inv
    rw [hr.nil_inv]
    obtain ⟨cs, hw, hcs⟩ := h0.var b _ hv
    obtain ⟨x, rest, rfl, hx, hrest⟩ : ∃ x rest, cs = x :: rest ∧ Rep C a x ∧ RepL C [buf] rest := by
      cases hcs with | cons _ _ _ _ h t => exact ⟨_, _, rfl, h, t⟩
    obtain ⟨y, rfl⟩ : ∃ y, rest = [y] := by cases hrest with | cons _ _ _ _ _ t => cases t; exact ⟨_, rfl⟩
    have hc0 : w.cell? ⟨C.ρ b, 0, none⟩ = some x := by rw [cell_heap hw]; rfl
    rcases ha with rfl | rfl
    · cases hx
      have hsh : w.shape? (C.ρ b) = some (82, 2) := by simp [World.shape?, hw]
      have hfz : w.frozen? ⟨C.ρ b, 0, none⟩ = false := by rw [frozen_heap hw]; rfl
      refine (copyCheck_fresh (C.ρ b) w hc0 hsh hfz).mono ?_
      rintro e w' ⟨he, rfl⟩
      obtain ⟨_, _, hp, _, hrel⟩ := stAt_sound h0 (Rep.vp b 0 hb) (cs := [.vp b 0]) (.cons _ _ _ _ (Rep.vp b 0 hb) .nil) (σ' := σ.setV b (.cells 82 [.vp b 0, buf])) (by
        simp only [getV] at hv
        simp only [stAt, hv]; rfl)
      cases hp
      exact ⟨_, C, he, Cz.le.refl C, hrel, .tup [] [] .nil⟩
    · cases hx
      refine (copyCheck_used (C.ρ b) w hc0).mono ?_
      rintro e w' ⟨he, rfl⟩
      refine ⟨_, C, he, Cz.le.refl C, ?_, .tup [] [] .nil⟩
      have : σ.setV b (.cells 82 [.vp b 0, buf]) = σ := setV_same hv
      rw [this]; exact h0) h
theorem WriteString_c (b : Nat) (l s : List UInt8) (ρ : Option Nat) (hb : Bld 82 5 σ b l ρ) (hle : l.length + s.length ≤ 140737488355328)
    (h : ∀ σ' ρ', Bld 82 5 σ' b (l ++ s) ρ' → But σ σ' b ρ ρ' → K (.tup [.int .i64 s.length, .nili]) σ') : ACalls Tryz.prog (gD m) 91 [.vp b 0, .str s] σ K := by
  obtain ⟨a, buf, hv, ha, hbuf⟩ := hb
  have hlt := getV_lt hv
  refine ACalls_fn tok fm (fk91 _) ?_
  simp only [c91, walkAll, walkL, E, Nat.reduceEqDiff, ↓reduceIte]
  refine copyCheck_c b a buf ha hv ?_
  obtain ⟨buf', σ1, ρ', happ, hb', hrows, hcell, hone⟩ := app_buf (hbuf.setV b (.cells 82 [.vp b 0, buf])) hle
  have hv1 : getV σ1 b = some (.cells 82 [.vp b 0, buf]) := by
    have : getV (σ.setV b (.cells 82 [.vp b 0, buf])) b = some (.cells 82 [.vp b 0, buf]) := by simp only [getV, St.setV]; exact List.getElem?_set_self hlt
    simp only [getV] at this ⊢
    rw [hrows.vars]; exact this
  simp (disch := omega) only [walkAll, walkL, E, nilA, faX, happ, hv1, hcell, hone, Nat.reduceEqDiff, Nat.reduceAdd, Nat.reduceSub, Nat.reduceLeDiff, Nat.le_refl, ↓reduceIte]
  refine h _ ρ' ⟨_, _, ?_, .inr rfl, hb'.setV b _⟩ ?_
  · have : b < nvs σ1 := getV_lt hv1
    simp only [getV, St.setV]; exact List.getElem?_set_self this
  · have := hrows.but b (.cells 82 [.vp b 0, buf'])
    refine ⟨?_, ?_, this.grow, this.row, this.new⟩
    · rw [this.nv]; simp [nvs, St.setV]
    · intro k hk
      rw [this.var k hk]
      simp only [getV, St.setV]; rw [List.getElem?_set_ne (Ne.symm hk)]
theorem String_c (b : Nat) (l : List UInt8) (ρ : Option Nat) (hb : Bld 82 5 σ b l ρ) (h63 : l.length ≤ 9223372036854775807) (h : ∀ σ', But σ σ' b ρ ρ → K (.str l) σ') : ACalls Tryz.prog (gD m) 44 [.vp b 0] σ K := by
  obtain ⟨a, buf, hv, ha, hbuf⟩ := hb
  rcases hbuf with ⟨rfl, rfl, rfl⟩ | ⟨hl0, r, row, rfl, rfl, hr, he, hz, ht, hf⟩
  · refine ACalls.of_heap Tryz.func44 rfl (by decide) (fun C w vs h0 hg hr => ?_) (h σ ⟨rfl, fun _ _ => rfl, Nat.le_refl _, fun _ _ _ => rfl, .inl rfl⟩)
    obtain ⟨us, rfl, hb, hr⟩ := hr.vp_inv
    rw [hr.nil_inv]
    obtain ⟨cs, hw, hcs⟩ := h0.var b _ hv
    obtain ⟨x, rfl⟩ : ∃ x, cs = [x, .slice none 0 0] := by
      cases hcs with | cons _ _ _ _ h t => cases t with | cons _ _ _ _ h2 t2 => cases h2; cases t2; exact ⟨_, rfl⟩
    refine (String_nil (C.ρ b) w x hw).mono ?_
    rintro e w' ⟨he, rfl⟩
    exact ⟨_, C, he, Cz.le.refl C, h0.drew, .str []⟩
  · refine ACalls.of_heap Tryz.func44 rfl (by decide) (σ' := σ.setR r none) (fun C w vs h0 hg ha => ?_) (h _ ⟨rfl, fun _ _ => rfl, by simp [nrs, St.setR], fun r' hne _ => ?_, .inl rfl⟩)
    · obtain ⟨us, rfl, hb, hr'⟩ := ha.vp_inv
      rw [hr'.nil_inv]
      obtain ⟨cs, hw, hcs⟩ := h0.var b _ hv
      have hlv : σ.live r := ⟨row, hr⟩
      obtain ⟨hlive, us, fr, hh⟩ := h0.row r row hr
      obtain ⟨x, cap, rfl, hcap⟩ : ∃ x cap, cs = [x, .slice (some ⟨(C.row r).blk, (C.row r).base, none⟩) l.length cap] ∧ l.length ≤ cap := by
        cases hcs with
        | cons _ v0 _ _ h t =>
          cases t with
          | cons _ _ _ _ h2 t2 =>
            cases h2 with
            | os _ _ _ a cap hrr hvv =>
              cases t2
              obtain ⟨rfl, _, hc⟩ := hvv hlive
              exact ⟨v0, cap, by simp, hc⟩
      have hlen : us.length = (C.row r).size := hh.size
      have hfits := hh.fits
      rw [he, bytesE_length, hz, Nat.mul_one] at hfits
      have hrep := hh.rep
      rw [he, bytesE_length, hz, Nat.mul_one] at hrep
      have hcell : ∀ j x, l[j]? = some x → us.toArray[(C.row r).base + j]? = some (.int .u8 x.toNat) := by
        intro j x hx
        have hx' : (bytesE l).flatten[j]? = some (.int .u8 x.toNat) := by
          rw [bytesE_flatten, List.getElem?_map, hx]; rfl
        obtain ⟨v, hv1, hv2⟩ := hrep.get j _ hx'
        cases hv2
        have := take_drop_get hv1
        simpa using this
      have hheap := hh.heap
      rw [ht] at hheap
      refine (String_heap (C.ρ b) w x (C.row r).blk (C.row r).base cap us.toArray fr l hl0 hw hheap (by simp; omega) hcap h63 hcell).mono ?_
      rintro e w' ⟨hee, rfl⟩
      have hfree := h0.free_kill hlv
      have hk := (h0.kill r).drew
      refine ⟨_, C.kill r, hee, C.le_kill r, hk.at_free hfree ?_ ?_ (Lib.below_freeze hk.below hfree.base _), .str l⟩
      · intro k hne
        unfold World.freeze
        split
        · rfl
        · simp only [Array.getElem?_modify]
          rw [if_neg (fun e => hne e.symm)]
      · unfold World.freeze
        split
        · exact Nat.le_refl _
        · simp
    · have hne' : r' ≠ r := fun e => hne (by rw [e])
      simp only [getR, St.setR]; rw [List.getElem?_set_ne (Ne.symm hne')]
end
end Go.Ab.Sz
namespace Go.Ab.Sz
open Go Go.Ab Go.Proofs Go.RowKit
set_option maxRecDepth 40000
set_option linter.unusedSimpArgs false
section
variable {m : Int} {σ : St} {K : AV → St → Prop}
/-- The value of a text behind what is out already. -/
def valueS : Nat → List UInt8 → List UInt8 → List UInt8 × Bool
  | 0, _, _ => ([], false)
  | n + 1, s, out =>
    if (Lib.cut s [38]).2.2 then
      if !(Lib.cut (Lib.cut s [38]).2.1 [59]).2.2 || signS (Lib.cut (Lib.cut s [38]).2.1 [59]).1 == [] then ([], false)
      else valueS n (Lib.cut (Lib.cut s [38]).2.1 [59]).2.1 (out ++ (Lib.cut s [38]).1 ++ signS (Lib.cut (Lib.cut s [38]).2.1 [59]).1)
    else (out ++ (Lib.cut s [38]).1, true)
theorem numberS_len (set : List UInt8) (most B : Nat) (s : List UInt8) : (numberS set most B s).length ≤ 4 := by
  unfold numberS
  split
  · simp
  · split
    · simp
    · split
      · exact encode_len _
      · simp
theorem signS_len (s : List UInt8) : (signS s).length ≤ 4 := by
  unfold signS
  repeat' split
  all_goals first | (simp; done) | exact numberS_len _ _ _ _
theorem cut_len (s : List UInt8) (b : UInt8) : (Lib.cut s [b]).1.length + (Lib.cut s [b]).2.1.length ≤ s.length ∧ ((Lib.cut s [b]).2.2 = true → (Lib.cut s [b]).1.length + (Lib.cut s [b]).2.1.length + 1 ≤ s.length) := by
  unfold Lib.cut
  split
  · rename_i h
    have := Lib.index_room s [b] h
    simp only [List.length_singleton] at this
    simp only [List.length_take, List.length_drop, List.length_singleton]
    exact ⟨by omega, fun _ => by omega⟩
  · simp
theorem value_loop (b : Nat) {Q : EQ} : ∀ (n : Nat) (s out : List UInt8) (e : Env) (σ : St) (ρ : Option Nat), s.length < n → s.length < 4294967281 → out.length + 4 * s.length ≤ 140737488355328 → Bld 82 5 σ b out ρ → e 0 = some (.str s) → e 4 = some (.vp b 0) →
    (∀ e' σ', e' 2 = some (.str (valueS n s out).1) → e' 3 = some (.bool (valueS n s out).2) → Q .ret e' σ') → LoopC Tryz.prog tt (gD m) l79_0 Q e σ := by
  intro n
  induction n with
  | zero => intro s out e σ ρ h; omega
  | succ n ih =>
    intro s out e σ ρ hn hs hl hb h0 h4 hq
    obtain ⟨k1, k2⟩ := cut_len s 38
    refine LoopC_unfold tok fm ?_
    simp only [l79_0x, l79_0b, walkAll, walkL, h0, h4, Nat.reduceEqDiff, ↓reduceIte]
    refine Cut_c _ _ hs ?_
    simp only [walkAll, walkL, h0, h4, Nat.reduceEqDiff, ↓reduceIte]
    refine WriteString_c b out _ ρ hb (by omega) (fun σ1 ρ1 hb1 _ => ?_)
    simp only [walkAll, walkL, h0, h4, Nat.reduceEqDiff, ↓reduceIte]
    cases hi : (Lib.cut s [38]).2.2 with
    | false =>
      simp only [hi, walkAll, walkL, h0, h4, Nat.reduceEqDiff, ↓reduceIte]
      refine String_c b _ ρ1 hb1 (by rw [List.length_append]; omega) (fun σ2 _ => ?_)
      simp only [walkAll, walkL, h0, h4, Nat.reduceEqDiff, ↓reduceIte]
      have ev : valueS (n + 1) s out = (out ++ (Lib.cut s [38]).1, true) := by simp only [valueS, hi]; rfl
      rw [ev] at hq
      exact hq _ _ (by simp [put]) (by simp [put])
    | true =>
      have k3 := k2 hi
      obtain ⟨k4, k5⟩ := cut_len (Lib.cut s [38]).2.1 59
      simp only [hi, walkAll, walkL, h0, h4, Nat.reduceEqDiff, ↓reduceIte]
      refine Cut_c _ _ (by omega) ?_
      simp only [walkAll, walkL, h0, h4, Nat.reduceEqDiff, ↓reduceIte]
      refine sign_c _ (by omega) ?_
      simp only [walkAll, walkL, h0, h4, Nat.reduceEqDiff, ↓reduceIte]
      have k6 := signS_len (Lib.cut (Lib.cut s [38]).2.1 [59]).1
      cases hj : (Lib.cut (Lib.cut s [38]).2.1 [59]).2.2 with
      | false =>
        simp only [hj, walkAll, walkL, h0, h4, Nat.reduceEqDiff, ↓reduceIte]
        have ev : valueS (n + 1) s out = ([], false) := by simp only [valueS, hi, hj]; rfl
        rw [ev] at hq
        exact hq _ _ (by simp [put]) (by simp [put])
      | true =>
        have k7 := k5 hj
        simp only [hj, walkAll, walkL, h0, h4, Nat.reduceEqDiff, ↓reduceIte]
        cases hc : signS (Lib.cut (Lib.cut s [38]).2.1 [59]).1 == [] with
        | true =>
          simp only [hc, walkAll, walkL, h0, h4, Nat.reduceEqDiff, ↓reduceIte]
          have ev : valueS (n + 1) s out = ([], false) := by simp only [valueS, hi, hj, hc]; rfl
          rw [ev] at hq
          exact hq _ _ (by simp [put]) (by simp [put])
        | false =>
          simp only [hc, walkAll, walkL, h0, h4, Nat.reduceEqDiff, ↓reduceIte]
          refine WriteString_c b _ _ ρ1 hb1 (by rw [List.length_append]; omega) (fun σ2 ρ2 hb2 _ => ?_)
          simp only [walkAll, walkL, h0, h4, Nat.reduceEqDiff, ↓reduceIte]
          have ev : valueS (n + 1) s out = valueS n (Lib.cut (Lib.cut s [38]).2.1 [59]).2.1 (out ++ (Lib.cut s [38]).1 ++ signS (Lib.cut (Lib.cut s [38]).2.1 [59]).1) := by simp only [valueS, hi, hj, hc]; rfl
          rw [ev] at hq
          exact ih _ _ _ σ2 ρ2 (by omega) (by omega) (by simp only [List.length_append]; omega) hb2 (by simp [put]) (by simp [put, h4]) hq
theorem value_c (s : List UInt8) (hs : s.length < 4294967281) (h : K (.tup [.str (valueS (s.length + 1) s []).1, .bool (valueS (s.length + 1) s []).2]) σ) : ACalls Tryz.prog (gD m) 79 [.str s] σ K := by
  refine (ACalls.frame gD_data (.cons _ _ (.str _) .nil) (Q := fun r => r = .tup [.str (valueS (s.length + 1) s []).1, .bool (valueS (s.length + 1) s []).2]) ?_ σ).mono (fun r σ' hr => by rw [hr.1, hr.2]; exact h)
  refine ACalls_fn tok fm (fk79 _) ?_
  simp only [c79, walkAll, walkL, E, Nat.reduceEqDiff, ↓reduceIte]
  refine value_loop 0 (s.length + 1) s [] _ _ none (by omega) hs (by simp; omega) ⟨.nilp, .nils, rfl, .inl rfl, .inl ⟨rfl, rfl, rfl⟩⟩ (by simp [put, E]) (by simp [put]) (fun e' σ' h2 h3 => ?_)
  simp only [walkAll, walkL, h2, h3, Nat.reduceEqDiff, ↓reduceIte]
  exact .tup _ (.cons _ _ (.str _) (.cons _ _ (.bool _) .nil))
end
end Go.Ab.Sz
namespace Go.Ab.Sz
open Go Go.Ab Go.Proofs Go.RowKit
set_option maxRecDepth 40000
set_option linter.unusedSimpArgs false
section
variable {m : Int} {σ : St} {K : AV → St → Prop}
theorem indexByte_range (c : UInt8) : ∀ l : List UInt8, Lib.indexByte l c = -1 ∨ (0 ≤ Lib.indexByte l c ∧ Lib.indexByte l c < l.length)
  | [] => .inl rfl
  | b :: l => by
    unfold Lib.indexByte
    have := indexByte_range c l
    split
    · right; simp
    · split
      · exact .inl rfl
      · rename_i h
        simp at h
        rcases this with h2 | h2
        · exact absurd h2 h
        · right; simp; omega
/-- How far a text goes. -/
def plainN (s : List UInt8) : Nat := if Lib.indexByte s 60 < 0 then s.length else (Lib.indexByte s 60).toNat
theorem plainN_le (s : List UInt8) : plainN s ≤ s.length := by
  unfold plainN
  have := indexByte_range 60 s
  split <;> omega
theorem plain_c (b : Nat) (s : List UInt8) (ty : TypeId) (hv : W σ b ty s) (hs : s.length < 4294967281)
    (h : K (.tup [.agg [.int .i64 3, .str [], .str (valueS (plainN s + 1) (s.take (plainN s)) []).1, .nils, .bool false], .bool (valueS (plainN s + 1) (s.take (plainN s)) []).2]) (σ.setV b (.cells ty [.str (s.drop (plainN s))]))) :
    ACalls Tryz.prog (gD m) 52 [.vp b 0] σ K := by
  refine ACalls.forget_set (b := b) (v := .cells ty [.str (s.drop (plainN s))]) (DataL.cons _ _ (.str _) .nil) (.tup _ (.cons _ _ (.agg _ (.cons _ _ (.int _ _) (.cons _ _ (.str _) (.cons _ _ (.str _) (.cons _ _ .nils (.cons _ _ (.bool _) .nil)))))) (.cons _ _ (.bool _) .nil))) ?_ h
  have hlt := getV_lt hv
  have hle := plainN_le s
  refine ACalls_fn tok fm (fk52 _) ?_
  simp (disch := omega) only [c52, walkAll, walkL, E, hv, Nat.reduceEqDiff, Nat.reduceAdd, Nat.reduceSub, Nat.reduceLeDiff, Nat.le_refl, ↓reduceIte]
  refine IndexByte_c s 60 ?_
  simp (disch := omega) only [walkAll, walkL, E, hv, Nat.reduceEqDiff, Nat.reduceAdd, Nat.reduceSub, Nat.reduceLeDiff, Nat.le_refl, ↓reduceIte]
  have e60 : (Int.toNat 60).toUInt8 = (60 : UInt8) := by decide
  rw [e60]
  have hvs : (s.take (plainN s)).length = plainN s := by simp; omega
  have hN : ∀ (i : Int), i = (plainN s : Int) → i.toNat = plainN s := fun i hi => by omega
  have hv2 : getV (σ.pushV (.cells 30 [.int .i64 0, .str [], .str [], .nils, .bool false])) b = some (.cells ty [.str s]) := by
    simp only [getV, nvs, St.pushV] at *; rw [List.getElem?_append_left hlt]; exact hv
  have g1 : ∀ v u, getV ((σ.setV b v).pushV u) (nvs σ) = some u := fun v u => by simp [getV, nvs, St.pushV, St.setV]
  have g2 : ∀ v u u', ((σ.setV b v).pushV u).setV (nvs σ) u' = (σ.setV b v).pushV u' := fun v u u' => by simp [nvs, St.pushV, St.setV]
  have g3 : ∀ v u, (σ.setV b v).pushV u = ⟨σ.vars.set b v ++ [u], σ.rows ++ []⟩ := fun v u => by simp [St.pushV, St.setV]
  cases hi : decide (Lib.indexByte s 60 < 0) with
  | true =>
    have hp : plainN s = s.length := by unfold plainN; rw [if_pos (by simpa using hi)]
    simp (disch := omega) only [walkAll, walkL, E, hv, hv2, Nat.sub_zero, List.take_length, List.drop_length, Nat.sub_self, Nat.reduceEqDiff, Nat.reduceAdd, Nat.reduceSub, Nat.reduceLeDiff, Nat.le_refl, ↓reduceIte]
    refine value_c s hs ?_
    rw [hp, List.drop_length]
    simp (disch := omega) only [walkAll, walkL, E, g1, g2, Nat.reduceEqDiff, Nat.reduceAdd, Nat.reduceSub, Nat.reduceLeDiff, Nat.le_refl, ↓reduceIte]
    exact ⟨_, _, g3 _ _⟩
  | false =>
    have hr := indexByte_range 60 s
    have hp : plainN s = (Lib.indexByte s 60).toNat := by unfold plainN; rw [if_neg (by simpa using hi)]
    have hi' : 0 ≤ Lib.indexByte s 60 := by simpa using hi
    have hpi : Lib.indexByte s 60 = (plainN s : Int) := by omega
    rw [hpi]
    simp (disch := omega) only [walkAll, walkL, E, hv, hv2, Nat.sub_zero, Nat.reduceEqDiff, Nat.reduceAdd, Nat.reduceSub, Nat.reduceLeDiff, Nat.le_refl, ↓reduceIte]
    refine value_c (s.take (plainN s)) (by rw [hvs]; omega) ?_
    rw [hvs]
    have e3 : (s.drop (plainN s)).take (s.length - plainN s) = s.drop (plainN s) := List.take_of_length_le (by simp)
    simp (disch := omega) only [walkAll, walkL, E, g1, g2, e3, Nat.reduceEqDiff, Nat.reduceAdd, Nat.reduceSub, Nat.reduceLeDiff, Nat.le_refl, ↓reduceIte]
    exact ⟨_, _, g3 _ _⟩
end
end Go.Ab.Sz
namespace Go.Ab.Sz
open Go Go.Ab Go.Proofs Go.RowKit
set_option maxRecDepth 40000
set_option linter.unusedSimpArgs false
section
variable {m : Int} {σ : St} {K : AV → St → Prop}
theorem step_c (b : Nat) (s : List UInt8) (ty : TypeId) (hv : W σ b ty s)
    (h1 : Lib.hasPrefix s [60, 47] = true → K (.fn (.func 50) [.vp b 0] []) (σ.setV b (.cells ty [.str (Lib.trimPrefix s [60, 47])])))
    (h2 : Lib.hasPrefix s [60, 47] = false → Lib.hasPrefix s [60] = true → K (.fn (.func 51) [.vp b 0] []) (σ.setV b (.cells ty [.str (Lib.trimPrefix s [60])])))
    (h3 : Lib.hasPrefix s [60, 47] = false → Lib.hasPrefix s [60] = false → K (.fn (.func 52) [.vp b 0] []) σ) :
    ACalls Tryz.prog (gD m) 31 [.vp b 0] σ K := by
  have tp : ∀ p, Lib.hasPrefix s p = false → σ.setV b (.cells ty [.str (Lib.trimPrefix s p)]) = σ := fun p hp => by
    have : Lib.trimPrefix s p = s := by unfold Lib.trimPrefix; rw [hp]; rfl
    rw [this]; exact setV_same hv
  refine ACalls_fn tok fm (fk31 _) ?_
  simp (disch := omega) only [c31, walkAll, walkL, E, hv, Nat.reduceEqDiff, ↓reduceIte]
  refine pass_c b s [60, 47] ty hv ?_
  cases q : Lib.hasPrefix s [60, 47] with
  | true =>
    simp (disch := omega) only [walkAll, walkL, E, hv, Nat.reduceEqDiff, ↓reduceIte]
    exact h1 q
  | false =>
    rw [tp _ q]
    simp (disch := omega) only [walkAll, walkL, E, hv, Nat.reduceEqDiff, ↓reduceIte]
    refine pass_c b s [60] ty hv ?_
    cases q2 : Lib.hasPrefix s [60] with
    | true =>
      simp (disch := omega) only [walkAll, walkL, E, hv, Nat.reduceEqDiff, ↓reduceIte]
      exact h2 q q2
    | false =>
      rw [tp _ q2]
      simp (disch := omega) only [walkAll, walkL, E, hv, Nat.reduceEqDiff, ↓reduceIte]
      exact h3 q q2
end
end Go.Ab.Sz
