/-
  DERIVED: THE SHELF's CONTRACTS AT THIS DUMP, IN PLAIN WORDS (tools/lay-plain.mjs out of 'TryzShelf.lean', which tools/lay-shelf.mjs wrote): THE SAME DECLARATIONS UNDER THE SAME NAMES: 'import', 'namespace', 'open', 'def', 'theorem' AND NOTHING ELSE: no command of the shelf's: FOR A HAND-IN. Each laying: the table of numbers ('.._ren') and one theorem, a field a fact of the dump's own or the kernel's comparison; each contract: ONE APPLICATION.
-/
import Derived.Shelf.Bits.Mul64
import Derived.Shelf.LaysM
import Derived.Shelf.Small.Bits
import Derived.Shelf.Small.Wraps
import Derived.Shelf.Strconv.Itoa0
import Derived.Shelf.Strconv.Itoa1
import Derived.Shelf.Strconv.Itoa2
import Derived.Shelf.Strconv.Itoa3
import Derived.Shelf.Strings.Builder1
import Derived.Shelf.Strings.BuilderCap
import Derived.Shelf.Strings.BuilderF
import Derived.Shelf.Strings.BuilderK
import Derived.Shelf.Strings.BuilderRune
import Derived.Shelf.Strings.Prefix
import Derived.Shelf.Unicode.Decode
import Derived.Shelf.Unicode.DecodeAny
import Derived.Shelf.Unicode.DecodeSlow
import Derived.Shelf.Utf8.AppendRune
import Derived.Shelf.Utf8.AppendRunePlain
import Derived.Test.YtffmomgmkpmpkaaGreatDoorProg
import Derived.Test.YtffmomgmkpmpkaaGreatDoorKu7
namespace Go.Proofs
open Go.Shelf
def Tryz.lays169_ren : Go.Shelf.Ren := ⟨fun | 169 => 63 | n => n, fun | 70 => 104 | 9 => 9 | 0 => 0 | 72 => 107 | 37 => 105 | 127 => 169 | 3 => 3 | 5 => 5 | n => n, fun | n => n⟩
theorem Tryz.lays169 : Go.Proofs.Lays.n169 Tryz.prog Tryz.lays169_ren := {
  mixed := by kernel_rfl
  f169 := Tryz.func63.trans (congrArg some (by kernel_rfl))
  t0 := Tryz.underlying0
  a0 := Tryz.isAgg0
  z0 := Tryz.sizeOf0
  v0 := Tryz.zeroValue0
  t3 := Tryz.underlying3
  a3 := Tryz.isAgg3
  z3 := Tryz.sizeOf3
  v3 := Tryz.zeroValue3
  t9 := Tryz.underlying9
  a9 := Tryz.isAgg9
  z9 := Tryz.sizeOf9
  v9 := Tryz.zeroValue9
  t37 := Tryz.underlying105
  a37 := Tryz.isAgg105
  z37 := Tryz.sizeOf105
  v37 := Tryz.zeroValue105
  t70 := Tryz.underlying104
  a70 := Tryz.isAgg104
  z70 := Tryz.sizeOf104
  v70 := Tryz.zeroValue104
  t72 := Tryz.underlying107
  a72 := Tryz.isAgg107
  z72 := Tryz.sizeOf107
  v72 := Tryz.zeroValue107
  t127 := Tryz.underlying169
  a127 := Tryz.isAgg169
  z127 := Tryz.sizeOf169
  v127 := Tryz.zeroValue169 }
theorem Tryz.Builder_Extra_169 : Builder.Extra Tryz.prog Tryz.lays169_ren := {
  sizeBuilder := by kernel_rfl
  liesBuilder := by kernel_rfl
  t5 := Tryz.underlying5
  a5 := Tryz.isAgg5
  z5 := Tryz.sizeOf5
  v5 := Tryz.zeroValue5
  infoByte := by kernel_rfl
  cellsByte := by kernel_rfl
  sizeByte := by kernel_rfl
  neB5 := by decide }
def Tryz.lays103_ren : Go.Shelf.Ren := ⟨fun | 103 => 108 | 210 => 145 | 206 => 164 | n => n, fun | 9 => 9 | 4 => 4 | 24 => 161 | 3 => 3 | n => n, fun | n => n⟩
theorem Tryz.lays103 : Go.Proofs.Lays.n103 Tryz.prog Tryz.lays103_ren := {
  mixed := by kernel_rfl
  f103 := Tryz.func108.trans (congrArg some (by kernel_rfl))
  f206 := Tryz.func164.trans (congrArg some (by kernel_rfl))
  f210 := Tryz.func145.trans (congrArg some (by kernel_rfl))
  t3 := Tryz.underlying3
  a3 := Tryz.isAgg3
  z3 := Tryz.sizeOf3
  v3 := Tryz.zeroValue3
  t4 := Tryz.underlying4
  a4 := Tryz.isAgg4
  z4 := Tryz.sizeOf4
  v4 := Tryz.zeroValue4
  t9 := Tryz.underlying9
  a9 := Tryz.isAgg9
  z9 := Tryz.sizeOf9
  v9 := Tryz.zeroValue9
  t24 := Tryz.underlying161
  a24 := Tryz.isAgg161
  z24 := Tryz.sizeOf161
  v24 := Tryz.zeroValue161 }
open Go.RowKit in
/-- strings.CutPrefix: "CutPrefix returns s without the provided leading prefix string and reports whether it found the prefix. If s doesn't start with prefix, CutPrefix returns s, false. If prefix is the empty string, CutPrefix returns s, true.": IT RETURNS '(Lib.trimPrefix s p, Lib.hasPrefix s p)'; the world is as it was. (LAID: no walk: one application.) -/
theorem Tryz.strings_CutPrefix (s p : ByteArray) (w : World) :
    Calls Tryz.prog 108 #[.string s, .string p] w fun e w' => e = .returned (.tuple #[.string ⟨(Lib.trimPrefix s.data.toList p.data.toList).toArray⟩, .bool (Lib.hasPrefix s.data.toList p.data.toList)]) ∧ w' = w := Any.strings_CutPrefix Tryz.lays103 s p w
def Tryz.laysM171_ren : Go.Shelf.Ren := ⟨fun | 171 => 70 | 243 => 117 | 246 => 152 | 283 => 165 | 284 => 166 | 285 => 167 | 286 => 168 | 129 => 177 | 317 => 176 | 318 => 178 | 319 => 179 | 320 => 180 | 337 => 191 | 338 => 192 | n => n, fun | 3 => 3 | 9 => 9 | 2 => 2 | 4 => 4 | 171 => 229 | 0 => 0 | 53 => 206 | 37 => 105 | 5 => 5 | 173 => 232 | 212 => 240 | 51 => 203 | 20 => 20 | 213 => 241 | 46 => 170 | 232 => 257 | 233 => 258 | n => n, fun | 17 => 2 | 18 => 4 | 19 => 5 | n => n⟩
theorem Tryz.laysM171 : Go.Proofs.LaysM.n171 Tryz.prog Tryz.laysM171_ren := {
 mixed := by kernel_rfl
 f129 := Tryz.func177.trans (congrArg some (by kernel_rfl))
 f171 := Tryz.func70.trans (congrArg some (by kernel_rfl))
 f243 := Tryz.func117.trans (congrArg some (by kernel_rfl))
 f246 := Tryz.func152.trans (congrArg some (by kernel_rfl))
 f283 := Tryz.func165.trans (congrArg some (by kernel_rfl))
 f284 := Tryz.func166.trans (congrArg some (by kernel_rfl))
 f285 := Tryz.func167.trans (congrArg some (by kernel_rfl))
 f286 := Tryz.func168.trans (congrArg some (by kernel_rfl))
 f317 := Tryz.func176.trans (congrArg some (by kernel_rfl))
 f318 := Tryz.func178.trans (congrArg some (by kernel_rfl))
 f319 := Tryz.func179.trans (congrArg some (by kernel_rfl))
 f320 := Tryz.func180.trans (congrArg some (by kernel_rfl))
 f337 := Tryz.func191.trans (congrArg some (by kernel_rfl))
 f338 := Tryz.func192.trans (congrArg some (by kernel_rfl))
 t0 := Tryz.underlying0
 a0 := Tryz.isAgg0
 z0 := Tryz.sizeOf0
 v0 := Tryz.zeroValue0
 t2 := Tryz.underlying2
 a2 := Tryz.isAgg2
 z2 := Tryz.sizeOf2
 v2 := Tryz.zeroValue2
 t3 := Tryz.underlying3
 a3 := Tryz.isAgg3
 z3 := Tryz.sizeOf3
 v3 := Tryz.zeroValue3
 t4 := Tryz.underlying4
 a4 := Tryz.isAgg4
 z4 := Tryz.sizeOf4
 v4 := Tryz.zeroValue4
 t5 := Tryz.underlying5
 a5 := Tryz.isAgg5
 z5 := Tryz.sizeOf5
 v5 := Tryz.zeroValue5
 t9 := Tryz.underlying9
 a9 := Tryz.isAgg9
 z9 := Tryz.sizeOf9
 v9 := Tryz.zeroValue9
 t20 := Tryz.underlying20
 a20 := Tryz.isAgg20
 z20 := Tryz.sizeOf20
 v20 := Tryz.zeroValue20
 t37 := Tryz.underlying105
 a37 := Tryz.isAgg105
 z37 := Tryz.sizeOf105
 v37 := Tryz.zeroValue105
 t46 := Tryz.underlying170
 a46 := Tryz.isAgg170
 z46 := Tryz.sizeOf170
 v46 := Tryz.zeroValue170
 t51 := Tryz.underlying203
 a51 := Tryz.isAgg203
 z51 := Tryz.sizeOf203
 v51 := Tryz.zeroValue203
 t53 := Tryz.underlying206
 a53 := Tryz.isAgg206
 z53 := Tryz.sizeOf206
 v53 := Tryz.zeroValue206
 t171 := Tryz.underlying229
 a171 := Tryz.isAgg229
 z171 := Tryz.sizeOf229
 v171 := Tryz.zeroValue229
 t173 := Tryz.underlying232
 a173 := Tryz.isAgg232
 z173 := Tryz.sizeOf232
 v173 := Tryz.zeroValue232
 t212 := Tryz.underlying240
 a212 := Tryz.isAgg240
 z212 := Tryz.sizeOf240
 v212 := Tryz.zeroValue240
 t213 := Tryz.underlying241
 a213 := Tryz.isAgg241
 z213 := Tryz.sizeOf241
 t232 := Tryz.underlying257
 a232 := Tryz.isAgg257
 z232 := Tryz.sizeOf257
 v232 := Tryz.zeroValue257
 t233 := Tryz.underlying258
 a233 := Tryz.isAgg258
 z233 := Tryz.sizeOf258
 v233 := Tryz.zeroValue258
 g17 := by kernel_rfl
 g18 := by kernel_rfl
 g19 := by kernel_rfl
 i0 := by kernel_rfl
 i2 := by kernel_rfl
 i3 := by kernel_rfl
 i4 := by kernel_rfl
 i5 := by kernel_rfl
 i9 := by kernel_rfl
 i20 := by kernel_rfl
 i37 := by kernel_rfl
 i46 := by kernel_rfl
 i51 := by kernel_rfl
 i53 := by kernel_rfl
 i171 := by kernel_rfl
 i173 := by kernel_rfl
 i212 := by kernel_rfl
 i232 := by kernel_rfl
 i233 := by kernel_rfl
 m17 := by kernel_rfl
 m18 := by kernel_rfl
 m19 := by kernel_rfl }
open Go.RowKit Go.Sort Go.Lib in
/-- strconv.Itoa: "Itoa is equivalent to FormatInt(int64(i), 10).": i's DECIMAL NUMERAL ('Lib.itoa': a '-' where i is negative, then the digits), FOR EVERY int. The world behind the call: the world before it, new blocks behind the heap (the library's 'var a [24]byte'), draws. (LAID: no walk: one application.) -/
theorem Tryz.strconv_Itoa (n : Int) (h0 : -9223372036854775808 ≤ n) (h1 : n ≤ 9223372036854775807) (w : World) (htab : Lib.TabIs Tryz.prog w "internal/strconv.uint64pow10" .u64 Lib.pow10Tab) :
    Calls Tryz.prog 70 #[.int .i64 n] w fun e w' => e = .returned (.string ⟨(Lib.itoa n).toArray⟩) ∧ ∃ k os, w' = grow (w.drewN k) os := Any.strconv_Itoa Tryz.laysM171 n h0 h1 w htab
def Tryz.lays197_ren : Go.Shelf.Ren := ⟨fun | 197 => 107 | 260 => 144 | n => n, fun | 9 => 9 | 21 => 21 | 3 => 3 | 4 => 4 | 5 => 5 | 105 => 159 | 119 => 224 | 0 => 0 | 46 => 170 | 139 => 227 | 138 => 226 | n => n, fun | 3 => 0 | 4 => 1 | n => n⟩
theorem Tryz.lays197 : Go.Proofs.Lays.n197 Tryz.prog Tryz.lays197_ren := {
  mixed := by kernel_rfl
  f197 := Tryz.func107.trans (congrArg some (by kernel_rfl))
  f260 := Tryz.func144.trans (congrArg some (by kernel_rfl))
  t0 := Tryz.underlying0
  a0 := Tryz.isAgg0
  z0 := Tryz.sizeOf0
  v0 := Tryz.zeroValue0
  t3 := Tryz.underlying3
  a3 := Tryz.isAgg3
  z3 := Tryz.sizeOf3
  v3 := Tryz.zeroValue3
  t4 := Tryz.underlying4
  a4 := Tryz.isAgg4
  z4 := Tryz.sizeOf4
  v4 := Tryz.zeroValue4
  t5 := Tryz.underlying5
  a5 := Tryz.isAgg5
  z5 := Tryz.sizeOf5
  v5 := Tryz.zeroValue5
  t9 := Tryz.underlying9
  a9 := Tryz.isAgg9
  z9 := Tryz.sizeOf9
  v9 := Tryz.zeroValue9
  t21 := Tryz.underlying21
  a21 := Tryz.isAgg21
  z21 := Tryz.sizeOf21
  v21 := Tryz.zeroValue21
  t46 := Tryz.underlying170
  a46 := Tryz.isAgg170
  z46 := Tryz.sizeOf170
  v46 := Tryz.zeroValue170
  t105 := Tryz.underlying159
  a105 := Tryz.isAgg159
  z105 := Tryz.sizeOf159
  v105 := Tryz.zeroValue159
  t119 := Tryz.underlying224
  a119 := Tryz.isAgg224
  z119 := Tryz.sizeOf224
  t138 := Tryz.underlying226
  a138 := Tryz.isAgg226
  z138 := Tryz.sizeOf226
  v138 := Tryz.zeroValue226
  t139 := Tryz.underlying227
  a139 := Tryz.isAgg227
  z139 := Tryz.sizeOf227
  v139 := Tryz.zeroValue227
  g3 := by kernel_rfl
  g4 := by kernel_rfl }
def Tryz.lays212_ren : Go.Shelf.Ren := ⟨fun | 212 => 114 | 263 => 150 | 264 => 151 | n => n, fun | 46 => 170 | 51 => 203 | 146 => 204 | 53 => 206 | 148 => 207 | n => n, fun | n => n⟩
theorem Tryz.lays212 : Go.Proofs.Lays.n212 Tryz.prog Tryz.lays212_ren := {
  mixed := by kernel_rfl
  f212 := Tryz.func114.trans (congrArg some (by kernel_rfl))
  f263 := Tryz.func150.trans (congrArg some (by kernel_rfl))
  f264 := Tryz.func151.trans (congrArg some (by kernel_rfl))
  t46 := Tryz.underlying170
  a46 := Tryz.isAgg170
  z46 := Tryz.sizeOf170
  v46 := Tryz.zeroValue170
  t51 := Tryz.underlying203
  a51 := Tryz.isAgg203
  z51 := Tryz.sizeOf203
  v51 := Tryz.zeroValue203
  t53 := Tryz.underlying206
  a53 := Tryz.isAgg206
  z53 := Tryz.sizeOf206
  v53 := Tryz.zeroValue206
  t146 := Tryz.underlying204
  a146 := Tryz.isAgg204
  z146 := Tryz.sizeOf204
  v146 := Tryz.zeroValue204
  t148 := Tryz.underlying207
  a148 := Tryz.isAgg207
  z148 := Tryz.sizeOf207
  v148 := Tryz.zeroValue207 }
open Go.RowKit Go.Lib in
/-- math/bits.Mul: "Mul returns the full-width product of x and y": on a machine of 64 bits: Mul64's. (LAID: no walk: one application.) -/
theorem Tryz.bits_Mul (x y : Nat) (hx : x < 18446744073709551616) (hy : y < 18446744073709551616) (w : World) :
    Calls Tryz.prog 114 #[.int .u64 x, .int .u64 y] w fun e w' => e = .returned (.tuple #[.int .u64 ((x * y / 18446744073709551616 : Nat) : Int), .int .u64 ((x * y % 18446744073709551616 : Nat) : Int)]) ∧ w' = w := Any.bits_Mul Tryz.lays212 x y hx hy w
open Go.RowKit Go.Lib in
/-- **unicode/utf8.DecodeRuneInString AT EVERY STRING.** (LAID: no walk: one application.) -/
theorem Tryz.utf8_DecodeRuneInString (s : ByteArray) (w : World) (hT : Lib.Utf8Tabs 0 1 w) :
    Calls Tryz.prog 107 #[.string s] w fun e w' => e = .returned (.tuple #[.int .i32 (Lib.decodeGo s).1, .int .i64 (Lib.decodeGo s).2]) ∧ Below w.heap.size w w' := Any.utf8_DecodeRuneInString Tryz.lays197 s w hT
end Go.Proofs


namespace Go.Proofs
open Go.Shelf
def YtffmomgmkpmpkaaGreatDoor.bwbLays_ren : Go.Shelf.Ren := ⟨fun | 167 => 62 | 240 => 112 | 276 => 148 | n => n, fun | 0 => 0 | 3 => 3 | 4 => 4 | 5 => 5 | 9 => 9 | 20 => 20 | 21 => 21 | 37 => 105 | 46 => 170 | 51 => 203 | 70 => 104 | 72 => 107 | 75 => 110 | 80 => 114 | 164 => 201 | n => n, fun n => n⟩
set_option maxRecDepth 100000 in
theorem YtffmomgmkpmpkaaGreatDoor.bwbLays : Lays.n167 Tryz.prog YtffmomgmkpmpkaaGreatDoor.bwbLays_ren := {
  mixed := by kernel_rfl
  f167 := Tryz.func62.trans (congrArg some (by kernel_rfl))
  f240 := Tryz.func112.trans (congrArg some (by kernel_rfl))
  f276 := Tryz.func148.trans (congrArg some (by kernel_rfl))
  t0 := Tryz.underlying0
  a0 := Tryz.isAgg0
  z0 := Tryz.sizeOf0
  v0 := Tryz.zeroValue0
  t4 := Tryz.underlying4
  a4 := Tryz.isAgg4
  z4 := Tryz.sizeOf4
  v4 := Tryz.zeroValue4
  t5 := Tryz.underlying5
  a5 := Tryz.isAgg5
  z5 := Tryz.sizeOf5
  v5 := Tryz.zeroValue5
  t9 := Tryz.underlying9
  a9 := Tryz.isAgg9
  z9 := Tryz.sizeOf9
  v9 := Tryz.zeroValue9
  t20 := Tryz.underlying20
  a20 := Tryz.isAgg20
  z20 := Tryz.sizeOf20
  v20 := Tryz.zeroValue20
  t37 := Tryz.underlying105
  a37 := Tryz.isAgg105
  z37 := Tryz.sizeOf105
  v37 := Tryz.zeroValue105
  t70 := Tryz.underlying104
  a70 := Tryz.isAgg104
  z70 := Tryz.sizeOf104
  v70 := Tryz.zeroValue104
  t72 := Tryz.underlying107
  a72 := Tryz.isAgg107
  z72 := Tryz.sizeOf107
  v72 := Tryz.zeroValue107
  t75 := Tryz.underlying110
  a75 := Tryz.isAgg110
  z75 := Tryz.sizeOf110
  v75 := Tryz.zeroValue110
  t164 := Tryz.underlying201
  a164 := Tryz.isAgg201
  z164 := Tryz.sizeOf201
  v164 := Tryz.zeroValue201 }
theorem YtffmomgmkpmpkaaGreatDoor.bwbLaysX : Builder.Extra Tryz.prog YtffmomgmkpmpkaaGreatDoor.bwbLays_ren := {
  sizeBuilder := by kernel_rfl
  liesBuilder := by kernel_rfl
  t5 := Tryz.underlying5
  a5 := Tryz.isAgg5
  z5 := Tryz.sizeOf5
  v5 := Tryz.zeroValue5
  infoByte := by kernel_rfl
  cellsByte := by kernel_rfl
  sizeByte := by kernel_rfl
  neB5 := by decide }
def YtffmomgmkpmpkaaGreatDoor.bwrLays_ren : Go.Shelf.Ren := ⟨fun | 168 => 61 | 240 => 112 | 242 => 113 | 276 => 148 | 278 => 149 | n => n, fun | 0 => 0 | 3 => 3 | 4 => 4 | 5 => 5 | 9 => 9 | 20 => 20 | 21 => 21 | 37 => 105 | 46 => 170 | 51 => 203 | 70 => 104 | 72 => 107 | 75 => 110 | 80 => 114 | 164 => 201 | n => n, fun n => n⟩
set_option maxRecDepth 100000 in
theorem YtffmomgmkpmpkaaGreatDoor.bwrLays : Lays.n168 Tryz.prog YtffmomgmkpmpkaaGreatDoor.bwrLays_ren := {
 mixed := by kernel_rfl
 f168 := Tryz.func61.trans (congrArg some (by kernel_rfl))
 f240 := Tryz.func112.trans (congrArg some (by kernel_rfl))
 f242 := Tryz.func113.trans (congrArg some (by kernel_rfl))
 f276 := Tryz.func148.trans (congrArg some (by kernel_rfl))
 f278 := Tryz.func149.trans (congrArg some (by kernel_rfl))
 t0 := Tryz.underlying0
 a0 := Tryz.isAgg0
 z0 := Tryz.sizeOf0
 v0 := Tryz.zeroValue0
 t3 := Tryz.underlying3
 a3 := Tryz.isAgg3
 z3 := Tryz.sizeOf3
 v3 := Tryz.zeroValue3
 t4 := Tryz.underlying4
 a4 := Tryz.isAgg4
 z4 := Tryz.sizeOf4
 v4 := Tryz.zeroValue4
 t5 := Tryz.underlying5
 a5 := Tryz.isAgg5
 z5 := Tryz.sizeOf5
 v5 := Tryz.zeroValue5
 t9 := Tryz.underlying9
 a9 := Tryz.isAgg9
 z9 := Tryz.sizeOf9
 v9 := Tryz.zeroValue9
 t20 := Tryz.underlying20
 a20 := Tryz.isAgg20
 z20 := Tryz.sizeOf20
 v20 := Tryz.zeroValue20
 t21 := Tryz.underlying21
 a21 := Tryz.isAgg21
 z21 := Tryz.sizeOf21
 v21 := Tryz.zeroValue21
 t37 := Tryz.underlying105
 a37 := Tryz.isAgg105
 z37 := Tryz.sizeOf105
 v37 := Tryz.zeroValue105
 t46 := Tryz.underlying170
 a46 := Tryz.isAgg170
 z46 := Tryz.sizeOf170
 v46 := Tryz.zeroValue170
 t51 := Tryz.underlying203
 a51 := Tryz.isAgg203
 z51 := Tryz.sizeOf203
 v51 := Tryz.zeroValue203
 t70 := Tryz.underlying104
 a70 := Tryz.isAgg104
 z70 := Tryz.sizeOf104
 v70 := Tryz.zeroValue104
 t72 := Tryz.underlying107
 a72 := Tryz.isAgg107
 z72 := Tryz.sizeOf107
 v72 := Tryz.zeroValue107
 t75 := Tryz.underlying110
 a75 := Tryz.isAgg110
 z75 := Tryz.sizeOf110
 v75 := Tryz.zeroValue110
 t164 := Tryz.underlying201
 a164 := Tryz.isAgg201
 z164 := Tryz.sizeOf201
 v164 := Tryz.zeroValue201 }
theorem YtffmomgmkpmpkaaGreatDoor.bwrLaysX : Builder.Extra Tryz.prog YtffmomgmkpmpkaaGreatDoor.bwrLays_ren := {
  sizeBuilder := by kernel_rfl
  liesBuilder := by kernel_rfl
  t5 := Tryz.underlying5
  a5 := Tryz.isAgg5
  z5 := Tryz.sizeOf5
  v5 := Tryz.zeroValue5
  infoByte := by kernel_rfl
  cellsByte := by kernel_rfl
  sizeByte := by kernel_rfl
  neB5 := by decide }
open Go.RowKit in
theorem YtffmomgmkpmpkaaGreatDoor.bwriteB (B b : Nat) (bs : List Value) (c : Int) (w : World) (h : Lib.IsBuilderF 107 5 B b bs w) (hlen : bs.length + 1 ≤ 140737488355328) (hBw : B ≤ w.heap.size) :
    Calls Tryz.prog 62 #[.pointer (some ⟨b, 0, none⟩), .int .u8 c] w fun e w' => e = .returned .nilIface ∧ (Lib.BuilderAtF 107 5 B b (.pointer (some ⟨b, 0, none⟩)) (bs ++ [.int .u8 c]) w' ∧ Below B w w' ∧ Lib.OthersKept 5 (some b) w w') := Any.Builder_WriteByte_k YtffmomgmkpmpkaaGreatDoor.bwbLays YtffmomgmkpmpkaaGreatDoor.bwbLaysX B b bs c w h hlen hBw
open Go.RowKit in
theorem YtffmomgmkpmpkaaGreatDoor.bwriteR (B b : Nat) (bs : List Value) (r : Int) (w : World) (h : Lib.IsBuilderF 107 5 B b bs w) (hr0 : -2147483648 ≤ r) (hr1 : r ≤ 2147483647) (hlen : bs.length + 4 ≤ 140737488355328) (hBw : B ≤ w.heap.size) :
    Calls Tryz.prog 61 #[.pointer (some ⟨b, 0, none⟩), .int .i32 r] w fun e w' => e = .returned (.tuple #[.int .i64 (Lib.runeCells r).length, .nilIface]) ∧ (Lib.BuilderAtF 107 5 B b (.pointer (some ⟨b, 0, none⟩)) (bs ++ Lib.runeCells r) w' ∧ Below B w w' ∧ Lib.OthersKept 5 (some b) w w') := Any.Builder_WriteRune_k YtffmomgmkpmpkaaGreatDoor.bwrLays YtffmomgmkpmpkaaGreatDoor.bwrLaysX B b bs r hr0 hr1 w h hlen hBw
open Go.RowKit in
theorem YtffmomgmkpmpkaaGreatDoor.bstring (B b : Nat) (l : List UInt8) (w : World) (h : Lib.IsBuilderF 107 5 B b (Lib.byteCells l) w) (hBw : B ≤ w.heap.size) :
    Calls Tryz.prog 63 #[.pointer (some ⟨b, 0, none⟩)] w fun e w' => e = .returned (.string ⟨l.toArray⟩) ∧ (Lib.IsBuilderF 107 5 B b (Lib.byteCells l) w' ∧ Below B w w' ∧ Lib.OthersKept 5 (some b) w w') := Any.Builder_String_any_k Tryz.lays169 Tryz.Builder_Extra_169 B b l w h hBw
open Go.RowKit in
theorem YtffmomgmkpmpkaaGreatDoor.decR (s : ByteArray) (w : World) (hT : Lib.Utf8Tabs (Tryz.lays197_ren.g 3) (Tryz.lays197_ren.g 4) w) :
    Calls Tryz.prog 107 #[.string s] w fun e w' => e = .returned (.tuple #[.int .i32 (Lib.decodeGo s).1, .int .i64 (Lib.decodeGo s).2]) ∧ Below w.heap.size w w' := Tryz.utf8_DecodeRuneInString s w hT
open Go.RowKit in
theorem YtffmomgmkpmpkaaGreatDoor.mulX (x y : Nat) (hx : x < 18446744073709551616) (hy : y < 18446744073709551616) (w : World) :
    Calls Tryz.prog 114 #[.int .u64 x, .int .u64 y] w fun e w' => e = .returned (.tuple #[.int .u64 ((x * y / 18446744073709551616 : Nat) : Int), .int .u64 ((x * y % 18446744073709551616 : Nat) : Int)]) ∧ w' = w := Any.bits_Mul Tryz.lays212 x y hx hy w
open Go.RowKit in
theorem YtffmomgmkpmpkaaGreatDoor.cutP (s p : ByteArray) (w : World) :
    Calls Tryz.prog 108 #[.string s, .string p] w fun e w' => e = .returned (.tuple #[.string ⟨(Lib.trimPrefix s.data.toList p.data.toList).toArray⟩, .bool (Lib.hasPrefix s.data.toList p.data.toList)]) ∧ w' = w := Any.strings_CutPrefix Tryz.lays103 s p w
end Go.Proofs

namespace Go.Proofs.YtffmomgmkpmpkaaGreatDoor
open Go.RowKit
set_option linter.unusedVariables false
attribute [local go_sem] vwp vUpon_value vUpon_skip vUpon_enter vUpon_row
set_option linter.unusedSimpArgs false
set_option linter.unusedVariables false
/-- The cells of a terminal's block. -/
def tmC (wd ht : Int) (v : Value) (t : Tm) : List Value := [.int .i64 wd, .int .i64 ht, v, .int .i64 t.x, .int .i64 t.y, .int .u8 t.col.r, .int .u8 t.col.g, .int .u8 t.col.b, .int .u8 t.col.a, .int .u8 t.back.r, .int .u8 t.back.g, .int .u8 t.back.b, .int .u8 t.back.a]
def stepN (r : Option (Tm × Nat)) : Int := match r with | none => 0 | some (_, n) => n
def stepT (t : Tm) (r : Option (Tm × Nat)) : Tm := match r with | none => t | some (t', _) => t'
theorem pref_esc (l : List UInt8) : (∃ body, l = 27 :: 91 :: body) ∨ (Lib.hasPrefix l [27, 91] = false ∧ ∀ t, escP t l = none) := by
  cases l with
  | nil => exact .inr ⟨rfl, fun _ => rfl⟩
  | cons a r =>
    by_cases ha : a = 27
    · subst ha
      cases r with
      | nil => exact .inr ⟨rfl, fun _ => rfl⟩
      | cons b s =>
        by_cases hb : b = 91
        · subst hb; exact .inl ⟨s, rfl⟩
        · refine .inr ⟨?_, fun t => ?_⟩
          · simp [Lib.hasPrefix, List.isPrefixOf, Ne.symm hb]
          · unfold escP; split
            · rename_i h; injection h with _ h; injection h with h _; exact absurd h hb
            · rfl
    · refine .inr ⟨?_, fun t => ?_⟩
      · simp [Lib.hasPrefix, List.isPrefixOf, Ne.symm ha]
      · unfold escP; split
        · rename_i h; injection h with h _; exact absurd h ha
        · rfl
theorem nums_bd {most : Int} {e : UInt8} : ∀ {k : Nat} {l : List UInt8} {ns r}, numsP most e k l = some (ns, r) → ∀ n ∈ ns, 0 ≤ n ∧ n ≤ most
  | 0, l, ns, r, h, n, hn => by
    simp only [numsP, Option.some.injEq, Prod.mk.injEq] at h
    obtain ⟨rfl, rfl⟩ := h
    cases hn
  | k + 1, l, ns, r, h, n, hn => by
    rw [numsP] at h
    split at h
    · cases h
    · rename_i n i hP
      split at h
      · cases h
      · rename_i c r' hc
        by_cases hce : c = (if k = 0 then e else 59)
        · rw [if_pos hce] at h
          split at h
          · cases h
          · rename_i ms r2 hrec
            injection h with h
            obtain ⟨rfl, rfl⟩ := Prod.mk.inj h
            rcases List.mem_cons.1 hn with rfl | hn2
            · exact (numP_fit hP).2
            · exact nums_bd hrec _ hn2
        · rw [if_neg hce] at h; cases h
theorem escP_eq (t : Tm) (l : List UInt8) : escP t (27 :: 91 :: l) = match numsP 16384 72 2 l with
    | some ([y, x], r) => if x < 1 ∨ y < 1 then none else some ({ t with x := x - 1, y := y - 1 }, l.length + 2 - r.length)
    | _ => match numsP 255 109 6 l with
      | some ([a, b, c0, c1, c2, c3], r) => if b = 2 then (if a = 38 then some ({ t with col := ⟨c0, c1, c2, c3⟩ }, l.length + 2 - r.length) else if a = 48 then some ({ t with back := ⟨c0, c1, c2, c3⟩ }, l.length + 2 - r.length) else none) else none
      | _ => none := rfl
set_option maxHeartbeats 4000000 in
set_option maxRecDepth 100000 in
theorem resc_any (wd ht : Int) (v : Value) (t : Tm) (l : List UInt8) (b : Nat) (w : World) (hB : Blk w b (tmC wd ht v t) 97) (hl : l.length ≤ 1048576) :
  Calls Tryz.prog 55 #[.pointer (some ⟨b, 0, none⟩), .string (strL l)] w fun e w' => e = .returned (.int .i64 (stepN (escP t l))) ∧ Blk w' b (tmC wd ht v (stepT t (escP t l))) 97 ∧ KeptBut (· = b) w w' := by
 have CU := fun w => YtffmomgmkpmpkaaGreatDoor.cutP (strL l) ⟨#[27, 91]⟩ w
 have ed : (strL l).data.toList = l := by simp [strL]
 have ep : (⟨#[27, 91]⟩ : ByteArray).data.toList = [27, 91] := rfl
 simp only [ed, ep] at CU
 clear ed ep
 obtain ⟨S, hS⟩ : ∃ s, strL l = s := ⟨_, rfl⟩
 have hSz : S.size = l.length := by rw [← hS]; exact strL_size _
 rw [hS] at CU ⊢
 rcases pref_esc l with ⟨body, rfl⟩ | ⟨h0, h1⟩
 ·have e1 : Lib.hasPrefix (27 :: 91 :: body) [27, 91] = true := by simp [Lib.hasPrefix, List.isPrefixOf]
  have e2 : (⟨(Lib.trimPrefix (27 :: 91 :: body) [27, 91]).toArray⟩ : ByteArray) = strL body := by simp [Lib.trimPrefix, e1, strL]
  simp only [e1, e2] at CU
  clear e1 e2
  have hE := escP_eq t body
  obtain ⟨RES, hRES⟩ : ∃ q, escP t (27 :: 91 :: body) = q := ⟨_, rfl⟩
  rw [hRES] at hE ⊢
  clear hRES
  simp only [List.length_cons] at hl hSz
  obtain ⟨S2, hS2⟩ : ∃ s, strL body = s := ⟨_, rfl⟩
  have hSz2 : S2.size = body.length := by rw [← hS2]; exact strL_size _
  rw [hS2] at CU
  obtain ⟨M, hM⟩ : ∃ M, body.length = M := ⟨_, rfl⟩
  rw [hM] at hl hSz hSz2 hE
  obtain ⟨H, hH⟩ : ∃ r, numsP 16384 72 2 body = r := ⟨_, rfl⟩
  rw [hH] at hE
  replace hE := Lib.hid hE
  replace CU := Lib.hid CU
  replace hS2 := Lib.hid hS2
  replace hS := Lib.hid hS
  replace hM := Lib.hid hM
  have yb := hB.lt
  replace hB := Lib.hid hB
  go_enter Tryz.func55, Tryz.ntmps55
  go_upto_region 5 with (go_at_call 108; (with_reducible refine (CU.out _).mono ?_); rintro e w2 ⟨rfl, rfl⟩)
  obtain ⟨W1, hW1⟩ : ∃ W1, (w2.alloc (.cells #[.int .i64 0] 3)).alloc (.cells #[.int .i64 0] 3) = W1 := ⟨_, rfl⟩
  have BX : Blk W1 w2.heap.size [.int .i64 0] 3 := by rw [← hW1]; exact (Blk.new' rfl).alloc _
  have BY : Blk W1 (w2.heap.size + 1) [.int .i64 0] 3 := by rw [← hW1]; exact Blk.new' (by simp)
  have hb1 : Below w2.heap.size w2 W1 := by rw [← hW1]; exact belt
  have BT := hB.out.below hb1 yb
  rw [hW1]
  clear hW1
  have NS := fun u (hI : Ints u [w2.heap.size + 1, w2.heap.size] [0, 0]) g (hg : Blk u g [ptrV (w2.heap.size + 1), ptrV w2.heap.size] 164) =>
   numbers_any [w2.heap.size + 1, w2.heap.size] g 2 body 16384 72 72 rfl [0, 0] u hI hg (by simp) (by show 2 ≤ 10; decide) (by show 2 ≤ 2; decide) (by rw [hM.out]; omega) (by decide) (by decide)
  have el : [w2.heap.size + 1, w2.heap.size].length = 2 := rfl
  simp only [el, hH, hS2.out] at NS
  have IXY : Ints W1 [w2.heap.size + 1, w2.heap.size] [0, 0] := ⟨rfl, fun j p x hp hx => by
   match j, hp, hx with
   | 0, hp, hx => injection hp with hp; injection hx with hx; subst hp hx; exact BY
   | 1, hp, hx => injection hp with hp; injection hx with hx; subst hp hx; exact BX⟩
  have hal := (KeptBut.refl (fun k => k ∈ [w2.heap.size + 1, w2.heap.size]) W1).alloc (.cells #[ptrV (w2.heap.size + 1), ptrV w2.heap.size] 164)
  have y1 := BX.lt
  have y2 := BY.lt
  obtain ⟨x, hx⟩ : ∃ x, w2.heap.size = x := ⟨_, rfl⟩
  rw [hx] at NS IXY hal hb1 y1 y2 yb ⊢
  replace NS := Lib.hid NS
  replace IXY := Lib.hid IXY
  replace hal := Lib.hid hal
  replace BT := Lib.hid BT
  replace hb1 := Lib.hid hb1
  replace hx := Lib.hid hx
  clear BX BY hB
  cases H with
  | none =>
   unfold outNums at NS
   dsimp only at NS
   go_upto_region 11 with (go_at_call 109; (with_reducible refine (NS.out _ (IXY.out.below ((Below.refl _ _).alloc (Nat.le_refl _) _)) _ (Blk.new _ _ _)).mono ?_); rintro e w3 ⟨rfl, hk3, _⟩)
   have hb3 : Below x w2 w3 := KeptBut.toBelow hb1.out (hal.out.trans hk3) (by omega) (fun k hk hm => by simp only [List.mem_cons, List.not_mem_nil, or_false] at hm; omega)
   have BT3 := BT.out.but (hal.out.trans hk3) (by simp only [List.mem_cons, List.not_mem_nil, or_false]; omega)
   clear NS hk3 hal IXY BT hb1 y1 y2
   obtain ⟨H2, hH2⟩ : ∃ r, numsP 255 109 6 body = r := ⟨_, rfl⟩
   replace hE := hE.out
   rw [hH2] at hE
   have yb3 := BT3.lt
   have zb3 := hb3.size
   rw [hx.out] at zb3
   go_upto_region 12 with fail
   obtain ⟨W4, hW4⟩ : ∃ W4, (((((w3.alloc (.cells #[.int .i64 0] 3)).alloc (.cells #[.int .i64 0] 3)).alloc (.cells #[.int .i64 0] 3)).alloc (.cells #[.int .i64 0] 3)).alloc (.cells #[.int .i64 0] 3)).alloc (.cells #[.int .i64 0] 3) = W4 := ⟨_, rfl⟩
   have L6 : ∀ j : Nat, j < 6 → Blk W4 (w3.heap.size + j) [.int .i64 0] 3 := by
    intro j hj
    rw [← hW4]
    match j, hj with
    | 0, _ => exact (((((Blk.new' rfl).alloc _).alloc _).alloc _).alloc _).alloc _
    | 1, _ => exact ((((Blk.new' (by simp)).alloc _).alloc _).alloc _).alloc _
    | 2, _ => exact (((Blk.new' (by simp)).alloc _).alloc _).alloc _
    | 3, _ => exact ((Blk.new' (by simp)).alloc _).alloc _
    | 4, _ => exact (Blk.new' (by simp)).alloc _
    | 5, _ => exact Blk.new' (by simp)
   have hb4 : Below w3.heap.size w3 W4 := by rw [← hW4]; exact belt
   have BT4 := BT3.below hb4 yb3
   obtain ⟨m, hm⟩ : ∃ m, w3.heap.size = m := ⟨_, rfl⟩
   rw [hm] at L6 hb4 yb3 zb3
   rw [hW4, hm]
   have hb04 : Below x w2 W4 := hb3.trans (hb4.mono (by omega))
   clear hW4 hb4 hb3
   have I6 : Ints W4 [m, m + 1, m + 1 + 1, m + 1 + 1 + 1, m + 1 + 1 + 1 + 1, m + 1 + 1 + 1 + 1 + 1] [0, 0, 0, 0, 0, 0] := ⟨rfl, fun j p z hp hz => by
    match j, hp, hz with
    | 0, hp, hz => injection hp with hp; injection hz with hz; subst hp hz; exact L6 0 (by decide)
    | 1, hp, hz => injection hp with hp; injection hz with hz; subst hp hz; exact L6 1 (by decide)
    | 2, hp, hz => injection hp with hp; injection hz with hz; subst hp hz; exact L6 2 (by decide)
    | 3, hp, hz => injection hp with hp; injection hz with hz; subst hp hz; exact L6 3 (by decide)
    | 4, hp, hz => injection hp with hp; injection hz with hz; subst hp hz; exact L6 4 (by decide)
    | 5, hp, hz => injection hp with hp; injection hz with hz; subst hp hz; exact L6 5 (by decide)⟩
   have y5 := (L6 5 (by decide)).lt
   have NS := fun u (hI : Ints u [m, m + 1, m + 1 + 1, m + 1 + 1 + 1, m + 1 + 1 + 1 + 1, m + 1 + 1 + 1 + 1 + 1] [0, 0, 0, 0, 0, 0]) g (hg : Blk u g [ptrV m, ptrV (m + 1), ptrV (m + 1 + 1), ptrV (m + 1 + 1 + 1), ptrV (m + 1 + 1 + 1 + 1), ptrV (m + 1 + 1 + 1 + 1 + 1)] 164) =>
    numbers_any [m, m + 1, m + 1 + 1, m + 1 + 1 + 1, m + 1 + 1 + 1 + 1, m + 1 + 1 + 1 + 1 + 1] g 6 body 255 109 109 rfl [0, 0, 0, 0, 0, 0] u hI hg (by first | (simp; done) | (simp; omega)) (by show 6 ≤ 10; decide) (by show 6 ≤ 6; decide) (by rw [hM.out]; omega) (by decide) (by decide)
   have el : [m, m + 1, m + 1 + 1, m + 1 + 1 + 1, m + 1 + 1 + 1 + 1, m + 1 + 1 + 1 + 1 + 1].length = 6 := rfl
   simp only [el, hH2, hS2.out] at NS
   have hal := (KeptBut.refl (fun k => k ∈ [m, m + 1, m + 1 + 1, m + 1 + 1 + 1, m + 1 + 1 + 1 + 1, m + 1 + 1 + 1 + 1 + 1]) W4).alloc (.cells #[ptrV m, ptrV (m + 1), ptrV (m + 1 + 1), ptrV (m + 1 + 1 + 1), ptrV (m + 1 + 1 + 1 + 1), ptrV (m + 1 + 1 + 1 + 1 + 1)] 164)
   replace NS := Lib.hid NS
   replace I6 := Lib.hid I6
   replace hal := Lib.hid hal
   replace BT4 := Lib.hid BT4
   replace hb04 := Lib.hid hb04
   replace hm := Lib.hid hm
   clear L6 BT3 el
   cases H2 with
   | none =>
    have hRN : RES = none := hE
    subst hRN
    unfold outNums at NS
    dsimp only at NS
    go_upto_region 13 with (go_at_call 109; (with_reducible refine (NS.out _ (I6.out.below ((Below.refl _ _).alloc (Nat.le_refl _) _)) _ (Blk.new _ _ _)).mono ?_); rintro e w5 ⟨rfl, hk5, _⟩)
    have hb5 : Below x w2 w5 := KeptBut.toBelow hb04.out (hal.out.trans hk5) (by omega) (fun k hk hm => by simp only [List.mem_cons, List.not_mem_nil, or_false] at hm; omega)
    have BT5 := BT4.out.but (hal.out.trans hk5) (by simp only [List.mem_cons, List.not_mem_nil, or_false]; omega)
    go_wp2
    go_ret
    exact ⟨rfl, BT5, (KeptBut.refl _ _).below (by rw [hx.out]; exact hb5)⟩
   | some q =>
    obtain ⟨ns, r⟩ := q
    obtain ⟨hnl, hrl⟩ := numsP_len hH2
    obtain ⟨n0, n1, n2, n3, n4, n5, rfl⟩ : ∃ n0 n1 n2 n3 n4 n5, ns = [n0, n1, n2, n3, n4, n5] := by
     match ns, hnl with
     | [_, _, _, _, _, _], _ => exact ⟨_, _, _, _, _, _, rfl⟩
    have hnb := nums_bd hH2
    have b2 := hnb n2 (by simp)
    have b3 := hnb n3 (by simp)
    have b4 := hnb n4 (by simp)
    have b5 := hnb n5 (by simp)
    rw [hM.out] at hrl
    unfold outNums at NS
    dsimp only at NS hE
    obtain ⟨S4, hS4⟩ : ∃ s, strL r = s := ⟨_, rfl⟩
    have hSz4 : S4.size = r.length := by rw [← hS4]; exact strL_size _
    rw [hS4] at NS
    obtain ⟨R4, hR4⟩ : ∃ R4, r.length = R4 := ⟨_, rfl⟩
    rw [hR4] at hSz4 hrl hE
    replace hE := Lib.hid hE
    replace hS4 := Lib.hid hS4
    replace hR4 := Lib.hid hR4
    clear hnb hnl hH2
    go_upto_region 13 with (go_at_call 109; (with_reducible refine (NS.out _ (I6.out.below ((Below.refl _ _).alloc (Nat.le_refl _) _)) _ (Blk.new _ _ _)).mono ?_); rintro e w5 ⟨rfl, hk5, vs, hI5, hv5⟩)
    have hb5 : Below x w2 w5 := KeptBut.toBelow hb04.out (hal.out.trans hk5) (by omega) (fun k hk hm => by simp only [List.mem_cons, List.not_mem_nil, or_false] at hm; omega)
    have BT5 := BT4.out.but (hal.out.trans hk5) (by simp only [List.mem_cons, List.not_mem_nil, or_false]; omega)
    obtain rfl := hv5 _ _ rfl
    have c0 := (hI5.2 0 _ _ rfl rfl).cell (o := 0) rfl
    have c1 := (hI5.2 1 _ _ rfl rfl).cell (o := 0) rfl
    have c2 := (hI5.2 2 _ _ rfl rfl).cell (o := 0) rfl
    have c3 := (hI5.2 3 _ _ rfl rfl).cell (o := 0) rfl
    have c4 := (hI5.2 4 _ _ rfl rfl).cell (o := 0) rfl
    have c5 := (hI5.2 5 _ _ rfl rfl).cell (o := 0) rfl
    have l0 := (hI5.2 0 _ _ rfl rfl).lt
    have l5 := (hI5.2 5 _ _ rfl rfl).lt
    have lb := BT5.lt
    have hb5' := Lib.hid ((KeptBut.refl (· = b) w2).below (by rw [hx.out]; exact hb5))
    replace BT5 := Lib.hid BT5
    clear NS hk5 hal I6 BT4 hb04 hI5 hb5
    by_cases t1 : n1 = 2
    ·by_cases t2 : n0 = 38
     ·subst t1 t2
      have hRN := hE.out
      simp only [if_true, if_false, Int.reduceEq] at hRN
      subst hRN
      go_upto_region 16 with fail
      obtain ⟨W6, hW6⟩ : ∃ W6, w5.alloc (.cells #[.int .u8 n2, .int .u8 n3, .int .u8 n4, .int .u8 n5] 44) = W6 := ⟨_, rfl⟩
      have BC : Blk W6 w5.heap.size [.int .u8 n2, .int .u8 n3, .int .u8 n4, .int .u8 n5] 44 := by rw [← hW6]; exact Blk.new' rfl
      have BT6 : Blk W6 b (tmC wd ht v t) 97 := by rw [← hW6]; exact BT5.out.alloc _
      have hb6 := hb5'.out.alloc (.cells #[.int .u8 n2, .int .u8 n3, .int .u8 n4, .int .u8 n5] 44)
      have e0 : W6.cell? ⟨m, 0, none⟩ = w5.cell? ⟨m, 0, none⟩ := by rw [← hW6]; exact ((Below.refl w5.heap.size w5).alloc (Nat.le_refl _) _).cell l0
      rw [hW6] at hb6 ⊢
      rw [c0] at e0
      have g0 := BC.cell (o := 0) rfl
      have g1 := BC.cell (o := 1) rfl
      have g2 := BC.cell (o := 2) rfl
      have g3 := BC.cell (o := 3) rfl
      have f0 := BT6.free 5
      have f1 := BT6.free (5 + 1)
      have f2 := BT6.free (5 + 1 + 1)
      have f3 := BT6.free (5 + 1 + 1 + 1)
      have j0 := BT6.cell (o := 5) rfl
      have j1 := BT6.cell (o := 5 + 1) rfl
      have j2 := BT6.cell (o := 5 + 1 + 1) rfl
      have j3 := BT6.cell (o := 5 + 1 + 1 + 1) rfl
      have yC := BC.lt
      have yT := BT6.lt
      have l6 : m < W6.heap.size := by omega
      replace BT6 := Lib.hid BT6
      replace hb6 := Lib.hid hb6
      clear hW6 c0 c1 c2 c3 c4 c5 BC BT5 hb5'
      go_wp2
      go_ret
      refine ⟨?_, ?_, ?_⟩
      ·have e : ((M : Int) + 1 + 1 - (R4 : Int)) = ((M + 2 - R4 : Nat) : Int) := by omega
       exact congrArg (fun z => Ending.returned (.int .i64 z)) e
      ·exact (((BT6.out.set 5 _).set (5 + 1) _).set (5 + 1 + 1) _).set (5 + 1 + 1 + 1) _
      ·exact (((hb6.out.setCell ⟨b, 5, none⟩ _ rfl).setCell ⟨b, 5 + 1, none⟩ _ rfl).setCell ⟨b, 5 + 1 + 1, none⟩ _ rfl).setCell ⟨b, 5 + 1 + 1 + 1, none⟩ _ rfl
     ·by_cases t3 : n0 = 48
      ·subst t1 t3
       have hRN := hE.out
       simp only [if_true, if_false, Int.reduceEq] at hRN
       subst hRN
       go_upto_region 16 with fail
       obtain ⟨W6, hW6⟩ : ∃ W6, w5.alloc (.cells #[.int .u8 n2, .int .u8 n3, .int .u8 n4, .int .u8 n5] 44) = W6 := ⟨_, rfl⟩
       have BC : Blk W6 w5.heap.size [.int .u8 n2, .int .u8 n3, .int .u8 n4, .int .u8 n5] 44 := by rw [← hW6]; exact Blk.new' rfl
       have BT6 : Blk W6 b (tmC wd ht v t) 97 := by rw [← hW6]; exact BT5.out.alloc _
       have hb6 := hb5'.out.alloc (.cells #[.int .u8 n2, .int .u8 n3, .int .u8 n4, .int .u8 n5] 44)
       have e0 : W6.cell? ⟨m, 0, none⟩ = w5.cell? ⟨m, 0, none⟩ := by rw [← hW6]; exact ((Below.refl w5.heap.size w5).alloc (Nat.le_refl _) _).cell l0
       rw [hW6] at hb6 ⊢
       rw [c0] at e0
       have g0 := BC.cell (o := 0) rfl
       have g1 := BC.cell (o := 1) rfl
       have g2 := BC.cell (o := 2) rfl
       have g3 := BC.cell (o := 3) rfl
       have f0 := BT6.free 9
       have f1 := BT6.free (9 + 1)
       have f2 := BT6.free (9 + 1 + 1)
       have f3 := BT6.free (9 + 1 + 1 + 1)
       have j0 := BT6.cell (o := 9) rfl
       have j1 := BT6.cell (o := 9 + 1) rfl
       have j2 := BT6.cell (o := 9 + 1 + 1) rfl
       have j3 := BT6.cell (o := 9 + 1 + 1 + 1) rfl
       have yC := BC.lt
       have yT := BT6.lt
       have l6 : m < W6.heap.size := by omega
       replace BT6 := Lib.hid BT6
       replace hb6 := Lib.hid hb6
       clear hW6 c0 c1 c2 c3 c4 c5 BC BT5 hb5'
       go_wp2
       go_ret
       refine ⟨?_, ?_, ?_⟩
       ·have e : ((M : Int) + 1 + 1 - (R4 : Int)) = ((M + 2 - R4 : Nat) : Int) := by omega
        exact congrArg (fun z => Ending.returned (.int .i64 z)) e
       ·exact (((BT6.out.set 9 _).set (9 + 1) _).set (9 + 1 + 1) _).set (9 + 1 + 1 + 1) _
       ·exact (((hb6.out.setCell ⟨b, 9, none⟩ _ rfl).setCell ⟨b, 9 + 1, none⟩ _ rfl).setCell ⟨b, 9 + 1 + 1, none⟩ _ rfl).setCell ⟨b, 9 + 1 + 1 + 1, none⟩ _ rfl
      ·have hRN : RES = none := by have h := hE.out; rw [if_pos t1, if_neg t2, if_neg t3] at h; exact h
       subst hRN t1
       have t2b : (n0 != 38) = true := by simpa using t2
       have t3b : (n0 != 48) = true := by simpa using t3
       go_wp2
       go_ret
       exact ⟨rfl, BT5.out, hb5'.out⟩
    ·have hRN : RES = none := by have h := hE.out; rw [if_neg t1] at h; exact h
     subst hRN
     have t1b : (n1 != 2) = true := by simpa using t1
     go_wp2
     go_ret
     exact ⟨rfl, BT5.out, hb5'.out⟩
  | some q =>
   obtain ⟨ns, r⟩ := q
   obtain ⟨hnl, hrl⟩ := numsP_len hH
   obtain ⟨y, xx, rfl⟩ : ∃ y xx, ns = [y, xx] := by
    match ns, hnl with
    | [y, xx], _ => exact ⟨_, _, rfl⟩
   have hnb := nums_bd hH
   have hy0 := hnb y (by simp)
   have hx0 := hnb xx (by simp)
   rw [hM.out] at hrl
   unfold outNums at NS
   dsimp only at NS
   obtain ⟨S4, hS4⟩ : ∃ s, strL r = s := ⟨_, rfl⟩
   have hSz4 : S4.size = r.length := by rw [← hS4]; exact strL_size _
   rw [hS4] at NS
   obtain ⟨R4, hR4⟩ : ∃ R4, r.length = R4 := ⟨_, rfl⟩
   replace hE := hE.out
   dsimp only at hE
   rw [hR4] at hSz4 hrl hE
   replace hE := Lib.hid hE
   replace hH := Lib.hid hH
   replace hS4 := Lib.hid hS4
   replace hR4 := Lib.hid hR4
   clear hnb hnl
   go_upto_region 7 with (go_at_call 109; (with_reducible refine (NS.out _ (IXY.out.below ((Below.refl _ _).alloc (Nat.le_refl _) _)) _ (Blk.new _ _ _)).mono ?_); rintro e w3 ⟨rfl, hk3, vs, hI3, hv3⟩)
   have hb3 : Below x w2 w3 := KeptBut.toBelow hb1.out (hal.out.trans hk3) (by omega) (fun k hk hm => by simp only [List.mem_cons, List.not_mem_nil, or_false] at hm; omega)
   have BT3 := BT.out.but (hal.out.trans hk3) (by simp only [List.mem_cons, List.not_mem_nil, or_false]; omega)
   obtain rfl := hv3 _ _ rfl
   have cY := (hI3.2 0 (x + 1) y rfl rfl).cell (o := 0) rfl
   have cX := (hI3.2 1 x xx rfl rfl).cell (o := 0) rfl
   have lY := (hI3.2 0 (x + 1) y rfl rfl).lt
   have lX := (hI3.2 1 x xx rfl rfl).lt
   have fb := BT3.free
   have lb := BT3.lt
   clear NS hk3 hal IXY BT hb1 y1 y2 hI3
   replace hb3 := Lib.hid hb3
   replace BT3 := Lib.hid BT3
   by_cases x1 : xx < 1
   ·have hRN : RES = none := by have h := hE.out; rwa [if_pos (.inl x1)] at h
    subst hRN
    go_wp2
    go_ret
    exact ⟨rfl, BT3.out, (KeptBut.refl _ _).below (by rw [hx.out]; exact hb3.out)⟩
   ·by_cases y1 : y < 1
    ·have hRN : RES = none := by have h := hE.out; rwa [if_pos (.inr y1)] at h
     subst hRN
     go_wp2
     go_ret
     exact ⟨rfl, BT3.out, (KeptBut.refl _ _).below (by rw [hx.out]; exact hb3.out)⟩
    ·have hRN := hE.out
     rw [if_neg (fun h => h.elim x1 y1)] at hRN
     subst hRN
     have hlen : (S.size : Int) - (S4.size : Int) = ((M + 2 - R4 : Nat) : Int) := by rw [hSz, hSz4]; omega
     have jb3 := fb 3
     have jb4 := fb 4
     have cb3 := BT3.out.cell (o := 3) rfl
     have cb4 := BT3.out.cell (o := 4) rfl
     go_wp2
     go_ret
     refine ⟨?_, ?_, ?_⟩
     ·have e : ((M : Int) + 1 + 1 - (R4 : Int)) = ((M + 2 - R4 : Nat) : Int) := by omega
      exact congrArg (fun z => Ending.returned (.int .i64 z)) e
     ·exact (BT3.out.set 3 _).set 4 _
     ·exact (((KeptBut.refl (· = b) w2).below (by rw [hx.out]; exact hb3.out)).setCell ⟨b, 3, none⟩ _ rfl).setCell ⟨b, 4, none⟩ _ rfl
 ·rw [h1]
  simp only [h0] at CU
  obtain ⟨T2, hT2⟩ : ∃ s, (⟨(Lib.trimPrefix l [27, 91]).toArray⟩ : ByteArray) = s := ⟨_, rfl⟩
  simp only [hT2] at CU
  replace CU := Lib.hid CU
  replace hB := Lib.hid hB
  go_enter Tryz.func55, Tryz.ntmps55
  go_wp2_with (go_at_call 108; (with_reducible refine (CU.out _).mono ?_); rintro e w2 ⟨rfl, rfl⟩)
  go_ret
  exact ⟨rfl, hB.out, KeptBut.refl _ _⟩
end Go.Proofs.YtffmomgmkpmpkaaGreatDoor
