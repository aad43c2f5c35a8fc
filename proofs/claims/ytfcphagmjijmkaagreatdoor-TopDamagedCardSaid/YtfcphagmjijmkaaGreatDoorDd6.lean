/-
  DERIVED: THE SHELF's CONTRACTS AT THIS DUMP, IN PLAIN WORDS (tools/lay-plain.mjs out of 'TryzShelf.lean', which tools/lay-shelf.mjs wrote): THE SAME DECLARATIONS UNDER THE SAME NAMES: 'import', 'namespace', 'open', 'def', 'theorem' AND NOTHING ELSE: no command of the shelf's: FOR A HAND-IN. Each laying: the table of numbers ('.._ren') and one theorem, a field a fact of the dump's own or the kernel's comparison; each contract: ONE APPLICATION.
-/
import Derived.Shelf.Bits.Mul64
import Derived.Shelf.LaysM
import Derived.Shelf.Small.Bits
import Derived.Shelf.Small.Wraps
import Derived.Shelf.Strconv.Itoa0
import Derived.Shelf.Strconv.Itoa1
import Derived.Shelf.Strconv.Itoa2
import Derived.Shelf.Strconv.Itoa3
import Derived.Shelf.Strings.Builder1
import Derived.Shelf.Strings.BuilderCap
import Derived.Shelf.Strings.BuilderF
import Derived.Shelf.Strings.BuilderK
import Derived.Shelf.Strings.BuilderRune
import Derived.Shelf.Strings.Prefix
import Derived.Shelf.Unicode.Decode
import Derived.Shelf.Unicode.DecodeAny
import Derived.Shelf.Unicode.DecodeSlow
import Derived.Shelf.Utf8.AppendRune
import Derived.Shelf.Utf8.AppendRunePlain
import Derived.Test.YtfcphagmjijmkaaGreatDoorDd5
namespace Go.Proofs
open Go.Shelf
def Tryz.lays103_ren : Go.Shelf.Ren := ⟨fun | 103 => 154 | 210 => 190 | 206 => 217 | n => n, fun | 9 => 9 | 4 => 4 | 24 => 213 | 3 => 3 | n => n, fun | n => n⟩
theorem Tryz.lays103 : Go.Proofs.Lays.n103 Tryz.prog Tryz.lays103_ren := {
 mixed := by kernel_rfl
 f103 := Tryz.func154.trans (congrArg some (by kernel_rfl))
 f206 := Tryz.func217.trans (congrArg some (by kernel_rfl))
 f210 := Tryz.func190.trans (congrArg some (by kernel_rfl))
 t3 := Tryz.underlying3
 a3 := Tryz.isAgg3
 z3 := Tryz.sizeOf3
 v3 := Tryz.zeroValue3
 t4 := Tryz.underlying4
 a4 := Tryz.isAgg4
 z4 := Tryz.sizeOf4
 v4 := Tryz.zeroValue4
 t9 := Tryz.underlying9
 a9 := Tryz.isAgg9
 z9 := Tryz.sizeOf9
 v9 := Tryz.zeroValue9
 t24 := Tryz.underlying213
 a24 := Tryz.isAgg213
 z24 := Tryz.sizeOf213
 v24 := Tryz.zeroValue213 }
def Tryz.laysM171_ren : Go.Shelf.Ren := ⟨fun | 171 => 149 | 243 => 187 | 246 => 215 | 283 => 229 | 284 => 230 | 285 => 231 | 286 => 232 | 129 => 166 | 317 => 238 | 318 => 239 | 319 => 240 | 320 => 241 | 337 => 250 | 338 => 251 | n => n, fun | 3 => 3 | 9 => 9 | 2 => 2 | 4 => 4 | 171 => 289 | 0 => 0 | 53 => 187 | 37 => 156 | 5 => 5 | 173 => 291 | 212 => 298 | 51 => 184 | 20 => 20 | 213 => 299 | 46 => 137 | 232 => 307 | 233 => 308 | n => n, fun | 17 => 3 | 18 => 4 | 19 => 5 | n => n⟩
theorem Tryz.laysM171 : Go.Proofs.LaysM.n171 Tryz.prog Tryz.laysM171_ren := {
 mixed := by kernel_rfl
 f129 := Tryz.func166.trans (congrArg some (by kernel_rfl))
 f171 := Tryz.func149.trans (congrArg some (by kernel_rfl))
 f243 := Tryz.func187.trans (congrArg some (by kernel_rfl))
 f246 := Tryz.func215.trans (congrArg some (by kernel_rfl))
 f283 := Tryz.func229.trans (congrArg some (by kernel_rfl))
 f284 := Tryz.func230.trans (congrArg some (by kernel_rfl))
 f285 := Tryz.func231.trans (congrArg some (by kernel_rfl))
 f286 := Tryz.func232.trans (congrArg some (by kernel_rfl))
 f317 := Tryz.func238.trans (congrArg some (by kernel_rfl))
 f318 := Tryz.func239.trans (congrArg some (by kernel_rfl))
 f319 := Tryz.func240.trans (congrArg some (by kernel_rfl))
 f320 := Tryz.func241.trans (congrArg some (by kernel_rfl))
 f337 := Tryz.func250.trans (congrArg some (by kernel_rfl))
 f338 := Tryz.func251.trans (congrArg some (by kernel_rfl))
 t0 := Tryz.underlying0
 a0 := Tryz.isAgg0
 z0 := Tryz.sizeOf0
 v0 := Tryz.zeroValue0
 t2 := Tryz.underlying2
 a2 := Tryz.isAgg2
 z2 := Tryz.sizeOf2
 v2 := Tryz.zeroValue2
 t3 := Tryz.underlying3
 a3 := Tryz.isAgg3
 z3 := Tryz.sizeOf3
 v3 := Tryz.zeroValue3
 t4 := Tryz.underlying4
 a4 := Tryz.isAgg4
 z4 := Tryz.sizeOf4
 v4 := Tryz.zeroValue4
 t5 := Tryz.underlying5
 a5 := Tryz.isAgg5
 z5 := Tryz.sizeOf5
 v5 := Tryz.zeroValue5
 t9 := Tryz.underlying9
 a9 := Tryz.isAgg9
 z9 := Tryz.sizeOf9
 v9 := Tryz.zeroValue9
 t20 := Tryz.underlying20
 a20 := Tryz.isAgg20
 z20 := Tryz.sizeOf20
 v20 := Tryz.zeroValue20
 t37 := Tryz.underlying156
 a37 := Tryz.isAgg156
 z37 := Tryz.sizeOf156
 v37 := Tryz.zeroValue156
 t46 := Tryz.underlying137
 a46 := Tryz.isAgg137
 z46 := Tryz.sizeOf137
 v46 := Tryz.zeroValue137
 t51 := Tryz.underlying184
 a51 := Tryz.isAgg184
 z51 := Tryz.sizeOf184
 v51 := Tryz.zeroValue184
 t53 := Tryz.underlying187
 a53 := Tryz.isAgg187
 z53 := Tryz.sizeOf187
 v53 := Tryz.zeroValue187
 t171 := Tryz.underlying289
 a171 := Tryz.isAgg289
 z171 := Tryz.sizeOf289
 v171 := Tryz.zeroValue289
 t173 := Tryz.underlying291
 a173 := Tryz.isAgg291
 z173 := Tryz.sizeOf291
 v173 := Tryz.zeroValue291
 t212 := Tryz.underlying298
 a212 := Tryz.isAgg298
 z212 := Tryz.sizeOf298
 v212 := Tryz.zeroValue298
 t213 := Tryz.underlying299
 a213 := Tryz.isAgg299
 z213 := Tryz.sizeOf299
 t232 := Tryz.underlying307
 a232 := Tryz.isAgg307
 z232 := Tryz.sizeOf307
 v232 := Tryz.zeroValue307
 t233 := Tryz.underlying308
 a233 := Tryz.isAgg308
 z233 := Tryz.sizeOf308
 v233 := Tryz.zeroValue308
 g17 := by kernel_rfl
 g18 := by kernel_rfl
 g19 := by kernel_rfl
 i0 := by kernel_rfl
 i2 := by kernel_rfl
 i3 := by kernel_rfl
 i4 := by kernel_rfl
 i5 := by kernel_rfl
 i9 := by kernel_rfl
 i20 := by kernel_rfl
 i37 := by kernel_rfl
 i46 := by kernel_rfl
 i51 := by kernel_rfl
 i53 := by kernel_rfl
 i171 := by kernel_rfl
 i173 := by kernel_rfl
 i212 := by kernel_rfl
 i232 := by kernel_rfl
 i233 := by kernel_rfl
 m17 := by kernel_rfl
 m18 := by kernel_rfl
 m19 := by kernel_rfl }
open Go.RowKit Go.Sort Go.Lib in
theorem Tryz.strconv_Itoa (n : Int) (h0 : -9223372036854775808 ≤ n) (h1 : n ≤ 9223372036854775807) (w : World) (htab : Lib.TabIs Tryz.prog w "internal/strconv.uint64pow10" .u64 Lib.pow10Tab) :
  Calls Tryz.prog 149 #[.int .i64 n] w fun e w' => e = .returned (.string ⟨(Lib.itoa n).toArray⟩) ∧ ∃ k os, w' = grow (w.drewN k) os := Any.strconv_Itoa Tryz.laysM171 n h0 h1 w htab
def Tryz.lays197_ren : Go.Shelf.Ren := ⟨fun | 197 => 152 | 260 => 189 | n => n, fun | 9 => 9 | 21 => 21 | 3 => 3 | 4 => 4 | 5 => 5 | 105 => 210 | 119 => 273 | 0 => 0 | 46 => 137 | 139 => 276 | 138 => 275 | n => n, fun | 3 => 0 | 4 => 1 | n => n⟩
theorem Tryz.lays197 : Go.Proofs.Lays.n197 Tryz.prog Tryz.lays197_ren := {
 mixed := by kernel_rfl
 f197 := Tryz.func152.trans (congrArg some (by kernel_rfl))
 f260 := Tryz.func189.trans (congrArg some (by kernel_rfl))
 t0 := Tryz.underlying0
 a0 := Tryz.isAgg0
 z0 := Tryz.sizeOf0
 v0 := Tryz.zeroValue0
 t3 := Tryz.underlying3
 a3 := Tryz.isAgg3
 z3 := Tryz.sizeOf3
 v3 := Tryz.zeroValue3
 t4 := Tryz.underlying4
 a4 := Tryz.isAgg4
 z4 := Tryz.sizeOf4
 v4 := Tryz.zeroValue4
 t5 := Tryz.underlying5
 a5 := Tryz.isAgg5
 z5 := Tryz.sizeOf5
 v5 := Tryz.zeroValue5
 t9 := Tryz.underlying9
 a9 := Tryz.isAgg9
 z9 := Tryz.sizeOf9
 v9 := Tryz.zeroValue9
 t21 := Tryz.underlying21
 a21 := Tryz.isAgg21
 z21 := Tryz.sizeOf21
 v21 := Tryz.zeroValue21
 t46 := Tryz.underlying137
 a46 := Tryz.isAgg137
 z46 := Tryz.sizeOf137
 v46 := Tryz.zeroValue137
 t105 := Tryz.underlying210
 a105 := Tryz.isAgg210
 z105 := Tryz.sizeOf210
 v105 := Tryz.zeroValue210
 t119 := Tryz.underlying273
 a119 := Tryz.isAgg273
 z119 := Tryz.sizeOf273
 t138 := Tryz.underlying275
 a138 := Tryz.isAgg275
 z138 := Tryz.sizeOf275
 v138 := Tryz.zeroValue275
 t139 := Tryz.underlying276
 a139 := Tryz.isAgg276
 z139 := Tryz.sizeOf276
 v139 := Tryz.zeroValue276
 g3 := by kernel_rfl
 g4 := by kernel_rfl }
def Tryz.lays212_ren : Go.Shelf.Ren := ⟨fun | 212 => 93 | 263 => 136 | 264 => 137 | n => n, fun | 46 => 137 | 51 => 184 | 146 => 185 | 53 => 187 | 148 => 188 | n => n, fun | n => n⟩
theorem Tryz.lays212 : Go.Proofs.Lays.n212 Tryz.prog Tryz.lays212_ren := {
 mixed := by kernel_rfl
 f212 := Tryz.func93.trans (congrArg some (by kernel_rfl))
 f263 := Tryz.func136.trans (congrArg some (by kernel_rfl))
 f264 := Tryz.func137.trans (congrArg some (by kernel_rfl))
 t46 := Tryz.underlying137
 a46 := Tryz.isAgg137
 z46 := Tryz.sizeOf137
 v46 := Tryz.zeroValue137
 t51 := Tryz.underlying184
 a51 := Tryz.isAgg184
 z51 := Tryz.sizeOf184
 v51 := Tryz.zeroValue184
 t53 := Tryz.underlying187
 a53 := Tryz.isAgg187
 z53 := Tryz.sizeOf187
 v53 := Tryz.zeroValue187
 t146 := Tryz.underlying185
 a146 := Tryz.isAgg185
 z146 := Tryz.sizeOf185
 v146 := Tryz.zeroValue185
 t148 := Tryz.underlying188
 a148 := Tryz.isAgg188
 z148 := Tryz.sizeOf188
 v148 := Tryz.zeroValue188 }
open Go.RowKit Go.Lib in
theorem Tryz.utf8_DecodeRuneInString (s : ByteArray) (w : World) (hT : Lib.Utf8Tabs 0 1 w) :
  Calls Tryz.prog 152 #[.string s] w fun e w' => e = .returned (.tuple #[.int .i32 (Lib.decodeGo s).1, .int .i64 (Lib.decodeGo s).2]) ∧ Below w.heap.size w w' := Any.utf8_DecodeRuneInString Tryz.lays197 s w hT
end Go.Proofs
namespace Go.Proofs
open Go.Shelf
def YtfcphagmjijmkaaGreatDoor.bwrLays_ren : Go.Shelf.Ren := ⟨fun | 168 => 151 | 240 => 186 | 242 => 188 | 276 => 214 | 278 => 216 | n => n, fun | 0 => 0 | 3 => 3 | 4 => 4 | 5 => 5 | 9 => 9 | 20 => 20 | 21 => 21 | 37 => 156 | 46 => 137 | 51 => 184 | 70 => 155 | 72 => 158 | 75 => 200 | 80 => 165 | 164 => 270 | n => n, fun n => n⟩
set_option maxRecDepth 100000 in
theorem YtfcphagmjijmkaaGreatDoor.bwrLays : Lays.n168 Tryz.prog YtfcphagmjijmkaaGreatDoor.bwrLays_ren := {
 mixed := by kernel_rfl
 f168 := Tryz.func151.trans (congrArg some (by kernel_rfl))
 f240 := Tryz.func186.trans (congrArg some (by kernel_rfl))
 f242 := Tryz.func188.trans (congrArg some (by kernel_rfl))
 f276 := Tryz.func214.trans (congrArg some (by kernel_rfl))
 f278 := Tryz.func216.trans (congrArg some (by kernel_rfl))
 t0 := Tryz.underlying0
 a0 := Tryz.isAgg0
 z0 := Tryz.sizeOf0
 v0 := Tryz.zeroValue0
 t3 := Tryz.underlying3
 a3 := Tryz.isAgg3
 z3 := Tryz.sizeOf3
 v3 := Tryz.zeroValue3
 t4 := Tryz.underlying4
 a4 := Tryz.isAgg4
 z4 := Tryz.sizeOf4
 v4 := Tryz.zeroValue4
 t5 := Tryz.underlying5
 a5 := Tryz.isAgg5
 z5 := Tryz.sizeOf5
 v5 := Tryz.zeroValue5
 t9 := Tryz.underlying9
 a9 := Tryz.isAgg9
 z9 := Tryz.sizeOf9
 v9 := Tryz.zeroValue9
 t20 := Tryz.underlying20
 a20 := Tryz.isAgg20
 z20 := Tryz.sizeOf20
 v20 := Tryz.zeroValue20
 t21 := Tryz.underlying21
 a21 := Tryz.isAgg21
 z21 := Tryz.sizeOf21
 v21 := Tryz.zeroValue21
 t37 := Tryz.underlying156
 a37 := Tryz.isAgg156
 z37 := Tryz.sizeOf156
 v37 := Tryz.zeroValue156
 t46 := Tryz.underlying137
 a46 := Tryz.isAgg137
 z46 := Tryz.sizeOf137
 v46 := Tryz.zeroValue137
 t51 := Tryz.underlying184
 a51 := Tryz.isAgg184
 z51 := Tryz.sizeOf184
 v51 := Tryz.zeroValue184
 t70 := Tryz.underlying155
 a70 := Tryz.isAgg155
 z70 := Tryz.sizeOf155
 v70 := Tryz.zeroValue155
 t72 := Tryz.underlying158
 a72 := Tryz.isAgg158
 z72 := Tryz.sizeOf158
 v72 := Tryz.zeroValue158
 t75 := Tryz.underlying200
 a75 := Tryz.isAgg200
 z75 := Tryz.sizeOf200
 v75 := Tryz.zeroValue200
 t164 := Tryz.underlying270
 a164 := Tryz.isAgg270
 z164 := Tryz.sizeOf270
 v164 := Tryz.zeroValue270 }
theorem YtfcphagmjijmkaaGreatDoor.bwrLaysX : Builder.Extra Tryz.prog YtfcphagmjijmkaaGreatDoor.bwrLays_ren := {
 sizeBuilder := by kernel_rfl
 liesBuilder := by kernel_rfl
 t5 := Tryz.underlying5
 a5 := Tryz.isAgg5
 z5 := Tryz.sizeOf5
 v5 := Tryz.zeroValue5
 infoByte := by kernel_rfl
 cellsByte := by kernel_rfl
 sizeByte := by kernel_rfl
 neB5 := by decide }
open Go.RowKit in
theorem YtfcphagmjijmkaaGreatDoor.decR (s : ByteArray) (w : World) (hT : Lib.Utf8Tabs (Tryz.lays197_ren.g 3) (Tryz.lays197_ren.g 4) w) :
  Calls Tryz.prog 152 #[.string s] w fun e w' => e = .returned (.tuple #[.int .i32 (Lib.decodeGo s).1, .int .i64 (Lib.decodeGo s).2]) ∧ Below w.heap.size w w' := Tryz.utf8_DecodeRuneInString s w hT
open Go.RowKit in
theorem YtfcphagmjijmkaaGreatDoor.mulX (x y : Nat) (hx : x < 18446744073709551616) (hy : y < 18446744073709551616) (w : World) :
  Calls Tryz.prog 93 #[.int .u64 x, .int .u64 y] w fun e w' => e = .returned (.tuple #[.int .u64 ((x * y / 18446744073709551616 : Nat) : Int), .int .u64 ((x * y % 18446744073709551616 : Nat) : Int)]) ∧ w' = w := Any.bits_Mul Tryz.lays212 x y hx hy w
open Go.RowKit in
theorem YtfcphagmjijmkaaGreatDoor.cutP (s p : ByteArray) (w : World) :
  Calls Tryz.prog 154 #[.string s, .string p] w fun e w' => e = .returned (.tuple #[.string ⟨(Lib.trimPrefix s.data.toList p.data.toList).toArray⟩, .bool (Lib.hasPrefix s.data.toList p.data.toList)]) ∧ w' = w := Any.strings_CutPrefix Tryz.lays103 s p w
end Go.Proofs
namespace Go.Proofs.YtfcphagmjijmkaaGreatDoor
open Go.RowKit
set_option linter.unusedVariables false
set_option linter.unusedSimpArgs false
attribute [local go_sem] vwp vUpon_value vUpon_skip vUpon_enter vUpon_row
set_option maxHeartbeats 16000000
structure Ce where
 rune : Int
 col : Co
 back : Co
 wide : Bool
 tail : Bool
instance : Inhabited Ce := ⟨⟨0, ⟨0, 0, 0, 0⟩, ⟨0, 0, 0, 0⟩, false, false⟩⟩
def Ce.enc (c : Ce) : List Value := [.int .i32 c.rune] ++ c.col.enc ++ c.back.enc ++ [.bool c.wide, .bool c.tail]
theorem Ce.enc_len (c : Ce) : c.enc.length = 11 := rfl
def Ce.Wf (c : Ce) : Prop := True ∧ c.col.Wf ∧ c.back.Wf
def CeL (l : List Ce) : Prop := ∀ c ∈ l, c.Wf
def mayC (c : Ce) : Bool := validR c.rune && (if widR c.rune = 1 then !c.wide && !c.tail else if widR c.rune = 2 then c.wide != c.tail else false)
def CMem (w : World) (b p : Nat) (c : Ce) : Prop :=
 w.cell? ⟨b, p, none⟩ = some (.int .i32 c.rune) ∧ w.cell? ⟨b, p + 1, none⟩ = some (.int .u8 c.col.r) ∧ w.cell? ⟨b, p + 2, none⟩ = some (.int .u8 c.col.g) ∧ w.cell? ⟨b, p + 3, none⟩ = some (.int .u8 c.col.b) ∧ w.cell? ⟨b, p + 4, none⟩ = some (.int .u8 c.col.a) ∧ w.cell? ⟨b, p + 5, none⟩ = some (.int .u8 c.back.r) ∧ w.cell? ⟨b, p + 6, none⟩ = some (.int .u8 c.back.g) ∧ w.cell? ⟨b, p + 7, none⟩ = some (.int .u8 c.back.b) ∧ w.cell? ⟨b, p + 8, none⟩ = some (.int .u8 c.back.a) ∧ w.cell? ⟨b, p + 9, none⟩ = some (.bool c.wide) ∧ w.cell? ⟨b, p + 10, none⟩ = some (.bool c.tail)
theorem cmem_of {w : World} {b p : Nat} {c : Ce} (h : ∀ i u, c.enc[i]? = some u → w.cell? ⟨b, p + i, none⟩ = some u) : CMem w b p c :=
 ⟨h 0 _ rfl, h 1 _ rfl, h 2 _ rfl, h 3 _ rfl, h 4 _ rfl, h 5 _ rfl, h 6 _ rfl, h 7 _ rfl, h 8 _ rfl, h 9 _ rfl, h 10 _ rfl⟩
theorem CMem.below {w w' : World} {b p B : Nat} {c : Ce} (h : CMem w b p c) (hb : Below B w w') (hB : b < B) : CMem w' b p c := by
 obtain ⟨h0, h1, h2, h3, h4, h5, h6, h7, h8, h9, h10⟩ := h
 have k : ∀ o v, w.cell? ⟨b, o, none⟩ = some v → w'.cell? ⟨b, o, none⟩ = some v := fun o v e => (hb.cell (p := ⟨b, o, none⟩) hB).trans e
 exact ⟨k _ _ h0, k _ _ h1, k _ _ h2, k _ _ h3, k _ _ h4, k _ _ h5, k _ _ h6, k _ _ h7, k _ _ h8, k _ _ h9, k _ _ h10⟩
theorem row_ce {B : Nat} {w : World} {v : Value} {l : List Ce} (h : Row B 11 Ce.enc w v l) (h0 : 0 < l.length) :
  ∃ b o cap, v = .slice (some ⟨b, o, none⟩) l.length cap ∧ b < B ∧ l.length ≤ cap ∧ cap ≤ maxLen ∧ ∀ (j : Nat) c, l[j]? = some c → CMem w b (o + j * 11) c := by
 obtain ⟨b, o, cap, hv, hb, hc, hm, hx⟩ := h.open_ h0; exact ⟨b, o, cap, hv, hb, hc, hm, fun j c hj => cmem_of (fun i u hu => hx j c hj i u hu)⟩
theorem cmay_any (c : Ce) (w : World) : Calls Tryz.prog 138 #[.agg #[.int .i32 (c).rune, .int .u8 (c).col.r, .int .u8 (c).col.g, .int .u8 (c).col.b, .int .u8 (c).col.a, .int .u8 (c).back.r, .int .u8 (c).back.g, .int .u8 (c).back.b, .int .u8 (c).back.a, .bool (c).wide, .bool (c).tail]] w fun e w' => e = .returned (.bool (mayC c)) ∧ Below w.heap.size w w' := by
 obtain ⟨R, hR⟩ := exx (mayC c); rw [hR]; obtain ⟨ru, ⟨c1, c2, c3, c4⟩, ⟨d1, d2, d3, d4⟩, wi, ta⟩ := c; unfold mayC at hR; dsimp only at hR ⊢; have V := validRune_any ru; have D := width_any ru; have bd := widR_bd ru
 go_enter Tryz.func138, Tryz.ntmps138
 cases hv : validR ru
 ·rw [hv] at V hR
  simp only [Bool.false_and] at hR; subst hR; replace V := hdh V
  go_wp2_with (go_at_call 140; (with_reducible refine cmm (V.out _) fun w1 hb1 => ?_); obtain ⟨hc1, hf1, hz1⟩ := bzz hb1; (try simp at hz1); (try have lt1 : w.heap.size < w1.heap.size := (by omega)))
  go_ret; exact ⟨rfl, belt⟩
 ·rw [hv] at V hR
  simp only [Bool.true_and] at hR; obtain ⟨W, hW⟩ := exx (widR ru); rw [hW] at D hR bd; clear hW; replace V := hdh V; replace D := hdh D
  obtain rfl | rfl | rfl : W = 0 ∨ W = 1 ∨ W = 2 := by omega
  ·simp at hR; subst hR
   go_wp2_with (first | (go_at_call 140; (with_reducible refine cmm (V.out _) fun w1 hb1 => ?_); obtain ⟨hc1, hf1, hz1⟩ := bzz hb1; (try simp at hz1); (try have lt1 : w.heap.size < w1.heap.size := (by omega))) | (go_at_call 99; (with_reducible refine cmm (D.out _) fun w2 hb2 => ?_); obtain ⟨hc2, hf2, hz2⟩ := bzz hb2; (try simp at hz2); (try have lt2 : w.heap.size < w2.heap.size := (by omega))))
   go_ret; exact ⟨rfl, belt⟩
  ·cases wi
   ·cases ta
    ·simp at hR; subst hR
     go_wp2_with (first | (go_at_call 140; (with_reducible refine cmm (V.out _) fun w1 hb1 => ?_); obtain ⟨hc1, hf1, hz1⟩ := bzz hb1; (try simp at hz1); (try have lt1 : w.heap.size < w1.heap.size := (by omega))) | (go_at_call 99; (with_reducible refine cmm (D.out _) fun w2 hb2 => ?_); obtain ⟨hc2, hf2, hz2⟩ := bzz hb2; (try simp at hz2); (try have lt2 : w.heap.size < w2.heap.size := (by omega))))
     go_ret; exact ⟨rfl, belt⟩
    ·simp at hR; subst hR
     go_wp2_with (first | (go_at_call 140; (with_reducible refine cmm (V.out _) fun w1 hb1 => ?_); obtain ⟨hc1, hf1, hz1⟩ := bzz hb1; (try simp at hz1); (try have lt1 : w.heap.size < w1.heap.size := (by omega))) | (go_at_call 99; (with_reducible refine cmm (D.out _) fun w2 hb2 => ?_); obtain ⟨hc2, hf2, hz2⟩ := bzz hb2; (try simp at hz2); (try have lt2 : w.heap.size < w2.heap.size := (by omega))))
     go_ret; exact ⟨rfl, belt⟩
   ·simp at hR; subst hR
    go_wp2_with (first | (go_at_call 140; (with_reducible refine cmm (V.out _) fun w1 hb1 => ?_); obtain ⟨hc1, hf1, hz1⟩ := bzz hb1; (try simp at hz1); (try have lt1 : w.heap.size < w1.heap.size := (by omega))) | (go_at_call 99; (with_reducible refine cmm (D.out _) fun w2 hb2 => ?_); obtain ⟨hc2, hf2, hz2⟩ := bzz hb2; (try simp at hz2); (try have lt2 : w.heap.size < w2.heap.size := (by omega))))
    go_ret; exact ⟨rfl, belt⟩
  ·have e : (wi != ta) = R := by simpa using hR
   clear hR
   cases wi <;> cases ta <;> simp at e <;> subst e
   ·go_wp2_with (first | (go_at_call 140; (with_reducible refine cmm (V.out _) fun w1 hb1 => ?_); obtain ⟨hc1, hf1, hz1⟩ := bzz hb1; (try simp at hz1); (try have lt1 : w.heap.size < w1.heap.size := (by omega))) | (go_at_call 99; (with_reducible refine cmm (D.out _) fun w2 hb2 => ?_); obtain ⟨hc2, hf2, hz2⟩ := bzz hb2; (try simp at hz2); (try have lt2 : w.heap.size < w2.heap.size := (by omega))))
    go_ret; exact ⟨rfl, belt⟩
   ·go_wp2_with (first | (go_at_call 140; (with_reducible refine cmm (V.out _) fun w1 hb1 => ?_); obtain ⟨hc1, hf1, hz1⟩ := bzz hb1; (try simp at hz1); (try have lt1 : w.heap.size < w1.heap.size := (by omega))) | (go_at_call 99; (with_reducible refine cmm (D.out _) fun w2 hb2 => ?_); obtain ⟨hc2, hf2, hz2⟩ := bzz hb2; (try simp at hz2); (try have lt2 : w.heap.size < w2.heap.size := (by omega))))
    go_ret; exact ⟨rfl, belt⟩
   ·go_wp2_with (first | (go_at_call 140; (with_reducible refine cmm (V.out _) fun w1 hb1 => ?_); obtain ⟨hc1, hf1, hz1⟩ := bzz hb1; (try simp at hz1); (try have lt1 : w.heap.size < w1.heap.size := (by omega))) | (go_at_call 99; (with_reducible refine cmm (D.out _) fun w2 hb2 => ?_); obtain ⟨hc2, hf2, hz2⟩ := bzz hb2; (try simp at hz2); (try have lt2 : w.heap.size < w2.heap.size := (by omega))))
    go_ret; exact ⟨rfl, belt⟩
   ·go_wp2_with (first | (go_at_call 140; (with_reducible refine cmm (V.out _) fun w1 hb1 => ?_); obtain ⟨hc1, hf1, hz1⟩ := bzz hb1; (try simp at hz1); (try have lt1 : w.heap.size < w1.heap.size := (by omega))) | (go_at_call 99; (with_reducible refine cmm (D.out _) fun w2 hb2 => ?_); obtain ⟨hc2, hf2, hz2⟩ := bzz hb2; (try simp at hz2); (try have lt2 : w.heap.size < w2.heap.size := (by omega))))
    go_ret; exact ⟨rfl, belt⟩
/-! ### rows of cells -/
theorem allC_step {l : List Ce} {k : Nat} {c : Ce} (h : l[k]? = some c) : (l.drop k).all mayC = (mayC c && (l.drop (k + 1)).all mayC) := by
 rw [drop_get h]; rfl
theorem call_any (l : List Ce) (v : Value) (w : World) (hl : Row w.heap.size 11 Ce.enc w v l) :
  Calls Tryz.prog 94 #[v] w fun e w' => e = .returned (.bool (l.all mayC)) ∧ Below w.heap.size w w' := by
 obtain ⟨s0, cap, rfl, hmax⟩ := hl.shape
 have hopen := fun h0 => row_ce hl h0
 obtain ⟨n, en⟩ := exx (l.length); rw [en] at hopen hmax ⊢; obtain ⟨R, hR⟩ := exx (l.all mayC); rw [hR]; have hgo := hdh (show (l.drop 0).all mayC = R from hR); replace hopen := hdh hopen; replace en := hdh en; unfold maxLen at hmax; clear hl hR
 go_enter Tryz.func94, Tryz.ntmps94
 go_wp2
 go_loopw [7] (fun iv wr => ∃ k : Nat, k ≤ n ∧ iv = .int .i64 k ∧ Hid ((l.drop k).all mayC = R) ∧ Below w.heap.size w wr) (fun iv _ => n - (intOf iv).toNat)
 case atStart => exact ⟨0, Nat.zero_le _, rfl, hgo, Below.refl _ _⟩
 case round =>
  obtain ⟨k, hk, rfl, hgo, hbr⟩ := hrel; have zr := hbr.size
  by_cases hkn : k < n
  ·obtain ⟨b, o, cap', e, hb, _, _, hel⟩ := hopen.out (by omega)
   simp at e
   obtain ⟨rfl, rfl⟩ := e; obtain ⟨s, hs⟩ := get_at en.out hkn; obtain ⟨g0, g1, g2, g3, g4, g5, g6, g7, g8, g9, g10⟩ := CMem.below (hel k s hs) hbr hb; have A := cmay_any s; have hg := hgo.out; rw [allC_step hs] at hg
   have hkk : (k : Int) < n := by omega
   have yb : b < wr.heap.size := by omega
   clear hel hs; generalize mayC s = r at A hg; replace A := hdh A
   cases r
   ·rw [Bool.false_and] at hg
    subst hg
    go_wp2_with (go_at_call 138; (with_reducible refine cmm (A.out _) fun w1 hb1 => ?_); obtain ⟨hc1, hf1, hz1⟩ := bzz hb1; (try simp at hz1); (try have lt1 : w.heap.size < w1.heap.size := (by omega)))
    go_ret; exact ⟨rfl, belt⟩
   ·rw [Bool.true_and] at hg
    replace hg := hdh hg
    go_wp2_with (go_at_call 138; (with_reducible refine cmm (A.out _) fun w1 hb1 => ?_); obtain ⟨hc1, hf1, hz1⟩ := bzz hb1; (try simp at hz1); (try have lt1 : w.heap.size < w1.heap.size := (by omega)))
    go_roundw
    case rel => exact ⟨k + 1, by omega, by go_num, hg, belt⟩
    case measure => simp [intOf]; omega
  ·obtain rfl : k = n := by omega
   have hg := hgo.out; rw [List.drop_eq_nil_of_le (by have := en.out; omega)] at hg; have hg : true = R := hg; subst hg; go_wp2; go_ret; exact ⟨rfl, hbr⟩
def fitsS (wd ht : Int) : Bool := decide (0 ≤ wd) && decide (0 ≤ ht) && decide (wd ≤ 16384) && decide (ht ≤ 16384) && decide (wd * ht ≤ 262144)
theorem fitsS_true {wd ht : Int} : fitsS wd ht = true ↔ (0 ≤ wd ∧ 0 ≤ ht ∧ wd ≤ 16384 ∧ ht ≤ 16384 ∧ wd * ht ≤ 262144) := by
 unfold fitsS; simp only [Bool.and_eq_true, decide_eq_true_eq]
 constructor
 ·rintro ⟨⟨⟨⟨a, b⟩, c⟩, d⟩, e⟩; exact ⟨a, b, c, d, e⟩
 ·rintro ⟨a, b, c, d, e⟩; exact ⟨⟨⟨⟨a, b⟩, c⟩, d⟩, e⟩
theorem mul_bd {wd ht : Int} (h0 : 0 ≤ wd) (h1 : 0 ≤ ht) (h2 : wd ≤ 16384) (h3 : ht ≤ 16384) : 0 ≤ wd * ht ∧ wd * ht ≤ 268435456 :=
 ⟨Int.mul_nonneg h0 h1, Int.le_trans (Int.mul_le_mul h2 h3 h1 (by omega)) (by decide)⟩
theorem cfits_any (wd ht : Int) (w : World) (h1 : I64 wd) (h2 : I64 ht) : Calls Tryz.prog 47 #[.agg #[.int .i64 (wd), .int .i64 (ht)]] w fun e w' => e = .returned (.bool (fitsS wd ht)) ∧ Below w.heap.size w w' := by
 obtain ⟨R, hR⟩ := exx (fitsS wd ht); rw [hR]; obtain ⟨P, hP⟩ := exx (wd * ht)
 have bd : 0 ≤ wd → 0 ≤ ht → wd ≤ 16384 → ht ≤ 16384 → 0 ≤ P ∧ P ≤ 268435456 := fun a b c d => hP ▸ mul_bd a b c d
 unfold fitsS at hR; rw [hP] at hR
 go_enter Tryz.func47, Tryz.ntmps47
 by_cases q : wd < ht
 ·have q2 : wd ≤ ht := by omega
  have q3 : max wd ht = ht := by omega
  have q4 : min wd ht = wd := by omega
  by_cases c1 : 0 ≤ wd
  ·by_cases c2 : ht ≤ 16384
   ·have a1 : 0 ≤ wd := by omega
    have a2 : 0 ≤ ht := by omega
    have a3 : wd ≤ 16384 := by omega
    have a4 : ht ≤ 16384 := by omega
    have bd := bd a1 a2 a3 a4
    by_cases c3 : P ≤ 262144
    ·have : R = true := by rw [← hR]; simp [a1, a2, a3, a4, c3]
     subst this; clear hR; go_wp2; go_ret; exact ⟨rfl, belt⟩
    ·have : R = false := by rw [← hR]; simp [c3]
     subst this; clear hR; go_wp2; go_ret; exact ⟨rfl, belt⟩
   ·have : R = false := by rw [← hR]; simp [c2]
    subst this; clear hR bd; go_wp2; go_ret; exact ⟨rfl, belt⟩
  ·have : R = false := by rw [← hR]; simp [c1]
   subst this; clear hR bd; go_wp2; go_ret; exact ⟨rfl, belt⟩
 ·by_cases qq : wd = ht
  ·have q2 : ht ≤ wd := by omega
   have q5 : wd ≤ ht := by omega
   clear qq
   have q3 : max wd ht = wd := by omega
   have q4 : min wd ht = ht := by omega
   by_cases c1 : 0 ≤ ht
   ·by_cases c2 : wd ≤ 16384
    ·have a1 : 0 ≤ wd := by omega
     have a2 : 0 ≤ ht := by omega
     have a3 : wd ≤ 16384 := by omega
     have a4 : ht ≤ 16384 := by omega
     have bd := bd a1 a2 a3 a4
     by_cases c3 : P ≤ 262144
     ·have : R = true := by rw [← hR]; simp [a1, a2, a3, a4, c3]
      subst this; clear hR; go_wp2; go_ret; exact ⟨rfl, belt⟩
     ·have : R = false := by rw [← hR]; simp [c3]
      subst this; clear hR; go_wp2; go_ret; exact ⟨rfl, belt⟩
    ·have : R = false := by rw [← hR]; simp [c2]
     subst this; clear hR bd; go_wp2; go_ret; exact ⟨rfl, belt⟩
   ·have : R = false := by rw [← hR]; simp [c1]
    subst this; clear hR bd; go_wp2; go_ret; exact ⟨rfl, belt⟩
  ·have q2 : ht ≤ wd := by omega
   have q5 : ht < wd := by omega
   have q6 : ¬ wd ≤ ht := by omega
   have q3 : max wd ht = wd := by omega
   have q4 : min wd ht = ht := by omega
   by_cases c1 : 0 ≤ ht
   ·by_cases c2 : wd ≤ 16384
    ·have a1 : 0 ≤ wd := by omega
     have a2 : 0 ≤ ht := by omega
     have a3 : wd ≤ 16384 := by omega
     have a4 : ht ≤ 16384 := by omega
     have bd := bd a1 a2 a3 a4
     by_cases c3 : P ≤ 262144
     ·have : R = true := by rw [← hR]; simp [a1, a2, a3, a4, c3]
      subst this; clear hR; go_wp2; go_ret; exact ⟨rfl, belt⟩
     ·have : R = false := by rw [← hR]; simp [c3]
      subst this; clear hR; go_wp2; go_ret; exact ⟨rfl, belt⟩
    ·have : R = false := by rw [← hR]; simp [c2]
     subst this; clear hR bd; go_wp2; go_ret; exact ⟨rfl, belt⟩
   ·have : R = false := by rw [← hR]; simp [c1]
    subst this; clear hR bd; go_wp2; go_ret; exact ⟨rfl, belt⟩
def chkS (wd ht : Int) (l : List Ce) : Int := if fitsS wd ht && decide ((l.length : Int) = wd * ht) && l.all mayC then 0 else 150
theorem ccheck_any (wd ht : Int) (l : List Ce) (v : Value) (w : World) (h1 : I64 wd) (h2 : I64 ht) (hl : Row w.heap.size 11 Ce.enc w v l) : Calls Tryz.prog 49 #[.agg #[.int .i64 (wd), .int .i64 (ht), v]] w fun e w' => e = .returned (.int .i64 (chkS wd ht l)) ∧ Below w.heap.size w w' := by
 obtain ⟨R, hR⟩ := exx (chkS wd ht l); rw [hR]; unfold chkS at hR; have X := cfits_any wd ht; obtain ⟨P, hP⟩ := exx (wd * ht); rw [hP] at hR; obtain ⟨s0, cap, rfl, hmax⟩ := hl.shape; obtain ⟨n, en⟩ := exx (l.length); rw [en] at hR hmax; unfold maxLen at hmax
 have A := fun (w1 : World) (hb : Below w.heap.size w w1) => call_any l _ w1 ((hl.below hb).mono hb.size)
 rw [en] at A
 go_enter Tryz.func49, Tryz.ntmps49
 rw [en]
 cases hf : fitsS wd ht
 ·rw [hf] at X hR
  have : R = 150 := by rw [← hR]; simp
  subst this; replace X := hdh X; replace A := hdh A
  go_wp2_with (go_at_call 47; (with_reducible refine cmm (X.out _ ‹_› ‹_›) fun w1 hb1 => ?_); obtain ⟨hc1, hf1, hz1⟩ := bzz hb1; (try simp at hz1); (try have lt1 : w.heap.size < w1.heap.size := (by omega)))
  go_ret; exact ⟨rfl, belt⟩
 ·rw [hf] at X hR
  obtain ⟨a1, a2, a3, a4, a5⟩ := fitsS_true.1 hf; have bd := mul_bd a1 a2 a3 a4; rw [hP] at bd a5; replace X := hdh X
  by_cases c : (n : Int) = P
  ·cases ha : l.all mayC
   ·rw [ha] at A hR
    have : R = 150 := by rw [← hR]; simp
    subst this; replace A := hdh A
    have cb : ((n : Int) != P) = false := by simp [c]
    go_wp2_with (first | (go_at_call 47; (with_reducible refine cmm (X.out _ ‹_› ‹_›) fun w1 hb1 => ?_); obtain ⟨hc1, hf1, hz1⟩ := bzz hb1; (try simp at hz1); (try have lt1 : w.heap.size < w1.heap.size := (by omega))) | (go_at_call 94; (with_reducible refine cmm (A.out _ belt) fun w2 hb2 => ?_); obtain ⟨hc2, hf2, hz2⟩ := bzz hb2; (try simp at hz2); (try have lt2 : w.heap.size < w2.heap.size := (by omega))))
    go_ret; exact ⟨rfl, belt⟩
   ·rw [ha] at A hR
    have : R = 0 := by rw [← hR]; simp [c]
    subst this; replace A := hdh A
    have cb : ((n : Int) != P) = false := by simp [c]
    go_wp2_with (first | (go_at_call 47; (with_reducible refine cmm (X.out _ ‹_› ‹_›) fun w1 hb1 => ?_); obtain ⟨hc1, hf1, hz1⟩ := bzz hb1; (try simp at hz1); (try have lt1 : w.heap.size < w1.heap.size := (by omega))) | (go_at_call 94; (with_reducible refine cmm (A.out _ belt) fun w2 hb2 => ?_); obtain ⟨hc2, hf2, hz2⟩ := bzz hb2; (try simp at hz2); (try have lt2 : w.heap.size < w2.heap.size := (by omega))))
    go_ret; exact ⟨rfl, belt⟩
  ·have : R = 150 := by rw [← hR]; simp [c]
   subst this; replace A := hdh A
   have cb : ((n : Int) != P) = true := by simp [c]
   have cb2 : ((n : Int) == P) = false := by simp [c]
   go_wp2_with (first | (go_at_call 47; (with_reducible refine cmm (X.out _ ‹_› ‹_›) fun w1 hb1 => ?_); obtain ⟨hc1, hf1, hz1⟩ := bzz hb1; (try simp at hz1); (try have lt1 : w.heap.size < w1.heap.size := (by omega))) | (go_at_call 94; (with_reducible refine cmm (A.out _ belt) fun w2 hb2 => ?_); obtain ⟨hc2, hf2, hz2⟩ := bzz hb2; (try simp at hz2); (try have lt2 : w.heap.size < w2.heap.size := (by omega))))
   go_ret; exact ⟨rfl, belt⟩
theorem Ce.enc_one (c : Ce) : ∀ u ∈ c.enc, u.oneCell' = true := by
 intro u hu
 simp only [Ce.enc, Co.enc, List.mem_append, List.mem_cons, List.not_mem_nil, or_false] at hu
 rcases hu with ((rfl | rfl | rfl | rfl | rfl) | rfl | rfl | rfl | rfl) | rfl | rfl <;> rfl
def OwnsC (base : Nat) (w : World) (v : Value) (l : List Ce) : Prop := w.ownsRow base 47 11 v l.length (l.flatMap Ce.enc)
theorem OwnsC.row {base B : Nat} {w : World} {v : Value} {l : List Ce} (h : OwnsC base w v l) (hB : w.heap.size ≤ B) : Row B 11 Ce.enc w v l := Row.own Ce.enc_len h hB (by omega)
theorem OwnsC.below {base B : Nat} {w w' : World} {v : Value} {l : List Ce} (h : OwnsC base w v l) (hb : Below B w w') (hB : w.heap.size ≤ B) : OwnsC base w' v l := ownsRow_below h hb hB
theorem OwnsC.nil (base : Nat) (w : World) : OwnsC base w (.slice none 0 0) [] := World.ownsRow_nil _ _ _ _
theorem infoCe : (Tryz.prog.info? 47).map (fun i => (i.zero, i.size, i.bytes)) = some (some (.agg #[.int .i32 0, .int .u8 0, .int .u8 0, .int .u8 0, .int .u8 0, .int .u8 0, .int .u8 0, .int .u8 0, .int .u8 0, .bool false, .bool false]), 11, 16) := by kernel_rfl
theorem Blk.put11 {w : World} {b : Nat} {cs : List Value} {e : TypeId} (h : Blk w b cs e) (hl : cs.length = 11) (v0 v1 v2 v3 v4 v5 v6 v7 v8 v9 v10 : Value) :
  Blk ((((((((((((w).setCell ⟨b, 0, none⟩ v0).setCell ⟨b, 1, none⟩ v1).setCell ⟨b, 2, none⟩ v2).setCell ⟨b, 3, none⟩ v3).setCell ⟨b, 4, none⟩ v4).setCell ⟨b, 5, none⟩ v5).setCell ⟨b, 6, none⟩ v6).setCell ⟨b, 7, none⟩ v7).setCell ⟨b, 8, none⟩ v8).setCell ⟨b, 9, none⟩ v9).setCell ⟨b, 10, none⟩ v10) b [v0, v1, v2, v3, v4, v5, v6, v7, v8, v9, v10] e := by
 have h2 := ((((((((((h.set 0 v0).set 1 v1).set 2 v2).set 3 v3).set 4 v4).set 5 v5).set 6 v6).set 7 v7).set 8 v8).set 9 v9).set 10 v10
 match cs, hl with
 | [a0, a1, a2, a3, a4, a5, a6, a7, a8, a9, a10], _ => exact h2
theorem put11_below {w0 w : World} {B b : Nat} (h : Below B w0 w) (hb : B ≤ b) (v0 v1 v2 v3 v4 v5 v6 v7 v8 v9 v10 : Value) : Below B w0 ((((((((((((w).setCell ⟨b, 0, none⟩ v0).setCell ⟨b, 1, none⟩ v1).setCell ⟨b, 2, none⟩ v2).setCell ⟨b, 3, none⟩ v3).setCell ⟨b, 4, none⟩ v4).setCell ⟨b, 5, none⟩ v5).setCell ⟨b, 6, none⟩ v6).setCell ⟨b, 7, none⟩ v7).setCell ⟨b, 8, none⟩ v8).setCell ⟨b, 9, none⟩ v9).setCell ⟨b, 10, none⟩ v10) :=
 ((((((((((h.setCell hb v0).setCell hb v1).setCell hb v2).setCell hb v3).setCell hb v4).setCell hb v5).setCell hb v6).setCell hb v7).setCell hb v8).setCell hb v9).setCell hb v10
/-! ### places -/
def plcS (wd ht x y : Int) : Bool := decide (0 ≤ x) && decide (0 ≤ y) && decide (x < wd) && decide (y < ht)
theorem plcS_true {wd ht x y : Int} : plcS wd ht x y = true ↔ (0 ≤ x ∧ 0 ≤ y ∧ x < wd ∧ y < ht) := by
 unfold plcS; simp only [Bool.and_eq_true, decide_eq_true_eq]
 constructor
 ·rintro ⟨⟨⟨a, b⟩, c⟩, d⟩; exact ⟨a, b, c, d⟩
 ·rintro ⟨a, b, c, d⟩; exact ⟨⟨⟨a, b⟩, c⟩, d⟩
def idxS (wd ht x y : Int) : Int := if plcS wd ht x y then y * wd + x else -1
theorem row_end {wd ht y : Int} (h0 : 0 ≤ wd) (h1 : 0 ≤ y) (h2 : y < ht) : 0 ≤ y * wd ∧ y * wd + wd ≤ wd * ht := by
 have : (y + 1) * wd ≤ ht * wd := Int.mul_le_mul_of_nonneg_right (by omega) h0; rw [Int.add_mul, Int.one_mul, Int.mul_comm ht] at this; exact ⟨Int.mul_nonneg h1 h0, this⟩
theorem cindex_any (wd ht x y : Int) (v : Value) (w : World) (hfit : fitsS wd ht = true) : Calls Tryz.prog 153 #[.agg #[.int .i64 (wd), .int .i64 (ht), v], .agg #[.int .i64 (x), .int .i64 (y)]] w fun e w' => e = .returned (.int .i64 (idxS wd ht x y)) ∧ Below w.heap.size w w' := by
 obtain ⟨R, hR⟩ := exx (idxS wd ht x y); rw [hR]; unfold idxS plcS at hR; obtain ⟨f1, f2, f3, f4, f5⟩ := fitsS_true.1 hfit; clear hfit
 go_enter Tryz.func153, Tryz.ntmps153
 by_cases a1 : x < 0
 ·have : R = -1 := by rw [← hR]; simp; omega
  subst this; clear hR; go_wp2; go_ret; exact ⟨rfl, belt⟩
 ·by_cases a3 : x ≥ wd
  ·have : R = -1 := by rw [← hR]; simp; omega
   subst this; clear hR; go_wp2; go_ret; exact ⟨rfl, belt⟩
  ·by_cases a2 : y < 0
   ·have : R = -1 := by rw [← hR]; simp; omega
    subst this; clear hR; go_wp2; go_ret; exact ⟨rfl, belt⟩
   ·by_cases a4 : y ≥ ht
    ·have : R = -1 := by rw [← hR]; simp; omega
     subst this; clear hR; go_wp2; go_ret; exact ⟨rfl, belt⟩
    ·have hR : y * wd + x = R := by rw [← hR]; simp; omega
     obtain ⟨e1, e2⟩ := row_end (wd := wd) (ht := ht) (y := y) f1 (by omega) (by omega); obtain ⟨P, hP⟩ := exx (y * wd); rw [hP] at hR e1 e2; obtain ⟨Z, hZ⟩ := exx (wd * ht); rw [hZ] at e2 f5; clear hZ; go_wp2; go_ret; exact ⟨rfl, belt⟩
section
def Ce.eqb (a b : Ce) : Bool := (a.rune == b.rune) && (a.col.eqb b.col && (a.back.eqb b.back && ((a.wide == b.wide) && (a.tail == b.tail))))
theorem Ce.eqb_iff {a b : Ce} : a.eqb b = true ↔ a = b := by
 obtain ⟨r, ⟨c0, c1, c2, c3⟩, ⟨d0, d1, d2, d3⟩, x, y⟩ := a; obtain ⟨r', ⟨c0', c1', c2', c3'⟩, ⟨d0', d1', d2', d3'⟩, x', y'⟩ := b
 simp [Ce.eqb, Co.eqb, eq4]
theorem eq_cell (d : Nat) (w : World) (s t : Ce) : (Op.equalIn (d + 3) 47 (.agg #[.int .i32 (s).rune, .int .u8 (s).col.r, .int .u8 (s).col.g, .int .u8 (s).col.b, .int .u8 (s).col.a, .int .u8 (s).back.r, .int .u8 (s).back.g, .int .u8 (s).back.b, .int .u8 (s).back.a, .bool (s).wide, .bool (s).tail]) (.agg #[.int .i32 (t).rune, .int .u8 (t).col.r, .int .u8 (t).col.g, .int .u8 (t).col.b, .int .u8 (t).col.a, .int .u8 (t).back.r, .int .u8 (t).back.g, .int .u8 (t).back.b, .int .u8 (t).back.a, .bool (t).wide, .bool (t).tail])).run Tryz.prog w = .ok (s.eqb t) w := by
 unfold Ce.eqb Co.eqb; have A := Tryz.underlying47; have K := Tryz.underlying21; have I := Tryz.underlying4; have C := Tryz.underlying34; rw [run_equalIn_agg w (d + 2) _ _ _ (by simp [Program.fieldsOf, A]) (by kernel_rfl)]; simp only [Program.fieldsOf, A]
 have z2 : Tryz.prog.cellsOf 34 = 4 := by kernel_rfl
 have y2 : Tryz.t34.size = 4 := by kernel_rfl
 have E0 : ∀ w a b, (Op.equalIn (d + 2) 21 (.int .i32 a) (.int .i32 b)).run Tryz.prog w = .ok (a == b) w := fun w a b => run_equalIn_int w (d + 1) _ _ _ a b K
 have E1 : ∀ w a b, (Op.equalIn (d + 2) 4 (.bool a) (.bool b)).run Tryz.prog w = .ok (a == b) w := fun w a b => run_equalIn_bool w (d + 1) _ a b I
 have E4 := eq_colour d; generalize hb0 : (s.rune == t.rune) = b0; generalize hb2 : eq4 s.col.r s.col.g s.col.b s.col.a t.col.r t.col.g t.col.b t.col.a = b2; generalize hb3 : eq4 s.back.r s.back.g s.back.b s.back.a t.back.r t.back.g t.back.b t.back.a = b3; generalize hb4 : (s.wide == t.wide) = b4; generalize hb5 : (s.tail == t.tail) = b5; simp only [Op.eqFields, Sem.run_bind, Sem.run_ite, part, isAgg, run_underlying K, run_underlying I, run_underlying C]
 simp [sizeOf, z2, y2, E0, E1, E4, hb0, hb2, hb3, hb4, hb5]
 cases b0 <;> cases b2 <;> cases b3 <;> cases b4 <;> cases b5 <;> simp
theorem neq_cell (w : World) (r c0 c1 c2 c3 d0 d1 d2 d3 r' c0' c1' c2' c3' d0' d1' d2' d3' : Int) (x y x' y' : Bool) :
  (binOp .neq 47 (.agg #[.int .i32 r, .int .u8 c0, .int .u8 c1, .int .u8 c2, .int .u8 c3, .int .u8 d0, .int .u8 d1, .int .u8 d2, .int .u8 d3, .bool x, .bool y]) (.agg #[.int .i32 r', .int .u8 c0', .int .u8 c1', .int .u8 c2', .int .u8 c3', .int .u8 d0', .int .u8 d1', .int .u8 d2', .int .u8 d3', .bool x', .bool y'])).run Tryz.prog w
   = .ok (.bool (!Ce.eqb ⟨r, ⟨c0, c1, c2, c3⟩, ⟨d0, d1, d2, d3⟩, x, y⟩ ⟨r', ⟨c0', c1', c2', c3'⟩, ⟨d0', d1', d2', d3'⟩, x', y'⟩)) w := by
 rw [run_neq_struct]; have h := eq_cell 9997 w ⟨r, ⟨c0, c1, c2, c3⟩, ⟨d0, d1, d2, d3⟩, x, y⟩ ⟨r', ⟨c0', c1', c2', c3'⟩, ⟨d0', d1', d2', d3'⟩, x', y'⟩; simp only at h; rw [h]
 rfl
theorem neq_size (w : World) (a b a' b' : Int) : (binOp .neq 24 (.agg #[.int .i64 a, .int .i64 b]) (.agg #[.int .i64 a', .int .i64 b'])).run Tryz.prog w = .ok (.bool (!((a == a') && (b == b')))) w := by
 rw [run_neq_struct]; have h := eq_size 9998 w a b a' b'; rw [h]
 rfl
attribute [local go_sem high] neq_cell neq_size
def sameC : List Ce → List Ce → Bool
 | [], [] => true
 | x :: xs, y :: ys => x.eqb y && sameC xs ys
 | _, _ => false
theorem sameC_iff : ∀ {xs ys : List Ce}, sameC xs ys = true ↔ xs = ys
 | [], [] => by simp [sameC]
 | [], _ :: _ => by simp [sameC]
 | _ :: _, [] => by simp [sameC]
 | x :: xs, y :: ys => by
  unfold sameC; rw [Bool.and_eq_true, Ce.eqb_iff, sameC_iff, List.cons.injEq]
theorem sameC_len {xs ys : List Ce} (h : xs.length ≠ ys.length) : sameC xs ys = false := by
 cases hs : sameC xs ys
 ·rfl
 ·rw [sameC_iff] at hs; exact absurd (by rw [hs]) h
theorem sameC_step {xs ys : List Ce} {k : Nat} {x y : Ce} (hx : xs[k]? = some x) (hy : ys[k]? = some y) : sameC (xs.drop k) (ys.drop k) = (x.eqb y && sameC (xs.drop (k + 1)) (ys.drop (k + 1))) := by
 rw [drop_get hx, drop_get hy]; rfl
def samS (a b : Int) (xs : List Ce) (a' b' : Int) (ys : List Ce) : Bool := ((a == a') && (b == b')) && sameC xs ys
theorem samS_iff {a b a' b' : Int} {xs ys : List Ce} : samS a b xs a' b' ys = true ↔ a = a' ∧ b = b' ∧ xs = ys := by
 unfold samS; rw [Bool.and_eq_true, Bool.and_eq_true, sameC_iff, beq_iff_eq, beq_iff_eq, and_assoc]
set_option maxRecDepth 100000 in
theorem csame_any (a b a' b' : Int) (xs ys : List Ce) (v1 v2 : Value) (w : World) (h1 : Row w.heap.size 11 Ce.enc w v1 xs) (h2 : Row w.heap.size 11 Ce.enc w v2 ys) : Calls Tryz.prog 16 #[.agg #[.int .i64 (a), .int .i64 (b), v1], .agg #[.int .i64 (a'), .int .i64 (b'), v2]] w fun e w' => e = .returned (.bool (samS a b xs a' b' ys)) ∧ Below w.heap.size w w' := by
 obtain ⟨s1, c1, rfl, hmax1⟩ := h1.shape; obtain ⟨s2, c2, rfl, hmax2⟩ := h2.shape
 have o1 := fun h0 => row_ce h1 h0
 have o2 := fun h0 => row_ce h2 h0
 clear h1 h2; obtain ⟨n, en⟩ := exx (xs.length); obtain ⟨m, em⟩ := exx (ys.length); obtain ⟨res, hres⟩ := exx (samS a b xs a' b' ys); rw [hres]; unfold samS at hres; obtain ⟨sz, hsz⟩ := exx (((a == a') && (b == b'))); rw [hsz] at hres; rw [en] at o1 hmax1 ⊢; rw [em] at o2 hmax2 ⊢; unfold maxLen at hmax1 hmax2
 cases sz
 ·rw [Bool.false_and] at hres
  subst hres; clear o1 o2
  go_enter Tryz.func16, Tryz.ntmps16
  go_wp2; go_ret; exact ⟨rfl, belt⟩
 rw [Bool.true_and] at hres
 by_cases hnm : n = m
 ·subst hnm
  replace o1 := hdh o1; replace o2 := hdh o2; replace en := hdh en; replace em := hdh em; have hgo := hdh (show sameC (xs.drop 0) (ys.drop 0) = res from hres); clear hres
  go_enter Tryz.func16, Tryz.ntmps16
  go_upto_region 3 with fail
  generalize hw1 : ((w.alloc (.cells #[.int .i64 a, .int .i64 b, .slice s1 n c1] 40)).alloc (.cells #[.int .i64 a', .int .i64 b', .slice s2 n c2] 40)) = w1
  have y1 : w.heap.size + 1 < w1.heap.size := by rw [← hw1]; simp
  have bz : Below w.heap.size w w1 := by rw [← hw1]; exact belt
  have B1 : Blk w1 w.heap.size [.int .i64 a, .int .i64 b, .slice s1 n c1] 40 := by rw [← hw1]; exact (Blk.new' rfl).alloc _
  have B2 : Blk w1 (w.heap.size + 1) [.int .i64 a', .int .i64 b', .slice s2 n c2] 40 := by rw [← hw1]; exact Blk.new' (by simp)
  have q1 : w1.cell? ⟨w.heap.size, 2, none⟩ = some (.slice s1 n c1) := B1.cell (o := 2) rfl; have q2 : w1.cell? ⟨w.heap.size + 1, 2, none⟩ = some (.slice s2 n c2) := B2.cell (o := 2) rfl; clear B1 B2; clear hw1; go_wp2
  go_loopw [5] (fun iv wr => ∃ k : Nat, k ≤ n ∧ iv = .int .i64 k ∧ Hid (sameC (xs.drop k) (ys.drop k) = res) ∧ Below w.heap.size w wr ∧ wr.cell? ⟨w.heap.size, 2, none⟩ = some (.slice s1 n c1) ∧ wr.cell? ⟨w.heap.size + 1, 2, none⟩ = some (.slice s2 n c2) ∧ w.heap.size + 1 < wr.heap.size) (fun i _ => n - (intOf i).toNat)
  case atStart => exact ⟨0, Nat.zero_le _, rfl, hgo, bz, q1, q2, y1⟩
  case round =>
   clear q1 q2 bz; obtain ⟨k, hk, rfl, hgo, hbr, q1, q2, yr⟩ := hrel
   have yr0 : w.heap.size < wr.heap.size := by omega
   have zr := hbr.size
   by_cases hkn : k < n
   ·obtain ⟨b, p, cap', e, hb, _, _, hel⟩ := o1.out (by omega)
    simp at e
    obtain ⟨rfl, rfl⟩ := e; obtain ⟨b', p', cap', e, hb', _, _, hex⟩ := o2.out (by omega)
    simp at e
    obtain ⟨rfl, rfl⟩ := e; obtain ⟨s, hs⟩ := get_at en.out hkn; obtain ⟨t, ht⟩ := get_at em.out hkn; obtain ⟨g0, g1, g2, g3, g4, g5, g6, g7, g8, g9, g10⟩ := CMem.below (hel k s hs) hbr hb; obtain ⟨j0, j1, j2, j3, j4, j5, j6, j7, j8, j9, j10⟩ := CMem.below (hex k t ht) hbr hb'; have hg := hgo.out; rw [sameC_step hs ht] at hg
    have hkk : (k : Int) < n := by omega
    have yb : b < wr.heap.size := by omega
    have yb' : b' < wr.heap.size := by omega
    clear hel hex hs ht; obtain ⟨kd, ⟨u0, u1, u2, u3⟩, ⟨r0, r1, r2, r3⟩, tx, nd⟩ := s; obtain ⟨kd', ⟨u0', u1', u2', u3'⟩, ⟨r0', r1', r2', r3'⟩, tx', nd'⟩ := t; simp only at g0 g1 g2 g3 g4 g5 g6 g7 g8 g9 g10 j0 j1 j2 j3 j4 j5 j6 j7 j8 j9 j10; obtain ⟨bb, hc⟩ := exx (Ce.eqb ⟨kd, ⟨u0, u1, u2, u3⟩, ⟨r0, r1, r2, r3⟩, tx, nd⟩ ⟨kd', ⟨u0', u1', u2', u3'⟩, ⟨r0', r1', r2', r3'⟩, tx', nd'⟩); rw [hc] at hg
    cases bb
    ·rw [Bool.false_and] at hg
     subst hg; go_wp2; refine rst (Held wr 0 []) ?_
     repeat (first | (refine' sdo ?_; simp only [pu]) | (refine spa ?_; simp only [pu]))
     refine wpSteady_nil (fun uA hSA => ?_); obtain ⟨hcA, hbA, hzA, hcoA, hfoA⟩ := hall hSA; clear hSA; simp only [Cells] at hcA; go_wp2; go_ret; exact ⟨rfl, hbr.trans (hbA.mono zr)⟩
    ·rw [Bool.true_and] at hg
     replace hg := hdh hg; go_wp2; refine rst (Held wr 0 []) ?_
     repeat (first | (refine' sdo ?_; simp only [pu]) | (refine spa ?_; simp only [pu]))
     refine wpSteady_nil (fun uA hSA => ?_); obtain ⟨hcA, hbA, hzA, hcoA, hfoA⟩ := hall hSA; clear hSA; simp only [Cells] at hcA; go_wp2; go_roundw
     case rel => exact ⟨k + 1, by omega, by go_num, hg, hbr.trans (hbA.mono zr), (hcoA _ _ yr0).trans q1, (hcoA _ _ yr).trans q2, by omega⟩
     case measure => simp [intOf]; omega
   ·obtain rfl : k = n := by omega
    have e1 : xs.drop k = [] := List.drop_eq_nil_of_le (by have := en.out; omega); have e2 : ys.drop k = [] := List.drop_eq_nil_of_le (by have := em.out; omega); have hg := hgo.out; rw [e1, e2] at hg; clear e1 e2; have hg : true = res := hg; subst hg; go_wp2; go_ret; exact ⟨rfl, hbr⟩
 ·rw [sameC_len (by rw [en, em]; exact hnm)] at hres
  subst hres
  have hni : ¬ (n : Int) = m := by omega
  have hnb : ((n : Int) != m) = true := by simp [hni]
  have hnb2 : ((n : Int) == m) = false := by simp [hni]
  clear o1 o2
  go_enter Tryz.func16, Tryz.ntmps16
  go_wp2; go_ret; exact ⟨rfl, belt⟩
def pairC (a b : Ce) : Bool := a.wide && b.tail && (a.rune == b.rune)
theorem cpair_any (s t : Ce) (w : World) : Calls Tryz.prog 109 #[.agg #[.int .i32 (s).rune, .int .u8 (s).col.r, .int .u8 (s).col.g, .int .u8 (s).col.b, .int .u8 (s).col.a, .int .u8 (s).back.r, .int .u8 (s).back.g, .int .u8 (s).back.b, .int .u8 (s).back.a, .bool (s).wide, .bool (s).tail], .agg #[.int .i32 (t).rune, .int .u8 (t).col.r, .int .u8 (t).col.g, .int .u8 (t).col.b, .int .u8 (t).col.a, .int .u8 (t).back.r, .int .u8 (t).back.g, .int .u8 (t).back.b, .int .u8 (t).back.a, .bool (t).wide, .bool (t).tail]] w fun e w' => e = .returned (.bool (pairC s t)) ∧ Below w.heap.size w w' := by
 obtain ⟨res, hres⟩ := exx (pairC s t); rw [hres]; obtain ⟨kd, ⟨u0, u1, u2, u3⟩, ⟨r0, r1, r2, r3⟩, tx, nd⟩ := s; obtain ⟨kd', ⟨u0', u1', u2', u3'⟩, ⟨r0', r1', r2', r3'⟩, tx', nd'⟩ := t; unfold pairC at hres; dsimp only at hres ⊢; obtain ⟨c, hc⟩ := exx ((kd == kd')); rw [hc] at hres
 go_enter Tryz.func109, Tryz.ntmps109
 cases tx
 ·subst hres
  go_wp2; go_ret; exact ⟨rfl, belt⟩
 ·cases nd'
  ·subst hres
   go_wp2; go_ret; exact ⟨rfl, belt⟩
  ·have hres : c = res := hres
   subst hres; go_wp2; go_ret; exact ⟨rfl, belt⟩
end
end Go.Proofs.YtfcphagmjijmkaaGreatDoor
