/-
  XCelO: XColA XColB.
-/
import Derived.Shelf.SlSortCmp.WholeK
import Derived.Shelf.Slices.CompactI
import Derived.Shelf.Slices.In.SortNone
import Derived.Shelf.Sort.Plain
import Derived.Sort.OwnSortedInts
import Derived.Test.YtfcphagmjijmkaaGreatDoorDd6
namespace Go.Proofs.YtfcphagmjijmkaaGreatDoor
open Go.RowKit
set_option linter.unusedVariables false
set_option linter.unusedSimpArgs false
attribute [local go_sem] vwp vUpon_value vUpon_skip vUpon_enter vUpon_row
set_option maxHeartbeats 16000000
section
def part (up down x y : Int) : Int := (up * x + down * y + (up + down) / 2) / (up + down)
theorem part_bd (up down x y : Int) (hx : U8 x) (hy : U8 y) (h1 : 0 ≤ up) (h3 : 0 ≤ down) (h5 : 0 < up + down) : U8 (part up down x y) := by
 obtain ⟨hx0, hx1⟩ := hx; obtain ⟨hy0, hy1⟩ := hy; unfold part U8; have m1 : 0 ≤ up * x := Int.mul_nonneg h1 hx0; have m2 : up * x ≤ up * 255 := Int.mul_le_mul_of_nonneg_left hx1 h1; have m3 : 0 ≤ down * y := Int.mul_nonneg h3 hy0; have m4 : down * y ≤ down * 255 := Int.mul_le_mul_of_nonneg_left hy1 h3; generalize up * x = p at *; generalize down * y = q at *; refine ⟨Int.ediv_nonneg (by omega) (by omega), ?_⟩
 have : p + q + (up + down) / 2 < 256 * (up + down) := by omega
 have := Int.ediv_lt_of_lt_mul h5 this; omega
theorem overPart (x y up down : Int) (bu bd bn ou od on : Nat) (w : World) (hx : U8 x) (hy : U8 y)
  (h1 : 0 ≤ up) (h2 : up ≤ 65025) (h3 : 0 ≤ down) (h4 : down ≤ 65025) (h5 : 0 < up + down)
  (hu : w.cell? ⟨bu, ou, none⟩ = some (.int .i64 up)) (hd : w.cell? ⟨bd, od, none⟩ = some (.int .i64 down)) (hn : w.cell? ⟨bn, on, none⟩ = some (.int .i64 (up + down))) :
  Calls Tryz.prog 146 #[.int .u8 x, .int .u8 y, .pointer (some ⟨bu, ou, none⟩), .pointer (some ⟨bd, od, none⟩), .pointer (some ⟨bn, on, none⟩)] w fun e w' =>
   e = .returned (.int .u8 (part up down x y)) ∧ w = w' := by
 have hbd := part_bd up down x y hx hy h1 h3 h5; unfold part at hbd ⊢; obtain ⟨hx0, hx1⟩ := hx; obtain ⟨hy0, hy1⟩ := hy; obtain ⟨b0, b1⟩ := hbd; have m1 : 0 ≤ up * x := Int.mul_nonneg h1 hx0; have m2 : up * x ≤ 65025 * 255 := Int.mul_le_mul h2 hx1 hx0 (by omega); have m3 : 0 ≤ down * y := Int.mul_nonneg h3 hy0; have m4 : down * y ≤ 65025 * 255 := Int.mul_le_mul h4 hy1 hy0 (by omega)
 go_enter Tryz.func146, Tryz.ntmps146
 go_wp2; go_ret; exact ⟨rfl, rfl⟩
def ov (aA bA x y : Int) : Int := if aA = 0 then y else part (255 * aA) ((255 - aA) * bA) x y
def ovA (aA bA : Int) : Int := if aA = 0 then bA else (255 * aA + (255 - aA) * bA + 127) / 255
theorem down_bd (aA bA : Int) (h1 : U8 aA) (h2 : U8 bA) : 0 ≤ (255 - aA) * bA ∧ (255 - aA) * bA ≤ (255 - aA) * 255 ∧ 255 * aA + (255 - aA) * bA ≤ 65025 := by
 obtain ⟨a, b⟩ := h1; obtain ⟨c, d⟩ := h2; have m1 : 0 ≤ (255 - aA) * bA := Int.mul_nonneg (by omega) c; have m2 : (255 - aA) * bA ≤ (255 - aA) * 255 := Int.mul_le_mul_of_nonneg_left d (by omega); exact ⟨m1, m2, by omega⟩
theorem ov_bd (aA bA x y : Int) (h1 : U8 aA) (h2 : U8 bA) (hx : U8 x) (hy : U8 y) : U8 (ov aA bA x y) := by
 obtain ⟨m1, m2, m3⟩ := down_bd aA bA h1 h2; unfold ov
 split
 ·exact hy
 ·have : 0 < aA := by have := h1.1; omega
  exact part_bd _ _ _ _ hx hy (by omega) m1 (by omega)
theorem ovA_bd (aA bA : Int) (h1 : U8 aA) (h2 : U8 bA) : U8 (ovA aA bA) := by
 obtain ⟨m1, m2, m3⟩ := down_bd aA bA h1 h2; obtain ⟨a, b⟩ := h1; unfold ovA
 split
 ·exact h2
 ·exact ⟨by omega, by omega⟩
theorem over_any (ar ag ab aA br bg bb bA : Int) (w : World) (h1 : U8 ar) (h2 : U8 ag) (h3 : U8 ab) (h4 : U8 aA) (h5 : U8 br) (h6 : U8 bg) (h7 : U8 bb) (h8 : U8 bA) :
  Calls Tryz.prog 102 #[.agg #[.int .u8 (ar), .int .u8 (ag), .int .u8 (ab), .int .u8 (aA)], .agg #[.int .u8 (br), .int .u8 (bg), .int .u8 (bb), .int .u8 (bA)]] w fun e w' =>
   e = .returned (.agg #[.int .u8 (ov aA bA ar br), .int .u8 (ov aA bA ag bg), .int .u8 (ov aA bA ab bb), .int .u8 (ovA aA bA)]) ∧ Below w.heap.size w w' := by
 by_cases h0 : aA = 0
 ·subst h0
  go_enter Tryz.func102, Tryz.ntmps102
  go_wp2; refine bodyPost_ret (v := .agg #[.int .u8 (br), .int .u8 (bg), .int .u8 (bb), .int .u8 (bA)]) (by simp [results, Tryz.results102, go_sem]) rfl ⟨by simp [ov, ovA], belt⟩
 ·obtain ⟨m1, m2, m3⟩ := down_bd aA bA h4 h8
  have a1 := ovA_bd aA bA h4 h8; obtain ⟨p0, p1⟩ := h4; obtain ⟨q0, q1⟩ := h8
  have hne : (aA == 0) = false := by simp; omega
  have hp : 0 < aA := by omega
  have e1 : ov aA bA ar br = part (255 * aA) ((255 - aA) * bA) ar br := if_neg h0; have e2 : ov aA bA ag bg = part (255 * aA) ((255 - aA) * bA) ag bg := if_neg h0; have e3 : ov aA bA ab bb = part (255 * aA) ((255 - aA) * bA) ab bb := if_neg h0; have e4 : ovA aA bA = (255 * aA + (255 - aA) * bA + 127) / 255 := if_neg h0; rw [e1, e2, e3, e4]; rw [e4] at a1; obtain ⟨a10, a11⟩ := a1; clear e1 e2 e3 e4 h0
  go_enter Tryz.func102, Tryz.ntmps102
  go_wp2; refine wp_region_steady_then (Held w 6 [(⟨w.heap.size, 0, none⟩, .int .u8 ar), (⟨w.heap.size, 1, none⟩, .int .u8 ag), (⟨w.heap.size, 2, none⟩, .int .u8 ab), (⟨w.heap.size + 1, 0, none⟩, .int .u8 br), (⟨w.heap.size + 1, 1, none⟩, .int .u8 bg), (⟨w.heap.size + 1, 2, none⟩, .int .u8 bb), (⟨w.heap.size + 1 + 1, 0, none⟩, .int .u8 0), (⟨w.heap.size + 1 + 1, 1, none⟩, .int .u8 0), (⟨w.heap.size + 1 + 1, 2, none⟩, .int .u8 0), (⟨w.heap.size + 1 + 1, 3, none⟩, .int .u8 0), (⟨w.heap.size + 1 + 1 + 1, 0, none⟩, .int .i64 (255 * aA)), (⟨w.heap.size + 1 + 1 + 1 + 1, 0, none⟩, .int .i64 ((255 - aA) * bA)), (⟨w.heap.size + 1 + 1 + 1 + 1 + 1, 0, none⟩, .int .i64 (255 * aA + (255 - aA) * bA))]) 23 (by kernel_rfl) (by kernel_rfl) (by decide) (by kernel_rfl) (by kernel_rfl) ⟨belt, (by (try simp) <;> omega), (by simp only [Cells]; go_simp)⟩ ?_
  simp only [List.take_succ_cons, List.take_zero]
  repeat (first | (refine' wpSteady_do _ _ _; rotate_left; (focus rfl); (focus (intro w1 hS R hR; have hc := hS.cells; simp only [Cells] at hc; go_simp; (try go_bits); first | exact hR _ hS | (refine (overPart _ _ (255 * aA) ((255 - aA) * bA) _ _ _ _ _ _ _ ‹_› ‹_› (by omega) (by omega) (by omega) (by omega) (by omega) (by simp only [hc]) (by simp only [hc]) (by simp only [hc])).mono ?_; rintro e w2 ⟨rfl, rfl⟩; exact ⟨_, rfl, hR _ hS⟩))); simp only [pu]) | (refine spa ?_; simp only [pu]))
  refine wpSteady_nil (fun w1 hS => ?_); have hc := hS.cells; have hb := hS.old; have hz := hS.size; clear hS; simp only [Cells] at hc; simp only [List.drop_succ_cons, List.drop_zero, List.drop_nil]; go_wp2; refine bodyPost_ret (v := .agg #[.int .u8 (part (255 * aA) ((255 - aA) * bA) ar br), .int .u8 (part (255 * aA) ((255 - aA) * bA) ag bg), .int .u8 (part (255 * aA) ((255 - aA) * bA) ab bb), .int .u8 ((255 * aA + (255 - aA) * bA + 127) / 255)]) (by simp [results, Tryz.results102, go_sem, hc]) rfl ⟨rfl, ?_⟩; exact belt
end
end Go.Proofs.YtfcphagmjijmkaaGreatDoor
namespace Go.Proofs
open Go.Shelf
def YtfcphagmjijmkaaGreatDoor.sortLays_ren : Go.Shelf.Ren := ⟨fun | 125 => 116 | 128 => 165 | 129 => 166 | 189 => 62 | 215 => 197 | 216 => 162 | 257 => 115 | 294 => 156 | 295 => 157 | 296 => 158 | 297 => 159 | 298 => 160 | 299 => 161 | 300 => 163 | 301 => 164 | 328 => 192 | 329 => 193 | 330 => 194 | 331 => 195 | 332 => 196 | 343 => 218 | n => n, fun | 0 => 0 | 3 => 3 | 4 => 4 | 5 => 5 | 9 => 9 | 28 => 52 | 46 => 137 | 51 => 184 | 53 => 187 | 131 => 223 | 182 => 218 | 183 => 219 | 218 => 254 | 222 => 216 | 228 => 278 | 229 => 141 | n => n, fun n => n⟩
set_option maxRecDepth 100000 in
theorem YtfcphagmjijmkaaGreatDoor.sortLays : Lays.n189 Tryz.prog YtfcphagmjijmkaaGreatDoor.sortLays_ren := {
 mixed := by kernel_rfl
 f125 := Tryz.func116.trans (congrArg some (by kernel_rfl))
 f128 := Tryz.func165.trans (congrArg some (by kernel_rfl))
 f129 := Tryz.func166.trans (congrArg some (by kernel_rfl))
 f189 := Tryz.func62.trans (congrArg some (by kernel_rfl))
 f215 := Tryz.func197.trans (congrArg some (by kernel_rfl))
 f216 := Tryz.func162.trans (congrArg some (by kernel_rfl))
 f257 := Tryz.func115.trans (congrArg some (by kernel_rfl))
 f294 := Tryz.func156.trans (congrArg some (by kernel_rfl))
 f295 := Tryz.func157.trans (congrArg some (by kernel_rfl))
 f296 := Tryz.func158.trans (congrArg some (by kernel_rfl))
 f297 := Tryz.func159.trans (congrArg some (by kernel_rfl))
 f298 := Tryz.func160.trans (congrArg some (by kernel_rfl))
 f299 := Tryz.func161.trans (congrArg some (by kernel_rfl))
 f300 := Tryz.func163.trans (congrArg some (by kernel_rfl))
 f301 := Tryz.func164.trans (congrArg some (by kernel_rfl))
 f328 := Tryz.func192.trans (congrArg some (by kernel_rfl))
 f329 := Tryz.func193.trans (congrArg some (by kernel_rfl))
 f330 := Tryz.func194.trans (congrArg some (by kernel_rfl))
 f331 := Tryz.func195.trans (congrArg some (by kernel_rfl))
 f332 := Tryz.func196.trans (congrArg some (by kernel_rfl))
 f343 := Tryz.func218.trans (congrArg some (by kernel_rfl))
 t0 := Tryz.underlying0
 a0 := Tryz.isAgg0
 z0 := Tryz.sizeOf0
 v0 := Tryz.zeroValue0
 t3 := Tryz.underlying3
 a3 := Tryz.isAgg3
 z3 := Tryz.sizeOf3
 v3 := Tryz.zeroValue3
 t4 := Tryz.underlying4
 a4 := Tryz.isAgg4
 z4 := Tryz.sizeOf4
 v4 := Tryz.zeroValue4
 t5 := Tryz.underlying5
 a5 := Tryz.isAgg5
 z5 := Tryz.sizeOf5
 v5 := Tryz.zeroValue5
 t9 := Tryz.underlying9
 a9 := Tryz.isAgg9
 z9 := Tryz.sizeOf9
 v9 := Tryz.zeroValue9
 t28 := Tryz.underlying52
 a28 := Tryz.isAgg52
 z28 := Tryz.sizeOf52
 v28 := Tryz.zeroValue52
 t46 := Tryz.underlying137
 a46 := Tryz.isAgg137
 z46 := Tryz.sizeOf137
 v46 := Tryz.zeroValue137
 t51 := Tryz.underlying184
 a51 := Tryz.isAgg184
 z51 := Tryz.sizeOf184
 v51 := Tryz.zeroValue184
 t53 := Tryz.underlying187
 a53 := Tryz.isAgg187
 z53 := Tryz.sizeOf187
 v53 := Tryz.zeroValue187
 t131 := Tryz.underlying223
 a131 := Tryz.isAgg223
 z131 := Tryz.sizeOf223
 v131 := Tryz.zeroValue223
 t182 := Tryz.underlying218
 a182 := Tryz.isAgg218
 z182 := Tryz.sizeOf218
 v182 := Tryz.zeroValue218
 t183 := Tryz.underlying219
 a183 := Tryz.isAgg219
 z183 := Tryz.sizeOf219
 v183 := Tryz.zeroValue219
 t218 := Tryz.underlying254
 a218 := Tryz.isAgg254
 z218 := Tryz.sizeOf254
 v218 := Tryz.zeroValue254
 t222 := Tryz.underlying216
 a222 := Tryz.isAgg216
 z222 := Tryz.sizeOf216
 v222 := Tryz.zeroValue216
 t228 := Tryz.underlying278
 a228 := Tryz.isAgg278
 z228 := Tryz.sizeOf278
 v228 := Tryz.zeroValue278
 t229 := Tryz.underlying141
 a229 := Tryz.isAgg141
 z229 := Tryz.sizeOf141
 v229 := Tryz.zeroValue141 }
def YtfcphagmjijmkaaGreatDoor.compactLays_ren : Go.Shelf.Ren := ⟨fun | 20 => 63 | n => n, fun | 0 => 0 | 3 => 3 | 4 => 4 | 22 => 52 | n => n, fun n => n⟩
set_option maxRecDepth 100000 in
theorem YtfcphagmjijmkaaGreatDoor.compactLays : Lays2.n20 Tryz.prog YtfcphagmjijmkaaGreatDoor.compactLays_ren := {
 mixed := by kernel_rfl
 f20 := Tryz.func63.trans (congrArg some (by kernel_rfl))
 t0 := Tryz.underlying0
 a0 := Tryz.isAgg0
 z0 := Tryz.sizeOf0
 v0 := Tryz.zeroValue0
 t3 := Tryz.underlying3
 a3 := Tryz.isAgg3
 z3 := Tryz.sizeOf3
 v3 := Tryz.zeroValue3
 t4 := Tryz.underlying4
 a4 := Tryz.isAgg4
 z4 := Tryz.sizeOf4
 v4 := Tryz.zeroValue4
 t22 := Tryz.underlying52
 a22 := Tryz.isAgg52
 z22 := Tryz.sizeOf52
 v22 := Tryz.zeroValue52
 i3 := by kernel_rfl }
def YtfcphagmjijmkaaGreatDoor.sortFuncLays_ren : Go.Shelf.Ren := ⟨fun | 6 => 223 | 14 => 235 | 15 => 116 | 20 => 242 | 21 => 243 | 22 => 244 | 23 => 245 | 24 => 246 | 25 => 247 | 26 => 248 | 27 => 249 | 28 => 165 | 29 => 166 | 46 => 252 | 47 => 193 | 48 => 194 | 49 => 253 | 50 => 254 | 57 => 255 | n => n, fun | 0 => 0 | 3 => 3 | 4 => 4 | 5 => 5 | 9 => 9 | 22 => 242 | 24 => 244 | 25 => 286 | 39 => 137 | 45 => 218 | 46 => 219 | 50 => 223 | 53 => 184 | 55 => 187 | 66 => 254 | 70 => 216 | 76 => 278 | 77 => 141 | n => n, fun n => n⟩
set_option maxRecDepth 100000 in
theorem YtfcphagmjijmkaaGreatDoor.sortFuncLays : SlLaysF0.n6 Tryz.prog YtfcphagmjijmkaaGreatDoor.sortFuncLays_ren := {
 mixed := by kernel_rfl
 f6 := ⟨Tryz.f223.name, by decide, Tryz.func223.trans (congrArg some (by kernel_rfl))⟩
 f14 := ⟨Tryz.f235.name, by decide, Tryz.func235.trans (congrArg some (by kernel_rfl))⟩
 f15 := Tryz.func116.trans (congrArg some (by kernel_rfl))
 f20 := ⟨Tryz.f242.name, by decide, Tryz.func242.trans (congrArg some (by kernel_rfl))⟩
 f21 := ⟨Tryz.f243.name, by decide, Tryz.func243.trans (congrArg some (by kernel_rfl))⟩
 f22 := ⟨Tryz.f244.name, by decide, Tryz.func244.trans (congrArg some (by kernel_rfl))⟩
 f23 := ⟨Tryz.f245.name, by decide, Tryz.func245.trans (congrArg some (by kernel_rfl))⟩
 f24 := ⟨Tryz.f246.name, by decide, Tryz.func246.trans (congrArg some (by kernel_rfl))⟩
 f25 := ⟨Tryz.f247.name, by decide, Tryz.func247.trans (congrArg some (by kernel_rfl))⟩
 f26 := ⟨Tryz.f248.name, by decide, Tryz.func248.trans (congrArg some (by kernel_rfl))⟩
 f27 := ⟨Tryz.f249.name, by decide, Tryz.func249.trans (congrArg some (by kernel_rfl))⟩
 f28 := Tryz.func165.trans (congrArg some (by kernel_rfl))
 f29 := Tryz.func166.trans (congrArg some (by kernel_rfl))
 f46 := ⟨Tryz.f252.name, by decide, Tryz.func252.trans (congrArg some (by kernel_rfl))⟩
 f47 := Tryz.func193.trans (congrArg some (by kernel_rfl))
 f48 := Tryz.func194.trans (congrArg some (by kernel_rfl))
 f49 := ⟨Tryz.f253.name, by decide, Tryz.func253.trans (congrArg some (by kernel_rfl))⟩
 f50 := ⟨Tryz.f254.name, by decide, Tryz.func254.trans (congrArg some (by kernel_rfl))⟩
 f57 := ⟨Tryz.f255.name, by decide, Tryz.func255.trans (congrArg some (by kernel_rfl))⟩
 t0 := Tryz.underlying0
 a0 := Tryz.isAgg0
 z0 := Tryz.sizeOf0
 v0 := Tryz.zeroValue0
 t3 := Tryz.underlying3
 a3 := Tryz.isAgg3
 z3 := Tryz.sizeOf3
 v3 := Tryz.zeroValue3
 t4 := Tryz.underlying4
 a4 := Tryz.isAgg4
 z4 := Tryz.sizeOf4
 v4 := Tryz.zeroValue4
 t5 := Tryz.underlying5
 a5 := Tryz.isAgg5
 z5 := Tryz.sizeOf5
 v5 := Tryz.zeroValue5
 t9 := Tryz.underlying9
 a9 := Tryz.isAgg9
 z9 := Tryz.sizeOf9
 v9 := Tryz.zeroValue9
 t22 := Tryz.underlying242
 a22 := Tryz.isAgg242
 z22 := Tryz.sizeOf242
 v22 := Tryz.zeroValue242
 t25 := Tryz.underlying286
 a25 := Tryz.isAgg286
 z25 := Tryz.sizeOf286
 v25 := Tryz.zeroValue286
 t39 := Tryz.underlying137
 a39 := Tryz.isAgg137
 z39 := Tryz.sizeOf137
 v39 := Tryz.zeroValue137
 t45 := Tryz.underlying218
 a45 := Tryz.isAgg218
 z45 := Tryz.sizeOf218
 v45 := Tryz.zeroValue218
 t46 := Tryz.underlying219
 a46 := Tryz.isAgg219
 z46 := Tryz.sizeOf219
 v46 := Tryz.zeroValue219
 t50 := Tryz.underlying223
 a50 := Tryz.isAgg223
 z50 := Tryz.sizeOf223
 v50 := Tryz.zeroValue223
 t53 := Tryz.underlying184
 a53 := Tryz.isAgg184
 z53 := Tryz.sizeOf184
 v53 := Tryz.zeroValue184
 t55 := Tryz.underlying187
 a55 := Tryz.isAgg187
 z55 := Tryz.sizeOf187
 v55 := Tryz.zeroValue187
 t66 := Tryz.underlying254
 a66 := Tryz.isAgg254
 z66 := Tryz.sizeOf254
 v66 := Tryz.zeroValue254
 t70 := Tryz.underlying216
 a70 := Tryz.isAgg216
 z70 := Tryz.sizeOf216
 v70 := Tryz.zeroValue216
 t76 := Tryz.underlying278
 a76 := Tryz.isAgg278
 z76 := Tryz.sizeOf278
 v76 := Tryz.zeroValue278
 t77 := Tryz.underlying141
 a77 := Tryz.isAgg141
 z77 := Tryz.sizeOf141
 v77 := Tryz.zeroValue141 }
end Go.Proofs
