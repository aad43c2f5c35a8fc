/-
  The colours' functions of numbers, the second part: the document's own, mixed, light, clear.
-/
import Derived.Test.YthecbopffdpefaaDoorColA
namespace Go.Proofs.YthecbopffdpefaaDoor
open Go.RowKit
set_option linter.unusedVariables false
set_option linter.unusedSimpArgs false
attribute [local go_sem] vwp vUpon_value vUpon_skip vUpon_enter vUpon_row

/-- P4.4, over numbers. -/
def mixN (x y p : Int) : Int := (x * (255 - p) + y * p + 127) / 255
theorem mix_bds (x y p : Int) (hx : U8 x) (hy : U8 y) (hp : U8 p) : 0 ≤ x * (255 - p) ∧ x * (255 - p) ≤ 255 * (255 - p) ∧ 0 ≤ y * p ∧ y * p ≤ 255 * p :=
  ⟨Int.mul_nonneg hx.1 (by have := hp.2; omega), Int.mul_le_mul_of_nonneg_right hx.2 (by have := hp.2; omega), Int.mul_nonneg hy.1 hp.1, Int.mul_le_mul_of_nonneg_right hy.2 hp.1⟩
theorem mix_bd (x y p : Int) (hx : U8 x) (hy : U8 y) (hp : U8 p) : U8 (mixN x y p) := by
  obtain ⟨a, b, c, d⟩ := mix_bds x y p hx hy hp
  unfold mixN; exact ⟨by omega, by omega⟩

set_option maxHeartbeats 400000 in
theorem mixPart (x y p : Int) (b o : Nat) (w : World) (hx : U8 x) (hy : U8 y) (hp : U8 p) (h : w.cell? ⟨b, o, none⟩ = some (.int .i64 p)) :
    Calls Tryd.prog 32 #[.int .u8 x, .int .u8 y, .pointer (some ⟨b, o, none⟩)] w fun e w' => e = .returned (.int .u8 (mixN x y p)) ∧ w = w' := by
  obtain ⟨k1, k2, k3, k4⟩ := mix_bds x y p hx hy hp
  have hbd := mix_bd x y p hx hy hp
  unfold mixN at hbd ⊢
  obtain ⟨b0, b1⟩ := hbd
  obtain ⟨hx0, hx1⟩ := hx; obtain ⟨hy0, hy1⟩ := hy; obtain ⟨hp0, hp1⟩ := hp
  go_enter Tryd.func32, Tryd.ntmps32
  go_wp2
  go_ret
  exact ⟨rfl, rfl⟩
set_option maxHeartbeats 1000000 in
theorem mix_any (ar ag ab aA br bg bb bA p : Int) (w : World) (h1 : U8 ar) (h2 : U8 ag) (h3 : U8 ab) (h4 : U8 aA) (h5 : U8 br) (h6 : U8 bg) (h7 : U8 bb) (h8 : U8 bA) (h9 : U8 p) :
    Calls Tryd.prog 14 #[.agg #[.int .u8 (ar), .int .u8 (ag), .int .u8 (ab), .int .u8 (aA)], .agg #[.int .u8 (br), .int .u8 (bg), .int .u8 (bb), .int .u8 (bA)], .int .u8 p] w fun e w' =>
      e = .returned (.agg #[.int .u8 (mixN ar br p), .int .u8 (mixN ag bg p), .int .u8 (mixN ab bb p), .int .u8 (mixN aA bA p)]) ∧ Below w.heap.size w w' := by
  have hp0 := h9.1; have hp1 := h9.2
  go_enter Tryd.func14, Tryd.ntmps14
  go_wp2
  refine wp_region_steady_then (Held w 4 [(⟨w.heap.size, 0, none⟩, .int .u8 (ar)), (⟨w.heap.size, 1, none⟩, .int .u8 (ag)), (⟨w.heap.size, 2, none⟩, .int .u8 (ab)), (⟨w.heap.size, 3, none⟩, .int .u8 (aA)), (⟨w.heap.size + 1, 0, none⟩, .int .u8 (br)), (⟨w.heap.size + 1, 1, none⟩, .int .u8 (bg)), (⟨w.heap.size + 1, 2, none⟩, .int .u8 (bb)), (⟨w.heap.size + 1, 3, none⟩, .int .u8 (bA)), (⟨w.heap.size + 1 + 1, 0, none⟩, .int .u8 (0)), (⟨w.heap.size + 1 + 1, 1, none⟩, .int .u8 (0)), (⟨w.heap.size + 1 + 1, 2, none⟩, .int .u8 (0)), (⟨w.heap.size + 1 + 1, 3, none⟩, .int .u8 (0)), (⟨w.heap.size + 1 + 1 + 1, 0, none⟩, .int .i64 p)]) 25 (by kernel_rfl) (by kernel_rfl) (by decide) (by kernel_rfl) (by kernel_rfl) ⟨(by repeat (first | exact Below.refl _ _ | assumption | refine Below.drew ?_ | refine Below.alloc ?_ (by (try simp) <;> omega) _ | refine Below.setCell ?_ (by (try simp) <;> omega) _)), (by (try simp) <;> omega), (by simp only [Cells]; go_simp)⟩ ?_
  simp only [List.take_succ_cons, List.take_zero]
  repeat (first | (refine' wpSteady_do _ _ _; rotate_left; (focus rfl); (focus (intro w1 hS R hR; have hc := hS.cells; simp only [Cells] at hc; go_simp; (try go_bits); first | exact hR _ hS | (refine (mixPart _ _ p _ _ _ ‹_› ‹_› ‹_› (by simp only [hc])).mono ?_; rintro e w2 ⟨rfl, rfl⟩; exact ⟨_, rfl, hR _ hS⟩))); simp only [Act.put, List.setIfInBounds_toArray, List.set_cons_zero, List.set_cons_succ]) | (refine wpSteady_pass ?_ ?_; (focus rfl); simp only [Act.put, List.setIfInBounds_toArray, List.set_cons_zero, List.set_cons_succ]))
  refine wpSteady_nil (fun w1 hS => ?_)
  have hc := hS.cells; have hb := hS.old; have hz := hS.size; clear hS; simp only [Cells] at hc
  simp only [List.drop_succ_cons, List.drop_zero, List.drop_nil]
  go_wp2
  refine bodyPost_ret (v := .agg #[.int .u8 (mixN ar br p), .int .u8 (mixN ag bg p), .int .u8 (mixN ab bb p), .int .u8 (mixN aA bA p)]) (by simp [results, Tryd.results14, go_sem, hc]) rfl ⟨rfl, (by repeat (first | exact Below.refl _ _ | assumption | refine Below.drew ?_ | refine Below.alloc ?_ (by (try simp) <;> omega) _ | refine Below.setCell ?_ (by (try simp) <;> omega) _))⟩
end Go.Proofs.YthecbopffdpefaaDoor
