/-
  'between' of the laws; plain: what is laid over and what is mixed lies between.
-/
import Derived.Test.YthecbopffdpefaaDoorDooM
import Derived.Test.YthecbopffdpefaaDoorAlo
import Derived.Test.YthecbopffdpefaaDoorColourLightW
namespace Go.Proofs.YthecbopffdpefaaDoor
open Go.RowKit
set_option linter.unusedVariables false
attribute [local go_sem] vwp vUpon_value vUpon_skip vUpon_enter vUpon_row
set_option linter.unusedSimpArgs false
set_option linter.unusedVariables false
theorem ovA_back' (a : Int) (h : U8 a) : ovA a 255 = 255 := by
  obtain ⟨h0, h1⟩ := h
  unfold ovA
  split
  · rfl
  · omega
theorem mix_btw (x y p : Int) (hx : U8 x) (hy : U8 y) (hp : U8 p) : min x y ≤ mixN x y p ∧ mixN x y p ≤ max x y := by
  obtain ⟨x0, x1⟩ := hx; obtain ⟨y0, y1⟩ := hy; obtain ⟨p0, p1⟩ := hp
  unfold mixN
  have e : x * (255 - p) = 255 * x - x * p := by rw [Int.mul_sub, Int.mul_comm x 255]
  rw [e]
  rcases Int.le_total x y with h | h
  · have m := Int.mul_le_mul_of_nonneg_right h p0
    have m' := Int.mul_le_mul_of_nonneg_left p1 (show 0 ≤ y - x by omega)
    rw [Int.sub_mul, Int.mul_comm (y - x) 255] at m'
    rw [Int.min_eq_left h, Int.max_eq_right h]
    generalize x * p = u at *; generalize y * p = v at *
    omega
  · have m := Int.mul_le_mul_of_nonneg_right h p0
    have m' := Int.mul_le_mul_of_nonneg_left p1 (show 0 ≤ x - y by omega)
    rw [Int.sub_mul, Int.mul_comm (x - y) 255] at m'
    rw [Int.min_eq_right h, Int.max_eq_left h]
    generalize x * p = u at *; generalize y * p = v at *
    omega
theorem mix_0 (x y : Int) : mixN x y 0 = x := by unfold mixN; omega
theorem mix_255 (x y : Int) : mixN x y 255 = y := by unfold mixN; omega
theorem mix_turn (x y p : Int) : mixN y x (255 - p) = mixN x y p := by
  unfold mixN
  rw [show (255 : Int) - (255 - p) = p by omega, Int.add_comm (y * p)]
theorem part_btw (up down x y : Int) (h1 : 0 < up) (h3 : 0 ≤ down) : min x y ≤ part up down x y ∧ part up down x y ≤ max x y := by
  unfold part
  have hs : 0 < up + down := by omega
  rcases Int.le_total x y with h | h
  · rw [Int.min_eq_left h, Int.max_eq_right h]
    have m1 := Int.mul_le_mul_of_nonneg_left h h3
    have m2 := Int.mul_le_mul_of_nonneg_left h (Int.le_of_lt h1)
    refine ⟨(Int.le_ediv_iff_mul_le hs).2 ?_, Int.lt_add_one_iff.1 ((Int.ediv_lt_iff_lt_mul hs).2 ?_)⟩
    · rw [Int.mul_add, Int.mul_comm x up, Int.mul_comm x down]; omega
    · rw [Int.add_mul, Int.mul_add, Int.mul_comm y up, Int.mul_comm y down]; omega
  · rw [Int.min_eq_right h, Int.max_eq_left h]
    have m1 := Int.mul_le_mul_of_nonneg_left h h3
    have m2 := Int.mul_le_mul_of_nonneg_left h (Int.le_of_lt h1)
    refine ⟨(Int.le_ediv_iff_mul_le hs).2 ?_, Int.lt_add_one_iff.1 ((Int.ediv_lt_iff_lt_mul hs).2 ?_)⟩
    · rw [Int.mul_add, Int.mul_comm y up, Int.mul_comm y down]; omega
    · rw [Int.add_mul, Int.mul_add, Int.mul_comm x up, Int.mul_comm x down]; omega
theorem ov_btw (aA bA x y : Int) (h1 : U8 aA) (h2 : U8 bA) : min x y ≤ ov aA bA x y ∧ ov aA bA x y ≤ max x y := by
  obtain ⟨m1, m2, m3⟩ := down_bd aA bA h1 h2
  unfold ov
  split
  · exact ⟨Int.min_le_right _ _, Int.le_max_right _ _⟩
  · exact part_btw _ _ _ _ (by have := h1.1; omega) m1
theorem ovA_max (aA bA : Int) (h1 : U8 aA) (h2 : U8 bA) : max aA bA ≤ ovA aA bA := by
  obtain ⟨m1, m2, m3⟩ := down_bd aA bA h1 h2
  obtain ⟨a0, a1⟩ := h1; obtain ⟨b0, b1⟩ := h2
  unfold ovA
  split
  · omega
  · have m4 := Int.mul_nonneg a0 (show 0 ≤ 255 - bA by omega)
    rw [Int.mul_sub] at m4
    rw [Int.sub_mul] at m1 ⊢
    generalize aA * bA = u at *
    omega
theorem ov_over (bA x y : Int) (hx : U8 x) : ov 255 bA x y = x := by
  obtain ⟨h0, h1⟩ := hx
  unfold ov part
  rw [if_neg (by decide)]
  simp only [Int.sub_self, Int.zero_mul, Int.add_zero]
  omega
theorem btw_any (x a b : Int) (w : World) (h : min a b ≤ x ∧ x ≤ max a b) : Calls Tryd.prog 15 #[.int .u8 x, .int .u8 a, .int .u8 b] w fun e w' => e = .returned (.bool true) ∧ w = w' := by
  obtain ⟨h0, h1⟩ := h
  have e0 : decide (min a b ≤ x) = true := by simpa using h0
  have e1 : decide (x ≤ max a b) = true := by simpa using h1
  clear h0 h1
  go_enter Tryd.func15, Tryd.ntmps15
  go_wp2
  go_ret
  exact ⟨rfl, rfl⟩
end Go.Proofs.YthecbopffdpefaaDoor
