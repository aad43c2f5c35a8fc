/-
  The law ColourBetween walked.
-/
import Derived.Test.YthecbopffdpefaaDoorDooN
namespace Go.Proofs.YthecbopffdpefaaDoor
open Go.RowKit
set_option linter.unusedVariables false
attribute [local go_sem] vwp vUpon_value vUpon_skip vUpon_enter vUpon_row
set_option linter.unusedSimpArgs false
set_option linter.unusedVariables false
attribute [local go_sem high] eql_colour neq_colour
set_option maxRecDepth 8000 in
set_option maxHeartbeats 16000000 in
theorem walk_ColourBetween (ar ag ab aA br bg bb bA p : Int) (w : World) (h1 : U8 ar) (h2 : U8 ag) (h3 : U8 ab) (h4 : U8 aA) (h5 : U8 br) (h6 : U8 bg) (h7 : U8 bb) (h8 : U8 bA) (h9 : U8 p) :
    Calls Tryd.prog 4 #[.agg #[.int .u8 (ar), .int .u8 (ag), .int .u8 (ab), .int .u8 (aA)], .agg #[.int .u8 (br), .int .u8 (bg), .int .u8 (bb), .int .u8 (bA)], .int .u8 p] w fun e w' => e = .returned (.bool true) ∧ Below w.heap.size w w' := by
  have C1 := fun w => over_any ar ag ab aA br bg bb bA w h1 h2 h3 h4 h5 h6 h7 h8
  have C2 := fun w => mix_any ar ag ab aA br bg bb bA p w h1 h2 h3 h4 h5 h6 h7 h8 h9
  have C3 := fun w => mix_any ar ag ab aA br bg bb bA 0 w h1 h2 h3 h4 h5 h6 h7 h8 u0
  have C4 := fun w => mix_any ar ag ab aA br bg bb bA 255 w h1 h2 h3 h4 h5 h6 h7 h8 u255
  have h9' : U8 (255 - p) := ⟨by have := h9.2; omega, by have := h9.1; omega⟩
  have C5 := fun w => mix_any br bg bb bA ar ag ab aA (255 - p) w h5 h6 h7 h8 h1 h2 h3 h4 h9'
  simp only [mix_0] at C3
  simp only [mix_255] at C4
  simp only [mix_turn] at C5
  have B1 := mix_btw ar br p h1 h5 h9
  have B2 := mix_btw ag bg p h2 h6 h9
  have B3 := mix_btw ab bb p h3 h7 h9
  have B4 := mix_btw aA bA p h4 h8 h9
  have B5 := ov_btw aA bA ar br h4 h8
  have B6 := ov_btw aA bA ag bg h4 h8
  have B7 := ov_btw aA bA ab bb h4 h8
  have G0 := ovA_max aA bA h4 h8
  have G1 : aA = 255 → ov aA bA ar br = ar ∧ ov aA bA ag bg = ag ∧ ov aA bA ab bb = ab ∧ ovA aA bA = aA := fun h => by
    subst h
    exact ⟨ov_over _ _ _ h1, ov_over _ _ _ h2, ov_over _ _ _ h3, ovA_full _⟩
  have G2 : bA = 255 → ovA aA bA = 255 := fun h => by subst h; exact ovA_back' _ h4
  generalize ov aA bA ar br = o0 at *
  generalize ov aA bA ag bg = o1 at *
  generalize ov aA bA ab bb = o2 at *
  generalize ovA aA bA = o3 at *
  generalize mixN ar br p = m0 at *
  generalize mixN ag bg p = m1 at *
  generalize mixN ab bb p = m2 at *
  generalize mixN aA bA p = m3 at *
  replace C1 := Lib.hid C1
  replace C2 := Lib.hid C2
  replace C3 := Lib.hid C3
  replace C4 := Lib.hid C4
  replace C5 := Lib.hid C5
  replace B1 := Lib.hid (fun w => btw_any _ _ _ w B1)
  replace B2 := Lib.hid (fun w => btw_any _ _ _ w B2)
  replace B3 := Lib.hid (fun w => btw_any _ _ _ w B3)
  replace B4 := Lib.hid (fun w => btw_any _ _ _ w B4)
  replace B5 := Lib.hid (fun w => btw_any _ _ _ w B5)
  replace B6 := Lib.hid (fun w => btw_any _ _ _ w B6)
  replace B7 := Lib.hid (fun w => btw_any _ _ _ w B7)
  have g0 : decide (max aA bA ≤ o3) = true := by simpa using G0
  obtain ⟨p0, p1⟩ := h9
  obtain ⟨a0, a1⟩ := h4
  obtain ⟨b0, b1⟩ := h8
  replace G1 := Lib.hid G1
  replace G2 := Lib.hid G2
  clear G0 h1 h2 h3 h5 h6 h7 h9'
  go_enter Tryd.func4, Tryd.ntmps4
  go_wp2_with fail
  refine wp_region_tame (Held w 2 [(⟨w.heap.size, 0, none⟩, .int .u8 (ar)), (⟨w.heap.size, 1, none⟩, .int .u8 (ag)), (⟨w.heap.size, 2, none⟩, .int .u8 (ab)), (⟨w.heap.size, 3, none⟩, .int .u8 (aA)), (⟨w.heap.size + 1, 0, none⟩, .int .u8 (br)), (⟨w.heap.size + 1, 1, none⟩, .int .u8 (bg)), (⟨w.heap.size + 1, 2, none⟩, .int .u8 (bb)), (⟨w.heap.size + 1, 3, none⟩, .int .u8 (bA))]) (fun _ => .cells #[.int .u8 0, .int .u8 0, .int .u8 0, .int .u8 0] 23 (0, 0)) (w.heap.size + 2) 7 9 (by kernel_rfl) (by kernel_rfl) (by omega) (by decide) (by kernel_rfl) (by kernel_rfl) (Held.stab _ _ _) (by (try simp) <;> omega) ⟨(by repeat (first | exact Below.refl _ _ | assumption | refine Below.drew ?_ | refine Below.alloc ?_ (by (try simp) <;> omega) _ | refine Below.setCell ?_ (by (try simp) <;> omega) _ | (refine Below.trans ?_ (Below.mono (by assumption) (by (try simp) <;> omega))))), (by (try simp) <;> omega), (by first | exact trivial | (simp only [Cells]; go_simp))⟩ ?_
  simp only [List.take_succ_cons, List.take_zero, List.drop_succ_cons, List.drop_zero]
  repeat (first | (refine' wpStB_do _ _ _; rotate_left; (focus rfl); (focus (intro w1 hS R hR; have hc := hS.cells; simp only [Cells] at hc; obtain ⟨hco, hfo⟩ := bcell hS.old; go_simp; (try go_bits); first | exact hR _ (Below.refl _ _) | ((go_at_call 13; (with_reducible refine (C1.out _).mono ?_); rintro e w2 ⟨rfl, hb2⟩; exact ⟨_, rfl, hR _ hb2⟩)) | ((go_at_call 14; (with_reducible refine (C2.out _).mono ?_); rintro e w2 ⟨rfl, hb2⟩; exact ⟨_, rfl, hR _ hb2⟩)))); simp only [Act.put, List.setIfInBounds_toArray, List.set_cons_zero, List.set_cons_succ]) | (refine wpStB_pass ?_ ?_; (focus rfl); simp only [Act.put, List.setIfInBounds_toArray, List.set_cons_zero, List.set_cons_succ]))
  refine wpStB_nil ?_
  (refine wpNews_do rfl (by intro w1 hS R hR; go_simp; exact hR) ?_; intro b7 hnb7; simp only [Act.put, List.setIfInBounds_toArray, List.set_cons_zero, List.set_cons_succ]; simp only [ptrTo])
  (refine wpNews_do rfl (by intro w1 hS R hR; go_simp; exact hR) ?_; intro b8 hnb8; simp only [Act.put, List.setIfInBounds_toArray, List.set_cons_zero, List.set_cons_succ]; simp only [ptrTo])
  refine wpNews_nil ?_
  intro w9 hS hU hN
  have hb7 : w.heap.size + 2 ≤ b7 := Nat.le_of_not_lt hnb7
  have hb8 : w.heap.size + 2 ≤ b8 := Nat.le_of_not_lt fun h => hnb8 (.inl h)
  have n78 : ¬ b7 = b8 := fun h => hnb8 (.inr h.symm)
  have n87 : ¬ b8 = b7 := fun h => hnb8 (.inr h)
  have hl7 : b7 < w9.heap.size := hN b7 (.inl (.inr rfl))
  have hl8 : b8 < w9.heap.size := hN b8 (.inr rfl)
  have hc := hS.cells; have hb := hS.old; have hz := hS.size; clear hS hN; simp only [Cells] at hc
  obtain ⟨hc0, hf0, hc1, hf1, hc2, hf2, hc3, hf3, hc4, hf4, hc5, hf5, hc6, hf6, hc7, hf7, _⟩ := hc
  have hu7 := hU.1.2
  have hu8 := hU.2
  have k0s : w9.cell? ⟨b7, 0, none⟩ = some (.int .u8 0) := new_cell hu7 rfl
  have k1s : w9.cell? ⟨b7, 1, none⟩ = some (.int .u8 0) := new_cell hu7 rfl
  have k2s : w9.cell? ⟨b7, 2, none⟩ = some (.int .u8 0) := new_cell hu7 rfl
  have k3s : w9.cell? ⟨b7, 3, none⟩ = some (.int .u8 0) := new_cell hu7 rfl
  have k4s := new_free hu7 0
  have k5s := new_free hu7 1
  have k6s := new_free hu7 2
  have k7s := new_free hu7 3
  have k0t : w9.cell? ⟨b8, 0, none⟩ = some (.int .u8 0) := new_cell hu8 rfl
  have k1t : w9.cell? ⟨b8, 1, none⟩ = some (.int .u8 0) := new_cell hu8 rfl
  have k2t : w9.cell? ⟨b8, 2, none⟩ = some (.int .u8 0) := new_cell hu8 rfl
  have k3t : w9.cell? ⟨b8, 3, none⟩ = some (.int .u8 0) := new_cell hu8 rfl
  have k4t := new_free hu8 0
  have k5t := new_free hu8 1
  have k6t := new_free hu8 2
  have k7t := new_free hu8 3
  clear hU hnb7 hnb8 hu7 hu8
  have n1 : ¬ w.heap.size = b7 := by omega
  have n2 : ¬ b7 = w.heap.size := by omega
  have n3 : ¬ w.heap.size = b8 := by omega
  have n4 : ¬ b8 = w.heap.size := by omega
  have n5 : ¬ w.heap.size + 1 = b7 := by omega
  have n6 : ¬ b7 = w.heap.size + 1 := by omega
  have n7 : ¬ w.heap.size + 1 = b8 := by omega
  have n8 : ¬ b8 = w.heap.size + 1 := by omega
  go_wp2_with fail
  have k7 : w.heap.size ≤ b7 := by omega
  have k8 : w.heap.size ≤ b8 := by omega
  have hbW : Below w.heap.size w (((((((((w9).setCell ⟨b7, 0, none⟩ (.int .u8 o0)).setCell ⟨b7, 1, none⟩ (.int .u8 o1)).setCell ⟨b7, 2, none⟩ (.int .u8 o2)).setCell ⟨b7, 3, none⟩ (.int .u8 o3)).setCell ⟨b8, 0, none⟩ (.int .u8 m0)).setCell ⟨b8, 1, none⟩ (.int .u8 m1)).setCell ⟨b8, 2, none⟩ (.int .u8 m2)).setCell ⟨b8, 3, none⟩ (.int .u8 m3)) := (((((((hb.setCell k7 _).setCell k7 _).setCell k7 _).setCell k7 _).setCell k8 _).setCell k8 _).setCell k8 _).setCell k8 _
  have la : w.heap.size < (((((((((w9).setCell ⟨b7, 0, none⟩ (.int .u8 o0)).setCell ⟨b7, 1, none⟩ (.int .u8 o1)).setCell ⟨b7, 2, none⟩ (.int .u8 o2)).setCell ⟨b7, 3, none⟩ (.int .u8 o3)).setCell ⟨b8, 0, none⟩ (.int .u8 m0)).setCell ⟨b8, 1, none⟩ (.int .u8 m1)).setCell ⟨b8, 2, none⟩ (.int .u8 m2)).setCell ⟨b8, 3, none⟩ (.int .u8 m3)).heap.size := by simp; omega
  have lb : w.heap.size + 1 < (((((((((w9).setCell ⟨b7, 0, none⟩ (.int .u8 o0)).setCell ⟨b7, 1, none⟩ (.int .u8 o1)).setCell ⟨b7, 2, none⟩ (.int .u8 o2)).setCell ⟨b7, 3, none⟩ (.int .u8 o3)).setCell ⟨b8, 0, none⟩ (.int .u8 m0)).setCell ⟨b8, 1, none⟩ (.int .u8 m1)).setCell ⟨b8, 2, none⟩ (.int .u8 m2)).setCell ⟨b8, 3, none⟩ (.int .u8 m3)).heap.size := by simp; omega
  have l7 : b7 < (((((((((w9).setCell ⟨b7, 0, none⟩ (.int .u8 o0)).setCell ⟨b7, 1, none⟩ (.int .u8 o1)).setCell ⟨b7, 2, none⟩ (.int .u8 o2)).setCell ⟨b7, 3, none⟩ (.int .u8 o3)).setCell ⟨b8, 0, none⟩ (.int .u8 m0)).setCell ⟨b8, 1, none⟩ (.int .u8 m1)).setCell ⟨b8, 2, none⟩ (.int .u8 m2)).setCell ⟨b8, 3, none⟩ (.int .u8 m3)).heap.size := by simp; omega
  have l8 : b8 < (((((((((w9).setCell ⟨b7, 0, none⟩ (.int .u8 o0)).setCell ⟨b7, 1, none⟩ (.int .u8 o1)).setCell ⟨b7, 2, none⟩ (.int .u8 o2)).setCell ⟨b7, 3, none⟩ (.int .u8 o3)).setCell ⟨b8, 0, none⟩ (.int .u8 m0)).setCell ⟨b8, 1, none⟩ (.int .u8 m1)).setCell ⟨b8, 2, none⟩ (.int .u8 m2)).setCell ⟨b8, 3, none⟩ (.int .u8 m3)).heap.size := by simp; omega
  have k0x : (((((((((w9).setCell ⟨b7, 0, none⟩ (.int .u8 o0)).setCell ⟨b7, 1, none⟩ (.int .u8 o1)).setCell ⟨b7, 2, none⟩ (.int .u8 o2)).setCell ⟨b7, 3, none⟩ (.int .u8 o3)).setCell ⟨b8, 0, none⟩ (.int .u8 m0)).setCell ⟨b8, 1, none⟩ (.int .u8 m1)).setCell ⟨b8, 2, none⟩ (.int .u8 m2)).setCell ⟨b8, 3, none⟩ (.int .u8 m3)).cell? ⟨w.heap.size, 0, none⟩ = some (.int .u8 ar) := by go_simp
  have k1x : (((((((((w9).setCell ⟨b7, 0, none⟩ (.int .u8 o0)).setCell ⟨b7, 1, none⟩ (.int .u8 o1)).setCell ⟨b7, 2, none⟩ (.int .u8 o2)).setCell ⟨b7, 3, none⟩ (.int .u8 o3)).setCell ⟨b8, 0, none⟩ (.int .u8 m0)).setCell ⟨b8, 1, none⟩ (.int .u8 m1)).setCell ⟨b8, 2, none⟩ (.int .u8 m2)).setCell ⟨b8, 3, none⟩ (.int .u8 m3)).cell? ⟨w.heap.size, 1, none⟩ = some (.int .u8 ag) := by go_simp
  have k2x : (((((((((w9).setCell ⟨b7, 0, none⟩ (.int .u8 o0)).setCell ⟨b7, 1, none⟩ (.int .u8 o1)).setCell ⟨b7, 2, none⟩ (.int .u8 o2)).setCell ⟨b7, 3, none⟩ (.int .u8 o3)).setCell ⟨b8, 0, none⟩ (.int .u8 m0)).setCell ⟨b8, 1, none⟩ (.int .u8 m1)).setCell ⟨b8, 2, none⟩ (.int .u8 m2)).setCell ⟨b8, 3, none⟩ (.int .u8 m3)).cell? ⟨w.heap.size, 2, none⟩ = some (.int .u8 ab) := by go_simp
  have k3x : (((((((((w9).setCell ⟨b7, 0, none⟩ (.int .u8 o0)).setCell ⟨b7, 1, none⟩ (.int .u8 o1)).setCell ⟨b7, 2, none⟩ (.int .u8 o2)).setCell ⟨b7, 3, none⟩ (.int .u8 o3)).setCell ⟨b8, 0, none⟩ (.int .u8 m0)).setCell ⟨b8, 1, none⟩ (.int .u8 m1)).setCell ⟨b8, 2, none⟩ (.int .u8 m2)).setCell ⟨b8, 3, none⟩ (.int .u8 m3)).cell? ⟨w.heap.size, 3, none⟩ = some (.int .u8 aA) := by go_simp
  have k0y : (((((((((w9).setCell ⟨b7, 0, none⟩ (.int .u8 o0)).setCell ⟨b7, 1, none⟩ (.int .u8 o1)).setCell ⟨b7, 2, none⟩ (.int .u8 o2)).setCell ⟨b7, 3, none⟩ (.int .u8 o3)).setCell ⟨b8, 0, none⟩ (.int .u8 m0)).setCell ⟨b8, 1, none⟩ (.int .u8 m1)).setCell ⟨b8, 2, none⟩ (.int .u8 m2)).setCell ⟨b8, 3, none⟩ (.int .u8 m3)).cell? ⟨w.heap.size + 1, 0, none⟩ = some (.int .u8 br) := by go_simp
  have k1y : (((((((((w9).setCell ⟨b7, 0, none⟩ (.int .u8 o0)).setCell ⟨b7, 1, none⟩ (.int .u8 o1)).setCell ⟨b7, 2, none⟩ (.int .u8 o2)).setCell ⟨b7, 3, none⟩ (.int .u8 o3)).setCell ⟨b8, 0, none⟩ (.int .u8 m0)).setCell ⟨b8, 1, none⟩ (.int .u8 m1)).setCell ⟨b8, 2, none⟩ (.int .u8 m2)).setCell ⟨b8, 3, none⟩ (.int .u8 m3)).cell? ⟨w.heap.size + 1, 1, none⟩ = some (.int .u8 bg) := by go_simp
  have k2y : (((((((((w9).setCell ⟨b7, 0, none⟩ (.int .u8 o0)).setCell ⟨b7, 1, none⟩ (.int .u8 o1)).setCell ⟨b7, 2, none⟩ (.int .u8 o2)).setCell ⟨b7, 3, none⟩ (.int .u8 o3)).setCell ⟨b8, 0, none⟩ (.int .u8 m0)).setCell ⟨b8, 1, none⟩ (.int .u8 m1)).setCell ⟨b8, 2, none⟩ (.int .u8 m2)).setCell ⟨b8, 3, none⟩ (.int .u8 m3)).cell? ⟨w.heap.size + 1, 2, none⟩ = some (.int .u8 bb) := by go_simp
  have k3y : (((((((((w9).setCell ⟨b7, 0, none⟩ (.int .u8 o0)).setCell ⟨b7, 1, none⟩ (.int .u8 o1)).setCell ⟨b7, 2, none⟩ (.int .u8 o2)).setCell ⟨b7, 3, none⟩ (.int .u8 o3)).setCell ⟨b8, 0, none⟩ (.int .u8 m0)).setCell ⟨b8, 1, none⟩ (.int .u8 m1)).setCell ⟨b8, 2, none⟩ (.int .u8 m2)).setCell ⟨b8, 3, none⟩ (.int .u8 m3)).cell? ⟨w.heap.size + 1, 3, none⟩ = some (.int .u8 bA) := by go_simp
  have k0z : (((((((((w9).setCell ⟨b7, 0, none⟩ (.int .u8 o0)).setCell ⟨b7, 1, none⟩ (.int .u8 o1)).setCell ⟨b7, 2, none⟩ (.int .u8 o2)).setCell ⟨b7, 3, none⟩ (.int .u8 o3)).setCell ⟨b8, 0, none⟩ (.int .u8 m0)).setCell ⟨b8, 1, none⟩ (.int .u8 m1)).setCell ⟨b8, 2, none⟩ (.int .u8 m2)).setCell ⟨b8, 3, none⟩ (.int .u8 m3)).cell? ⟨b7, 0, none⟩ = some (.int .u8 o0) := by go_simp
  have k1z : (((((((((w9).setCell ⟨b7, 0, none⟩ (.int .u8 o0)).setCell ⟨b7, 1, none⟩ (.int .u8 o1)).setCell ⟨b7, 2, none⟩ (.int .u8 o2)).setCell ⟨b7, 3, none⟩ (.int .u8 o3)).setCell ⟨b8, 0, none⟩ (.int .u8 m0)).setCell ⟨b8, 1, none⟩ (.int .u8 m1)).setCell ⟨b8, 2, none⟩ (.int .u8 m2)).setCell ⟨b8, 3, none⟩ (.int .u8 m3)).cell? ⟨b7, 1, none⟩ = some (.int .u8 o1) := by go_simp
  have k2z : (((((((((w9).setCell ⟨b7, 0, none⟩ (.int .u8 o0)).setCell ⟨b7, 1, none⟩ (.int .u8 o1)).setCell ⟨b7, 2, none⟩ (.int .u8 o2)).setCell ⟨b7, 3, none⟩ (.int .u8 o3)).setCell ⟨b8, 0, none⟩ (.int .u8 m0)).setCell ⟨b8, 1, none⟩ (.int .u8 m1)).setCell ⟨b8, 2, none⟩ (.int .u8 m2)).setCell ⟨b8, 3, none⟩ (.int .u8 m3)).cell? ⟨b7, 2, none⟩ = some (.int .u8 o2) := by go_simp
  have k3z : (((((((((w9).setCell ⟨b7, 0, none⟩ (.int .u8 o0)).setCell ⟨b7, 1, none⟩ (.int .u8 o1)).setCell ⟨b7, 2, none⟩ (.int .u8 o2)).setCell ⟨b7, 3, none⟩ (.int .u8 o3)).setCell ⟨b8, 0, none⟩ (.int .u8 m0)).setCell ⟨b8, 1, none⟩ (.int .u8 m1)).setCell ⟨b8, 2, none⟩ (.int .u8 m2)).setCell ⟨b8, 3, none⟩ (.int .u8 m3)).cell? ⟨b7, 3, none⟩ = some (.int .u8 o3) := by go_simp
  have k0u : (((((((((w9).setCell ⟨b7, 0, none⟩ (.int .u8 o0)).setCell ⟨b7, 1, none⟩ (.int .u8 o1)).setCell ⟨b7, 2, none⟩ (.int .u8 o2)).setCell ⟨b7, 3, none⟩ (.int .u8 o3)).setCell ⟨b8, 0, none⟩ (.int .u8 m0)).setCell ⟨b8, 1, none⟩ (.int .u8 m1)).setCell ⟨b8, 2, none⟩ (.int .u8 m2)).setCell ⟨b8, 3, none⟩ (.int .u8 m3)).cell? ⟨b8, 0, none⟩ = some (.int .u8 m0) := by go_simp
  have k1u : (((((((((w9).setCell ⟨b7, 0, none⟩ (.int .u8 o0)).setCell ⟨b7, 1, none⟩ (.int .u8 o1)).setCell ⟨b7, 2, none⟩ (.int .u8 o2)).setCell ⟨b7, 3, none⟩ (.int .u8 o3)).setCell ⟨b8, 0, none⟩ (.int .u8 m0)).setCell ⟨b8, 1, none⟩ (.int .u8 m1)).setCell ⟨b8, 2, none⟩ (.int .u8 m2)).setCell ⟨b8, 3, none⟩ (.int .u8 m3)).cell? ⟨b8, 1, none⟩ = some (.int .u8 m1) := by go_simp
  have k2u : (((((((((w9).setCell ⟨b7, 0, none⟩ (.int .u8 o0)).setCell ⟨b7, 1, none⟩ (.int .u8 o1)).setCell ⟨b7, 2, none⟩ (.int .u8 o2)).setCell ⟨b7, 3, none⟩ (.int .u8 o3)).setCell ⟨b8, 0, none⟩ (.int .u8 m0)).setCell ⟨b8, 1, none⟩ (.int .u8 m1)).setCell ⟨b8, 2, none⟩ (.int .u8 m2)).setCell ⟨b8, 3, none⟩ (.int .u8 m3)).cell? ⟨b8, 2, none⟩ = some (.int .u8 m2) := by go_simp
  have k3u : (((((((((w9).setCell ⟨b7, 0, none⟩ (.int .u8 o0)).setCell ⟨b7, 1, none⟩ (.int .u8 o1)).setCell ⟨b7, 2, none⟩ (.int .u8 o2)).setCell ⟨b7, 3, none⟩ (.int .u8 o3)).setCell ⟨b8, 0, none⟩ (.int .u8 m0)).setCell ⟨b8, 1, none⟩ (.int .u8 m1)).setCell ⟨b8, 2, none⟩ (.int .u8 m2)).setCell ⟨b8, 3, none⟩ (.int .u8 m3)).cell? ⟨b8, 3, none⟩ = some (.int .u8 m3) := by go_simp
  generalize (((((((((w9).setCell ⟨b7, 0, none⟩ (.int .u8 o0)).setCell ⟨b7, 1, none⟩ (.int .u8 o1)).setCell ⟨b7, 2, none⟩ (.int .u8 o2)).setCell ⟨b7, 3, none⟩ (.int .u8 o3)).setCell ⟨b8, 0, none⟩ (.int .u8 m0)).setCell ⟨b8, 1, none⟩ (.int .u8 m1)).setCell ⟨b8, 2, none⟩ (.int .u8 m2)).setCell ⟨b8, 3, none⟩ (.int .u8 m3)) = W at *
  clear hc0 hc1 hc2 hc3 hc4 hc5 hc6 hc7 hf0 hf1 hf2 hf3 hf4 hf5 hf6 hf7 hb hz hl7 hl8 k0s k1s k2s k3s k4s k5s k6s k7s k0t k1t k2t k3t k4t k5t k6t k7t C1 C2
  have E1 := eq4_refl ar ag ab aA
  have E2 := eq4_refl br bg bb bA
  have E3 := eq4_refl m0 m1 m2 m3
  have hA : ((aA == 0) = true ∧ decide (aA < 255) = true) ∨ ((aA == 0) = false ∧ decide (aA < 255) = true) ∨ ((aA == 0) = false ∧ decide (aA < 255) = false ∧ eq4 o0 o1 o2 o3 ar ag ab aA = true) := by
    by_cases c : aA = 0
    · exact .inl ⟨by simpa using c, by simp; omega⟩
    · by_cases c' : aA < 255
      · exact .inr (.inl ⟨by simpa using c, by simpa using c'⟩)
      · obtain ⟨e1, e2, e3, e4⟩ := G1.out (by omega)
        exact .inr (.inr ⟨by simpa using c, by simpa using c', eq4_iff.2 ⟨e1, e2, e3, e4⟩⟩)
  have hB : ((bA == 0) = true ∧ decide (bA < 255) = true) ∨ ((bA == 0) = false ∧ decide (bA < 255) = true) ∨ ((bA == 0) = false ∧ decide (bA < 255) = false ∧ (o3 == 255) = true) := by
    by_cases c : bA = 0
    · exact .inl ⟨by simpa using c, by simp; omega⟩
    · by_cases c' : bA < 255
      · exact .inr (.inl ⟨by simpa using c, by simpa using c'⟩)
      · exact .inr (.inr ⟨by simpa using c, by simpa using c', by simpa using G2.out (by omega)⟩)
  clear G1 G2
  rcases hA with ⟨f1, f2⟩ | ⟨f1, f2⟩ | ⟨f1, f2, f3⟩ <;> rcases hB with ⟨f4, f5⟩ | ⟨f4, f5⟩ | ⟨f4, f5, f6⟩
  all_goals
    go_wp2_with (first | (go_at_call 15; (with_reducible refine (B1.out _).mono ?_); rintro e w1 ⟨rfl, rfl⟩) | (go_at_call 15; (with_reducible refine (B2.out _).mono ?_); rintro e w1 ⟨rfl, rfl⟩) | (go_at_call 15; (with_reducible refine (B3.out _).mono ?_); rintro e w1 ⟨rfl, rfl⟩) | (go_at_call 15; (with_reducible refine (B4.out _).mono ?_); rintro e w1 ⟨rfl, rfl⟩) | (go_at_call 15; (with_reducible refine (B5.out _).mono ?_); rintro e w1 ⟨rfl, rfl⟩) | (go_at_call 15; (with_reducible refine (B6.out _).mono ?_); rintro e w1 ⟨rfl, rfl⟩) | (go_at_call 15; (with_reducible refine (B7.out _).mono ?_); rintro e w1 ⟨rfl, rfl⟩) | go_in)
    refine wp_region_steady (Held W 0 []) (by kernel_rfl) (by kernel_rfl) ⟨(by repeat (first | exact Below.refl _ _ | assumption | refine Below.drew ?_ | refine Below.alloc ?_ (by (try simp) <;> omega) _ | refine Below.setCell ?_ (by (try simp) <;> omega) _ | (refine Below.trans ?_ (Below.mono (by assumption) (by (try simp) <;> omega))))), (by (try simp) <;> omega), (by first | exact trivial | (simp only [Cells]; go_simp))⟩ ?_
    repeat (first | (refine' wpSteady_do _ _ _; rotate_left; (focus rfl); (focus (intro w1 hS R hR; have hc := hS.cells; simp only [Cells] at hc; obtain ⟨hco, hfo⟩ := bcell hS.old; go_simp; (try go_bits); first | exact hR _ hS | ((go_at_call 14; (with_reducible refine (C3.out _).mono ?_); rintro e w2 ⟨rfl, hb2⟩; exact ⟨_, rfl, hR _ (hS.below hb2)⟩)) | ((go_at_call 14; (with_reducible refine (C4.out _).mono ?_); rintro e w2 ⟨rfl, hb2⟩; exact ⟨_, rfl, hR _ (hS.below hb2)⟩)) | ((go_at_call 14; (with_reducible refine (C5.out _).mono ?_); rintro e w2 ⟨rfl, hb2⟩; exact ⟨_, rfl, hR _ (hS.below hb2)⟩)))); simp only [Act.put, List.setIfInBounds_toArray, List.set_cons_zero, List.set_cons_succ]) | (refine wpSteady_pass ?_ ?_; (focus rfl); simp only [Act.put, List.setIfInBounds_toArray, List.set_cons_zero, List.set_cons_succ]))
    refine wpSteady_nil (fun uC hSC => ?_)
    have hcC := hSC.cells; have hbC := hSC.old; have hzC := hSC.size; clear hSC; simp only [Cells] at hcC; obtain ⟨hcoC, hfoC⟩ := bcell hbC
    have la' : w.heap.size < uC.heap.size := by omega
    have lb' : w.heap.size + 1 < uC.heap.size := by omega
    have l7' : b7 < uC.heap.size := by omega
    have l8' : b8 < uC.heap.size := by omega
    go_wp2_with (first | (go_at_call 16; (with_reducible refine (alive_any _).mono ?_); rintro e w3 ⟨rfl, hb3⟩; obtain ⟨hc3, hf3⟩ := bcell hb3) | go_in)
    go_ret
    exact ⟨rfl, (hbW.trans (hbC.mono hbW.size)).trans (hb3.mono (Nat.le_trans hbW.size hbC.size))⟩
end Go.Proofs.YthecbopffdpefaaDoor
