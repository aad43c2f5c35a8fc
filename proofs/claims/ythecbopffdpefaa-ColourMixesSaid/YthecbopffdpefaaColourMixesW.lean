/-
  The law ColourMixes walked.
-/
import Derived.Test.YthecbopffdpefaaColC
namespace Go.Proofs.Ythecbopffdpefaa
open Go.RowKit
set_option linter.unusedVariables false
attribute [local go_sem] vwp vUpon_value vUpon_skip vUpon_enter vUpon_row
set_option maxHeartbeats 2000000 in
theorem walk_ColourMixes (ar ag ab aA br bg bb bA p : Int) (w : World) (h1 : U8 ar) (h2 : U8 ag) (h3 : U8 ab) (h4 : U8 aA) (h5 : U8 br) (h6 : U8 bg) (h7 : U8 bb) (h8 : U8 bA) (h9 : U8 p) :
    Calls Try.prog 3 #[.agg #[.int .u8 (ar), .int .u8 (ag), .int .u8 (ab), .int .u8 (aA)], .agg #[.int .u8 (br), .int .u8 (bg), .int .u8 (bb), .int .u8 (bA)], .int .u8 p] w fun e w' => e = .returned (.bool true) ∧ Below w.heap.size w w' := by
  have C1 := fun w => over_any ar ag ab aA br bg bb bA w h1 h2 h3 h4 h5 h6 h7 h8
  have C2 := fun w => rover_any ar ag ab aA br bg bb bA w h1 h2 h3 h4 h5 h6 h7 h8
  have C3 := fun w => mix_any ar ag ab aA br bg bb bA p w h1 h2 h3 h4 h5 h6 h7 h8 h9
  have C4 := fun w => rmix_any ar ag ab aA br bg bb bA p w h1 h2 h3 h4 h5 h6 h7 h8 h9
  have C5 := fun w => light_any ar ag ab aA w h1 h2 h3 h4
  have C6 := fun w => rlight_any ar ag ab aA w h1 h2 h3 h4
  have C7 := fun w => clear_any ar ag ab aA br bg bb bA w h1 h2 h3 h4 h5 h6 h7 h8
  have C8 := fun w => rclear_any ar ag ab aA br bg bb bA w h1 h2 h3 h4 h5 h6 h7 h8
  replace C1 := Lib.hid C1
  replace C2 := Lib.hid C2
  replace C3 := Lib.hid C3
  replace C4 := Lib.hid C4
  replace C5 := Lib.hid C5
  replace C6 := Lib.hid C6
  replace C7 := Lib.hid C7
  replace C8 := Lib.hid C8
  generalize ov aA bA ar br = x1 at *
  generalize ov aA bA ag bg = x2 at *
  generalize ov aA bA ab bb = x3 at *
  generalize ovA aA bA = x4 at *
  generalize mixN ar br p = y1 at *
  generalize mixN ag bg p = y2 at *
  generalize mixN ab bb p = y3 at *
  generalize mixN aA bA p = y4 at *
  generalize lightN ar ag ab aA = z1 at *
  generalize clearC ar ag ab aA br bg bb bA = z2 at *
  go_enter Try.func3, Try.ntmps3
  go_wp2
  refine wp_region_steady (Held w 2 [(⟨w.heap.size, 0, none⟩, .int .u8 (ar)), (⟨w.heap.size, 1, none⟩, .int .u8 (ag)), (⟨w.heap.size, 2, none⟩, .int .u8 (ab)), (⟨w.heap.size, 3, none⟩, .int .u8 (aA)), (⟨w.heap.size + 1, 0, none⟩, .int .u8 (br)), (⟨w.heap.size + 1, 1, none⟩, .int .u8 (bg)), (⟨w.heap.size + 1, 2, none⟩, .int .u8 (bb)), (⟨w.heap.size + 1, 3, none⟩, .int .u8 (bA))]) (by kernel_rfl) (by kernel_rfl) ⟨(by repeat (first | exact Below.refl _ _ | assumption | refine Below.drew ?_ | refine Below.alloc ?_ (by (try simp) <;> omega) _ | refine Below.setCell ?_ (by (try simp) <;> omega) _)), (by (try simp) <;> omega), (by simp only [Cells]; go_simp)⟩ ?_
  repeat (first | (refine' wpSteady_do (by rfl) _ _; rotate_left; (focus (intro w1 hS R hR; have hc := hS.cells; simp only [Cells] at hc; go_simp; first | exact hR _ hS | ((go_at_call 5; (with_reducible refine (C1.out _).mono ?_); rintro e w2 ⟨rfl, hb2⟩; exact ⟨_, rfl, hR _ (hS.below hb2)⟩)) | ((go_at_call 6; (with_reducible refine (C2.out _).mono ?_); rintro e w2 ⟨rfl, hb2⟩; exact ⟨_, rfl, hR _ (hS.below hb2)⟩)) | ((go_at_call 7; (with_reducible refine (C3.out _).mono ?_); rintro e w2 ⟨rfl, hb2⟩; exact ⟨_, rfl, hR _ (hS.below hb2)⟩)) | ((go_at_call 8; (with_reducible refine (C4.out _).mono ?_); rintro e w2 ⟨rfl, hb2⟩; exact ⟨_, rfl, hR _ (hS.below hb2)⟩)) | ((go_at_call 9; (with_reducible refine (C5.out _).mono ?_); rintro e w2 ⟨rfl, hb2⟩; exact ⟨_, rfl, hR _ (hS.below hb2)⟩)) | ((go_at_call 10; (with_reducible refine (C6.out _).mono ?_); rintro e w2 ⟨rfl, hb2⟩; exact ⟨_, rfl, hR _ (hS.below hb2)⟩)) | ((go_at_call 11; (with_reducible refine (C7.out _).mono ?_); rintro e w2 ⟨rfl, hb2⟩; exact ⟨_, rfl, hR _ (hS.below hb2)⟩)) | ((go_at_call 12; (with_reducible refine (C8.out _).mono ?_); rintro e w2 ⟨rfl, hb2⟩; exact ⟨_, rfl, hR _ (hS.below hb2)⟩)))); simp only [Act.put, List.setIfInBounds_toArray, List.set_cons_zero, List.set_cons_succ]) | (refine wpSteady_pass (by rfl) ?_; simp only [Act.put, List.setIfInBounds_toArray, List.set_cons_zero, List.set_cons_succ]))
  refine wpSteady_nil (fun w1 hS => ?_)
  have hc := hS.cells; have hb := hS.old; have hz := hS.size; clear hS; simp only [Cells] at hc
  go_wp2
  go_ret
  exact ⟨rfl, (by repeat (first | exact Below.refl _ _ | assumption | refine Below.drew ?_ | refine Below.alloc ?_ (by (try simp) <;> omega) _ | refine Below.setCell ?_ (by (try simp) <;> omega) _ | (refine Below.trans ?_ (Below.mono (by assumption) (by (try simp) <;> omega)))))⟩
end Go.Proofs.Ythecbopffdpefaa
