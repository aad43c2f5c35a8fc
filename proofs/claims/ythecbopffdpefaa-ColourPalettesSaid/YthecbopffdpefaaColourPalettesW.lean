/-
  The law ColourPalettes walked.
-/
import Derived.Test.YthecbopffdpefaaColM
namespace Go.Proofs.Ythecbopffdpefaa
open Go.RowKit
set_option linter.unusedVariables false
attribute [local go_sem] vwp vUpon_value vUpon_skip vUpon_enter vUpon_row
set_option maxHeartbeats 2000000 in
theorem walk_ColourPalettes (r g b a n : Int) (w : World) (h1 : U8 r) (h2 : U8 g) (h3 : U8 b) (h4 : U8 a) (h5 : U8 n) :
    Calls Try.prog 4 #[.agg #[.int .u8 (r), .int .u8 (g), .int .u8 (b), .int .u8 (a)], .int .u8 n] w fun e w' => e = .returned (.bool true) ∧ Below w.heap.size w w' := by
  have C1 := fun w => six_any r g b a w h1 h2 h3 h4
  have C2 := fun w => rsix_any r g b a w h1 h2 h3 h4
  have C3 := fun w => many_any r g b a w h1 h2 h3 h4
  have C4 := fun w => rmany_any r g b a w h1 h2 h3 h4
  have C5 := fun w => back_many n w h5
  have C6 := fun w => rback_many n w h5
  have C7 := fun w => back_few n w h5
  have C8 := fun w => rback_few n w h5
  replace C1 := Lib.hid C1
  replace C2 := Lib.hid C2
  replace C3 := Lib.hid C3
  replace C4 := Lib.hid C4
  replace C5 := Lib.hid C5
  replace C6 := Lib.hid C6
  replace C7 := Lib.hid C7
  replace C8 := Lib.hid C8
  generalize numN r g b a 16 = x1 at *
  generalize numN r g b a 256 = x2 at *
  generalize bkR n = y1 at *
  generalize bkG n = y2 at *
  generalize bkB n = y3 at *
  generalize bkR (n % 16) = z1 at *
  generalize bkG (n % 16) = z2 at *
  generalize bkB (n % 16) = z3 at *
  clear h5
  go_enter Try.func4, Try.ntmps4
  go_wp2
  refine wp_region_steady (Held w 1 [(⟨w.heap.size, 0, none⟩, .int .u8 (r)), (⟨w.heap.size, 1, none⟩, .int .u8 (g)), (⟨w.heap.size, 2, none⟩, .int .u8 (b)), (⟨w.heap.size, 3, none⟩, .int .u8 (a))]) (by kernel_rfl) (by kernel_rfl) ⟨(by repeat (first | exact Below.refl _ _ | assumption | refine Below.drew ?_ | refine Below.alloc ?_ (by (try simp) <;> omega) _ | refine Below.setCell ?_ (by (try simp) <;> omega) _)), (by (try simp) <;> omega), (by simp only [Cells]; go_simp)⟩ ?_
  repeat (first | (refine' wpSteady_do (by rfl) _ _; rotate_left; (focus (intro w1 hS R hR; have hc := hS.cells; simp only [Cells] at hc; go_simp; (try go_bits); first | exact hR _ hS | ((go_at_call 13; (with_reducible refine (C1.out _).mono ?_); rintro e w2 ⟨rfl, hb2⟩; exact ⟨_, rfl, hR _ (hS.below hb2)⟩)) | ((go_at_call 14; (with_reducible refine (C2.out _).mono ?_); rintro e w2 ⟨rfl, hb2⟩; exact ⟨_, rfl, hR _ (hS.below hb2)⟩)) | ((go_at_call 15; (with_reducible refine (C3.out _).mono ?_); rintro e w2 ⟨rfl, hb2⟩; exact ⟨_, rfl, hR _ (hS.below hb2)⟩)) | ((go_at_call 16; (with_reducible refine (C4.out _).mono ?_); rintro e w2 ⟨rfl, hb2⟩; exact ⟨_, rfl, hR _ (hS.below hb2)⟩)) | ((go_at_call 17; (with_reducible refine (C5.out _).mono ?_); rintro e w2 ⟨rfl, hb2⟩; exact ⟨_, rfl, hR _ (hS.below hb2)⟩)) | ((go_at_call 18; (with_reducible refine (C6.out _).mono ?_); rintro e w2 ⟨rfl, hb2⟩; exact ⟨_, rfl, hR _ (hS.below hb2)⟩)) | ((go_at_call 17; (with_reducible refine (C7.out _).mono ?_); rintro e w2 ⟨rfl, hb2⟩; exact ⟨_, rfl, hR _ (hS.below hb2)⟩)) | ((go_at_call 18; (with_reducible refine (C8.out _).mono ?_); rintro e w2 ⟨rfl, hb2⟩; exact ⟨_, rfl, hR _ (hS.below hb2)⟩)))); simp only [Act.put, List.setIfInBounds_toArray, List.set_cons_zero, List.set_cons_succ]) | (refine wpSteady_pass (by rfl) ?_; simp only [Act.put, List.setIfInBounds_toArray, List.set_cons_zero, List.set_cons_succ]))
  refine wpSteady_nil (fun w1 hS => ?_)
  have hc := hS.cells; have hb := hS.old; have hz := hS.size; clear hS; simp only [Cells] at hc
  go_wp2
  go_ret
  exact ⟨rfl, (by repeat (first | exact Below.refl _ _ | assumption | refine Below.drew ?_ | refine Below.alloc ?_ (by (try simp) <;> omega) _ | refine Below.setCell ?_ (by (try simp) <;> omega) _ | (refine Below.trans ?_ (Below.mono (by assumption) (by (try simp) <;> omega)))))⟩
end Go.Proofs.Ythecbopffdpefaa
