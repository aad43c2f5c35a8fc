/-
  The colours' functions of numbers, the third part: on black, light, clear.
-/
import Derived.Test.YthecbopffdpefaaDoorColB
namespace Go.Proofs.YthecbopffdpefaaDoor
open Go.RowKit
set_option linter.unusedVariables false
set_option linter.unusedSimpArgs false
attribute [local go_sem] vwp vUpon_value vUpon_skip vUpon_enter vUpon_row

set_option maxHeartbeats 400000 in
theorem black_any (w : World) : Calls Tryd.prog 33 #[] w fun e w' => e = .returned (.agg #[.int .u8 (0), .int .u8 (0), .int .u8 (0), .int .u8 (255)]) ∧ Below w.heap.size w w' := by
  go_enter Tryd.func33, Tryd.ntmps33
  go_wp2
  refine bodyPost_ret (v := .agg #[.int .u8 (0), .int .u8 (0), .int .u8 (0), .int .u8 (255)]) (by simp [results, Tryd.results33, go_sem]) rfl ⟨rfl, (by repeat (first | exact Below.refl _ _ | assumption | refine Below.drew ?_ | refine Below.alloc ?_ (by (try simp) <;> omega) _ | refine Below.setCell ?_ (by (try simp) <;> omega) _))⟩

theorem u0 : U8 0 := ⟨by omega, by omega⟩
theorem u255 : U8 255 := ⟨by omega, by omega⟩
def lightN (r g b a : Int) : Int := (2126 * ov a 255 r 0 + 7152 * ov a 255 g 0 + 722 * ov a 255 b 0) * 20 / 51
theorem lightN_bd (r g b a : Int) (h1 : U8 r) (h2 : U8 g) (h3 : U8 b) (h4 : U8 a) : 0 ≤ lightN r g b a ∧ lightN r g b a ≤ 1000000 := by
  have := ov_bd a 255 r 0 h4 u255 h1 u0
  have := ov_bd a 255 g 0 h4 u255 h2 u0
  have := ov_bd a 255 b 0 h4 u255 h3 u0
  unfold U8 at *
  unfold lightN; omega

set_option maxHeartbeats 400000 in
theorem light_any (r g b a : Int) (w : World) (h1 : U8 r) (h2 : U8 g) (h3 : U8 b) (h4 : U8 a) :
    Calls Tryd.prog 17 #[.agg #[.int .u8 (r), .int .u8 (g), .int .u8 (b), .int .u8 (a)]] w fun e w' => e = .returned (.int .i64 (lightN r g b a)) ∧ Below w.heap.size w w' := by
  have k1 := ov_bd a 255 r 0 h4 u255 h1 u0
  have k2 := ov_bd a 255 g 0 h4 u255 h2 u0
  have k3 := ov_bd a 255 b 0 h4 u255 h3 u0
  have OV := fun w => over_any r g b a 0 0 0 255 w h1 h2 h3 h4 u0 u0 u0 u255
  replace OV := Lib.hid OV
  have BK := Lib.hid black_any
  unfold lightN
  obtain ⟨k10, k11⟩ := k1; obtain ⟨k20, k21⟩ := k2; obtain ⟨k30, k31⟩ := k3
  go_enter Tryd.func17, Tryd.ntmps17
  go_wp2
  refine wp_region_steady_then (Held w 1 [(⟨w.heap.size, 0, none⟩, .int .u8 (r)), (⟨w.heap.size, 1, none⟩, .int .u8 (g)), (⟨w.heap.size, 2, none⟩, .int .u8 (b)), (⟨w.heap.size, 3, none⟩, .int .u8 (a))]) 3 (by kernel_rfl) (by kernel_rfl) (by decide) (by kernel_rfl) (by kernel_rfl) ⟨(by repeat (first | exact Below.refl _ _ | assumption | refine Below.drew ?_ | refine Below.alloc ?_ (by (try simp) <;> omega) _ | refine Below.setCell ?_ (by (try simp) <;> omega) _)), (by (try simp) <;> omega), (by simp only [Cells]; go_simp)⟩ ?_
  simp only [List.take_succ_cons, List.take_zero]
  repeat (first | (refine' wpSteady_do _ _ _; rotate_left; (focus rfl); (focus (intro w1 hS R hR; have hc := hS.cells; simp only [Cells] at hc; go_simp; (try go_bits); first | exact hR _ hS | ((go_at_call 33; (with_reducible refine (BK.out _).mono ?_); rintro e w2 ⟨rfl, hb2⟩; exact ⟨_, rfl, hR _ (hS.below hb2)⟩)) | ((go_at_call 13; (with_reducible refine (OV.out _).mono ?_); rintro e w2 ⟨rfl, hb2⟩; exact ⟨_, rfl, hR _ (hS.below hb2)⟩)))); simp only [Act.put, List.setIfInBounds_toArray, List.set_cons_zero, List.set_cons_succ]) | (refine wpSteady_pass ?_ ?_; (focus rfl); simp only [Act.put, List.setIfInBounds_toArray, List.set_cons_zero, List.set_cons_succ]))
  refine wpSteady_nil (fun w1 hS => ?_)
  have hc := hS.cells; have hb := hS.old; have hz := hS.size; clear hS; simp only [Cells] at hc
  simp only [List.drop_succ_cons, List.drop_zero, List.drop_nil]
  go_wp2
  go_ret
  exact ⟨rfl, (by repeat (first | exact Below.refl _ _ | assumption | refine Below.drew ?_ | refine Below.alloc ?_ (by (try simp) <;> omega) _ | refine Below.setCell ?_ (by (try simp) <;> omega) _))⟩
/-- P4.6, over the two lights. -/
def clearB (l m : Int) : Bool := decide (9 * (min l m + 50000) ≤ 2 * (max l m + 50000))
theorem clearB_ge (l m : Int) (h : m ≤ l) : clearB l m = decide (45 * (m + 50000) ≤ 10 * (l + 50000)) := by
  unfold clearB; rw [Int.min_eq_right h, Int.max_eq_left h]; congr 1; exact propext ⟨fun _ => by omega, fun _ => by omega⟩
theorem clearB_le (l m : Int) (h : l ≤ m) : clearB l m = decide (45 * (l + 50000) ≤ 10 * (m + 50000)) := by
  unfold clearB; rw [Int.min_eq_left h, Int.max_eq_right h]; congr 1; exact propext ⟨fun _ => by omega, fun _ => by omega⟩
def clearC (ar ag ab aA br bg bb bA : Int) : Bool :=
  clearB (lightN (ov aA (ovA bA 255) ar (ov bA 255 br 0)) (ov aA (ovA bA 255) ag (ov bA 255 bg 0)) (ov aA (ovA bA 255) ab (ov bA 255 bb 0)) (ovA aA (ovA bA 255))) (lightN (ov bA 255 br 0) (ov bA 255 bg 0) (ov bA 255 bb 0) (ovA bA 255))

set_option maxHeartbeats 400000 in
theorem clear_any (ar ag ab aA br bg bb bA : Int) (w : World) (h1 : U8 ar) (h2 : U8 ag) (h3 : U8 ab) (h4 : U8 aA) (h5 : U8 br) (h6 : U8 bg) (h7 : U8 bb) (h8 : U8 bA) :
    Calls Tryd.prog 18 #[.agg #[.int .u8 (ar), .int .u8 (ag), .int .u8 (ab), .int .u8 (aA)], .agg #[.int .u8 (br), .int .u8 (bg), .int .u8 (bb), .int .u8 (bA)]] w fun e w' => e = .returned (.bool (clearC ar ag ab aA br bg bb bA)) ∧ Below w.heap.size w w' := by
  have k1 := ov_bd bA 255 br 0 h8 u255 h5 u0
  have k2 := ov_bd bA 255 bg 0 h8 u255 h6 u0
  have k3 := ov_bd bA 255 bb 0 h8 u255 h7 u0
  have k4 := ovA_bd bA 255 h8 u255
  have j1 := ov_bd aA (ovA bA 255) ar _ h4 k4 h1 k1
  have j2 := ov_bd aA (ovA bA 255) ag _ h4 k4 h2 k2
  have j3 := ov_bd aA (ovA bA 255) ab _ h4 k4 h3 k3
  have j4 := ovA_bd aA (ovA bA 255) h4 k4
  have OV := fun w => over_any br bg bb bA 0 0 0 255 w h5 h6 h7 h8 u0 u0 u0 u255
  have OW := fun w => over_any ar ag ab aA _ _ _ _ w h1 h2 h3 h4 k1 k2 k3 k4
  have LA := fun w => light_any _ _ _ _ w j1 j2 j3 j4
  have LB := fun w => light_any _ _ _ _ w k1 k2 k3 k4
  have la := lightN_bd _ _ _ _ j1 j2 j3 j4
  have lb := lightN_bd _ _ _ _ k1 k2 k3 k4
  replace OV := Lib.hid OV
  replace OW := Lib.hid OW
  replace LA := Lib.hid LA
  replace LB := Lib.hid LB
  have BK := Lib.hid black_any
  unfold clearC
  generalize ov aA (ovA bA 255) ar (ov bA 255 br 0) = cr at *
  generalize ov aA (ovA bA 255) ag (ov bA 255 bg 0) = cg at *
  generalize ov aA (ovA bA 255) ab (ov bA 255 bb 0) = cb at *
  generalize ovA aA (ovA bA 255) = cA at *
  generalize ov bA 255 br 0 = dr at *
  generalize ov bA 255 bg 0 = dg at *
  generalize ov bA 255 bb 0 = db at *
  generalize ovA bA 255 = dA at *
  generalize lightN cr cg cb cA = l at *
  generalize lightN dr dg db dA = m at *
  clear h1 h2 h3 h4 h5 h6 h7 h8 k1 k2 k3 k4 j1 j2 j3 j4
  obtain ⟨l0, l1⟩ := la; obtain ⟨m0, m1⟩ := lb
  go_enter Tryd.func18, Tryd.ntmps18
  go_wp2
  refine wp_region_steady_then (Held w 2 [(⟨w.heap.size, 0, none⟩, .int .u8 (ar)), (⟨w.heap.size, 1, none⟩, .int .u8 (ag)), (⟨w.heap.size, 2, none⟩, .int .u8 (ab)), (⟨w.heap.size, 3, none⟩, .int .u8 (aA)), (⟨w.heap.size + 1, 0, none⟩, .int .u8 (br)), (⟨w.heap.size + 1, 1, none⟩, .int .u8 (bg)), (⟨w.heap.size + 1, 2, none⟩, .int .u8 (bb)), (⟨w.heap.size + 1, 3, none⟩, .int .u8 (bA))]) 3 (by kernel_rfl) (by kernel_rfl) (by decide) (by kernel_rfl) (by kernel_rfl) ⟨(by repeat (first | exact Below.refl _ _ | assumption | refine Below.drew ?_ | refine Below.alloc ?_ (by (try simp) <;> omega) _ | refine Below.setCell ?_ (by (try simp) <;> omega) _)), (by (try simp) <;> omega), (by simp only [Cells]; go_simp)⟩ ?_
  simp only [List.take_succ_cons, List.take_zero]
  repeat (first | (refine' wpSteady_do _ _ _; rotate_left; (focus rfl); (focus (intro w1 hS R hR; have hc := hS.cells; simp only [Cells] at hc; go_simp; (try go_bits); first | exact hR _ hS | ((go_at_call 33; (with_reducible refine (BK.out _).mono ?_); rintro e w2 ⟨rfl, hb2⟩; exact ⟨_, rfl, hR _ (hS.below hb2)⟩)) | ((go_at_call 13; (with_reducible refine (OV.out _).mono ?_); rintro e w2 ⟨rfl, hb2⟩; exact ⟨_, rfl, hR _ (hS.below hb2)⟩)))); simp only [Act.put, List.setIfInBounds_toArray, List.set_cons_zero, List.set_cons_succ]) | (refine wpSteady_pass ?_ ?_; (focus rfl); simp only [Act.put, List.setIfInBounds_toArray, List.set_cons_zero, List.set_cons_succ]))
  refine wpSteady_nil (fun w1 hS => ?_)
  have hc := hS.cells; have hb := hS.old; have hz := hS.size; clear hS; simp only [Cells] at hc
  simp only [List.drop_succ_cons, List.drop_zero, List.drop_nil]
  go_wp2
  refine wp_region_steady (Held w 2 [(⟨w.heap.size, 0, none⟩, .int .u8 (ar)), (⟨w.heap.size, 1, none⟩, .int .u8 (ag)), (⟨w.heap.size, 2, none⟩, .int .u8 (ab)), (⟨w.heap.size, 3, none⟩, .int .u8 (aA)), (⟨w.heap.size + 1, 0, none⟩, .int .u8 (dr)), (⟨w.heap.size + 1, 1, none⟩, .int .u8 (dg)), (⟨w.heap.size + 1, 2, none⟩, .int .u8 (db)), (⟨w.heap.size + 1, 3, none⟩, .int .u8 (dA))]) (by kernel_rfl) (by kernel_rfl) ⟨(by repeat (first | exact Below.refl _ _ | assumption | refine Below.drew ?_ | refine Below.alloc ?_ (by (try simp) <;> omega) _ | refine Below.setCell ?_ (by (try simp) <;> omega) _)), (by (try simp) <;> omega), (by simp only [Cells]; go_simp)⟩ ?_
  repeat (first | (refine' wpSteady_do _ _ _; rotate_left; (focus rfl); (focus (intro w1 hS R hR; have hc := hS.cells; simp only [Cells] at hc; go_simp; (try go_bits); first | exact hR _ hS | ((go_at_call 13; (with_reducible refine (OW.out _).mono ?_); rintro e w2 ⟨rfl, hb2⟩; exact ⟨_, rfl, hR _ (hS.below hb2)⟩)) | ((go_at_call 17; (with_reducible refine (LA.out _).mono ?_); rintro e w2 ⟨rfl, hb2⟩; exact ⟨_, rfl, hR _ (hS.below hb2)⟩)) | ((go_at_call 17; (with_reducible refine (LB.out _).mono ?_); rintro e w2 ⟨rfl, hb2⟩; exact ⟨_, rfl, hR _ (hS.below hb2)⟩)))); simp only [Act.put, List.setIfInBounds_toArray, List.set_cons_zero, List.set_cons_succ]) | (refine wpSteady_pass ?_ ?_; (focus rfl); simp only [Act.put, List.setIfInBounds_toArray, List.set_cons_zero, List.set_cons_succ]))
  refine wpSteady_nil (fun w1 hS => ?_)
  have hc := hS.cells; have hb := hS.old; have hz := hS.size; clear hS; simp only [Cells] at hc
  go_wp2
  all_goals
    go_ret
    refine ⟨congrArg (fun b => Ending.returned (Value.bool b)) (decide_eq_decide.2 (by omega)), (by repeat (first | exact Below.refl _ _ | assumption | refine Below.drew ?_ | refine Below.alloc ?_ (by (try simp) <;> omega) _ | refine Below.setCell ?_ (by (try simp) <;> omega) _ | (refine Below.trans ?_ (Below.mono (by assumption) (by (try simp) <;> omega)))))⟩

end Go.Proofs.YthecbopffdpefaaDoor
