/-
  The law ColourLight walked.
-/
import Derived.Test.YthecbopffdpefaaDoorDooE
namespace Go.Proofs.YthecbopffdpefaaDoor
open Go.RowKit
set_option linter.unusedVariables false
attribute [local go_sem] vwp vUpon_value vUpon_skip vUpon_enter vUpon_row
set_option linter.unusedSimpArgs false
set_option linter.unusedVariables false
theorem ov_full (x y : Int) (hx : U8 x) : ov 255 255 x y = x := by
  obtain ⟨h0, h1⟩ := hx
  unfold ov part
  rw [if_neg (by decide)]
  omega
theorem ovA_full (b : Int) : ovA 255 b = 255 := by unfold ovA; rw [if_neg (by decide)]; omega
theorem light_full (r g b : Int) (h1 : U8 r) (h2 : U8 g) (h3 : U8 b) : lightN r g b 255 = (2126 * r + 7152 * g + 722 * b) * 20 / 51 := by
  unfold lightN
  rw [ov_full _ _ h1, ov_full _ _ h2, ov_full _ _ h3]
theorem light_in (r g b : Int) (h1 : U8 r) (h2 : U8 g) (h3 : U8 b) : 0 ≤ lightN r g b 255 ∧ lightN r g b 255 ≤ 1000000 := by
  rw [light_full _ _ _ h1 h2 h3]
  obtain ⟨a, b⟩ := h1
  obtain ⟨c, d⟩ := h2
  obtain ⟨e, f⟩ := h3
  omega
theorem light_up (r g g' b : Int) (h1 : U8 r) (h2 : U8 g) (h2' : U8 g') (h3 : U8 b) (h : g ≤ g') : lightN r g b 255 ≤ lightN r g' b 255 := by
  rw [light_full _ _ _ h1 h2 h3, light_full _ _ _ h1 h2' h3]
  omega
theorem clear_full (r g b r' g' b' : Int) (h1 : U8 r) (h2 : U8 g) (h3 : U8 b) (h4 : U8 r') (h5 : U8 g') (h6 : U8 b') : clearC r g b 255 r' g' b' 255 = clearB (lightN r g b 255) (lightN r' g' b' 255) := by
  unfold clearC
  simp only [ov_full _ _ h1, ov_full _ _ h2, ov_full _ _ h3, ov_full _ _ h4, ov_full _ _ h5, ov_full _ _ h6, ovA_full]
theorem clear_comm (l m : Int) : clearB l m = clearB m l := by
  unfold clearB
  rw [Int.min_comm, Int.max_comm]
theorem clear_self (l : Int) (h : 0 ≤ l) : clearB l l = false := by
  unfold clearB
  simp
  omega
attribute [local go_sem high] eql_colour neq_colour
set_option maxHeartbeats 2000000 in
theorem walk_ColourLight (ar ag ab aA br bg bb bA p : Int) (w : World) (h1 : U8 ar) (h2 : U8 ag) (h3 : U8 ab) (h4 : U8 aA) (h5 : U8 br) (h6 : U8 bg) (h7 : U8 bb) (h8 : U8 bA) (h9 : U8 p) :
    Calls Tryd.prog 5 #[.agg #[.int .u8 (ar), .int .u8 (ag), .int .u8 (ab), .int .u8 (aA)], .agg #[.int .u8 (br), .int .u8 (bg), .int .u8 (bb), .int .u8 (bA)], .int .u8 p] w fun e w' => e = .returned (.bool true) ∧ Below w.heap.size w w' := by
  have u255 : U8 255 := b8 (by omega)
  have C1 := fun w => light_any ar ag ab 255 w h1 h2 h3 u255
  have hg : U8 (max ag p) := by unfold U8 at *; omega
  have C2 := fun w => light_any ar (max ag p) ab 255 w h1 hg h3 u255
  have C3 := fun w => clear_any ar ag ab 255 br bg bb 255 w h1 h2 h3 u255 h5 h6 h7 u255
  have C4 := fun w => clear_any br bg bb 255 ar ag ab 255 w h5 h6 h7 u255 h1 h2 h3 u255
  have C5 := fun w => clear_any ar ag ab 255 ar ag ab 255 w h1 h2 h3 u255 h1 h2 h3 u255
  rw [clear_full _ _ _ _ _ _ h1 h2 h3 h5 h6 h7] at C3
  rw [clear_full _ _ _ _ _ _ h5 h6 h7 h1 h2 h3, clear_comm] at C4
  rw [clear_full _ _ _ _ _ _ h1 h2 h3 h1 h2 h3, clear_self _ (light_in _ _ _ h1 h2 h3).1] at C5
  obtain ⟨l0, l1⟩ := light_in ar ag ab h1 h2 h3
  have l2 := light_up ar ag (max ag p) ab h1 h2 hg h3 (by omega)
  generalize lightN ar ag ab 255 = L at *
  generalize lightN ar (max ag p) ab 255 = M at *
  generalize clearB L (lightN br bg bb 255) = cb at *
  replace C1 := Lib.hid C1
  replace C2 := Lib.hid C2
  replace C3 := Lib.hid C3
  replace C4 := Lib.hid C4
  replace C5 := Lib.hid C5
  clear hg h1 h2 h3 h4 h5 h6 h7 h8 h9
  go_enter Tryd.func5, Tryd.ntmps5
  go_wp2_with (first
    | (go_at_call 17; (with_reducible refine (C1.out _).mono ?_); rintro e w1 ⟨rfl, hb1⟩; obtain ⟨hc1, hf1⟩ := bcell hb1; have z1 := hb1.size; (try simp at z1); have lt0 : w.heap.size < w1.heap.size := (by omega); have lt1 : w.heap.size + 1 < w1.heap.size := (by omega))
    | (go_at_call 17; (with_reducible refine (C2.out _).mono ?_); rintro e w2 ⟨rfl, hb2⟩)
    | go_in)
  have hb02 : Below w.heap.size w w2 := (show Below w.heap.size w w1 from (by repeat (first | exact Below.refl _ _ | assumption | refine Below.drew ?_ | refine Below.alloc ?_ (by (try simp) <;> omega) _ | refine Below.setCell ?_ (by (try simp) <;> omega) _ | (refine Below.trans ?_ (Below.mono (by assumption) (by (try simp) <;> omega)))))).trans ((show Below w1.heap.size w1 w2 from (by repeat (first | exact Below.refl _ _ | assumption | refine Below.drew ?_ | refine Below.alloc ?_ (by (try simp) <;> omega) _ | refine Below.setCell ?_ (by (try simp) <;> omega) _ | (refine Below.trans ?_ (Below.mono (by assumption) (by (try simp) <;> omega)))))).mono (by omega))
  obtain ⟨hc2, hf2⟩ := bcell hb2
  have d0 : w2.cell? ⟨w.heap.size, 0, none⟩ = some (.int .u8 ar) := by rw [hc2 _ _ (by simp; omega)]; go_simp
  have d1 : w2.cell? ⟨w.heap.size, 1, none⟩ = some (.int .u8 ag) := by rw [hc2 _ _ (by simp; omega)]; go_simp
  have d2 : w2.cell? ⟨w.heap.size, 2, none⟩ = some (.int .u8 ab) := by rw [hc2 _ _ (by simp; omega)]; go_simp
  have d3 : w2.cell? ⟨w.heap.size, 3, none⟩ = some (.int .u8 255) := by rw [hc2 _ _ (by simp; omega)]; go_simp
  have e0 : w2.cell? ⟨w.heap.size + 1, 0, none⟩ = some (.int .u8 br) := by rw [hc2 _ _ (by simp; omega)]; go_simp
  have e1 : w2.cell? ⟨w.heap.size + 1, 1, none⟩ = some (.int .u8 bg) := by rw [hc2 _ _ (by simp; omega)]; go_simp
  have e2 : w2.cell? ⟨w.heap.size + 1, 2, none⟩ = some (.int .u8 bb) := by rw [hc2 _ _ (by simp; omega)]; go_simp
  have e3 : w2.cell? ⟨w.heap.size + 1, 3, none⟩ = some (.int .u8 255) := by rw [hc2 _ _ (by simp; omega)]; go_simp
  have z2 := hb2.size
  simp at z2
  have k0 : w.heap.size < w2.heap.size := by omega
  have k1 : w.heap.size + 1 < w2.heap.size := by omega
  clear hc1 hf1 hc2 hf2 hb1 hb2
  have p1 : decide (0 ≤ L) = true := by simpa using l0
  have p2 : decide (L ≤ 1000000) = true := by simpa using l1
  have p3 : decide (L ≤ M) = true := by simpa using l2
  refine wp_region_steady (Held w2 0 []) (by kernel_rfl) (by kernel_rfl) ⟨(by repeat (first | exact Below.refl _ _ | assumption | refine Below.drew ?_ | refine Below.alloc ?_ (by (try simp) <;> omega) _ | refine Below.setCell ?_ (by (try simp) <;> omega) _ | (refine Below.trans ?_ (Below.mono (by assumption) (by (try simp) <;> omega))))), (by (try simp) <;> omega), (by first | exact trivial | (simp only [Cells]; go_simp))⟩ ?_
  repeat (first | (refine' wpSteady_do _ _ _; rotate_left; (focus rfl); (focus (intro w1 hS R hR; have hc := hS.cells; simp only [Cells] at hc; obtain ⟨hco, hfo⟩ := bcell hS.old; go_simp; (try go_bits); first | exact hR _ hS | first | (go_at_call 16; (with_reducible refine (alive_any _).mono ?_); rintro e w2 ⟨rfl, hb2⟩; exact ⟨_, rfl, hR _ (hS.below hb2)⟩) | (go_at_call 18; (with_reducible refine (C3.out _).mono ?_); rintro e w2 ⟨rfl, hb2⟩; exact ⟨_, rfl, hR _ (hS.below hb2)⟩) | (go_at_call 18; (with_reducible refine (C4.out _).mono ?_); rintro e w2 ⟨rfl, hb2⟩; exact ⟨_, rfl, hR _ (hS.below hb2)⟩) | (go_at_call 18; (with_reducible refine (C5.out _).mono ?_); rintro e w2 ⟨rfl, hb2⟩; exact ⟨_, rfl, hR _ (hS.below hb2)⟩))); simp only [Act.put, List.setIfInBounds_toArray, List.set_cons_zero, List.set_cons_succ]) | (refine wpSteady_pass ?_ ?_; (focus rfl); simp only [Act.put, List.setIfInBounds_toArray, List.set_cons_zero, List.set_cons_succ]))
  refine wpSteady_nil (fun uA hSA => ?_)
  have hcA := hSA.cells; have hbA := hSA.old; have hzA := hSA.size; clear hSA; simp only [Cells] at hcA; obtain ⟨hcoA, hfoA⟩ := bcell hbA
  go_wp2
  go_ret
  exact ⟨rfl, hb02.trans (hbA.mono hb02.size)⟩
end Go.Proofs.YthecbopffdpefaaDoor
