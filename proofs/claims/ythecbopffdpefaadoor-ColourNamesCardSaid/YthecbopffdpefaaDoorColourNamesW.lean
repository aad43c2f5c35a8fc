/-
  The law ColourNames walked.
-/
import Derived.Test.YthecbopffdpefaaDoorDooL
namespace Go.Proofs.YthecbopffdpefaaDoor
open Go.RowKit
set_option linter.unusedVariables false
attribute [local go_sem] vwp vUpon_value vUpon_skip vUpon_enter vUpon_row
set_option linter.unusedSimpArgs false
set_option linter.unusedVariables false
attribute [local go_sem high] eql_colour neq_colour
set_option maxRecDepth 8000 in
set_option maxHeartbeats 8000000 in
theorem walk_ColourNames (w : World) : Calls Tryd.prog 8 #[] w fun e w' => e = .returned (.bool true) ∧ Below w.heap.size w w' := by
  have F0 : eq4 1 2 3 4 1 2 3 4 = true := rfl
  have F1 : eq4 10 20 30 255 10 20 30 255 = true := rfl
  have F2 : eq4 128 128 128 255 128 128 128 255 = true := rfl
  have F3 : eq4 15 0 0 0 15 0 0 0 = true := rfl
  have F4 : eq4 255 0 0 255 255 0 0 255 = true := rfl
  have hB : Below w.heap.size w w := Below.refl _ _
  go_enter Tryd.func8, Tryd.ntmps8
  go_wp2_with (first
    | (go_at_call 19; (with_reducible refine (c_any _ _ _ _ _).mono ?_); (rintro e w2 ⟨rfl, hb2⟩; replace hB := hB.trans (hb2.mono hB.size); clear hb2))
    | (go_at_call 24; (first | (with_reducible refine (wr0 _).mono ?_) | (with_reducible refine (wr1 _).mono ?_) | (with_reducible refine (wr2 _).mono ?_) | (with_reducible refine (wr3 _).mono ?_) | (with_reducible refine (wr4 _).mono ?_) | (with_reducible refine (wr5 _).mono ?_) | (with_reducible refine (wr6 _).mono ?_) | (with_reducible refine (wr7 _).mono ?_)); (rintro e w2 ⟨rfl, hb2⟩; replace hB := hB.trans (hb2.mono hB.size); clear hb2))
    | (go_at_call 11; (first | (with_reducible refine (tx0 _).mono ?_) | (with_reducible refine (tx1 _).mono ?_) | (with_reducible refine (tx2 _).mono ?_)); (rintro e w2 ⟨rfl, hb2⟩; replace hB := hB.trans (hb2.mono hB.size); clear hb2))
    | (go_at_call 13; (first | (with_reducible refine (ov0 _).mono ?_) | (with_reducible refine (ov1 _).mono ?_)); (rintro e w2 ⟨rfl, hb2⟩; replace hB := hB.trans (hb2.mono hB.size); clear hb2))
    | (go_at_call 14; (first | (with_reducible refine (mx0 _).mono ?_) | (with_reducible refine (mx1 _).mono ?_)); (rintro e w2 ⟨rfl, hb2⟩; replace hB := hB.trans (hb2.mono hB.size); clear hb2))
    | (go_at_call 17; (first | (with_reducible refine (li0 _).mono ?_) | (with_reducible refine (li1 _).mono ?_)); (rintro e w2 ⟨rfl, hb2⟩; replace hB := hB.trans (hb2.mono hB.size); clear hb2))
    | (go_at_call 18; (first | (with_reducible refine (cl0 _).mono ?_) | (with_reducible refine (cl1 _).mono ?_)); (rintro e w2 ⟨rfl, hb2⟩; replace hB := hB.trans (hb2.mono hB.size); clear hb2))
    | (go_at_call 16; (with_reducible refine (alive_any _).mono ?_); (rintro e w2 ⟨rfl, hb2⟩; replace hB := hB.trans (hb2.mono hB.size); clear hb2))
    | go_in)
  obtain ⟨w4, hw4⟩ : ∃ w4, w2.alloc (.cells #[.int .u8 255, .int .u8 0, .int .u8 0, .int .u8 255] 23) = w4 := ⟨_, rfl⟩
  have hb4 : Below w.heap.size w w4 := by rw [← hw4]; exact hB.alloc hB.size _
  have lt4 : w2.heap.size < w4.heap.size := by rw [← hw4]; simp
  have c0 : w4.cell? ⟨w2.heap.size, 0, none⟩ = some (.int .u8 255) := by rw [← hw4]; exact World.cell?_alloc_at _ _ _ _ rfl
  have c1 : w4.cell? ⟨w2.heap.size, 1, none⟩ = some (.int .u8 0) := by rw [← hw4]; exact World.cell?_alloc_at _ _ _ _ rfl
  have c2 : w4.cell? ⟨w2.heap.size, 2, none⟩ = some (.int .u8 0) := by rw [← hw4]; exact World.cell?_alloc_at _ _ _ _ rfl
  have c3 : w4.cell? ⟨w2.heap.size, 3, none⟩ = some (.int .u8 255) := by rw [← hw4]; exact World.cell?_alloc_at _ _ _ _ rfl
  rw [hw4]
  clear hw4 hB
  refine wp_region_steady (Held w4 0 []) (by kernel_rfl) (by kernel_rfl) ⟨(by repeat (first | exact Below.refl _ _ | assumption | refine Below.drew ?_ | refine Below.alloc ?_ (by (try simp) <;> omega) _ | refine Below.setCell ?_ (by (try simp) <;> omega) _ | (refine Below.trans ?_ (Below.mono (by assumption) (by (try simp) <;> omega))))), (by (try simp) <;> omega), (by first | exact trivial | (simp only [Cells]; go_simp))⟩ ?_
  repeat (first | (refine' wpSteady_do _ _ _; rotate_left; (focus rfl); (focus (intro w1 hS R hR; have hc := hS.cells; simp only [Cells] at hc; obtain ⟨hco, hfo⟩ := bcell hS.old; go_simp; (try go_bits); first | exact hR _ hS | first | (go_at_call 19; (with_reducible refine (c_any _ _ _ _ _).mono ?_); rintro e w2 ⟨rfl, hb2⟩; exact ⟨_, rfl, hR _ (hS.below hb2)⟩) | (go_at_call 23; (with_reducible refine (bk0 _).mono ?_); rintro e w2 ⟨rfl, hb2⟩; exact ⟨_, rfl, hR _ (hS.below hb2)⟩) | (go_at_call 23; (with_reducible refine (bk1 _).mono ?_); rintro e w2 ⟨rfl, hb2⟩; exact ⟨_, rfl, hR _ (hS.below hb2)⟩) | (go_at_call 23; (with_reducible refine (bk2 _).mono ?_); rintro e w2 ⟨rfl, hb2⟩; exact ⟨_, rfl, hR _ (hS.below hb2)⟩) | (go_at_call 23; (with_reducible refine (bk3 _).mono ?_); rintro e w2 ⟨rfl, hb2⟩; exact ⟨_, rfl, hR _ (hS.below hb2)⟩) | (go_at_call 20; (with_reducible refine (nm0 _).mono ?_); rintro e w2 ⟨rfl, hb2⟩; exact ⟨_, rfl, hR _ (hS.below hb2)⟩) | (go_at_call 21; (with_reducible refine (nm1 _).mono ?_); rintro e w2 ⟨rfl, hb2⟩; exact ⟨_, rfl, hR _ (hS.below hb2)⟩) | (go_at_call 21; (with_reducible refine (nm2 _).mono ?_); rintro e w2 ⟨rfl, hb2⟩; exact ⟨_, rfl, hR _ (hS.below hb2)⟩) | (go_at_call 21; (with_reducible refine (nm3 _).mono ?_); rintro e w2 ⟨rfl, hb2⟩; exact ⟨_, rfl, hR _ (hS.below hb2)⟩))); simp only [Act.put, List.setIfInBounds_toArray, List.set_cons_zero, List.set_cons_succ]) | (refine wpSteady_pass ?_ ?_; (focus rfl); simp only [Act.put, List.setIfInBounds_toArray, List.set_cons_zero, List.set_cons_succ]))
  refine wpSteady_nil (fun uA hSA => ?_)
  have hcA := hSA.cells; have hbA := hSA.old; have hzA := hSA.size; clear hSA; simp only [Cells] at hcA; obtain ⟨hcoA, hfoA⟩ := bcell hbA
  have hB : Below w.heap.size w uA := hb4.trans (hbA.mono hb4.size)
  clear hb4 hbA hcoA hfoA c0 c1 c2 c3
  go_wp2_with (first
    | (go_at_call 19; (with_reducible refine (c_any _ _ _ _ _).mono ?_); (rintro e w2 ⟨rfl, hb2⟩; replace hB := hB.trans (hb2.mono hB.size); clear hb2))
    | (go_at_call 24; (first | (with_reducible refine (wr0 _).mono ?_) | (with_reducible refine (wr1 _).mono ?_) | (with_reducible refine (wr2 _).mono ?_) | (with_reducible refine (wr3 _).mono ?_) | (with_reducible refine (wr4 _).mono ?_) | (with_reducible refine (wr5 _).mono ?_) | (with_reducible refine (wr6 _).mono ?_) | (with_reducible refine (wr7 _).mono ?_)); (rintro e w2 ⟨rfl, hb2⟩; replace hB := hB.trans (hb2.mono hB.size); clear hb2))
    | (go_at_call 11; (first | (with_reducible refine (tx0 _).mono ?_) | (with_reducible refine (tx1 _).mono ?_) | (with_reducible refine (tx2 _).mono ?_)); (rintro e w2 ⟨rfl, hb2⟩; replace hB := hB.trans (hb2.mono hB.size); clear hb2))
    | (go_at_call 13; (first | (with_reducible refine (ov0 _).mono ?_) | (with_reducible refine (ov1 _).mono ?_)); (rintro e w2 ⟨rfl, hb2⟩; replace hB := hB.trans (hb2.mono hB.size); clear hb2))
    | (go_at_call 14; (first | (with_reducible refine (mx0 _).mono ?_) | (with_reducible refine (mx1 _).mono ?_)); (rintro e w2 ⟨rfl, hb2⟩; replace hB := hB.trans (hb2.mono hB.size); clear hb2))
    | (go_at_call 17; (first | (with_reducible refine (li0 _).mono ?_) | (with_reducible refine (li1 _).mono ?_)); (rintro e w2 ⟨rfl, hb2⟩; replace hB := hB.trans (hb2.mono hB.size); clear hb2))
    | (go_at_call 18; (first | (with_reducible refine (cl0 _).mono ?_) | (with_reducible refine (cl1 _).mono ?_)); (rintro e w2 ⟨rfl, hb2⟩; replace hB := hB.trans (hb2.mono hB.size); clear hb2))
    | (go_at_call 16; (with_reducible refine (alive_any _).mono ?_); (rintro e w2 ⟨rfl, hb2⟩; replace hB := hB.trans (hb2.mono hB.size); clear hb2))
    | go_in)
  go_ret
  exact ⟨rfl, hB⟩
end Go.Proofs.YthecbopffdpefaaDoor
