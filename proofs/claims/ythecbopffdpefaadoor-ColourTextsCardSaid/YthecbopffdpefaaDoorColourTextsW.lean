/-
  The law ColourTexts walked.
-/
import Derived.Test.YthecbopffdpefaaDoorDooJ
namespace Go.Proofs.YthecbopffdpefaaDoor
open Go.RowKit
set_option linter.unusedVariables false
attribute [local go_sem] vwp vUpon_value vUpon_skip vUpon_enter vUpon_row
set_option linter.unusedSimpArgs false
set_option linter.unusedVariables false
attribute [local go_sem high] eql_colour neq_colour
/-- What both readers tell of a text. -/
theorem parse_both (s : ByteArray) (hs : s.size ≤ maxLen) : ∃ c0 c1 c2 c3 at_ er : Int,
    (∀ w, Calls Tryd.prog 9 #[.string s] w fun e w' => e = .returned (.tuple #[.agg #[.int .u8 (c0), .int .u8 (c1), .int .u8 (c2), .int .u8 (c3)], .int .i64 at_, .int .i64 er]) ∧ Below w.heap.size w w') ∧
    (∀ w, Calls Tryd.prog 10 #[.string s] w fun e w' => e = .returned (.tuple #[.agg #[.int .u8 (c0), .int .u8 (c1), .int .u8 (c2), .int .u8 (c3)], .int .i64 at_, .int .i64 er]) ∧ Below w.heap.size w w') := by
  obtain ⟨k, hC⟩ := Cnt.exists_ s
  by_cases hb : k < s.size ∨ (k ≠ 4 ∧ k ≠ 7 ∧ k ≠ 9)
  · exact ⟨0, 0, 0, 0, k, 40, fun w => lparse_bad s k w hs hC hb, fun w => rparse_bad s k w hs hC hb⟩
  · have hk : k = s.size := by have := hC.le; omega
    have h4 : k = 4 ∨ k = 7 ∨ k = 9 := by omega
    exact ⟨_, _, _, _, 0, 0, fun w => lparse_good s k w hC hk h4, fun w => rparse_good s k w hC hk h4⟩
set_option maxHeartbeats 2000000 in
theorem walk_ColourTexts (s : ByteArray) (r g b a : Int) (w : World) (hs : s.size ≤ maxLen) (h1 : U8 r) (h2 : U8 g) (h3 : U8 b) (h4 : U8 a) :
    Calls Tryd.prog 3 #[.string s, .agg #[.int .u8 (r), .int .u8 (g), .int .u8 (b), .int .u8 (a)]] w fun e w' => e = .returned (.bool true) ∧ Below w.heap.size w w' := by
  obtain ⟨c0, c1, c2, c3, at_, er, LP, RP⟩ := parse_both s hs
  obtain ⟨x, hx⟩ := nib_of r g b a h1 h2 h3 h4
  have LT := fun w => ltext_any r g b a x w hx
  have RT := fun w => rtext_any r g b a x w hx
  generalize x.tx = t at *
  have E1 := eq4_refl c0 c1 c2 c3
  have E2 : (t.toList == t.toList) = true := by simp
  replace LP := Lib.hid LP
  replace RP := Lib.hid RP
  replace LT := Lib.hid LT
  replace RT := Lib.hid RT
  clear hx h1 h2 h3 h4 hs
  go_enter Tryd.func3, Tryd.ntmps3
  go_wp2_with (first
    | (go_at_call 9; (with_reducible refine (LP.out _).mono ?_); rintro e w1 ⟨rfl, hb1⟩; obtain ⟨hc1, hf1⟩ := bcell hb1; have z1 := hb1.size; (try simp at z1); have lt0 : w.heap.size < w1.heap.size := (by omega))
    | (go_at_call 10; (with_reducible refine (RP.out _).mono ?_); rintro e w2 ⟨rfl, hb2⟩)
    | go_in)
  have hb02 : Below w.heap.size w w2 := (show Below w.heap.size w w1 from (by repeat (first | exact Below.refl _ _ | assumption | refine Below.drew ?_ | refine Below.alloc ?_ (by (try simp) <;> omega) _ | refine Below.setCell ?_ (by (try simp) <;> omega) _ | (refine Below.trans ?_ (Below.mono (by assumption) (by (try simp) <;> omega)))))).trans ((show Below w1.heap.size w1 w2 from (by repeat (first | exact Below.refl _ _ | assumption | refine Below.drew ?_ | refine Below.alloc ?_ (by (try simp) <;> omega) _ | refine Below.setCell ?_ (by (try simp) <;> omega) _ | (refine Below.trans ?_ (Below.mono (by assumption) (by (try simp) <;> omega)))))).mono (by omega))
  obtain ⟨hc2, hf2⟩ := bcell hb2
  have z2 := hb2.size
  simp at z2
  have k0 : w.heap.size < w2.heap.size := by omega
  have k1 : w1.heap.size < w2.heap.size := by omega
  have d0 : w2.cell? ⟨w.heap.size, 0, none⟩ = some (.int .u8 r) := by rw [hc2 _ _ (by simp; omega)]; go_simp
  have d1 : w2.cell? ⟨w.heap.size, 1, none⟩ = some (.int .u8 g) := by rw [hc2 _ _ (by simp; omega)]; go_simp
  have d2 : w2.cell? ⟨w.heap.size, 2, none⟩ = some (.int .u8 b) := by rw [hc2 _ _ (by simp; omega)]; go_simp
  have d3 : w2.cell? ⟨w.heap.size, 3, none⟩ = some (.int .u8 a) := by rw [hc2 _ _ (by simp; omega)]; go_simp
  have e0 : w2.cell? ⟨w1.heap.size, 0, none⟩ = some (.int .u8 c0) := by rw [hc2 _ _ (by simp)]; go_simp
  have e1 : w2.cell? ⟨w1.heap.size, 1, none⟩ = some (.int .u8 c1) := by rw [hc2 _ _ (by simp)]; go_simp
  have e2 : w2.cell? ⟨w1.heap.size, 2, none⟩ = some (.int .u8 c2) := by rw [hc2 _ _ (by simp)]; go_simp
  have e3 : w2.cell? ⟨w1.heap.size, 3, none⟩ = some (.int .u8 c3) := by rw [hc2 _ _ (by simp)]; go_simp
  have n0 : (w2.alloc (.cells #[.int .u8 c0, .int .u8 c1, .int .u8 c2, .int .u8 c3] 23)).cell? ⟨w2.heap.size, 0, none⟩ = some (.int .u8 c0) := World.cell?_alloc_at _ _ _ _ rfl
  have n1 : (w2.alloc (.cells #[.int .u8 c0, .int .u8 c1, .int .u8 c2, .int .u8 c3] 23)).cell? ⟨w2.heap.size, 1, none⟩ = some (.int .u8 c1) := World.cell?_alloc_at _ _ _ _ rfl
  have n2 : (w2.alloc (.cells #[.int .u8 c0, .int .u8 c1, .int .u8 c2, .int .u8 c3] 23)).cell? ⟨w2.heap.size, 2, none⟩ = some (.int .u8 c2) := World.cell?_alloc_at _ _ _ _ rfl
  have n3 : (w2.alloc (.cells #[.int .u8 c0, .int .u8 c1, .int .u8 c2, .int .u8 c3] 23)).cell? ⟨w2.heap.size, 3, none⟩ = some (.int .u8 c3) := World.cell?_alloc_at _ _ _ _ rfl
  have d0 : (w2.alloc (.cells #[.int .u8 c0, .int .u8 c1, .int .u8 c2, .int .u8 c3] 23)).cell? ⟨w.heap.size, 0, none⟩ = some (.int .u8 r) := by go_simp
  have d1 : (w2.alloc (.cells #[.int .u8 c0, .int .u8 c1, .int .u8 c2, .int .u8 c3] 23)).cell? ⟨w.heap.size, 1, none⟩ = some (.int .u8 g) := by go_simp
  have d2 : (w2.alloc (.cells #[.int .u8 c0, .int .u8 c1, .int .u8 c2, .int .u8 c3] 23)).cell? ⟨w.heap.size, 2, none⟩ = some (.int .u8 b) := by go_simp
  have d3 : (w2.alloc (.cells #[.int .u8 c0, .int .u8 c1, .int .u8 c2, .int .u8 c3] 23)).cell? ⟨w.heap.size, 3, none⟩ = some (.int .u8 a) := by go_simp
  have e0 : (w2.alloc (.cells #[.int .u8 c0, .int .u8 c1, .int .u8 c2, .int .u8 c3] 23)).cell? ⟨w1.heap.size, 0, none⟩ = some (.int .u8 c0) := by go_simp
  have e1 : (w2.alloc (.cells #[.int .u8 c0, .int .u8 c1, .int .u8 c2, .int .u8 c3] 23)).cell? ⟨w1.heap.size, 1, none⟩ = some (.int .u8 c1) := by go_simp
  have e2 : (w2.alloc (.cells #[.int .u8 c0, .int .u8 c1, .int .u8 c2, .int .u8 c3] 23)).cell? ⟨w1.heap.size, 2, none⟩ = some (.int .u8 c2) := by go_simp
  have e3 : (w2.alloc (.cells #[.int .u8 c0, .int .u8 c1, .int .u8 c2, .int .u8 c3] 23)).cell? ⟨w1.heap.size, 3, none⟩ = some (.int .u8 c3) := by go_simp
  have hb03 : Below w.heap.size w (w2.alloc (.cells #[.int .u8 c0, .int .u8 c1, .int .u8 c2, .int .u8 c3] 23)) := hb02.alloc hb02.size _
  have y0 : w.heap.size < (w2.alloc (.cells #[.int .u8 c0, .int .u8 c1, .int .u8 c2, .int .u8 c3] 23)).heap.size := by simp; omega
  have y1 : w1.heap.size < (w2.alloc (.cells #[.int .u8 c0, .int .u8 c1, .int .u8 c2, .int .u8 c3] 23)).heap.size := by simp; omega
  have y2 : w2.heap.size < (w2.alloc (.cells #[.int .u8 c0, .int .u8 c1, .int .u8 c2, .int .u8 c3] 23)).heap.size := by simp
  clear hc1 hf1 hc2 hf2 hb1 hb2
  obtain ⟨w3, hw3⟩ : ∃ w3, w2.alloc (.cells #[.int .u8 c0, .int .u8 c1, .int .u8 c2, .int .u8 c3] 23) = w3 := ⟨_, rfl⟩
  rw [hw3] at n0 n1 n2 n3 d0 d1 d2 d3 e0 e1 e2 e3 hb03 y0 y1 y2 ⊢
  clear hw3
  refine wp_region_steady (Held w3 0 []) (by kernel_rfl) (by kernel_rfl) ⟨(by repeat (first | exact Below.refl _ _ | assumption | refine Below.drew ?_ | refine Below.alloc ?_ (by (try simp) <;> omega) _ | refine Below.setCell ?_ (by (try simp) <;> omega) _ | (refine Below.trans ?_ (Below.mono (by assumption) (by (try simp) <;> omega))))), (by (try simp) <;> omega), (by first | exact trivial | (simp only [Cells]; go_simp))⟩ ?_
  repeat (first | (refine' wpSteady_do _ _ _; rotate_left; (focus rfl); (focus (intro w1 hS R hR; have hc := hS.cells; simp only [Cells] at hc; obtain ⟨hco, hfo⟩ := bcell hS.old; go_simp; (try go_bits); first | exact hR _ hS | first | (go_at_call 11; (with_reducible refine (LT.out _).mono ?_); rintro e w2 ⟨rfl, hb2⟩; exact ⟨_, rfl, hR _ (hS.below hb2)⟩) | (go_at_call 12; (with_reducible refine (RT.out _).mono ?_); rintro e w2 ⟨rfl, hb2⟩; exact ⟨_, rfl, hR _ (hS.below hb2)⟩))); simp only [Act.put, List.setIfInBounds_toArray, List.set_cons_zero, List.set_cons_succ]) | (refine wpSteady_pass ?_ ?_; (focus rfl); simp only [Act.put, List.setIfInBounds_toArray, List.set_cons_zero, List.set_cons_succ]))
  refine wpSteady_nil (fun uA hSA => ?_)
  have hcA := hSA.cells; have hbA := hSA.old; have hzA := hSA.size; clear hSA; simp only [Cells] at hcA; obtain ⟨hcoA, hfoA⟩ := bcell hbA
  go_wp2
  go_ret
  exact ⟨rfl, hb03.trans (hbA.mono hb03.size)⟩
end Go.Proofs.YthecbopffdpefaaDoor
