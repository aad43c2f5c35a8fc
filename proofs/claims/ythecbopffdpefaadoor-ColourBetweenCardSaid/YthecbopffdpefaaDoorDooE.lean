/-
  'c' and 'alive' of the laws; two colours held against one another as one Boolean.
-/
import Derived.Test.YthecbopffdpefaaDoorDooC
import Derived.Laws.StructEq
namespace Go.Proofs.YthecbopffdpefaaDoor
open Go.RowKit
set_option linter.unusedVariables false
attribute [local go_sem] vwp vUpon_value vUpon_skip vUpon_enter vUpon_row
set_option linter.unusedSimpArgs false
set_option linter.unusedVariables false
def eq4 (a b c d a' b' c' d' : Int) : Bool := (a == a') && ((b == b') && ((c == c') && (d == d')))
theorem eq4_iff {a b c d a' b' c' d' : Int} : eq4 a b c d a' b' c' d' = true ↔ a = a' ∧ b = b' ∧ c = c' ∧ d = d' := by
  simp [eq4]
theorem eq4_refl (a b c d : Int) : eq4 a b c d a b c d = true := by simp [eq4]
theorem eq_colour (d : Nat) (w : World) (a b c e a' b' c' e' : Int) : (Op.equalIn (d + 2) 23 (.agg #[.int .u8 (a), .int .u8 (b), .int .u8 (c), .int .u8 (e)]) (.agg #[.int .u8 (a'), .int .u8 (b'), .int .u8 (c'), .int .u8 (e')])).run Tryd.prog w = .ok (eq4 a b c e a' b' c' e') w := by
  unfold eq4
  have A := Tryd.underlying23
  have B := Tryd.underlying5
  rw [run_equalIn_agg w (d + 1) _ _ _ (by simp [Program.fieldsOf, A]) (by kernel_rfl)]
  simp only [Program.fieldsOf, A]
  by_cases h0 : a = a' <;> by_cases h1 : b = b' <;> by_cases h2 : c = c' <;> by_cases h3 : e = e' <;> simp [Op.eqFields, Go.part, isAgg, run_underlying B, run_equalIn_int _ _ _ _ _ _ _ B, h0, h1, h2, h3]
theorem eql_colour (w : World) (a b c e a' b' c' e' : Int) : (binOp .eql 23 (.agg #[.int .u8 (a), .int .u8 (b), .int .u8 (c), .int .u8 (e)]) (.agg #[.int .u8 (a'), .int .u8 (b'), .int .u8 (c'), .int .u8 (e')])).run Tryd.prog w = .ok (.bool (eq4 a b c e a' b' c' e')) w := by
  rw [run_eql_struct, eq_colour 9998]
  rfl
theorem neq_colour (w : World) (a b c e a' b' c' e' : Int) : (binOp .neq 23 (.agg #[.int .u8 (a), .int .u8 (b), .int .u8 (c), .int .u8 (e)]) (.agg #[.int .u8 (a'), .int .u8 (b'), .int .u8 (c'), .int .u8 (e')])).run Tryd.prog w = .ok (.bool (!eq4 a b c e a' b' c' e')) w := by
  rw [run_neq_struct, eq_colour 9998]
  rfl
attribute [local go_sem high] eql_colour neq_colour
theorem c_any (a b c d : Int) (w : World) : Calls Tryd.prog 19 #[.int .u8 a, .int .u8 b, .int .u8 c, .int .u8 d] w fun e w' => e = .returned (.agg #[.int .u8 (a), .int .u8 (b), .int .u8 (c), .int .u8 (d)]) ∧ Below w.heap.size w w' := by
  go_enter Tryd.func19, Tryd.ntmps19
  go_wp2
  refine bodyPost_ret (v := .agg #[.int .u8 (a), .int .u8 (b), .int .u8 (c), .int .u8 (d)]) (by simp [results, Tryd.results19, go_sem]) rfl ⟨rfl, (by repeat (first | exact Below.refl _ _ | assumption | refine Below.drew ?_ | refine Below.alloc ?_ (by (try simp) <;> omega) _ | refine Below.setCell ?_ (by (try simp) <;> omega) _))⟩
def oneS : ByteArray := ⟨#[35, 49, 97, 70]⟩
theorem one_read (w : World) : Calls Tryd.prog 9 #[.string ⟨#[35, 49, 97, 70]⟩] w fun e w' => e = .returned (.tuple #[.agg #[.int .u8 (17), .int .u8 (170), .int .u8 (255), .int .u8 (255)], .int .i64 0, .int .i64 0]) ∧ Below w.heap.size w w' := by
  have h := lparse_good oneS 4 w (cnt_of _ _ rfl (by decide) (by decide +kernel)) rfl (.inl rfl)
  rw [show pr oneS 4 0 = 17 by decide +kernel, show pr oneS 4 1 = 170 by decide +kernel, show pr oneS 4 2 = 255 by decide +kernel, show pr oneS 4 3 = 255 by decide +kernel] at h
  exact h
theorem b8 {x : Int} (h : 0 ≤ x ∧ x ≤ 255) : U8 x := h
theorem one_over (w : World) : Calls Tryd.prog 13 #[.agg #[.int .u8 (255), .int .u8 (0), .int .u8 (0), .int .u8 (128)], .agg #[.int .u8 (0), .int .u8 (0), .int .u8 (255), .int .u8 (255)]] w fun e w' => e = .returned (.agg #[.int .u8 (128), .int .u8 (0), .int .u8 (127), .int .u8 (255)]) ∧ Below w.heap.size w w' := by
  have h := over_any 255 0 0 128 0 0 255 255 w (b8 (by omega)) (b8 (by omega)) (b8 (by omega)) (b8 (by omega)) (b8 (by omega)) (b8 (by omega)) (b8 (by omega)) (b8 (by omega))
  rw [show ov 128 255 255 0 = 128 by decide, show ov 128 255 0 0 = 0 by decide, show ov 128 255 0 255 = 127 by decide, show ovA 128 255 = 255 by decide] at h
  exact h
theorem one_light (w : World) : Calls Tryd.prog 17 #[.agg #[.int .u8 (255), .int .u8 (255), .int .u8 (255), .int .u8 (255)]] w fun e w' => e = .returned (.int .i64 1000000) ∧ Below w.heap.size w w' := by
  have h := light_any 255 255 255 255 w (b8 (by omega)) (b8 (by omega)) (b8 (by omega)) (b8 (by omega))
  rw [show lightN 255 255 255 255 = 1000000 by decide] at h
  exact h
theorem alive_any (w : World) : Calls Tryd.prog 16 #[] w fun e w' => e = .returned (.bool true) ∧ Below w.heap.size w w' := by
  go_enter Tryd.func16, Tryd.ntmps16
  go_wp2_with (first
    | (go_at_call 9; (with_reducible refine (one_read _).mono ?_); rintro e w1 ⟨rfl, hb1⟩)
    | go_in)
  obtain ⟨w2, hw2⟩ : ∃ w2, w1.alloc (.cells #[.int .u8 17, .int .u8 170, .int .u8 255, .int .u8 255] 23) = w2 := ⟨_, rfl⟩
  have hb2 : Below w.heap.size w w2 := by rw [← hw2]; exact hb1.alloc hb1.size _
  have lt : w1.heap.size < w2.heap.size := by rw [← hw2]; simp
  have c0 : w2.cell? ⟨w1.heap.size, 0, none⟩ = some (.int .u8 17) := by rw [← hw2]; exact World.cell?_alloc_at _ _ _ _ rfl
  have c1 : w2.cell? ⟨w1.heap.size, 1, none⟩ = some (.int .u8 170) := by rw [← hw2]; exact World.cell?_alloc_at _ _ _ _ rfl
  have c2 : w2.cell? ⟨w1.heap.size, 2, none⟩ = some (.int .u8 255) := by rw [← hw2]; exact World.cell?_alloc_at _ _ _ _ rfl
  have c3 : w2.cell? ⟨w1.heap.size, 3, none⟩ = some (.int .u8 255) := by rw [← hw2]; exact World.cell?_alloc_at _ _ _ _ rfl
  rw [hw2]
  clear hw2
  have E1 : eq4 17 170 255 255 17 170 255 255 = true := rfl
  have E2 : eq4 128 0 127 255 128 0 127 255 = true := rfl
  refine wp_region_steady (Held w2 0 []) (by kernel_rfl) (by kernel_rfl) ⟨(by repeat (first | exact Below.refl _ _ | assumption | refine Below.drew ?_ | refine Below.alloc ?_ (by (try simp) <;> omega) _ | refine Below.setCell ?_ (by (try simp) <;> omega) _ | (refine Below.trans ?_ (Below.mono (by assumption) (by (try simp) <;> omega))))), (by (try simp) <;> omega), (by first | exact trivial | (simp only [Cells]; go_simp))⟩ ?_
  repeat (first | (refine' wpSteady_do _ _ _; rotate_left; (focus rfl); (focus (intro w1 hS R hR; have hc := hS.cells; simp only [Cells] at hc; obtain ⟨hco, hfo⟩ := bcell hS.old; go_simp; (try go_bits); first | exact hR _ hS | first | (go_at_call 19; (with_reducible refine (c_any _ _ _ _ _).mono ?_); rintro e w2 ⟨rfl, hb2⟩; exact ⟨_, rfl, hR _ (hS.below hb2)⟩) | (go_at_call 13; (with_reducible refine (one_over _).mono ?_); rintro e w2 ⟨rfl, hb2⟩; exact ⟨_, rfl, hR _ (hS.below hb2)⟩) | (go_at_call 17; (with_reducible refine (one_light _).mono ?_); rintro e w2 ⟨rfl, hb2⟩; exact ⟨_, rfl, hR _ (hS.below hb2)⟩))); simp only [Act.put, List.setIfInBounds_toArray, List.set_cons_zero, List.set_cons_succ]) | (refine wpSteady_pass ?_ ?_; (focus rfl); simp only [Act.put, List.setIfInBounds_toArray, List.set_cons_zero, List.set_cons_succ]))
  refine wpSteady_nil (fun uA hSA => ?_)
  have hcA := hSA.cells; have hbA := hSA.old; have hzA := hSA.size; clear hSA; simp only [Cells] at hcA; obtain ⟨hcoA, hfoA⟩ := bcell hbA
  go_wp2
  go_ret
  exact ⟨rfl, hb2.trans (hbA.mono hb2.size)⟩
end Go.Proofs.YthecbopffdpefaaDoor
