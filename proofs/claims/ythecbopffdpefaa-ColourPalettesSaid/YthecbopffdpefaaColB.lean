/-
  The colours' functions of numbers, the second part: the document's own, mixed, light, clear.
-/
import Derived.Test.YthecbopffdpefaaColA
namespace Go.Proofs.Ythecbopffdpefaa
open Go.RowKit
set_option linter.unusedVariables false
attribute [local go_sem] vwp vUpon_value vUpon_skip vUpon_enter vUpon_row

set_option maxHeartbeats 400000 in
theorem whole_any (ar ag ab aA br bg bb bA : Int) (w : World) (h4 : U8 aA) (h8 : U8 bA) :
    Calls Try.prog 21 #[.agg #[.int .u8 (ar), .int .u8 (ag), .int .u8 (ab), .int .u8 (aA)], .agg #[.int .u8 (br), .int .u8 (bg), .int .u8 (bb), .int .u8 (bA)]] w fun e w' => e = .returned (.int .i64 (255 * aA + (255 - aA) * bA)) ∧ Below w.heap.size w w' := by
  obtain ⟨m1, m2, m3⟩ := down_bd aA bA h4 h8
  obtain ⟨p0, p1⟩ := h4; obtain ⟨q0, q1⟩ := h8
  go_enter Try.func21, Try.ntmps21
  go_wp2
  go_ret
  exact ⟨rfl, (by repeat (first | exact Below.refl _ _ | assumption | refine Below.drew ?_ | refine Below.alloc ?_ (by (try simp) <;> omega) _ | refine Below.setCell ?_ (by (try simp) <;> omega) _))⟩

set_option maxHeartbeats 400000 in
theorem laid_any (ar ag ab aA br bg bb bA x y : Int) (w : World) (h4 : U8 aA) (h8 : U8 bA) (hx : U8 x) (hy : U8 y) (h0 : 0 < aA) :
    Calls Try.prog 20 #[.agg #[.int .u8 (ar), .int .u8 (ag), .int .u8 (ab), .int .u8 (aA)], .agg #[.int .u8 (br), .int .u8 (bg), .int .u8 (bb), .int .u8 (bA)], .int .u8 x, .int .u8 y] w fun e w' => e = .returned (.int .u8 (part (255 * aA) ((255 - aA) * bA) x y)) ∧ Below w.heap.size w w' := by
  obtain ⟨m1, m2, m3⟩ := down_bd aA bA h4 h8
  have hbd := part_bd (255 * aA) ((255 - aA) * bA) x y hx hy (by omega) m1 (by omega)
  have wh := fun w => whole_any ar ag ab aA br bg bb bA w h4 h8
  have WH := Lib.hid wh; clear wh
  unfold part at hbd ⊢
  obtain ⟨hx0, hx1⟩ := hx; obtain ⟨hy0, hy1⟩ := hy; obtain ⟨b0, b1⟩ := hbd
  obtain ⟨p0, p1⟩ := h4; obtain ⟨q0, q1⟩ := h8
  have k1 : 0 ≤ 255 * aA * x := Int.mul_nonneg (by omega) hx0
  have k2 : 255 * aA * x ≤ 65025 * 255 := Int.mul_le_mul (by omega) hx1 hx0 (by omega)
  have k3 : 0 ≤ (255 - aA) * bA * y := Int.mul_nonneg m1 hy0
  have k4 : (255 - aA) * bA * y ≤ 65025 * 255 := Int.mul_le_mul (by omega) hy1 hy0 (by omega)
  go_enter Try.func20, Try.ntmps20
  go_wp2_with (go_at_call 21; (with_reducible refine (WH.out _).mono ?_); rintro e w1 ⟨rfl, hb1⟩; obtain ⟨hc1, hf1⟩ := bcell hb1; have hz1 := hb1.size; (try simp at hz1))
  go_ret
  exact ⟨rfl, (by repeat (first | exact Below.refl _ _ | assumption | refine Below.drew ?_ | refine Below.alloc ?_ (by (try simp) <;> omega) _ | refine Below.setCell ?_ (by (try simp) <;> omega) _ | (refine Below.trans ?_ (Below.mono (by assumption) (by (try simp) <;> omega)))))⟩

set_option maxHeartbeats 1000000 in
theorem rover_any (ar ag ab aA br bg bb bA : Int) (w : World) (h1 : U8 ar) (h2 : U8 ag) (h3 : U8 ab) (h4 : U8 aA) (h5 : U8 br) (h6 : U8 bg) (h7 : U8 bb) (h8 : U8 bA) :
    Calls Try.prog 6 #[.agg #[.int .u8 (ar), .int .u8 (ag), .int .u8 (ab), .int .u8 (aA)], .agg #[.int .u8 (br), .int .u8 (bg), .int .u8 (bb), .int .u8 (bA)]] w fun e w' =>
      e = .returned (.agg #[.int .u8 (ov aA bA ar br), .int .u8 (ov aA bA ag bg), .int .u8 (ov aA bA ab bb), .int .u8 (ovA aA bA)]) ∧ Below w.heap.size w w' := by
  by_cases h0 : aA = 0
  · subst h0
    go_enter Try.func6, Try.ntmps6
    go_wp2
    refine bodyPost_ret (v := .agg #[.int .u8 (br), .int .u8 (bg), .int .u8 (bb), .int .u8 (bA)]) (by simp [results, Try.results6, go_sem]) rfl ⟨by simp [ov, ovA], (by repeat (first | exact Below.refl _ _ | assumption | refine Below.drew ?_ | refine Below.alloc ?_ (by (try simp) <;> omega) _ | refine Below.setCell ?_ (by (try simp) <;> omega) _))⟩
  · obtain ⟨m1, m2, m3⟩ := down_bd aA bA h4 h8
    have a1 := ovA_bd aA bA h4 h8
    have hp : 0 < aA := by have := h4.1; omega
    have LD := fun x y w hx hy => laid_any ar ag ab aA br bg bb bA x y w h4 h8 hx hy hp
    have WH := fun w => whole_any ar ag ab aA br bg bb bA w h4 h8
    replace LD := Lib.hid LD
    replace WH := Lib.hid WH
    obtain ⟨p0, p1⟩ := h4; obtain ⟨q0, q1⟩ := h8
    have hne : (aA == 0) = false := by simp; omega
    have e1 : ov aA bA ar br = part (255 * aA) ((255 - aA) * bA) ar br := if_neg h0
    have e2 : ov aA bA ag bg = part (255 * aA) ((255 - aA) * bA) ag bg := if_neg h0
    have e3 : ov aA bA ab bb = part (255 * aA) ((255 - aA) * bA) ab bb := if_neg h0
    have e4 : ovA aA bA = (255 * aA + (255 - aA) * bA + 127) / 255 := if_neg h0
    rw [e1, e2, e3, e4]
    rw [e4] at a1
    obtain ⟨a10, a11⟩ := a1
    clear e1 e2 e3 e4 h0
    go_enter Try.func6, Try.ntmps6
    go_wp2
    refine wp_region_steady_then (Held w 3 [(⟨w.heap.size, 0, none⟩, .int .u8 (ar)), (⟨w.heap.size, 1, none⟩, .int .u8 (ag)), (⟨w.heap.size, 2, none⟩, .int .u8 (ab)), (⟨w.heap.size, 3, none⟩, .int .u8 (aA)), (⟨w.heap.size + 1, 0, none⟩, .int .u8 (br)), (⟨w.heap.size + 1, 1, none⟩, .int .u8 (bg)), (⟨w.heap.size + 1, 2, none⟩, .int .u8 (bb)), (⟨w.heap.size + 1, 3, none⟩, .int .u8 (bA)), (⟨w.heap.size + 1 + 1, 0, none⟩, .int .u8 (0)), (⟨w.heap.size + 1 + 1, 1, none⟩, .int .u8 (0)), (⟨w.heap.size + 1 + 1, 2, none⟩, .int .u8 (0)), (⟨w.heap.size + 1 + 1, 3, none⟩, .int .u8 (0))]) 28 (by kernel_rfl) (by kernel_rfl) (by decide) (by kernel_rfl) (by kernel_rfl) ⟨(by repeat (first | exact Below.refl _ _ | assumption | refine Below.drew ?_ | refine Below.alloc ?_ (by (try simp) <;> omega) _ | refine Below.setCell ?_ (by (try simp) <;> omega) _)), (by (try simp) <;> omega), (by simp only [Cells]; go_simp)⟩ ?_
    simp only [List.take_succ_cons, List.take_zero]
    repeat (first | (refine' wpSteady_do (by rfl) _ _; rotate_left; (focus (intro w1 hS R hR; have hc := hS.cells; simp only [Cells] at hc; go_simp; first | exact hR _ hS | ((go_at_call 20; (with_reducible refine (LD.out _ _ _ ‹_› ‹_›).mono ?_); rintro e w2 ⟨rfl, hb2⟩; exact ⟨_, rfl, hR _ (hS.below hb2)⟩)) | ((go_at_call 21; (with_reducible refine (WH.out _).mono ?_); rintro e w2 ⟨rfl, hb2⟩; exact ⟨_, rfl, hR _ (hS.below hb2)⟩)))); simp only [Act.put, List.setIfInBounds_toArray, List.set_cons_zero, List.set_cons_succ]) | (refine wpSteady_pass (by rfl) ?_; simp only [Act.put, List.setIfInBounds_toArray, List.set_cons_zero, List.set_cons_succ]))
    refine wpSteady_nil (fun w1 hS => ?_)
    have hc := hS.cells; have hb := hS.old; have hz := hS.size; clear hS; simp only [Cells] at hc
    simp only [List.drop_succ_cons, List.drop_zero, List.drop_nil]
    go_wp2
    refine bodyPost_ret (v := .agg #[.int .u8 (part (255 * aA) ((255 - aA) * bA) ar br), .int .u8 (part (255 * aA) ((255 - aA) * bA) ag bg), .int .u8 (part (255 * aA) ((255 - aA) * bA) ab bb), .int .u8 ((255 * aA + (255 - aA) * bA + 127) / 255)]) (by simp [results, Try.results6, go_sem, hc]) rfl ⟨rfl, (by repeat (first | exact Below.refl _ _ | assumption | refine Below.drew ?_ | refine Below.alloc ?_ (by (try simp) <;> omega) _ | refine Below.setCell ?_ (by (try simp) <;> omega) _))⟩

/-- P4.4, over numbers. -/
def mixN (x y p : Int) : Int := (x * (255 - p) + y * p + 127) / 255
theorem mix_bds (x y p : Int) (hx : U8 x) (hy : U8 y) (hp : U8 p) : 0 ≤ x * (255 - p) ∧ x * (255 - p) ≤ 255 * (255 - p) ∧ 0 ≤ y * p ∧ y * p ≤ 255 * p :=
  ⟨Int.mul_nonneg hx.1 (by have := hp.2; omega), Int.mul_le_mul_of_nonneg_right hx.2 (by have := hp.2; omega), Int.mul_nonneg hy.1 hp.1, Int.mul_le_mul_of_nonneg_right hy.2 hp.1⟩
theorem mix_bd (x y p : Int) (hx : U8 x) (hy : U8 y) (hp : U8 p) : U8 (mixN x y p) := by
  obtain ⟨a, b, c, d⟩ := mix_bds x y p hx hy hp
  unfold mixN; exact ⟨by omega, by omega⟩

set_option maxHeartbeats 400000 in
theorem mixPart (x y p : Int) (b o : Nat) (w : World) (hx : U8 x) (hy : U8 y) (hp : U8 p) (h : w.cell? ⟨b, o, none⟩ = some (.int .i64 p)) :
    Calls Try.prog 22 #[.int .u8 x, .int .u8 y, .pointer (some ⟨b, o, none⟩)] w fun e w' => e = .returned (.int .u8 (mixN x y p)) ∧ w = w' := by
  obtain ⟨k1, k2, k3, k4⟩ := mix_bds x y p hx hy hp
  have hbd := mix_bd x y p hx hy hp
  unfold mixN at hbd ⊢
  obtain ⟨b0, b1⟩ := hbd
  obtain ⟨hx0, hx1⟩ := hx; obtain ⟨hy0, hy1⟩ := hy; obtain ⟨hp0, hp1⟩ := hp
  go_enter Try.func22, Try.ntmps22
  go_wp2
  go_ret
  exact ⟨rfl, rfl⟩
set_option maxHeartbeats 400000 in
theorem rmixPart (x y p : Int) (w : World) (hx : U8 x) (hy : U8 y) (hp : U8 p) :
    Calls Try.prog 23 #[.int .u8 x, .int .u8 y, .int .u8 p] w fun e w' => e = .returned (.int .u8 (mixN x y p)) ∧ w = w' := by
  obtain ⟨k1, k2, k3, k4⟩ := mix_bds x y p hx hy hp
  have hbd := mix_bd x y p hx hy hp
  unfold mixN at hbd ⊢
  obtain ⟨b0, b1⟩ := hbd
  obtain ⟨hx0, hx1⟩ := hx; obtain ⟨hy0, hy1⟩ := hy; obtain ⟨hp0, hp1⟩ := hp
  go_enter Try.func23, Try.ntmps23
  go_wp2
  go_ret
  exact ⟨rfl, rfl⟩
set_option maxHeartbeats 1000000 in
theorem mix_any (ar ag ab aA br bg bb bA p : Int) (w : World) (h1 : U8 ar) (h2 : U8 ag) (h3 : U8 ab) (h4 : U8 aA) (h5 : U8 br) (h6 : U8 bg) (h7 : U8 bb) (h8 : U8 bA) (h9 : U8 p) :
    Calls Try.prog 7 #[.agg #[.int .u8 (ar), .int .u8 (ag), .int .u8 (ab), .int .u8 (aA)], .agg #[.int .u8 (br), .int .u8 (bg), .int .u8 (bb), .int .u8 (bA)], .int .u8 p] w fun e w' =>
      e = .returned (.agg #[.int .u8 (mixN ar br p), .int .u8 (mixN ag bg p), .int .u8 (mixN ab bb p), .int .u8 (mixN aA bA p)]) ∧ Below w.heap.size w w' := by
  have hp0 := h9.1; have hp1 := h9.2
  go_enter Try.func7, Try.ntmps7
  go_wp2
  refine wp_region_steady_then (Held w 4 [(⟨w.heap.size, 0, none⟩, .int .u8 (ar)), (⟨w.heap.size, 1, none⟩, .int .u8 (ag)), (⟨w.heap.size, 2, none⟩, .int .u8 (ab)), (⟨w.heap.size, 3, none⟩, .int .u8 (aA)), (⟨w.heap.size + 1, 0, none⟩, .int .u8 (br)), (⟨w.heap.size + 1, 1, none⟩, .int .u8 (bg)), (⟨w.heap.size + 1, 2, none⟩, .int .u8 (bb)), (⟨w.heap.size + 1, 3, none⟩, .int .u8 (bA)), (⟨w.heap.size + 1 + 1, 0, none⟩, .int .u8 (0)), (⟨w.heap.size + 1 + 1, 1, none⟩, .int .u8 (0)), (⟨w.heap.size + 1 + 1, 2, none⟩, .int .u8 (0)), (⟨w.heap.size + 1 + 1, 3, none⟩, .int .u8 (0)), (⟨w.heap.size + 1 + 1 + 1, 0, none⟩, .int .i64 p)]) 25 (by kernel_rfl) (by kernel_rfl) (by decide) (by kernel_rfl) (by kernel_rfl) ⟨(by repeat (first | exact Below.refl _ _ | assumption | refine Below.drew ?_ | refine Below.alloc ?_ (by (try simp) <;> omega) _ | refine Below.setCell ?_ (by (try simp) <;> omega) _)), (by (try simp) <;> omega), (by simp only [Cells]; go_simp)⟩ ?_
  simp only [List.take_succ_cons, List.take_zero]
  repeat (first | (refine' wpSteady_do (by rfl) _ _; rotate_left; (focus (intro w1 hS R hR; have hc := hS.cells; simp only [Cells] at hc; go_simp; first | exact hR _ hS | (refine (mixPart _ _ p _ _ _ ‹_› ‹_› ‹_› (by simp only [hc])).mono ?_; rintro e w2 ⟨rfl, rfl⟩; exact ⟨_, rfl, hR _ hS⟩))); simp only [Act.put, List.setIfInBounds_toArray, List.set_cons_zero, List.set_cons_succ]) | (refine wpSteady_pass (by rfl) ?_; simp only [Act.put, List.setIfInBounds_toArray, List.set_cons_zero, List.set_cons_succ]))
  refine wpSteady_nil (fun w1 hS => ?_)
  have hc := hS.cells; have hb := hS.old; have hz := hS.size; clear hS; simp only [Cells] at hc
  simp only [List.drop_succ_cons, List.drop_zero, List.drop_nil]
  go_wp2
  refine bodyPost_ret (v := .agg #[.int .u8 (mixN ar br p), .int .u8 (mixN ag bg p), .int .u8 (mixN ab bb p), .int .u8 (mixN aA bA p)]) (by simp [results, Try.results7, go_sem, hc]) rfl ⟨rfl, (by repeat (first | exact Below.refl _ _ | assumption | refine Below.drew ?_ | refine Below.alloc ?_ (by (try simp) <;> omega) _ | refine Below.setCell ?_ (by (try simp) <;> omega) _))⟩
set_option maxHeartbeats 1000000 in
theorem rmix_any (ar ag ab aA br bg bb bA p : Int) (w : World) (h1 : U8 ar) (h2 : U8 ag) (h3 : U8 ab) (h4 : U8 aA) (h5 : U8 br) (h6 : U8 bg) (h7 : U8 bb) (h8 : U8 bA) (h9 : U8 p) :
    Calls Try.prog 8 #[.agg #[.int .u8 (ar), .int .u8 (ag), .int .u8 (ab), .int .u8 (aA)], .agg #[.int .u8 (br), .int .u8 (bg), .int .u8 (bb), .int .u8 (bA)], .int .u8 p] w fun e w' =>
      e = .returned (.agg #[.int .u8 (mixN ar br p), .int .u8 (mixN ag bg p), .int .u8 (mixN ab bb p), .int .u8 (mixN aA bA p)]) ∧ Below w.heap.size w w' := by
  have hp0 := h9.1; have hp1 := h9.2
  go_enter Try.func8, Try.ntmps8
  go_wp2
  refine wp_region_steady_then (Held w 3 [(⟨w.heap.size, 0, none⟩, .int .u8 (ar)), (⟨w.heap.size, 1, none⟩, .int .u8 (ag)), (⟨w.heap.size, 2, none⟩, .int .u8 (ab)), (⟨w.heap.size, 3, none⟩, .int .u8 (aA)), (⟨w.heap.size + 1, 0, none⟩, .int .u8 (br)), (⟨w.heap.size + 1, 1, none⟩, .int .u8 (bg)), (⟨w.heap.size + 1, 2, none⟩, .int .u8 (bb)), (⟨w.heap.size + 1, 3, none⟩, .int .u8 (bA)), (⟨w.heap.size + 1 + 1, 0, none⟩, .int .u8 (0)), (⟨w.heap.size + 1 + 1, 1, none⟩, .int .u8 (0)), (⟨w.heap.size + 1 + 1, 2, none⟩, .int .u8 (0)), (⟨w.heap.size + 1 + 1, 3, none⟩, .int .u8 (0))]) 25 (by kernel_rfl) (by kernel_rfl) (by decide) (by kernel_rfl) (by kernel_rfl) ⟨(by repeat (first | exact Below.refl _ _ | assumption | refine Below.drew ?_ | refine Below.alloc ?_ (by (try simp) <;> omega) _ | refine Below.setCell ?_ (by (try simp) <;> omega) _)), (by (try simp) <;> omega), (by simp only [Cells]; go_simp)⟩ ?_
  simp only [List.take_succ_cons, List.take_zero]
  repeat (first | (refine' wpSteady_do (by rfl) _ _; rotate_left; (focus (intro w1 hS R hR; have hc := hS.cells; simp only [Cells] at hc; go_simp; first | exact hR _ hS | (refine (rmixPart _ _ p _ ‹_› ‹_› ‹_›).mono ?_; rintro e w2 ⟨rfl, rfl⟩; exact ⟨_, rfl, hR _ hS⟩))); simp only [Act.put, List.setIfInBounds_toArray, List.set_cons_zero, List.set_cons_succ]) | (refine wpSteady_pass (by rfl) ?_; simp only [Act.put, List.setIfInBounds_toArray, List.set_cons_zero, List.set_cons_succ]))
  refine wpSteady_nil (fun w1 hS => ?_)
  have hc := hS.cells; have hb := hS.old; have hz := hS.size; clear hS; simp only [Cells] at hc
  simp only [List.drop_succ_cons, List.drop_zero, List.drop_nil]
  go_wp2
  refine bodyPost_ret (v := .agg #[.int .u8 (mixN ar br p), .int .u8 (mixN ag bg p), .int .u8 (mixN ab bb p), .int .u8 (mixN aA bA p)]) (by simp [results, Try.results8, go_sem, hc]) rfl ⟨rfl, (by repeat (first | exact Below.refl _ _ | assumption | refine Below.drew ?_ | refine Below.alloc ?_ (by (try simp) <;> omega) _ | refine Below.setCell ?_ (by (try simp) <;> omega) _))⟩
end Go.Proofs.Ythecbopffdpefaa
