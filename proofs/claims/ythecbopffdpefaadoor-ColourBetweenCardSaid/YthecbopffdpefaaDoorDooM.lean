/-
  'far' of the laws; plain: the nearest ones.
-/
import Derived.Test.YthecbopffdpefaaDoorDooL
namespace Go.Proofs.YthecbopffdpefaaDoor
open Go.RowKit
set_option linter.unusedVariables false
attribute [local go_sem] vwp vUpon_value vUpon_skip vUpon_enter vUpon_row
set_option linter.unusedSimpArgs false
set_option linter.unusedVariables false
theorem sq2 (x y d : Int) (h : x - y = d) : d * d = sq x y := by unfold sq; rw [h]
set_option maxHeartbeats 1000000 in
theorem lfar_any (ar ag ab aA br bg bb bA : Int) (w : World) (h1 : U8 ar) (h2 : U8 ag) (h3 : U8 ab) (h5 : U8 br) (h6 : U8 bg) (h7 : U8 bb) :
    Calls Tryd.prog 22 #[.agg #[.int .u8 (ar), .int .u8 (ag), .int .u8 (ab), .int .u8 (aA)], .agg #[.int .u8 (br), .int .u8 (bg), .int .u8 (bb), .int .u8 (bA)]] w fun e w' => e = .returned (.int .i64 (farN ar ag ab br bg bb)) ∧ Below w.heap.size w w' := by
  have s1 := sq_bd ar br h1 h5; have s2 := sq_bd ag bg h2 h6; have s3 := sq_bd ab bb h3 h7
  obtain ⟨a10, a11⟩ := h1; obtain ⟨a20, a21⟩ := h2; obtain ⟨a30, a31⟩ := h3; obtain ⟨a50, a51⟩ := h5; obtain ⟨a60, a61⟩ := h6; obtain ⟨a70, a71⟩ := h7
  obtain ⟨d1, e1⟩ : ∃ d, ar - br = d := ⟨_, rfl⟩
  obtain ⟨d2, e2⟩ : ∃ d, ag - bg = d := ⟨_, rfl⟩
  obtain ⟨d3, e3⟩ : ∃ d, ab - bb = d := ⟨_, rfl⟩
  have q1 := sq2 _ _ _ e1; have q2 := sq2 _ _ _ e2; have q3 := sq2 _ _ _ e3
  have b1 : -255 ≤ d1 ∧ d1 ≤ 255 := by omega
  have b2 : -255 ≤ d2 ∧ d2 ≤ 255 := by omega
  have b3 : -255 ≤ d3 ∧ d3 ≤ 255 := by omega
  unfold farN
  rw [← q1] at s1 ⊢; rw [← q2] at s2 ⊢; rw [← q3] at s3 ⊢
  have m1 : 2 * d1 * d1 = 2 * (d1 * d1) := Int.mul_assoc _ _ _
  have m2 : 4 * d2 * d2 = 4 * (d2 * d2) := Int.mul_assoc _ _ _
  have m3 : 3 * d3 * d3 = 3 * (d3 * d3) := Int.mul_assoc _ _ _
  have c1 : 0 ≤ 2 * d1 * d1 ∧ 2 * d1 * d1 ≤ 130050 := by omega
  have c2 : 0 ≤ 4 * d2 * d2 ∧ 4 * d2 * d2 ≤ 260100 := by omega
  have c3 : 0 ≤ 3 * d3 * d3 ∧ 3 * d3 * d3 ≤ 195075 := by omega
  rw [← m1, ← m2, ← m3]
  obtain ⟨c10, c11⟩ := c1; obtain ⟨c20, c21⟩ := c2; obtain ⟨c30, c31⟩ := c3
  obtain ⟨b10, b11⟩ := b1; obtain ⟨b20, b21⟩ := b2; obtain ⟨b30, b31⟩ := b3
  replace e1 := Lib.hid e1; replace e2 := Lib.hid e2; replace e3 := Lib.hid e3
  clear q1 q2 q3 s1 s2 s3 m1 m2 m3
  go_enter Tryd.func22, Tryd.ntmps22
  go_wp2
  refine wp_region_steady (Held w 2 [(⟨w.heap.size, 0, none⟩, .int .u8 (ar)), (⟨w.heap.size, 1, none⟩, .int .u8 (ag)), (⟨w.heap.size, 2, none⟩, .int .u8 (ab)), (⟨w.heap.size, 3, none⟩, .int .u8 (aA)), (⟨w.heap.size + 1, 0, none⟩, .int .u8 (br)), (⟨w.heap.size + 1, 1, none⟩, .int .u8 (bg)), (⟨w.heap.size + 1, 2, none⟩, .int .u8 (bb)), (⟨w.heap.size + 1, 3, none⟩, .int .u8 (bA))]) (by kernel_rfl) (by kernel_rfl) ⟨(by repeat (first | exact Below.refl _ _ | assumption | refine Below.drew ?_ | refine Below.alloc ?_ (by (try simp) <;> omega) _ | refine Below.setCell ?_ (by (try simp) <;> omega) _)), (by (try simp) <;> omega), (by simp only [Cells]; go_simp)⟩ ?_
  repeat (first | (refine' wpSteady_do _ _ _; rotate_left; (focus rfl); (focus (intro w1 hS R hR; have hc := hS.cells; simp only [Cells] at hc; go_simp; (try go_bits); first | exact hR _ hS | fail)); simp only [Act.put, List.setIfInBounds_toArray, List.set_cons_zero, List.set_cons_succ]) | (refine wpSteady_pass ?_ ?_; (focus rfl); simp only [Act.put, List.setIfInBounds_toArray, List.set_cons_zero, List.set_cons_succ]))
  refine wpSteady_nil (fun w1 hS => ?_)
  have hc := hS.cells; have hb := hS.old; have hz := hS.size; clear hS; simp only [Cells] at hc
  rw [e1.out, e2.out, e3.out]
  clear a10 a11 a20 a21 a30 a31 a50 a51 a60 a61 a70 a71
  go_wp2
  go_ret
  exact ⟨rfl, (by repeat (first | exact Below.refl _ _ | assumption | refine Below.drew ?_ | refine Below.alloc ?_ (by (try simp) <;> omega) _ | refine Below.setCell ?_ (by (try simp) <;> omega) _ | (refine Below.trans ?_ (Below.mono (by assumption) (by (try simp) <;> omega)))))⟩
theorem sq_self (x : Int) : sq x x = 0 := by unfold sq; simp
theorem sq_zero {x y : Int} (h : sq x y = 0) : x = y := by
  unfold sq at h
  rcases Int.mul_eq_zero.1 h with h | h <;> omega
theorem farN_self (r g b : Int) : farN r g b r g b = 0 := by unfold farN; rw [sq_self, sq_self, sq_self]; rfl
theorem farN_zero {ar ag ab br bg bb : Int} (h1 : U8 ar) (h2 : U8 ag) (h3 : U8 ab) (h5 : U8 br) (h6 : U8 bg) (h7 : U8 bb) (h : farN ar ag ab br bg bb ≤ 0) : ar = br ∧ ag = bg ∧ ab = bb := by
  have := sq_bd ar br h1 h5; have := sq_bd ag bg h2 h6; have := sq_bd ab bb h3 h7
  unfold farN at h
  exact ⟨sq_zero (by omega), sq_zero (by omega), sq_zero (by omega)⟩
/-- Of the many the nearest to one of them is the same colour. -/
theorem many_self (m : Nat) (hm : m < 256) : ∀ k, k = bestN (dist (bkR m) (bkG m) (bkB m)) 256 → bkR k = bkR m ∧ bkG k = bkG m ∧ bkB k = bkB m := by
  intro k hk
  have lt := bestN_lt (dist (bkR m) (bkG m) (bkB m)) 256 (by omega)
  have h := (bestN_is (dist (bkR m) (bkG m) (bkB m)) 256 (by omega) m hm).1
  rw [← hk] at h lt
  unfold dist at h
  rw [farN_self] at h
  obtain ⟨a, b, c⟩ := bk_bd (m : Int) ⟨by omega, by omega⟩
  obtain ⟨d, e, f⟩ := bk_bd (k : Int) ⟨by omega, by omega⟩
  obtain ⟨x, y, z⟩ := farN_zero a b c d e f h
  exact ⟨x.symm, y.symm, z.symm⟩
/-- Of the few the nearest to one of them is itself. -/
theorem few_self (i : Nat) (hi : i < 16) : bestN (dist (bkR i) (bkG i) (bkB i)) 16 = i := by
  have key : (List.range 16).all (fun i => decide (i < 16) && (List.range 16).all fun j => decide (dist (bkR i) (bkG i) (bkB i) i ≤ dist (bkR i) (bkG i) (bkB i) j) && (decide (i ≤ j) || decide (dist (bkR i) (bkG i) (bkB i) i < dist (bkR i) (bkG i) (bkB i) j))) = true := by decide +kernel
  exact bestN_chk _ _ _ (List.all_eq_true.1 key i (List.mem_range.2 hi))
end Go.Proofs.YthecbopffdpefaaDoor
