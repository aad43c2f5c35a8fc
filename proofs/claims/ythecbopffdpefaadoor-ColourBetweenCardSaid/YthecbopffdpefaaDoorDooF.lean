/-
  A byte in two small sixteens.
-/
import Derived.Test.YthecbopffdpefaaDoorDooE
namespace Go.Proofs.YthecbopffdpefaaDoor
open Go.RowKit
set_option linter.unusedVariables false
attribute [local go_sem] vwp vUpon_value vUpon_skip vUpon_enter vUpon_row
set_option linter.unusedSimpArgs false
set_option linter.unusedVariables false
def allS : ByteArray := ⟨#[48, 49, 50, 51, 52, 53, 54, 55, 56, 57, 97, 98, 99, 100, 101, 102]⟩
def hxU (n : Nat) : UInt8 := [48, 49, 50, 51, 52, 53, 54, 55, 56, 57, 97, 98, 99, 100, 101, 102].getD n 0
theorem ex_one (q : Nat) (h : q < 16) : (⟨#[48, 49, 50, 51, 52, 53, 54, 55, 56, 57, 97, 98, 99, 100, 101, 102]⟩ : ByteArray).extract q (q + 1) = ⟨#[hxU q]⟩ := by
  rcases sixteen q h with rfl | rfl | rfl | rfl | rfl | rfl | rfl | rfl | rfl | rfl | rfl | rfl | rfl | rfl | rfl | rfl <;> decide
def tw (q m : Nat) : ByteArray := ⟨#[hxU q, hxU m]⟩
set_option maxHeartbeats 1000000 in
theorem two_any (b : Int) (q m : Nat) (w : World) (hb : b = 16 * q + m) (hq : q < 16) (hm : m < 16) : Calls Tryd.prog 30 #[.int .u8 b] w fun e w' => e = .returned (.string (tw q m)) ∧ Below w.heap.size w w' := by
  have e0 : b / 16 = (q : Int) := by omega
  have e1 : b % 16 = (m : Int) := by omega
  have b0 : 0 ≤ b := by omega
  have b1 : b ≤ 255 := by omega
  have i0 : (q : Int) + 1 ≤ 16 := by omega
  have i1 : (m : Int) + 1 ≤ 16 := by omega
  have i2 : (q : Int) ≤ q + 1 := by omega
  have i3 : (m : Int) ≤ m + 1 := by omega
  have x0 := ex_one q hq
  have x1 := ex_one m hm
  clear hb
  go_enter Tryd.func30, Tryd.ntmps30
  go_wp2
  refine wp_region_steady (Held w 0 []) (by kernel_rfl) (by kernel_rfl) ⟨(by repeat (first | exact Below.refl _ _ | assumption | refine Below.drew ?_ | refine Below.alloc ?_ (by (try simp) <;> omega) _ | refine Below.setCell ?_ (by (try simp) <;> omega) _ | (refine Below.trans ?_ (Below.mono (by assumption) (by (try simp) <;> omega))))), (by (try simp) <;> omega), (by first | exact trivial | (simp only [Cells]; go_simp))⟩ ?_
  repeat (first | (refine' wpSteady_do _ _ _; rotate_left; (focus rfl); (focus (intro w1 hS R hR; have hc := hS.cells; simp only [Cells] at hc; obtain ⟨hco, hfo⟩ := bcell hS.old; go_simp; (try go_bits); first | exact hR _ hS | fail)); simp only [Act.put, List.setIfInBounds_toArray, List.set_cons_zero, List.set_cons_succ]) | (refine wpSteady_pass ?_ ?_; (focus rfl); simp only [Act.put, List.setIfInBounds_toArray, List.set_cons_zero, List.set_cons_succ]))
  refine wpSteady_nil (fun uA hSA => ?_)
  have hcA := hSA.cells; have hbA := hSA.old; have hzA := hSA.size; clear hSA; simp only [Cells] at hcA; obtain ⟨hcoA, hfoA⟩ := bcell hbA
  go_wp2
  go_ret
  exact ⟨rfl, hbA⟩
end Go.Proofs.YthecbopffdpefaaDoor
