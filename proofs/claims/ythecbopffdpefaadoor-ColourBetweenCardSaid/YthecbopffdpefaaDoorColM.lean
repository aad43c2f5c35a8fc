/-
  The document's nearest one; Sixteen, Many of both texts; the law ColourPalettes walked.
-/
import Derived.Test.YthecbopffdpefaaDoorColN
namespace Go.Proofs.YthecbopffdpefaaDoor
open Go.RowKit
set_option linter.unusedVariables false
set_option linter.unusedSimpArgs false
attribute [local go_sem] vwp vUpon_value vUpon_skip vUpon_enter vUpon_row
/-- P4.5's number, of so many. -/
def numN (r g b a : Int) (n : Nat) : Int := (bestN (dist (ov a 255 r 0) (ov a 255 g 0) (ov a 255 b 0)) n : Nat)
theorem numN_bd (r g b a : Int) (n : Nat) (h : 0 < n) : 0 ≤ numN r g b a n ∧ numN r g b a n < n := by
  have := bestN_lt (dist (ov a 255 r 0) (ov a 255 g 0) (ov a 255 b 0)) n h
  unfold numN; omega
set_option maxHeartbeats 400000 in
theorem six_any (r g b a : Int) (w : World) (h1 : U8 r) (h2 : U8 g) (h3 : U8 b) (h4 : U8 a) : Calls Tryd.prog 20 #[.agg #[.int .u8 (r), .int .u8 (g), .int .u8 (b), .int .u8 (a)]] w fun e w' => e = .returned (.int .u8 (numN r g b a 16)) ∧ Below w.heap.size w w' := by
  have NE := fun w => nearest_any r g b a 16 w h1 h2 h3 h4 (by omega) (by omega)
  change ∀ w, Calls _ _ #[_, .int .i64 16] w (fun e w' => e = .returned (.int .u8 (numN r g b a 16)) ∧ _) at NE
  replace NE := Lib.hid NE
  go_enter Tryd.func20, Tryd.ntmps20
  go_wp2_with (go_at_call 34; (with_reducible refine (NE.out _).mono ?_); rintro e w1 ⟨rfl, hb1⟩; obtain ⟨hc1, hf1⟩ := bcell hb1; have hz1 := hb1.size; (try simp at hz1); (try have lt1 : w.heap.size < w1.heap.size := (by omega)))
  go_ret
  exact ⟨rfl, (by repeat (first | exact Below.refl _ _ | assumption | refine Below.drew ?_ | refine Below.alloc ?_ (by (try simp) <;> omega) _ | refine Below.setCell ?_ (by (try simp) <;> omega) _ | (refine Below.trans ?_ (Below.mono (by assumption) (by (try simp) <;> omega)))))⟩
set_option maxHeartbeats 400000 in
theorem many_any (r g b a : Int) (w : World) (h1 : U8 r) (h2 : U8 g) (h3 : U8 b) (h4 : U8 a) : Calls Tryd.prog 21 #[.agg #[.int .u8 (r), .int .u8 (g), .int .u8 (b), .int .u8 (a)]] w fun e w' => e = .returned (.int .u8 (numN r g b a 256)) ∧ Below w.heap.size w w' := by
  have NE := fun w => nearest_any r g b a 256 w h1 h2 h3 h4 (by omega) (by omega)
  change ∀ w, Calls _ _ #[_, .int .i64 256] w (fun e w' => e = .returned (.int .u8 (numN r g b a 256)) ∧ _) at NE
  replace NE := Lib.hid NE
  go_enter Tryd.func21, Tryd.ntmps21
  go_wp2_with (go_at_call 34; (with_reducible refine (NE.out _).mono ?_); rintro e w1 ⟨rfl, hb1⟩; obtain ⟨hc1, hf1⟩ := bcell hb1; have hz1 := hb1.size; (try simp at hz1); (try have lt1 : w.heap.size < w1.heap.size := (by omega)))
  go_ret
  exact ⟨rfl, (by repeat (first | exact Below.refl _ _ | assumption | refine Below.drew ?_ | refine Below.alloc ?_ (by (try simp) <;> omega) _ | refine Below.setCell ?_ (by (try simp) <;> omega) _ | (refine Below.trans ?_ (Below.mono (by assumption) (by (try simp) <;> omega)))))⟩
end Go.Proofs.YthecbopffdpefaaDoor
