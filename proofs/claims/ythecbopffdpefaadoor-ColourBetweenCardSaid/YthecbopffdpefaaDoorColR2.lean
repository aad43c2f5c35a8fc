/-
  The document's Back.
-/
import Derived.Test.YthecbopffdpefaaDoorColR
namespace Go.Proofs.YthecbopffdpefaaDoor
open Go.RowKit
set_option linter.unusedVariables false
set_option linter.unusedSimpArgs false
attribute [local go_sem] vwp vUpon_value vUpon_skip vUpon_enter vUpon_row
theorem named_small (n : Nat) (h : n < 16) : (namedS n).size ≤ 9 := by
  obtain ⟨hC, _⟩ := named_read n h
  exact hC.nine
theorem rread_any (n : Nat) (w : World) (h : n < 16) : Calls Tryd.prog 10 #[.string (namedS n)] w fun e w' => e = .returned (.tuple #[.agg #[.int .u8 (bkR n), .int .u8 (bkG n), .int .u8 (bkB n), .int .u8 (255)], .int .i64 0, .int .i64 0]) ∧ Below w.heap.size w w' := by
  obtain ⟨hC, h4, e0, e1, e2, e3⟩ := named_read n h
  have := rparse_good (namedS n) (namedS n).size w hC rfl h4
  rwa [e0, e1, e2, e3] at this
def sq (x y : Int) : Int := (x - y) * (x - y)
theorem sq_bd (x y : Int) (hx : U8 x) (hy : U8 y) : 0 ≤ sq x y ∧ sq x y ≤ 65025 := by
  unfold U8 at hx hy
  unfold sq
  obtain ⟨d, hd⟩ : ∃ d, x - y = d := ⟨_, rfl⟩
  rw [hd]
  rcases Int.le_total 0 d with h | h
  · exact ⟨Int.mul_nonneg h h, by have := Int.mul_le_mul (show d ≤ 255 by omega) (show d ≤ 255 by omega) h (by omega); simpa using this⟩
  · have e : d * d = (-d) * (-d) := by rw [Int.neg_mul_neg]
    rw [e]
    have h' : 0 ≤ -d := by omega
    exact ⟨Int.mul_nonneg h' h', by have := Int.mul_le_mul (show -d ≤ 255 by omega) (show -d ≤ 255 by omega) h' (by omega); simpa using this⟩
set_option maxHeartbeats 400000 in
theorem square_any (x y : Int) (w : World) (hx : U8 x) (hy : U8 y) : Calls Tryd.prog 40 #[.int .u8 x, .int .u8 y] w fun e w' => e = .returned (.int .i64 (sq x y)) ∧ w = w' := by
  have hb := sq_bd x y hx hy
  unfold sq at hb ⊢
  obtain ⟨hb0, hb1⟩ := hb; obtain ⟨x0, x1⟩ := hx; obtain ⟨y0, y1⟩ := hy
  go_enter Tryd.func40, Tryd.ntmps40
  go_wp2
  go_ret
  exact ⟨rfl, rfl⟩
def farN (ar ag ab br bg bb : Int) : Int := 2 * sq ar br + 4 * sq ag bg + 3 * sq ab bb
theorem farN_bd (ar ag ab br bg bb : Int) (h1 : U8 ar) (h2 : U8 ag) (h3 : U8 ab) (h5 : U8 br) (h6 : U8 bg) (h7 : U8 bb) : 0 ≤ farN ar ag ab br bg bb ∧ farN ar ag ab br bg bb ≤ 585225 := by
  have := sq_bd ar br h1 h5; have := sq_bd ag bg h2 h6; have := sq_bd ab bb h3 h7
  unfold farN; omega
end Go.Proofs.YthecbopffdpefaaDoor
