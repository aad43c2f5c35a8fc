/-
  Palettes, the second part: each number's colour, both texts.
-/
import Derived.Test.YthecbopffdpefaaDoorColQ
namespace Go.Proofs.YthecbopffdpefaaDoor
open Go.RowKit
set_option linter.unusedVariables false
set_option linter.unusedSimpArgs false
attribute [local go_sem] vwp vUpon_value vUpon_skip vUpon_enter vUpon_row
set_option maxHeartbeats 4000000 in
theorem back_few (n : Int) (w : World) (hn : U8 n) : Calls Tryd.prog 23 #[.int .u8 n, .bool false] w fun e w' => e = .returned (.agg #[.int .u8 (bkR (n % 16)), .int .u8 (bkG (n % 16)), .int .u8 (bkB (n % 16)), .int .u8 (255)]) ∧ Below w.heap.size w w' := by
  obtain ⟨n0, n1⟩ := hn
  obtain ⟨r, hr⟩ : ∃ r, n % 16 = r := ⟨_, rfl⟩
  have h0 : 0 ≤ r := by omega
  have h : r < 16 := by omega
  rcases sixteenI r h0 h with rfl | rfl | rfl | rfl | rfl | rfl | rfl | rfl | rfl | rfl | rfl | rfl | rfl | rfl | rfl | rfl
  all_goals
    go_enter Tryd.func23, Tryd.ntmps23
    go_wp2
    refine bodyPost_ret (v := .agg #[.int .u8 _, .int .u8 _, .int .u8 _, .int .u8 255]) (by simp [results, Tryd.results23, go_sem]; exact ⟨rfl, rfl, rfl⟩) rfl ⟨by rw [hr]; rfl, (by repeat (first | exact Below.refl _ _ | assumption | refine Below.drew ?_ | refine Below.alloc ?_ (by (try simp) <;> omega) _ | refine Below.setCell ?_ (by (try simp) <;> omega) _))⟩
set_option maxHeartbeats 1000000 in
theorem back_gray (n : Int) (w : World) (h0 : 232 ≤ n) (h : n ≤ 255) : Calls Tryd.prog 23 #[.int .u8 n, .bool true] w fun e w' => e = .returned (.agg #[.int .u8 (bkR n), .int .u8 (bkG n), .int .u8 (bkB n), .int .u8 (255)]) ∧ Below w.heap.size w w' := by
  obtain ⟨e1, e2, e3⟩ := bk_gray n h0
  rw [e1, e2, e3]
  clear e1 e2 e3
  have h7 : (n == 7) = false := by simp; omega
  have h8 : (n == 8) = false := by simp; omega
  go_enter Tryd.func23, Tryd.ntmps23
  go_wp2
  refine bodyPost_ret (v := .agg #[.int .u8 (8 + 10 * (n - 232)), .int .u8 (8 + 10 * (n - 232)), .int .u8 (8 + 10 * (n - 232)), .int .u8 (255)]) (by simp [results, Tryd.results23, go_sem]) rfl ⟨rfl, (by repeat (first | exact Below.refl _ _ | assumption | refine Below.drew ?_ | refine Below.alloc ?_ (by (try simp) <;> omega) _ | refine Below.setCell ?_ (by (try simp) <;> omega) _))⟩
set_option maxHeartbeats 1000000 in
theorem back_cube (n : Int) (w : World) (h0 : 16 ≤ n) (h : n < 232) : Calls Tryd.prog 23 #[.int .u8 n, .bool true] w fun e w' => e = .returned (.agg #[.int .u8 (bkR n), .int .u8 (bkG n), .int .u8 (bkB n), .int .u8 (255)]) ∧ Below w.heap.size w w' := by
  obtain ⟨e1, e2, e3⟩ := bk_cube n h0 h
  rw [e1, e2, e3]
  clear e1 e2 e3
  have h7 : (n == 7) = false := by simp; omega
  have h8 : (n == 8) = false := by simp; omega
  have L1 := fun w => level_any ((n - 16) / 36) w (by omega) (by omega)
  have L2 := fun w => level_any ((n - 16) / 6 % 6) w (by omega) (by omega)
  have L3 := fun w => level_any ((n - 16) % 6) w (by omega) (by omega)
  replace L1 := Lib.hid L1
  replace L2 := Lib.hid L2
  replace L3 := Lib.hid L3
  go_enter Tryd.func23, Tryd.ntmps23
  go_wp2_with (first
    | (go_at_call 35; (with_reducible refine (L1.out _).mono ?_); rintro e w1 ⟨rfl, rfl⟩)
    | (go_at_call 35; (with_reducible refine (L2.out _).mono ?_); rintro e w1 ⟨rfl, rfl⟩)
    | (go_at_call 35; (with_reducible refine (L3.out _).mono ?_); rintro e w1 ⟨rfl, rfl⟩))
  refine bodyPost_ret (v := .agg #[.int .u8 (levelN ((n - 16) / 36)), .int .u8 (levelN ((n - 16) / 6 % 6)), .int .u8 (levelN ((n - 16) % 6)), .int .u8 (255)]) (by simp [results, Tryd.results23, go_sem]) rfl ⟨rfl, (by repeat (first | exact Below.refl _ _ | assumption | refine Below.drew ?_ | refine Below.alloc ?_ (by (try simp) <;> omega) _ | refine Below.setCell ?_ (by (try simp) <;> omega) _))⟩
theorem back_many (n : Int) (w : World) (hn : U8 n) : Calls Tryd.prog 23 #[.int .u8 n, .bool true] w fun e w' => e = .returned (.agg #[.int .u8 (bkR n), .int .u8 (bkG n), .int .u8 (bkB n), .int .u8 (255)]) ∧ Below w.heap.size w w' := by
  obtain ⟨n0, n1⟩ := hn
  by_cases h : n < 16
  · exact back_small n w n0 h
  · by_cases g : 232 ≤ n
    · exact back_gray n w g n1
    · exact back_cube n w (by omega) (by omega)

end Go.Proofs.YthecbopffdpefaaDoor
