/-
  geom.Check.
-/
import Derived.Test.YtpbolbpenkfpiaaDoorLisB
namespace Go.Proofs.YtpbolbpenkfpiaaDoor
open Go.RowKit
set_option linter.unusedVariables false
attribute [local go_sem] vwp vUpon_value vUpon_skip vUpon_enter vUpon_row
set_option linter.unusedSimpArgs false
set_option maxHeartbeats 1000000 in
theorem gcheck_any (q : Re) (w : World) (hq : q.Wf) : Calls Tryd.prog 39 #[.agg #[.int .i64 (q).x, .int .i64 (q).y, .int .i64 (q).wd, .int .i64 (q).ht]] w fun e w' => e = .returned (.int .i64 (if mayR q then 0 else 5)) ∧ Below w.heap.size w w' := by
  obtain ⟨x, y, a, b⟩ := q
  obtain ⟨q1, q2, q3, q4⟩ := hq
  simp only at q1 q2 q3 q4 ⊢
  have A := fun w => gwithin_any x w q1
  have B := fun w => gwithin_any y w q2
  have C := fun w => gside_any a w q3
  have D := fun w => gside_any b w q4
  cases h1 : inB x
  · have hm : mayR ⟨x, y, a, b⟩ = false := by simp [mayR, spanB, h1]
    rw [h1] at A
    replace A := Lib.hid A
    replace B := Lib.hid B
    replace C := Lib.hid C
    replace D := Lib.hid D
    rw [show mayR ⟨x, y, a, b⟩ = false from hm]
    clear hm
    go_enter Tryd.func39, Tryd.ntmps39
    go_wp2_with (first | (go_at_call 46; (with_reducible refine (A.out _).mono ?_); rintro e w1 ⟨rfl, rfl⟩) | (go_at_call 46; (with_reducible refine (B.out _).mono ?_); rintro e w2 ⟨rfl, rfl⟩) | (go_at_call 47; (with_reducible refine (C.out _).mono ?_); rintro e w3 ⟨rfl, rfl⟩) | (go_at_call 47; (with_reducible refine (D.out _).mono ?_); rintro e w4 ⟨rfl, rfl⟩))
    all_goals (go_ret; exact ⟨rfl, (by repeat (first | exact Below.refl _ _ | assumption | refine Below.drew ?_ | refine Below.alloc ?_ (by (try simp) <;> omega) _ | refine Below.setCell ?_ (by (try simp) <;> omega) _))⟩)
  cases h2 : inB y
  · have hm : mayR ⟨x, y, a, b⟩ = false := by simp [mayR, spanB, h2]
    rw [h1] at A
    rw [h2] at B
    replace A := Lib.hid A
    replace B := Lib.hid B
    replace C := Lib.hid C
    replace D := Lib.hid D
    rw [show mayR ⟨x, y, a, b⟩ = false from hm]
    clear hm
    go_enter Tryd.func39, Tryd.ntmps39
    go_wp2_with (first | (go_at_call 46; (with_reducible refine (A.out _).mono ?_); rintro e w1 ⟨rfl, rfl⟩) | (go_at_call 46; (with_reducible refine (B.out _).mono ?_); rintro e w2 ⟨rfl, rfl⟩) | (go_at_call 47; (with_reducible refine (C.out _).mono ?_); rintro e w3 ⟨rfl, rfl⟩) | (go_at_call 47; (with_reducible refine (D.out _).mono ?_); rintro e w4 ⟨rfl, rfl⟩))
    all_goals (go_ret; exact ⟨rfl, (by repeat (first | exact Below.refl _ _ | assumption | refine Below.drew ?_ | refine Below.alloc ?_ (by (try simp) <;> omega) _ | refine Below.setCell ?_ (by (try simp) <;> omega) _))⟩)
  cases h3 : sdB a
  · have hm : mayR ⟨x, y, a, b⟩ = false := by simp [mayR, spanB, h3]
    rw [h1] at A
    rw [h2] at B
    rw [h3] at C
    replace A := Lib.hid A
    replace B := Lib.hid B
    replace C := Lib.hid C
    replace D := Lib.hid D
    rw [show mayR ⟨x, y, a, b⟩ = false from hm]
    clear hm
    go_enter Tryd.func39, Tryd.ntmps39
    go_wp2_with (first | (go_at_call 46; (with_reducible refine (A.out _).mono ?_); rintro e w1 ⟨rfl, rfl⟩) | (go_at_call 46; (with_reducible refine (B.out _).mono ?_); rintro e w2 ⟨rfl, rfl⟩) | (go_at_call 47; (with_reducible refine (C.out _).mono ?_); rintro e w3 ⟨rfl, rfl⟩) | (go_at_call 47; (with_reducible refine (D.out _).mono ?_); rintro e w4 ⟨rfl, rfl⟩))
    all_goals (go_ret; exact ⟨rfl, (by repeat (first | exact Below.refl _ _ | assumption | refine Below.drew ?_ | refine Below.alloc ?_ (by (try simp) <;> omega) _ | refine Below.setCell ?_ (by (try simp) <;> omega) _))⟩)
  cases h4 : sdB b
  · have hm : mayR ⟨x, y, a, b⟩ = false := by simp [mayR, spanB, h4]
    rw [h1] at A
    rw [h2] at B
    rw [h3] at C
    rw [h4] at D
    replace A := Lib.hid A
    replace B := Lib.hid B
    replace C := Lib.hid C
    replace D := Lib.hid D
    rw [show mayR ⟨x, y, a, b⟩ = false from hm]
    clear hm
    go_enter Tryd.func39, Tryd.ntmps39
    go_wp2_with (first | (go_at_call 46; (with_reducible refine (A.out _).mono ?_); rintro e w1 ⟨rfl, rfl⟩) | (go_at_call 46; (with_reducible refine (B.out _).mono ?_); rintro e w2 ⟨rfl, rfl⟩) | (go_at_call 47; (with_reducible refine (C.out _).mono ?_); rintro e w3 ⟨rfl, rfl⟩) | (go_at_call 47; (with_reducible refine (D.out _).mono ?_); rintro e w4 ⟨rfl, rfl⟩))
    all_goals (go_ret; exact ⟨rfl, (by repeat (first | exact Below.refl _ _ | assumption | refine Below.drew ?_ | refine Below.alloc ?_ (by (try simp) <;> omega) _ | refine Below.setCell ?_ (by (try simp) <;> omega) _))⟩)
  obtain ⟨x1, x2⟩ := inB_iff.1 h1
  obtain ⟨y1, y2⟩ := inB_iff.1 h2
  obtain ⟨a1, a2⟩ := sdB_iff.1 h3
  obtain ⟨b1, b2⟩ := sdB_iff.1 h4
  by_cases h5 : max (x + a) (y + b) ≤ 16384
  · have hm : mayR ⟨x, y, a, b⟩ = true := by simp [mayR, spanB, h1, h2, h3, h4]; omega
    have h6 : x + a ≤ 16384 ∧ y + b ≤ 16384 := by omega
    obtain ⟨h7, h8⟩ := h6
    have g : decide (max (x + a) (y + b) ≤ 16384) = true := by simpa using h5
    rw [h1] at A
    rw [h2] at B
    rw [h3] at C
    rw [h4] at D
    replace A := Lib.hid A
    replace B := Lib.hid B
    replace C := Lib.hid C
    replace D := Lib.hid D
    rw [show mayR ⟨x, y, a, b⟩ = true from hm]
    clear hm
    go_enter Tryd.func39, Tryd.ntmps39
    go_wp2_with (first | (go_at_call 46; (with_reducible refine (A.out _).mono ?_); rintro e w1 ⟨rfl, rfl⟩) | (go_at_call 46; (with_reducible refine (B.out _).mono ?_); rintro e w2 ⟨rfl, rfl⟩) | (go_at_call 47; (with_reducible refine (C.out _).mono ?_); rintro e w3 ⟨rfl, rfl⟩) | (go_at_call 47; (with_reducible refine (D.out _).mono ?_); rintro e w4 ⟨rfl, rfl⟩))
    all_goals (go_ret; exact ⟨rfl, (by repeat (first | exact Below.refl _ _ | assumption | refine Below.drew ?_ | refine Below.alloc ?_ (by (try simp) <;> omega) _ | refine Below.setCell ?_ (by (try simp) <;> omega) _))⟩)
  · have hm : mayR ⟨x, y, a, b⟩ = false := by simp [mayR, spanB, h1, h2, h3, h4]; omega
    have g : decide (max (x + a) (y + b) ≤ 16384) = false := by simpa using h5
    rw [h1] at A
    rw [h2] at B
    rw [h3] at C
    rw [h4] at D
    replace A := Lib.hid A
    replace B := Lib.hid B
    replace C := Lib.hid C
    replace D := Lib.hid D
    rw [show mayR ⟨x, y, a, b⟩ = false from hm]
    clear hm
    go_enter Tryd.func39, Tryd.ntmps39
    go_wp2_with (first | (go_at_call 46; (with_reducible refine (A.out _).mono ?_); rintro e w1 ⟨rfl, rfl⟩) | (go_at_call 46; (with_reducible refine (B.out _).mono ?_); rintro e w2 ⟨rfl, rfl⟩) | (go_at_call 47; (with_reducible refine (C.out _).mono ?_); rintro e w3 ⟨rfl, rfl⟩) | (go_at_call 47; (with_reducible refine (D.out _).mono ?_); rintro e w4 ⟨rfl, rfl⟩))
    all_goals (go_ret; exact ⟨rfl, (by repeat (first | exact Below.refl _ _ | assumption | refine Below.drew ?_ | refine Below.alloc ?_ (by (try simp) <;> omega) _ | refine Below.setCell ?_ (by (try simp) <;> omega) _))⟩)
end Go.Proofs.YtpbolbpenkfpiaaDoor
