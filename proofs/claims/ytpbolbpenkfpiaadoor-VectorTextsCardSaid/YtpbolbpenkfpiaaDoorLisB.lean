/-
  Rectangles that may be: both texts, whole.
-/
import Derived.Test.YtpbolbpenkfpiaaDoorLisA
namespace Go.Proofs.YtpbolbpenkfpiaaDoor
open Go.RowKit
set_option linter.unusedVariables false
attribute [local go_sem] vwp vUpon_value vUpon_skip vUpon_enter vUpon_row
set_option linter.unusedSimpArgs false
structure Re where
  x : Int
  y : Int
  wd : Int
  ht : Int
instance : Inhabited Re := ⟨⟨0, 0, 0, 0⟩⟩
def Re.Wf (q : Re) : Prop := I64 q.x ∧ I64 q.y ∧ I64 q.wd ∧ I64 q.ht
theorem inB_iff {n : Int} : inB n = true ↔ -16384 ≤ n ∧ n ≤ 16384 := by simp [inB]
theorem sdB_iff {n : Int} : sdB n = true ↔ 0 ≤ n ∧ n ≤ 32768 := by simp [sdB]
def spanB (a s : Int) : Bool := inB a && (sdB s && decide (a + s ≤ 16384))
def mayR (q : Re) : Bool := spanB q.x q.wd && spanB q.y q.ht
theorem span_any (a s : Int) (w : World) (ha : I64 a) (hs : I64 s) : Calls Tryd.prog 52 #[.int .i64 a, .int .i64 s] w fun e w' => e = .returned (.bool (spanB a s)) ∧ w = w' := by
  have A := fun w => rwithin_any a w ha
  have B := fun w => rside_any s w hs
  unfold spanB
  cases h1 : inB a
  · rw [h1] at A
    replace A := Lib.hid A
    go_enter Tryd.func52, Tryd.ntmps52
    go_wp2_with (first | (go_at_call 58; (with_reducible refine (A.out _).mono ?_); rintro e w1 ⟨rfl, rfl⟩) | (go_at_call 59; (with_reducible refine (B _).mono ?_); rintro e w2 ⟨rfl, rfl⟩))
    go_ret
    exact ⟨rfl, rfl⟩
  · cases h2 : sdB s
    · rw [h1] at A
      rw [h2] at B
      replace A := Lib.hid A
      replace B := Lib.hid B
      go_enter Tryd.func52, Tryd.ntmps52
      go_wp2_with (first | (go_at_call 58; (with_reducible refine (A.out _).mono ?_); rintro e w1 ⟨rfl, rfl⟩) | (go_at_call 59; (with_reducible refine (B.out _).mono ?_); rintro e w2 ⟨rfl, rfl⟩))
      go_ret
      exact ⟨rfl, rfl⟩
    · rw [h1] at A
      rw [h2] at B
      obtain ⟨x1, x2⟩ := inB_iff.1 h1
      obtain ⟨y1, y2⟩ := sdB_iff.1 h2
      clear h1 h2
      replace A := Lib.hid A
      replace B := Lib.hid B
      go_enter Tryd.func52, Tryd.ntmps52
      go_wp2_with (first | (go_at_call 58; (with_reducible refine (A.out _).mono ?_); rintro e w1 ⟨rfl, rfl⟩) | (go_at_call 59; (with_reducible refine (B.out _).mono ?_); rintro e w2 ⟨rfl, rfl⟩))
      go_ret
      exact ⟨rfl, rfl⟩
theorem may_any (q : Re) (w : World) (hq : q.Wf) : Calls Tryd.prog 43 #[.agg #[.int .i64 (q).x, .int .i64 (q).y, .int .i64 (q).wd, .int .i64 (q).ht]] w fun e w' => e = .returned (.bool (mayR q)) ∧ Below w.heap.size w w' := by
  have A := fun w => span_any q.x q.wd w hq.1 hq.2.2.1
  have B := fun w => span_any q.y q.ht w hq.2.1 hq.2.2.2
  unfold mayR
  cases h1 : spanB q.x q.wd <;> rw [h1] at A <;> replace A := Lib.hid A <;> replace B := Lib.hid B
  · go_enter Tryd.func43, Tryd.ntmps43
    go_wp2_with (first | (go_at_call 52; (with_reducible refine (A.out _).mono ?_); rintro e w1 ⟨rfl, rfl⟩) | (go_at_call 52; (with_reducible refine (B.out _).mono ?_); rintro e w2 ⟨rfl, rfl⟩))
    go_ret
    exact ⟨rfl, (by repeat (first | exact Below.refl _ _ | assumption | refine Below.drew ?_ | refine Below.alloc ?_ (by (try simp) <;> omega) _ | refine Below.setCell ?_ (by (try simp) <;> omega) _))⟩
  · go_enter Tryd.func43, Tryd.ntmps43
    go_wp2_with (first | (go_at_call 52; (with_reducible refine (A.out _).mono ?_); rintro e w1 ⟨rfl, rfl⟩) | (go_at_call 52; (with_reducible refine (B.out _).mono ?_); rintro e w2 ⟨rfl, rfl⟩))
    go_ret
    exact ⟨rfl, (by repeat (first | exact Below.refl _ _ | assumption | refine Below.drew ?_ | refine Below.alloc ?_ (by (try simp) <;> omega) _ | refine Below.setCell ?_ (by (try simp) <;> omega) _))⟩
end Go.Proofs.YtpbolbpenkfpiaaDoor
