/-
  Rectangles that may be: both texts.
-/
import Derived.Test.YtpbolbpenkfpiaaDoorBlk
namespace Go.Proofs.YtpbolbpenkfpiaaDoor
open Go.RowKit
set_option linter.unusedVariables false
attribute [local go_sem] vwp vUpon_value vUpon_skip vUpon_enter vUpon_row
set_option linter.unusedSimpArgs false
def inB (n : Int) : Bool := decide (-16384 ≤ n) && decide (n ≤ 16384)
def sdB (n : Int) : Bool := decide (0 ≤ n) && decide (n ≤ 32768)
theorem gwithin_any (n : Int) (w : World) (hn : I64 n) : Calls Tryd.prog 46 #[.int .i64 n] w fun e w' => e = .returned (.bool (inB n)) ∧ w = w' := by
  unfold inB
  go_enter Tryd.func46, Tryd.ntmps46
  by_cases h : -16384 ≤ n
  · have g1 : decide (-16384 ≤ n) = true := by simpa using h
    go_wp2
    go_ret
    exact ⟨by simp [g1], rfl⟩
  · have g1 : decide (-16384 ≤ n) = false := by simpa using h
    go_wp2
    go_ret
    exact ⟨by simp [g1], rfl⟩
theorem gside_any (n : Int) (w : World) (hn : I64 n) : Calls Tryd.prog 47 #[.int .i64 n] w fun e w' => e = .returned (.bool (sdB n)) ∧ w = w' := by
  unfold sdB
  go_enter Tryd.func47, Tryd.ntmps47
  by_cases h : 0 ≤ n
  · have g1 : decide (0 ≤ n) = true := by simpa using h
    go_wp2
    go_ret
    exact ⟨by simp [g1], rfl⟩
  · have g1 : decide (0 ≤ n) = false := by simpa using h
    go_wp2
    go_ret
    exact ⟨by simp [g1], rfl⟩
theorem rwithin_any (n : Int) (w : World) (hn : I64 n) : Calls Tryd.prog 58 #[.int .i64 n] w fun e w' => e = .returned (.bool (inB n)) ∧ w = w' := by
  unfold inB
  go_enter Tryd.func58, Tryd.ntmps58
  by_cases h : -16384 ≤ n
  · have g1 : decide (-16384 ≤ n) = true := by simpa using h
    go_wp2
    go_ret
    exact ⟨by simp [g1], rfl⟩
  · have g1 : decide (-16384 ≤ n) = false := by simpa using h
    go_wp2
    go_ret
    exact ⟨by simp [g1], rfl⟩
theorem rside_any (n : Int) (w : World) (hn : I64 n) : Calls Tryd.prog 59 #[.int .i64 n] w fun e w' => e = .returned (.bool (sdB n)) ∧ w = w' := by
  unfold sdB
  go_enter Tryd.func59, Tryd.ntmps59
  by_cases h : 0 ≤ n
  · have g1 : decide (0 ≤ n) = true := by simpa using h
    go_wp2
    go_ret
    exact ⟨by simp [g1], rfl⟩
  · have g1 : decide (0 ≤ n) = false := by simpa using h
    go_wp2
    go_ret
    exact ⟨by simp [g1], rfl⟩
end Go.Proofs.YtpbolbpenkfpiaaDoor
