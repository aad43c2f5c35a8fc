/-
  Rectangles that may be: both texts, whole.
-/
import Derived.Test.YtlklmncjicgbgaaLisA
namespace Go.Proofs.Ytlklmncjicgbgaa
open Go.RowKit
set_option linter.unusedVariables false
attribute [local go_sem] vwp vUpon_value vUpon_skip vUpon_enter vUpon_row
set_option linter.unusedSimpArgs false
structure Re where
  x : Int
  y : Int
  wd : Int
  ht : Int
instance : Inhabited Re := ⟨⟨0, 0, 0, 0⟩⟩
def Re.Wf (q : Re) : Prop := I64 q.x ∧ I64 q.y ∧ I64 q.wd ∧ I64 q.ht
theorem inB_iff {n : Int} : inB n = true ↔ -16384 ≤ n ∧ n ≤ 16384 := by simp [inB]
theorem sdB_iff {n : Int} : sdB n = true ↔ 0 ≤ n ∧ n ≤ 32768 := by simp [sdB]
def spanB (a s : Int) : Bool := inB a && (sdB s && decide (a + s ≤ 16384))
def mayR (q : Re) : Bool := spanB q.x q.wd && spanB q.y q.ht
end Go.Proofs.Ytlklmncjicgbgaa
