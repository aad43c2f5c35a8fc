/-
  A list of rectangles, read.
-/
import Derived.Test.YtkmofpnefjgnkaaPlaM
namespace Go.Proofs.Ytkmofpnefjgnkaa
open Go.RowKit
set_option linter.unusedVariables false
set_option linter.unusedSimpArgs false
attribute [local go_sem] vwp vUpon_value vUpon_skip vUpon_enter vUpon_row
set_option linter.unusedVariables false
theorem list4 {cs : List Value} (h : cs.length = 4) : ∃ a b c d, cs = [a, b, c, d] := by
  match cs, h with
  | [a, b, c, d], _ => exact ⟨a, b, c, d, rfl⟩
section
variable {H : Type} {enc : TypeId × Value → H} {w : World} {base : Nat} {spare : Nat → Bool} {held : Bool}
set_option maxRecDepth 100000 in
theorem open_rects {r : Reach} {b0 : Nat} {v : Value} {d : DataW H} {p : List MemPlace} (hv : Value.okWide Try.prog w r b0 35 v) (h : DataW.Trod enc Try.prog w base spare held 35 v d p) :
    ∃ xs : List Re, Row w.heap.size 4 Re.enc w v xs ∧ ∀ x ∈ xs, x.Wf :=
  open_row Try.underlying35 (by kernel_rfl) (by omega) (fun n cs y hl ht => by
    obtain ⟨a, b, c, d, rfl⟩ := list4 hl
    exact rect_of ht) hv h
end
end Go.Proofs.Ytkmofpnefjgnkaa
