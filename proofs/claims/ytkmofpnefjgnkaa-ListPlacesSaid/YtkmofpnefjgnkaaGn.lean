/-
  XGn: XLisRb.
-/
import Derived.Test.YtkmofpnefjgnkaaGi
import Derived.Test.YtkmofpnefjgnkaaGf
namespace Go.Proofs.Ytkmofpnefjgnkaa
open Go.RowKit
set_option linter.unusedVariables false
attribute [local go_sem] vwp vUpon_value vUpon_skip vUpon_enter vUpon_row
set_option linter.unusedSimpArgs false
set_option linter.unusedVariables false
section
set_option linter.unusedSimpArgs false
set_option linter.unusedVariables false
def ShC (wr : World) (q : Re) (wx : World) : Prop := RBox wx wr.heap.size q ∧ wr.heap.size + 1 ≤ wx.heap.size ∧ Below wr.heap.size wr wx
def Sh2 (w : World) (R : List Re) (xs : List St) (k : Nat) (M : List Re) (ov cv : Value) (wr : World) : Prop :=
  OwnsR w.heap.size wr ov (R.take k) ∧ OwnsR w.heap.size wr cv M ∧ Apart ov cv ∧ shGo M (xs.drop k) = R.drop k ∧ chkGo M.length (xs.drop k) = 0 ∧ (∀ q ∈ M, mayR q = true) ∧ M.length ≤ k ∧ Below w.heap.size w wr
theorem take_next {R : List Re} {k : Nat} {q : Re} (h : R[k]? = some q) : R.take (k + 1) = R.take k ++ [q] := by rw [List.take_add_one, h]; rfl
end
end Go.Proofs.Ytkmofpnefjgnkaa
