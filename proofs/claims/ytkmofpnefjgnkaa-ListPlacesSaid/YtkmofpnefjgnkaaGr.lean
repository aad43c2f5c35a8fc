/-
  XGr: XLisRf.
-/
import Derived.Test.YtkmofpnefjgnkaaGq
namespace Go.Proofs.Ytkmofpnefjgnkaa
open Go.RowKit
set_option linter.unusedVariables false
attribute [local go_sem] vwp vUpon_value vUpon_skip vUpon_enter vUpon_row
set_option linter.unusedSimpArgs false
set_option linter.unusedVariables false
section
set_option linter.unusedSimpArgs false
set_option linter.unusedVariables false
section
attribute [local go_sem high] neq_rect
end
def longB (n : Nat) : Bool := (decide (200 < n) && decide (n ≤ 16384)) || decide (17000 < n)
end
end Go.Proofs.Ytkmofpnefjgnkaa
