/-
  XGv: XLisSc.
-/
import Derived.Test.YtkmofpnefjgnkaaGu
namespace Go.Proofs.Ytkmofpnefjgnkaa
open Go.RowKit
set_option linter.unusedVariables false
attribute [local go_sem] vwp vUpon_value vUpon_skip vUpon_enter vUpon_row
set_option linter.unusedSimpArgs false
set_option linter.unusedVariables false
section
set_option linter.unusedSimpArgs false
set_option linter.unusedVariables false
end
end Go.Proofs.Ytkmofpnefjgnkaa
