/-
  XGt: XLisSa.
-/
import Derived.Test.YtkmofpnefjgnkaaGr
import Derived.Test.YtkmofpnefjgnkaaGj
namespace Go.Proofs.Ytkmofpnefjgnkaa
open Go.RowKit
set_option linter.unusedVariables false
attribute [local go_sem] vwp vUpon_value vUpon_skip vUpon_enter vUpon_row
set_option linter.unusedSimpArgs false
set_option linter.unusedVariables false
section
set_option linter.unusedSimpArgs false
set_option linter.unusedVariables false
def ovrB (ps : List Re) (q : Re) : Bool := ps.any fun p => overR p q
theorem wth_step {ps : List Re} {k : Nat} {p q : Re} (h : ps[k]? = some p) : wthB (ps.drop k) q = (inR p q && wthB (ps.drop (k + 1)) q) := by
  rw [drop_get h]; rfl
theorem ovr_step {ps : List Re} {k : Nat} {p q : Re} (h : ps[k]? = some p) : ovrB (ps.drop k) q = (overR p q || ovrB (ps.drop (k + 1)) q) := by
  rw [drop_get h]; rfl
end
end Go.Proofs.Ytkmofpnefjgnkaa
