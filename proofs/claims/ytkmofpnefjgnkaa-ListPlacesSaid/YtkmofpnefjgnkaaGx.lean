/-
  XGx: XLisSe.
-/
import Derived.Test.YtkmofpnefjgnkaaGw
namespace Go.Proofs.Ytkmofpnefjgnkaa
open Go.RowKit
set_option linter.unusedVariables false
attribute [local go_sem] vwp vUpon_value vUpon_skip vUpon_enter vUpon_row
set_option linter.unusedSimpArgs false
set_option linter.unusedVariables false
section
set_option linter.unusedSimpArgs false
set_option linter.unusedVariables false
theorem wf_bothL (a : List Re) : WfL (bothL a [] 1) := by
  unfold bothL
  split
  · rename_i h
    have hca : chkR a = 0 := by unfold askR at h; by_cases h' : chkR a = 0; exact h'; rw [if_neg h'] at h; exact h
    obtain ⟨ma, _⟩ := chkR_may hca
    unfold madeL
    split
    · exact wf_nil
    · exact wf_of_may (form_may ma mayL_nil 1)
  · exact wf_nil
end
end Go.Proofs.Ytkmofpnefjgnkaa
