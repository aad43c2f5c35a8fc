/-
  XGo: XLisRc.
-/
import Derived.Test.YtkmofpnefjgnkaaGn
import Derived.Test.YtkmofpnefjgnkaaAlo
namespace Go.Proofs.Ytkmofpnefjgnkaa
open Go.RowKit
set_option linter.unusedVariables false
attribute [local go_sem] vwp vUpon_value vUpon_skip vUpon_enter vUpon_row
set_option linter.unusedSimpArgs false
set_option linter.unusedVariables false
section
set_option linter.unusedSimpArgs false
set_option linter.unusedVariables false
attribute [local go_sem high] eql_rect neq_rect
theorem from_ok {x y r b : Int} (h1 : x < r) (h2 : y < b) : fromR x y r b = ⟨x, y, r - x, b - y⟩ := by unfold fromR; rw [if_neg (by omega)]
theorem meet_em (p q : Re) : emptyR (meetR p q) = (meetR p q).eqb Re.none := by
  unfold meetR
  split
  · decide
  · rename_i h
    simp only [Bool.or_eq_true, not_or, Bool.not_eq_true] at h
    obtain ⟨m1, a1, a2⟩ := full_bd h.1
    obtain ⟨m2, b1, b2⟩ := full_bd h.2
    have c1 := may_bd m1; have c2 := may_bd m2; have c3 := may_sum m1; have c4 := may_sum m2
    unfold fromR
    split
    · decide
    · rename_i hn
      have hm : mayR ⟨max p.x q.x, max p.y q.y, min (p.x + p.wd) (q.x + q.wd) - max p.x q.x, min (p.y + p.ht) (q.y + q.ht) - max p.y q.y⟩ = true := may_of (by simp only; omega)
      rw [empty_none hm]
      have e1 : noneR ⟨max p.x q.x, max p.y q.y, min (p.x + p.wd) (q.x + q.wd) - max p.x q.x, min (p.y + p.ht) (q.y + q.ht) - max p.y q.y⟩ = false := by
        unfold noneR
        simp only [Bool.or_eq_false_iff, decide_eq_false_iff_not]
        omega
      rw [e1]
      symm
      unfold Re.eqb eq4 Re.none
      simp only [Bool.and_eq_false_iff, beq_eq_false_iff_ne]
      omega
end
end Go.Proofs.Ytkmofpnefjgnkaa
