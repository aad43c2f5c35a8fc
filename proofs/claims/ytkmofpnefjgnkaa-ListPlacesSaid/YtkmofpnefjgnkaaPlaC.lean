/-
  Place by place, plainly: a stroke changes what shows only at its places; the strokes that nobody sees.
-/
import Derived.Test.YtkmofpnefjgnkaaPlaB
namespace Go.Proofs.Ytkmofpnefjgnkaa
open Go.RowKit
set_option linter.unusedVariables false
attribute [local go_sem] vwp vUpon_value vUpon_skip vUpon_enter vUpon_row
set_option linter.unusedSimpArgs false
set_option linter.unusedVariables false
theorem paint_plc {s : St} {q : Re} {x y : Int} (hs : s.Wf) (hk : 1 ≤ s.kind) (hm : mayR s.rect = true) (hqm : mayR q = true) (hd : drB s = true) (hin : hasR s.rect x y = true) (hh : hasR q x y = true) (hno : ∀ m ∈ plcL s q, hasR m x y = false) (out : List St) : paintP s x y out = out := by
  have hqn : q.eqb Re.none = false := by
    cases h : q.eqb Re.none
    · rfl
    · rw [eqb_iff.1 h, show hasR Re.none x y = false from has_none (by decide) (by decide)] at hh; cases hh
  unfold plcL at hno
  rw [hqn, hd] at hno
  simp only [Bool.not_true, Bool.or_self, Bool.false_eq_true, if_false] at hno
  have ha : 0 ≤ s.col.a := hs.2.2.1.2.2.2.1
  unfold paintP
  by_cases h3 : s.kind = 3
  · rw [if_neg (by omega), if_neg (by omega)]
    rw [if_pos h3] at hno
    by_cases ht : s.text.toList = []
    · rw [if_pos ht]
    · rw [if_neg ht] at hno
      have := hno q (by simp)
      rw [hh] at this; cases this
  · rw [if_neg h3] at hno
    by_cases h0 : s.col.a = 0
    · rw [h0]
      split
      · rw [if_neg (by omega), if_neg (by omega)]
      · split
        · simp
        · have : decide (s.kind ≤ 3) = true := hd
          simp at this
          omega
    · rw [if_neg h0] at hno
      by_cases h1 : s.kind = 1
      · rw [if_pos h1] at hno
        have := hno q (by simp)
        rw [hh] at this; cases this
      · rw [if_neg h1] at hno
        have h2 : s.kind = 2 := by
          have : decide (s.kind ≤ 3) = true := hd
          simp at this
          omega
        rw [if_neg h1, if_pos h2]
        rw [if_neg]
        intro he
        simp only [Bool.and_eq_true, decide_eq_true_eq] at he
        have hE := he.1
        unfold edgeP at hE
        simp only [Bool.or_eq_true, beq_iff_eq] at hE
        have hi := has_iff.1 hin
        have key : ∀ p ∈ sidesR s.rect, mayR p = true → hasR p x y = true → False := by
          intro p hp hpm hpx
          have hmt := has_meet (x := x) (y := y) hpm hqm
          rw [hpx, hh] at hmt
          have hmem : meetR p q ∈ meets (sidesR s.rect) q := by
            unfold meets
            rw [List.mem_filter]
            refine ⟨List.mem_map_of_mem hp, ?_⟩
            cases h : (meetR p q).eqb Re.none
            · rfl
            · rw [eqb_iff.1 h, show hasR Re.none x y = false from has_none (by decide) (by decide)] at hmt; cases hmt
          have := hno _ hmem
          rw [hmt] at this; cases this
        have hb := may_bd hm
        have hsum := may_sum hm
        rcases hE with ((h | h) | h) | h
        · exact key ⟨s.rect.x, s.rect.y, 1, s.rect.ht⟩ (by simp [sidesR]) (may_of (by simp only; omega)) (has_iff.2 (by simp only; omega))
        · exact key ⟨s.rect.x, s.rect.y, s.rect.wd, 1⟩ (by simp [sidesR]) (may_of (by simp only; omega)) (has_iff.2 (by simp only; omega))
        · exact key ⟨s.rect.x + (s.rect.wd - 1), s.rect.y, 1, s.rect.ht⟩ (by simp [sidesR]) (may_of (by simp only; omega)) (has_iff.2 (by simp only; omega))
        · exact key ⟨s.rect.x, s.rect.y + (s.rect.ht - 1), s.rect.wd, 1⟩ (by simp [sidesR]) (may_of (by simp only; omega)) (has_iff.2 (by simp only; omega))
end Go.Proofs.Ytkmofpnefjgnkaa
