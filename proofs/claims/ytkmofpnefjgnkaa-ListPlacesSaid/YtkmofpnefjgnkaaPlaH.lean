/-
  Place by place, plainly: a stroke's places are where it paints.
-/
import Derived.Test.YtkmofpnefjgnkaaPlaG
namespace Go.Proofs.Ytkmofpnefjgnkaa
open Go.RowKit
set_option linter.unusedVariables false
attribute [local go_sem] vwp vUpon_value vUpon_skip vUpon_enter vUpon_row
set_option linter.unusedSimpArgs false
set_option linter.unusedVariables false
theorem paint_nil {s : St} {x y : Int} {out : List St} (h : paintP s x y out = []) : out = [] := by
  unfold paintP at h
  split at h
  · split at h
    · simp at h
    · split at h
      · simp at h
      · exact h
  · split at h
    · split at h
      · simp at h
      · exact h
    · split at h
      · exact h
      · simp at h
theorem paint_some {s : St} {q : Re} {x y : Int} (hs : s.Wf) (hk : 1 ≤ s.kind) (hm : mayR s.rect = true) (hne : 0 < s.rect.wd ∧ 0 < s.rect.ht) (hqm : mayR q = true) {m : Re} (hmem : m ∈ plcL s q) (hh : hasR m x y = true) (out : List St) : drB s = true ∧ hasR q x y = true ∧ paintP s x y out ≠ [] := by
  have ha : 0 ≤ s.col.a := hs.2.2.1.2.2.2.1
  unfold plcL at hmem
  split at hmem
  · simp at hmem
  · rename_i hc
    simp only [Bool.or_eq_true, not_or, Bool.not_eq_true, Bool.not_eq_false'] at hc
    have hd : drB s = true := by simpa using hc.2
    refine ⟨hd, ?_⟩
    split at hmem
    · rename_i h3
      split at hmem
      · simp at hmem
      · rename_i ht
        simp at hmem
        subst hmem
        refine ⟨hh, ?_⟩
        unfold paintP
        rw [if_neg (by omega), if_neg (by omega), if_neg ht]
        simp
    · split at hmem
      · simp at hmem
      · rename_i h0
        split at hmem
        · rename_i h1
          simp at hmem
          subst hmem
          refine ⟨hh, ?_⟩
          unfold paintP
          rw [if_pos h1]
          split
          · simp
          · rw [if_pos (by omega)]; simp
        · rename_i h3 h1
          have h2 : s.kind = 2 := by
            have : decide (s.kind ≤ 3) = true := hd
            simp at this
            omega
          unfold meets at hmem
          obtain ⟨hmem, _⟩ := List.mem_filter.1 hmem
          obtain ⟨p, hp, rfl⟩ := List.mem_map.1 hmem
          have hb := may_bd hm
          have hsum := may_sum hm
          have hpm : mayR p = true := by
            simp only [sidesR, List.mem_cons, List.not_mem_nil, or_false] at hp
            rcases hp with rfl | rfl | rfl | rfl <;> exact may_of (by simp only; omega)
          rw [has_meet hpm hqm, Bool.and_eq_true] at hh
          refine ⟨hh.2, ?_⟩
          have hE : edgeP s.rect x y = true := by
            have h1 := has_iff.1 hh.1
            unfold edgeP
            simp only [Bool.or_eq_true, beq_iff_eq]
            simp only [sidesR, List.mem_cons, List.not_mem_nil, or_false] at hp
            rcases hp with rfl | rfl | rfl | rfl <;> (simp only at h1; omega)
          unfold paintP
          rw [if_neg (by omega), if_pos h2, hE]
          rw [if_pos (by simp; omega)]
          simp
end Go.Proofs.Ytkmofpnefjgnkaa
