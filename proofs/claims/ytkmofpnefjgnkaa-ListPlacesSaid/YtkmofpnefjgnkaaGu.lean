/-
  XGu: XLisSb.
-/
import Derived.Test.YtkmofpnefjgnkaaGt
namespace Go.Proofs.Ytkmofpnefjgnkaa
open Go.RowKit
set_option linter.unusedVariables false
attribute [local go_sem] vwp vUpon_value vUpon_skip vUpon_enter vUpon_row
set_option linter.unusedSimpArgs false
set_option linter.unusedVariables false
section
set_option linter.unusedSimpArgs false
set_option linter.unusedVariables false
theorem own_popS {base : Nat} {w : World} {g m cap : Nat} {xs : List St} {c : St} (h : Owns base w (.slice (some ⟨g, 0, none⟩) m cap) (xs ++ [c])) (hm : (xs ++ [c]).length = m) : Owns base w (.slice (some ⟨g, 0, none⟩) (m - 1) cap) xs := by
  have hx : xs.length = m - 1 := by rw [← hm]; simp
  unfold Owns at *
  rw [hm] at h
  rw [hx]
  have hxl : (xs.flatMap St.enc).length = (m - 1) * 15 := by rw [flat_len St.enc_len, hx]
  have hm1 : 1 ≤ m := by rw [← hm]; simp
  rcases h.2 with ⟨h0, _⟩ | ⟨g', cap', cur, hv, hg, hh, hnc, hcm, hcur, htake⟩
  · cases h0
  · injection hv with hv _ hc
    injection hv with hv
    injection hv with hv
    subst hc
    subst hv
    refine ⟨hxl, .inr ⟨g, cap, cur, rfl, hg, hh, by omega, hcm, hcur, ?_⟩⟩
    have e : (m - 1) * 15 ≤ m * 15 := by omega
    have e2 : List.take ((m - 1) * 15) (cur.toList.take (m * 15)) = cur.toList.take ((m - 1) * 15) := by rw [List.take_take, Nat.min_eq_left e]
    rw [htake, List.flatMap_append, List.take_left' hxl] at e2
    exact e2.symm
theorem bGo_push {O r : List St} {s : St} (h : ∀ c, O.getLast? = some c → pairB c s = false) : bGo O.reverse (s :: r) = bGo (O ++ [s]).reverse r := by
  rcases List.eq_nil_or_concat O with rfl | ⟨O', c, rfl⟩
  · rfl
  · have := h c (by simp)
    simp only [List.concat_eq_append, List.reverse_append, List.reverse_cons, List.reverse_nil, List.nil_append, List.cons_append]
    rw [bGo, if_neg (by rw [this]; decide)]
theorem bGo_pop {O r : List St} {c s : St} (h : pairB c s = true) : bGo (O ++ [c]).reverse (s :: r) = bGo O.reverse r := by
  simp only [List.reverse_append, List.reverse_cons, List.reverse_nil, List.nil_append, List.cons_append]
  rw [bGo, if_pos h]
end
end Go.Proofs.Ytkmofpnefjgnkaa
