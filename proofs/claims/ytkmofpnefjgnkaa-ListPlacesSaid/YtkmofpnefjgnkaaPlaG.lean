/-
  Place by place, plainly: Norm.
-/
import Derived.Test.YtkmofpnefjgnkaaPlaF
import Derived.Test.YtkmofpnefjgnkaaGp
namespace Go.Proofs.Ytkmofpnefjgnkaa
open Go.RowKit
set_option linter.unusedVariables false
attribute [local go_sem] vwp vUpon_value vUpon_skip vUpon_enter vUpon_row
set_option linter.unusedSimpArgs false
set_option linter.unusedVariables false
theorem shN_rev {N : List Re} {s : St} (hN : ∀ q ∈ N, mayR q = true) (hs : mayR s.rect = true) : ∃ N' : List Re, shN N.reverse s = N'.reverse ∧ ∀ q ∈ N', mayR q = true := by
  have hmr : mayR (shR N.reverse s) = true := by
    unfold shR
    split
    · decide
    · exact shQ_may (fun q hq => hN q (List.mem_reverse.1 hq)) hs
  unfold shN
  split
  · exact ⟨shR N.reverse s :: N, by simp, by intro q hq; rcases List.mem_cons.1 hq with rfl | hq; exact hmr; exact hN q hq⟩
  · split
    · exact ⟨N.tail, by simp, fun q hq => hN q (List.mem_of_mem_tail hq)⟩
    · exact ⟨N, rfl, hN⟩
theorem shows_in (x y : Int) : ∀ (xs : List St) (N : List Re), (∀ q ∈ N, mayR q = true) → (∀ s ∈ xs, mayR s.rect = true) → ShowsIn xs (shGo N.reverse xs) x y
  | [], N, _, _ => fun k s q h => by simp at h
  | t :: xs, N, hN, hx => by
    obtain ⟨N', e, hN'⟩ := shN_rev hN (hx t (by simp))
    have ih := shows_in x y xs N' hN' (fun s hs => hx s (List.mem_cons_of_mem _ hs))
    rw [shGo, e]
    intro k s q h1 h2 hh
    cases k with
    | zero =>
      simp at h1 h2
      subst h1
      subst h2
      rw [has_shR hN (hx t (by simp)), Bool.and_eq_true] at hh
      exact hh.2
    | succ k => exact ih k s q (by simpa using h1) (by simpa using h2) hh
theorem at_sh {xs : List St} (h : chkL xs = 0) (hk : ∀ s ∈ xs, s.kind = 4 ∨ s.kind = 5 ∨ s.kind ≤ 3) (x y : Int) : atL xs x y = atSh x y xs (shL xs) [] :=
  at_shGo x y xs [] [] (by simp) (fun s hs => err_may (chk_mem h s hs)) hk (chk_go0 h)
theorem at_norm {xs : List St} (h : chkL xs = 0) (hw : ∀ s ∈ xs, s.Wf) (hk : ∀ s ∈ xs, s.kind = 4 ∨ s.kind = 5 ∨ s.kind ≤ 3) (x y : Int) : atL (normS xs) x y = atL xs x y := by
  have e : normS xs = busyL (nrmGo xs (shL xs)) := if_pos h
  have hmem := nrm_mem xs (shL xs)
  have hc := chk_nrm xs (shL xs) 0 (shL_len xs) (chk_go0 h)
  have hm := fun s hs => err_may (chk_mem h s hs)
  rw [e, at_busy, at_sh h hk]
  have h1 : atL (nrmGo xs (shL xs)) x y = atSh x y (nrmGo xs (shL xs)) (shGo ([] : List Re).reverse (nrmGo xs (shL xs))) [] :=
    at_shGo x y (nrmGo xs (shL xs)) [] [] (by simp) (fun s hs => hm s (hmem s hs)) (fun s hs => hk s (hmem s hs)) hc
  have hk1 : ∀ s ∈ xs, 1 ≤ s.kind := fun s hs => err_kind (chk_mem h s hs) (hw s hs)
  rw [h1]
  have h2 : shGo ([] : List Re).reverse (nrmGo xs (shL xs)) = nrmR xs (shL xs) := nrm_shGo xs [] hk1
  rw [h2]
  exact nrm_sh x y xs (shL xs) (fun s hs => ⟨hw s hs, hk1 s hs, hm s hs⟩) (shGo_may xs [] (by simp) hm) (shows_in x y xs [] (by simp) hm) []
end Go.Proofs.Ytkmofpnefjgnkaa
