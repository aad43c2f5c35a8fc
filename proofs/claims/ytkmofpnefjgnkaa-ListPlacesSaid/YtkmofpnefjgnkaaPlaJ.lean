/-
  Place by place, plainly: Bound tells the places where something shows.
-/
import Derived.Test.YtkmofpnefjgnkaaPlaI
namespace Go.Proofs.Ytkmofpnefjgnkaa
open Go.RowKit
set_option linter.unusedVariables false
attribute [local go_sem] vwp vUpon_value vUpon_skip vUpon_enter vUpon_row
set_option linter.unusedSimpArgs false
set_option linter.unusedVariables false
theorem bound_err {xs : List St} (h : chkL xs = 0) : bdE xs = 0 ∨ bdE xs = 4 ∨ bdE xs = askR (allP xs (shL xs)) [] := by
  unfold bdE
  rw [if_pos h]
  unfold bothE
  split
  · unfold madeE
    split
    · exact .inr (.inl rfl)
    · exact .inl rfl
  · exact .inr (.inr rfl)
theorem bound_04 {xs : List St} (h : chkL xs = 0) : bdE xs = 0 ∨ bdE xs = 4 := by
  rcases bound_err h with e | e | e
  · exact .inl e
  · exact .inr e
  · have hA : MayL (allP xs (shL xs)) := allP_may (shL_may h)
    rw [e]
    unfold askR
    split
    · exact .inl rfl
    · rename_i hc
      by_cases hl : 1024 < (allP xs (shL xs)).length
      · right; unfold chkR; rw [if_pos hl]
      · exact absurd (chk_of hA (by omega)) hc
theorem bound_has {xs : List St} (h : chkL xs = 0) (h0 : bdE xs = 0) (hw : ∀ s ∈ xs, s.Wf) (hk : ∀ s ∈ xs, s.kind = 4 ∨ s.kind = 5 ∨ s.kind ≤ 3) (x y : Int) : hasL (bdL xs) x y = true ↔ atL xs x y ≠ [] := by
  have hm := fun s hs => err_may (chk_mem h s hs)
  have hA : MayL (allP xs (shL xs)) := allP_may (shL_may h)
  have e : bdL xs = formR (allP xs (shL xs)) [] 1 := by
    unfold bdL
    rw [if_pos h]
    unfold bdE at h0
    rw [if_pos h] at h0
    unfold bothE at h0
    unfold bothL
    split at h0
    · rename_i ha
      rw [if_pos ha]
      unfold madeE at h0
      unfold madeL
      split at h0
      · cases h0
      · rename_i hl
        rw [if_neg hl]
    · rename_i ha
      exact absurd h0 ha
  rw [e, form_places hA.sane mayL_nil.sane]
  have hk1 : ∀ s ∈ xs, 1 ≤ s.kind := fun s hs => err_kind (chk_mem h s hs) (hw s hs)
  have key := sh_all_has x y xs (shL xs) (fun s hs => ⟨hw s hs, hk1 s hs, hm s hs⟩) (shL_may h) (shows_in x y xs [] (by simp) hm)
  rw [at_sh h hk, ← key]
  simp [wantB, hasL]
end Go.Proofs.Ytkmofpnefjgnkaa
