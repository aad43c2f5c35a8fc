/-
  Place by place, plainly: what the law asks beside.
-/
import Derived.Test.YtkmofpnefjgnkaaPlaL
namespace Go.Proofs.Ytkmofpnefjgnkaa
open Go.RowKit
set_option linter.unusedVariables false
attribute [local go_sem] vwp vUpon_value vUpon_skip vUpon_enter vUpon_row
set_option linter.unusedSimpArgs false
set_option linter.unusedVariables false
theorem kinds_of {xs : List St} (h : chkL xs = 0) : ∀ s ∈ xs, s.kind = 4 ∨ s.kind = 5 ∨ s.kind ≤ 3 := by
  intro s hs
  have he := chk_mem h s hs
  unfold errS at he
  split at he
  · cases he
  · rename_i hh
    have h1 : mis1 s = false := by
      cases hm : mis1 s
      · rfl
      · exact absurd (by rw [hm, Bool.true_or]) hh
    unfold mis1 at h1
    simp only [Bool.or_eq_false_iff, decide_eq_false_iff_not] at h1
    omega
theorem norm_wf {xs : List St} (h : chkL xs = 0) (hw : ∀ s ∈ xs, s.Wf) : ∀ s ∈ normS xs, s.Wf := by
  intro s hs
  rw [show normS xs = busyL (nrmGo xs (shL xs)) from if_pos h] at hs
  exact hw s (nrm_mem _ _ s (busy_mem hs))
theorem clip_wf {r : Re} (h : mayR r = true) : (clipS r).Wf :=
  ⟨(by unfold U8; decide : U8 4), may_wf h, ⟨(by unfold U8; decide : U8 0), (by unfold U8; decide : U8 0), (by unfold U8; decide : U8 0), (by unfold U8; decide : U8 0)⟩, ⟨(by unfold U8; decide : U8 0), (by unfold U8; decide : U8 0), (by unfold U8; decide : U8 0), (by unfold U8; decide : U8 0)⟩, (by unfold maxLen; exact Nat.zero_le _ : (⟨#[]⟩ : ByteArray).size ≤ maxLen), (by unfold I64; decide : I64 0)⟩
theorem open_wf : openS.Wf :=
  ⟨(by unfold U8; decide : U8 5), ⟨(by unfold I64; decide : I64 0), (by unfold I64; decide : I64 0), (by unfold I64; decide : I64 0), (by unfold I64; decide : I64 0)⟩, ⟨(by unfold U8; decide : U8 0), (by unfold U8; decide : U8 0), (by unfold U8; decide : U8 0), (by unfold U8; decide : U8 0)⟩, ⟨(by unfold U8; decide : U8 0), (by unfold U8; decide : U8 0), (by unfold U8; decide : U8 0), (by unfold U8; decide : U8 0)⟩, (by unfold maxLen; exact Nat.zero_le _ : (⟨#[]⟩ : ByteArray).size ≤ maxLen), (by unfold I64; decide : I64 0)⟩
theorem sel_mem (r : Re) : ∀ (xs : List St) (rs : List Re), ∀ s ∈ selGo r xs rs, s ∈ xs
  | [], rs, s, hs => by simp [selGo] at hs
  | t :: xs, [], s, hs => by simp [selGo] at hs
  | t :: xs, q :: rs, s, hs => by
    rw [selGo] at hs
    rcases List.mem_append.1 hs with hs | hs
    · split at hs
      · simp at hs; subst hs; simp
      · simp at hs
    · exact List.mem_cons_of_mem _ (sel_mem r xs rs s hs)
theorem cut_wf {xs : List St} {R : List Re} {r : Re} (hr : mayR r = true) (hw : ∀ s ∈ xs, s.Wf) : ∀ s ∈ busyL (cutL xs R r), s.Wf := by
  intro s hs
  have hs := busy_mem hs
  unfold cutL at hs
  rcases List.mem_append.1 hs with hs | hs
  · rcases List.mem_append.1 hs with hs | hs
    · simp at hs; subst hs; exact clip_wf hr
    · exact hw s (sel_mem r _ _ s hs)
  · simp at hs; subst hs; exact open_wf
theorem wi_wf {xs : List St} {R : List Re} (hw : ∀ s ∈ xs, s.Wf) : ∀ (l : List Re) (out : List St), (∀ r ∈ l, mayR r = true) → (∀ s ∈ out, s.Wf) → ∀ s ∈ optS (wiGo xs R l out), s.Wf
  | [], out, _, ho => by simpa [wiGo, optS] using ho
  | r :: l, out, hm, ho => by
    unfold wiGo
    split
    · intro s hs; simp [optS] at hs
    · refine wi_wf hw l _ (fun q hq => hm q (List.mem_cons_of_mem _ hq)) ?_
      intro s hs
      rcases List.mem_append.1 hs with hs | hs
      · exact ho s hs
      · exact cut_wf (hm r (by simp)) hw s hs
theorem both_may {a : List Re} (ha : MayL a) : MayL (bothL a [] 1) ∧ (bothL a [] 1).length ≤ 1024 := by
  unfold bothL
  split
  · unfold madeL
    split
    · exact ⟨mayL_nil, by simp⟩
    · exact ⟨form_may ha mayL_nil 1, by omega⟩
  · exact ⟨mayL_nil, by simp⟩
theorem within_wf {xs : List St} {qs : List Re} (h : chkL xs = 0) (hw : ∀ s ∈ xs, s.Wf) (hq : MayL qs) : ∀ s ∈ wiS xs qs, s.Wf := by
  unfold wiS
  rw [if_pos h]
  split
  · exact wi_wf hw _ _ (both_may hq).1 (by simp)
  · intro s hs; simp at hs
theorem bound_may {xs : List St} (h : chkL xs = 0) : MayL (bdL xs) ∧ (bdL xs).length ≤ 1024 := by
  unfold bdL
  rw [if_pos h]
  exact both_may (allP_may (shL_may h))
theorem norm_len {xs : List St} : (normS xs).length ≤ xs.length := by
  unfold normS
  split
  · exact Nat.le_trans (busy_le _) (nrm_le _ _)
  · simp
theorem has_len {A : List St} {hasB : Bool} (h : hasB = true ↔ A ≠ []) : hasB = decide (0 < A.length) := by
  rw [Bool.eq_iff_iff, h, decide_eq_true_eq, List.length_pos_iff]
end Go.Proofs.Ytkmofpnefjgnkaa
