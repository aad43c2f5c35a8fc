/-
  Place by place, plainly: the places of all strokes are where something shows.
-/
import Derived.Test.YtkmofpnefjgnkaaPlaH
namespace Go.Proofs.Ytkmofpnefjgnkaa
open Go.RowKit
set_option linter.unusedVariables false
attribute [local go_sem] vwp vUpon_value vUpon_skip vUpon_enter vUpon_row
set_option linter.unusedSimpArgs false
set_option linter.unusedVariables false
theorem sh_keep (x y : Int) : ∀ (xs : List St) (rs : List Re) (out : List St), atSh x y xs rs out = [] → out = []
  | [], _, out, h => by simpa [atSh] using h
  | _ :: _, [], out, h => by simpa [atSh] using h
  | s :: xs, q :: rs, out, h => by
    rw [atSh] at h
    have := sh_keep x y xs rs _ h
    split at this
    · exact paint_nil this
    · exact this
theorem allP_cons (s : St) (xs : List St) (q : Re) (rs : List Re) : allP (s :: xs) (q :: rs) = plcL s q ++ allP xs rs := by simp [allP]
theorem sh_all_has (x y : Int) : ∀ (xs : List St) (rs : List Re), (∀ s ∈ xs, s.Wf ∧ 1 ≤ s.kind ∧ mayR s.rect = true) → (∀ q ∈ rs, mayR q = true) → ShowsIn xs rs x y → ((∃ m ∈ allP xs rs, hasR m x y = true) ↔ atSh x y xs rs [] ≠ [])
  | [], rs, _, _, _ => by simp [allP, atSh]
  | s :: xs, [], _, _, _ => by simp [allP, atSh]
  | s :: xs, q :: rs, hx, hr, hi => by
    have ih := sh_all_has x y xs rs (fun t ht => hx t (List.mem_cons_of_mem _ ht)) (fun t ht => hr t (List.mem_cons_of_mem _ ht)) hi.tail
    obtain ⟨hs, hk, hm⟩ := hx s (by simp)
    have hq := hr q (by simp)
    rw [allP_cons, atSh]
    by_cases hex : ∃ m ∈ plcL s q, hasR m x y = true
    · obtain ⟨m, hmm, hmh⟩ := hex
      have hqh : hasR q x y = true := by
        cases h : hasR q x y
        · exfalso
          unfold plcL at hmm
          split at hmm
          · simp at hmm
          · split at hmm
            · split at hmm
              · simp at hmm
              · simp at hmm; subst hmm; rw [h] at hmh; cases hmh
            · split at hmm
              · simp at hmm
              · split at hmm
                · simp at hmm; subst hmm; rw [h] at hmh; cases hmh
                · unfold meets at hmm
                  obtain ⟨hmm, hnn⟩ := List.mem_filter.1 hmm
                  obtain ⟨p, hp, rfl⟩ := List.mem_map.1 hmm
                  by_cases hpm : mayR p = true
                  · rw [has_meet hpm hq, h, Bool.and_false] at hmh; cases hmh
                  · have : emptyR p = true := by unfold emptyR areaR; simp [hpm]
                    unfold meetR at hmh
                    rw [this, Bool.true_or, if_pos rfl, show hasR Re.none x y = false from has_none (by decide) (by decide)] at hmh
                    cases hmh
        · rfl
      have hin := has_iff.1 (hi 0 s q rfl rfl hqh)
      obtain ⟨hd, _, hp⟩ := paint_some hs hk hm ⟨by omega, by omega⟩ hq hmm hmh []
      rw [hd, hqh]
      constructor
      · intro _ h0
        exact hp (sh_keep x y xs rs _ h0)
      · intro _
        exact ⟨m, List.mem_append_left _ hmm, hmh⟩
    · have e : (if drB s && hasR q x y then paintP s x y [] else []) = [] := by
        cases hd : drB s
        · rfl
        · cases hh : hasR q x y
          · rfl
          · simp only [Bool.and_self, if_true]
            exact paint_plc hs hk hm hq hd (hi 0 s q rfl rfl hh) hh (fun m hm' => by
              cases h : hasR m x y
              · rfl
              · exact absurd ⟨m, hm', h⟩ hex) []
      rw [e, ← ih]
      constructor
      · rintro ⟨m, hm', hmh⟩
        rcases List.mem_append.1 hm' with h | h
        · exact absurd ⟨m, h, hmh⟩ hex
        · exact ⟨m, h, hmh⟩
      · rintro ⟨m, hm', hmh⟩
        exact ⟨m, List.mem_append_right _ hm', hmh⟩
end Go.Proofs.Ytkmofpnefjgnkaa
