/-
  Place by place, plainly: without the strokes that nobody sees the list shows the same.
-/
import Derived.Test.YtkmofpnefjgnkaaPlaC
namespace Go.Proofs.Ytkmofpnefjgnkaa
open Go.RowKit
set_option linter.unusedVariables false
attribute [local go_sem] vwp vUpon_value vUpon_skip vUpon_enter vUpon_row
set_option linter.unusedSimpArgs false
set_option linter.unusedVariables false
/-- Where the strokes that stay show. -/
def nrmR : List St → List Re → List Re
  | s :: xs, r :: rs => (if hidB s r xs rs then [] else [r]) ++ nrmR xs rs
  | _, _ => []
/-- Each stroke of a list with where it shows. -/
def ShowsIn (xs : List St) (rs : List Re) (x y : Int) : Prop := ∀ (k : Nat) s q, xs[k]? = some s → rs[k]? = some q → hasR q x y = true → hasR s.rect x y = true
theorem ShowsIn.tail {s : St} {xs : List St} {q : Re} {rs : List Re} {x y : Int} (h : ShowsIn (s :: xs) (q :: rs) x y) : ShowsIn xs rs x y := fun k s' q' h1 h2 => h (k + 1) s' q' (by simpa using h1) (by simpa using h2)
theorem nrm_sh (x y : Int) : ∀ (xs : List St) (rs : List Re), (∀ s ∈ xs, s.Wf ∧ 1 ≤ s.kind ∧ mayR s.rect = true) → (∀ q ∈ rs, mayR q = true) → ShowsIn xs rs x y → ∀ out, atSh x y (nrmGo xs rs) (nrmR xs rs) out = atSh x y xs rs out
  | [], _, _, _, _, out => by simp [nrmGo, nrmR, atSh]
  | s :: xs, [], _, _, _, out => by simp [nrmGo, nrmR, atSh]
  | s :: xs, q :: rs, hx, hr, hi, out => by
    have ih := nrm_sh x y xs rs (fun t ht => hx t (List.mem_cons_of_mem _ ht)) (fun t ht => hr t (List.mem_cons_of_mem _ ht)) hi.tail
    rw [nrmGo, nrmR]
    cases hb : hidB s q xs rs
    · simp only [Bool.false_eq_true, if_false, List.cons_append, List.nil_append]
      rw [atSh, atSh]
      exact ih _
    · simp only [if_true, List.nil_append]
      rw [ih, atSh]
      unfold hidB at hb
      rw [Bool.and_eq_true, Bool.or_eq_true, decide_eq_true_eq] at hb
      obtain ⟨hd, hb⟩ := hb
      cases hh : hasR q x y
      · rw [Bool.and_false]
        rfl
      · rw [hd]
        simp only [Bool.and_self, if_true]
        obtain ⟨hs, hk, hm⟩ := hx s (by simp)
        have hq := hr q (by simp)
        have hin := hi 0 s q rfl rfl hh
        by_cases hex : ∃ m ∈ plcL s q, hasR m x y = true
        · obtain ⟨m, hmm, hmh⟩ := hex
          rcases hb with hb | hb
          · rw [List.length_eq_zero_iff.1 hb] at hmm
            simp at hmm
          · exact cov_forget x y (plc_may hq) hmm hmh xs rs (fun t ht => hr t (List.mem_cons_of_mem _ ht)) hb _ _
        · rw [paint_plc hs hk hm hq hd hin hh (fun m hm' => by
            cases h : hasR m x y
            · rfl
            · exact absurd ⟨m, hm', h⟩ hex)]
theorem nrm_shGo : ∀ (xs : List St) (M : List Re), (∀ s ∈ xs, 1 ≤ s.kind) → shGo M (nrmGo xs (shGo M xs)) = nrmR xs (shGo M xs)
  | [], M, _ => rfl
  | s :: xs, M, h => by
    have ih := nrm_shGo xs (shN M s) (fun t ht => h t (List.mem_cons_of_mem _ ht))
    rw [shGo, nrmGo, nrmR]
    cases hb : hidB s (shR M s) xs (shGo (shN M s) xs)
    · simp only [Bool.false_eq_true, if_false, List.cons_append, List.nil_append]
      rw [shGo, ih]
    · simp only [if_true, List.nil_append]
      unfold hidB at hb
      rw [Bool.and_eq_true] at hb
      have hd : decide (s.kind ≤ 3) = true := hb.1
      simp at hd
      have e : shN M s = M := by unfold shN; rw [if_neg (by omega), if_neg (by omega)]
      rw [e] at ih ⊢
      exact ih
end Go.Proofs.Ytkmofpnefjgnkaa
