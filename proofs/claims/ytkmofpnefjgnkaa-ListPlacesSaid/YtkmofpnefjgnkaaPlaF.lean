/-
  Place by place, plainly: Norm's list shows the same, and may be.
-/
import Derived.Test.YtkmofpnefjgnkaaPlaE
namespace Go.Proofs.Ytkmofpnefjgnkaa
open Go.RowKit
set_option linter.unusedVariables false
attribute [local go_sem] vwp vUpon_value vUpon_skip vUpon_enter vUpon_row
set_option linter.unusedSimpArgs false
set_option linter.unusedVariables false
theorem chk_iff {o : Int} {s : St} {xs : List St} : chkGo o (s :: xs) = 0 ↔ errS s = 0 ∧ ¬ opn o s < 0 ∧ chkGo (opn o s) xs = 0 := by
  rw [chkGo]
  by_cases h : errS s = 0
  · rw [if_neg (by simpa using h)]
    by_cases ho : opn o s < 0
    · rw [if_pos ho]; simp [ho]
    · rw [if_neg ho]; simp [h, ho]
  · rw [if_pos (by simpa using h)]; simp [h]
theorem chk_nrm : ∀ (xs : List St) (rs : List Re) (o : Int), rs.length = xs.length → chkGo o xs = 0 → chkGo o (nrmGo xs rs) = 0
  | [], _, o, _, h => by simpa [nrmGo] using h
  | s :: xs, [], o, hl, h => by simp at hl
  | s :: xs, q :: rs, o, hl, h => by
    obtain ⟨h1, h2, h3⟩ := chk_iff.1 h
    have ih := chk_nrm xs rs (opn o s) (by simpa using hl) h3
    rw [nrmGo]
    cases hb : hidB s q xs rs
    · simp only [Bool.false_eq_true, if_false, List.cons_append, List.nil_append]
      exact chk_iff.2 ⟨h1, h2, ih⟩
    · simp only [if_true, List.nil_append]
      unfold hidB at hb
      rw [Bool.and_eq_true] at hb
      have hd : decide (s.kind ≤ 3) = true := hb.1
      simp at hd
      have e : opn o s = o := by unfold opn; rw [if_neg (by omega), if_neg (by omega)]
      rw [e] at ih
      exact ih
theorem chk_pair {c d : St} (h : pairB c d = true) : ∀ (a b : List St) (o : Int), chkGo o (a ++ c :: d :: b) = 0 → chkGo o (a ++ b) = 0
  | [], b, o, hc => by
    have h4 : c.kind = 4 := by unfold pairB at h; simp at h; exact h.1
    have h5 : d.kind = 5 := by unfold pairB at h; simp at h; exact h.2
    obtain ⟨_, _, hc⟩ := chk_iff.1 hc
    obtain ⟨_, _, hc⟩ := chk_iff.1 hc
    have e : opn (opn o c) d = o := by
      have e1 : opn o c = o + 1 := by unfold opn; rw [if_pos h4]
      unfold opn at e1 ⊢
      rw [e1, if_neg (by omega), if_pos h5]; omega
    rw [e] at hc
    exact hc
  | s :: a, b, o, hc => by
    obtain ⟨h1, h2, h3⟩ := chk_iff.1 hc
    exact chk_iff.2 ⟨h1, h2, chk_pair h a b _ h3⟩
theorem chk_bGo : ∀ (xs st : List St) (o : Int), chkGo o (st.reverse ++ xs) = 0 → chkGo o (bGo st xs) = 0
  | [], st, o, h => by cases st <;> simpa [bGo] using h
  | s :: r, [], o, h => by
    rw [bGo]
    exact chk_bGo r [s] o (by simpa using h)
  | s :: r, c :: st, o, h => by
    rw [bGo]
    cases hp : pairB c s
    · rw [if_neg (by decide)]
      exact chk_bGo r (s :: c :: st) o (by simpa using h)
    · rw [if_pos rfl]
      refine chk_bGo r st o (chk_pair hp st.reverse r o ?_)
      simpa using h
theorem chk_go0 {xs : List St} (h : chkL xs = 0) : chkGo 0 xs = 0 := by
  unfold chkL at h
  split at h
  · omega
  · exact h
theorem chk_norm {xs : List St} (h : chkL xs = 0) : chkL (normS xs) = 0 := by
  have hl := chk_len h
  have e : normS xs = busyL (nrmGo xs (shL xs)) := if_pos h
  have h1 := chk_bGo (nrmGo xs (shL xs)) [] 0 (by simpa using chk_nrm xs (shL xs) 0 (shL_len xs) (chk_go0 h))
  have hn : (normS xs).length ≤ xs.length := by rw [e]; exact Nat.le_trans (busy_le _) (nrm_le _ _)
  unfold chkL
  rw [if_neg (by omega), e]
  exact h1
end Go.Proofs.Ytkmofpnefjgnkaa
