/-
  Place by place, plainly: without what nobody sees once more is the same.
-/
import Derived.Test.YtkmofpnefjgnkaaPlaJ
namespace Go.Proofs.Ytkmofpnefjgnkaa
open Go.RowKit
set_option linter.unusedVariables false
attribute [local go_sem] vwp vUpon_value vUpon_skip vUpon_enter vUpon_row
set_option linter.unusedSimpArgs false
set_option linter.unusedVariables false
/-- The strokes that draw, each with where it shows. -/
def drs : List St → List Re → List (St × Re)
  | s :: xs, q :: rs => (if drB s then [(s, q)] else []) ++ drs xs rs
  | _, _ => []
def covD (P : List Re) (D : List (St × Re)) : Bool := D.any fun t => covB P t.1 t.2
theorem cov_drs (P : List Re) : ∀ (xs : List St) (rs : List Re), anyCov P xs rs = covD P (drs xs rs)
  | [], _ => by simp [anyCov, drs, covD]
  | _ :: _, [] => by simp [anyCov, drs, covD]
  | s :: xs, q :: rs => by
    have ih := cov_drs P xs rs
    rw [anyCov, drs, ih]
    unfold covD
    rw [List.any_append]
    cases hd : drB s
    · have : covB P s q = false := by
        have h : decide (s.kind ≤ 3) = false := hd
        simp at h
        unfold covB
        have : decide (s.kind = 1) = false := by simp; omega
        rw [this, Bool.false_and]
      simp [this]
    · simp
def noHid : List (St × Re) → Prop
  | [] => True
  | p :: D => (¬ (plcL p.1 p.2).length = 0 ∧ covD (plcL p.1 p.2) D = false) ∧ noHid D
theorem drs_sub : ∀ (xs : List St) (rs : List Re), ∀ t ∈ drs (nrmGo xs rs) (nrmR xs rs), t ∈ drs xs rs
  | [], _, t, h => by simp [nrmGo, nrmR, drs] at h
  | _ :: _, [], t, h => by simp [nrmGo, nrmR, drs] at h
  | s :: xs, q :: rs, t, h => by
    rw [drs]
    rw [nrmGo, nrmR] at h
    cases hb : hidB s q xs rs
    · rw [hb] at h
      simp only [Bool.false_eq_true, if_false, List.cons_append, List.nil_append] at h
      rw [drs] at h
      rcases List.mem_append.1 h with h | h
      · exact List.mem_append_left _ h
      · exact List.mem_append_right _ (drs_sub xs rs t h)
    · rw [hb] at h
      simp only [if_true, List.nil_append] at h
      exact List.mem_append_right _ (drs_sub xs rs t h)
theorem nrm_noHid : ∀ (xs : List St) (rs : List Re), noHid (drs (nrmGo xs rs) (nrmR xs rs))
  | [], _ => by simp [nrmGo, nrmR, drs, noHid]
  | _ :: _, [] => by simp [nrmGo, nrmR, drs, noHid]
  | s :: xs, q :: rs => by
    have ih := nrm_noHid xs rs
    rw [nrmGo, nrmR]
    cases hb : hidB s q xs rs
    · simp only [Bool.false_eq_true, if_false, List.cons_append, List.nil_append]
      rw [drs]
      cases hd : drB s
      · simpa using ih
      · simp only [if_true, List.cons_append, List.nil_append]
        unfold hidB at hb
        rw [hd, Bool.true_and, Bool.or_eq_false_iff] at hb
        refine ⟨⟨by simpa using hb.1, ?_⟩, ih⟩
        have hc := hb.2
        rw [cov_drs] at hc
        unfold covD at hc ⊢
        rw [List.any_eq_false] at hc ⊢
        exact fun t ht => hc t (drs_sub xs rs t ht)
    · simp only [if_true, List.nil_append]
      exact ih
theorem nrm_keep : ∀ (xs : List St) (rs : List Re), rs.length = xs.length → noHid (drs xs rs) → nrmGo xs rs = xs
  | [], _, _, _ => by simp [nrmGo]
  | _ :: _, [], hl, _ => by simp at hl
  | s :: xs, q :: rs, hl, h => by
    rw [drs] at h
    rw [nrmGo]
    have hb : hidB s q xs rs = false ∧ noHid (drs xs rs) := by
      unfold hidB
      cases hd : drB s
      · rw [hd] at h
        exact ⟨by rw [Bool.false_and], by simpa using h⟩
      · rw [hd] at h
        simp only [if_true, List.cons_append, List.nil_append] at h
        obtain ⟨⟨h1, h2⟩, h3⟩ := h
        refine ⟨?_, h3⟩
        rw [Bool.true_and, Bool.or_eq_false_iff, cov_drs]
        exact ⟨by simpa using h1, h2⟩
    rw [hb.1, nrm_keep xs rs (by simpa using hl) hb.2]
    simp
theorem drs_pair {c o : St} (h : pairB c o = true) : ∀ (a b : List St) (M : List Re), drs (a ++ c :: o :: b) (shGo M (a ++ c :: o :: b)) = drs (a ++ b) (shGo M (a ++ b))
  | [], b, M => by
    have h4 : c.kind = 4 := by unfold pairB at h; simp at h; exact h.1
    have h5 : o.kind = 5 := by unfold pairB at h; simp at h; exact h.2
    have e : shN (shN M c) o = M := by
      have e1 : shN M c = M ++ [shR M c] := by unfold shN; rw [if_pos h4]
      rw [e1]
      unfold shN
      rw [if_neg (by omega), if_pos h5, List.dropLast_concat]
    have d1 : drB c = false := by unfold drB; simp; omega
    have d2 : drB o = false := by unfold drB; simp; omega
    simp only [List.nil_append]
    rw [shGo, shGo, drs, drs, d1, d2, e]
    simp
  | s :: a, b, M => by
    simp only [List.cons_append]
    rw [shGo, shGo, drs, drs, drs_pair h a b]
theorem drs_bGo : ∀ (xs st : List St) (M : List Re), drs (bGo st xs) (shGo M (bGo st xs)) = drs (st.reverse ++ xs) (shGo M (st.reverse ++ xs))
  | [], st, M => by cases st <;> simp [bGo]
  | s :: r, [], M => by
    rw [bGo, drs_bGo r [s]]
    simp
  | s :: r, c :: st, M => by
    rw [bGo]
    cases hp : pairB c s
    · rw [if_neg (by decide), drs_bGo r (s :: c :: st)]
      simp
    · rw [if_pos rfl, drs_bGo r st, List.reverse_cons, List.append_assoc]
      exact (drs_pair hp st.reverse r M).symm
/-- No clip with its open right behind it. -/
def noPair : List St → Prop
  | c :: o :: r => pairB c o = false ∧ noPair (o :: r)
  | _ => True
theorem noPair_tail {s : St} {r : List St} (h : noPair (s :: r)) : noPair r := by
  cases r with
  | nil => trivial
  | cons t r => exact h.2
theorem noPair_snoc : ∀ (a : List St) {c s : St}, noPair (a ++ [c]) → pairB c s = false → noPair (a ++ [c, s])
  | [], c, s, _, hp => ⟨hp, trivial⟩
  | [x], c, s, h, hp => ⟨h.1, hp, trivial⟩
  | x :: y :: a, c, s, h, hp => ⟨h.1, noPair_snoc (y :: a) h.2 hp⟩
theorem noPair_init : ∀ (a : List St) {c : St}, noPair (a ++ [c]) → noPair a
  | [], _, _ => trivial
  | [x], _, _ => trivial
  | x :: y :: a, c, h => ⟨h.1, noPair_init (y :: a) h.2⟩
theorem bGo_noPair : ∀ (xs st : List St), noPair st.reverse → noPair (bGo st xs)
  | [], st, h => by cases st <;> simpa [bGo] using h
  | s :: r, [], h => by
    rw [bGo]
    exact bGo_noPair r [s] trivial
  | s :: r, c :: st, h => by
    rw [bGo]
    rw [List.reverse_cons] at h
    cases hp : pairB c s
    · rw [if_neg (by decide)]
      refine bGo_noPair r (s :: c :: st) ?_
      simp only [List.reverse_cons, List.append_assoc, List.cons_append, List.nil_append]
      exact noPair_snoc _ h hp
    · rw [if_pos rfl]
      exact bGo_noPair r st (noPair_init _ h)
theorem bGo_same : ∀ (xs st : List St), noPair (st.reverse ++ xs) → bGo st xs = st.reverse ++ xs
  | [], st, h => by cases st <;> simp [bGo]
  | s :: r, [], h => by
    rw [bGo, bGo_same r [s] (by simpa using h)]
    simp
  | s :: r, c :: st, h => by
    rw [bGo]
    have hp : pairB c s = false := by
      have key : ∀ (a : List St), noPair (a ++ c :: s :: r) → pairB c s = false := by
        intro a
        induction a with
        | nil => intro h; exact h.1
        | cons x a ih => intro h; exact ih (noPair_tail h)
      exact key st.reverse (by simpa using h)
    rw [hp, if_neg (by decide), bGo_same r (s :: c :: st) (by simpa using h)]
    simp
theorem busy_busy (xs : List St) : busyL (busyL xs) = busyL xs := by
  have h := bGo_noPair xs [] trivial
  exact bGo_same (busyL xs) [] (show noPair (([] : List St).reverse ++ busyL xs) from h)
theorem norm_norm {xs : List St} (h : chkL xs = 0) (hw : ∀ s ∈ xs, s.Wf) : normS (normS xs) = normS xs := by
  have e : normS xs = busyL (nrmGo xs (shL xs)) := if_pos h
  have hk1 : ∀ s ∈ xs, 1 ≤ s.kind := fun s hs => err_kind (chk_mem h s hs) (hw s hs)
  have e2 : normS (normS xs) = busyL (nrmGo (normS xs) (shL (normS xs))) := if_pos (chk_norm h)
  have hn : noHid (drs (normS xs) (shL (normS xs))) := by
    rw [e]
    have h1 := drs_bGo (nrmGo xs (shL xs)) [] []
    have h1 : drs (busyL (nrmGo xs (shL xs))) (shL (busyL (nrmGo xs (shL xs)))) = drs (nrmGo xs (shL xs)) (shGo [] (nrmGo xs (shL xs))) := h1
    rw [h1]
    have h2 : shGo ([] : List Re) (nrmGo xs (shL xs)) = nrmR xs (shL xs) := nrm_shGo xs [] hk1
    rw [h2]
    exact nrm_noHid xs (shL xs)
  rw [e2, nrm_keep _ _ (shL_len _) hn, e, busy_busy]
end Go.Proofs.Ytkmofpnefjgnkaa
