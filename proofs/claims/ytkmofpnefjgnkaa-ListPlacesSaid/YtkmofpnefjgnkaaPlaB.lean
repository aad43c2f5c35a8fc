/-
  Place by place, plainly: by what shows; what a later opaque fill covers is forgotten.
-/
import Derived.Test.YtkmofpnefjgnkaaPlaA
namespace Go.Proofs.Ytkmofpnefjgnkaa
open Go.RowKit
set_option linter.unusedVariables false
attribute [local go_sem] vwp vUpon_value vUpon_skip vUpon_enter vUpon_row
set_option linter.unusedSimpArgs false
set_option linter.unusedVariables false
/-- A rectangle with places, by its corners. -/
theorem has_iff {q : Re} {x y : Int} : hasR q x y = true ↔ q.x ≤ x ∧ x < q.x + q.wd ∧ q.y ≤ y ∧ y < q.y + q.ht := by
  unfold hasR
  simp only [Bool.and_eq_true, decide_eq_true_eq, and_assoc]
theorem has_of_empty {q : Re} {x y : Int} (hm : mayR q = true) (h : emptyR q = true) : hasR q x y = false := by
  rw [empty_none hm] at h
  exact has_none hm h
theorem has_meet {p q : Re} {x y : Int} (hp : mayR p = true) (hq : mayR q = true) : hasR (meetR p q) x y = (hasR p x y && hasR q x y) := by
  unfold meetR
  split
  · rename_i h
    rw [Bool.or_eq_true] at h
    rw [show hasR Re.none x y = false from has_none (by decide) (by decide)]
    rcases h with h | h
    · rw [has_of_empty hp h, Bool.false_and]
    · rw [has_of_empty hq h, Bool.and_false]
  · rename_i h
    simp only [Bool.or_eq_true, not_or, Bool.not_eq_true] at h
    obtain ⟨_, a1, a2⟩ := full_bd h.1
    obtain ⟨_, b1, b2⟩ := full_bd h.2
    unfold fromR
    split
    · rw [show hasR Re.none x y = false from has_none (by decide) (by decide)]
      rw [eq_comm, Bool.eq_false_iff]
      intro hh
      rw [Bool.and_eq_true, has_iff, has_iff] at hh
      omega
    · rw [Bool.eq_iff_iff, Bool.and_eq_true, has_iff, has_iff, has_iff]
      simp only
      omega
theorem has_in {p q : Re} {x y : Int} (hp : mayR p = true) (hq : mayR q = true) (h : inR p q = true) (hh : hasR p x y = true) : hasR q x y = true := by
  unfold inR at h
  rw [Bool.or_eq_true] at h
  rcases h with h | h
  · rw [has_of_empty hp h] at hh; cases hh
  · have e := eqb_iff.1 h
    have := has_meet (x := x) (y := y) hp hq
    rw [e, hh] at this
    simpa using this.symm
/-- What shows at a place, by where each stroke shows. -/
def atSh (x y : Int) : List St → List Re → List St → List St
  | s :: xs, q :: rs, out => atSh x y xs rs (if drB s && hasR q x y then paintP s x y out else out)
  | _, _, out => out
theorem paint_opaque {s : St} (h1 : s.kind = 1) (h2 : s.col.a = 255) (x y : Int) (out : List St) : paintP s x y out = [s] := by
  unfold paintP
  rw [if_pos h1, if_pos h2]
theorem cov_forget (x y : Int) {P : List Re} (hP : ∀ m ∈ P, mayR m = true) {m : Re} (hm : m ∈ P) (hh : hasR m x y = true) : ∀ (xs : List St) (rs : List Re), (∀ q ∈ rs, mayR q = true) → anyCov P xs rs = true → ∀ out out' : List St, atSh x y xs rs out = atSh x y xs rs out'
  | [], _, _, h, _, _ => by simp [anyCov] at h
  | _ :: _, [], _, h, _, _ => by simp [anyCov] at h
  | s :: xs, r :: rs, hr, h, out, out' => by
    rw [anyCov, Bool.or_eq_true] at h
    rw [atSh, atSh]
    rcases h with h | h
    · unfold covB at h
      simp only [Bool.and_eq_true, decide_eq_true_eq] at h
      obtain ⟨h1, h2, h3⟩ := h
      unfold wthB at h3
      have hin := List.all_eq_true.1 h3 m hm
      have hq := has_in (hP m hm) (hr r (by simp)) hin hh
      have hd : drB s = true := by unfold drB; simp; omega
      rw [hq, hd, paint_opaque h1 h2, paint_opaque h1 h2]
      rfl
    · exact cov_forget x y hP hm hh xs rs (fun q hq => hr q (List.mem_cons_of_mem _ hq)) h _ _
end Go.Proofs.Ytkmofpnefjgnkaa
