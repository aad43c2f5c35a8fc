/-
  Place by place, plainly: what the law's 'at' tells, by what shows of each stroke.
-/
import Derived.Test.YtkmofpnefjgnkaaPlaD
namespace Go.Proofs.Ytkmofpnefjgnkaa
open Go.RowKit
set_option linter.unusedVariables false
attribute [local go_sem] vwp vUpon_value vUpon_skip vUpon_enter vUpon_row
set_option linter.unusedSimpArgs false
set_option linter.unusedVariables false
def flagN (x y : Int) : List Re → Bool
  | [] => true
  | t :: _ => hasR t x y
def clN (x y : Int) : List Re → List Bool
  | [] => []
  | t :: N => flagN x y N :: clN x y N
theorem has_shR {N : List Re} {s : St} {x y : Int} (hN : ∀ q ∈ N, mayR q = true) (hs : mayR s.rect = true) : hasR (shR N.reverse s) x y = (flagN x y N && hasR s.rect x y) := by
  have hq : mayR (shQ N.reverse s) = true := shQ_may (fun q hq => hN q (List.mem_reverse.1 hq)) hs
  have e : hasR (shQ N.reverse s) x y = (flagN x y N && hasR s.rect x y) := by
    unfold shQ
    cases N with
    | nil => simp [flagN]
    | cons t N =>
      have hl : (t :: N).reverse.getLast? = some t := by simp
      rw [hl]
      simp only [flagN]
      rw [has_meet hs (hN t (by simp)), Bool.and_comm]
  unfold shR
  split
  · rename_i h
    rw [show hasR Re.none x y = false from has_none (by decide) (by decide), ← e, has_of_empty hq h]
  · exact e
theorem at_shGo (x y : Int) : ∀ (xs : List St) (N : List Re) (out : List St), (∀ q ∈ N, mayR q = true) → (∀ s ∈ xs, mayR s.rect = true) → (∀ s ∈ xs, s.kind = 4 ∨ s.kind = 5 ∨ s.kind ≤ 3) → chkGo N.length xs = 0 → atGo x y xs (flagN x y N) (clN x y N) out = atSh x y xs (shGo N.reverse xs) out
  | [], N, out, _, _, _, _ => by simp [atGo, shGo, atSh]
  | s :: xs, N, out, hN, hx, hk, hc => by
    have hs := hx s (by simp)
    have hsh := has_shR (x := x) (y := y) hN hs
    have hmr : mayR (shR N.reverse s) = true := by
      unfold shR
      split
      · decide
      · exact shQ_may (fun q hq => hN q (List.mem_reverse.1 hq)) hs
    unfold chkGo at hc
    have he : errS s = 0 := by
      by_cases h : errS s = 0
      · exact h
      · rw [if_pos h] at hc; exact absurd hc h
    rw [if_neg (by simpa using he)] at hc
    have ho : ¬ opn N.length s < 0 := by intro h; rw [if_pos h] at hc; omega
    rw [if_neg ho] at hc
    rw [at_cons, shGo, atSh]
    by_cases h4 : s.kind = 4
    · rw [if_pos h4]
      have hd : drB s = false := by unfold drB; simp; omega
      have e : shN N.reverse s = (shR N.reverse s :: N).reverse := by unfold shN; rw [if_pos h4]; simp
      rw [hd, e]
      have := at_shGo x y xs (shR N.reverse s :: N) out (by intro q hq; rcases List.mem_cons.1 hq with rfl | hq; exact hmr; exact hN q hq) (fun t ht => hx t (List.mem_cons_of_mem _ ht)) (fun t ht => hk t (List.mem_cons_of_mem _ ht)) (by rw [List.length_cons]; unfold opn at hc; simp [h4] at hc; simpa using hc)
      have this : atGo x y xs (hasR (shR N.reverse s) x y) (flagN x y N :: clN x y N) out = atSh x y xs (shGo (shR N.reverse s :: N).reverse xs) out := this
      rw [hsh] at this
      rw [Bool.false_and]
      exact this
    · rw [if_neg h4]
      by_cases h5 : s.kind = 5
      · rw [if_pos h5]
        have hd : drB s = false := by unfold drB; simp; omega
        cases N with
        | nil => unfold opn at ho; simp [h4, h5] at ho
        | cons t N =>
          have e : shN (t :: N).reverse s = N.reverse := by unfold shN; rw [if_neg h4, if_pos h5]; simp
          rw [hd, e]
          have := at_shGo x y xs N out (fun q hq => hN q (List.mem_cons_of_mem _ hq)) (fun t ht => hx t (List.mem_cons_of_mem _ ht)) (fun t ht => hk t (List.mem_cons_of_mem _ ht)) (by unfold opn at hc; simp [h4, h5] at hc; simpa using hc)
          simpa [clN] using this
      · rw [if_neg h5]
        have h3 : s.kind ≤ 3 := by rcases hk s (by simp) with h | h | h <;> omega
        have hd : drB s = true := by unfold drB; simpa using h3
        have e : shN N.reverse s = N.reverse := by unfold shN; rw [if_neg h4, if_neg h5]
        rw [hd, e, hsh, Bool.true_and]
        exact at_shGo x y xs N _ hN (fun t ht => hx t (List.mem_cons_of_mem _ ht)) (fun t ht => hk t (List.mem_cons_of_mem _ ht)) (by unfold opn at hc; simp [h4, h5] at hc; simpa using hc)
end Go.Proofs.Ytkmofpnefjgnkaa
