/-
  Motions, one by one: how they are bent, where they lie (plain).
-/
import Derived.Test.YtblneabjdbllbaaMotO
namespace Go.Proofs.Ytblneabjdbllbaa
open Go.RowKit
set_option linter.unusedVariables false
attribute [local go_sem] vwp vUpon_value vUpon_skip vUpon_enter vUpon_row
theorem sq_mono {p q : Int} (h0 : 0 ≤ p) (h : p ≤ q) : p * p ≤ q * q := Int.mul_le_mul h h h0 (by omega)
theorem bend1_mono {p q : Int} (h0 : 0 ≤ p) (h : p ≤ q) : bend1 p ≤ bend1 q := by
  have := sq_mono h0 h
  unfold bend1; omega
theorem bend2_mono {p q : Int} (h : p ≤ q) (h1 : q ≤ 65536) : bend2 p ≤ bend2 q := by
  have := bend1_mono (p := 65536 - q) (q := 65536 - p) (by omega) (by omega)
  unfold bend2; omega
theorem two_sq (p : Int) : 2 * p * p = 2 * (p * p) := by rw [Int.mul_assoc]
theorem bend3_mono {p q : Int} (h0 : 0 ≤ p) (h : p ≤ q) (h1 : q ≤ 65536) : bend3 p ≤ bend3 q := by
  unfold bend3
  rw [two_sq, two_sq, two_sq, two_sq]
  split
  · rw [if_pos (by omega)]
    have := sq_mono (p := 65536 - q) (q := 65536 - p) (by omega) (by omega)
    omega
  · split
    · have := half_bd p h0 (by omega)
      have := half_bd (65536 - q) (by omega) (by omega)
      rw [two_sq] at *
      omega
    · have := sq_mono h0 h
      omega
theorem bentN_mono {p q e : Int} (h0 : 0 ≤ p) (h : p ≤ q) (h1 : q ≤ 65536) : bentN p e ≤ bentN q e := by
  unfold bentN
  split
  · exact bend1_mono h0 h
  split
  · exact bend2_mono h h1
  split
  · exact bend3_mono h0 h h1
  · exact h
theorem bentN_0 (e : Int) : bentN 0 e = 0 := by
  unfold bentN; split; · rfl
  split; · rfl
  split; · rfl
  rfl
theorem bentN_1 (e : Int) : bentN 65536 e = 65536 := by
  unfold bentN; split; · rfl
  split; · rfl
  split; · rfl
  rfl
theorem bend3_mirror (a : Int) : bend3 a = 65536 - bend3 (65536 - a) := by
  unfold bend3
  rw [show 65536 - (65536 - a) = a by omega]
  rcases (by omega : 65536 - a < a ∨ a < 65536 - a ∨ a = 32768) with h | h | rfl
  · rw [if_pos h, if_neg (by omega)]
  · rw [if_neg (by omega), if_pos h]; omega
  · decide
/-- Between the lesser end and the greater one. -/
theorem lies (m : Mo) (t : Int) (h : Ok m) : (m.fr ≤ m.to → m.fr ≤ atV m t ∧ atV m t ≤ m.to) ∧ (m.to < m.fr → m.to ≤ atV m t ∧ atV m t ≤ m.fr) := by
  unfold atV
  split
  · omega
  split
  · split <;> omega
  · have hr := rest_bd m t h
    have hp := part_ok (restN m t) m.ln hr.1 hr.2 h.ln.1
    obtain ⟨k0, k1⟩ := bentN_bd (restN m t * 65536 / m.ln) m.es hp
    generalize bentN (restN m t * 65536 / m.ln) m.es = k at *
    constructor
    · intro g
      have a := Int.mul_le_mul_of_nonneg_left k1 (show 0 ≤ m.to - m.fr by omega)
      have b := Int.mul_nonneg (show 0 ≤ m.to - m.fr by omega) k0
      generalize (m.to - m.fr) * k = x at *
      omega
    · intro g
      have a := Int.mul_le_mul_of_nonneg_left k1 (show 0 ≤ m.fr - m.to by omega)
      have b := Int.mul_nonneg (show 0 ≤ m.fr - m.to by omega) k0
      have e : (m.to - m.fr) * k = -((m.fr - m.to) * k) := by rw [← Int.neg_mul, Int.neg_sub]
      rw [e]
      generalize (m.fr - m.to) * k = x at *
      omega
theorem quo_of {a b q : Int} (hb : 0 < b) (h0 : q * b ≤ a) (h1 : a < q * b + b) : a / b = q ∧ a % b = a - q * b := by
  have e : a = (a - q * b) + q * b := by omega
  have hq : a / b = q := by
    rw [e, Int.add_mul_ediv_right _ _ (by omega), Int.ediv_eq_zero_of_lt (by omega) (by omega)]; omega
  refine ⟨hq, ?_⟩
  have := Int.mul_ediv_add_emod a b
  rw [hq, Int.mul_comm] at this
  omega
theorem overB_start (m : Mo) (h : Ok m) : overB m m.st = false := by
  unfold overB
  rw [Int.sub_self, Int.zero_ediv]
  by_cases c : 0 < m.ts
  · simp [c]
  · simp [c]
theorem at_start (m : Mo) (h : Ok m) : atV m m.st = m.fr := by
  unfold atV
  rw [if_neg (by omega), overB_start m h, if_neg (by decide)]
  have e : restN m m.st = 0 := by
    unfold restN
    rw [Int.sub_self, Int.zero_ediv, Int.zero_emod, if_neg (by simp [oddB])]
  rw [e, Int.zero_mul, Int.zero_ediv, bentN_0]
  omega
theorem overB_mono (m : Mo) (t u : Int) (h : Ok m) (ht : t ≤ u) (ho : overB m t = true) : overB m u = true := by
  unfold overB at *
  have := Int.ediv_le_ediv (c := m.ln) (by have := h.ln; omega) (show t - m.st ≤ u - m.st by omega)
  simp at ho ⊢
  omega
theorem atG_no {m : Mo} {t : Int} (h : atG m t = false) : m.st ≤ t ∧ overB m t = true := by
  unfold atG at h; simp at h; exact h
theorem stays_over (m : Mo) (t u : Int) (h : Ok m) (ht : t ≤ u) (hg : atG m t = false) : atV m u = atV m t ∧ atG m u = false := by
  obtain ⟨hs, ho⟩ := atG_no hg
  have ho' := overB_mono m t u h ht ho
  unfold atV atG
  rw [if_neg (show ¬ u < m.st by omega), if_pos ho', if_neg (show ¬ t < m.st by omega), if_pos ho, ho']
  exact ⟨rfl, by simp; omega⟩
theorem mirror (m : Mo) (r : Int) (h : Ok m) (hb : m.bk = true) (ht : m.ts ≠ 1) (h0 : 1 ≤ r) (h1 : r < m.ln) : atV m (m.st + m.ln - r) = atV m (m.st + m.ln + r) := by
  obtain ⟨q1, r1⟩ := quo_of (a := m.st + m.ln + r - m.st) (b := m.ln) (q := 1) (by omega) (by omega) (by omega)
  obtain ⟨q2, r2⟩ := quo_of (a := m.st + m.ln - r - m.st) (b := m.ln) (q := 0) (by omega) (by omega) (by omega)
  have o1 : overB m (m.st + m.ln + r) = false := by
    unfold overB; rw [q1]; have := h.ts
    rcases (by omega : m.ts = 0 ∨ 1 < m.ts) with h | h
    · rw [h]; decide
    · simp; omega
  have o2 : overB m (m.st + m.ln - r) = false := by
    unfold overB; rw [q2]
    by_cases c : 0 < m.ts
    · simp [c]
    · simp [c]
  have e1 : restN m (m.st + m.ln + r) = m.ln - r := by
    unfold restN; rw [q1, r1, hb]; rw [if_pos (by decide)]; omega
  have e2 : restN m (m.st + m.ln - r) = m.ln - r := by
    unfold restN; rw [q2, r2, hb]; rw [if_neg (by decide)]; omega
  unfold atV
  rw [if_neg (show ¬ m.st + m.ln - r < m.st by omega), o2, if_neg (show ¬ m.st + m.ln + r < m.st by omega), o1, e1, e2]
end Go.Proofs.Ytblneabjdbllbaa
