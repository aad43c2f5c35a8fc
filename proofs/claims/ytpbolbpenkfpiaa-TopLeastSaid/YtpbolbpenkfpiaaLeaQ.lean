/-
  The way round that a loop of bounds is, in plain words.
-/
import Derived.Test.YtpbolbpenkfpiaaLeaP
namespace Go.Proofs.Ytpbolbpenkfpiaa
set_option linter.unusedVariables false
def tot (bs : List Bd) : List Int → Int
  | [] => 0
  | k :: ks => (bs.getD k.toNat default).f + tot bs ks
theorem tot_snoc (bs : List Bd) (l : List Int) (k : Int) : tot bs (l ++ [k]) = tot bs l + (bs.getD k.toNat default).f := by
  induction l with
  | nil => simp [tot]
  | cons x l ih => simp only [List.cons_append, tot, ih]; omega
theorem tot_reverse (bs : List Bd) (l : List Int) : tot bs l.reverse = tot bs l := by
  induction l with
  | nil => rfl
  | cons x l ih => rw [List.reverse_cons, tot_snoc, ih]; simp only [tot]; omega
theorem tot_take (bs : List Bd) (l : List Int) (i : Nat) (h : i < l.length) : tot bs (l.take (i + 1)) = tot bs (l.take i) + (bs.getD (X l i).toNat default).f := by
  rw [List.take_succ_eq_append_getElem h, tot_snoc]
  have e : X l i = l[i] := by unfold X; rw [List.getD_eq_getElem?_getD, List.getElem?_eq_getElem h]; rfl
  rw [e]
/-- Bounds, by their numbers, one behind the other, the last before the first, that ask for more than nothing of the way round. -/
structure Turn (bs : List Bd) (out : List Int) : Prop where
  pos : 0 < out.length
  each : ∀ i, i < out.length → ∃ (j j' : Nat) (b b' : Bd), X out i = j ∧ bs[j]? = some b ∧ X out ((i + 1) % out.length) = j' ∧ bs[j']? = some b' ∧ b.b = b'.a
  sum : 0 < tot bs out
/-- The bounds back from t. -/
def backs (bs : List Bd) (made : List Int) (t q : Nat) : List Int := (List.range q).map fun j => X made (go (src bs made) j t) - 1
theorem backs_len (bs : List Bd) (made : List Int) (t q : Nat) : (backs bs made t q).length = q := by simp [backs]
theorem backs_at (bs : List Bd) (made : List Int) (t q j : Nat) (h : j < q) : X (backs bs made t q) j = X made (go (src bs made) j t) - 1 := by
  unfold X backs
  rw [List.getD_eq_getElem?_getD, List.getElem?_map, List.getElem?_range h]; rfl
theorem backs_succ (bs : List Bd) (made : List Int) (t q : Nat) : backs bs made t (q + 1) = backs bs made t q ++ [X made (go (src bs made) q t) - 1] := by
  unfold backs; rw [List.range_succ, List.map_append]; rfl
theorem backs_sum {N : Nat} {bs : List Bd} {made : List Int} {phi : Nat → Int} {M : Int} {t : Nat} (he : ∀ m, Edge N bs made phi M (go (src bs made) m t)) (q : Nat) :
    phi t + q ≤ phi (go (src bs made) q t) + tot bs (backs bs made t q) * M := by
  induction q with
  | zero => simp [go, backs, tot]
  | succ q ih =>
    obtain ⟨j, b, h1, h2, h3, h4, h5, h6⟩ := (he q).by_
    rw [backs_succ, tot_snoc, h2, show ((j : Int) + 1 - 1).toNat = j by omega, List.getD_eq_getElem?_getD, h1, Int.add_mul]
    simp only [go, Option.getD_some]
    rw [h4] at h6
    omega
theorem backs_keeps {N n : Nat} {bs : List Bd} {made : List Int} {phi : Nat → Int} {M : Int} {t : Nat} {at_ : List Int} (he : ∀ m, Edge N bs made phi M (go (src bs made) m t)) (hs : Sol n bs at_) (q : Nat) :
    X at_ (go (src bs made) q t) + tot bs (backs bs made t q) ≤ X at_ t := by
  induction q with
  | zero => simp [go, backs, tot]
  | succ q ih =>
    obtain ⟨j, b, h1, h2, h3, h4, h5, h6⟩ := (he q).by_
    rw [backs_succ, tot_snoc, h2, show ((j : Int) + 1 - 1).toNat = j by omega, List.getD_eq_getElem?_getD, h1]
    simp only [go, Option.getD_some]
    have := hs.keeps j b h1
    rw [h4, h3, Int.toNat_natCast] at this
    omega
theorem backs_pos {N : Nat} {bs : List Bd} {made : List Int} {phi : Nat → Int} {M : Int} {t : Nat} (hM : 0 < M) (he : ∀ m, Edge N bs made phi M (go (src bs made) m t)) (q : Nat) (hq : 1 ≤ q) (hr : go (src bs made) q t = t) :
    0 < tot bs (backs bs made t q) := by
  have h := backs_sum he q
  rw [hr] at h
  have h1 : 0 < tot bs (backs bs made t q) * M := by omega
  exact Int.pos_of_mul_pos_left h1 hM
theorem X_cons (a : Int) (l : List Int) (i : Nat) (h : 1 ≤ i) : X (a :: l) i = X l (i - 1) := by
  cases i with
  | zero => omega
  | succ i => simp [X]
theorem X_drop1_reverse (l : List Int) (i : Nat) (h : 1 ≤ i) (h1 : i < l.length) : X ((l.drop 1).reverse) (i - 1) = X l (l.length - i) := by
  unfold X
  rw [List.getD_eq_getElem?_getD, List.getD_eq_getElem?_getD, List.getElem?_reverse (by simp; omega), List.getElem?_drop]
  simp only [List.length_drop]
  rw [show 1 + (l.length - 1 - 1 - (i - 1)) = l.length - i by omega]
theorem turn_of {N : Nat} {bs : List Bd} {made : List Int} {phi : Nat → Int} {M : Int} {t : Nat} (hM : 0 < M) (he : ∀ m, Edge N bs made phi M (go (src bs made) m t)) (q : Nat) (hq : 1 ≤ q) (hr : go (src bs made) q t = t) :
    Turn bs (X (backs bs made t q) 0 :: ((backs bs made t q).drop 1).reverse) := by
  have hl : (X (backs bs made t q) 0 :: ((backs bs made t q).drop 1).reverse).length = q := by simp [backs_len]; omega
  -- the bound at a place
  have hx : ∀ i, i < q → X (X (backs bs made t q) 0 :: ((backs bs made t q).drop 1).reverse) i = X made (go (src bs made) ((q - i) % q) t) - 1 := by
    intro i hi
    by_cases h0 : i = 0
    · subst h0
      rw [Nat.sub_zero, Nat.mod_self]
      show X (backs bs made t q) 0 = _
      rw [backs_at _ _ _ _ _ hi]
    · rw [X_cons _ _ _ (by omega), X_drop1_reverse _ _ (by omega) (by rw [backs_len]; exact hi), backs_len, backs_at _ _ _ _ _ (by omega), Nat.mod_eq_of_lt (by omega)]
  have hA : ∀ j, j < q → go (src bs made) ((j + 1) % q) t = src bs made (go (src bs made) j t) := by
    intro j hj
    by_cases e : j + 1 = q
    · rw [e, Nat.mod_self]; show t = go (src bs made) (j + 1) t; rw [e, hr]
    · rw [Nat.mod_eq_of_lt (by omega)]; rfl
  refine ⟨by rw [hl]; omega, fun i hi => ?_, ?_⟩
  · rw [hl] at hi ⊢
    obtain ⟨j, b, h1, h2, h3, h4, h5, h6⟩ := (he ((q - i) % q)).by_
    obtain ⟨j', b', h1', h2', h3', h4', h5', h6'⟩ := (he ((q - (i + 1) % q) % q)).by_
    refine ⟨j, j', b, b', ?_, h1, ?_, h1', ?_⟩
    · rw [hx i hi, h2]; omega
    · rw [hx _ (Nat.mod_lt _ (by omega)), h2']; omega
    · have hk := hA ((q - (i + 1) % q) % q) (Nat.mod_lt _ (by omega))
      have e : ((q - (i + 1) % q) % q + 1) % q = (q - i) % q := by
        by_cases e1 : i + 1 = q
        · rw [e1, Nat.mod_self, Nat.sub_zero, Nat.mod_self, show q - i = 1 by omega]
        · rw [Nat.mod_eq_of_lt (show i + 1 < q by omega), Nat.mod_eq_of_lt (show q - (i + 1) < q by omega), show q - (i + 1) + 1 = q - i by omega]
      rw [e] at hk
      rw [← h4'] at hk
      rw [h3, hk]
      omega
  · have : tot bs (X (backs bs made t q) 0 :: ((backs bs made t q).drop 1).reverse) = tot bs (backs bs made t q) := by
      show (bs.getD (X (backs bs made t q) 0).toNat default).f + tot bs ((backs bs made t q).drop 1).reverse = _
      rw [tot_reverse]
      have e : backs bs made t q = X (backs bs made t q) 0 :: (backs bs made t q).drop 1 := by
        cases hb : backs bs made t q with
        | nil => have := backs_len bs made t q; rw [hb] at this; simp at this; omega
        | cons a l => rfl
      conv => rhs; rw [e]
      rfl
    rw [this]
    exact backs_pos hM he q hq hr
/-- From any number of the way round on it is one. -/
theorem Ring.from_ {N : Nat} {bs : List Bd} {made : List Int} {v0 : Nat} (h : Ring N bs made v0) (k : Nat) :
    ∃ (phi : Nat → Int) (M : Int), 0 < M ∧ ∀ m, Edge N bs made phi M (go (src bs made) m (go (src bs made) k v0)) := by
  obtain ⟨phi, M, hM, he⟩ := h.edge
  exact ⟨phi, M, hM, fun m => by rw [← go_add]; exact he _⟩
theorem Ring.none {N n : Nat} {bs : List Bd} {made : List Int} {v0 : Nat} (h : Ring N bs made v0) (at_ : List Int) : ¬ Sol n bs at_ := by
  intro hs
  obtain ⟨d, hd, _, hr⟩ := h.per
  obtain ⟨phi, M, hM, he⟩ := h.from_ N
  have h1 := backs_pos hM he d hd hr
  have h2 := backs_keeps he hs d
  rw [hr] at h2
  omega
end Go.Proofs.Ytpbolbpenkfpiaa
