/-
  'Next': the next tick at which something changes.
-/
import Derived.Test.YtblneabjdbllbaaMotL
namespace Go.Proofs.Ytblneabjdbllbaa
open Go.RowKit
set_option linter.unusedVariables false
attribute [local go_sem] vwp vUpon_value vUpon_skip vUpon_enter vUpon_row
open Go.Maps
/-- The motion counts: no later one is of its node. -/
def Counts (ms : List Mo) (m : Mo) : Prop := (Cm ms).atKey (kOf m.node) .nil = .held m
theorem key_k (n : Int) : WideAt.IsKeyLit (kOf n) := trivial
theorem kOf_inj {a b : Int} (h : kOf a = kOf b) : a = b := by unfold kOf at h; injection h
theorem kOf_same {a b : Int} (h : (kOf a).sameKey (kOf b) = true) : a = b := by
  by_cases e : kOf a = kOf b
  · exact kOf_inj e
  · rw [sameKey_ne e] at h; cases h
theorem kOf_self (a : Int) : (kOf a).sameKey (kOf a) = true := WideAt.sameKey_self (key_k a)
theorem snoc_ind {α : Type} {Pr : List α → Prop} (h0 : Pr []) (h1 : ∀ xs x, Pr xs → Pr (xs ++ [x])) (xs : List α) : Pr xs := by
  have : ∀ ys : List α, Pr ys.reverse := by
    intro ys
    induction ys with
    | nil => exact h0
    | cons y ys ih => rw [List.reverse_cons]; exact h1 _ _ ih
  have := this xs.reverse
  rwa [List.reverse_reverse] at this
theorem Cm_append (xs : List Mo) (x : Mo) : Cm (xs ++ [x]) = (Cm xs).put (kOf x.node) (.held x) := by simp [Cm, List.foldl_append]
theorem Cm_map (ms : List Mo) : IsMap (Cm ms) := by
  refine snoc_ind (Pr := fun ms => IsMap (Cm ms)) isMap_empty (fun xs x ih => ?_) ms
  rw [Cm_append]; exact ih.put _ _
theorem Cm_key (ms : List Mo) : ∀ (kl : Lit) (m : Mo), (Cm ms).atKey kl .nil = .held m → kl = kOf m.node := by
  refine snoc_ind (Pr := fun ms => ∀ (kl : Lit) (m : Mo), (Cm ms).atKey kl .nil = .held m → kl = kOf m.node) (fun kl m h => ?_) (fun xs x ih kl m h => ?_) ms
  · simp [Cm, DataW.atKey] at h
  · rw [Cm_append] at h
    by_cases e : kl = kOf x.node
    · subst e
      rw [atKey_put_same (Cm_map xs) (key_k _)] at h
      injection h with h; rw [h]
    · rw [atKey_put_other e] at h
      exact ih kl m h
theorem Counts.snoc (xs : List Mo) (x m : Mo) : Counts (xs ++ [x]) m ↔ m = x ∨ (m.node ≠ x.node ∧ Counts xs m) := by
  unfold Counts
  rw [Cm_append]
  by_cases e : m.node = x.node
  · rw [e, atKey_put_same (Cm_map xs) (key_k _)]
    constructor
    · intro h; injection h with h; exact .inl h.symm
    · rintro (rfl | ⟨h, _⟩)
      · rfl
      · exact absurd rfl h
  · rw [atKey_put_other (fun h => e (kOf_inj h))]
    constructor
    · intro h; exact .inr ⟨e, h⟩
    · rintro (rfl | ⟨_, h⟩)
      · exact absurd rfl e
      · exact h
theorem Counts.nil (m : Mo) : ¬ Counts [] m := by unfold Counts; simp [Cm, DataW.atKey]
theorem Counts.mem {ms : List Mo} : ∀ {m : Mo}, Counts ms m → m ∈ ms := by
  refine snoc_ind (Pr := fun ms => ∀ {m : Mo}, Counts ms m → m ∈ ms) (fun {m} h => absurd h (Counts.nil m)) (fun xs x ih {m} h => ?_) ms
  rcases (Counts.snoc xs x m).1 h with rfl | ⟨_, h⟩
  · simp
  · simp [ih h]
theorem Counts.has {ms : List Mo} {m : Mo} (h : Counts ms m) : Maps.has (Cm ms) (kOf m.node) = true := by
  cases e : Maps.has (Cm ms) (kOf m.node)
  · rw [Counts, atKey_of_not_has e] at h; cases h
  · rfl
theorem Counts.one {ms : List Mo} {m m' : Mo} (h : Counts ms m) (h' : Counts ms m') (e : m.node = m'.node) : m = m' := by
  unfold Counts at h h'
  rw [e, h'] at h
  injection h with h; exact h.symm
/-- The next tick, of those motions: 1048577 where there is none. -/
def NextP (C : Mo → Prop) (t r : Int) : Prop :=
  (∀ m, C m → overB m (max t m.st) = false → r ≤ max t m.st + 1) ∧ (r = 1048577 ∨ ∃ m, C m ∧ overB m (max t m.st) = false ∧ r = max t m.st + 1)
theorem NextP.one {C : Mo → Prop} {t r r' : Int} (hC : ∀ m, C m → Ok m) (ht : t ≤ 1048576) (h : NextP C t r) (h' : NextP C t r') : r = r' := by
  obtain ⟨h1, h2⟩ := h
  obtain ⟨g1, g2⟩ := h'
  rcases h2 with rfl | ⟨m, a, b, rfl⟩
  · rcases g2 with rfl | ⟨m', a', b', rfl⟩
    · rfl
    · have := h1 m' a' b'; have := (hC m' a').st; omega
  · rcases g2 with rfl | ⟨m', a', b', rfl⟩
    · have := g1 m a b; have := (hC m a).st; omega
    · have := h1 m' a' b'; have := g1 m a b; omega
theorem NextP.start (t : Int) {C : Mo → Prop} (h : ∀ m, ¬ C m) : NextP C t 1048577 := ⟨fun m hm => absurd hm (h m), .inl rfl⟩
theorem NextP.step {C C' : Mo → Prop} {t r : Int} (c : Mo) (h : NextP C t r) (hC : ∀ m, C' m ↔ C m ∨ m = c) :
    NextP C' t (if overB c (max t c.st) = true then r else min r (max t c.st + 1)) := by
  obtain ⟨h1, h2⟩ := h
  cases ho : overB c (max t c.st)
  · rw [if_neg (by simp)]
    refine ⟨fun m hm hv => ?_, ?_⟩
    · rcases (hC m).1 hm with hm | rfl
      · have := h1 m hm hv; omega
      · omega
    · by_cases g : max t c.st + 1 ≤ r
      · exact .inr ⟨c, (hC c).2 (.inr rfl), ho, by omega⟩
      · rcases h2 with rfl | ⟨m, a, b, e⟩
        · exact .inl (by omega)
        · exact .inr ⟨m, (hC m).2 (.inl a), b, by omega⟩
  · rw [if_pos rfl]
    refine ⟨fun m hm hv => ?_, ?_⟩
    · rcases (hC m).1 hm with hm | rfl
      · exact h1 m hm hv
      · rw [ho] at hv; cases hv
    · rcases h2 with h2 | ⟨m, a, b, e⟩
      · exact .inl h2
      · exact .inr ⟨m, (hC m).2 (.inl a), b, e⟩
theorem ranges_below {H : Type} {P : Program} {k : TypeId} {R : Value → Option (DataW H × List MemPlace)} {b r n B cnt : Nat} {D : DataW H} {left : Lit → Bool} {w w' : World} (h : w.ranges P k R b r n D left cnt) (hb : Below B w w') (hl : b < B) (hr : r < B) : w'.ranges P k R b r n D left cnt := by
  obtain ⟨es, clock, since, seen, c0, h1, h2, h3, h4, h5, h6⟩ := h
  exact ⟨es, clock, since, seen, c0, (hb.block b hl).trans h1, h2, h3, h4, (hb.block r hr).trans h5, h6⟩
end Go.Proofs.Ytblneabjdbllbaa
