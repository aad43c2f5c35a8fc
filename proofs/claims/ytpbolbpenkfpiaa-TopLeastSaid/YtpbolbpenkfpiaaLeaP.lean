/-
  The least numbers that keep bounds, round by round, in plain words: what holds of the numbers on their way up; why there is a loop of bounds where they don't come to rest.
-/
import Derived.KernelRfl
namespace Go.Proofs.Ytpbolbpenkfpiaa
set_option linter.unusedVariables false
structure Bd where
  a : Int
  b : Int
  f : Int
instance : Inhabited Bd := ⟨⟨0, 0, 0⟩⟩
/-- A bound may be. -/
structure OkB (n : Nat) (b : Bd) : Prop where
  a0 : 0 ≤ b.a
  a1 : b.a < n
  b0 : 0 ≤ b.b
  b1 : b.b < n
  f0 : -1048576 ≤ b.f
  f1 : b.f ≤ 1048576
structure Valid (n : Nat) (bs : List Bd) : Prop where
  n1 : n ≤ 4096
  l1 : bs.length ≤ 4096
  each : ∀ (j : Nat) (b : Bd), bs[j]? = some b → OkB n b
/-- The number at a place. -/
def X (xs : List Int) (v : Nat) : Int := xs.getD v 0
/-- Numbers that keep all bounds. -/
structure Sol (n : Nat) (bs : List Bd) (at_ : List Int) : Prop where
  len : at_.length = n
  pos : ∀ v, v < n → 0 ≤ X at_ v
  keeps : ∀ (j : Nat) (b : Bd), bs[j]? = some b → X at_ b.a.toNat + b.f ≤ X at_ b.b.toNat
theorem X_set (xs : List Int) (k : Nat) (y : Int) (v : Nat) (hk : k < xs.length) : X (xs.set k y) v = if v = k then y else X xs v := by
  unfold X
  rw [List.getD_eq_getElem?_getD, List.getD_eq_getElem?_getD, List.getElem?_set]
  by_cases h : k = v
  · subst h; simp [hk]
  · rw [if_neg h, if_neg (fun e => h e.symm)]
/-- What holds on the way: c steps before this round, i steps of it made; 'tau': when each number was last changed. -/
structure Inv (N : Nat) (bs : List Bd) (x made : List Int) (last : Int) (tau : Nat → Nat) (c i : Nat) : Prop where
  lx : x.length = N
  lm : made.length = N
  x0 : ∀ v, v < N → 0 ≤ X x v ∧ X x v ≤ (c + i : Nat) * 1048576
  least : ∀ at_, Sol N bs at_ → ∀ v, v < N → X x v ≤ X at_ v
  edge : ∀ v, v < N → (X made v = 0 ∧ tau v = 0) ∨ ∃ (j : Nat) (b : Bd), bs[j]? = some b ∧ X made v = j + 1 ∧ b.b = v ∧ 1 ≤ tau v ∧
    ((tau b.a.toNat < tau v ∧ X x v = X x b.a.toNat + b.f) ∨ (tau v ≤ tau b.a.toNat ∧ X x v + 1 ≤ X x b.a.toNat + b.f)) ∧ tau v ≤ tau b.a.toNat + bs.length
  kept : ∀ (j : Nat) (b : Bd), bs[j]? = some b → X x b.a.toNat + b.f ≤ X x b.b.toNat ∨ c + j + 1 ≤ tau b.a.toNat + if j < i then 0 else bs.length
  tle : ∀ v, v < N → tau v ≤ c + i
  last : (last = 0 ∧ ∀ v, v < N → tau v ≤ c) ∨ (1 ≤ last ∧ last ≤ N ∧ c < tau (last - 1).toNat)
theorem Inv.start (N : Nat) (bs : List Bd) (last : Int) (h : last = 0) : Inv N bs (List.replicate N 0) (List.replicate N 0) last (fun _ => 0) 0 0 := by
  have hx : ∀ v, X (List.replicate N (0 : Int)) v = 0 := by
    intro v; unfold X; rw [List.getD_eq_getElem?_getD, List.getElem?_replicate]; split <;> rfl
  refine ⟨by simp, by simp, fun v hv => by rw [hx]; simp, fun at_ hs v hv => by rw [hx]; exact hs.pos v hv, fun v hv => .inl ⟨hx v, rfl⟩, fun j b hj => .inr ?_, fun v hv => by simp, .inl ⟨h, fun v hv => by simp⟩⟩
  have := (List.getElem?_eq_some_iff.1 hj).1
  rw [if_neg (by omega)]; omega
theorem Inv.turn {N : Nat} {bs : List Bd} {x made : List Int} {last : Int} {tau : Nat → Nat} {c : Nat} (h : Inv N bs x made last tau c bs.length) : Inv N bs x made 0 tau (c + bs.length) 0 := by
  refine ⟨h.lx, h.lm, h.x0, h.least, h.edge, fun j b hj => ?_, h.tle, .inl ⟨rfl, h.tle⟩⟩
  have hl := (List.getElem?_eq_some_iff.1 hj).1
  rcases h.kept j b hj with g | g
  · exact .inl g
  · rw [if_pos hl] at g
    right; rw [if_neg (by omega)]; omega
theorem Inv.turn' {N L : Nat} {bs : List Bd} {x made : List Int} {last : Int} {tau : Nat → Nat} {c : Nat} (h : Inv N bs x made last tau c L) (hL : bs.length = L) : Inv N bs x made 0 tau (c + L) 0 := by
  subst hL; exact h.turn
theorem Inv.stay {N : Nat} {bs : List Bd} {x made : List Int} {last : Int} {tau : Nat → Nat} {c i : Nat} {b : Bd} (h : Inv N bs x made last tau c i) (hb : bs[i]? = some b) (hk : X x b.a.toNat + b.f ≤ X x b.b.toNat) :
    Inv N bs x made last tau c (i + 1) := by
  refine ⟨h.lx, h.lm, fun v hv => ?_, h.least, h.edge, fun j b' hj => ?_, fun v hv => ?_, h.last⟩
  · have := h.x0 v hv; omega
  · by_cases e : j = i
    · subst e; rw [hb] at hj; obtain rfl := Option.some.inj hj; exact .inl hk
    · rcases h.kept j b' hj with g | g
      · exact .inl g
      · right
        by_cases hji : j < i
        · rw [if_pos hji] at g; rw [if_pos (by omega)]; exact g
        · rw [if_neg hji] at g; rw [if_neg (by omega)]; exact g
  · have := h.tle v hv; omega
theorem Inv.step {N : Nat} {bs : List Bd} {x made : List Int} {last : Int} {tau : Nat → Nat} {c i : Nat} {b : Bd} (h : Inv N bs x made last tau c i) (hb : bs[i]? = some b) (hok : OkB N b) (hk : X x b.b.toNat < X x b.a.toNat + b.f) :
    ∃ tau', Inv N bs (x.set b.b.toNat (X x b.a.toNat + b.f)) (made.set b.b.toNat (i + 1)) (b.b + 1) tau' c (i + 1) := by
  have hil := (List.getElem?_eq_some_iff.1 hb).1
  obtain ⟨a0, a1, b0, b1, f0, f1⟩ := hok
  have hbN : b.b.toNat < N := by omega
  have haN : b.a.toNat < N := by omega
  have hX := fun v => X_set x b.b.toNat (X x b.a.toNat + b.f) v (by rw [h.lx]; exact hbN)
  have hM := fun v => X_set made b.b.toNat ((i : Int) + 1) v (by rw [h.lm]; exact hbN)
  have hka := h.kept i b hb
  rw [if_neg (by omega)] at hka
  have hta : c + i + 1 ≤ tau b.a.toNat + bs.length := by
    rcases hka with g | g
    · omega
    · exact g
  refine ⟨fun v => if v = b.b.toNat then c + i + 1 else tau v, by rw [List.length_set]; exact h.lx, by rw [List.length_set]; exact h.lm, fun v hv => ?_, fun at_ hs v hv => ?_, fun v hv => ?_, fun j b' hj => ?_, fun v hv => ?_, .inr ⟨by omega, by omega, ?_⟩⟩
  · rw [hX]
    have := h.x0 v hv
    have := h.x0 _ haN
    have := h.x0 _ hbN
    split <;> omega
  · rw [hX]
    split
    · rename_i e; subst e
      have := h.least at_ hs _ haN
      have := hs.keeps i b hb
      omega
    · exact h.least at_ hs v hv
  · by_cases e : v = b.b.toNat
    · subst e
      right
      refine ⟨i, b, hb, by rw [hM, if_pos rfl], by omega, by simp, ?_, ?_⟩
      · by_cases e : b.a.toNat = b.b.toNat
        · right
          rw [hX, if_pos rfl, hX, if_pos e, if_pos e, if_pos rfl]
          rw [e] at hk
          rw [e]
          omega
        · left
          rw [hX, if_pos rfl, hX, if_neg e, if_neg e, if_pos rfl]
          have := h.tle _ haN
          omega
      · rw [if_pos rfl]
        split <;> omega
    · have hE := h.edge v hv
      rw [hM, if_neg e, if_neg e]
      rcases hE with ⟨h1, h2⟩ | ⟨j, b', h1, h2, h3, h4, h5, h6⟩
      · exact .inl ⟨h1, h2⟩
      · right
        refine ⟨j, b', h1, h2, h3, h4, ?_, ?_⟩
        · rw [hX, if_neg e, hX]
          by_cases e2 : b'.a.toNat = b.b.toNat
          · rw [if_pos e2, if_pos e2]
            rw [e2] at h5
            have := h.tle v hv
            right
            omega
          · rw [if_neg e2, if_neg e2]; exact h5
        · by_cases e2 : b'.a.toNat = b.b.toNat
          · rw [if_pos e2]; have := h.tle v hv; omega
          · rw [if_neg e2]; exact h6
  · by_cases e : b'.a.toNat = b.b.toNat
    · right
      rw [if_pos e]
      have := (List.getElem?_eq_some_iff.1 hj).1
      split <;> omega
    · rw [if_neg e, hX, if_neg e, hX]
      by_cases ej : j = i
      · subst ej
        rw [hb] at hj; obtain rfl := Option.some.inj hj
        left; rw [if_pos rfl]; omega
      · rcases h.kept j b' hj with g | g
        · left
          split
          · rename_i e3; rw [e3] at g; omega
          · exact g
        · right
          by_cases hji : j < i
          · rw [if_pos hji] at g; rw [if_pos (by omega)]; exact g
          · rw [if_neg hji] at g; rw [if_neg (by omega)]; exact g
  · by_cases e : v = b.b.toNat
    · rw [if_pos e]; omega
    · rw [if_neg e]; have := h.tle v hv; omega
  · rw [if_pos (by omega)]; omega
/-- They have come to rest. -/
theorem Inv.done {N : Nat} {bs : List Bd} {x made : List Int} {tau : Nat → Nat} {c : Nat} (h : Inv N bs x made 0 tau c bs.length) (hv : ∀ (j : Nat) (b : Bd), bs[j]? = some b → OkB N b) : Sol N bs x := by
  refine ⟨h.lx, fun v hv => (h.x0 v hv).1, fun j b hj => ?_⟩
  have hl := (List.getElem?_eq_some_iff.1 hj).1
  rcases h.kept j b hj with g | g
  · exact g
  · rw [if_pos hl] at g
    rcases h.last with ⟨_, t⟩ | ⟨t, _⟩
    · have := t b.a.toNat (by have := (hv j b hj).a1; have := (hv j b hj).a0; omega)
      omega
    · omega
/-- From which number that at v was made. -/
def src (bs : List Bd) (made : List Int) (v : Nat) : Nat := (bs.getD (X made v - 1).toNat default).a.toNat
def go (s : Nat → Nat) : Nat → Nat → Nat
  | 0, v => v
  | k + 1, v => s (go s k v)
theorem go_add (s : Nat → Nat) (k m v : Nat) : go s (k + m) v = go s k (go s m v) := by
  induction k with
  | zero => simp [go]
  | succ k ih => rw [show k + 1 + m = (k + m) + 1 by omega]; simp only [go]; rw [ih]
theorem go_succ' (s : Nat → Nat) (k v : Nat) : go s (k + 1) v = go s k (s v) := by rw [go_add]; rfl
/-- v was made by bound j. -/
structure Edge (N : Nat) (bs : List Bd) (made : List Int) (phi : Nat → Int) (M : Int) (v : Nat) : Prop where
  lt : v < N
  by_ : ∃ (j : Nat) (b : Bd), bs[j]? = some b ∧ X made v = j + 1 ∧ b.b = v ∧ b.a.toNat = src bs made v ∧ 0 ≤ b.a ∧ phi v < phi b.a.toNat + b.f * M
theorem pigeon : ∀ (N : Nat) (f : Nat → Nat), (∀ k, k ≤ N → f k < N) → ∃ i j, i < j ∧ j ≤ N ∧ f i = f j
  | 0, f, h => absurd (h 0 (Nat.le_refl _)) (by omega)
  | N + 1, f, h => by
    by_cases hk : ∃ k, k ≤ N ∧ f k = f (N + 1)
    · obtain ⟨k, hk, e⟩ := hk
      exact ⟨k, N + 1, by omega, by omega, e⟩
    · have hne : ∀ k, k ≤ N → f k ≠ f (N + 1) := fun k hkn e => hk ⟨k, hkn, e⟩
      obtain ⟨i, j, hij, hj, e⟩ := pigeon N (fun k => if f (N + 1) < f k then f k - 1 else f k) (fun k hkn => by
        have h1 := h k (by omega)
        have h2 := hne k hkn
        have h3 := h (N + 1) (by omega)
        show (if f (N + 1) < f k then f k - 1 else f k) < N
        split <;> omega)
      refine ⟨i, j, hij, by omega, ?_⟩
      have h1 := hne i (by omega)
      have h2 := hne j hj
      have e' : (if f (N + 1) < f i then f i - 1 else f i) = (if f (N + 1) < f j then f j - 1 else f j) := e
      split at e' <;> split at e' <;> omega
/-- There is a way round. -/
structure Ring (N : Nat) (bs : List Bd) (made : List Int) (v0 : Nat) : Prop where
  lt : v0 < N
  per : ∃ d, 1 ≤ d ∧ d ≤ N ∧ go (src bs made) d (go (src bs made) N v0) = go (src bs made) N v0
  edge : ∃ (phi : Nat → Int) (M : Int), 0 < M ∧ ∀ m, Edge N bs made phi M (go (src bs made) m v0)
theorem Inv.ring {N : Nat} {bs : List Bd} {x made : List Int} {last : Int} {tau : Nat → Nat} (h : Inv N bs x made last tau ((N - 1) * bs.length) bs.length) (hl : last ≠ 0) (hv : ∀ (j : Nat) (b : Bd), bs[j]? = some b → OkB N b) :
    1 ≤ last ∧ Ring N bs made (last - 1).toNat := by
  rcases h.last with ⟨g, _⟩ | ⟨g1, g2, g3⟩
  · exact absurd g hl
  refine ⟨g1, ?_⟩
  generalize hv0 : (last - 1).toNat = v0 at *
  have hlt : v0 < N := by omega
  -- an edge where something was changed
  have hed : ∀ v, v < N → 1 ≤ tau v → Edge N bs made (fun v => X x v * ((N - 1) * bs.length + bs.length + 1 : Nat) - tau v) ((N - 1) * bs.length + bs.length + 1 : Nat) v ∧ src bs made v < N ∧ tau v ≤ tau (src bs made v) + bs.length := by
    intro v hvN ht
    rcases h.edge v hvN with ⟨_, h2⟩ | ⟨j, b, h1, h2, h3, h4, h5, h6⟩
    · omega
    · have hok := hv j b h1
      have hs : src bs made v = b.a.toNat := by
        unfold src; rw [h2, show ((j : Int) + 1 - 1).toNat = j by omega, List.getD_eq_getElem?_getD, h1]; rfl
      have haN : b.a.toNat < N := by have := hok.a0; have := hok.a1; omega
      refine ⟨⟨hvN, j, b, h1, h2, h3, hs.symm, hok.a0, ?_⟩, by rw [hs]; exact haN, by rw [hs]; exact h6⟩
      have hta := h.tle _ haN
      have htv := h.tle v hvN
      obtain ⟨M, hM⟩ : ∃ M, (N - 1) * bs.length + bs.length + 1 = M := ⟨_, rfl⟩
      rw [hM]
      generalize (N - 1) * bs.length = K at *
      show X x v * (M : Nat) - tau v < X x b.a.toNat * (M : Nat) - tau b.a.toNat + b.f * (M : Nat)
      rcases h5 with ⟨p, q⟩ | ⟨p, q⟩
      · rw [q, Int.add_mul]; omega
      · have := Int.mul_le_mul_of_nonneg_right q (show (0 : Int) ≤ (M : Nat) by omega)
        rw [Int.add_mul, Int.add_mul] at this
        omega
  have hch : ∀ k, k ≤ N - 1 → go (src bs made) k v0 < N ∧ (N - 1) * bs.length < tau (go (src bs made) k v0) + k * bs.length := by
    intro k
    induction k with
    | zero => intro _; exact ⟨hlt, by simpa [go] using g3⟩
    | succ k ih =>
      intro hk
      obtain ⟨i1, i2⟩ := ih (by omega)
      have hm : (k + 1) * bs.length ≤ (N - 1) * bs.length := Nat.mul_le_mul_right _ hk
      have hs : (k + 1) * bs.length = k * bs.length + bs.length := by rw [Nat.add_mul, Nat.one_mul]
      obtain ⟨_, e2, e3⟩ := hed _ i1 (by omega)
      exact ⟨e2, by simp only [go]; omega⟩
  have htau : ∀ k, k ≤ N - 1 → 1 ≤ tau (go (src bs made) k v0) := by
    intro k hk
    have := (hch k hk).2
    have hm : k * bs.length ≤ (N - 1) * bs.length := Nat.mul_le_mul_right _ hk
    omega
  have hltN : ∀ k, k ≤ N → go (src bs made) k v0 < N := by
    intro k hk
    cases k with
    | zero => exact hlt
    | succ k => exact (hed _ (hch k (by omega)).1 (htau k (by omega))).2.1
  obtain ⟨i, j, hij, hj, e⟩ := pigeon N (fun k => go (src bs made) k v0) hltN
  have hper : ∀ k, i ≤ k → go (src bs made) (k + (j - i)) v0 = go (src bs made) k v0 := by
    intro k hk
    rw [show k + (j - i) = (k - i) + j by omega, go_add, ← show go (src bs made) i v0 = go (src bs made) j v0 from e, ← go_add, show k - i + i = k by omega]
  have hall : ∀ m, go (src bs made) m v0 < N ∧ 1 ≤ tau (go (src bs made) m v0) := by
    intro m
    induction m using Nat.strongRecOn with
    | _ m ih =>
      by_cases hm : m ≤ N - 1
      · exact ⟨hltN m (by omega), htau m hm⟩
      · have := hper (m - (j - i)) (by omega)
        rw [show m - (j - i) + (j - i) = m by omega] at this
        rw [this]
        exact ih _ (by omega)
  refine ⟨hlt, ⟨j - i, by omega, by omega, ?_⟩, _, _, ?_, fun m => (hed _ (hall m).1 (hall m).2).1⟩
  · rw [← go_add, Nat.add_comm]; exact hper N (by omega)
  · omega
end Go.Proofs.Ytpbolbpenkfpiaa
