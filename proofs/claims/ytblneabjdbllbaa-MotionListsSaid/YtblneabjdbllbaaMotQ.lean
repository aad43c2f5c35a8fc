/-
  The motions that count, by rising nodes (plain).
-/
import Derived.Test.YtblneabjdbllbaaMotP
namespace Go.Proofs.Ytblneabjdbllbaa
open Go.RowKit
set_option linter.unusedVariables false
attribute [local go_sem] vwp vUpon_value vUpon_skip vUpon_enter vUpon_row
open Go.Maps
def insM (m : Mo) : List Mo → List Mo
  | [] => [m]
  | x :: xs => if x.node < m.node then x :: insM m xs else if x.node = m.node then x :: xs else m :: x :: xs
/-- The last one of each node, by rising nodes. -/
def srt : List Mo → List Mo
  | [] => []
  | m :: ms => insM m (srt ms)
def Up (l : List Mo) : Prop := l.Pairwise (fun a b => a.node < b.node)
theorem insM_mem (m : Mo) : ∀ l, Up l → ∀ x, x ∈ insM m l ↔ x ∈ l ∨ (x = m ∧ ∀ y ∈ l, y.node ≠ m.node)
  | [], _, x => by simp [insM]
  | z :: l, h, x => by
    obtain ⟨h1, h2⟩ := List.pairwise_cons.1 h
    have ih := insM_mem m l h2 x
    unfold insM
    split
    · rename_i hz
      rw [List.mem_cons, ih, List.mem_cons]
      constructor
      · rintro (h | h | ⟨rfl, h⟩)
        · exact .inl (.inl h)
        · exact .inl (.inr h)
        · refine .inr ⟨rfl, fun y hy => ?_⟩
          rcases List.mem_cons.1 hy with rfl | hy
          · omega
          · exact h y hy
      · rintro ((h | h) | ⟨rfl, h⟩)
        · exact .inl h
        · exact .inr (.inl h)
        · exact .inr (.inr ⟨rfl, fun y hy => h y (List.mem_cons_of_mem _ hy)⟩)
    · split
      · rename_i hz hz2
        constructor
        · exact .inl
        · rintro (h | ⟨rfl, h⟩)
          · exact h
          · exact absurd hz2 (h z List.mem_cons_self)
      · rename_i hz hz2
        rw [List.mem_cons]
        constructor
        · rintro (rfl | h)
          · refine .inr ⟨rfl, fun y hy => ?_⟩
            rcases List.mem_cons.1 hy with rfl | hy
            · exact hz2
            · have := h1 y hy; omega
          · exact .inl h
        · rintro (h | ⟨rfl, h⟩)
          · exact .inr h
          · exact .inl rfl
theorem insM_up (m : Mo) : ∀ l, Up l → Up (insM m l)
  | [], _ => by simp [insM, Up]
  | z :: l, h => by
    obtain ⟨h1, h2⟩ := List.pairwise_cons.1 h
    unfold insM
    split
    · rename_i hz
      refine List.pairwise_cons.2 ⟨fun y hy => ?_, insM_up m l h2⟩
      rcases (insM_mem m l h2 y).1 hy with hy | ⟨rfl, _⟩
      · exact h1 y hy
      · exact hz
    · split
      · exact h
      · rename_i hz hz2
        refine List.pairwise_cons.2 ⟨fun y hy => ?_, h⟩
        rcases List.mem_cons.1 hy with rfl | hy
        · omega
        · have := h1 y hy; omega
theorem srt_up : ∀ ms, Up (srt ms)
  | [] => List.Pairwise.nil
  | m :: ms => insM_up m _ (srt_up ms)
theorem insM_len (m : Mo) : ∀ l, (insM m l).length ≤ l.length + 1
  | [] => by simp [insM]
  | z :: l => by
    unfold insM
    have := insM_len m l
    split
    · simp; omega
    · split <;> simp
theorem srt_len : ∀ ms, (srt ms).length ≤ ms.length
  | [] => Nat.le_refl _
  | m :: ms => by have := srt_len ms; have := insM_len m (srt ms); simp only [srt, List.length_cons]; omega
theorem Counts.cons (x : Mo) (xs : List Mo) : ∀ m, Counts (x :: xs) m ↔ Counts xs m ∨ (m = x ∧ ∀ m', Counts xs m' → m'.node ≠ x.node) := by
  refine snoc_ind (Pr := fun xs => ∀ m, Counts (x :: xs) m ↔ Counts xs m ∨ (m = x ∧ ∀ m', Counts xs m' → m'.node ≠ x.node)) (fun m => ?_) (fun ys y ih m => ?_) xs
  · rw [show [x] = [] ++ [x] from rfl, Counts.snoc]
    constructor
    · rintro (rfl | ⟨_, h⟩)
      · exact .inr ⟨rfl, fun m' h => absurd h (Counts.nil _)⟩
      · exact absurd h (Counts.nil _)
    · rintro (h | ⟨rfl, _⟩)
      · exact absurd h (Counts.nil _)
      · exact .inl rfl
  · rw [← List.cons_append, Counts.snoc, Counts.snoc, ih]
    constructor
    · rintro (rfl | ⟨h, hc | ⟨rfl, hn⟩⟩)
      · exact .inl (.inl rfl)
      · exact .inl (.inr ⟨h, hc⟩)
      · refine .inr ⟨rfl, fun m' hm' => ?_⟩
        rcases (Counts.snoc ys y m').1 hm' with rfl | ⟨_, hc⟩
        · exact fun e => h e.symm
        · exact hn m' hc
    · rintro ((rfl | ⟨h, hc⟩) | ⟨rfl, hn⟩)
      · exact .inl rfl
      · exact .inr ⟨h, .inl hc⟩
      · have hy : y.node ≠ m.node := hn y ((Counts.snoc ys y y).2 (.inl rfl))
        refine .inr ⟨fun e => hy e.symm, .inr ⟨rfl, fun m' hc e => ?_⟩⟩
        by_cases h : m'.node = y.node
        · exact hy (h ▸ e)
        · exact hn m' ((Counts.snoc ys y m').2 (.inr ⟨h, hc⟩)) e
theorem srt_mem : ∀ ms m, m ∈ srt ms ↔ Counts ms m
  | [], m => by simp [srt, Counts.nil]
  | x :: xs, m => by
    simp only [srt]
    rw [insM_mem x _ (srt_up xs), Counts.cons]
    constructor
    · rintro (h | ⟨rfl, h⟩)
      · exact .inl ((srt_mem xs m).1 h)
      · exact .inr ⟨rfl, fun m' hm' => h m' ((srt_mem xs m').2 hm')⟩
    · rintro (h | ⟨rfl, h⟩)
      · exact .inl ((srt_mem xs m).2 h)
      · exact .inr ⟨rfl, fun m' hm' => h m' ((srt_mem xs m').1 hm')⟩
theorem up_unique : ∀ (a b : List Int), a.Pairwise (· < ·) → b.Pairwise (· < ·) → (∀ x, x ∈ a ↔ x ∈ b) → a = b
  | [], b, _, _, h => by
    cases b with
    | nil => rfl
    | cons y b => exact absurd ((h y).2 List.mem_cons_self) (by simp)
  | x :: a, b, ha, hb, h => by
    cases b with
    | nil => exact absurd ((h x).1 List.mem_cons_self) (by simp)
    | cons y b =>
      obtain ⟨a1, a2⟩ := List.pairwise_cons.1 ha
      obtain ⟨b1, b2⟩ := List.pairwise_cons.1 hb
      have e : x = y := by
        rcases List.mem_cons.1 ((h x).1 List.mem_cons_self) with e | e
        · exact e
        · rcases List.mem_cons.1 ((h y).2 List.mem_cons_self) with e' | e'
          · exact e'.symm
          · have := b1 x e; have := a1 y e'; omega
      subst e
      rw [up_unique a b a2 b2 fun z => ?_]
      constructor
      · intro hz
        rcases List.mem_cons.1 ((h z).1 (List.mem_cons_of_mem _ hz)) with rfl | hz'
        · have := a1 z hz; omega
        · exact hz'
      · intro hz
        rcases List.mem_cons.1 ((h z).2 (List.mem_cons_of_mem _ hz)) with rfl | hz'
        · have := b1 z hz; omega
        · exact hz'
def nodesN (ms : List Mo) : List Int := (srt ms).map (·.node)
def placesN (ms : List Mo) (t : Int) : List Int := (srt ms).map fun m => atV m t
theorem nodes_up (ms : List Mo) : (nodesN ms).Pairwise (· < ·) := by
  unfold nodesN
  rw [List.pairwise_map]
  exact srt_up ms
theorem nodes_mem (ms : List Mo) (n : Int) : n ∈ nodesN ms ↔ ∃ m, Counts ms m ∧ m.node = n := by
  unfold nodesN
  rw [List.mem_map]
  constructor
  · rintro ⟨m, h, e⟩; exact ⟨m, (srt_mem ms m).1 h, e⟩
  · rintro ⟨m, h, e⟩; exact ⟨m, (srt_mem ms m).2 h, e⟩
theorem sort_nodes (ms : List Mo) (ns : List Int) (hd : ns.Nodup) (hm : ∀ n, n ∈ ns ↔ ∃ m, Counts ms m ∧ m.node = n) : (ns.mergeSort fun x y => decide (x ≤ y)) = nodesN ms := by
  have hp := List.mergeSort_perm ns (fun x y => decide (x ≤ y))
  refine up_unique _ _ ?_ (nodes_up ms) fun n => ?_
  · have h1 := List.pairwise_mergeSort (le := fun (x y : Int) => decide (x ≤ y)) (fun a b c => by simp; omega) (fun a b => by simp; omega) ns
    have h2 : (ns.mergeSort fun x y => decide (x ≤ y)).Nodup := hp.nodup_iff.2 hd
    exact (h1.and h2).imp fun {a b} h => by
      have := h.1; have := h.2; simp at *; omega
  · rw [hp.mem_iff, hm, nodes_mem]
theorem nodup_le : ∀ (a b : List Int), a.Nodup → (∀ x ∈ a, x ∈ b) → a.length ≤ b.length
  | [], b, _, _ => Nat.zero_le _
  | x :: a, b, hd, h => by
    obtain ⟨h1, h2⟩ := List.nodup_cons.1 hd
    have hx := h x List.mem_cons_self
    have := nodup_le a (b.erase x) h2 fun y hy => by
      have hne : y ≠ x := fun e => h1 (e ▸ hy)
      exact (List.mem_erase_of_ne hne).2 (h y (List.mem_cons_of_mem _ hy))
    rw [List.length_erase_of_mem hx] at this
    have := List.length_pos_of_mem hx
    simp only [List.length_cons]; omega
/-- What has been collected so far. -/
def Col (ms : List Mo) (left : Lit → Bool) (ns : List Int) : Prop := ns.Nodup ∧ ∀ n, n ∈ ns ↔ ∃ m, (Counts ms m ∧ left (kOf m.node) = false) ∧ m.node = n
theorem Col.step {ms : List Mo} {left left' : Lit → Bool} {ns : List Int} {c : Mo} (h : Col ms left ns) (hc : Counts ms c) (hl : left (kOf c.node) = true) (hC : ∀ m, (Counts ms m ∧ left' (kOf m.node) = false) ↔ (Counts ms m ∧ left (kOf m.node) = false) ∨ m = c) : Col ms left' (ns ++ [c.node]) := by
  obtain ⟨h1, h2⟩ := h
  refine ⟨?_, fun n => ?_⟩
  · rw [List.nodup_append]
    refine ⟨h1, by simp, fun a ha b hb => ?_⟩
    simp at hb; subst hb
    rintro rfl
    obtain ⟨m, ⟨hm, hf⟩, e⟩ := (h2 _).1 ha
    rw [e, hl] at hf; cases hf
  · rw [List.mem_append, h2, List.mem_singleton]
    constructor
    · rintro (⟨m, hm, e⟩ | rfl)
      · exact ⟨m, (hC m).2 (.inl hm), e⟩
      · exact ⟨c, (hC c).2 (.inr rfl), rfl⟩
    · rintro ⟨m, hm, e⟩
      rcases (hC m).1 hm with hm | rfl
      · exact .inl ⟨m, hm, e⟩
      · exact .inr e.symm
theorem Col.len {ms : List Mo} {left : Lit → Bool} {ns : List Int} (h : Col ms left ns) : ns.length ≤ ms.length := by
  have := nodup_le ns (nodesN ms) h.1 fun x hx => by
    obtain ⟨m, hm, e⟩ := (h.2 x).1 hx
    exact (nodes_mem ms x).2 ⟨m, hm.1, e⟩
  have := srt_len ms
  have : (nodesN ms).length = (srt ms).length := by simp [nodesN]
  omega
theorem Col.done {ms : List Mo} {left : Lit → Bool} {ns : List Int} (h : Col ms left ns) (hl : ∀ k, left k = false) : (ns.mergeSort fun x y => decide (x ≤ y)) = nodesN ms :=
  sort_nodes ms ns h.1 fun n => by
    rw [h.2]
    constructor
    · rintro ⟨m, hm, e⟩; exact ⟨m, hm.1, e⟩
    · rintro ⟨m, hm, e⟩; exact ⟨m, ⟨hm, hl _⟩, e⟩
theorem atKey_any {D : DataW Mo} {k : Lit} {m : Mo} (h : D.atKey k .nil = .held m) (z : DataW Mo) : D.atKey k z = .held m := by
  cases D <;> simp only [DataW.atKey] at h ⊢ <;> first | (cases h) | skip
  split at h
  · exact h
  · cases h
end Go.Proofs.Ytblneabjdbllbaa
