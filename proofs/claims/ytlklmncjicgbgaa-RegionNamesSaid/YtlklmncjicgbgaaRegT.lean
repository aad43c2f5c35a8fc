/-
  Numbers sorted, each once: slices.Sort and slices.Compact of a row of the call's own.
-/
import Derived.Test.YtlklmncjicgbgaaRegS
import Derived.Test.YtlklmncjicgbgaaRegR
namespace Go.Proofs.Ytlklmncjicgbgaa
open Go.RowKit
set_option linter.unusedVariables false
attribute [local go_sem] vwp vUpon_value vUpon_skip vUpon_enter vUpon_row
set_option linter.unusedSimpArgs false
set_option linter.unusedVariables false
open Go.Sort in
theorem flatI (l : List Int) : l.flatMap encI = l.map (Value.int .i64) := by
  induction l with
  | nil => rfl
  | cons a l ih => rw [List.flatMap_cons, ih]; rfl
def srtI (ns : List Int) : List Int := ns.mergeSort fun x y => decide (x ≤ y)
theorem srtI_len (ns : List Int) : (srtI ns).length = ns.length := List.length_mergeSort ns
theorem srtI_mem {ns : List Int} {x : Int} : x ∈ srtI ns ↔ x ∈ ns := (List.mergeSort_perm ns (fun x y => decide (x ≤ y))).mem_iff
theorem srtI_up (ns : List Int) : (srtI ns).Pairwise (fun a b => a ≤ b) := by
  have h1 := List.pairwise_mergeSort (le := fun (x y : Int) => decide (x ≤ y)) (fun a b c => by simp; omega) (fun a b => by simp; omega) ns
  exact h1.imp (fun h => by simpa using h)
theorem rise_snoc : ∀ {l : List Int} {a : Int}, Rise l → (∀ x ∈ l, x < a) → Rise (l ++ [a])
  | [], _, _, _ => trivial
  | b :: l, a, h, ha => Rise.mk (rise_snoc h.tail (fun x hx => ha x (by simp [hx]))) (fun x hx => by
    rcases List.mem_append.1 hx with hx | hx
    · exact h.above x hx
    · simp at hx; subst hx; exact ha b (by simp))
theorem compact_up (zs : List Int) (h : zs.Pairwise (fun a b => a ≤ b)) : ∀ m, m ≤ zs.length → Rise (Lib.compactUpTo zs.toArray m) ∧ (∀ x, x ∈ Lib.compactUpTo zs.toArray m ↔ ∃ j, j < m ∧ zs[j]? = some x)
  | 0, _ => ⟨by simp [Lib.compactUpTo]; trivial, fun x => by simp [Lib.compactUpTo]⟩
  | m + 1, hm => by
    obtain ⟨i1, i2⟩ := compact_up zs h m (by omega)
    have hg : ∀ j (hj : j < zs.length), zs.toArray[j]! = zs[j] := fun j hj => by simp [hj]
    have hp := List.pairwise_iff_getElem.1 h
    rw [Lib.compactUpTo_succ]
    have hlt : m < zs.length := by omega
    cases hk : Lib.keeps zs.toArray m
    · simp only [Bool.false_eq_true, if_false, List.append_nil]
      refine ⟨i1, fun x => ?_⟩
      rw [i2]
      unfold Lib.keeps at hk
      simp only [ne_eq, decide_eq_false_iff_not, not_or, Classical.not_not] at hk
      constructor
      · rintro ⟨j, hj, e⟩; exact ⟨j, by omega, e⟩
      · rintro ⟨j, hj, e⟩
        by_cases hjm : j < m
        · exact ⟨j, hjm, e⟩
        · obtain rfl : j = m := by omega
          refine ⟨j - 1, by omega, ?_⟩
          rw [List.getElem?_eq_getElem (by omega)]
          rw [List.getElem?_eq_getElem hlt] at e
          have := hk.2
          rw [hg j hlt, hg (j - 1) (by omega)] at this
          rw [← this]; exact e
    · simp only [if_true]
      unfold Lib.keeps at hk
      simp only [ne_eq, decide_eq_true_eq] at hk
      refine ⟨rise_snoc i1 (fun x hx => ?_), fun x => ?_⟩
      · obtain ⟨j, hj, e⟩ := (i2 x).1 hx
        rw [List.getElem?_eq_getElem (by omega)] at e
        injection e with e
        subst e
        rcases hk with hk | hk
        · omega
        · rw [hg m hlt]
          rw [hg m hlt, hg (m - 1) (by omega)] at hk
          have h1 := hp (m - 1) m (by omega) hlt (by omega)
          have h2 : zs[j] ≤ zs[m - 1] := by
            by_cases e : j = m - 1
            · subst e; exact Int.le_refl _
            · exact hp j (m - 1) (by omega) (by omega) (by omega)
          omega
      · rw [List.mem_append, i2, List.mem_singleton, hg m hlt]
        constructor
        · rintro (⟨j, hj, e⟩ | e)
          · exact ⟨j, by omega, e⟩
          · exact ⟨m, by omega, by rw [List.getElem?_eq_getElem hlt, e]⟩
        · rintro ⟨j, hj, e⟩
          by_cases hjm : j < m
          · exact .inl ⟨j, hjm, e⟩
          · obtain rfl : j = m := by omega
            rw [List.getElem?_eq_getElem hlt] at e
            injection e with e
            exact .inr e.symm
/-- Each number once, rising. -/
def onceI (ns : List Int) : List Int := Lib.compact (srtI ns)
theorem onceI_spec (ns : List Int) : Rise (onceI ns) ∧ ∀ x, x ∈ onceI ns ↔ x ∈ ns := by
  obtain ⟨h1, h2⟩ := compact_up (srtI ns) (srtI_up ns) _ (Nat.le_refl _)
  refine ⟨h1, fun x => ?_⟩
  rw [← srtI_mem (ns := ns)]
  have := h2 x
  refine Iff.trans this ?_
  rw [List.mem_iff_getElem?]
  constructor
  · rintro ⟨j, _, e⟩; exact ⟨j, e⟩
  · rintro ⟨j, e⟩; exact ⟨j, (List.getElem?_eq_some_iff.1 e).1, e⟩
theorem onceI_len (ns : List Int) : (onceI ns).length ≤ ns.length := by
  have h := onceI_spec ns
  exact sub_len (rise_nodup h.1) (fun x hx => (h.2 x).1 hx)
theorem isort_any (ns : List Int) (v : Value) (w : World) (base : Nat) (h : OwnsI base w v ns) (hl : ns.length ≤ 1048576) (hB : base ≤ w.heap.size) :
    Calls Try.prog 67 #[v] w fun e w' => e = .returned (.tuple #[]) ∧ OwnsI base w' v (srtI ns) ∧ w.grownBy w' v.ownBlock := by
  have hs := srtI_len ns
  unfold OwnsI at *
  rw [hs]
  rw [flatI] at h ⊢
  rcases h.2 with ⟨rfl, h0⟩ | ⟨g, cap, cur, rfl, hg, hh, hnc, hcm, hcur, htake⟩
  · have : ns = [] := List.length_eq_zero_iff.1 h0
    subst this
    refine (Any.slices_Sort_int_none Ytlklmncjicgbgaa.sortLays none 0 w).mono ?_
    rintro e w' ⟨rfl, rfl⟩
    exact ⟨rfl, by rw [show srtI [] = [] by simp [srtI]]; exact h, grown_refl _ _⟩
  · have hgl : g < w.heap.size := Go.lt_of_block hh
    refine (Any.slices_Sort_int Ytlklmncjicgbgaa.sortLays g 0 cap ns w (holds_of_blockI hh (by simpa using htake)) hgl (by omega)).mono ?_
    rintro e w' ⟨rfl, n, os, rfl⟩
    exact ⟨rfl, ownsRow_sortedI hs hg hh hnc hcm hcur, grownBy_sortedI _⟩
theorem icompact_any (ns : List Int) (v : Value) (w : World) (base : Nat) (h : OwnsI base w v ns) (hl : ns.length ≤ 1048576) (hB : base ≤ w.heap.size) :
    Calls Try.prog 68 #[v] w fun e w' => ∃ v', e = .returned v' ∧ OwnsI base w' v' (Lib.compact ns) ∧ w.grownBy w' v.ownBlock := by
  unfold OwnsI at *
  rw [flatI] at h ⊢
  rcases h.2 with ⟨rfl, h0⟩ | ⟨g, cap, cur, rfl, hg, hh, hnc, hcm, hcur, htake⟩
  · have : ns = [] := List.length_eq_zero_iff.1 h0
    subst this
    refine (Any.slices_Compact_int_empty Ytlklmncjicgbgaa.compactLays none 0 w).mono ?_
    rintro e w' ⟨rfl, rfl⟩
    exact ⟨_, rfl, h, grown_refl _ _⟩
  · have hgl : g < w.heap.size := Go.lt_of_block hh
    refine (Any.slices_Compact_int Ytlklmncjicgbgaa.compactLays g 0 cap ns w (holds_of_blockI hh (by simpa using htake)) (by omega) hnc).mono ?_
    rintro e w' ⟨rfl, n, rfl⟩
    have hle : (Lib.compact ns).length ≤ ns.length := by
      unfold Lib.compact Lib.compactUpTo
      rw [List.length_map]
      exact Nat.le_trans (List.length_filter_le _ _) (by simp)
    have hlen : (Lib.compact ns ++ List.replicate (ns.length - (Lib.compact ns).length) 0).length = ns.length := by
      rw [List.length_append, List.length_replicate]; omega
    have ho := ownsRow_sortedI (os := #[]) (n := n) hlen hg hh hnc hcm hcur
    have hgr := grownBy_sortedI (w := w) (g := g) (n := n) (os := #[]) (Lib.compact ns ++ List.replicate (ns.length - (Lib.compact ns).length) 0).toArray
    have hempty : ∀ W : World, Sort.grow W #[] = W := fun W => by simp [Sort.grow]
    rw [hempty] at ho hgr
    refine ⟨_, rfl, ?_, hgr⟩
    rcases ho.2 with ⟨e, _⟩ | ⟨g', cap', cur', e, hg', hh', hnc', hcm', hcur', htake'⟩
    · cases e
    · injection e with e1 _ e3
      injection e1 with e1
      injection e1 with e1 _ _
      subst e1
      subst e3
      refine ⟨by simp, .inr ⟨g, cap, cur', rfl, hg', hh', by omega, hcm', hcur', ?_⟩⟩
      have := congrArg (fun l => l.take (Lib.compact ns).length) htake'
      simp only [List.take_take, Nat.mul_one, List.map_append] at this ⊢
      rw [Nat.min_eq_left hle] at this
      rw [this, List.take_append_of_le_length (by simp), List.take_of_length_le (by simp)]
end Go.Proofs.Ytlklmncjicgbgaa
