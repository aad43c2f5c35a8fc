/-
  region.row: the spans of a row of a list, from the left, none beside another one.
-/
import Derived.Test.YtlklmncjicgbgaaRegU
import Derived.Test.YtlklmncjicgbgaaRegD
namespace Go.Proofs.Ytlklmncjicgbgaa
open Go.RowKit
set_option linter.unusedVariables false
attribute [local go_sem] vwp vUpon_value vUpon_skip vUpon_enter vUpon_row
set_option linter.unusedSimpArgs false
set_option linter.unusedVariables false
theorem rowS_snoc {l : List Re} {k : Nat} {q : Re} (y : Int) (h : l[k]? = some q) : rowS (l.take (k + 1)) y = rowS (l.take k) y ++ if (inRow q y && decide (0 < q.wd)) = true then [(q.x, q.x + q.wd)] else [] := by
  unfold rowS
  rw [List.take_add_one, h, List.filter_append, List.map_append]
  congr 1
  simp only [Option.toList_some, List.filter_cons, List.filter_nil]
  split <;> simp
theorem rowS_le (l : List Re) (y : Int) : (rowS l y).length ≤ l.length := by
  unfold rowS
  rw [List.length_map]
  exact List.length_filter_le _ _
theorem mergeS_end : ∀ (A : List Sp) (t s : Sp), mergeS (A ++ [t]) s = A ++ if s.1 ≤ t.2 then [(t.1, max t.2 s.2)] else [t, s]
  | [], t, s => rfl
  | [a], t, s => rfl
  | a :: b :: A, t, s => by
    have := mergeS_end (b :: A) t s
    show a :: mergeS (b :: (A ++ [t])) s = _
    rw [List.cons_append] at this
    rw [this]; rfl
/-- What stands in the row while it is merged. -/
def RowInv (m C : List Sp) (i nn : Nat) : Prop := C.length = m.length ∧ nn ≤ i ∧ C.take nn = (m.take i).foldl mergeS [] ∧ C.drop i = m.drop i ∧ ∀ s ∈ C, InM s.1 ∧ InM s.2
theorem RowInv.start {m : List Sp} (h : ∀ s ∈ m, InM s.1 ∧ InM s.2) : RowInv m m 0 0 := ⟨rfl, Nat.le_refl _, rfl, rfl, h⟩
theorem RowInv.at_ {m C : List Sp} {i nn : Nat} {s : Sp} (h : RowInv m C i nn) (hs : m[i]? = some s) : C[i]? = some s := by
  have := congrArg List.head? h.2.2.2.1
  rw [List.head?_drop, List.head?_drop, hs] at this
  exact this
theorem set_mem {C : List Sp} {k : Nat} {a : Sp} (hC : ∀ s ∈ C, InM s.1 ∧ InM s.2) (ha : InM a.1 ∧ InM a.2) : ∀ s ∈ C.set k a, InM s.1 ∧ InM s.2 := fun s hs => by
  rcases List.mem_or_eq_of_mem_set hs with h | h
  · exact hC s h
  · rw [h]; exact ha
theorem fold_snoc {m : List Sp} {i : Nat} {s : Sp} (hs : m[i]? = some s) : (m.take (i + 1)).foldl mergeS [] = mergeS ((m.take i).foldl mergeS []) s := by
  rw [List.take_add_one, hs, List.foldl_append]; rfl
theorem RowInv.set_ {m C : List Sp} {i nn k : Nat} {s a : Sp} (h : RowInv m C i nn) (hs : m[i]? = some s) (hk : k ≤ i) (ha : InM a.1 ∧ InM a.2) (hn : k + 1 ≤ i + 1) (hf : C.take k ++ [a] = mergeS (C.take nn) s) : RowInv m (C.set k a) (i + 1) (k + 1) := by
  obtain ⟨h1, h2, h3, h4, h5⟩ := h
  have hl := (List.getElem?_eq_some_iff.1 hs).1
  refine ⟨by rw [List.length_set, h1], hn, ?_, ?_, set_mem h5 ha⟩
  · rw [List.take_add_one, List.getElem?_set_self (by omega), List.take_set_of_le (Nat.le_refl _), fold_snoc hs, ← h3, ← hf]; rfl
  · rw [List.drop_set_of_lt (by omega)]
    have := congrArg (List.drop 1) h4
    simpa [List.drop_drop] using this
theorem RowInv.first {m C : List Sp} {i : Nat} {s : Sp} (h : RowInv m C i 0) (hs : m[i]? = some s) : RowInv m (C.set 0 s) (i + 1) 1 :=
  h.set_ hs (Nat.zero_le _) (h.2.2.2.2 s (List.mem_of_getElem? (h.at_ hs))) (by omega) rfl
theorem RowInv.next {m C : List Sp} {i p : Nat} {s t : Sp} (h : RowInv m C i (p + 1)) (hs : m[i]? = some s) (ht : C[p]? = some t) :
    (s.1 ≤ t.2 → RowInv m (C.set p (t.1, max t.2 s.2)) (i + 1) (p + 1)) ∧ (¬ s.1 ≤ t.2 → RowInv m (C.set (p + 1) s) (i + 1) (p + 2)) := by
  have hsC := h.2.2.2.2 s (List.mem_of_getElem? (h.at_ hs))
  have htC := h.2.2.2.2 t (List.mem_of_getElem? ht)
  have e : C.take (p + 1) = C.take p ++ [t] := by rw [List.take_add_one, ht]; rfl
  have hle := h.2.1
  refine ⟨fun hc => h.set_ hs (by omega) ⟨htC.1, ?_⟩ (by omega) ?_, fun hc => h.set_ hs (by omega) hsC (by omega) ?_⟩
  · have := htC.2; have := hsC.2
    unfold InM at *
    simp only
    omega
  · rw [e, mergeS_end, if_pos hc]
  · rw [e, mergeS_end, if_neg hc]; simp
theorem RowInv.done {m C : List Sp} {nn : Nat} (h : RowInv m C m.length nn) : C.take nn = m.foldl mergeS [] := by
  have := h.2.2.1
  rwa [List.take_of_length_le (Nat.le_refl _)] at this
theorem row_take {α : Type} {enc : α → List Value} {sz B : Nat} {w : World} {s : Option Addr} {cap : Nat} {xs : List α} (h : Row B sz enc w (.slice s xs.length cap) xs) (k cap' : Nat) (hk : k ≤ xs.length) (hc : k ≤ cap') (hm : cap' ≤ maxLen) : Row B sz enc w (.slice s k cap') (xs.take k) := by
  obtain ⟨s', c', e, hl, hc', hx⟩ := h
  injection e with e1 _ e2
  subst e1
  subst e2
  have hlen : (xs.take k).length = k := by rw [List.length_take]; omega
  refine ⟨s, cap', by rw [hlen], by rw [hlen]; exact hc, hm, fun h0 => ?_⟩
  obtain ⟨b, o, hs, hlt, hx⟩ := hx (by omega)
  refine ⟨b, o, hs, hlt, fun j x hj => hx j x ?_⟩
  rw [List.getElem?_take] at hj
  split at hj
  · exact hj
  · cases hj
theorem flatS_snoc {l : List Sp} {t : Sp} {cs : List Value} (h : cs = encS t) : l.flatMap encS ++ cs = (l ++ [t]).flatMap encS := by
  rw [h, List.flatMap_append]; simp
theorem own_put1 {w : World} {base g n cap k : Nat} {C : List Sp} {t : Sp} (h : OwnsS base w (.slice (some ⟨g, 0, none⟩) n cap) C) (hn : C.length = n) (ht : C[k]? = some t) (b : Int) : OwnsS base (w.setCell ⟨g, k * 2 + 1, none⟩ (.int .i64 b)) (.slice (some ⟨g, 0, none⟩) n cap) (C.set k (t.1, b)) := by
  have hk := (List.getElem?_eq_some_iff.1 ht).1
  unfold OwnsS at *
  rw [List.length_set, hn]
  rw [hn] at h
  have := own_put h (k := k * 2 + 1) (by omega) (.int .i64 b)
  rwa [flat_set encS_len 1 _ t (t.1, b) (by omega) rfl C k ht] at this
theorem own_put2 {w : World} {base g n cap k : Nat} {C : List Sp} {s : Sp} (h : OwnsS base w (.slice (some ⟨g, 0, none⟩) n cap) C) (hn : C.length = n) (hk : k < n) : OwnsS base ((w.setCell ⟨g, k * 2, none⟩ (.int .i64 s.1)).setCell ⟨g, k * 2 + 1, none⟩ (.int .i64 s.2)) (.slice (some ⟨g, 0, none⟩) n cap) (C.set k s) := by
  obtain ⟨t, ht⟩ := get_at hn hk
  unfold OwnsS at *
  rw [List.length_set, hn]
  rw [hn] at h
  have h1 := own_put h (k := k * 2) (by omega) (.int .i64 s.1)
  have h2 := own_put h1 (k := k * 2 + 1) (by omega) (.int .i64 s.2)
  have e1 := flat_set encS_len 0 (.int .i64 s.1) t (s.1, t.2) (by omega) rfl C k ht
  rw [Nat.add_zero] at e1
  rw [e1, flat_set encS_len 1 (.int .i64 s.2) (s.1, t.2) s (by omega) rfl _ k (by rw [List.getElem?_set_self (by omega)]), List.set_set] at h2
  exact h2
end Go.Proofs.Ytlklmncjicgbgaa
