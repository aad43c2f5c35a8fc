/-
  Moving a list: plain.
-/
import Derived.Test.YtkmofpnefjgnkaaLisO
namespace Go.Proofs.Ytkmofpnefjgnkaa
open Go.RowKit
set_option linter.unusedVariables false
attribute [local go_sem] vwp vUpon_value vUpon_skip vUpon_enter vUpon_row
set_option linter.unusedSimpArgs false
set_option linter.unusedVariables false
def cl (n : Int) : Int := min (max n (-32769)) 32769
def mvR (px py : Int) (q : Re) : Re := ⟨q.x + cl px, q.y + cl py, q.wd, q.ht⟩
def mvS (px py : Int) (s : St) : St := if s.kind = 5 then s else ⟨s.kind, mvR px py s.rect, s.col, s.back, s.text, s.node⟩
def okL (px py : Int) (xs : List St) : Bool := xs.all fun s => mayR (mvS px py s).rect
def mvE (px py : Int) (xs : List St) : Int := if chkL xs ≠ 0 then chkL xs else if okL px py xs then 0 else 9
def mvL (px py : Int) (xs : List St) : List St := if mvE px py xs = 0 then xs.map (mvS px py) else []
theorem mv_a {px py : Int} {xs : List St} (h : chkL xs ≠ 0) : mvE px py xs = chkL xs ∧ mvL px py xs = [] := by
  have e : mvE px py xs = chkL xs := by unfold mvE; rw [if_pos h]
  exact ⟨e, by unfold mvL; rw [if_neg (by rw [e]; exact h)]⟩
theorem mv_b {px py : Int} {xs : List St} (h : chkL xs = 0) (h2 : okL px py xs = false) : mvE px py xs = 9 ∧ mvL px py xs = [] := by
  have e : mvE px py xs = 9 := by unfold mvE; rw [if_neg (by simp [h]), h2]; rfl
  exact ⟨e, by unfold mvL; rw [if_neg (by rw [e]; decide)]⟩
theorem mv_c {px py : Int} {xs : List St} (h : chkL xs = 0) (h2 : okL px py xs = true) : mvE px py xs = 0 ∧ mvL px py xs = xs.map (mvS px py) := by
  have e : mvE px py xs = 0 := by unfold mvE; rw [if_neg (by simp [h]), h2]; rfl
  exact ⟨e, by unfold mvL; rw [if_pos e]⟩
theorem ok_not {px py : Int} {xs : List St} {k : Nat} {s : St} (hs : xs[k]? = some s) (h : mayR (mvS px py s).rect = false) : okL px py xs = false := by
  unfold okL
  rw [List.all_eq_false]
  exact ⟨s, List.mem_of_getElem? hs, by rw [h]; decide⟩
theorem ok_all {px py : Int} {xs : List St} (h : ∀ (j : Nat) s, xs[j]? = some s → mayR (mvS px py s).rect = true) : okL px py xs = true := by
  unfold okL
  rw [List.all_eq_true]
  intro s hs
  obtain ⟨j, hj, e⟩ := List.mem_iff_getElem.1 hs
  exact h j s (by rw [List.getElem?_eq_getElem hj, e])
theorem go_mem (xs : List St) : ∀ (o : Int), chkGo o xs = 0 → ∀ s ∈ xs, errS s = 0 := by
  induction xs with
  | nil => intro o h s hs; simp at hs
  | cons x xs ih =>
    intro o h s hs
    simp only [chkGo] at h
    by_cases h1 : errS x = 0
    · rw [if_neg (by simp [h1])] at h
      by_cases h2 : opn o x < 0
      · rw [if_pos h2] at h; exact absurd h (by decide)
      · rw [if_neg h2] at h
        rcases List.mem_cons.1 hs with rfl | hs
        · exact h1
        · exact ih _ h s hs
    · rw [if_pos h1] at h; exact absurd h h1
theorem chk_mem {xs : List St} (h : chkL xs = 0) (s : St) (hs : s ∈ xs) : errS s = 0 := by
  unfold chkL at h
  split at h
  · exact absurd h (by decide)
  · exact go_mem xs 0 h s hs
theorem err_may {s : St} (h : errS s = 0) : mayR s.rect = true := by
  unfold errS at h
  split at h
  · cases h
  · split at h
    · assumption
    · cases h
theorem err_open {s : St} (h : errS s = 0) (h5 : s.kind = 5) : s.rect = ⟨0, 0, 0, 0⟩ := by
  unfold errS at h
  split at h
  · cases h
  · rename_i hh
    have h2 : mis2 s = false := by
      cases hm : mis2 s
      · rfl
      · exact absurd (by rw [hm, Bool.or_true]) hh
    unfold mis2 at h2
    rw [h5] at h2
    cases hr : s.rect.eqb Re.none
    · rw [hr] at h2; simp at h2
    · unfold Re.eqb at hr
      obtain ⟨a, b, c, d⟩ := eq4_iff.1 hr
      cases hq : s.rect with
      | mk x y wd ht =>
        rw [hq] at a b c d
        simp only [Re.none] at a b c d
        rw [a, b, c, d]
theorem may_bd {q : Re} (h : mayR q = true) : -16384 ≤ q.x ∧ q.x ≤ 16384 ∧ -16384 ≤ q.y ∧ q.y ≤ 16384 ∧ 0 ≤ q.wd ∧ q.wd ≤ 32768 ∧ 0 ≤ q.ht ∧ q.ht ≤ 32768 := by
  unfold mayR spanB at h
  simp only [Bool.and_eq_true] at h
  obtain ⟨⟨h1, h2, h3⟩, ⟨h4, h5, h6⟩⟩ := h
  have := inB_iff.1 h1
  have := sdB_iff.1 h2
  have := inB_iff.1 h4
  have := sdB_iff.1 h5
  omega
theorem may_not {q : Re} (h : q.x < -16384 ∨ 16384 < q.x ∨ q.y < -16384 ∨ 16384 < q.y) : mayR q = false := by
  cases e : mayR q
  · rfl
  · have := may_bd e; omega
def farB (px py : Int) : Prop := px > 32768 ∨ px < -32768 ∨ py > 32768 ∨ py < -32768
theorem cl_bd (n : Int) : -32769 ≤ cl n ∧ cl n ≤ 32769 := by unfold cl; omega
theorem far_not {px py : Int} {s : St} (h : farB px py) (h1 : errS s = 0) (h5 : s.kind ≠ 5) : mayR (mvS px py s).rect = false := by
  have hb := may_bd (err_may h1)
  unfold mvS
  rw [if_neg h5]
  apply may_not
  simp only [mvR, cl]
  unfold farB at h
  omega
theorem near_cl {px py : Int} (h : ¬ farB px py) : cl px = px ∧ cl py = py := by
  unfold farB at h; unfold cl; omega
theorem open_may {px py : Int} {s : St} (h1 : errS s = 0) (h5 : s.kind = 5) : mayR (mvS px py s).rect = true := by
  unfold mvS
  rw [if_pos h5]
  exact err_may h1
theorem flat_set {α : Type} {enc : α → List Value} {sz : Nat} (he : ∀ y, (enc y).length = sz) (i : Nat) (u : Value) (y y' : α) (hi : i < sz) (h : (enc y).set i u = enc y') : ∀ (ys : List α) (k : Nat), ys[k]? = some y → (ys.flatMap enc).set (k * sz + i) u = (ys.set k y').flatMap enc
  | [], k, hk => by simp at hk
  | z :: ys, 0, hk => by
    simp at hk; subst hk
    rw [List.flatMap_cons, List.set_cons_zero, List.flatMap_cons, List.set_append, if_pos (by rw [he]; omega), Nat.zero_mul, Nat.zero_add, h]
  | z :: ys, k + 1, hk => by
    rw [List.flatMap_cons, List.set_cons_succ, List.flatMap_cons, List.set_append, if_neg (by rw [he, Nat.add_mul]; omega), he, ← flat_set he i u y y' hi h ys k (by simpa using hk)]
    congr 2
    rw [Nat.add_mul]; omega
theorem own_put {w : World} {base g n cap k sz : Nat} {e : TypeId} {cs : List Value} (h : w.ownsRow base e sz (.slice (some ⟨g, 0, none⟩) n cap) n cs) (hk : k < n * sz) (u : Value) : (w.setCell ⟨g, k, none⟩ u).ownsRow base e sz (.slice (some ⟨g, 0, none⟩) n cap) n (cs.set k u) := by
  obtain ⟨hl, h2⟩ := h
  rcases h2 with ⟨h0, _⟩ | ⟨g', cap', cur, hv, hg, hh, hnc, hcm, hcur, htake⟩
  · cases h0
  · injection hv with hv _ hc
    injection hv with hv
    injection hv with hv _ _
    subst hv
    subst hc
    refine ⟨by rw [List.length_set]; exact hl, .inr ⟨g, cap, _, rfl, hg, heap_setCell_same _ _ _ _ _ _ hh, hnc, hcm, by simpa using hcur, ?_⟩⟩
    rw [Array.toList_setIfInBounds, ← htake, List.take_set]
theorem own_smem {w : World} {base g n cap k : Nat} {xs : List St} {s : St} (h : Owns base w (.slice (some ⟨g, 0, none⟩) n cap) xs) (hs : xs[k]? = some s) : SMem w g (k * 15) s := by
  obtain ⟨b, o, cap', e, _, _, _, hx⟩ := row_st (h.row (Nat.le_refl _)) (by have := (List.getElem?_eq_some_iff.1 hs).1; omega)
  injection e with e _ _
  injection e with e
  injection e with e1 e2 _
  subst e1
  subst e2
  have := hx k s hs
  rwa [Nat.zero_add] at this
theorem own_free {w : World} {base g n cap : Nat} {e : TypeId} {sz : Nat} {cs : List Value} (h : w.ownsRow base e sz (.slice (some ⟨g, 0, none⟩) n cap) n cs) (o : Nat) : w.frozen? ⟨g, o, none⟩ = false := by
  rcases h.2 with ⟨h0, _⟩ | ⟨g', cap', cur, hv, hg, hh, _⟩
  · cases h0
  · injection hv with hv _ hc
    injection hv with hv
    injection hv with hv _ _
    subst hv
    simp [World.frozen?, hh]
end Go.Proofs.Ytkmofpnefjgnkaa
