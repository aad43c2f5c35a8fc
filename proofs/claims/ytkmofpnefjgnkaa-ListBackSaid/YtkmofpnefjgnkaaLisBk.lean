/-
  A list moved and moved back; in one's own rectangle: plain.
-/
import Derived.Test.YtkmofpnefjgnkaaLisFl
import Derived.Test.YtkmofpnefjgnkaaLisNo
namespace Go.Proofs.Ytkmofpnefjgnkaa
open Go.RowKit
set_option linter.unusedVariables false
attribute [local go_sem] vwp vUpon_value vUpon_skip vUpon_enter vUpon_row
set_option linter.unusedSimpArgs false
set_option linter.unusedVariables false
theorem mvS_kind (px py : Int) (s : St) : (mvS px py s).kind = s.kind := by
  unfold mvS; split <;> rfl
theorem opn_mv (px py o : Int) (s : St) : opn o (mvS px py s) = opn o s := by
  unfold opn; rw [mvS_kind]
theorem mis_mv {px py : Int} {s : St} : mis1 (mvS px py s) = mis1 s ∧ (s.kind ≠ 5 → mis2 (mvS px py s) = mis2 s) := by
  unfold mvS
  by_cases h : s.kind = 5
  · rw [if_pos h]; exact ⟨rfl, fun h' => absurd h h'⟩
  · rw [if_neg h]
    refine ⟨rfl, fun _ => ?_⟩
    unfold mis2
    have hb : (s.kind == 5) = false := by simp [h]
    simp only [hb, Bool.false_and, Bool.or_false]
theorem err_mv {px py : Int} {s : St} (h : errS s = 0) (hm : mayR (mvS px py s).rect = true) : errS (mvS px py s) = 0 := by
  by_cases h5 : s.kind = 5
  · rw [mvS_eq h5]; exact h
  · unfold errS at h ⊢
    rw [mis_mv.1, mis_mv.2 h5]
    split at h
    · cases h
    · rename_i hh
      rw [if_neg hh, hm]; rfl
theorem go_mv {px py : Int} : ∀ (xs : List St) (o : Int), chkGo o xs = 0 → (∀ s ∈ xs, mayR (mvS px py s).rect = true) → chkGo o (xs.map (mvS px py)) = 0
  | [], o, h, _ => h
  | s :: xs, o, h, hm => by
    rw [chkGo] at h
    rw [List.map_cons, chkGo]
    by_cases h1 : errS s = 0
    · rw [if_neg (by simp [h1])] at h
      rw [if_neg (by simp [err_mv h1 (hm s (by simp))]), opn_mv]
      split at h
      · cases h
      · rename_i h2
        rw [if_neg h2]
        exact go_mv xs _ h (fun t ht => hm t (by simp [ht]))
    · rw [if_pos h1] at h; exact absurd h h1
theorem chk_first {xs : List St} (h : chkL xs = 0) (hne : xs ≠ []) : ∃ s ∈ xs, s.kind ≠ 5 := by
  cases xs with
  | nil => exact absurd rfl hne
  | cons s xs =>
    have hg := chk_go h
    obtain ⟨_, h2, _⟩ := chk_cons (k := 0) (xs := s :: xs) rfl hg
    refine ⟨s, by simp, fun h5 => h2 ?_⟩
    unfold opn
    rw [if_neg (by omega), if_pos h5]; omega
theorem mvE_ok {px py : Int} {xs : List St} (h : mvE px py xs = 0) : chkL xs = 0 ∧ okL px py xs = true ∧ mvL px py xs = xs.map (mvS px py) := by
  have c : chkL xs = 0 := by
    by_cases c : chkL xs = 0
    · exact c
    · rw [(mv_a (px := px) (py := py) c).1] at h; exact absurd h c
  cases hk : okL px py xs
  · rw [(mv_b (px := px) (py := py) c hk).1] at h; cases h
  · exact ⟨c, rfl, (mv_c c hk).2⟩
theorem mv_near {px py : Int} {xs : List St} (h : mvE px py xs = 0) (hne : xs ≠ []) : ¬ farB px py := by
  obtain ⟨c, ok, _⟩ := mvE_ok h
  intro hf
  obtain ⟨s, hs, h5⟩ := chk_first c hne
  have := far_not hf (chk_mem c s hs) h5
  unfold okL at ok
  rw [List.all_eq_true] at ok
  rw [ok s hs] at this
  cases this
theorem mv_back1 {px py : Int} (hf : ¬ farB px py) (s : St) : mvS (-px) (-py) (mvS px py s) = s := by
  by_cases h5 : s.kind = 5
  · rw [mvS_eq h5, mvS_eq h5]
  · obtain ⟨e1, e2⟩ := near_cl hf
    have hf' : ¬ farB (-px) (-py) := by unfold farB at hf ⊢; omega
    obtain ⟨e3, e4⟩ := near_cl hf'
    have hk : (mvS px py s).kind ≠ 5 := by rw [mvS_kind]; exact h5
    rw [mvS_ne hk, e3, e4, mvS_ne h5, e1, e2]
    obtain ⟨k, ⟨x, y, a, b⟩, c, d, t, n⟩ := s
    simp only [Int.add_neg_cancel_right]
theorem mv_back {px py : Int} {xs : List St} (h : mvE px py xs = 0) (hne : xs ≠ []) : mvE (-px) (-py) (mvL px py xs) = 0 ∧ mvL (-px) (-py) (mvL px py xs) = xs := by
  obtain ⟨c, ok, e⟩ := mvE_ok h
  have hf := mv_near h hne
  have hm : ∀ s ∈ xs, mayR (mvS px py s).rect = true := by
    unfold okL at ok; rw [List.all_eq_true] at ok; exact ok
  have hl := chk_len c
  have c2 : chkL (mvL px py xs) = 0 := by
    rw [e]
    unfold chkL
    rw [if_neg (by rw [List.length_map]; omega)]
    exact go_mv xs 0 (chk_go c) hm
  have hmap : (mvL px py xs).map (mvS (-px) (-py)) = xs := by
    rw [e, List.map_map]
    conv => rhs; rw [← List.map_id xs]
    apply List.map_congr_left
    intro s _
    exact mv_back1 hf s
  have ok2 : okL (-px) (-py) (mvL px py xs) = true := by
    unfold okL
    rw [List.all_eq_true]
    intro t ht
    rw [e] at ht
    obtain ⟨s, hs, rfl⟩ := List.mem_map.1 ht
    rw [mv_back1 hf s]
    exact err_may (chk_mem c s hs)
  obtain ⟨e1, e2⟩ := mv_c c2 ok2
  exact ⟨e1, by rw [e2, hmap]⟩
theorem mv_wf {px py : Int} {xs : List St} (h : mvE px py xs = 0) (hw : ∀ s ∈ xs, s.Wf) : ∀ s ∈ mvL px py xs, s.Wf := by
  obtain ⟨c, ok, e⟩ := mvE_ok h
  intro t ht
  rw [e] at ht
  obtain ⟨s, hs, rfl⟩ := List.mem_map.1 ht
  have hm : mayR (mvS px py s).rect = true := by
    unfold okL at ok; rw [List.all_eq_true] at ok; exact ok s hs
  obtain ⟨w1, w2, w3, w4, w5, w6⟩ := hw s hs
  by_cases h5 : s.kind = 5
  · rw [mvS_eq h5]; exact ⟨w1, w2, w3, w4, w5, w6⟩
  · rw [mvS_ne h5] at hm ⊢
    exact ⟨w1, may_wf hm, w3, w4, w5, w6⟩
theorem from_self {x y a b : Int} (ha : 0 < a) (hb : 0 < b) : fromR x y (x + a) (y + b) = ⟨x, y, a, b⟩ := by
  unfold fromR
  rw [if_neg (by omega)]
  simp only [show x + a - x = a by omega, show y + b - y = b by omega]
theorem Re.eqb_refl (q : Re) : q.eqb q = true := by simp [Re.eqb, eq4]
theorem meet_full {p q : Re} (h1 : emptyR p = false) (h2 : emptyR q = false) : meetR p q = fromR (max p.x q.x) (max p.y q.y) (min (p.x + p.wd) (q.x + q.wd)) (min (p.y + p.ht) (q.y + q.ht)) := by
  unfold meetR
  rw [h1, h2]
  rfl
/-- What one shows in lies in it. -/
theorem sh_in {M : List Re} {s : St} (hM : ∀ q ∈ M, mayR q = true) (hs : mayR s.rect = true) : inR (shR M s) s.rect = true := by
  unfold inR
  cases he : emptyR (shR M s)
  · rw [Bool.false_or]
    have hq : shR M s = shQ M s := by
      unfold shR at he ⊢
      split at he
      · rw [Re.none_empty] at he; cases he
      · rename_i h; rw [if_neg h]
    rw [hq] at he ⊢
    obtain ⟨m1, a1, b1⟩ := full_bd he
    have key : meetR (shQ M s) s.rect = shQ M s := by
      unfold shQ at he a1 b1 ⊢
      cases hl : M.getLast? with
      | none =>
        rw [hl] at he a1 b1
        simp only at he a1 b1 ⊢
        unfold meetR
        rw [he, if_neg (by simp)]
        rw [Int.max_self, Int.max_self, Int.min_self, Int.min_self, from_self a1 b1]
      | some t =>
        rw [hl] at he a1 b1
        simp only at he a1 b1 ⊢
        have hne : emptyR s.rect = false ∧ emptyR t = false := by
          unfold meetR at he
          cases e1 : emptyR s.rect <;> cases e2 : emptyR t <;> rw [e1, e2] at he <;> first | exact ⟨rfl, rfl⟩ | (simp [Re.none_empty] at he)
        have hform := meet_full hne.1 hne.2
        have h2 := meet_full he hne.1
        rw [h2]
        rw [hform] at a1 b1 ⊢
        unfold fromR at a1 b1 ⊢
        by_cases hc : min (s.rect.x + s.rect.wd) (t.x + t.wd) ≤ max s.rect.x t.x ∨ min (s.rect.y + s.rect.ht) (t.y + t.ht) ≤ max s.rect.y t.y
        · rw [if_pos hc] at a1; simp [Re.none] at a1
        · rw [if_neg hc]
          simp only
          rw [if_neg (by omega)]
          simp only [Re.mk.injEq]
          omega
    rw [key, Re.eqb_refl]
  · rfl
theorem sh_all : ∀ (xs : List St) (M : List Re), (∀ q ∈ M, mayR q = true) → (∀ s ∈ xs, mayR s.rect = true) → ∀ (i : Nat) s q, xs[i]? = some s → (shGo M xs)[i]? = some q → inR q s.rect = true
  | [], _, _, _, i, s, q, h, _ => by simp at h
  | x :: xs, M, hM, hx, 0, s, q, h, h2 => by
    simp [shGo] at h h2
    subst h; subst h2
    exact sh_in hM (hx x (by simp))
  | x :: xs, M, hM, hx, i + 1, s, q, h, h2 => by
    simp [shGo] at h h2
    exact sh_all xs _ (shN_may hM (hx x (by simp))) (fun t ht => hx t (by simp [ht])) i s q h h2
theorem same_back (xs ys : List St) : sameL xs (xs ++ ys) = decide (ys.length = 0) := by
  by_cases h : ys.length = 0
  · have : ys = [] := List.length_eq_zero_iff.1 h
    subst this
    rw [List.append_nil, sameL_refl]; simp
  · rw [sameL_len (by rw [List.length_append]; omega)]
    simp [h]
theorem kind_err {s : St} (h : errS s = 0) : drB s = true ∨ s.kind = 4 ∨ s.kind = 5 := by
  unfold errS at h
  split at h
  · cases h
  · rename_i hh
    have h1 : mis1 s = false := by
      cases hm : mis1 s
      · rfl
      · exact absurd (by rw [hm, Bool.true_or]) hh
    unfold mis1 at h1
    simp only [Bool.or_eq_false_iff, decide_eq_false_iff_not] at h1
    unfold drB
    simp only [decide_eq_true_eq]
    omega
end Go.Proofs.Ytkmofpnefjgnkaa
