/-
  Join of both texts.
-/
import Derived.Test.YtkmofpnefjgnkaaLisL
namespace Go.Proofs.Ytkmofpnefjgnkaa
open Go.RowKit
set_option linter.unusedVariables false
attribute [local go_sem] vwp vUpon_value vUpon_skip vUpon_enter vUpon_row
set_option linter.unusedSimpArgs false
set_option linter.unusedVariables false
def joinE (xs ys : List St) : Int := if chkL xs ≠ 0 then chkL xs else if chkL ys ≠ 0 then chkL ys else if xs.length + ys.length > 16384 then 4 else 0
def joinL (xs ys : List St) : List St := if joinE xs ys = 0 then xs ++ ys else []
/-- What a call tells that hands out a list and an error. -/
def OutU (base : Nat) (l : List St) (er : Int) (w : World) (e : Ending) (w' : World) : Prop := Below base w w' ∧ ∃ v, e = .returned (.tuple #[v, .int .i64 er]) ∧ Owns base w' v l
theorem chk_len {xs : List St} (h : chkL xs = 0) : xs.length ≤ 16384 := by
  unfold chkL at h; split at h
  · cases h
  · omega
theorem join_a {xs ys : List St} (c1 : chkL xs ≠ 0) : joinE xs ys = chkL xs ∧ joinL xs ys = [] := by
  have e1 : joinE xs ys = chkL xs := by unfold joinE; rw [if_pos c1]
  exact ⟨e1, by unfold joinL; rw [if_neg (by rw [e1]; exact c1)]⟩
theorem join_b {xs ys : List St} (c1 : chkL xs = 0) (c2 : chkL ys ≠ 0) : joinE xs ys = chkL ys ∧ joinL xs ys = [] := by
  have e1 : joinE xs ys = chkL ys := by unfold joinE; rw [if_neg (by simp [c1]), if_pos c2]
  exact ⟨e1, by unfold joinL; rw [if_neg (by rw [e1]; exact c2)]⟩
theorem join_c {xs ys : List St} (c1 : chkL xs = 0) (c2 : chkL ys = 0) (c3 : xs.length + ys.length > 16384) : joinE xs ys = 4 ∧ joinL xs ys = [] := by
  have e1 : joinE xs ys = 4 := by unfold joinE; rw [if_neg (by simp [c1]), if_neg (by simp [c2]), if_pos c3]
  exact ⟨e1, by unfold joinL; rw [if_neg (by rw [e1]; decide)]⟩
theorem join_d {xs ys : List St} (c1 : chkL xs = 0) (c2 : chkL ys = 0) (c3 : ¬ xs.length + ys.length > 16384) : joinE xs ys = 0 ∧ joinL xs ys = xs ++ ys := by
  have e1 : joinE xs ys = 0 := by unfold joinE; rw [if_neg (by simp [c1]), if_neg (by simp [c2]), if_neg c3]
  exact ⟨e1, by unfold joinL; rw [if_pos e1]⟩
set_option maxHeartbeats 1000000 in
set_option maxRecDepth 100000 in
theorem rjoin_any (xs ys : List St) (v1 v2 : Value) (w : World) (h1 : Row w.heap.size 15 St.enc w v1 xs) (h2 : Row w.heap.size 15 St.enc w v2 ys) (k1 : ∀ s ∈ xs, s.Wf) (k2 : ∀ s ∈ ys, s.Wf) : Calls Try.prog 9 #[v1, v2] w (OutU w.heap.size (joinL xs ys) (joinE xs ys) w) := by
  obtain ⟨iM, hi0, hm0, hm1, hm2⟩ := info_parts infoSt
  have C1 := fun w' (hb : Below w.heap.size w w') => rcheck_any xs v1 w' ((h1.below hb).mono hb.size) k1
  have C2 := fun w' (hb : Below w.heap.size w w') => rcheck_any ys v2 w' ((h2.below hb).mono hb.size) k2
  obtain ⟨s1, cc1, rfl, hmax1⟩ := h1.shape
  obtain ⟨s2, cc2, rfl, hmax2⟩ := h2.shape
  replace h1 := Lib.hid h1
  replace h2 := Lib.hid h2
  clear k1 k2
  obtain ⟨n, en⟩ : ∃ n, xs.length = n := ⟨_, rfl⟩
  obtain ⟨m, em⟩ : ∃ n, ys.length = n := ⟨_, rfl⟩
  by_cases c1 : chkL xs = 0
  · have l1 := chk_len c1
    by_cases c2 : chkL ys = 0
    · have l2 := chk_len c2
      by_cases c3 : xs.length + ys.length > 16384
      · rw [(join_c c1 c2 c3).1, (join_c c1 c2 c3).2]
        rw [en, em] at c3
        rw [en] at l1
        rw [em] at l2
        rw [c1] at C1
        rw [c2] at C2
        rw [en] at C1 hmax1 ⊢
        rw [em] at C2 hmax2 ⊢
        replace C1 := Lib.hid C1
        replace C2 := Lib.hid C2
        replace en := Lib.hid en
        replace em := Lib.hid em
        clear c1 c2
        go_enter Try.func9, Try.ntmps9
        go_wp2_with (first
          | (go_at_call 36; (with_reducible refine (C1.out _ (by repeat (first | exact Below.refl _ _ | assumption | refine Below.drew ?_ | refine Below.alloc ?_ (by (try simp) <;> omega) _ | refine Below.setCell ?_ (by (try simp) <;> omega) _ | (refine Below.trans ?_ (Below.mono (by assumption) (by (try simp) <;> omega)))))).mono ?_); rintro e w3 ⟨rfl, hb3⟩; have z3 := hb3.size)
          | (go_at_call 36; (with_reducible refine (C2.out _ (by repeat (first | exact Below.refl _ _ | assumption | refine Below.drew ?_ | refine Below.alloc ?_ (by (try simp) <;> omega) _ | refine Below.setCell ?_ (by (try simp) <;> omega) _ | (refine Below.trans ?_ (Below.mono (by assumption) (by (try simp) <;> omega)))))).mono ?_); rintro e w4 ⟨rfl, hb4⟩)
          | go_in)
        go_ret2
        exact ⟨(by repeat (first | exact Below.refl _ _ | assumption | refine Below.drew ?_ | refine Below.alloc ?_ (by (try simp) <;> omega) _ | refine Below.setCell ?_ (by (try simp) <;> omega) _ | (refine Below.trans ?_ (Below.mono (by assumption) (by (try simp) <;> omega))))), _, rfl, Owns.nil _ _⟩
      · rw [(join_d c1 c2 c3).1, (join_d c1 c2 c3).2]
        rw [en, em] at c3
        rw [en] at l1
        rw [em] at l2
        rw [c1] at C1
        rw [c2] at C2
        rw [en] at C1 hmax1 ⊢
        rw [em] at C2 hmax2 ⊢
        replace C1 := Lib.hid C1
        replace C2 := Lib.hid C2
        replace en := Lib.hid en
        replace em := Lib.hid em
        clear c1 c2
        have en' := en.out
        have em' := em.out
        have hnil : ∀ w', World.ownsRow w' w.heap.size 45 15 (.slice none 0 0) 0 [] := fun w' => World.ownsRow_nil _ _ _ _
        go_enter Try.func9, Try.ntmps9
        go_wp2_with (first
          | (go_at_call 36; (with_reducible refine (C1.out _ (by repeat (first | exact Below.refl _ _ | assumption | refine Below.drew ?_ | refine Below.alloc ?_ (by (try simp) <;> omega) _ | refine Below.setCell ?_ (by (try simp) <;> omega) _ | (refine Below.trans ?_ (Below.mono (by assumption) (by (try simp) <;> omega)))))).mono ?_); rintro e w3 ⟨rfl, hb3⟩; have z3 := hb3.size)
          | (go_at_call 36; (with_reducible refine (C2.out _ (by repeat (first | exact Below.refl _ _ | assumption | refine Below.drew ?_ | refine Below.alloc ?_ (by (try simp) <;> omega) _ | refine Below.setCell ?_ (by (try simp) <;> omega) _ | (refine Below.trans ?_ (Below.mono (by assumption) (by (try simp) <;> omega)))))).mono ?_); rintro e w4 ⟨rfl, hb4⟩; have hb04 : Below w.heap.size w w4 := (by repeat (first | exact Below.refl _ _ | assumption | refine Below.drew ?_ | refine Below.alloc ?_ (by (try simp) <;> omega) _ | refine Below.setCell ?_ (by (try simp) <;> omega) _ | (refine Below.trans ?_ (Below.mono (by assumption) (by (try simp) <;> omega))))); have z4 := hb04.size; have hrow : Row w.heap.size 15 St.enc w4 (.slice s1 n cc1) xs := (by have := h1.out.below hb04; rw [en'] at this; exact this))
          | (at_builtin; refine wpList_append_row rfl _ _ _ rfl w.heap.size 45 iM _ 15 72 Try.underlying22 hi0 hm0 hm1 hm2 rfl (by omega) w4 _ _ _ (by rfl) (hnil w4) St.enc_len St.enc_one w.heap.size _ xs hrow (by rfl) (by unfold maxLen; omega) (by omega) z4 ?_; intro v5 w5 hown5 hgr5; have hb05 : Below w.heap.size w w5 := hb04.grown hgr5 z4 (fun g hg => by simp [Value.ownBlock] at hg); have hr2 : Row w.heap.size 15 St.enc w5 (.slice s2 m cc2) ys := (by have := h2.out.below hb05; rw [em'] at this; exact this); rw [Nat.zero_add, List.nil_append, en'] at hown5; have z5 := hb05.size)
          | (at_builtin; refine wpList_append_row rfl _ _ _ rfl w.heap.size 45 iM _ 15 72 Try.underlying22 hi0 hm0 hm1 hm2 rfl (by omega) w5 _ _ _ (by rfl) hown5 St.enc_len St.enc_one w.heap.size _ ys hr2 (by rfl) (by unfold maxLen; omega) (by omega) z5 ?_; intro v6 w6 hown6 hgr6)
          | go_in)
        rw [em'] at hown6
        have hb6 : Below w.heap.size w w6 := hb05.grown hgr6 z5 (fun g hg => (hown5.lt g hg).1)
        replace hown6 := Lib.hid hown6
        go_wp2
        go_ret2
        refine ⟨hb6, _, rfl, ?_⟩
        have := hown6.out
        unfold Owns
        rw [List.length_append, List.flatMap_append, en', em']
        exact this
    · have hcb : (chkL ys == 0) = false := by simp [c2]
      rw [(join_b c1 c2).1, (join_b c1 c2).2]
      rw [en] at l1
      rw [c1] at C1
      rw [en] at C1 hmax1 ⊢
      rw [em] at C2 hmax2 ⊢
      replace C1 := Lib.hid C1
      replace C2 := Lib.hid C2
      replace en := Lib.hid en
      replace em := Lib.hid em
      clear c1 c2
      go_enter Try.func9, Try.ntmps9
      go_wp2_with (first
        | (go_at_call 36; (with_reducible refine (C1.out _ (by repeat (first | exact Below.refl _ _ | assumption | refine Below.drew ?_ | refine Below.alloc ?_ (by (try simp) <;> omega) _ | refine Below.setCell ?_ (by (try simp) <;> omega) _ | (refine Below.trans ?_ (Below.mono (by assumption) (by (try simp) <;> omega)))))).mono ?_); rintro e w3 ⟨rfl, hb3⟩; have z3 := hb3.size)
        | (go_at_call 36; (with_reducible refine (C2.out _ (by repeat (first | exact Below.refl _ _ | assumption | refine Below.drew ?_ | refine Below.alloc ?_ (by (try simp) <;> omega) _ | refine Below.setCell ?_ (by (try simp) <;> omega) _ | (refine Below.trans ?_ (Below.mono (by assumption) (by (try simp) <;> omega)))))).mono ?_); rintro e w4 ⟨rfl, hb4⟩)
        | go_in)
      go_ret2
      exact ⟨(by repeat (first | exact Below.refl _ _ | assumption | refine Below.drew ?_ | refine Below.alloc ?_ (by (try simp) <;> omega) _ | refine Below.setCell ?_ (by (try simp) <;> omega) _ | (refine Below.trans ?_ (Below.mono (by assumption) (by (try simp) <;> omega))))), _, rfl, Owns.nil _ _⟩
  · have hcb : (chkL xs == 0) = false := by simp [c1]
    rw [(join_a c1).1, (join_a c1).2]
    rw [en] at C1 hmax1 ⊢
    rw [em] at C2 hmax2 ⊢
    replace C1 := Lib.hid C1
    replace C2 := Lib.hid C2
    replace en := Lib.hid en
    replace em := Lib.hid em
    clear c1
    go_enter Try.func9, Try.ntmps9
    go_wp2_with (first
      | (go_at_call 36; (with_reducible refine (C1.out _ (by repeat (first | exact Below.refl _ _ | assumption | refine Below.drew ?_ | refine Below.alloc ?_ (by (try simp) <;> omega) _ | refine Below.setCell ?_ (by (try simp) <;> omega) _ | (refine Below.trans ?_ (Below.mono (by assumption) (by (try simp) <;> omega)))))).mono ?_); rintro e w3 ⟨rfl, hb3⟩; have z3 := hb3.size)
      | (go_at_call 36; (with_reducible refine (C2.out _ (by repeat (first | exact Below.refl _ _ | assumption | refine Below.drew ?_ | refine Below.alloc ?_ (by (try simp) <;> omega) _ | refine Below.setCell ?_ (by (try simp) <;> omega) _ | (refine Below.trans ?_ (Below.mono (by assumption) (by (try simp) <;> omega)))))).mono ?_); rintro e w4 ⟨rfl, hb4⟩)
      | go_in)
    go_ret2
    exact ⟨(by repeat (first | exact Below.refl _ _ | assumption | refine Below.drew ?_ | refine Below.alloc ?_ (by (try simp) <;> omega) _ | refine Below.setCell ?_ (by (try simp) <;> omega) _ | (refine Below.trans ?_ (Below.mono (by assumption) (by (try simp) <;> omega))))), _, rfl, Owns.nil _ _⟩
end Go.Proofs.Ytkmofpnefjgnkaa
