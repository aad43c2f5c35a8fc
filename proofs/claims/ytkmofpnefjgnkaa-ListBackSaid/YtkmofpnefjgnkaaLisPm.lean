/-
  Where a stroke shows, within a rectangle: list.places.
-/
import Derived.Test.YtkmofpnefjgnkaaLisPl
namespace Go.Proofs.Ytkmofpnefjgnkaa
open Go.RowKit
set_option linter.unusedVariables false
attribute [local go_sem] vwp vUpon_value vUpon_skip vUpon_enter vUpon_row
set_option linter.unusedSimpArgs false
set_option linter.unusedVariables false
attribute [local go_sem high] eql_rect neq_rect
set_option maxHeartbeats 2000000 in
set_option maxRecDepth 100000 in
theorem places_any (s : St) (q : Re) (w : World) (hs : s.Wf) (hm : mayR s.rect = true) (hq : mayR q = true) : Calls Try.prog 46 #[.agg #[.int .u8 (s).kind, .int .i64 (s).rect.x, .int .i64 (s).rect.y, .int .i64 (s).rect.wd, .int .i64 (s).rect.ht, .int .u8 (s).col.r, .int .u8 (s).col.g, .int .u8 (s).col.b, .int .u8 (s).col.a, .int .u8 (s).back.r, .int .u8 (s).back.g, .int .u8 (s).back.b, .int .u8 (s).back.a, .string (s).text, .int .i64 (s).node], .agg #[.int .i64 (q).x, .int .i64 (q).y, .int .i64 (q).wd, .int .i64 (q).ht]] w fun e w' => ∃ v, e = .returned v ∧ OwnsR w.heap.size w' v (plcL s q) ∧ Below w.heap.size w w' := by
  obtain ⟨kd, ⟨x, y, wd, ht⟩, ⟨cr, cg, cb, ca⟩, bk, tx, nd⟩ := s
  have D := fun w => draws_any ⟨kd, ⟨x, y, wd, ht⟩, ⟨cr, cg, cb, ca⟩, bk, tx, nd⟩ w hs.1
  simp only at D hm ⊢
  obtain ⟨P, hP⟩ : ∃ P, plcL ⟨kd, ⟨x, y, wd, ht⟩, ⟨cr, cg, cb, ca⟩, bk, tx, nd⟩ q = P := ⟨_, rfl⟩
  rw [hP]
  unfold plcL drB at hP
  cases h1' : q.eqb Re.none
  · have h1 : eq4 q.x q.y q.wd q.ht 0 0 0 0 = false := h1'
    simp only at hP
    cases hd : decide (kd ≤ 3)
    · rw [h1', hd] at hP
      simp at hP
      subst hP
      clear h1'
      rw [hd] at D
      replace D := Lib.hid D
      clear hd
      go_enter Try.func46, Try.ntmps46
      go_wp2_with (first | (go_at_call 43; (with_reducible refine (D.out _).mono ?_); rintro e w4 ⟨rfl, hb4⟩; obtain ⟨hc4, hf4⟩ := bcell hb4; have z4 := hb4.size; (try simp at z4); have l0 : w.heap.size < w4.heap.size := (by omega); have l1 : w.heap.size + 1 < w4.heap.size := (by omega)) | go_in)
      go_ret
      exact ⟨_, rfl, World.ownsRow_nil _ _ _ _, (by repeat (first | exact Below.refl _ _ | assumption | refine Below.drew ?_ | refine Below.alloc ?_ (by (try simp) <;> omega) _ | refine Below.setCell ?_ (by (try simp) <;> omega) _ | (refine Below.trans ?_ (Below.mono (by assumption) (by (try simp) <;> omega)))))⟩
    · rw [h1', hd] at hP
      clear h1'
      simp only [Bool.not_true, Bool.or_self, Bool.false_eq_true, if_false] at hP
      rw [hd] at D
      replace D := Lib.hid D
      by_cases h3 : kd = 3
      · rw [if_pos h3] at hP
        subst h3
        by_cases htx : tx.toList = []
        · rw [if_pos htx] at hP
          subst hP
          clear hd
          go_enter Try.func46, Try.ntmps46
          go_wp2_with (first | (go_at_call 43; (with_reducible refine (D.out _).mono ?_); rintro e w4 ⟨rfl, hb4⟩; obtain ⟨hc4, hf4⟩ := bcell hb4; have z4 := hb4.size; (try simp at z4); have l0 : w.heap.size < w4.heap.size := (by omega); have l1 : w.heap.size + 1 < w4.heap.size := (by omega)) | go_in)
          go_ret
          exact ⟨_, rfl, World.ownsRow_nil _ _ _ _, (by repeat (first | exact Below.refl _ _ | assumption | refine Below.drew ?_ | refine Below.alloc ?_ (by (try simp) <;> omega) _ | refine Below.setCell ?_ (by (try simp) <;> omega) _ | (refine Below.trans ?_ (Below.mono (by assumption) (by (try simp) <;> omega)))))⟩
        · rw [if_neg htx] at hP
          subst hP
          have ht2 : (tx.toList == []) = false := by simpa using htx
          clear hd
          go_enter Try.func46, Try.ntmps46
          go_wp2_with (first | (go_at_call 43; (with_reducible refine (D.out _).mono ?_); rintro e w4 ⟨rfl, hb4⟩; obtain ⟨hc4, hf4⟩ := bcell hb4; have z4 := hb4.size; (try simp at z4); have l0 : w.heap.size < w4.heap.size := (by omega); have l1 : w.heap.size + 1 < w4.heap.size := (by omega)) | go_in)
          go_ret
          exact ⟨_, rfl, ownR_one q (by omega), (by repeat (first | exact Below.refl _ _ | assumption | refine Below.drew ?_ | refine Below.alloc ?_ (by (try simp) <;> omega) _ | refine Below.setCell ?_ (by (try simp) <;> omega) _ | (refine Below.trans ?_ (Below.mono (by assumption) (by (try simp) <;> omega)))))⟩
      · rw [if_neg h3] at hP
        have h3b : (kd == 3) = false := by simp [h3]
        by_cases ha : ca = 0
        · rw [if_pos ha] at hP
          subst ha
          subst hP
          clear hd
          go_enter Try.func46, Try.ntmps46
          go_wp2_with (first | (go_at_call 43; (with_reducible refine (D.out _).mono ?_); rintro e w4 ⟨rfl, hb4⟩; obtain ⟨hc4, hf4⟩ := bcell hb4; have z4 := hb4.size; (try simp at z4); have l0 : w.heap.size < w4.heap.size := (by omega); have l1 : w.heap.size + 1 < w4.heap.size := (by omega)) | go_in)
          go_ret
          exact ⟨_, rfl, World.ownsRow_nil _ _ _ _, (by repeat (first | exact Below.refl _ _ | assumption | refine Below.drew ?_ | refine Below.alloc ?_ (by (try simp) <;> omega) _ | refine Below.setCell ?_ (by (try simp) <;> omega) _ | (refine Below.trans ?_ (Below.mono (by assumption) (by (try simp) <;> omega)))))⟩
        · rw [if_neg ha] at hP
          have hab : (ca == 0) = false := by simp [ha]
          by_cases h1k : kd = 1
          · rw [if_pos h1k] at hP
            subst h1k
            subst hP
            clear hd
            go_enter Try.func46, Try.ntmps46
            go_wp2_with (first | (go_at_call 43; (with_reducible refine (D.out _).mono ?_); rintro e w4 ⟨rfl, hb4⟩; obtain ⟨hc4, hf4⟩ := bcell hb4; have z4 := hb4.size; (try simp at z4); have l0 : w.heap.size < w4.heap.size := (by omega); have l1 : w.heap.size + 1 < w4.heap.size := (by omega)) | go_in)
            go_ret
            exact ⟨_, rfl, ownR_one q (by omega), (by repeat (first | exact Below.refl _ _ | assumption | refine Below.drew ?_ | refine Below.alloc ?_ (by (try simp) <;> omega) _ | refine Below.setCell ?_ (by (try simp) <;> omega) _ | (refine Below.trans ?_ (Below.mono (by assumption) (by (try simp) <;> omega)))))⟩
          · rw [if_neg h1k] at hP
            have h1b : (kd == 1) = false := by simp [h1k]
            subst hP
            exact places_fr kd x y wd ht cr cg cb ca bk tx nd q w D hab h3b h1b h1 hm hq
  · have h1 : eq4 q.x q.y q.wd q.ht 0 0 0 0 = true := h1'
    rw [h1'] at hP
    simp at hP
    subst hP
    clear h1'
    go_enter Try.func46, Try.ntmps46
    go_wp2
    go_ret
    exact ⟨_, rfl, World.ownsRow_nil _ _ _ _, (by repeat (first | exact Below.refl _ _ | assumption | refine Below.drew ?_ | refine Below.alloc ?_ (by (try simp) <;> omega) _ | refine Below.setCell ?_ (by (try simp) <;> omega) _ | (refine Below.trans ?_ (Below.mono (by assumption) (by (try simp) <;> omega)))))⟩
end Go.Proofs.Ytkmofpnefjgnkaa
