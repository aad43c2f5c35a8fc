/-
  XGo: XLisRc.
-/
import Derived.Test.YtkmofpnefjgnkaaGreatGn
import Derived.Test.YtkmofpnefjgnkaaGreatAlo
namespace Go.Proofs.YtkmofpnefjgnkaaGreat
open Go.RowKit
set_option linter.unusedVariables false
attribute [local go_sem] vwp vUpon_value vUpon_skip vUpon_enter vUpon_row
set_option linter.unusedSimpArgs false
set_option linter.unusedVariables false
section
set_option linter.unusedSimpArgs false
set_option linter.unusedVariables false
attribute [local go_sem high] eql_rect neq_rect
theorem kdraws_any (s : St) (w : World) (h : U8 s.kind) : Calls Tryz.prog 25 #[.agg #[.int .u8 (s).kind, .int .i64 (s).rect.x, .int .i64 (s).rect.y, .int .i64 (s).rect.wd, .int .i64 (s).rect.ht, .int .u8 (s).col.r, .int .u8 (s).col.g, .int .u8 (s).col.b, .int .u8 (s).col.a, .int .u8 (s).back.r, .int .u8 (s).back.g, .int .u8 (s).back.b, .int .u8 (s).back.a, .string (s).text, .int .i64 (s).node]] w fun e w' => e = .returned (.bool (decide (s.kind ≤ 3))) ∧ Below w.heap.size w w' := by
  obtain ⟨kd, ⟨x, y, wd, ht⟩, ⟨cr, cg, cb, ca⟩, ⟨br, bg, bb, ba⟩, tx, nd⟩ := s
  simp only at h ⊢
  obtain ⟨h1, h2⟩ := h
  by_cases c : kd < 4
  · rw [show decide (kd ≤ 3) = true by simp; omega]
    have c1 : decide (kd < 4) = true := by simpa using c
    go_enter Tryz.func25, Tryz.ntmps25
    go_wp2
    go_ret
    exact ⟨rfl, (by repeat (first | exact Below.refl _ _ | assumption | refine Below.drew ?_ | refine Below.alloc ?_ (by (try simp) <;> omega) _ | refine Below.setCell ?_ (by (try simp) <;> omega) _ | (refine Below.trans ?_ (Below.mono (by assumption) (by (try simp) <;> omega)))))⟩
  · rw [show decide (kd ≤ 3) = false by simp; omega]
    have c1 : decide (kd < 4) = false := by simpa using c
    go_enter Tryz.func25, Tryz.ntmps25
    go_wp2
    go_ret
    exact ⟨rfl, (by repeat (first | exact Below.refl _ _ | assumption | refine Below.drew ?_ | refine Below.alloc ?_ (by (try simp) <;> omega) _ | refine Below.setCell ?_ (by (try simp) <;> omega) _ | (refine Below.trans ?_ (Below.mono (by assumption) (by (try simp) <;> omega)))))⟩
theorem from_ok {x y r b : Int} (h1 : x < r) (h2 : y < b) : fromR x y r b = ⟨x, y, r - x, b - y⟩ := by unfold fromR; rw [if_neg (by omega)]
theorem meet_em (p q : Re) : emptyR (meetR p q) = (meetR p q).eqb Re.none := by
  unfold meetR
  split
  · decide
  · rename_i h
    simp only [Bool.or_eq_true, not_or, Bool.not_eq_true] at h
    obtain ⟨m1, a1, a2⟩ := full_bd h.1
    obtain ⟨m2, b1, b2⟩ := full_bd h.2
    have c1 := may_bd m1; have c2 := may_bd m2; have c3 := may_sum m1; have c4 := may_sum m2
    unfold fromR
    split
    · decide
    · rename_i hn
      have hm : mayR ⟨max p.x q.x, max p.y q.y, min (p.x + p.wd) (q.x + q.wd) - max p.x q.x, min (p.y + p.ht) (q.y + q.ht) - max p.y q.y⟩ = true := may_of (by simp only; omega)
      rw [empty_none hm]
      have e1 : noneR ⟨max p.x q.x, max p.y q.y, min (p.x + p.wd) (q.x + q.wd) - max p.x q.x, min (p.y + p.ht) (q.y + q.ht) - max p.y q.y⟩ = false := by
        unfold noneR
        simp only [Bool.or_eq_false_iff, decide_eq_false_iff_not]
        omega
      rw [e1]
      symm
      unfold Re.eqb eq4 Re.none
      simp only [Bool.and_eq_false_iff, beq_eq_false_iff_ne]
      omega
set_option maxHeartbeats 8000000 in
set_option maxRecDepth 100000 in
theorem kplaces_any (s : St) (q : Re) (w : World) (hs : s.Wf) (hm : mayR s.rect = true) (hq : mayR q = true) (hk : 1 ≤ s.kind) (hne : q.eqb Re.none = false → emptyR q = false ∧ emptyR s.rect = false) : Calls Tryz.prog 28 #[.agg #[.int .u8 (s).kind, .int .i64 (s).rect.x, .int .i64 (s).rect.y, .int .i64 (s).rect.wd, .int .i64 (s).rect.ht, .int .u8 (s).col.r, .int .u8 (s).col.g, .int .u8 (s).col.b, .int .u8 (s).col.a, .int .u8 (s).back.r, .int .u8 (s).back.g, .int .u8 (s).back.b, .int .u8 (s).back.a, .string (s).text, .int .i64 (s).node], .agg #[.int .i64 (q).x, .int .i64 (q).y, .int .i64 (q).wd, .int .i64 (q).ht]] w fun e w' => ∃ v, e = .returned v ∧ OwnsR w.heap.size w' v (plcL s q) ∧ Below w.heap.size w w' := by
  have EM := fun w => kempty1_any q w (may_wf hq)
  obtain ⟨kd, ⟨x, y, wd, ht⟩, ⟨cr, cg, cb, ca⟩, bk, tx, nd⟩ := s
  have D := fun w => kdraws_any ⟨kd, ⟨x, y, wd, ht⟩, ⟨cr, cg, cb, ca⟩, bk, tx, nd⟩ w hs.1
  simp only at D hm hk hne ⊢
  obtain ⟨P, hP⟩ : ∃ P, plcL ⟨kd, ⟨x, y, wd, ht⟩, ⟨cr, cg, cb, ca⟩, bk, tx, nd⟩ q = P := ⟨_, rfl⟩
  rw [hP]
  unfold plcL drB at hP
  cases h1' : q.eqb Re.none
  · obtain ⟨he1, he2⟩ := hne h1'
    rw [he1] at EM
    simp only at hP
    cases hd : decide (kd ≤ 3)
    · rw [h1', hd] at hP
      simp at hP
      subst hP
      rw [hd] at D
      have k3 : (kd == 3) = false := by simp at hd; simp; omega
      have k3n : (kd != 3) = true := by simp at hd; simp; omega
      replace D := Lib.hid D
      replace EM := Lib.hid EM
      clear hd h1' hne
      by_cases ha : ca = 0
      · subst ha
        go_enter Tryz.func28, Tryz.ntmps28
        go_wp2_with (first | (go_at_call 44; (with_reducible refine (EM.out _).mono ?_); rintro e w4 ⟨rfl, hb4⟩; obtain ⟨hc4, hf4⟩ := bcell hb4; have z4 := hb4.size; (try simp at z4); have l0 : w.heap.size < w4.heap.size := (by omega); have l1 : w.heap.size + 1 < w4.heap.size := (by omega)) | (go_at_call 25; (with_reducible refine (D.out _).mono ?_); rintro e w5 ⟨rfl, hb5⟩; obtain ⟨hc5, hf5⟩ := bcell hb5; have z5 := hb5.size; have m0 : w.heap.size < w5.heap.size := (by omega); have m1 : w.heap.size + 1 < w5.heap.size := (by omega)) | go_in)
        go_ret
        exact ⟨_, rfl, World.ownsRow_nil _ _ _ _, (by repeat (first | exact Below.refl _ _ | assumption | refine Below.drew ?_ | refine Below.alloc ?_ (by (try simp) <;> omega) _ | refine Below.setCell ?_ (by (try simp) <;> omega) _ | (refine Below.trans ?_ (Below.mono (by assumption) (by (try simp) <;> omega)))))⟩
      · have hab : (ca == 0) = false := by simp [ha]
        go_enter Tryz.func28, Tryz.ntmps28
        go_wp2_with (first | (go_at_call 44; (with_reducible refine (EM.out _).mono ?_); rintro e w4 ⟨rfl, hb4⟩; obtain ⟨hc4, hf4⟩ := bcell hb4; have z4 := hb4.size; (try simp at z4); have l0 : w.heap.size < w4.heap.size := (by omega); have l1 : w.heap.size + 1 < w4.heap.size := (by omega)) | (go_at_call 25; (with_reducible refine (D.out _).mono ?_); rintro e w5 ⟨rfl, hb5⟩; obtain ⟨hc5, hf5⟩ := bcell hb5; have z5 := hb5.size; have m0 : w.heap.size < w5.heap.size := (by omega); have m1 : w.heap.size + 1 < w5.heap.size := (by omega)) | go_in)
        go_ret
        exact ⟨_, rfl, World.ownsRow_nil _ _ _ _, (by repeat (first | exact Below.refl _ _ | assumption | refine Below.drew ?_ | refine Below.alloc ?_ (by (try simp) <;> omega) _ | refine Below.setCell ?_ (by (try simp) <;> omega) _ | (refine Below.trans ?_ (Below.mono (by assumption) (by (try simp) <;> omega)))))⟩
    · rw [h1', hd] at hP
      simp only [Bool.not_true, Bool.or_self, Bool.false_eq_true, if_false] at hP
      rw [hd] at D
      replace D := Lib.hid D
      replace EM := Lib.hid EM
      clear h1' hne
      by_cases h3 : kd = 3
      · rw [if_pos h3] at hP
        subst h3
        by_cases htx : tx.toList = []
        · rw [if_pos htx] at hP
          subst hP
          clear hd
          go_enter Tryz.func28, Tryz.ntmps28
          go_wp2_with (first | (go_at_call 44; (with_reducible refine (EM.out _).mono ?_); rintro e w4 ⟨rfl, hb4⟩; obtain ⟨hc4, hf4⟩ := bcell hb4; have z4 := hb4.size; (try simp at z4); have l0 : w.heap.size < w4.heap.size := (by omega); have l1 : w.heap.size + 1 < w4.heap.size := (by omega)) | (go_at_call 25; (with_reducible refine (D.out _).mono ?_); rintro e w5 ⟨rfl, hb5⟩; obtain ⟨hc5, hf5⟩ := bcell hb5; have z5 := hb5.size; have m0 : w.heap.size < w5.heap.size := (by omega); have m1 : w.heap.size + 1 < w5.heap.size := (by omega)) | go_in)
          go_ret
          exact ⟨_, rfl, World.ownsRow_nil _ _ _ _, (by repeat (first | exact Below.refl _ _ | assumption | refine Below.drew ?_ | refine Below.alloc ?_ (by (try simp) <;> omega) _ | refine Below.setCell ?_ (by (try simp) <;> omega) _ | (refine Below.trans ?_ (Below.mono (by assumption) (by (try simp) <;> omega)))))⟩
        · rw [if_neg htx] at hP
          subst hP
          have ht2 : (tx.toList == []) = false := by simpa using htx
          clear hd
          go_enter Tryz.func28, Tryz.ntmps28
          go_wp2_with (first | (go_at_call 44; (with_reducible refine (EM.out _).mono ?_); rintro e w4 ⟨rfl, hb4⟩; obtain ⟨hc4, hf4⟩ := bcell hb4; have z4 := hb4.size; (try simp at z4); have l0 : w.heap.size < w4.heap.size := (by omega); have l1 : w.heap.size + 1 < w4.heap.size := (by omega)) | (go_at_call 25; (with_reducible refine (D.out _).mono ?_); rintro e w5 ⟨rfl, hb5⟩; obtain ⟨hc5, hf5⟩ := bcell hb5; have z5 := hb5.size; have m0 : w.heap.size < w5.heap.size := (by omega); have m1 : w.heap.size + 1 < w5.heap.size := (by omega)) | go_in)
          go_ret
          exact ⟨_, rfl, ownR_one q (by have := hb5.size; omega), (by repeat (first | exact Below.refl _ _ | assumption | refine Below.drew ?_ | refine Below.alloc ?_ (by (try simp) <;> omega) _ | refine Below.setCell ?_ (by (try simp) <;> omega) _ | (refine Below.trans ?_ (Below.mono (by assumption) (by (try simp) <;> omega)))))⟩
      · rw [if_neg h3] at hP
        have h3b : (kd == 3) = false := by simp [h3]
        have h3n : (kd != 3) = true := by simp [h3]
        by_cases ha : ca = 0
        · rw [if_pos ha] at hP
          subst ha
          subst hP
          clear hd
          go_enter Tryz.func28, Tryz.ntmps28
          go_wp2_with (first | (go_at_call 44; (with_reducible refine (EM.out _).mono ?_); rintro e w4 ⟨rfl, hb4⟩; obtain ⟨hc4, hf4⟩ := bcell hb4; have z4 := hb4.size; (try simp at z4); have l0 : w.heap.size < w4.heap.size := (by omega); have l1 : w.heap.size + 1 < w4.heap.size := (by omega)) | (go_at_call 25; (with_reducible refine (D.out _).mono ?_); rintro e w5 ⟨rfl, hb5⟩; obtain ⟨hc5, hf5⟩ := bcell hb5; have z5 := hb5.size; have m0 : w.heap.size < w5.heap.size := (by omega); have m1 : w.heap.size + 1 < w5.heap.size := (by omega)) | go_in)
          go_ret
          exact ⟨_, rfl, World.ownsRow_nil _ _ _ _, (by repeat (first | exact Below.refl _ _ | assumption | refine Below.drew ?_ | refine Below.alloc ?_ (by (try simp) <;> omega) _ | refine Below.setCell ?_ (by (try simp) <;> omega) _ | (refine Below.trans ?_ (Below.mono (by assumption) (by (try simp) <;> omega)))))⟩
        · rw [if_neg ha] at hP
          have hab : (ca == 0) = false := by simp [ha]
          by_cases h1k : kd = 1
          · rw [if_pos h1k] at hP
            subst h1k
            subst hP
            clear hd
            go_enter Tryz.func28, Tryz.ntmps28
            go_wp2_with (first | (go_at_call 44; (with_reducible refine (EM.out _).mono ?_); rintro e w4 ⟨rfl, hb4⟩; obtain ⟨hc4, hf4⟩ := bcell hb4; have z4 := hb4.size; (try simp at z4); have l0 : w.heap.size < w4.heap.size := (by omega); have l1 : w.heap.size + 1 < w4.heap.size := (by omega)) | (go_at_call 25; (with_reducible refine (D.out _).mono ?_); rintro e w5 ⟨rfl, hb5⟩; obtain ⟨hc5, hf5⟩ := bcell hb5; have z5 := hb5.size; have m0 : w.heap.size < w5.heap.size := (by omega); have m1 : w.heap.size + 1 < w5.heap.size := (by omega)) | go_in)
            go_ret
            exact ⟨_, rfl, ownR_one q (by have := hb5.size; omega), (by repeat (first | exact Below.refl _ _ | assumption | refine Below.drew ?_ | refine Below.alloc ?_ (by (try simp) <;> omega) _ | refine Below.setCell ?_ (by (try simp) <;> omega) _ | (refine Below.trans ?_ (Below.mono (by assumption) (by (try simp) <;> omega)))))⟩
          · rw [if_neg h1k] at hP
            obtain rfl : kd = 2 := by simp at hd; omega
            replace hP := Lib.hid hP
            obtain ⟨_, n1, n2⟩ := full_bd he2
            obtain ⟨bx0, bx1, by0, by1, bw0, bw1, bh0, bh1⟩ := may_bd hm
            obtain ⟨sx, sy⟩ := may_sum hm
            simp only at n1 n2 bx0 bx1 by0 by1 bw0 bw1 bh0 bh1 sx sy
            have R1 := fun w => kright_any ⟨x, y, wd, ht⟩ w hm
            have R2 := fun w => kbelow_any ⟨x, y, wd, ht⟩ w hm
            have F1 := fun w => kfrom_any x y (x + wd) (y + 1) w (by omega) (by omega) (by omega) (by omega)
            have F2 := fun w => kfrom_any x y (x + 1) (y + ht) w (by omega) (by omega) (by omega) (by omega)
            have F3 := fun w => kfrom_any (x + wd - 1) y (x + wd) (y + ht) w (by omega) (by omega) (by omega) (by omega)
            have F4 := fun w => kfrom_any x (y + ht - 1) (x + wd) (y + ht) w (by omega) (by omega) (by omega) (by omega)
            have f1 : fromR x y (x + wd) (y + 1) = ⟨x, y, wd, 1⟩ := by rw [from_ok (by omega) (by omega)]; congr 1 <;> omega
            have f2 : fromR x y (x + 1) (y + ht) = ⟨x, y, 1, ht⟩ := by rw [from_ok (by omega) (by omega)]; congr 1 <;> omega
            have f3 : fromR (x + wd - 1) y (x + wd) (y + ht) = ⟨x + (wd - 1), y, 1, ht⟩ := by rw [from_ok (by omega) (by omega)]; congr 1 <;> omega
            have f4 : fromR x (y + ht - 1) (x + wd) (y + ht) = ⟨x, y + (ht - 1), wd, 1⟩ := by rw [from_ok (by omega) (by omega)]; congr 1 <;> omega
            simp only [f1] at F1
            simp only [f2] at F2
            simp only [f3] at F3
            simp only [f4] at F4
            simp only at R1 R2
            have hsw : ∀ p ∈ sidesR ⟨x, y, wd, ht⟩, p.Wf := fun p hp => side_wf hm hp
            have hsd : sidesR ⟨x, y, wd, ht⟩ = [⟨x, y, wd, 1⟩, ⟨x, y, 1, ht⟩, ⟨x + (wd - 1), y, 1, ht⟩, ⟨x, y + (ht - 1), wd, 1⟩] := rfl
            obtain ⟨iR, hr0, hr1, hr2, hr3⟩ := info_parts infoRe
            have hqh := Lib.hid hq
            replace R1 := Lib.hid R1
            replace R2 := Lib.hid R2
            replace F1 := Lib.hid F1
            replace F2 := Lib.hid F2
            replace F3 := Lib.hid F3
            replace F4 := Lib.hid F4
            replace hsw := Lib.hid hsw
            replace hsd := Lib.hid hsd
            clear hd hm hq he1 he2 f1 f2 f3 f4 hs h1k h3 ha
            go_enter Tryz.func28, Tryz.ntmps28
            go_upto_region 5 with (first | (go_at_call 44; (with_reducible refine (EM.out _).mono ?_); rintro e w4 ⟨rfl, hb4⟩; obtain ⟨hc4, hf4⟩ := bcell hb4; have z4 := hb4.size; (try simp at z4); have l0 : w.heap.size < w4.heap.size := (by omega); have l1 : w.heap.size + 1 < w4.heap.size := (by omega)) | (go_at_call 25; (with_reducible refine (D.out _).mono ?_); rintro e w5 ⟨rfl, hb5⟩; obtain ⟨hc5, hf5⟩ := bcell hb5; have z5 := hb5.size; have m0 : w.heap.size < w5.heap.size := (by omega); have m1 : w.heap.size + 1 < w5.heap.size := (by omega)) | go_in)
            refine wp_region_steady (Held w5 0 []) (by kernel_rfl) (by kernel_rfl) ⟨(by repeat (first | exact Below.refl _ _ | assumption | refine Below.drew ?_ | refine Below.alloc ?_ (by (try simp) <;> omega) _ | refine Below.setCell ?_ (by (try simp) <;> omega) _ | (refine Below.trans ?_ (Below.mono (by assumption) (by (try simp) <;> omega))))), (by (try simp) <;> omega), (by first | exact trivial | (simp only [Cells]; go_simp))⟩ ?_
            repeat (first | (refine' wpSteady_do _ _ _; rotate_left; (focus rfl); (focus (intro w1 hS R hR; have hc := hS.cells; simp only [Cells] at hc; obtain ⟨hco, hfo⟩ := bcell hS.old; go_simp; (try go_bits); first | exact hR _ hS | fail)); simp only [Act.put, List.setIfInBounds_toArray, List.set_cons_zero, List.set_cons_succ]) | (refine wpSteady_pass ?_ ?_; (focus rfl); simp only [Act.put, List.setIfInBounds_toArray, List.set_cons_zero, List.set_cons_succ]))
            refine wpSteady_nil (fun uA hSA => ?_)
            have hcA := hSA.cells; have hbA := hSA.old; have hzA := hSA.size; clear hSA; simp only [Cells] at hcA; obtain ⟨hcoA, hfoA⟩ := bcell hbA
            go_upto_region 6 with fail
            have yA0 : w.heap.size < uA.heap.size := by omega
            have yA1 : w.heap.size + 1 < uA.heap.size := by omega
            have cX : uA.cell? ⟨w.heap.size, 1, none⟩ = some (.int .i64 x) := by go_simp
            have cY : uA.cell? ⟨w.heap.size, 2, none⟩ = some (.int .i64 y) := by go_simp
            have cW : uA.cell? ⟨w.heap.size, 3, none⟩ = some (.int .i64 wd) := by go_simp
            have cH : uA.cell? ⟨w.heap.size, 4, none⟩ = some (.int .i64 ht) := by go_simp
            have r0 : uA.cell? ⟨w.heap.size + 1, 0, none⟩ = some (.int .i64 q.x) := by go_simp
            have r1 : uA.cell? ⟨w.heap.size + 1, 1, none⟩ = some (.int .i64 q.y) := by go_simp
            have r2 : uA.cell? ⟨w.heap.size + 1, 2, none⟩ = some (.int .i64 q.wd) := by go_simp
            have r3 : uA.cell? ⟨w.heap.size + 1, 3, none⟩ = some (.int .i64 q.ht) := by go_simp
            have hw5 : Below w.heap.size w w5 := (by repeat (first | exact Below.refl _ _ | assumption | refine Below.drew ?_ | refine Below.alloc ?_ (by (try simp) <;> omega) _ | refine Below.setCell ?_ (by (try simp) <;> omega) _ | (refine Below.trans ?_ (Below.mono (by assumption) (by (try simp) <;> omega)))))
            have hwA : Below w.heap.size w uA := hw5.trans (hbA.mono hw5.size)
            have z5A := hbA.size
            have zA := hwA.size
            clear hcA hcoA hfoA hbA hzA hc4 hf4 hb4 z4 l0 l1 D hab h3b h3n hb5 hc5 hf5 EM hw5
            refine wp_region_steady (Held uA 0 []) (by kernel_rfl) (by kernel_rfl) ⟨(by repeat (first | exact Below.refl _ _ | assumption | refine Below.drew ?_ | refine Below.alloc ?_ (by (try simp) <;> omega) _ | refine Below.setCell ?_ (by (try simp) <;> omega) _ | (refine Below.trans ?_ (Below.mono (by assumption) (by (try simp) <;> omega))))), (by (try simp) <;> omega), (by first | exact trivial | (simp only [Cells]; go_simp))⟩ ?_
            repeat (first | (refine' wpSteady_do _ _ _; rotate_left; (focus rfl); (focus (intro w1 hS R hR; have hc := hS.cells; simp only [Cells] at hc; obtain ⟨hco, hfo⟩ := bcell hS.old; go_simp; (try go_bits); first | exact hR _ hS | (first
                                      | (go_at_call 47; (with_reducible refine (R1.out _).mono ?_); rintro e w7 ⟨rfl, hb7⟩; exact ⟨_, rfl, hR _ (hS.below hb7)⟩)
                                      | (go_at_call 48; (with_reducible refine (R2.out _).mono ?_); rintro e w7 ⟨rfl, hb7⟩; exact ⟨_, rfl, hR _ (hS.below hb7)⟩)))); simp only [Act.put, List.setIfInBounds_toArray, List.set_cons_zero, List.set_cons_succ]) | (refine wpSteady_pass ?_ ?_; (focus rfl); simp only [Act.put, List.setIfInBounds_toArray, List.set_cons_zero, List.set_cons_succ]))
            refine wpSteady_nil (fun uC hSC => ?_)
            have hcC := hSC.cells; have hbC := hSC.old; have hzC := hSC.size; clear hSC; simp only [Cells] at hcC; obtain ⟨hcoC, hfoC⟩ := bcell hbC
            go_upto_region 9 with (first
              | (go_at_call 49; (with_reducible refine (F1.out _).mono ?_); rintro e w8 ⟨rfl, hb8⟩)
              | (go_at_call 49; (with_reducible refine (F2.out _).mono ?_); rintro e w9 ⟨rfl, hb9⟩)
              | (go_at_call 49; (with_reducible refine (F3.out _).mono ?_); rintro e w10 ⟨rfl, hb10⟩)
              | (go_at_call 49; (with_reducible refine (F4.out _).mono ?_); rintro e w11 ⟨rfl, hb11⟩)
              | go_in)
            have z8 := hb8.size
            have z9 := hb9.size
            have z10 := hb10.size
            have z11 := hb11.size
            have zC := hbC.size
            have hA11 : Below uA.heap.size uA w11 := (((hbC.trans (hb8.mono zC)).trans (hb9.mono (by omega))).trans (hb10.mono (by omega))).trans (hb11.mono (by omega))
            have hAS := hA11.alloc hA11.size (.cells #[.int .i64 x, .int .i64 y, .int .i64 wd, .int .i64 1, .int .i64 x, .int .i64 y, .int .i64 1, .int .i64 ht, .int .i64 (x + (wd - 1)), .int .i64 y, .int .i64 1, .int .i64 ht, .int .i64 x, .int .i64 (y + (ht - 1)), .int .i64 wd, .int .i64 1] 44)
            have kS : Blk (w11.alloc (.cells #[.int .i64 x, .int .i64 y, .int .i64 wd, .int .i64 1, .int .i64 x, .int .i64 y, .int .i64 1, .int .i64 ht, .int .i64 (x + (wd - 1)), .int .i64 y, .int .i64 1, .int .i64 ht, .int .i64 x, .int .i64 (y + (ht - 1)), .int .i64 wd, .int .i64 1] 44)) w11.heap.size ((sidesR ⟨x, y, wd, ht⟩).flatMap Re.enc) 44 := by
              rw [hsd.out]
              exact Blk.new' rfl
            generalize w11.alloc (.cells #[.int .i64 x, .int .i64 y, .int .i64 wd, .int .i64 1, .int .i64 x, .int .i64 y, .int .i64 1, .int .i64 ht, .int .i64 (x + (wd - 1)), .int .i64 y, .int .i64 1, .int .i64 ht, .int .i64 x, .int .i64 (y + (ht - 1)), .int .i64 wd, .int .i64 1] 44) = wS at hAS kS ⊢
            obtain ⟨bs, hbs⟩ : ∃ b, w11.heap.size = b := ⟨_, rfl⟩
            rw [hbs] at kS ⊢
            have r0 := (hAS.cell (p := ⟨w.heap.size + 1, 0, none⟩) yA1).trans r0
            have r1 := (hAS.cell (p := ⟨w.heap.size + 1, 1, none⟩) yA1).trans r1
            have r2 := (hAS.cell (p := ⟨w.heap.size + 1, 2, none⟩) yA1).trans r2
            have r3 := (hAS.cell (p := ⟨w.heap.size + 1, 3, none⟩) yA1).trans r3
            have yS1 : w.heap.size + 1 < wS.heap.size := by have := hAS.size; omega
            have hwS : Below w.heap.size w wS := hwA.trans (hAS.mono zA)
            have z5S : w5.heap.size ≤ wS.heap.size := by have := hAS.size; omega
            have z05 : w.heap.size ≤ w5.heap.size := by omega
            have kl := kS.lt
            obtain ⟨S, hSe⟩ : ∃ S, sidesR ⟨x, y, wd, ht⟩ = S := ⟨_, rfl⟩
            have hSl : S.length = 4 := by rw [← hSe]; rfl
            rw [hSe] at kS hsw
            replace hSe := Lib.hid hSe
            replace kS := Lib.hid kS
            replace hSl := Lib.hid hSl
            clear cX cY cW cH hsd hbs hb8 hb9 hb10 hb11 hbC hcC hcoC hfoC hzC hA11 hAS hwA R1 R2 F1 F2 F3 F4 n1 n2 bx0 bx1 by0 by1 bw0 bw1 bh0 bh1 sx sy z8 z9 z10 z11 zC zA z5A yA0 yA1
            go_wp2
            go_loopw [9, 11] (fun ov iv wr => ∃ k : Nat, k ≤ 4 ∧ iv = .int .i64 k ∧ OwnsR wS.heap.size wr ov (meets (S.take k) q) ∧ Below wS.heap.size wS wr) (fun _ iv _ => 4 - (intOf iv).toNat)
            case atStart => exact ⟨0, by omega, rfl, World.ownsRow_nil _ _ _ _, Below.refl _ _⟩
            case round =>
              obtain ⟨k, hk, rfl, hown, hbr⟩ := hrel
              have zr := hbr.size
              by_cases hk4 : k < 4
              · obtain ⟨p, hp⟩ := get_at hSl.out hk4
                have hpw := hsw.out p (List.mem_of_getElem? hp)
                obtain ⟨v0, v1, v2, v3⟩ := blk_rmem (kS.out.below hbr kl) hp
                have M := fun w => kmeet1_any p q w hpw (may_wf hqh.out)
                have hsn := meets_snoc (q := q) hp
                have E := fun w => kempty1_any (meetR p q) w (may_wf (meet_may p q))
                simp only [meet_em] at E
                obtain ⟨mm, hmm⟩ : ∃ m, meetR p q = m := ⟨_, rfl⟩
                simp only [hmm] at M E
                rw [hmm] at hsn
                obtain ⟨hcr, hfr⟩ := bcell hbr
                have hki : (k : Int) < 4 := by omega
                have ybs : bs < wr.heap.size := by omega
                have yr1 : w.heap.size + 1 < wr.heap.size := by omega
                have hml : (meets (S.take k) q).length ≤ 4 := by have := meets_le (S.take k) q; rw [List.length_take] at this; omega
                have z5r : w5.heap.size ≤ wr.heap.size := by omega
                obtain ⟨sv, cv, rfl⟩ := own_slice hown
                replace M := Lib.hid M
                replace hown := Lib.hid hown
                clear hp hpw hmm
                obtain ⟨m1, m2, m3, m4⟩ := mm
                simp only at M E hsn
                go_wp2
                refine wp_region_tame (Held wr 0 []) (fun _ => .cells #[.int .i64 0, .int .i64 0, .int .i64 0, .int .i64 0] 44 (0, 0)) (wr.heap.size + 0) 6 7 (by kernel_rfl) (by kernel_rfl) (by omega) (by decide) (by kernel_rfl) (by kernel_rfl) (Held.stab _ _ _) (by (try simp) <;> omega) ⟨(by repeat (first | exact Below.refl _ _ | assumption | refine Below.drew ?_ | refine Below.alloc ?_ (by (try simp) <;> omega) _ | refine Below.setCell ?_ (by (try simp) <;> omega) _ | (refine Below.trans ?_ (Below.mono (by assumption) (by (try simp) <;> omega))))), (by (try simp) <;> omega), (by first | exact trivial | (simp only [Cells]; go_simp))⟩ ?_
                simp only [List.take_succ_cons, List.take_zero, List.drop_succ_cons, List.drop_zero]
                repeat (first | (refine' wpStB_do _ _ _; rotate_left; (focus rfl); (focus (intro w1 hS R hR; have hc := hS.cells; simp only [Cells] at hc; obtain ⟨hco, hfo⟩ := bcell hS.old; go_simp; (try go_bits); first | exact hR _ (Below.refl _ _) | ((go_at_call 43; (with_reducible refine (M.out _).mono ?_); rintro e w2 ⟨rfl, hb2⟩; exact ⟨_, rfl, hR _ hb2⟩)))); simp only [Act.put, List.setIfInBounds_toArray, List.set_cons_zero, List.set_cons_succ]) | (refine wpStB_pass ?_ ?_; (focus rfl); simp only [Act.put, List.setIfInBounds_toArray, List.set_cons_zero, List.set_cons_succ]))
                refine wpStB_nil ?_
                (refine wpNews_do rfl (by intro w1 hS R hR; go_simp; exact hR) ?_; intro b3 hnb3; simp only [Act.put, List.setIfInBounds_toArray, List.set_cons_zero, List.set_cons_succ]; simp only [ptrTo])
                refine wpNews_nil ?_
                intro w9 hS hU hN
                have hb9 : wr.heap.size ≤ b3 := by simpa using Nat.le_of_not_lt hnb3
                have hl9 : b3 < w9.heap.size := hN b3 (.inr rfl)
                have hbr9 := hS.old
                clear hS hN
                have q0 : w9.cell? ⟨b3, 0, none⟩ = some (.int .i64 0) := new_cell hU.2 rfl
                have q1 : w9.cell? ⟨b3, 1, none⟩ = some (.int .i64 0) := new_cell hU.2 rfl
                have q2 : w9.cell? ⟨b3, 2, none⟩ = some (.int .i64 0) := new_cell hU.2 rfl
                have q3 : w9.cell? ⟨b3, 3, none⟩ = some (.int .i64 0) := new_cell hU.2 rfl
                have g0 := new_free hU.2 0
                have g1 := new_free hU.2 1
                have g2 := new_free hU.2 2
                have g3 := new_free hU.2 3
                clear hU hnb3
                go_upto_region 13 with fail
                have bT : Below wr.heap.size wr ((((w9.setCell ⟨b3, 0, none⟩ (.int .i64 m1)).setCell ⟨b3, 1, none⟩ (.int .i64 m2)).setCell ⟨b3, 2, none⟩ (.int .i64 m3)).setCell ⟨b3, 3, none⟩ (.int .i64 m4)) := (((hbr9.setCell hb9 _).setCell hb9 _).setCell hb9 _).setCell hb9 _
                have t0 : ((((w9.setCell ⟨b3, 0, none⟩ (.int .i64 m1)).setCell ⟨b3, 1, none⟩ (.int .i64 m2)).setCell ⟨b3, 2, none⟩ (.int .i64 m3)).setCell ⟨b3, 3, none⟩ (.int .i64 m4)).cell? ⟨b3, 0, none⟩ = some (.int .i64 m1) := by go_simp
                have t1 : ((((w9.setCell ⟨b3, 0, none⟩ (.int .i64 m1)).setCell ⟨b3, 1, none⟩ (.int .i64 m2)).setCell ⟨b3, 2, none⟩ (.int .i64 m3)).setCell ⟨b3, 3, none⟩ (.int .i64 m4)).cell? ⟨b3, 1, none⟩ = some (.int .i64 m2) := by go_simp
                have t2 : ((((w9.setCell ⟨b3, 0, none⟩ (.int .i64 m1)).setCell ⟨b3, 1, none⟩ (.int .i64 m2)).setCell ⟨b3, 2, none⟩ (.int .i64 m3)).setCell ⟨b3, 3, none⟩ (.int .i64 m4)).cell? ⟨b3, 2, none⟩ = some (.int .i64 m3) := by go_simp
                have t3 : ((((w9.setCell ⟨b3, 0, none⟩ (.int .i64 m1)).setCell ⟨b3, 1, none⟩ (.int .i64 m2)).setCell ⟨b3, 2, none⟩ (.int .i64 m3)).setCell ⟨b3, 3, none⟩ (.int .i64 m4)).cell? ⟨b3, 3, none⟩ = some (.int .i64 m4) := by go_simp
                have tl : b3 < ((((w9.setCell ⟨b3, 0, none⟩ (.int .i64 m1)).setCell ⟨b3, 1, none⟩ (.int .i64 m2)).setCell ⟨b3, 2, none⟩ (.int .i64 m3)).setCell ⟨b3, 3, none⟩ (.int .i64 m4)).heap.size := by simpa using hl9
                generalize (((w9.setCell ⟨b3, 0, none⟩ (.int .i64 m1)).setCell ⟨b3, 1, none⟩ (.int .i64 m2)).setCell ⟨b3, 2, none⟩ (.int .i64 m3)).setCell ⟨b3, 3, none⟩ (.int .i64 m4) = wT at bT t0 t1 t2 t3 tl ⊢
                have hownT := OwnsR.below hown.out bT (Nat.le_refl _)
                have zT := bT.size
                have brT : Below wS.heap.size wS wT := hbr.trans (bT.mono zr)
                obtain ⟨mk, hmk⟩ : ∃ m, (meets (S.take k) q).length = m := ⟨_, rfl⟩
                rw [hmk] at hownT hml ⊢
                replace hownT := Lib.hid hownT
                replace hmk := Lib.hid hmk
                clear q0 q1 q2 q3 g0 g1 g2 g3 v0 v1 v2 v3 hcr hfr hbr9 hl9 hown
                obtain ⟨t, ht⟩ : ∃ t, (⟨m1, m2, m3, m4⟩ : Re).eqb Re.none = t := ⟨_, rfl⟩
                simp only [ht] at E
                rw [ht] at hsn
                clear ht
                replace E := Lib.hid E
                cases t
                · rw [if_neg (by decide)] at hsn
                  replace hsn := Lib.hid hsn
                  go_upto_region 14 with (first
                    | (go_at_call 44; (with_reducible refine (E.out _).mono ?_); rintro e w10 ⟨rfl, hb10⟩; obtain ⟨hc10, hf10⟩ := bcell hb10)
                    | go_in)
                  have hown10 := OwnsR.below hownT.out hb10 (Nat.le_refl _)
                  have z10 := hb10.size
                  have br10 := brT.trans (hb10.mono brT.size)
                  have zS10 := br10.size
                  unfold OwnsR at hown10
                  rw [hmk.out] at hown10
                  go_wp2_with (first
                    | (at_builtin; refine wpList_append_new rfl _ _ _ rfl wS.heap.size 44 iR _ 4 32 Tryz.underlying25 hr0 hr1 hr2 hr3 rfl (by omega) w10 1 _ _ _ _ (by rfl) hown10 (by rfl) rfl (by simp [Value.oneCell']) (by omega) (by unfold maxLen; omega) (by omega) ?_; intro v12 w12 hown12 hb12)
                    | go_in)
                  rw [flatR_snoc (t := ⟨m1, m2, m3, m4⟩) (cs := [.int .i64 m1, .int .i64 m2, .int .i64 m3, .int .i64 m4]) rfl, ← hsn.out] at hown12
                  have hown12 : OwnsR wS.heap.size w12 v12 (meets (S.take (k + 1)) q) := by
                    unfold OwnsR
                    rw [show (meets (S.take (k + 1)) q).length = mk + 1 by rw [hsn.out, List.length_append, hmk.out]; rfl]
                    exact hown12
                  have br12 : Below wS.heap.size wS w12 := br10.trans hb12
                  replace hown12 := Lib.hid hown12
                  go_roundw
                  case rel => exact ⟨k + 1, by omega, by go_num, hown12.out, br12⟩
                  case measure => simp [intOf]; omega
                · rw [if_pos rfl, List.append_nil] at hsn
                  replace hsn := Lib.hid hsn
                  go_wp2_with (first
                    | (go_at_call 44; (with_reducible refine (E.out _).mono ?_); rintro e w10 ⟨rfl, hb10⟩)
                    | go_in)
                  go_roundw
                  case rel =>
                    refine ⟨k + 1, by omega, by go_num, ?_, brT.trans (hb10.mono brT.size)⟩
                    rw [hsn.out]
                    exact OwnsR.below hownT.out hb10 (Nat.le_refl _)
                  case measure => simp [intOf]; omega
              · obtain rfl : k = 4 := by omega
                rw [List.take_of_length_le (by have := hSl.out; omega)] at hown
                replace hown := Lib.hid hown
                go_wp2
                go_ret
                refine ⟨_, rfl, ?_, hwS.trans (hbr.mono hwS.size)⟩
                rw [← hP.out, hSe.out]
                exact own_less hown.out hwS.size
  · have h1 : emptyR q = true := by rw [eqb_iff.1 h1']; decide
    rw [h1'] at hP
    simp at hP
    subst hP
    rw [h1] at EM
    replace EM := Lib.hid EM
    clear h1' hne
    go_enter Tryz.func28, Tryz.ntmps28
    go_wp2_with (first | (go_at_call 44; (with_reducible refine (EM.out _).mono ?_); rintro e w4 ⟨rfl, hb4⟩; obtain ⟨hc4, hf4⟩ := bcell hb4; have z4 := hb4.size; (try simp at z4); have l0 : w.heap.size < w4.heap.size := (by omega); have l1 : w.heap.size + 1 < w4.heap.size := (by omega)) | (go_at_call 25; (with_reducible refine (D.out _).mono ?_); rintro e w5 ⟨rfl, hb5⟩; obtain ⟨hc5, hf5⟩ := bcell hb5; have z5 := hb5.size; have m0 : w.heap.size < w5.heap.size := (by omega); have m1 : w.heap.size + 1 < w5.heap.size := (by omega)) | go_in)
    go_ret
    exact ⟨_, rfl, World.ownsRow_nil _ _ _ _, (by repeat (first | exact Below.refl _ _ | assumption | refine Below.drew ?_ | refine Below.alloc ?_ (by (try simp) <;> omega) _ | refine Below.setCell ?_ (by (try simp) <;> omega) _ | (refine Below.trans ?_ (Below.mono (by assumption) (by (try simp) <;> omega)))))⟩
end
end Go.Proofs.YtkmofpnefjgnkaaGreat
