/-
  XGk: XLisG.
-/
import Derived.Test.YtfcphagmjijmkaaGreatDoorDd12
namespace Go.Proofs.YtfcphagmjijmkaaGreatDoor
open Go.RowKit
set_option linter.unusedVariables false
set_option linter.unusedSimpArgs false
attribute [local go_sem] vwp vUpon_value vUpon_skip vUpon_enter vUpon_row
set_option maxHeartbeats 16000000
section
section
theorem eql_stroke (w : World) (k x y wd ht c0 c1 c2 c3 b0 b1 b2 b3 n k' x' y' wd' ht' c0' c1' c2' c3' b0' b1' b2' b3' n' : Int) (t t' : ByteArray) :
  (binOp .eql 36 (.agg #[.int .u8 k, .int .i64 x, .int .i64 y, .int .i64 wd, .int .i64 ht, .int .u8 c0, .int .u8 c1, .int .u8 c2, .int .u8 c3, .int .u8 b0, .int .u8 b1, .int .u8 b2, .int .u8 b3, .string t, .int .i64 n]) (.agg #[.int .u8 k', .int .i64 x', .int .i64 y', .int .i64 wd', .int .i64 ht', .int .u8 c0', .int .u8 c1', .int .u8 c2', .int .u8 c3', .int .u8 b0', .int .u8 b1', .int .u8 b2', .int .u8 b3', .string t', .int .i64 n'])).run Tryz.prog w
   = .ok (.bool (St.eqb ⟨k, ⟨x, y, wd, ht⟩, ⟨c0, c1, c2, c3⟩, ⟨b0, b1, b2, b3⟩, t, n⟩ ⟨k', ⟨x', y', wd', ht'⟩, ⟨c0', c1', c2', c3'⟩, ⟨b0', b1', b2', b3'⟩, t', n'⟩)) w := by
 rw [run_eql_struct]; have h := eq_stroke 9996 w ⟨k, ⟨x, y, wd, ht⟩, ⟨c0, c1, c2, c3⟩, ⟨b0, b1, b2, b3⟩, t, n⟩ ⟨k', ⟨x', y', wd', ht'⟩, ⟨c0', c1', c2', c3'⟩, ⟨b0', b1', b2', b3'⟩, t', n'⟩; simp only at h; rw [h]
 rfl
theorem emp : (⟨#[]⟩ : ByteArray).toList = [] := by rw [ByteArray.toList_eq]
attribute [local go_sem high] eql_colour eql_stroke
theorem lmay_any (s : St) (w : World) (hs : s.Wf) : Calls Tryz.prog 85 #[.agg #[.int .u8 (s).kind, .int .i64 (s).rect.x, .int .i64 (s).rect.y, .int .i64 (s).rect.wd, .int .i64 (s).rect.ht, .int .u8 (s).col.r, .int .u8 (s).col.g, .int .u8 (s).col.b, .int .u8 (s).col.a, .int .u8 (s).back.r, .int .u8 (s).back.g, .int .u8 (s).back.b, .int .u8 (s).back.a, .string (s).text, .int .i64 (s).node]] w fun e w' => e = .returned (.int .i64 (errS s)) ∧ Below w.heap.size w w' := by
 obtain ⟨kd, ⟨x, y, wd, ht⟩, ⟨c0, c1, c2, c3⟩, ⟨b0, b1, b2, b3⟩, tx, nd⟩ := s; obtain ⟨h1, h2, h3, h4, h5, h6⟩ := hs
 have M := fun w => gcheck_any ⟨x, y, wd, ht⟩ w h2
 obtain ⟨hk0, hk1⟩ := h1; obtain ⟨hn0, hn1⟩ := h6; simp only [maxLen] at h5 hk0 hk1 hn0 hn1; replace M := hdh M; clear h2 h3 h4
 by_cases g0 : kd < 1
 ·have E : errS ⟨kd, ⟨x, y, wd, ht⟩, ⟨c0, c1, c2, c3⟩, ⟨b0, b1, b2, b3⟩, tx, nd⟩ = 2 := by simp [errS, mis1, g0]
  obtain rfl : kd = 0 := by omega
  clear g0; rw [E]; clear E
  go_enter Tryz.func85, Tryz.ntmps85
  go_wp2_with (first | (go_at_call 55; (with_reducible refine cmm (M.out _) fun w1 hb1 => ?_); obtain ⟨hc1, hf1, hz1⟩ := bzz hb1; (try simp at hz1); (try have lt1 : w.heap.size < w1.heap.size := (by omega))))
  all_goals (first | (exfalso; omega) | (go_ret; exact ⟨rfl, belt⟩))
 by_cases g1 : 5 < kd
 ·have E : errS ⟨kd, ⟨x, y, wd, ht⟩, ⟨c0, c1, c2, c3⟩, ⟨b0, b1, b2, b3⟩, tx, nd⟩ = 2 := by simp [errS, mis1, g1]
  have f0 : decide (kd < 1) = false := by simpa using g0
  have f1 : decide (5 < kd) = true := by simpa using g1
  have f2 : (kd == 3) = false := by simp; omega
  have f3 : (kd == 4) = false := by simp; omega
  have f4 : (kd == 5) = false := by simp; omega
  have f5 : ¬ kd = 3 := by omega
  have f6 : ¬ kd = 4 := by omega
  have f7 : ¬ kd = 5 := by omega
  rw [E]; clear E
  go_enter Tryz.func85, Tryz.ntmps85
  go_wp2_with (first | (go_at_call 55; (with_reducible refine cmm (M.out _) fun w1 hb1 => ?_); obtain ⟨hc1, hf1, hz1⟩ := bzz hb1; (try simp at hz1); (try have lt1 : w.heap.size < w1.heap.size := (by omega))))
  all_goals (first | (exfalso; omega) | (go_ret; exact ⟨rfl, belt⟩))
 obtain rfl | rfl | rfl | rfl | rfl : kd = 1 ∨ kd = 2 ∨ kd = 3 ∨ kd = 4 ∨ kd = 5 := by omega
 ·by_cases m1 : nd < 0
  ·have E : errS (⟨1, ⟨x, y, wd, ht⟩, ⟨c0, c1, c2, c3⟩, ⟨b0, b1, b2, b3⟩, tx, nd⟩ : St) = 2 := by simp [errS, mis1, m1]
   rw [E]; clear E
   go_enter Tryz.func85, Tryz.ntmps85
   go_wp2_with (first | (go_at_call 55; (with_reducible refine cmm (M.out _) fun w1 hb1 => ?_); obtain ⟨hc1, hf1, hz1⟩ := bzz hb1; (try simp at hz1); (try have lt1 : w.heap.size < w1.heap.size := (by omega))))
   all_goals (first | (exfalso; omega) | (go_ret; exact ⟨rfl, belt⟩))
  by_cases m2 : 1048576 < nd
  ·have E : errS (⟨1, ⟨x, y, wd, ht⟩, ⟨c0, c1, c2, c3⟩, ⟨b0, b1, b2, b3⟩, tx, nd⟩ : St) = 2 := by simp [errS, mis1, m2]
   rw [E]; clear E
   go_enter Tryz.func85, Tryz.ntmps85
   go_wp2_with (first | (go_at_call 55; (with_reducible refine cmm (M.out _) fun w1 hb1 => ?_); obtain ⟨hc1, hf1, hz1⟩ := bzz hb1; (try simp at hz1); (try have lt1 : w.heap.size < w1.heap.size := (by omega))))
   all_goals (first | (exfalso; omega) | (go_ret; exact ⟨rfl, belt⟩))
  by_cases m3 : 65536 < (tx.size : Int)
  ·have f9 : decide ((tx.size : Int) ≤ 65536) = false := by simp; omega
   have E : errS (⟨1, ⟨x, y, wd, ht⟩, ⟨c0, c1, c2, c3⟩, ⟨b0, b1, b2, b3⟩, tx, nd⟩ : St) = 2 := by simp [errS, mis1, m3]
   rw [E]; clear E
   go_enter Tryz.func85, Tryz.ntmps85
   go_wp2_with (first | (go_at_call 55; (with_reducible refine cmm (M.out _) fun w1 hb1 => ?_); obtain ⟨hc1, hf1, hz1⟩ := bzz hb1; (try simp at hz1); (try have lt1 : w.heap.size < w1.heap.size := (by omega))))
   all_goals (first | (exfalso; omega) | (go_ret; exact ⟨rfl, belt⟩))
  by_cases m4 : ¬ tx.toList = []
  ·have E : errS (⟨1, ⟨x, y, wd, ht⟩, ⟨c0, c1, c2, c3⟩, ⟨b0, b1, b2, b3⟩, tx, nd⟩ : St) = 2 := by simp [errS, mis2, m4]
   rw [E]; clear E
   go_enter Tryz.func85, Tryz.ntmps85
   go_wp2_with (first | (go_at_call 55; (with_reducible refine cmm (M.out _) fun w1 hb1 => ?_); obtain ⟨hc1, hf1, hz1⟩ := bzz hb1; (try simp at hz1); (try have lt1 : w.heap.size < w1.heap.size := (by omega))))
   all_goals (first | (exfalso; omega) | (go_ret; exact ⟨rfl, belt⟩))
  replace m4 : tx.toList = [] := by simpa using m4
  cases m5 : eq4 b0 b1 b2 b3 0 0 0 0
  ·have E : errS (⟨1, ⟨x, y, wd, ht⟩, ⟨c0, c1, c2, c3⟩, ⟨b0, b1, b2, b3⟩, tx, nd⟩ : St) = 2 := by simp [errS, mis2, m5, Co.eqb, Co.none]
   rw [E]; clear E
   go_enter Tryz.func85, Tryz.ntmps85
   go_wp2_with (first | (go_at_call 55; (with_reducible refine cmm (M.out _) fun w1 hb1 => ?_); obtain ⟨hc1, hf1, hz1⟩ := bzz hb1; (try simp at hz1); (try have lt1 : w.heap.size < w1.heap.size := (by omega))))
   all_goals (first | (exfalso; omega) | (go_ret; exact ⟨rfl, belt⟩))
  have m0 : ¬ (tx.size : Int) > 65536 := by omega
  have f9 : decide ((tx.size : Int) ≤ 65536) = true := by simp; omega
  cases hm : mayR ⟨x, y, wd, ht⟩ <;> rw [hm] at M
  ·have E : errS (⟨1, ⟨x, y, wd, ht⟩, ⟨c0, c1, c2, c3⟩, ⟨b0, b1, b2, b3⟩, tx, nd⟩ : St) = 5 := by simp [errS, mis1, mis2, hm, Co.eqb, Co.none, Re.eqb, Re.none, m1, m2, m4, m5]; omega
   rw [E]; clear E
   go_enter Tryz.func85, Tryz.ntmps85
   go_wp2_with (first | (go_at_call 55; (with_reducible refine cmm (M.out _) fun w1 hb1 => ?_); obtain ⟨hc1, hf1, hz1⟩ := bzz hb1; (try simp at hz1); (try have lt1 : w.heap.size < w1.heap.size := (by omega))))
   all_goals (first | (exfalso; omega) | (go_ret; exact ⟨rfl, belt⟩))
  ·have E : errS (⟨1, ⟨x, y, wd, ht⟩, ⟨c0, c1, c2, c3⟩, ⟨b0, b1, b2, b3⟩, tx, nd⟩ : St) = 0 := by simp [errS, mis1, mis2, hm, Co.eqb, Co.none, Re.eqb, Re.none, m1, m2, m4, m5]; omega
   rw [E]; clear E
   go_enter Tryz.func85, Tryz.ntmps85
   go_wp2_with (first | (go_at_call 55; (with_reducible refine cmm (M.out _) fun w1 hb1 => ?_); obtain ⟨hc1, hf1, hz1⟩ := bzz hb1; (try simp at hz1); (try have lt1 : w.heap.size < w1.heap.size := (by omega))))
   all_goals (first | (exfalso; omega) | (go_ret; exact ⟨rfl, belt⟩))
 ·by_cases m1 : nd < 0
  ·have E : errS (⟨2, ⟨x, y, wd, ht⟩, ⟨c0, c1, c2, c3⟩, ⟨b0, b1, b2, b3⟩, tx, nd⟩ : St) = 2 := by simp [errS, mis1, m1]
   rw [E]; clear E
   go_enter Tryz.func85, Tryz.ntmps85
   go_wp2_with (first | (go_at_call 55; (with_reducible refine cmm (M.out _) fun w1 hb1 => ?_); obtain ⟨hc1, hf1, hz1⟩ := bzz hb1; (try simp at hz1); (try have lt1 : w.heap.size < w1.heap.size := (by omega))))
   all_goals (first | (exfalso; omega) | (go_ret; exact ⟨rfl, belt⟩))
  by_cases m2 : 1048576 < nd
  ·have E : errS (⟨2, ⟨x, y, wd, ht⟩, ⟨c0, c1, c2, c3⟩, ⟨b0, b1, b2, b3⟩, tx, nd⟩ : St) = 2 := by simp [errS, mis1, m2]
   rw [E]; clear E
   go_enter Tryz.func85, Tryz.ntmps85
   go_wp2_with (first | (go_at_call 55; (with_reducible refine cmm (M.out _) fun w1 hb1 => ?_); obtain ⟨hc1, hf1, hz1⟩ := bzz hb1; (try simp at hz1); (try have lt1 : w.heap.size < w1.heap.size := (by omega))))
   all_goals (first | (exfalso; omega) | (go_ret; exact ⟨rfl, belt⟩))
  by_cases m3 : 65536 < (tx.size : Int)
  ·have f9 : decide ((tx.size : Int) ≤ 65536) = false := by simp; omega
   have E : errS (⟨2, ⟨x, y, wd, ht⟩, ⟨c0, c1, c2, c3⟩, ⟨b0, b1, b2, b3⟩, tx, nd⟩ : St) = 2 := by simp [errS, mis1, m3]
   rw [E]; clear E
   go_enter Tryz.func85, Tryz.ntmps85
   go_wp2_with (first | (go_at_call 55; (with_reducible refine cmm (M.out _) fun w1 hb1 => ?_); obtain ⟨hc1, hf1, hz1⟩ := bzz hb1; (try simp at hz1); (try have lt1 : w.heap.size < w1.heap.size := (by omega))))
   all_goals (first | (exfalso; omega) | (go_ret; exact ⟨rfl, belt⟩))
  by_cases m4 : ¬ tx.toList = []
  ·have E : errS (⟨2, ⟨x, y, wd, ht⟩, ⟨c0, c1, c2, c3⟩, ⟨b0, b1, b2, b3⟩, tx, nd⟩ : St) = 2 := by simp [errS, mis2, m4]
   rw [E]; clear E
   go_enter Tryz.func85, Tryz.ntmps85
   go_wp2_with (first | (go_at_call 55; (with_reducible refine cmm (M.out _) fun w1 hb1 => ?_); obtain ⟨hc1, hf1, hz1⟩ := bzz hb1; (try simp at hz1); (try have lt1 : w.heap.size < w1.heap.size := (by omega))))
   all_goals (first | (exfalso; omega) | (go_ret; exact ⟨rfl, belt⟩))
  replace m4 : tx.toList = [] := by simpa using m4
  cases m5 : eq4 b0 b1 b2 b3 0 0 0 0
  ·have E : errS (⟨2, ⟨x, y, wd, ht⟩, ⟨c0, c1, c2, c3⟩, ⟨b0, b1, b2, b3⟩, tx, nd⟩ : St) = 2 := by simp [errS, mis2, m5, Co.eqb, Co.none]
   rw [E]; clear E
   go_enter Tryz.func85, Tryz.ntmps85
   go_wp2_with (first | (go_at_call 55; (with_reducible refine cmm (M.out _) fun w1 hb1 => ?_); obtain ⟨hc1, hf1, hz1⟩ := bzz hb1; (try simp at hz1); (try have lt1 : w.heap.size < w1.heap.size := (by omega))))
   all_goals (first | (exfalso; omega) | (go_ret; exact ⟨rfl, belt⟩))
  have m0 : ¬ (tx.size : Int) > 65536 := by omega
  have f9 : decide ((tx.size : Int) ≤ 65536) = true := by simp; omega
  cases hm : mayR ⟨x, y, wd, ht⟩ <;> rw [hm] at M
  ·have E : errS (⟨2, ⟨x, y, wd, ht⟩, ⟨c0, c1, c2, c3⟩, ⟨b0, b1, b2, b3⟩, tx, nd⟩ : St) = 5 := by simp [errS, mis1, mis2, hm, Co.eqb, Co.none, Re.eqb, Re.none, m1, m2, m4, m5]; omega
   rw [E]; clear E
   go_enter Tryz.func85, Tryz.ntmps85
   go_wp2_with (first | (go_at_call 55; (with_reducible refine cmm (M.out _) fun w1 hb1 => ?_); obtain ⟨hc1, hf1, hz1⟩ := bzz hb1; (try simp at hz1); (try have lt1 : w.heap.size < w1.heap.size := (by omega))))
   all_goals (first | (exfalso; omega) | (go_ret; exact ⟨rfl, belt⟩))
  ·have E : errS (⟨2, ⟨x, y, wd, ht⟩, ⟨c0, c1, c2, c3⟩, ⟨b0, b1, b2, b3⟩, tx, nd⟩ : St) = 0 := by simp [errS, mis1, mis2, hm, Co.eqb, Co.none, Re.eqb, Re.none, m1, m2, m4, m5]; omega
   rw [E]; clear E
   go_enter Tryz.func85, Tryz.ntmps85
   go_wp2_with (first | (go_at_call 55; (with_reducible refine cmm (M.out _) fun w1 hb1 => ?_); obtain ⟨hc1, hf1, hz1⟩ := bzz hb1; (try simp at hz1); (try have lt1 : w.heap.size < w1.heap.size := (by omega))))
   all_goals (first | (exfalso; omega) | (go_ret; exact ⟨rfl, belt⟩))
 ·by_cases m1 : nd < 0
  ·have E : errS (⟨3, ⟨x, y, wd, ht⟩, ⟨c0, c1, c2, c3⟩, ⟨b0, b1, b2, b3⟩, tx, nd⟩ : St) = 2 := by simp [errS, mis1, m1]
   rw [E]; clear E
   go_enter Tryz.func85, Tryz.ntmps85
   go_wp2_with (first | (go_at_call 55; (with_reducible refine cmm (M.out _) fun w1 hb1 => ?_); obtain ⟨hc1, hf1, hz1⟩ := bzz hb1; (try simp at hz1); (try have lt1 : w.heap.size < w1.heap.size := (by omega))))
   all_goals (first | (exfalso; omega) | (go_ret; exact ⟨rfl, belt⟩))
  by_cases m2 : 1048576 < nd
  ·have E : errS (⟨3, ⟨x, y, wd, ht⟩, ⟨c0, c1, c2, c3⟩, ⟨b0, b1, b2, b3⟩, tx, nd⟩ : St) = 2 := by simp [errS, mis1, m2]
   rw [E]; clear E
   go_enter Tryz.func85, Tryz.ntmps85
   go_wp2_with (first | (go_at_call 55; (with_reducible refine cmm (M.out _) fun w1 hb1 => ?_); obtain ⟨hc1, hf1, hz1⟩ := bzz hb1; (try simp at hz1); (try have lt1 : w.heap.size < w1.heap.size := (by omega))))
   all_goals (first | (exfalso; omega) | (go_ret; exact ⟨rfl, belt⟩))
  by_cases m3 : 65536 < (tx.size : Int)
  ·have f9 : decide ((tx.size : Int) ≤ 65536) = false := by simp; omega
   have E : errS (⟨3, ⟨x, y, wd, ht⟩, ⟨c0, c1, c2, c3⟩, ⟨b0, b1, b2, b3⟩, tx, nd⟩ : St) = 2 := by simp [errS, mis1, m3]
   rw [E]; clear E
   go_enter Tryz.func85, Tryz.ntmps85
   go_wp2_with (first | (go_at_call 55; (with_reducible refine cmm (M.out _) fun w1 hb1 => ?_); obtain ⟨hc1, hf1, hz1⟩ := bzz hb1; (try simp at hz1); (try have lt1 : w.heap.size < w1.heap.size := (by omega))))
   all_goals (first | (exfalso; omega) | (go_ret; exact ⟨rfl, belt⟩))
  have m0 : ¬ (tx.size : Int) > 65536 := by omega
  have f9 : decide ((tx.size : Int) ≤ 65536) = true := by simp; omega
  cases hm : mayR ⟨x, y, wd, ht⟩ <;> rw [hm] at M
  ·have E : errS (⟨3, ⟨x, y, wd, ht⟩, ⟨c0, c1, c2, c3⟩, ⟨b0, b1, b2, b3⟩, tx, nd⟩ : St) = 5 := by simp [errS, mis1, mis2, hm, Co.eqb, Co.none, Re.eqb, Re.none, m1, m2, m1]; omega
   rw [E]; clear E
   go_enter Tryz.func85, Tryz.ntmps85
   go_wp2_with (first | (go_at_call 55; (with_reducible refine cmm (M.out _) fun w1 hb1 => ?_); obtain ⟨hc1, hf1, hz1⟩ := bzz hb1; (try simp at hz1); (try have lt1 : w.heap.size < w1.heap.size := (by omega))))
   all_goals (first | (exfalso; omega) | (go_ret; exact ⟨rfl, belt⟩))
  ·have E : errS (⟨3, ⟨x, y, wd, ht⟩, ⟨c0, c1, c2, c3⟩, ⟨b0, b1, b2, b3⟩, tx, nd⟩ : St) = 0 := by simp [errS, mis1, mis2, hm, Co.eqb, Co.none, Re.eqb, Re.none, m1, m2, m1]; omega
   rw [E]; clear E
   go_enter Tryz.func85, Tryz.ntmps85
   go_wp2_with (first | (go_at_call 55; (with_reducible refine cmm (M.out _) fun w1 hb1 => ?_); obtain ⟨hc1, hf1, hz1⟩ := bzz hb1; (try simp at hz1); (try have lt1 : w.heap.size < w1.heap.size := (by omega))))
   all_goals (first | (exfalso; omega) | (go_ret; exact ⟨rfl, belt⟩))
 ·by_cases m1 : nd < 0
  ·have E : errS (⟨4, ⟨x, y, wd, ht⟩, ⟨c0, c1, c2, c3⟩, ⟨b0, b1, b2, b3⟩, tx, nd⟩ : St) = 2 := by simp [errS, mis1, m1]
   rw [E]; clear E
   go_enter Tryz.func85, Tryz.ntmps85
   go_wp2_with (first | (go_at_call 55; (with_reducible refine cmm (M.out _) fun w1 hb1 => ?_); obtain ⟨hc1, hf1, hz1⟩ := bzz hb1; (try simp at hz1); (try have lt1 : w.heap.size < w1.heap.size := (by omega))))
   all_goals (first | (exfalso; omega) | (go_ret; exact ⟨rfl, belt⟩))
  by_cases m2 : 1048576 < nd
  ·have E : errS (⟨4, ⟨x, y, wd, ht⟩, ⟨c0, c1, c2, c3⟩, ⟨b0, b1, b2, b3⟩, tx, nd⟩ : St) = 2 := by simp [errS, mis1, m2]
   rw [E]; clear E
   go_enter Tryz.func85, Tryz.ntmps85
   go_wp2_with (first | (go_at_call 55; (with_reducible refine cmm (M.out _) fun w1 hb1 => ?_); obtain ⟨hc1, hf1, hz1⟩ := bzz hb1; (try simp at hz1); (try have lt1 : w.heap.size < w1.heap.size := (by omega))))
   all_goals (first | (exfalso; omega) | (go_ret; exact ⟨rfl, belt⟩))
  by_cases m3 : 65536 < (tx.size : Int)
  ·have f9 : decide ((tx.size : Int) ≤ 65536) = false := by simp; omega
   have E : errS (⟨4, ⟨x, y, wd, ht⟩, ⟨c0, c1, c2, c3⟩, ⟨b0, b1, b2, b3⟩, tx, nd⟩ : St) = 2 := by simp [errS, mis1, m3]
   rw [E]; clear E
   go_enter Tryz.func85, Tryz.ntmps85
   go_wp2_with (first | (go_at_call 55; (with_reducible refine cmm (M.out _) fun w1 hb1 => ?_); obtain ⟨hc1, hf1, hz1⟩ := bzz hb1; (try simp at hz1); (try have lt1 : w.heap.size < w1.heap.size := (by omega))))
   all_goals (first | (exfalso; omega) | (go_ret; exact ⟨rfl, belt⟩))
  cases m8 : St.eqb ⟨4, ⟨x, y, wd, ht⟩, ⟨c0, c1, c2, c3⟩, ⟨b0, b1, b2, b3⟩, tx, nd⟩ ⟨4, ⟨x, y, wd, ht⟩, ⟨0, 0, 0, 0⟩, ⟨0, 0, 0, 0⟩, ⟨#[]⟩, nd⟩
  ·have E : errS (⟨4, ⟨x, y, wd, ht⟩, ⟨c0, c1, c2, c3⟩, ⟨b0, b1, b2, b3⟩, tx, nd⟩ : St) = 2 := by
    have h2 : mis2 (⟨4, ⟨x, y, wd, ht⟩, ⟨c0, c1, c2, c3⟩, ⟨b0, b1, b2, b3⟩, tx, nd⟩ : St) = true := by
     simp only [St.eqb, Re.eqb, Co.eqb] at m8; simp only [mis2, Co.eqb, Co.none, Re.eqb, Re.none]; rw [emp] at m8
     revert m8
     cases eq4 c0 c1 c2 c3 0 0 0 0 <;> cases eq4 b0 b1 b2 b3 0 0 0 0 <;> cases eq4 x y wd ht 0 0 0 0 <;> cases (tx.toList == []) <;> simp [eq4]
    simp [errS, h2]
   rw [E]; clear E
   go_enter Tryz.func85, Tryz.ntmps85
   go_wp2_with (first | (go_at_call 55; (with_reducible refine cmm (M.out _) fun w1 hb1 => ?_); obtain ⟨hc1, hf1, hz1⟩ := bzz hb1; (try simp at hz1); (try have lt1 : w.heap.size < w1.heap.size := (by omega))))
   all_goals (first | (exfalso; omega) | (go_ret; exact ⟨rfl, belt⟩))
  ·have E : errS (⟨4, ⟨x, y, wd, ht⟩, ⟨c0, c1, c2, c3⟩, ⟨b0, b1, b2, b3⟩, tx, nd⟩ : St) = if mayR ⟨x, y, wd, ht⟩ then 0 else 5 := by
    have h2 : mis2 (⟨4, ⟨x, y, wd, ht⟩, ⟨c0, c1, c2, c3⟩, ⟨b0, b1, b2, b3⟩, tx, nd⟩ : St) = false := by
     simp only [St.eqb, Re.eqb, Co.eqb] at m8; simp only [mis2, Co.eqb, Co.none, Re.eqb, Re.none]; rw [emp] at m8
     revert m8
     cases eq4 c0 c1 c2 c3 0 0 0 0 <;> cases eq4 b0 b1 b2 b3 0 0 0 0 <;> cases eq4 x y wd ht 0 0 0 0 <;> cases (tx.toList == []) <;> simp
    have h1 : mis1 (⟨4, ⟨x, y, wd, ht⟩, ⟨c0, c1, c2, c3⟩, ⟨b0, b1, b2, b3⟩, tx, nd⟩ : St) = false := by
     simp only [mis1]
     have m0 : ¬ (tx.size : Int) > 65536 := by omega
     simp [m1, m2, m0]
    simp [errS, h1, h2]
   cases hm : mayR ⟨x, y, wd, ht⟩ <;> rw [hm] at M E <;> simp only [if_true, Bool.false_eq_true, if_false] at M E
   ·rw [E]
    clear E
    go_enter Tryz.func85, Tryz.ntmps85
    go_wp2_with (first | (go_at_call 55; (with_reducible refine cmm (M.out _) fun w1 hb1 => ?_); obtain ⟨hc1, hf1, hz1⟩ := bzz hb1; (try simp at hz1); (try have lt1 : w.heap.size < w1.heap.size := (by omega))))
    all_goals (first | (exfalso; omega) | (go_ret; exact ⟨rfl, belt⟩))
   ·rw [E]
    clear E
    go_enter Tryz.func85, Tryz.ntmps85
    go_wp2_with (first | (go_at_call 55; (with_reducible refine cmm (M.out _) fun w1 hb1 => ?_); obtain ⟨hc1, hf1, hz1⟩ := bzz hb1; (try simp at hz1); (try have lt1 : w.heap.size < w1.heap.size := (by omega))))
    all_goals (first | (exfalso; omega) | (go_ret; exact ⟨rfl, belt⟩))
 ·by_cases m1 : nd < 0
  ·have E : errS (⟨5, ⟨x, y, wd, ht⟩, ⟨c0, c1, c2, c3⟩, ⟨b0, b1, b2, b3⟩, tx, nd⟩ : St) = 2 := by simp [errS, mis1, m1]
   rw [E]; clear E
   go_enter Tryz.func85, Tryz.ntmps85
   go_wp2_with (first | (go_at_call 55; (with_reducible refine cmm (M.out _) fun w1 hb1 => ?_); obtain ⟨hc1, hf1, hz1⟩ := bzz hb1; (try simp at hz1); (try have lt1 : w.heap.size < w1.heap.size := (by omega))))
   all_goals (first | (exfalso; omega) | (go_ret; exact ⟨rfl, belt⟩))
  by_cases m2 : 1048576 < nd
  ·have E : errS (⟨5, ⟨x, y, wd, ht⟩, ⟨c0, c1, c2, c3⟩, ⟨b0, b1, b2, b3⟩, tx, nd⟩ : St) = 2 := by simp [errS, mis1, m2]
   rw [E]; clear E
   go_enter Tryz.func85, Tryz.ntmps85
   go_wp2_with (first | (go_at_call 55; (with_reducible refine cmm (M.out _) fun w1 hb1 => ?_); obtain ⟨hc1, hf1, hz1⟩ := bzz hb1; (try simp at hz1); (try have lt1 : w.heap.size < w1.heap.size := (by omega))))
   all_goals (first | (exfalso; omega) | (go_ret; exact ⟨rfl, belt⟩))
  by_cases m3 : 65536 < (tx.size : Int)
  ·have f9 : decide ((tx.size : Int) ≤ 65536) = false := by simp; omega
   have E : errS (⟨5, ⟨x, y, wd, ht⟩, ⟨c0, c1, c2, c3⟩, ⟨b0, b1, b2, b3⟩, tx, nd⟩ : St) = 2 := by simp [errS, mis1, m3]
   rw [E]; clear E
   go_enter Tryz.func85, Tryz.ntmps85
   go_wp2_with (first | (go_at_call 55; (with_reducible refine cmm (M.out _) fun w1 hb1 => ?_); obtain ⟨hc1, hf1, hz1⟩ := bzz hb1; (try simp at hz1); (try have lt1 : w.heap.size < w1.heap.size := (by omega))))
   all_goals (first | (exfalso; omega) | (go_ret; exact ⟨rfl, belt⟩))
  cases m8 : St.eqb ⟨5, ⟨x, y, wd, ht⟩, ⟨c0, c1, c2, c3⟩, ⟨b0, b1, b2, b3⟩, tx, nd⟩ ⟨5, ⟨0, 0, 0, 0⟩, ⟨0, 0, 0, 0⟩, ⟨0, 0, 0, 0⟩, ⟨#[]⟩, nd⟩
  ·have E : errS (⟨5, ⟨x, y, wd, ht⟩, ⟨c0, c1, c2, c3⟩, ⟨b0, b1, b2, b3⟩, tx, nd⟩ : St) = 2 := by
    have h2 : mis2 (⟨5, ⟨x, y, wd, ht⟩, ⟨c0, c1, c2, c3⟩, ⟨b0, b1, b2, b3⟩, tx, nd⟩ : St) = true := by
     simp only [St.eqb, Re.eqb, Co.eqb] at m8; simp only [mis2, Co.eqb, Co.none, Re.eqb, Re.none]; rw [emp] at m8
     revert m8
     cases eq4 c0 c1 c2 c3 0 0 0 0 <;> cases eq4 b0 b1 b2 b3 0 0 0 0 <;> cases eq4 x y wd ht 0 0 0 0 <;> cases (tx.toList == []) <;> simp [eq4]
    simp [errS, h2]
   rw [E]; clear E
   go_enter Tryz.func85, Tryz.ntmps85
   go_wp2_with (first | (go_at_call 55; (with_reducible refine cmm (M.out _) fun w1 hb1 => ?_); obtain ⟨hc1, hf1, hz1⟩ := bzz hb1; (try simp at hz1); (try have lt1 : w.heap.size < w1.heap.size := (by omega))))
   all_goals (first | (exfalso; omega) | (go_ret; exact ⟨rfl, belt⟩))
  ·have E : errS (⟨5, ⟨x, y, wd, ht⟩, ⟨c0, c1, c2, c3⟩, ⟨b0, b1, b2, b3⟩, tx, nd⟩ : St) = if mayR ⟨x, y, wd, ht⟩ then 0 else 5 := by
    have h2 : mis2 (⟨5, ⟨x, y, wd, ht⟩, ⟨c0, c1, c2, c3⟩, ⟨b0, b1, b2, b3⟩, tx, nd⟩ : St) = false := by
     simp only [St.eqb, Re.eqb, Co.eqb] at m8; simp only [mis2, Co.eqb, Co.none, Re.eqb, Re.none]; rw [emp] at m8
     revert m8
     cases eq4 c0 c1 c2 c3 0 0 0 0 <;> cases eq4 b0 b1 b2 b3 0 0 0 0 <;> cases eq4 x y wd ht 0 0 0 0 <;> cases (tx.toList == []) <;> simp
    have h1 : mis1 (⟨5, ⟨x, y, wd, ht⟩, ⟨c0, c1, c2, c3⟩, ⟨b0, b1, b2, b3⟩, tx, nd⟩ : St) = false := by
     simp only [mis1]
     have m0 : ¬ (tx.size : Int) > 65536 := by omega
     simp [m1, m2, m0]
    simp [errS, h1, h2]
   cases hm : mayR ⟨x, y, wd, ht⟩ <;> rw [hm] at M E <;> simp only [if_true, Bool.false_eq_true, if_false] at M E
   ·rw [E]
    clear E
    go_enter Tryz.func85, Tryz.ntmps85
    go_wp2_with (first | (go_at_call 55; (with_reducible refine cmm (M.out _) fun w1 hb1 => ?_); obtain ⟨hc1, hf1, hz1⟩ := bzz hb1; (try simp at hz1); (try have lt1 : w.heap.size < w1.heap.size := (by omega))))
    all_goals (first | (exfalso; omega) | (go_ret; exact ⟨rfl, belt⟩))
   ·rw [E]
    clear E
    go_enter Tryz.func85, Tryz.ntmps85
    go_wp2_with (first | (go_at_call 55; (with_reducible refine cmm (M.out _) fun w1 hb1 => ?_); obtain ⟨hc1, hf1, hz1⟩ := bzz hb1; (try simp at hz1); (try have lt1 : w.heap.size < w1.heap.size := (by omega))))
    all_goals (first | (exfalso; omega) | (go_ret; exact ⟨rfl, belt⟩))
end
end
end Go.Proofs.YtfcphagmjijmkaaGreatDoor
