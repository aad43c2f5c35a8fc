/-
  Cells: how wide a rune is, by the program and by the document's answer.
-/
import Derived.LoopIn
import Derived.LoopNIn
import Derived.OwnWalkIn
import Derived.RangeFuncBound
import Derived.RangeFuncCalls
import Derived.RangeFuncLeaves
import Derived.RangeFuncNested
import Derived.Shelf.RegionOpen
import Derived.TacticsInMore
import Derived.Test.YtfcphagmjijmkaaGreatDoorDm4
namespace Go.Proofs.YtfcphagmjijmkaaGreatDoor
open Go.RowKit
set_option linter.unusedVariables false
set_option linter.unusedSimpArgs false
attribute [local go_sem] vwp vUpon_value vUpon_skip vUpon_enter vUpon_row
set_option maxHeartbeats 16000000
def encW (s : Int × Int) : List Value := [.int .i32 s.1, .int .i32 s.2]
theorem encW_len (s : Int × Int) : (encW s).length = 2 := rfl
def inL (r : Int) (l : List (Int × Int)) : Bool := l.any fun s => decide (s.1 ≤ r) && decide (r ≤ s.2)
theorem inL_step {l : List (Int × Int)} {k : Nat} {s : Int × Int} (h : l[k]? = some s) (r : Int) : inL r (l.drop k) = ((decide (s.1 ≤ r) && decide (r ≤ s.2)) || inL r (l.drop (k + 1))) := by
 rw [drop_get h]; rfl
def marksL : List (Int × Int) := [(0x300, 0x36F), (0x483, 0x489), (0x591, 0x5BD), (0x610, 0x61A), (0x64B, 0x65F), (0x200B, 0x200F), (0x202A, 0x202E), (0x2060, 0x2064), (0x20D0, 0x20FF), (0xFE00, 0xFE0F), (0xFE20, 0xFE2F), (0xE0100, 0xE01EF)]
def broadL : List (Int × Int) := [(0x1100, 0x115F), (0x2E80, 0x303E), (0x3041, 0x33FF), (0x3400, 0x4DBF), (0x4E00, 0x9FFF), (0xA000, 0xA4CF), (0xAC00, 0xD7A3), (0xF900, 0xFAFF), (0xFE30, 0xFE6F), (0xFF00, 0xFF60), (0xFFE0, 0xFFE6), (0x1F300, 0x1F64F), (0x1F900, 0x1F9FF), (0x20000, 0x3FFFD)]
def validR (r : Int) : Bool := (decide (0 ≤ r) && decide (r < 0xD800)) || (decide (0xDFFF < r) && decide (r ≤ 0x10FFFF))
def ctlR (r : Int) : Bool := (decide (0 ≤ r) && decide (r < 32)) || (decide (127 ≤ r) && decide (r ≤ 159))
def widR (r : Int) : Int := if validR r = false then 1 else if ctlR r || inL r marksL then 0 else if inL r broadL then 2 else 1
theorem mark_ge {r : Int} (h : r < 0x300) : inL r marksL = false := by
 simp only [inL, marksL, List.any_cons, List.any_nil, Bool.or_false, Bool.or_eq_false_iff, Bool.and_eq_false_iff, decide_eq_false_iff_not]; omega
theorem broad_ge {r : Int} (h : r < 0x1100) : inL r broadL = false := by
 simp only [inL, broadL, List.any_cons, List.any_nil, Bool.or_false, Bool.or_eq_false_iff, Bool.and_eq_false_iff, decide_eq_false_iff_not]; omega
theorem widR_bd (r : Int) : 0 ≤ widR r ∧ widR r ≤ 2 := by
 unfold widR; split; omega; split; omega; split <;> omega
theorem win_any (l : List (Int × Int)) (v : Value) (r : Int) (w : World) (hl : Row w.heap.size 2 encW w v l) :
  Calls Tryz.prog 143 #[.int .i32 r, v] w fun e w' => e = .returned (.bool (inL r l)) ∧ Below w.heap.size w w' := by
 obtain ⟨s0, cap, rfl, hmax⟩ := hl.shape
 have hopen := fun h0 => hl.open_ h0
 obtain ⟨n, en⟩ := exx (l.length); rw [en] at hopen hmax ⊢; obtain ⟨R, hR⟩ := exx (inL r l); rw [hR]; have hgo := hdh (show inL r (l.drop 0) = R from hR); replace hopen := hdh hopen; replace en := hdh en; unfold maxLen at hmax; clear hl hR
 go_enter Tryz.func143, Tryz.ntmps143
 go_wp2
 go_loopw [9] (fun iv wr => ∃ k : Nat, k ≤ n ∧ iv = .int .i64 k ∧ Hid (inL r (l.drop k) = R) ∧ Below w.heap.size w wr) (fun iv _ => n - (intOf iv).toNat)
 case atStart => exact ⟨0, Nat.zero_le _, rfl, hgo, Below.refl _ _⟩
 case round =>
  obtain ⟨k, hk, rfl, hgo, hbr⟩ := hrel; have zr := hbr.size
  by_cases hkn : k < n
  ·obtain ⟨b, o, cap', e, hb, _, _, hel⟩ := hopen.out (by omega)
   simp at e
   obtain ⟨rfl, rfl⟩ := e; obtain ⟨s, hs⟩ := get_at en.out hkn; have g0 : wr.cell? ⟨b, o + k * 2, none⟩ = some (.int .i32 s.1) := (hbr.cell (p := ⟨b, _, none⟩) hb).trans (hel k s hs 0 _ rfl); have g1 : wr.cell? ⟨b, o + k * 2 + 1, none⟩ = some (.int .i32 s.2) := (hbr.cell (p := ⟨b, _, none⟩) hb).trans (hel k s hs 1 _ rfl); have hg := hgo.out; rw [inL_step hs] at hg
   have hkk : (k : Int) < n := by omega
   have yb : b < wr.heap.size := by omega
   clear hel hs; obtain ⟨s1, s2⟩ := s; simp only at g0 g1 hg
   by_cases c1 : s1 ≤ r
   ·by_cases c2 : r ≤ s2
    ·have d1 : decide (s1 ≤ r) = true := decide_eq_true c1
     have d2 : decide (r ≤ s2) = true := decide_eq_true c2; rw [d1, d2] at hg; simp only [Bool.and_true, Bool.true_or] at hg; subst hg; go_wp2; go_ret; exact ⟨rfl, belt⟩
    ·have d1 : decide (s1 ≤ r) = true := decide_eq_true c1
     have d2 : decide (r ≤ s2) = false := decide_eq_false c2; rw [d1, d2] at hg; simp only [Bool.and_false, Bool.false_or] at hg; replace hg := hdh hg; go_wp2; go_roundw
     case rel => exact ⟨k + 1, by omega, by go_num, hg, belt⟩
     case measure => simp [intOf]; omega
   ·have d1 : decide (s1 ≤ r) = false := decide_eq_false c1
    rw [d1] at hg; simp only [Bool.false_and, Bool.false_or] at hg; replace hg := hdh hg; go_wp2; go_roundw
    case rel => exact ⟨k + 1, by omega, by go_num, hg, belt⟩
    case measure => simp [intOf]; omega
  ·obtain rfl : k = n := by omega
   have hg := hgo.out; rw [List.drop_eq_nil_of_le (by have := en.out; omega)] at hg; have hg : false = R := hg; subst hg; go_wp2; go_ret; exact ⟨rfl, hbr⟩
theorem Blk.spans {w : World} {cs : List Value} {xs : List (Int × Int)} (h : cs = xs.flatMap encW) (hm : xs.length ≤ 1000) : Row (w.alloc (.cells cs.toArray 249)).heap.size 2 encW (w.alloc (.cells cs.toArray 249)) (.slice (some ⟨w.heap.size, 0, none⟩) xs.length xs.length) xs :=
 Blk.row encW_len (Blk.new' rfl) (by rw [← h]; refine List.take_of_length_le ?_; rw [h]; simp [encW_len, List.map_const', List.sum_replicate_nat]) lrr (by unfold maxLen; omega) (by simp)
theorem marks_any (w : World) : Calls Tryz.prog 185 #[] w fun e w' => Below w.heap.size w w' ∧ ∃ v, e = .returned v ∧ Row w'.heap.size 2 encW w' v marksL := by
 go_enter Tryz.func185, Tryz.ntmps185
 go_wp2; go_ret; exact ⟨belt, _, rfl, Blk.spans (xs := marksL) rfl (by decide)⟩
theorem broad_any (w : World) : Calls Tryz.prog 144 #[] w fun e w' => Below w.heap.size w w' ∧ ∃ v, e = .returned v ∧ Row w'.heap.size 2 encW w' v broadL := by
 go_enter Tryz.func144, Tryz.ntmps144
 go_wp2; go_ret; exact ⟨belt, _, rfl, Blk.spans (xs := broadL) rfl (by decide)⟩
theorem mark_any (r : Int) (w : World) : Calls Tryz.prog 142 #[.int .i32 r] w fun e w' => e = .returned (.bool (inL r marksL)) ∧ Below w.heap.size w w' := by
 go_enter Tryz.func142, Tryz.ntmps142
 by_cases c : 0x300 ≤ r
 ·go_wp2_with fail
  refine (marks_any _).mono ?_
  rintro e w1 ⟨hb1, v, rfl, hrow⟩
  go_wp2_with fail
  refine (win_any _ _ _ _ hrow).mono ?_
  rintro e w2 ⟨rfl, hb2⟩
  go_wp2; go_ret; exact ⟨rfl, hb1.trans (hb2.mono hb1.size)⟩
 ·rw [mark_ge (by omega)]
  go_wp2; go_ret; exact ⟨rfl, belt⟩
theorem control_any (r : Int) (w : World) : Calls Tryz.prog 141 #[.int .i32 r] w fun e w' => e = .returned (.bool (ctlR r)) ∧ Below w.heap.size w w' := by
 go_enter Tryz.func141, Tryz.ntmps141
 by_cases c1 : 0 ≤ r
 ·by_cases c2 : r < 32
  ·have e : ctlR r = true := by unfold ctlR; simp; omega
   rw [e]; go_wp2; go_ret; exact ⟨rfl, belt⟩
  ·by_cases c3 : 127 ≤ r
   ·by_cases c4 : r ≤ 159
    ·have e : ctlR r = true := by unfold ctlR; simp; omega
     rw [e]; go_wp2; go_ret; exact ⟨rfl, belt⟩
    ·have e : ctlR r = false := by unfold ctlR; simp; omega
     rw [e]; go_wp2; go_ret; exact ⟨rfl, belt⟩
   ·have e : ctlR r = false := by unfold ctlR; simp; omega
    rw [e]; go_wp2; go_ret; exact ⟨rfl, belt⟩
 ·have c3 : ¬ 127 ≤ r := by omega
  have e : ctlR r = false := by unfold ctlR; simp; omega
  rw [e]; go_wp2; go_ret; exact ⟨rfl, belt⟩
theorem rcontrol_any (r : Int) (w : World) : Calls Tryz.prog 201 #[.int .i32 r] w fun e w' => e = .returned (.bool (ctlR r)) ∧ Below w.heap.size w w' := by
 go_enter Tryz.func201, Tryz.ntmps201
 by_cases c1 : 0 ≤ r
 ·by_cases c2 : r < 32
  ·have e : ctlR r = true := by unfold ctlR; simp; omega
   rw [e]; go_wp2; go_ret; exact ⟨rfl, belt⟩
  ·by_cases c3 : 127 ≤ r
   ·by_cases c4 : r ≤ 159
    ·have e : ctlR r = true := by unfold ctlR; simp; omega
     rw [e]; go_wp2; go_ret; exact ⟨rfl, belt⟩
    ·have e : ctlR r = false := by unfold ctlR; simp; omega
     rw [e]; go_wp2; go_ret; exact ⟨rfl, belt⟩
   ·have e : ctlR r = false := by unfold ctlR; simp; omega
    rw [e]; go_wp2; go_ret; exact ⟨rfl, belt⟩
 ·have c3 : ¬ 127 ≤ r := by omega
  have e : ctlR r = false := by unfold ctlR; simp; omega
  rw [e]; go_wp2; go_ret; exact ⟨rfl, belt⟩
theorem validRune_any (r : Int) (w : World) : Calls Tryz.prog 140 #[.int .i32 r] w fun e w' => e = .returned (.bool (validR r)) ∧ Below w.heap.size w w' := by
 go_enter Tryz.func140, Tryz.ntmps140
 by_cases c1 : 0 ≤ r
 ·by_cases c2 : r < 55296
  ·have e : validR r = true := by unfold validR; simp; omega
   rw [e]; go_wp2; go_ret; exact ⟨rfl, belt⟩
  ·by_cases c3 : 57343 < r
   ·by_cases c4 : r ≤ 1114111
    ·have e : validR r = true := by unfold validR; simp; omega
     rw [e]; go_wp2; go_ret; exact ⟨rfl, belt⟩
    ·have e : validR r = false := by unfold validR; simp; omega
     rw [e]; go_wp2; go_ret; exact ⟨rfl, belt⟩
   ·have e : validR r = false := by unfold validR; simp; omega
    rw [e]; go_wp2; go_ret; exact ⟨rfl, belt⟩
 ·have c3 : ¬ 57343 < r := by omega
  have e : validR r = false := by unfold validR; simp; omega
  rw [e]; go_wp2; go_ret; exact ⟨rfl, belt⟩
theorem width_any (r : Int) (w : World) : Calls Tryz.prog 99 #[.int .i32 r] w fun e w' => e = .returned (.int .i64 (widR r)) ∧ Below w.heap.size w w' := by
 obtain ⟨W, hW⟩ := exx (widR r); rw [hW]; unfold widR at hW; have V := validRune_any r; have C := control_any r; have M := mark_any r
 go_enter Tryz.func99, Tryz.ntmps99
 cases hv : validR r
 ·rw [hv] at V hW
  simp only [if_true] at hW; subst hW; replace V := hdh V
  go_wp2_with (go_at_call 140; (with_reducible refine cmm (V.out _) fun w1 hb1 => ?_); obtain ⟨hc1, hf1, hz1⟩ := bzz hb1; (try simp at hz1); (try have lt1 : w.heap.size < w1.heap.size := (by omega)))
  go_ret; exact ⟨rfl, belt⟩
 ·rw [hv] at V hW
  simp only [Bool.true_eq_false, if_false] at hW
  cases hc : ctlR r
  ·rw [hc] at C hW
   cases hm : inL r marksL
   ·rw [hm] at M hW
    simp only [Bool.or_self, Bool.false_eq_true, if_false] at hW
    by_cases c : 0x1100 ≤ r
    ·replace V := hdh V
     replace C := hdh C; replace M := hdh M; replace hW := hdh hW
     go_wp2_with (first | (go_at_call 140; (with_reducible refine cmm (V.out _) fun w1 hb1 => ?_); obtain ⟨hc1, hf1, hz1⟩ := bzz hb1; (try simp at hz1); (try have lt1 : w.heap.size < w1.heap.size := (by omega))) | (go_at_call 141; (with_reducible refine cmm (C.out _) fun w2 hb2 => ?_); obtain ⟨hc2, hf2, hz2⟩ := bzz hb2; (try simp at hz2); (try have lt2 : w.heap.size < w2.heap.size := (by omega))) | (go_at_call 142; (with_reducible refine cmm (M.out _) fun w3 hb3 => ?_); obtain ⟨hc3, hf3, hz3⟩ := bzz hb3; (try simp at hz3); (try have lt3 : w.heap.size < w3.heap.size := (by omega))) | (go_at_call 144; fail))
     refine (broad_any _).mono ?_
     rintro e w4 ⟨hb4, v, rfl, hrow⟩
     go_wp2_with fail
     refine (win_any _ _ _ _ hrow).mono ?_
     rintro e w5 ⟨rfl, hb5⟩
     have hW := hW.out; have z4 := hb4.size; have hbb : Below w.heap.size w w5 := belt
     cases hl : inL r broadL
     ·rw [hl] at hW
      simp only [Bool.false_eq_true, if_false] at hW; subst hW; go_wp2; go_ret; exact ⟨rfl, hbb⟩
     ·rw [hl] at hW
      simp only [if_true] at hW; subst hW; go_wp2; go_ret; exact ⟨rfl, hbb⟩
    ·rw [broad_ge (by omega)] at hW
     simp only [Bool.false_eq_true, if_false] at hW; subst hW; replace V := hdh V; replace C := hdh C; replace M := hdh M
     go_wp2_with (first | (go_at_call 140; (with_reducible refine cmm (V.out _) fun w1 hb1 => ?_); obtain ⟨hc1, hf1, hz1⟩ := bzz hb1; (try simp at hz1); (try have lt1 : w.heap.size < w1.heap.size := (by omega))) | (go_at_call 141; (with_reducible refine cmm (C.out _) fun w2 hb2 => ?_); obtain ⟨hc2, hf2, hz2⟩ := bzz hb2; (try simp at hz2); (try have lt2 : w.heap.size < w2.heap.size := (by omega))) | (go_at_call 142; (with_reducible refine cmm (M.out _) fun w3 hb3 => ?_); obtain ⟨hc3, hf3, hz3⟩ := bzz hb3; (try simp at hz3); (try have lt3 : w.heap.size < w3.heap.size := (by omega))))
     go_ret; exact ⟨rfl, belt⟩
   ·rw [hm] at M hW
    simp only [Bool.or_true, if_true] at hW; subst hW; replace V := hdh V; replace C := hdh C; replace M := hdh M
    go_wp2_with (first | (go_at_call 140; (with_reducible refine cmm (V.out _) fun w1 hb1 => ?_); obtain ⟨hc1, hf1, hz1⟩ := bzz hb1; (try simp at hz1); (try have lt1 : w.heap.size < w1.heap.size := (by omega))) | (go_at_call 141; (with_reducible refine cmm (C.out _) fun w2 hb2 => ?_); obtain ⟨hc2, hf2, hz2⟩ := bzz hb2; (try simp at hz2); (try have lt2 : w.heap.size < w2.heap.size := (by omega))) | (go_at_call 142; (with_reducible refine cmm (M.out _) fun w3 hb3 => ?_); obtain ⟨hc3, hf3, hz3⟩ := bzz hb3; (try simp at hz3); (try have lt3 : w.heap.size < w3.heap.size := (by omega))))
    go_ret; exact ⟨rfl, belt⟩
  ·rw [hc] at C hW
   simp only [Bool.true_or, if_true] at hW; subst hW; replace V := hdh V; replace C := hdh C
   go_wp2_with (first | (go_at_call 140; (with_reducible refine cmm (V.out _) fun w1 hb1 => ?_); obtain ⟨hc1, hf1, hz1⟩ := bzz hb1; (try simp at hz1); (try have lt1 : w.heap.size < w1.heap.size := (by omega))) | (go_at_call 141; (with_reducible refine cmm (C.out _) fun w2 hb2 => ?_); obtain ⟨hc2, hf2, hz2⟩ := bzz hb2; (try simp at hz2); (try have lt2 : w.heap.size < w2.heap.size := (by omega))))
   go_ret; exact ⟨rfl, belt⟩
/-! ### the document's answer -/
def RowP (B : Nat) (w : World) (v : Value) (l : List (Int × Int)) : Prop :=
 ∃ b cap, v = .slice (some ⟨b, 0, none⟩) (2 * l.length) cap ∧ b < B ∧ ∀ (k : Nat) s, l[k]? = some s → w.cell? ⟨b, 2 * k, none⟩ = some (.int .i32 s.1) ∧ w.cell? ⟨b, 2 * k + 1, none⟩ = some (.int .i32 s.2)
theorem among_any (l : List (Int × Int)) (v : Value) (r : Int) (w : World) (hl : RowP w.heap.size w v l) (hm : l.length ≤ 1000) :
  Calls Tryz.prog 219 #[.int .i32 r, v] w fun e w' => e = .returned (.bool (inL r l)) ∧ Below w.heap.size w w' := by
 obtain ⟨b, cap, rfl, hb, hel⟩ := hl; obtain ⟨n, en⟩ := exx (l.length); rw [en] at hm ⊢; obtain ⟨R, hR⟩ := exx (inL r l); rw [hR]; have hgo := hdh (show inL r (l.drop 0) = R from hR); replace hel := hdh hel; replace en := hdh en; clear hR; obtain ⟨N, hN⟩ := exx (2 * n); rw [hN]
 have hN16 : N ≤ 2000 := by omega
 go_enter Tryz.func219, Tryz.ntmps219
 go_wp2
 go_loopw [5] (fun iv wr => ∃ k m : Nat, Hid (m = 2 * k) ∧ k ≤ n ∧ iv = .int .i64 m ∧ Hid (inL r (l.drop k) = R) ∧ Below w.heap.size w wr) (fun iv _ => N - (intOf iv).toNat)
 case atStart => exact ⟨0, 0, hdh rfl, Nat.zero_le _, rfl, hgo, Below.refl _ _⟩
 case round =>
  obtain ⟨k, m, em, hk, rfl, hgo, hbr⟩ := hrel; have zr := hbr.size
  by_cases hkn : k < n
  ·obtain ⟨s, hs⟩ := get_at en.out hkn
   have g0 := (hbr.cell (p := ⟨b, 2 * k, none⟩) hb).trans (hel.out k s hs).1; have g1 := (hbr.cell (p := ⟨b, 2 * k + 1, none⟩) hb).trans (hel.out k s hs).2; rw [← em.out] at g0 g1; have em' := em.out; have hg := hgo.out; rw [inL_step hs] at hg
   have hmm : (m : Int) + 1 < N := by omega
   have hmN : m < N := by omega
   have hmN1 : m + 1 < N := by omega
   have yb : b < wr.heap.size := by omega
   clear hs em'; obtain ⟨s1, s2⟩ := s; simp only at g0 g1 hg
   by_cases c1 : s1 ≤ r
   ·by_cases c2 : r ≤ s2
    ·have d1 : decide (s1 ≤ r) = true := decide_eq_true c1
     have d2 : decide (r ≤ s2) = true := decide_eq_true c2; rw [d1, d2] at hg; simp only [Bool.and_true, Bool.true_or] at hg; subst hg; go_wp2; go_ret; exact ⟨rfl, belt⟩
    ·have d1 : decide (s1 ≤ r) = true := decide_eq_true c1
     have d2 : decide (r ≤ s2) = false := decide_eq_false c2; rw [d1, d2] at hg; simp only [Bool.and_false, Bool.false_or] at hg; replace hg := hdh hg; go_wp2; go_roundw
     case rel => exact ⟨k + 1, m + 2, hdh (by have := em.out; omega), by omega, by go_num, hg, belt⟩
     case measure => simp [intOf]; omega
   ·have d1 : decide (s1 ≤ r) = false := decide_eq_false c1
    rw [d1] at hg; simp only [Bool.false_and, Bool.false_or] at hg; replace hg := hdh hg; go_wp2; go_roundw
    case rel => exact ⟨k + 1, m + 2, hdh (by have := em.out; omega), by omega, by go_num, hg, belt⟩
    case measure => simp [intOf]; omega
  ·obtain rfl : k = n := by omega
   have hg := hgo.out; rw [List.drop_eq_nil_of_le (by have := en.out; omega)] at hg; have hg : false = R := hg; subst hg; have hmm : decide ((m : Int) + 1 < (N : Int)) = false := decide_eq_false (by have := em.out; omega); have hmm2 : ¬ (m : Int) + 1 < (N : Int) := of_decide_eq_false hmm
   have hmm3 : ¬ m + 1 < N := by omega
   have hm2 : m ≤ 2000 := by have := em.out; omega
   go_wp2; go_ret; exact ⟨rfl, hbr⟩
theorem rowP_new {w : World} {cs : List Value} {xs : List (Int × Int)} (h : cs = xs.flatMap encW) {n : Nat} (hn : n = 2 * xs.length) : RowP (w.alloc (.cells cs.toArray 21)).heap.size (w.alloc (.cells cs.toArray 21)) (.slice (some ⟨w.heap.size, 0, none⟩) n n) xs := by
 subst hn; refine ⟨_, _, rfl, by simp, fun k s hs => ?_⟩; have hB : Blk (w.alloc (.cells cs.toArray 21)) w.heap.size cs 21 := Blk.new' rfl
 have hk : ∀ (xs : List (Int × Int)) (k : Nat), xs[k]? = some s → (xs.flatMap encW)[2 * k]? = some (.int .i32 s.1) ∧ (xs.flatMap encW)[2 * k + 1]? = some (.int .i32 s.2) := by
  intro xs
  induction xs with
  | nil => intro k h; simp at h
  | cons x xs ih =>
   intro k h
   cases k with
   | zero =>
    simp at h; subst h
    exact ⟨rfl, rfl⟩
   | succ k =>
    have := ih k (by simpa using h); rw [List.flatMap_cons]; exact this
 have hc := hk xs k hs; rw [← h] at hc; exact ⟨hB.cell hc.1, hB.cell hc.2⟩
theorem rmark_any (r : Int) (w : World) : Calls Tryz.prog 202 #[.int .i32 r] w fun e w' => e = .returned (.bool (inL r marksL)) ∧ Below w.heap.size w w' := by
 go_enter Tryz.func202, Tryz.ntmps202
 go_wp2_with fail
 refine (among_any marksL _ _ _ (rowP_new rfl rfl) (by decide)).mono ?_
 rintro e w2 ⟨rfl, hb2⟩
 go_wp2; go_ret; exact ⟨rfl, belt⟩
theorem rwide_any (r : Int) (w : World) : Calls Tryz.prog 203 #[.int .i32 r] w fun e w' => e = .returned (.bool (inL r broadL)) ∧ Below w.heap.size w w' := by
 go_enter Tryz.func203, Tryz.ntmps203
 go_wp2_with fail
 refine (among_any broadL _ _ _ (rowP_new rfl rfl) (by decide)).mono ?_
 rintro e w2 ⟨rfl, hb2⟩
 go_wp2; go_ret; exact ⟨rfl, belt⟩
theorem valid_of {r : Int} : validR r = false ↔ (r < 0 ∨ 1114111 < r ∨ (55296 ≤ r ∧ r ≤ 57343)) := by
 unfold validR; simp only [Bool.or_eq_false_iff, Bool.and_eq_false_iff, decide_eq_false_iff_not]; omega
theorem rwidth_any (r : Int) (w : World) : Calls Tryz.prog 174 #[.int .i32 r] w fun e w' => e = .returned (.int .i64 (widR r)) ∧ Below w.heap.size w w' := by
 obtain ⟨W, hW⟩ := exx (widR r); rw [hW]; unfold widR at hW; have C := rcontrol_any r; have M := rmark_any r; have D := rwide_any r
 go_enter Tryz.func174, Tryz.ntmps174
 cases hv : validR r
 ·rw [hv] at hW
  simp only [if_true] at hW; subst hW; have hv := valid_of.1 hv
  by_cases q1 : r < 0
  ·go_wp2
   go_ret; exact ⟨rfl, belt⟩
  ·by_cases q2 : 1114111 < r
   ·go_wp2
    go_ret; exact ⟨rfl, belt⟩
   ·have q3 : 55296 ≤ r := by omega
    have q4 : r ≤ 57343 := by omega
    go_wp2; go_ret; exact ⟨rfl, belt⟩
 ·rw [hv] at hW
  simp only [Bool.true_eq_false, if_false] at hW
  have hv : ¬ (r < 0 ∨ 1114111 < r ∨ (55296 ≤ r ∧ r ≤ 57343)) := fun h => by rw [valid_of.2 h] at hv; cases hv
  have q1 : ¬ r < 0 := fun h => hv (.inl h)
  have q2 : ¬ 1114111 < r := fun h => hv (.inr (.inl h))
  obtain ⟨N1, hN1⟩ := exx (ctlR r); obtain ⟨N2, hN2⟩ := exx (inL r marksL); obtain ⟨N3, hN3⟩ := exx (inL r broadL); rw [hN1] at C hW; rw [hN2] at M hW; rw [hN3] at D hW; clear hN1 hN2 hN3
  by_cases q3 : 55296 ≤ r
  ·have q4 : ¬ r ≤ 57343 := fun h => hv (.inr (.inr ⟨q3, h⟩))
   clear hv; replace C := hdh C; replace M := hdh M; replace D := hdh D
   cases N1
   ·cases N2
    ·cases N3
     ·simp at hW; subst hW
      go_wp2_with (first | (go_at_call 201; (with_reducible refine cmm (C.out _) fun w2 hb2 => ?_); obtain ⟨hc2, hf2, hz2⟩ := bzz hb2; (try simp at hz2); (try have lt2 : w.heap.size < w2.heap.size := (by omega))) | (go_at_call 202; (with_reducible refine cmm (M.out _) fun w3 hb3 => ?_); obtain ⟨hc3, hf3, hz3⟩ := bzz hb3; (try simp at hz3); (try have lt3 : w.heap.size < w3.heap.size := (by omega))) | (go_at_call 203; (with_reducible refine cmm (D.out _) fun w4 hb4 => ?_); obtain ⟨hc4, hf4, hz4⟩ := bzz hb4; (try simp at hz4); (try have lt4 : w.heap.size < w4.heap.size := (by omega))))
      go_ret; exact ⟨rfl, belt⟩
     ·simp at hW; subst hW
      go_wp2_with (first | (go_at_call 201; (with_reducible refine cmm (C.out _) fun w2 hb2 => ?_); obtain ⟨hc2, hf2, hz2⟩ := bzz hb2; (try simp at hz2); (try have lt2 : w.heap.size < w2.heap.size := (by omega))) | (go_at_call 202; (with_reducible refine cmm (M.out _) fun w3 hb3 => ?_); obtain ⟨hc3, hf3, hz3⟩ := bzz hb3; (try simp at hz3); (try have lt3 : w.heap.size < w3.heap.size := (by omega))) | (go_at_call 203; (with_reducible refine cmm (D.out _) fun w4 hb4 => ?_); obtain ⟨hc4, hf4, hz4⟩ := bzz hb4; (try simp at hz4); (try have lt4 : w.heap.size < w4.heap.size := (by omega))))
      go_ret; exact ⟨rfl, belt⟩
    ·simp at hW; subst hW
     go_wp2_with (first | (go_at_call 201; (with_reducible refine cmm (C.out _) fun w2 hb2 => ?_); obtain ⟨hc2, hf2, hz2⟩ := bzz hb2; (try simp at hz2); (try have lt2 : w.heap.size < w2.heap.size := (by omega))) | (go_at_call 202; (with_reducible refine cmm (M.out _) fun w3 hb3 => ?_); obtain ⟨hc3, hf3, hz3⟩ := bzz hb3; (try simp at hz3); (try have lt3 : w.heap.size < w3.heap.size := (by omega))) | (go_at_call 203; (with_reducible refine cmm (D.out _) fun w4 hb4 => ?_); obtain ⟨hc4, hf4, hz4⟩ := bzz hb4; (try simp at hz4); (try have lt4 : w.heap.size < w4.heap.size := (by omega))))
     go_ret; exact ⟨rfl, belt⟩
   ·simp at hW; subst hW
    go_wp2_with (first | (go_at_call 201; (with_reducible refine cmm (C.out _) fun w2 hb2 => ?_); obtain ⟨hc2, hf2, hz2⟩ := bzz hb2; (try simp at hz2); (try have lt2 : w.heap.size < w2.heap.size := (by omega))) | (go_at_call 202; (with_reducible refine cmm (M.out _) fun w3 hb3 => ?_); obtain ⟨hc3, hf3, hz3⟩ := bzz hb3; (try simp at hz3); (try have lt3 : w.heap.size < w3.heap.size := (by omega))) | (go_at_call 203; (with_reducible refine cmm (D.out _) fun w4 hb4 => ?_); obtain ⟨hc4, hf4, hz4⟩ := bzz hb4; (try simp at hz4); (try have lt4 : w.heap.size < w4.heap.size := (by omega))))
    go_ret; exact ⟨rfl, belt⟩
  ·clear hv
   replace C := hdh C; replace M := hdh M; replace D := hdh D
   cases N1
   ·cases N2
    ·cases N3
     ·simp at hW; subst hW
      go_wp2_with (first | (go_at_call 201; (with_reducible refine cmm (C.out _) fun w2 hb2 => ?_); obtain ⟨hc2, hf2, hz2⟩ := bzz hb2; (try simp at hz2); (try have lt2 : w.heap.size < w2.heap.size := (by omega))) | (go_at_call 202; (with_reducible refine cmm (M.out _) fun w3 hb3 => ?_); obtain ⟨hc3, hf3, hz3⟩ := bzz hb3; (try simp at hz3); (try have lt3 : w.heap.size < w3.heap.size := (by omega))) | (go_at_call 203; (with_reducible refine cmm (D.out _) fun w4 hb4 => ?_); obtain ⟨hc4, hf4, hz4⟩ := bzz hb4; (try simp at hz4); (try have lt4 : w.heap.size < w4.heap.size := (by omega))))
      go_ret; exact ⟨rfl, belt⟩
     ·simp at hW; subst hW
      go_wp2_with (first | (go_at_call 201; (with_reducible refine cmm (C.out _) fun w2 hb2 => ?_); obtain ⟨hc2, hf2, hz2⟩ := bzz hb2; (try simp at hz2); (try have lt2 : w.heap.size < w2.heap.size := (by omega))) | (go_at_call 202; (with_reducible refine cmm (M.out _) fun w3 hb3 => ?_); obtain ⟨hc3, hf3, hz3⟩ := bzz hb3; (try simp at hz3); (try have lt3 : w.heap.size < w3.heap.size := (by omega))) | (go_at_call 203; (with_reducible refine cmm (D.out _) fun w4 hb4 => ?_); obtain ⟨hc4, hf4, hz4⟩ := bzz hb4; (try simp at hz4); (try have lt4 : w.heap.size < w4.heap.size := (by omega))))
      go_ret; exact ⟨rfl, belt⟩
    ·simp at hW; subst hW
     go_wp2_with (first | (go_at_call 201; (with_reducible refine cmm (C.out _) fun w2 hb2 => ?_); obtain ⟨hc2, hf2, hz2⟩ := bzz hb2; (try simp at hz2); (try have lt2 : w.heap.size < w2.heap.size := (by omega))) | (go_at_call 202; (with_reducible refine cmm (M.out _) fun w3 hb3 => ?_); obtain ⟨hc3, hf3, hz3⟩ := bzz hb3; (try simp at hz3); (try have lt3 : w.heap.size < w3.heap.size := (by omega))) | (go_at_call 203; (with_reducible refine cmm (D.out _) fun w4 hb4 => ?_); obtain ⟨hc4, hf4, hz4⟩ := bzz hb4; (try simp at hz4); (try have lt4 : w.heap.size < w4.heap.size := (by omega))))
     go_ret; exact ⟨rfl, belt⟩
   ·simp at hW; subst hW
    go_wp2_with (first | (go_at_call 201; (with_reducible refine cmm (C.out _) fun w2 hb2 => ?_); obtain ⟨hc2, hf2, hz2⟩ := bzz hb2; (try simp at hz2); (try have lt2 : w.heap.size < w2.heap.size := (by omega))) | (go_at_call 202; (with_reducible refine cmm (M.out _) fun w3 hb3 => ?_); obtain ⟨hc3, hf3, hz3⟩ := bzz hb3; (try simp at hz3); (try have lt3 : w.heap.size < w3.heap.size := (by omega))) | (go_at_call 203; (with_reducible refine cmm (D.out _) fun w4 hb4 => ?_); obtain ⟨hc4, hf4, hz4⟩ := bzz hb4; (try simp at hz4); (try have lt4 : w.heap.size < w4.heap.size := (by omega))))
    go_ret; exact ⟨rfl, belt⟩
structure KeptBut (X : Nat → Prop) (W W' : World) : Prop where
 os : W'.os = W.os
 tape : W'.tape = W.tape
 output : W'.output = W.output
 size : W.heap.size ≤ W'.heap.size
 same : ∀ k, k < W.heap.size → ¬ X k → W'.heap[k]? = W.heap[k]?
theorem KeptBut.refl (X : Nat → Prop) (W : World) : KeptBut X W W := ⟨rfl, rfl, rfl, Nat.le_refl _, fun _ _ _ => rfl⟩
theorem KeptBut.trans {X : Nat → Prop} {A B C : World} (h : KeptBut X A B) (k : KeptBut X B C) : KeptBut X A C :=
 ⟨k.os.trans h.os, k.tape.trans h.tape, k.output.trans h.output, Nat.le_trans h.size k.size, fun i hi hx => (k.same i (Nat.lt_of_lt_of_le hi h.size) hx).trans (h.same i hi hx)⟩
theorem KeptBut.wider {X Y : Nat → Prop} {A B : World} (h : KeptBut X A B) (hXY : ∀ k, X k → Y k) : KeptBut Y A B := ⟨h.os, h.tape, h.output, h.size, fun i hi hy => h.same i hi (fun hx => hy (hXY i hx))⟩
theorem KeptBut.below {X : Nat → Prop} {A B C : World} (h : KeptBut X A B) (hb : Below B.heap.size B C) : KeptBut X A C :=
 h.trans ⟨hb.os, hb.tape, hb.output, hb.size, fun k hk _ => hb.block k hk⟩
theorem KeptBut.alloc {X : Nat → Prop} {A B : World} (h : KeptBut X A B) (o : Obj) : KeptBut X A (B.alloc o) := h.below ((Below.refl _ B).alloc lrr o)
theorem KeptBut.setCell {X : Nat → Prop} {A B : World} (h : KeptBut X A B) (p : Addr) (v : Value) (hp : X p.block) : KeptBut X A (B.setCell p v) :=
 h.trans ⟨rfl, rfl, rfl, (KeepsWalks.setCell B p v).size, fun k _ hx => Below.heap_setCell B p v k (fun e => hx (e ▸ hp))⟩
theorem KeptBut.putObj {X : Nat → Prop} {A B : World} (h : KeptBut X A B) (l : Nat) (o : Obj) (hl : X l) : KeptBut X A (B.putObj l o) :=
 h.trans ⟨rfl, rfl, rfl, by simp, fun k _ hx => World.putObj_heap_other (fun e => hx (e ▸ hl))⟩
theorem KeptBut.toBelow {X : Nat → Prop} {n : Nat} {A B C : World} (hb : Below n A B) (h : KeptBut X B C) (hn : n ≤ B.heap.size) (hx : ∀ k, k < n → ¬ X k) : Below n A C :=
 hb.trans ⟨h.os, h.tape, h.output, h.size, fun k hk => h.same k (by omega) (hx k hk)⟩
def keepsIn (lo hi : Nat) (W W' : World) : Prop := ∀ k, lo ≤ k → k < hi → W'.heap[k]? = W.heap[k]?
def IterOwn (n : Nat) (P : Program) (g : Nat) (lb : Array Value) (B lo hi : Nat) (xs : List ByteArray) (w : World) : Prop :=
 ∀ (l : Nat) (J : List ByteArray → World → Prop) (W : World), keepsIn lo hi w W → hi ≤ W.heap.size →
  (∀ pre W1 W2, J pre W1 → KeptBut (· = B) W1 W2 → J pre W2) →
  (∀ pre x rest W1, pre ++ x :: rest = xs → J pre W1 → YieldAt Fence.wide (n - 1) P l #[.string x] W1 fun e W2 => e = .returned (.bool true) ∧ J (pre ++ [x]) W2 ∧ keepsIn lo hi W1 W2 ∧ W1.heap.size ≤ W2.heap.size) →
  J [] W → CallsIn Fence.wide n P g (#[.func (.yield l) #[] #[]] ++ lb) W fun e W' => (∃ v, e = .returned v) ∧ J xs W'
def roundEnd (lo hi D : Nat) (I : World → Prop) (W : World) : Exit → Act → World → Prop
 | .normal, _, W' => I W' ∧ W.heap.size ≤ W'.heap.size ∧ keepsIn lo hi W W' ∧ keepsIn D (D + 2) W W'
 | _, _, _ => False
theorem wpIn_range_own {P : Program} {n : Nat} {g : Operand} {ps : Array Tmp} {assign body : Code} {Q : Exit → Act → World → Prop} {a : Act} {w : World} {gf : Nat} {lb : Array Value}
  (hg : a.eval g = .func (.func gf) #[] lb) (eg : ∀ args w, (callFunc gf args).run P w = .ok (.enter gf args) w) {B lo hi : Nat} {xs : List ByteArray} (hseq : IterOwn (n - 1) P gf lb B lo hi xs w)
  (hB : lo ≤ B) (hB2 : B < hi) (hhi : hi ≤ w.heap.size) (hps : ps.size = 1)
  (I : List ByteArray → World → Prop) (hI : ∀ pre W W', I pre W → KeptBut (fun k => k = B ∨ k = w.heap.size ∨ k = w.heap.size + 1) W W' → I pre W') (h0 : I [] w) (a₁ : ByteArray → Act)
  (hassign : ∀ (l : Nat) (x : ByteArray) (W : World) (K : Act → World → Prop), K (a₁ x) W →
   assign.wpIn (Fence.wide.inRound l) (n - 1 - 1) P (Exit.then K (fun _ _ _ => False)) { tmps := (ps.zip #[Value.string x]).foldl (fun t (p, v) => t.setIfInBounds p v) a.tmps, defers := [] } W)
  (hbody : ∀ (l : Nat) (pre : List ByteArray) (x : ByteArray) (rest : List ByteArray) (W : World), pre ++ x :: rest = xs → I pre W → w.heap.size + 2 ≤ W.heap.size → body.wpIn (Fence.wide.inRound l) (n - 1 - 1) P (roundEnd lo hi w.heap.size (I (pre ++ [x])) W) (a₁ x) W)
  (hdone : ∀ (W : World), I xs W → W.heap[w.heap.size]? = some (.deferred (some [])) → Q .normal { a with defers := { target := .collected w.heap.size, args := #[] } :: a.defers } W) :
  (Code.rangeFunc g ps assign body).wpIn Fence.wide n P Q a w := by
 refine wpIn_rangeFunc ?_
 intro fn _
 obtain ⟨rc, hrc⟩ : ∃ rc : LoopState → Loop, rc = fun st => { state := st, pending := none, fn, tmps := a.tmps, params := ps, assign, body, defers := w.heap.size } := ⟨_, rfl⟩
 obtain ⟨W1, hW1⟩ := exx ((w.alloc (.deferred (some []))).alloc (.loop (rc .ready)))
 have kW1 : KeptBut (fun k => k = B ∨ k = w.heap.size ∨ k = w.heap.size + 1) w W1 := by rw [← hW1]; exact ((KeptBut.refl _ _).alloc _).alloc _
 have sW1 : W1.heap.size = w.heap.size + 2 := by rw [← hW1]; simp
 have hL1 : W1.heap[w.heap.size + 1]? = some (.loop (rc .ready)) := by
  have := World.alloc_heap_new (w.alloc (.deferred (some []))) (.loop (rc .ready)); rw [World.size_alloc, hW1] at this; exact this
 have hD1 : W1.heap[w.heap.size]? = some (.deferred (some [])) := by
  rw [← hW1]; exact (Below.heap_alloc _ _ _ (by simp)).trans (World.alloc_heap_new w _)
 have hround : Fence.wide.round = none := rfl
 refine ⟨w.heap.size + 1, [{ target := .collected w.heap.size, args := #[] }], W1, { target := .fn (.func gf) lb, args := #[.func (.yield (w.heap.size + 1)) #[] #[]] }, W1, gf,
  #[.func (.yield (w.heap.size + 1)) #[] #[]] ++ lb, W1, ?_, ?_, fun _ _ => trivial, ?_, fun h => ?_, ?_⟩
 ·rw [hround, ← hW1, hrc]; exact run_enterLoop_outer _ _ _ _ _
 ·simp only [resolve, hg]
  simp [go_sem]
 ·simp [invoke, go_sem, eg]
 ·simp [Fence.wide] at h
 ·refine (hseq (w.heap.size + 1) (fun pre W => I pre W ∧ w.heap.size + 2 ≤ W.heap.size ∧ W.heap[w.heap.size + 1]? = some (.loop (rc .ready)) ∧ W.heap[w.heap.size]? = some (.deferred (some []))) W1
   (fun k _ h2 => by rw [← hW1]; exact (Below.heap_alloc _ _ _ (by simp; omega)).trans (Below.heap_alloc _ _ _ (by omega))) (by omega) ?_ ?_ ⟨hI _ _ _ h0 kW1, by omega, hL1, hD1⟩).mono ?_
  ·rintro pre A C ⟨hi1, hs, hl, hd⟩ hk
   refine ⟨hI _ _ _ hi1 (hk.wider (fun k e => .inl e)), Nat.le_trans hs hk.size, (hk.same _ (by omega) (by omega)).trans hl, (hk.same _ (by omega) (by omega)).trans hd⟩
  ·rintro pre x rest W hpre ⟨hi1, hs, hl, hd⟩
   have hy := run_yield (P := P) (args := #[Value.string x]) hl (by rw [hrc]; exact hps.symm); rw [hrc] at hy; refine ⟨fn, _, assign, body, hy, roundIn_of_wpIn trivial (hassign _ x W _ ⟨_, run_beginRound hl (by rw [hrc]), ?_⟩)⟩; have hkb : KeptBut (fun k => k = B ∨ k = w.heap.size ∨ k = w.heap.size + 1) W (W.putObj (w.heap.size + 1) (.loop { rc .ready with state := .busy })) := (KeptBut.refl _ _).putObj _ _ (.inr (.inr rfl)); have hl2 : (W.putObj (w.heap.size + 1) (.loop { rc .ready with state := .busy })).heap[w.heap.size + 1]? = some (.loop { rc .ready with state := .busy }) := World.putObj_heap_same (by omega)
   have hd2 : (W.putObj (w.heap.size + 1) (.loop { rc .ready with state := .busy })).heap[w.heap.size]? = some (.deferred (some [])) := (World.putObj_heap_other (by omega)).trans hd
   have hlo2 : keepsIn lo hi W (W.putObj (w.heap.size + 1) (.loop { rc .ready with state := .busy })) := fun k _ h2 => World.putObj_heap_other (by omega)
   refine wpIn_mono (hbody _ pre x rest _ hpre (hI _ _ _ hi1 hkb) (by simpa using hs)) ?_
   rintro e a3 W3 hp
   cases e with
   | normal =>
    obtain ⟨hi3, hz3, hlo3, hD3⟩ := hp
    have hz3 : W.heap.size ≤ W3.heap.size := by simpa using hz3
    have hl3 := (hD3 (w.heap.size + 1) (by omega) (by omega)).trans hl2; have hd3 := (hD3 w.heap.size (by omega) (by omega)).trans hd2; have hr := run_endRound (P := P) none hl3; refine ⟨_, _, hr, rfl, ⟨hI _ _ _ hi3 ((KeptBut.refl _ _).putObj _ _ (.inr (.inr rfl))), by simp; omega, ?_, (World.putObj_heap_other (by omega)).trans hd3⟩, fun k h1 h2 => ?_, by simp; omega⟩
    ·rw [World.putObj_heap_same (by omega), hrc]; rfl
    ·exact (World.putObj_heap_other (by omega)).trans ((hlo3 k h1 h2).trans (hlo2 k h1 h2))
   | ret => exact hp.elim
   | exit id => exact hp.elim
   | goto t => exact hp.elim
   | panic ch => exact hp.elim
   | outgrown => exact hp.elim
  ·rintro e W2 ⟨⟨v, rfl⟩, hi2, hs2, hl2, hd2⟩
   refine ⟨none, _, by have := run_endLoop (P := P) hl2 (by rw [hrc]; simp); rw [hrc] at this; exact this, ?_⟩; exact hdone _ (hI _ _ _ hi2 ((KeptBut.refl _ _).putObj _ _ (.inr (.inr rfl)))) ((World.putObj_heap_other (by omega)).trans hd2)
structure Gl where
 rune : Int
 wide : Bool
 tail : Bool
instance : Inhabited Gl := ⟨⟨0, false, false⟩⟩
def Gl.enc (g : Gl) : List Value := [.int .i32 g.rune, .bool g.wide, .bool g.tail]
theorem Gl.enc_len (g : Gl) : g.enc.length = 3 := rfl
def Grid (B : Nat) (w : World) (v : Value) (g : List (List Gl)) : Prop :=
 ∃ vs : List Value, vs.length = g.length ∧ Row B 1 (fun u => [u]) w v vs ∧ ∀ (j : Nat) u r, vs[j]? = some u → g[j]? = some r → Row B 3 Gl.enc w u r
theorem Grid.below {B : Nat} {w w' : World} {v : Value} {g : List (List Gl)} (h : Grid B w v g) (hb : Below B w w') : Grid B w' v g := by
 obtain ⟨vs, hl, hr, hx⟩ := h; exact ⟨vs, hl, hr.below hb, fun j u r hu hg => (hx j u r hu hg).below hb⟩
theorem Grid.mono {B B' : Nat} {w : World} {v : Value} {g : List (List Gl)} (h : Grid B w v g) (hb : B ≤ B') : Grid B' w v g := by
 obtain ⟨vs, hl, hr, hx⟩ := h; exact ⟨vs, hl, hr.mono hb, fun j u r hu hg => (hx j u r hu hg).mono hb⟩
theorem Grid.shape {B : Nat} {w : World} {v : Value} {g : List (List Gl)} (h : Grid B w v g) : ∃ s cap, v = .slice s g.length cap ∧ g.length ≤ maxLen := by
 obtain ⟨vs, hl, hr, _⟩ := h; obtain ⟨s, cap, e, hm⟩ := hr.shape; rw [hl] at e hm; exact ⟨s, cap, e, hm⟩
theorem Grid.at_ {B : Nat} {w : World} {v : Value} {g : List (List Gl)} {Y : Nat} {r : List Gl} (h : Grid B w v g) (hr : g[Y]? = some r) :
  ∃ b o cap s c, v = .slice (some ⟨b, o, none⟩) g.length cap ∧ b < B ∧ r.length ≤ maxLen ∧ w.cell? ⟨b, o + Y, none⟩ = some (.slice s r.length c) ∧ Row B 3 Gl.enc w (.slice s r.length c) r := by
 obtain ⟨vs, hl, hrow, hx⟩ := h; have hY : Y < g.length := (List.getElem?_eq_some_iff.1 hr).1; obtain ⟨b, o, cap, e, hb, _, _, hc⟩ := hrow.open_ (by omega); obtain ⟨u, hu⟩ : ∃ u, vs[Y]? = some u := ⟨vs[Y]'(by omega), List.getElem?_eq_getElem _⟩; have hur := hx Y u r hu hr; obtain ⟨s, c, rfl, hm⟩ := hur.shape; have := hc Y _ hu 0 _ rfl; rw [hl] at e; exact ⟨b, o, cap, s, c, e, hb, hm, by simpa using this, hur⟩
theorem Gl.at_ {B : Nat} {w : World} {v : Value} {r : List Gl} {X : Nat} {k : Gl} (h : Row B 3 Gl.enc w v r) (hk : r[X]? = some k) :
  ∃ b o cap, v = .slice (some ⟨b, o, none⟩) r.length cap ∧ b < B ∧ w.cell? ⟨b, o + X * 3, none⟩ = some (.int .i32 k.rune) ∧ w.cell? ⟨b, o + X * 3 + 1, none⟩ = some (.bool k.wide) ∧ w.cell? ⟨b, o + X * 3 + 2, none⟩ = some (.bool k.tail) := by
 have hX : X < r.length := (List.getElem?_eq_some_iff.1 hk).1; obtain ⟨b, o, cap, e, hb, _, _, hc⟩ := h.open_ (by omega); exact ⟨b, o, cap, e, hb, hc X k hk 0 _ rfl, hc X k hk 1 _ rfl, hc X k hk 2 _ rfl⟩
def GridO (w : World) (lo : Nat) (v : Value) (g : List (List Gl)) : Prop := ∀ w'' : World, (∀ k, lo ≤ k → k < w.heap.size → w''.heap[k]? = w.heap[k]?) → Grid w.heap.size w'' v g
theorem GridO.grid {w : World} {lo : Nat} {v : Value} {g : List (List Gl)} (h : GridO w lo v g) : Grid w.heap.size w v g := h w (fun _ _ _ => rfl)
theorem GridO.keep {w w' : World} {lo : Nat} {v : Value} {g : List (List Gl)} {ob : Option Nat} (h : GridO w lo v g) (hg : w.grownBy w' ob) (hn : ∀ b, ob = some b → b < lo) : GridO w' lo v g :=
 fun w'' hw => (h w'' (fun k h1 h2 => (hw k h1 (by have := hg.size; omega)).trans (hg.block k h2 (fun e => by have := hn k e.symm; omega)))).mono hg.size
theorem GridO.below {w w' : World} {lo : Nat} {v : Value} {g : List (List Gl)} (h : GridO w lo v g) (hb : Below w.heap.size w w') : GridO w' lo v g :=
 fun w'' hw => (h w'' (fun k h1 h2 => (hw k h1 (by have := hb.size; omega)).trans (hb.block k h2))).mono hb.size
theorem GridO.lo {w : World} {lo lo' : Nat} {v : Value} {g : List (List Gl)} (h : GridO w lo v g) (hl : lo' ≤ lo) : GridO w lo' v g := fun w'' hw => h w'' (fun k h1 h2 => hw k (by omega) h2)
theorem GridO.nil (w : World) (lo : Nat) : GridO w lo (.slice none 0 0) [] := fun w'' _ => ⟨[], rfl, ⟨none, 0, rfl, Nat.le_refl _, Nat.zero_le _, fun h => by simp at h⟩, fun j u r hu _ => by simp at hu⟩
theorem Row.own_lt {α : Type} {B base sz : Nat} {e : TypeId} {enc : α → List Value} {w : World} {v : Value} {xs : List α} (he : ∀ x, (enc x).length = sz) (h : w.ownsRow base e sz v xs.length (xs.flatMap enc)) (hB : ∀ g, v.ownBlock = some g → g < B) (hsz : 0 < sz) : Row B sz enc w v xs := by
 obtain ⟨s, cap, hv, hl, hc, hx⟩ := Row.own he h lrr hsz; refine ⟨s, cap, hv, hl, hc, fun h0 => ?_⟩; obtain ⟨b, o, hs, _, hcell⟩ := hx h0; exact ⟨b, o, hs, hB b (by rw [hv, hs]; simp [Value.ownBlock]), hcell⟩
end Go.Proofs.YtfcphagmjijmkaaGreatDoor
