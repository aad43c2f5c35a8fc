/-
  Cells: how wide a rune is, by the program and by the document's answer.
-/
import Derived.Laws.Externs
import Derived.Lib.Bytealg
import Derived.Lib.DecodeNEq
import Derived.Lib.IndexBytes
import Derived.LoopIn
import Derived.LoopNIn
import Derived.OwnWalkIn
import Derived.RangeFuncBound
import Derived.RangeFuncCalls
import Derived.RangeFuncLeaves
import Derived.RangeFuncNested
import Derived.Shelf.RegionOpen
import Derived.TacticsInMore
import Derived.Test.YtfcphagmjijmkaaGreatDoorDd4
namespace Go.Proofs.YtfcphagmjijmkaaGreatDoor
open Go.RowKit
set_option linter.unusedVariables false
set_option linter.unusedSimpArgs false
attribute [local go_sem] vwp vUpon_value vUpon_skip vUpon_enter vUpon_row
set_option maxHeartbeats 16000000
def encW (s : Int × Int) : List Value := [.int .i32 s.1, .int .i32 s.2]
theorem encW_len (s : Int × Int) : (encW s).length = 2 := rfl
def inL (r : Int) (l : List (Int × Int)) : Bool := l.any fun s => decide (s.1 ≤ r) && decide (r ≤ s.2)
theorem inL_step {l : List (Int × Int)} {k : Nat} {s : Int × Int} (h : l[k]? = some s) (r : Int) : inL r (l.drop k) = ((decide (s.1 ≤ r) && decide (r ≤ s.2)) || inL r (l.drop (k + 1))) := by
 rw [drop_get h]; rfl
def marksL : List (Int × Int) := [(0x300, 0x36F), (0x483, 0x489), (0x591, 0x5BD), (0x610, 0x61A), (0x64B, 0x65F), (0x200B, 0x200F), (0x202A, 0x202E), (0x2060, 0x2064), (0x20D0, 0x20FF), (0xFE00, 0xFE0F), (0xFE20, 0xFE2F), (0xE0100, 0xE01EF)]
def broadL : List (Int × Int) := [(0x1100, 0x115F), (0x2E80, 0x303E), (0x3041, 0x33FF), (0x3400, 0x4DBF), (0x4E00, 0x9FFF), (0xA000, 0xA4CF), (0xAC00, 0xD7A3), (0xF900, 0xFAFF), (0xFE30, 0xFE6F), (0xFF00, 0xFF60), (0xFFE0, 0xFFE6), (0x1F300, 0x1F64F), (0x1F900, 0x1F9FF), (0x20000, 0x3FFFD)]
def validR (r : Int) : Bool := (decide (0 ≤ r) && decide (r < 0xD800)) || (decide (0xDFFF < r) && decide (r ≤ 0x10FFFF))
def ctlR (r : Int) : Bool := (decide (0 ≤ r) && decide (r < 32)) || (decide (127 ≤ r) && decide (r ≤ 159))
def widR (r : Int) : Int := if validR r = false then 1 else if ctlR r || inL r marksL then 0 else if inL r broadL then 2 else 1
theorem mark_ge {r : Int} (h : r < 0x300) : inL r marksL = false := by
 simp only [inL, marksL, List.any_cons, List.any_nil, Bool.or_false, Bool.or_eq_false_iff, Bool.and_eq_false_iff, decide_eq_false_iff_not]; omega
theorem broad_ge {r : Int} (h : r < 0x1100) : inL r broadL = false := by
 simp only [inL, broadL, List.any_cons, List.any_nil, Bool.or_false, Bool.or_eq_false_iff, Bool.and_eq_false_iff, decide_eq_false_iff_not]; omega
theorem widR_bd (r : Int) : 0 ≤ widR r ∧ widR r ≤ 2 := by
 unfold widR; split; omega; split; omega; split <;> omega
theorem win_any (l : List (Int × Int)) (v : Value) (r : Int) (w : World) (hl : Row w.heap.size 2 encW w v l) :
  Calls Tryz.prog 143 #[.int .i32 r, v] w fun e w' => e = .returned (.bool (inL r l)) ∧ Below w.heap.size w w' := by
 obtain ⟨s0, cap, rfl, hmax⟩ := hl.shape
 have hopen := fun h0 => hl.open_ h0
 obtain ⟨n, en⟩ := exx (l.length); rw [en] at hopen hmax ⊢; obtain ⟨R, hR⟩ := exx (inL r l); rw [hR]; have hgo := hdh (show inL r (l.drop 0) = R from hR); replace hopen := hdh hopen; replace en := hdh en; unfold maxLen at hmax; clear hl hR
 go_enter Tryz.func143, Tryz.ntmps143
 go_wp2
 go_loopw [9] (fun iv wr => ∃ k : Nat, k ≤ n ∧ iv = .int .i64 k ∧ Hid (inL r (l.drop k) = R) ∧ Below w.heap.size w wr) (fun iv _ => n - (intOf iv).toNat)
 case atStart => exact ⟨0, Nat.zero_le _, rfl, hgo, Below.refl _ _⟩
 case round =>
  obtain ⟨k, hk, rfl, hgo, hbr⟩ := hrel; have zr := hbr.size
  by_cases hkn : k < n
  ·obtain ⟨b, o, cap', e, hb, _, _, hel⟩ := hopen.out (by omega)
   simp at e
   obtain ⟨rfl, rfl⟩ := e; obtain ⟨s, hs⟩ := get_at en.out hkn; have g0 : wr.cell? ⟨b, o + k * 2, none⟩ = some (.int .i32 s.1) := (hbr.cell (p := ⟨b, _, none⟩) hb).trans (hel k s hs 0 _ rfl); have g1 : wr.cell? ⟨b, o + k * 2 + 1, none⟩ = some (.int .i32 s.2) := (hbr.cell (p := ⟨b, _, none⟩) hb).trans (hel k s hs 1 _ rfl); have hg := hgo.out; rw [inL_step hs] at hg
   have hkk : (k : Int) < n := by omega
   have yb : b < wr.heap.size := by omega
   clear hel hs; obtain ⟨s1, s2⟩ := s; simp only at g0 g1 hg
   by_cases c1 : s1 ≤ r
   ·by_cases c2 : r ≤ s2
    ·have d1 : decide (s1 ≤ r) = true := decide_eq_true c1
     have d2 : decide (r ≤ s2) = true := decide_eq_true c2; rw [d1, d2] at hg; simp only [Bool.and_true, Bool.true_or] at hg; subst hg; go_wp2; go_ret; exact ⟨rfl, belt⟩
    ·have d1 : decide (s1 ≤ r) = true := decide_eq_true c1
     have d2 : decide (r ≤ s2) = false := decide_eq_false c2; rw [d1, d2] at hg; simp only [Bool.and_false, Bool.false_or] at hg; replace hg := hdh hg; go_wp2; go_roundw
     case rel => exact ⟨k + 1, by omega, by go_num, hg, belt⟩
     case measure => simp [intOf]; omega
   ·have d1 : decide (s1 ≤ r) = false := decide_eq_false c1
    rw [d1] at hg; simp only [Bool.false_and, Bool.false_or] at hg; replace hg := hdh hg; go_wp2; go_roundw
    case rel => exact ⟨k + 1, by omega, by go_num, hg, belt⟩
    case measure => simp [intOf]; omega
  ·obtain rfl : k = n := by omega
   have hg := hgo.out; rw [List.drop_eq_nil_of_le (by have := en.out; omega)] at hg; have hg : false = R := hg; subst hg; go_wp2; go_ret; exact ⟨rfl, hbr⟩
theorem Blk.spans {w : World} {cs : List Value} {xs : List (Int × Int)} (h : cs = xs.flatMap encW) (hm : xs.length ≤ 1000) : Row (w.alloc (.cells cs.toArray 249)).heap.size 2 encW (w.alloc (.cells cs.toArray 249)) (.slice (some ⟨w.heap.size, 0, none⟩) xs.length xs.length) xs :=
 Blk.row encW_len (Blk.new' rfl) (by rw [← h]; refine List.take_of_length_le ?_; rw [h]; simp [encW_len, List.map_const', List.sum_replicate_nat]) lrr (by unfold maxLen; omega) (by simp)
theorem marks_any (w : World) : Calls Tryz.prog 185 #[] w fun e w' => Below w.heap.size w w' ∧ ∃ v, e = .returned v ∧ Row w'.heap.size 2 encW w' v marksL := by
 go_enter Tryz.func185, Tryz.ntmps185
 go_wp2; go_ret; exact ⟨belt, _, rfl, Blk.spans (xs := marksL) rfl (by decide)⟩
theorem broad_any (w : World) : Calls Tryz.prog 144 #[] w fun e w' => Below w.heap.size w w' ∧ ∃ v, e = .returned v ∧ Row w'.heap.size 2 encW w' v broadL := by
 go_enter Tryz.func144, Tryz.ntmps144
 go_wp2; go_ret; exact ⟨belt, _, rfl, Blk.spans (xs := broadL) rfl (by decide)⟩
theorem mark_any (r : Int) (w : World) : Calls Tryz.prog 142 #[.int .i32 r] w fun e w' => e = .returned (.bool (inL r marksL)) ∧ Below w.heap.size w w' := by
 go_enter Tryz.func142, Tryz.ntmps142
 by_cases c : 0x300 ≤ r
 ·go_wp2_with fail
  refine (marks_any _).mono ?_
  rintro e w1 ⟨hb1, v, rfl, hrow⟩
  go_wp2_with fail
  refine (win_any _ _ _ _ hrow).mono ?_
  rintro e w2 ⟨rfl, hb2⟩
  go_wp2; go_ret; exact ⟨rfl, hb1.trans (hb2.mono hb1.size)⟩
 ·rw [mark_ge (by omega)]
  go_wp2; go_ret; exact ⟨rfl, belt⟩
theorem control_any (r : Int) (w : World) : Calls Tryz.prog 141 #[.int .i32 r] w fun e w' => e = .returned (.bool (ctlR r)) ∧ Below w.heap.size w w' := by
 go_enter Tryz.func141, Tryz.ntmps141
 by_cases c1 : 0 ≤ r
 ·by_cases c2 : r < 32
  ·have e : ctlR r = true := by unfold ctlR; simp; omega
   rw [e]; go_wp2; go_ret; exact ⟨rfl, belt⟩
  ·by_cases c3 : 127 ≤ r
   ·by_cases c4 : r ≤ 159
    ·have e : ctlR r = true := by unfold ctlR; simp; omega
     rw [e]; go_wp2; go_ret; exact ⟨rfl, belt⟩
    ·have e : ctlR r = false := by unfold ctlR; simp; omega
     rw [e]; go_wp2; go_ret; exact ⟨rfl, belt⟩
   ·have e : ctlR r = false := by unfold ctlR; simp; omega
    rw [e]; go_wp2; go_ret; exact ⟨rfl, belt⟩
 ·have c3 : ¬ 127 ≤ r := by omega
  have e : ctlR r = false := by unfold ctlR; simp; omega
  rw [e]; go_wp2; go_ret; exact ⟨rfl, belt⟩
theorem validRune_any (r : Int) (w : World) : Calls Tryz.prog 140 #[.int .i32 r] w fun e w' => e = .returned (.bool (validR r)) ∧ Below w.heap.size w w' := by
 go_enter Tryz.func140, Tryz.ntmps140
 by_cases c1 : 0 ≤ r
 ·by_cases c2 : r < 55296
  ·have e : validR r = true := by unfold validR; simp; omega
   rw [e]; go_wp2; go_ret; exact ⟨rfl, belt⟩
  ·by_cases c3 : 57343 < r
   ·by_cases c4 : r ≤ 1114111
    ·have e : validR r = true := by unfold validR; simp; omega
     rw [e]; go_wp2; go_ret; exact ⟨rfl, belt⟩
    ·have e : validR r = false := by unfold validR; simp; omega
     rw [e]; go_wp2; go_ret; exact ⟨rfl, belt⟩
   ·have e : validR r = false := by unfold validR; simp; omega
    rw [e]; go_wp2; go_ret; exact ⟨rfl, belt⟩
 ·have c3 : ¬ 57343 < r := by omega
  have e : validR r = false := by unfold validR; simp; omega
  rw [e]; go_wp2; go_ret; exact ⟨rfl, belt⟩
theorem width_any (r : Int) (w : World) : Calls Tryz.prog 99 #[.int .i32 r] w fun e w' => e = .returned (.int .i64 (widR r)) ∧ Below w.heap.size w w' := by
 obtain ⟨W, hW⟩ := exx (widR r); rw [hW]; unfold widR at hW; have V := validRune_any r; have C := control_any r; have M := mark_any r
 go_enter Tryz.func99, Tryz.ntmps99
 cases hv : validR r
 ·rw [hv] at V hW
  simp only [if_true] at hW; subst hW; replace V := hdh V
  go_wp2_with (go_at_call 140; (with_reducible refine cmm (V.out _) fun w1 hb1 => ?_); obtain ⟨hc1, hf1, hz1⟩ := bzz hb1; (try simp at hz1); (try have lt1 : w.heap.size < w1.heap.size := (by omega)))
  go_ret; exact ⟨rfl, belt⟩
 ·rw [hv] at V hW
  simp only [Bool.true_eq_false, if_false] at hW
  cases hc : ctlR r
  ·rw [hc] at C hW
   cases hm : inL r marksL
   ·rw [hm] at M hW
    simp only [Bool.or_self, Bool.false_eq_true, if_false] at hW
    by_cases c : 0x1100 ≤ r
    ·replace V := hdh V
     replace C := hdh C; replace M := hdh M; replace hW := hdh hW
     go_wp2_with (first | (go_at_call 140; (with_reducible refine cmm (V.out _) fun w1 hb1 => ?_); obtain ⟨hc1, hf1, hz1⟩ := bzz hb1; (try simp at hz1); (try have lt1 : w.heap.size < w1.heap.size := (by omega))) | (go_at_call 141; (with_reducible refine cmm (C.out _) fun w2 hb2 => ?_); obtain ⟨hc2, hf2, hz2⟩ := bzz hb2; (try simp at hz2); (try have lt2 : w.heap.size < w2.heap.size := (by omega))) | (go_at_call 142; (with_reducible refine cmm (M.out _) fun w3 hb3 => ?_); obtain ⟨hc3, hf3, hz3⟩ := bzz hb3; (try simp at hz3); (try have lt3 : w.heap.size < w3.heap.size := (by omega))) | (go_at_call 144; fail))
     refine (broad_any _).mono ?_
     rintro e w4 ⟨hb4, v, rfl, hrow⟩
     go_wp2_with fail
     refine (win_any _ _ _ _ hrow).mono ?_
     rintro e w5 ⟨rfl, hb5⟩
     have hW := hW.out; have z4 := hb4.size; have hbb : Below w.heap.size w w5 := belt
     cases hl : inL r broadL
     ·rw [hl] at hW
      simp only [Bool.false_eq_true, if_false] at hW; subst hW; go_wp2; go_ret; exact ⟨rfl, hbb⟩
     ·rw [hl] at hW
      simp only [if_true] at hW; subst hW; go_wp2; go_ret; exact ⟨rfl, hbb⟩
    ·rw [broad_ge (by omega)] at hW
     simp only [Bool.false_eq_true, if_false] at hW; subst hW; replace V := hdh V; replace C := hdh C; replace M := hdh M
     go_wp2_with (first | (go_at_call 140; (with_reducible refine cmm (V.out _) fun w1 hb1 => ?_); obtain ⟨hc1, hf1, hz1⟩ := bzz hb1; (try simp at hz1); (try have lt1 : w.heap.size < w1.heap.size := (by omega))) | (go_at_call 141; (with_reducible refine cmm (C.out _) fun w2 hb2 => ?_); obtain ⟨hc2, hf2, hz2⟩ := bzz hb2; (try simp at hz2); (try have lt2 : w.heap.size < w2.heap.size := (by omega))) | (go_at_call 142; (with_reducible refine cmm (M.out _) fun w3 hb3 => ?_); obtain ⟨hc3, hf3, hz3⟩ := bzz hb3; (try simp at hz3); (try have lt3 : w.heap.size < w3.heap.size := (by omega))))
     go_ret; exact ⟨rfl, belt⟩
   ·rw [hm] at M hW
    simp only [Bool.or_true, if_true] at hW; subst hW; replace V := hdh V; replace C := hdh C; replace M := hdh M
    go_wp2_with (first | (go_at_call 140; (with_reducible refine cmm (V.out _) fun w1 hb1 => ?_); obtain ⟨hc1, hf1, hz1⟩ := bzz hb1; (try simp at hz1); (try have lt1 : w.heap.size < w1.heap.size := (by omega))) | (go_at_call 141; (with_reducible refine cmm (C.out _) fun w2 hb2 => ?_); obtain ⟨hc2, hf2, hz2⟩ := bzz hb2; (try simp at hz2); (try have lt2 : w.heap.size < w2.heap.size := (by omega))) | (go_at_call 142; (with_reducible refine cmm (M.out _) fun w3 hb3 => ?_); obtain ⟨hc3, hf3, hz3⟩ := bzz hb3; (try simp at hz3); (try have lt3 : w.heap.size < w3.heap.size := (by omega))))
    go_ret; exact ⟨rfl, belt⟩
  ·rw [hc] at C hW
   simp only [Bool.true_or, if_true] at hW; subst hW; replace V := hdh V; replace C := hdh C
   go_wp2_with (first | (go_at_call 140; (with_reducible refine cmm (V.out _) fun w1 hb1 => ?_); obtain ⟨hc1, hf1, hz1⟩ := bzz hb1; (try simp at hz1); (try have lt1 : w.heap.size < w1.heap.size := (by omega))) | (go_at_call 141; (with_reducible refine cmm (C.out _) fun w2 hb2 => ?_); obtain ⟨hc2, hf2, hz2⟩ := bzz hb2; (try simp at hz2); (try have lt2 : w.heap.size < w2.heap.size := (by omega))))
   go_ret; exact ⟨rfl, belt⟩
/-! ### the document's answer -/
structure KeptBut (X : Nat → Prop) (W W' : World) : Prop where
 os : W'.os = W.os
 tape : W'.tape = W.tape
 output : W'.output = W.output
 size : W.heap.size ≤ W'.heap.size
 same : ∀ k, k < W.heap.size → ¬ X k → W'.heap[k]? = W.heap[k]?
theorem KeptBut.refl (X : Nat → Prop) (W : World) : KeptBut X W W := ⟨rfl, rfl, rfl, Nat.le_refl _, fun _ _ _ => rfl⟩
theorem KeptBut.trans {X : Nat → Prop} {A B C : World} (h : KeptBut X A B) (k : KeptBut X B C) : KeptBut X A C :=
 ⟨k.os.trans h.os, k.tape.trans h.tape, k.output.trans h.output, Nat.le_trans h.size k.size, fun i hi hx => (k.same i (Nat.lt_of_lt_of_le hi h.size) hx).trans (h.same i hi hx)⟩
theorem KeptBut.wider {X Y : Nat → Prop} {A B : World} (h : KeptBut X A B) (hXY : ∀ k, X k → Y k) : KeptBut Y A B := ⟨h.os, h.tape, h.output, h.size, fun i hi hy => h.same i hi (fun hx => hy (hXY i hx))⟩
theorem KeptBut.below {X : Nat → Prop} {A B C : World} (h : KeptBut X A B) (hb : Below B.heap.size B C) : KeptBut X A C :=
 h.trans ⟨hb.os, hb.tape, hb.output, hb.size, fun k hk _ => hb.block k hk⟩
theorem KeptBut.alloc {X : Nat → Prop} {A B : World} (h : KeptBut X A B) (o : Obj) : KeptBut X A (B.alloc o) := h.below ((Below.refl _ B).alloc lrr o)
theorem KeptBut.setCell {X : Nat → Prop} {A B : World} (h : KeptBut X A B) (p : Addr) (v : Value) (hp : X p.block) : KeptBut X A (B.setCell p v) :=
 h.trans ⟨rfl, rfl, rfl, (KeepsWalks.setCell B p v).size, fun k _ hx => Below.heap_setCell B p v k (fun e => hx (e ▸ hp))⟩
theorem KeptBut.putObj {X : Nat → Prop} {A B : World} (h : KeptBut X A B) (l : Nat) (o : Obj) (hl : X l) : KeptBut X A (B.putObj l o) :=
 h.trans ⟨rfl, rfl, rfl, by simp, fun k _ hx => World.putObj_heap_other (fun e => hx (e ▸ hl))⟩
theorem KeptBut.toBelow {X : Nat → Prop} {n : Nat} {A B C : World} (hb : Below n A B) (h : KeptBut X B C) (hn : n ≤ B.heap.size) (hx : ∀ k, k < n → ¬ X k) : Below n A C :=
 hb.trans ⟨h.os, h.tape, h.output, h.size, fun k hk => h.same k (by omega) (hx k hk)⟩
def keepsIn (lo hi : Nat) (W W' : World) : Prop := ∀ k, lo ≤ k → k < hi → W'.heap[k]? = W.heap[k]?
def IterOwn (n : Nat) (P : Program) (g : Nat) (lb : Array Value) (B lo hi : Nat) (xs : List ByteArray) (w : World) : Prop :=
 ∀ (l : Nat) (J : List ByteArray → World → Prop) (W : World), keepsIn lo hi w W → hi ≤ W.heap.size →
  (∀ pre W1 W2, J pre W1 → KeptBut (· = B) W1 W2 → J pre W2) →
  (∀ pre x rest W1, pre ++ x :: rest = xs → J pre W1 → YieldAt Fence.wide (n - 1) P l #[.string x] W1 fun e W2 => e = .returned (.bool true) ∧ J (pre ++ [x]) W2 ∧ keepsIn lo hi W1 W2 ∧ W1.heap.size ≤ W2.heap.size) →
  J [] W → CallsIn Fence.wide n P g (#[.func (.yield l) #[] #[]] ++ lb) W fun e W' => (∃ v, e = .returned v) ∧ J xs W'
def roundEnd (lo hi D : Nat) (I : World → Prop) (W : World) : Exit → Act → World → Prop
 | .normal, _, W' => I W' ∧ W.heap.size ≤ W'.heap.size ∧ keepsIn lo hi W W' ∧ keepsIn D (D + 2) W W'
 | _, _, _ => False
theorem wpIn_range_own {P : Program} {n : Nat} {g : Operand} {ps : Array Tmp} {assign body : Code} {Q : Exit → Act → World → Prop} {a : Act} {w : World} {gf : Nat} {lb : Array Value}
  (hg : a.eval g = .func (.func gf) #[] lb) (eg : ∀ args w, (callFunc gf args).run P w = .ok (.enter gf args) w) {B lo hi : Nat} {xs : List ByteArray} (hseq : IterOwn (n - 1) P gf lb B lo hi xs w)
  (hB : lo ≤ B) (hB2 : B < hi) (hhi : hi ≤ w.heap.size) (hps : ps.size = 1)
  (I : List ByteArray → World → Prop) (hI : ∀ pre W W', I pre W → KeptBut (fun k => k = B ∨ k = w.heap.size ∨ k = w.heap.size + 1) W W' → I pre W') (h0 : I [] w) (a₁ : ByteArray → Act)
  (hassign : ∀ (l : Nat) (x : ByteArray) (W : World) (K : Act → World → Prop), K (a₁ x) W →
   assign.wpIn (Fence.wide.inRound l) (n - 1 - 1) P (Exit.then K (fun _ _ _ => False)) { tmps := (ps.zip #[Value.string x]).foldl (fun t (p, v) => t.setIfInBounds p v) a.tmps, defers := [] } W)
  (hbody : ∀ (l : Nat) (pre : List ByteArray) (x : ByteArray) (rest : List ByteArray) (W : World), pre ++ x :: rest = xs → I pre W → w.heap.size + 2 ≤ W.heap.size → body.wpIn (Fence.wide.inRound l) (n - 1 - 1) P (roundEnd lo hi w.heap.size (I (pre ++ [x])) W) (a₁ x) W)
  (hdone : ∀ (W : World), I xs W → W.heap[w.heap.size]? = some (.deferred (some [])) → Q .normal { a with defers := { target := .collected w.heap.size, args := #[] } :: a.defers } W) :
  (Code.rangeFunc g ps assign body).wpIn Fence.wide n P Q a w := by
 refine wpIn_rangeFunc ?_
 intro fn _
 obtain ⟨rc, hrc⟩ : ∃ rc : LoopState → Loop, rc = fun st => { state := st, pending := none, fn, tmps := a.tmps, params := ps, assign, body, defers := w.heap.size } := ⟨_, rfl⟩
 obtain ⟨W1, hW1⟩ := exx ((w.alloc (.deferred (some []))).alloc (.loop (rc .ready)))
 have kW1 : KeptBut (fun k => k = B ∨ k = w.heap.size ∨ k = w.heap.size + 1) w W1 := by rw [← hW1]; exact ((KeptBut.refl _ _).alloc _).alloc _
 have sW1 : W1.heap.size = w.heap.size + 2 := by rw [← hW1]; simp
 have hL1 : W1.heap[w.heap.size + 1]? = some (.loop (rc .ready)) := by
  have := World.alloc_heap_new (w.alloc (.deferred (some []))) (.loop (rc .ready)); rw [World.size_alloc, hW1] at this; exact this
 have hD1 : W1.heap[w.heap.size]? = some (.deferred (some [])) := by
  rw [← hW1]; exact (Below.heap_alloc _ _ _ (by simp)).trans (World.alloc_heap_new w _)
 have hround : Fence.wide.round = none := rfl
 refine ⟨w.heap.size + 1, [{ target := .collected w.heap.size, args := #[] }], W1, { target := .fn (.func gf) lb, args := #[.func (.yield (w.heap.size + 1)) #[] #[]] }, W1, gf,
  #[.func (.yield (w.heap.size + 1)) #[] #[]] ++ lb, W1, ?_, ?_, fun _ _ => trivial, ?_, fun h => ?_, ?_⟩
 ·rw [hround, ← hW1, hrc]; exact run_enterLoop_outer _ _ _ _ _
 ·simp only [resolve, hg]
  simp [go_sem]
 ·simp [invoke, go_sem, eg]
 ·simp [Fence.wide] at h
 ·refine (hseq (w.heap.size + 1) (fun pre W => I pre W ∧ w.heap.size + 2 ≤ W.heap.size ∧ W.heap[w.heap.size + 1]? = some (.loop (rc .ready)) ∧ W.heap[w.heap.size]? = some (.deferred (some []))) W1
   (fun k _ h2 => by rw [← hW1]; exact (Below.heap_alloc _ _ _ (by simp; omega)).trans (Below.heap_alloc _ _ _ (by omega))) (by omega) ?_ ?_ ⟨hI _ _ _ h0 kW1, by omega, hL1, hD1⟩).mono ?_
  ·rintro pre A C ⟨hi1, hs, hl, hd⟩ hk
   refine ⟨hI _ _ _ hi1 (hk.wider (fun k e => .inl e)), Nat.le_trans hs hk.size, (hk.same _ (by omega) (by omega)).trans hl, (hk.same _ (by omega) (by omega)).trans hd⟩
  ·rintro pre x rest W hpre ⟨hi1, hs, hl, hd⟩
   have hy := run_yield (P := P) (args := #[Value.string x]) hl (by rw [hrc]; exact hps.symm); rw [hrc] at hy; refine ⟨fn, _, assign, body, hy, roundIn_of_wpIn trivial (hassign _ x W _ ⟨_, run_beginRound hl (by rw [hrc]), ?_⟩)⟩; have hkb : KeptBut (fun k => k = B ∨ k = w.heap.size ∨ k = w.heap.size + 1) W (W.putObj (w.heap.size + 1) (.loop { rc .ready with state := .busy })) := (KeptBut.refl _ _).putObj _ _ (.inr (.inr rfl)); have hl2 : (W.putObj (w.heap.size + 1) (.loop { rc .ready with state := .busy })).heap[w.heap.size + 1]? = some (.loop { rc .ready with state := .busy }) := World.putObj_heap_same (by omega)
   have hd2 : (W.putObj (w.heap.size + 1) (.loop { rc .ready with state := .busy })).heap[w.heap.size]? = some (.deferred (some [])) := (World.putObj_heap_other (by omega)).trans hd
   have hlo2 : keepsIn lo hi W (W.putObj (w.heap.size + 1) (.loop { rc .ready with state := .busy })) := fun k _ h2 => World.putObj_heap_other (by omega)
   refine wpIn_mono (hbody _ pre x rest _ hpre (hI _ _ _ hi1 hkb) (by simpa using hs)) ?_
   rintro e a3 W3 hp
   cases e with
   | normal =>
    obtain ⟨hi3, hz3, hlo3, hD3⟩ := hp
    have hz3 : W.heap.size ≤ W3.heap.size := by simpa using hz3
    have hl3 := (hD3 (w.heap.size + 1) (by omega) (by omega)).trans hl2; have hd3 := (hD3 w.heap.size (by omega) (by omega)).trans hd2; have hr := run_endRound (P := P) none hl3; refine ⟨_, _, hr, rfl, ⟨hI _ _ _ hi3 ((KeptBut.refl _ _).putObj _ _ (.inr (.inr rfl))), by simp; omega, ?_, (World.putObj_heap_other (by omega)).trans hd3⟩, fun k h1 h2 => ?_, by simp; omega⟩
    ·rw [World.putObj_heap_same (by omega), hrc]; rfl
    ·exact (World.putObj_heap_other (by omega)).trans ((hlo3 k h1 h2).trans (hlo2 k h1 h2))
   | ret => exact hp.elim
   | exit id => exact hp.elim
   | goto t => exact hp.elim
   | panic ch => exact hp.elim
   | outgrown => exact hp.elim
  ·rintro e W2 ⟨⟨v, rfl⟩, hi2, hs2, hl2, hd2⟩
   refine ⟨none, _, by have := run_endLoop (P := P) hl2 (by rw [hrc]; simp); rw [hrc] at this; exact this, ?_⟩; exact hdone _ (hI _ _ _ hi2 ((KeptBut.refl _ _).putObj _ _ (.inr (.inr rfl)))) ((World.putObj_heap_other (by omega)).trans hd2)
structure Gl where
 rune : Int
 wide : Bool
 tail : Bool
instance : Inhabited Gl := ⟨⟨0, false, false⟩⟩
def Gl.enc (g : Gl) : List Value := [.int .i32 g.rune, .bool g.wide, .bool g.tail]
theorem Gl.enc_len (g : Gl) : g.enc.length = 3 := rfl
def Grid (B : Nat) (w : World) (v : Value) (g : List (List Gl)) : Prop :=
 ∃ vs : List Value, vs.length = g.length ∧ Row B 1 (fun u => [u]) w v vs ∧ ∀ (j : Nat) u r, vs[j]? = some u → g[j]? = some r → Row B 3 Gl.enc w u r
theorem Grid.below {B : Nat} {w w' : World} {v : Value} {g : List (List Gl)} (h : Grid B w v g) (hb : Below B w w') : Grid B w' v g := by
 obtain ⟨vs, hl, hr, hx⟩ := h; exact ⟨vs, hl, hr.below hb, fun j u r hu hg => (hx j u r hu hg).below hb⟩
theorem Grid.mono {B B' : Nat} {w : World} {v : Value} {g : List (List Gl)} (h : Grid B w v g) (hb : B ≤ B') : Grid B' w v g := by
 obtain ⟨vs, hl, hr, hx⟩ := h; exact ⟨vs, hl, hr.mono hb, fun j u r hu hg => (hx j u r hu hg).mono hb⟩
theorem Grid.shape {B : Nat} {w : World} {v : Value} {g : List (List Gl)} (h : Grid B w v g) : ∃ s cap, v = .slice s g.length cap ∧ g.length ≤ maxLen := by
 obtain ⟨vs, hl, hr, _⟩ := h; obtain ⟨s, cap, e, hm⟩ := hr.shape; rw [hl] at e hm; exact ⟨s, cap, e, hm⟩
theorem Grid.at_ {B : Nat} {w : World} {v : Value} {g : List (List Gl)} {Y : Nat} {r : List Gl} (h : Grid B w v g) (hr : g[Y]? = some r) :
  ∃ b o cap s c, v = .slice (some ⟨b, o, none⟩) g.length cap ∧ b < B ∧ r.length ≤ maxLen ∧ w.cell? ⟨b, o + Y, none⟩ = some (.slice s r.length c) ∧ Row B 3 Gl.enc w (.slice s r.length c) r := by
 obtain ⟨vs, hl, hrow, hx⟩ := h; have hY : Y < g.length := (List.getElem?_eq_some_iff.1 hr).1; obtain ⟨b, o, cap, e, hb, _, _, hc⟩ := hrow.open_ (by omega); obtain ⟨u, hu⟩ : ∃ u, vs[Y]? = some u := ⟨vs[Y]'(by omega), List.getElem?_eq_getElem _⟩; have hur := hx Y u r hu hr; obtain ⟨s, c, rfl, hm⟩ := hur.shape; have := hc Y _ hu 0 _ rfl; rw [hl] at e; exact ⟨b, o, cap, s, c, e, hb, hm, by simpa using this, hur⟩
theorem Gl.at_ {B : Nat} {w : World} {v : Value} {r : List Gl} {X : Nat} {k : Gl} (h : Row B 3 Gl.enc w v r) (hk : r[X]? = some k) :
  ∃ b o cap, v = .slice (some ⟨b, o, none⟩) r.length cap ∧ b < B ∧ w.cell? ⟨b, o + X * 3, none⟩ = some (.int .i32 k.rune) ∧ w.cell? ⟨b, o + X * 3 + 1, none⟩ = some (.bool k.wide) ∧ w.cell? ⟨b, o + X * 3 + 2, none⟩ = some (.bool k.tail) := by
 have hX : X < r.length := (List.getElem?_eq_some_iff.1 hk).1; obtain ⟨b, o, cap, e, hb, _, _, hc⟩ := h.open_ (by omega); exact ⟨b, o, cap, e, hb, hc X k hk 0 _ rfl, hc X k hk 1 _ rfl, hc X k hk 2 _ rfl⟩
def GridO (w : World) (lo : Nat) (v : Value) (g : List (List Gl)) : Prop := ∀ w'' : World, (∀ k, lo ≤ k → k < w.heap.size → w''.heap[k]? = w.heap[k]?) → Grid w.heap.size w'' v g
theorem GridO.grid {w : World} {lo : Nat} {v : Value} {g : List (List Gl)} (h : GridO w lo v g) : Grid w.heap.size w v g := h w (fun _ _ _ => rfl)
theorem GridO.keep {w w' : World} {lo : Nat} {v : Value} {g : List (List Gl)} {ob : Option Nat} (h : GridO w lo v g) (hg : w.grownBy w' ob) (hn : ∀ b, ob = some b → b < lo) : GridO w' lo v g :=
 fun w'' hw => (h w'' (fun k h1 h2 => (hw k h1 (by have := hg.size; omega)).trans (hg.block k h2 (fun e => by have := hn k e.symm; omega)))).mono hg.size
theorem GridO.below {w w' : World} {lo : Nat} {v : Value} {g : List (List Gl)} (h : GridO w lo v g) (hb : Below w.heap.size w w') : GridO w' lo v g :=
 fun w'' hw => (h w'' (fun k h1 h2 => (hw k h1 (by have := hb.size; omega)).trans (hb.block k h2))).mono hb.size
theorem GridO.lo {w : World} {lo lo' : Nat} {v : Value} {g : List (List Gl)} (h : GridO w lo v g) (hl : lo' ≤ lo) : GridO w lo' v g := fun w'' hw => h w'' (fun k h1 h2 => hw k (by omega) h2)
theorem GridO.nil (w : World) (lo : Nat) : GridO w lo (.slice none 0 0) [] := fun w'' _ => ⟨[], rfl, ⟨none, 0, rfl, Nat.le_refl _, Nat.zero_le _, fun h => by simp at h⟩, fun j u r hu _ => by simp at hu⟩
theorem Row.own_lt {α : Type} {B base sz : Nat} {e : TypeId} {enc : α → List Value} {w : World} {v : Value} {xs : List α} (he : ∀ x, (enc x).length = sz) (h : w.ownsRow base e sz v xs.length (xs.flatMap enc)) (hB : ∀ g, v.ownBlock = some g → g < B) (hsz : 0 < sz) : Row B sz enc w v xs := by
 obtain ⟨s, cap, hv, hl, hc, hx⟩ := Row.own he h lrr hsz; refine ⟨s, cap, hv, hl, hc, fun h0 => ?_⟩; obtain ⟨b, o, hs, _, hcell⟩ := hx h0; exact ⟨b, o, hs, hB b (by rw [hv, hs]; simp [Value.ownBlock]), hcell⟩
/-! ### decoding -/
theorem dec_bd (s : ByteArray) (p : Nat) : 1 ≤ (Utf8.decode s p).2 ∧ (Utf8.decode s p).2 ≤ 4 ∧ (p < s.size → p + (Utf8.decode s p).2 ≤ s.size) ∧ validR ((Utf8.decode s p).1 : Int) = true := by
 rw [Lib.decode_at]; have h1 := (s.get! p).toNat_lt; have h2 := (s.get! (p + 1)).toNat_lt; have h3 := (s.get! (p + 2)).toNat_lt; have h4 := (s.get! (p + 3)).toNat_lt; generalize (s.get! p).toNat = b0 at *; generalize (s.get! (p + 1)).toNat = b1 at *; generalize (s.get! (p + 2)).toNat = b2 at *; generalize (s.get! (p + 3)).toNat = b3 at *; unfold Lib.decodeN validR; simp only [Bool.or_eq_true, Bool.and_eq_true, decide_eq_true_eq]
 repeat' split
 all_goals (refine ⟨?_, ?_, ?_, ?_⟩ <;> (try simp only) <;> omega)
theorem dec_pos (s : ByteArray) (p : Nat) : 1 ≤ (Utf8.decode s p).2 := (dec_bd s p).1
theorem dec_fit {s : ByteArray} {p : Nat} (h : p < s.size) : p + (Utf8.decode s p).2 ≤ s.size := (dec_bd s p).2.2.1 h
theorem dec_valid (s : ByteArray) (p : Nat) : validR ((Utf8.decode s p).1 : Int) = true := (dec_bd s p).2.2.2
/-! ### runes -/
def runesF : Nat → ByteArray → Nat → List Int
 | 0, _, _ => []
 | n + 1, s, p => if p < s.size then ((Utf8.decode s p).1 : Int) :: runesF n s (p + (Utf8.decode s p).2) else []
theorem runesF_more (s : ByteArray) : ∀ (n m p : Nat), s.size - p ≤ n → s.size - p ≤ m → runesF n s p = runesF m s p
 | 0, 0, _, _, _ => rfl
 | 0, m + 1, p, h1, _ => by rw [runesF, runesF, if_neg (by omega)]
 | n + 1, 0, p, _, h2 => by rw [runesF, runesF, if_neg (by omega)]
 | n + 1, m + 1, p, h1, h2 => by
  rw [runesF, runesF]
  by_cases hp : p < s.size
  ·have := dec_pos s p
   rw [if_pos hp, if_pos hp, runesF_more s n m _ (by omega) (by omega)]
  ·rw [if_neg hp, if_neg hp]
def runesAt (s : ByteArray) (p : Nat) : List Int := runesF (s.size - p) s p
theorem runesAt_end {s : ByteArray} {p : Nat} (h : ¬ p < s.size) : runesAt s p = [] := by
 unfold runesAt; rw [show s.size - p = 0 by omega]; rfl
theorem runesAt_step {s : ByteArray} {p : Nat} (h : p < s.size) : runesAt s p = ((Utf8.decode s p).1 : Int) :: runesAt s (p + (Utf8.decode s p).2) := by
 unfold runesAt; obtain ⟨n, hn⟩ : ∃ n, s.size - p = n + 1 := ⟨s.size - p - 1, by omega⟩; have := dec_pos s p; rw [hn, runesF, if_pos h, runesF_more s n (s.size - (p + (Utf8.decode s p).2)) _ (by omega) lrr]
/-! ### what they have in cells -/
def glyR (r n : Int) : List Gl := if n = 1 then [⟨r, false, false⟩] else if n = 2 then [⟨r, true, false⟩, ⟨r, false, true⟩] else []
def rowG (rs : List Int) : List Gl := rs.flatMap fun r => glyR r (widR r)
theorem rowG_cons (r : Int) (rs : List Int) : rowG (r :: rs) = glyR r (widR r) ++ rowG rs := rfl
/-! ### lines -/
def splB (s : ByteArray) : Nat → Nat → Nat → List ByteArray
 | 0, f, i => [s.extract f i]
 | n + 1, f, i => if s.get! i = 10 then s.extract f i :: splB s n (i + 1) (i + 1) else splB s n f (i + 1)
def linesB (s : ByteArray) : List ByteArray := splB s s.size 0 0
theorem splB_skip (s : ByteArray) (f : Nat) : ∀ (d i : Nat), i + d ≤ s.size → (∀ k, i ≤ k → k < i + d → s.get! k ≠ 10) → splB s (s.size - i) f i = splB s (s.size - (i + d)) f (i + d)
 | 0, i, _, _ => rfl
 | d + 1, i, h, hk => by
  have e : s.size - i = (s.size - (i + 1)) + 1 := by omega
  rw [e, splB, if_neg (hk i lrr (by omega)), splB_skip s f d (i + 1) (by omega) (fun k h1 h2 => hk k (by omega) (by omega))]; rw [show i + 1 + d = i + (d + 1) by omega]
theorem splB_hit {s : ByteArray} {f j : Nat} (h : j < s.size) (hb : s.get! j = 10) : splB s (s.size - j) f j = s.extract f j :: splB s (s.size - (j + 1)) (j + 1) (j + 1) := by
 have e : s.size - j = (s.size - (j + 1)) + 1 := by omega
 rw [e, splB, if_pos hb]
theorem splB_end {s : ByteArray} {f j : Nat} (h : s.size ≤ j) : splB s (s.size - j) f j = [s.extract f j] := by
 rw [show s.size - j = 0 by omega]; rfl
theorem splB_len (s : ByteArray) : ∀ (n f i : Nat), (splB s n f i).length ≤ n + 1
 | 0, f, i => by simp [splB]
 | n + 1, f, i => by
  rw [splB]
  split
  ·rw [List.length_cons]; have := splB_len s n (i + 1) (i + 1); omega
  ·have := splB_len s n f (i + 1); omega
theorem splB_size (s : ByteArray) : ∀ (n f i : Nat), ∀ x ∈ splB s n f i, x.size ≤ s.size
 | 0, f, i, x, hx => by
  simp only [splB, List.mem_singleton] at hx; subst hx
  simp
  omega
 | n + 1, f, i, x, hx => by
  rw [splB] at hx
  split at hx
  ·rcases List.mem_cons.1 hx with rfl | hx
   ·simp
    omega
   ·exact splB_size s n _ _ x hx
  ·exact splB_size s n _ _ x hx
def lineG (l : ByteArray) : List Gl := rowG (runesAt l 0)
def glyS (s : ByteArray) : List (List Gl) := (linesB s).map lineG
/-! ### the iterator's lines -/
theorem get!_extract (s : ByteArray) (a b k : Nat) (h : a + k < b) (hb : b ≤ s.size) : (s.extract a b).get! k = s.get! (a + k) := by
 have h1 : k < (s.extract a b).size := by simp; omega
 have e1 : (s.extract a b).get! k = (s.extract a b)[k]'h1 := by
  generalize s.extract a b = t at h1 ⊢
  cases t; exact getElem!_pos _ k h1
 have e2 : s.get! (a + k) = s[a + k]'(by omega) := by
  cases s; exact getElem!_pos _ _ _
 rw [e1, e2, ByteArray.getElem_extract]
theorem lines_none {s : ByteArray} {p : Nat} (hp : p ≤ s.size) (h : ∀ k, p ≤ k → k < s.size → s.get! k ≠ 10) : splB s (s.size - p) p p = [s.extract p s.size] := by
 have := splB_skip s p (s.size - p) p (by omega) (fun k h1 h2 => h k h1 (by omega)); rw [this, show p + (s.size - p) = s.size by omega]; exact splB_end lrr
theorem lines_some {s : ByteArray} {p j : Nat} (hj : p + j < s.size) (hb : s.get! (p + j) = 10) (h : ∀ k, p ≤ k → k < p + j → s.get! k ≠ 10) : splB s (s.size - p) p p = s.extract p (p + j) :: splB s (s.size - (p + j + 1)) (p + j + 1) (p + j + 1) := by
 rw [splB_skip s p j p (by omega) h]; exact splB_hit hj hb
/-! ### pieces -/
section
attribute [local go_sem] Oper.semAt_some
theorem wide_fn (f : FuncId) : Fence.wide.fn f = True := rfl
theorem wide_depth : Fence.wide.depth = none := rfl
attribute [local go_sem] wide_fn wide_depth
set_option maxRecDepth 100000 in
theorem slix_any (s : ByteArray) (c : Int) (w : World) : Calls Tryz.prog 225 #[.string s, .int .u8 c] w fun e w' => e = .returned (.int .i64 (Lib.indexByte s.data.toList c.toNat.toUInt8)) ∧ w = w' := by
 go_enter Tryz.func225, Tryz.ntmps225
 go_wp2; rw [run_callFunc_extern Tryz.func236 (by kernel_rfl) (by kernel_rfl) (by kernel_rfl) (e := Extern.BytealgIndexByte.indexByte) (by kernel_rfl), Lib.run_indexByteString]; simp only [Result.andThen]; rw [Oper.upon_value]; go_wp2; go_ret; exact ⟨rfl, rfl⟩
theorem slidx_any (s : ByteArray) (w : World) : Calls Tryz.prog 213 #[.string s, .string ⟨#[10]⟩] w fun e w' => e = .returned (.int .i64 (Lib.indexByte s.data.toList 10)) ∧ w = w' := by
 cases hs : ([10] == s.toList)
 ·go_enter Tryz.func213, Tryz.ntmps213
  go_wp2_with (go_at_call 225; (with_reducible refine (slix_any _ _ _).mono ?_); rintro e w1 ⟨rfl, rfl⟩)
  go_ret; exact ⟨rfl, rfl⟩
 ·have e : Lib.indexByte s.data.toList 10 = 0 := by
   have h := eq_of_beq hs; rw [ByteArray.toList_eq] at h; rw [← h]
   rfl
  rw [e]
  go_enter Tryz.func213, Tryz.ntmps213
  go_wp2; go_ret; exact ⟨rfl, rfl⟩
theorem sidx_any (s : ByteArray) (w : World) : Calls Tryz.prog 184 #[.string s, .string ⟨#[10]⟩] w fun e w' => e = .returned (.int .i64 (Lib.indexByte s.data.toList 10)) ∧ w = w' := by
 go_enter Tryz.func184, Tryz.ntmps184
 go_wp2_with (go_at_call 213; (with_reducible refine (slidx_any _ _).mono ?_); rintro e w1 ⟨rfl, rfl⟩)
 go_ret; exact ⟨rfl, rfl⟩
theorem splitSeq_any (s : ByteArray) (w : World) : Calls Tryz.prog 139 #[.string s, .string ⟨#[10]⟩, .int .i64 0] w fun e w' => e = .returned (.func (.func 183) #[] #[.pointer (some ⟨w.heap.size + 1, 0, none⟩), .pointer (some ⟨w.heap.size, 0, none⟩), .pointer (some ⟨w.heap.size + 1 + 1, 0, none⟩)]) ∧ w' = ((w.alloc (.cells #[.string s] 9)).alloc (.cells #[.string ⟨#[10]⟩] 9)).alloc (.cells #[.int .i64 0] 3) := by
 go_enter Tryz.func139, Tryz.ntmps139
 go_wp2; go_ret; exact ⟨rfl, rfl⟩
theorem ssplitSeq_any (s : ByteArray) (w : World) : Calls Tryz.prog 98 #[.string s, .string ⟨#[10]⟩] w fun e w' => e = .returned (.func (.func 183) #[] #[.pointer (some ⟨w.heap.size + 1, 0, none⟩), .pointer (some ⟨w.heap.size, 0, none⟩), .pointer (some ⟨w.heap.size + 1 + 1, 0, none⟩)]) ∧ w' = ((w.alloc (.cells #[.string s] 9)).alloc (.cells #[.string ⟨#[10]⟩] 9)).alloc (.cells #[.int .i64 0] 3) := by
 go_enter Tryz.func98, Tryz.ntmps98
 go_wp2_with (go_at_call 139; (with_reducible refine (splitSeq_any _ _).mono ?_); rintro e w1 ⟨rfl, rfl⟩)
 go_ret; exact ⟨rfl, rfl⟩
theorem Blk.keeps {w w' : World} {b lo hi : Nat} {cs : List Value} {e : TypeId} (h : Blk w b cs e) (hk : keepsIn lo hi w w') (h1 : lo ≤ b) (h2 : b < hi) : Blk w' b cs e := (hk b h1 h2).trans h
theorem extract_whole (s : ByteArray) : s.extract 0 s.size = s := by
 apply ByteArray.ext_getElem <;> simp
theorem extract_head {s : ByteArray} {p j : Nat} (h : p + j ≤ s.size) : (s.extract p s.size).extract 0 j = s.extract p (p + j) := by
 rw [ByteArray.extract_extract]
 congr 1
 omega
theorem extract_tail {s : ByteArray} {p j : Nat} (h : p + j ≤ s.size) : (s.extract p s.size).extract j (s.size - p) = s.extract (p + j) s.size := by
 rw [ByteArray.extract_extract]
 congr 1
 omega
def strLen (v : Option Value) : Nat := match v with | some (.string s) => s.size | _ => 0
theorem ext_list {s : ByteArray} {p k : Nat} (h : p + k < s.size) : (s.extract p s.size).data.toList[k]? = some (s.get! (p + k)) := by
 have h1 : k < (s.extract p s.size).size := by simp; omega
 have e := get!_extract s p s.size k h lrr; rw [← e]; generalize s.extract p s.size = t at h1 ⊢; obtain ⟨d⟩ := t; have h1 : k < d.size := h1
 show d.toList[k]? = some (d[k]!)
 rw [Array.getElem?_toList, Array.getElem?_eq_getElem h1, getElem!_pos d k h1]
theorem index_none {s : ByteArray} {p : Nat} (h : Lib.indexByte (s.extract p s.size).data.toList 10 = -1) : ∀ k, p ≤ k → k < s.size → s.get! k ≠ 10 := by
 intro k h1 h2 e
 have := Lib.indexByte_none h (k - p); rw [ext_list (by omega), show p + (k - p) = k by omega, e] at this; exact this rfl
theorem index_some {s : ByteArray} {p j : Nat} (h : Lib.indexByte (s.extract p s.size).data.toList 10 = (j : Int)) : p + j < s.size ∧ s.get! (p + j) = 10 ∧ ∀ k, p ≤ k → k < p + j → s.get! k ≠ 10 := by
 obtain ⟨a1, a2⟩ := Lib.indexByte_some h
 have hj : p + j < s.size := by
  have := (List.getElem?_eq_some_iff.1 a1).1
  have e : (s.extract p s.size).data.toList.length = s.size - p := by
   rw [Array.length_toList]
   show (s.extract p s.size).size = _
   simp
  omega
 rw [ext_list hj] at a1; refine ⟨hj, by injection a1, fun k h1 h2 e => ?_⟩; have := a2 (k - p) (by omega); rw [ext_list (by omega), show p + (k - p) = k by omega, e] at this; exact this rfl
theorem Blk.but {w w' : World} {b : Nat} {X : Nat → Prop} {cs : List Value} {e : TypeId} (h : Blk w b cs e) (hk : KeptBut X w w') (hx : ¬ X b) : Blk w' b cs e := (hk.same b h.lt hx).trans h
set_option maxRecDepth 100000 in
theorem split_iter (n b : Nat) (s : ByteArray) (w : World) (hm : s.size ≤ maxLen) (h0 : Blk w b [.string s] 9) (h1 : Blk w (b + 1) [.string ⟨#[10]⟩] 9) (h2 : Blk w (b + 1 + 1) [.int .i64 0] 3) :
  IterOwn n Tryz.prog 183 #[.pointer (some ⟨b + 1, 0, none⟩), .pointer (some ⟨b, 0, none⟩), .pointer (some ⟨b + 1 + 1, 0, none⟩)] b b (b + 3) (linesB s) w := by
 intro l J W hW hz hJ hY hj0
 have B0 : Blk W b [.string s] 9 := h0.keeps hW (by omega) (by omega); have B1 : Blk W (b + 1) [.string ⟨#[10]⟩] 9 := h1.keeps hW (by omega) (by omega); have B2 : Blk W (b + 1 + 1) [.int .i64 0] 3 := h2.keeps hW (by omega) (by omega); clear h0 h1 h2 hW; have hall := hdh (show linesB s = linesB s from rfl); unfold maxLen at hm; refine callsIn_of_wp Tryz.func183 rfl trivial ?_ rfl; simp only [Tryz.ntmps183, List.size_toArray, List.length_cons, List.length_nil, Nat.reduceAdd, Nat.reduceSub, Array.replicate_succ, Array.replicate_zero, List.push_toArray, List.append_toArray, List.nil_append, List.cons_append]
 have q1 := B1.cell (o := 0) rfl; obtain ⟨L, hL⟩ := exx (linesB s); rw [hL]
 gi_wp2
 gi_loopw [] (fun wr => ∃ (pre : List ByteArray) (p : Nat), p ≤ s.size ∧ Blk wr b [.string (s.extract p s.size)] 9 ∧ Blk wr (b + 1) [.string ⟨#[10]⟩] 9 ∧ Blk wr (b + 1 + 1) [.int .i64 0] 3 ∧ Hid (pre ++ splB s (s.size - p) p p = L) ∧ J pre wr ∧ b + 3 ≤ wr.heap.size) (fun wr => strLen (wr.cell? ⟨b, 0, none⟩))
 case atStart => exact ⟨[], 0, Nat.zero_le _, by rw [extract_whole]; exact B0, B1, B2, hdh hL, hj0, hz⟩
 case round =>
  clear q1 B0 B1 B2 hz; replace hL := hdh hL; obtain ⟨pre, p, hp, B0, B1, B2, hx, hj, hz⟩ := hrel; have q0 := B0.cell (o := 0) rfl; have q1 := B1.cell (o := 0) rfl; have q2 := B2.cell (o := 0) rfl; have f0 := B0.free; obtain ⟨I, hI⟩ := exx (Lib.indexByte (s.extract p s.size).data.toList 10)
  have IX := fun w => callsIn_wide (n := n - 1) |>.2 (sidx_any (s.extract p s.size) w)
  rw [hI] at IX
  by_cases c : I = -1
  ·subst c
   have hlast := lines_none hp (index_none hI); obtain ⟨fn, tmps, assign, body, hy, hR⟩ := hY pre (s.extract p s.size) [] wr (by rw [← hlast, hL.out]; exact hx.out) hj; replace hR := hdh hR; replace hI := hdh hI
   gi_wp2_with (gi_at_call 184; (with_reducible refine (IX _).mono ?_); rintro e w1 ⟨rfl, rfl⟩)
   refine hR.out.mono ?_
   rintro e W3 ⟨rfl, hJ3, _, _⟩
   rw [hlast] at hx; have hx := hx.out; rw [hx] at hJ3
   gi_wp2
   go_end0
   exact ⟨⟨_, rfl⟩, hJ3⟩
  ·obtain ⟨j, rfl⟩ : ∃ j : Nat, I = (j : Int) := ⟨I.toNat, by have := Lib.indexByte_ge (s.extract p s.size).data.toList 10; omega⟩
   obtain ⟨hj1, hj2, hj3⟩ := index_some hI; have hcons := lines_some hj1 hj2 hj3; have e1 := extract_head (s := s) (p := p) (j := j) (by omega); have e2 := extract_tail (s := s) (p := p) (j := j + 1) (by omega); obtain ⟨fn, tmps, assign, body, hy, hR⟩ := hY pre (s.extract p (p + j)) _ wr (by rw [← hcons, hL.out]; exact hx.out) hj
   have zs : (s.extract p s.size).size = s.size - p := by simp
   obtain ⟨t, ht⟩ := exx (s.extract p s.size); rw [ht] at q0 B0 IX e1 e2 zs
   have hjt : j < t.size := by omega
   have hj0 : ¬ (j : Int) < 0 := by omega
   replace hR := hdh hR; replace hI := hdh hI; replace hx := hdh hx; clear c hj2 hj3
   gi_wp2_with (gi_at_call 184; (with_reducible refine (IX _).mono ?_); rintro e w1 ⟨rfl, rfl⟩)
   refine hR.out.mono ?_
   rintro e W3 ⟨rfl, hJ3, hk3, hz3⟩
   have D0 : Blk W3 b [.string t] 9 := B0.keeps hk3 (by omega) (by omega); have D1 : Blk W3 (b + 1) [.string ⟨#[10]⟩] 9 := B1.keeps hk3 (by omega) (by omega); have D2 : Blk W3 (b + 1 + 1) [.int .i64 0] 3 := B2.keeps hk3 (by omega) (by omega)
   have m0 : strLen (wr.cell? ⟨b, 0, none⟩) = t.size := by rw [q0]; rfl
   clear B0 B1 B2 q0 q1 q2 f0 hR; have q0 := D0.cell (o := 0) rfl; have q1 := D1.cell (o := 0) rfl; have q2 := D2.cell (o := 0) rfl; have f0 := D0.free
   have hj2 : j + 1 ≤ t.size := by omega
   have hji : ((j + 1 : Nat) : Int) ≤ (t.size : Int) := by omega
   gi_wp2
   have E0 := D0.set 0 (.string (s.extract (p + (j + 1)) s.size)); have e0 := E0.cell (o := 0) rfl; go_roundw
   case rel =>
    refine ⟨pre ++ [s.extract p (p + j)], p + (j + 1), by omega, E0, D1.set_ne (by simp) _, D2.set_ne (by simp; omega) _, hdh ?_, hJ _ _ _ hJ3 ((KeptBut.refl _ _).setCell _ _ rfl), by simp; omega⟩; rw [List.append_assoc, ← hx.out, hcons]
    rfl
   case measure =>
    rw [e0, m0]
    show (s.extract (p + (j + 1)) s.size).size < t.size
    simp
    omega
end
theorem held_alloc {W u v : World} {k : Nat} {ob : Obj} (h : Held W k [] u) (hv : u.alloc ob = v) : Held W k [] v := by
 subst hv; exact h.below ((Below.refl _ _).alloc lrr _)
theorem held_size {W u : World} (h : Held W 0 [] u) : W.heap.size ≤ u.heap.size := by
 have := h.2.1; omega
theorem held_kept {W u v : World} {b : Nat} (h : Held W 0 [] u) (hk : KeptBut (· = b) u v) (hb : W.heap.size ≤ b) : Held W 0 [] v :=
 ⟨KeptBut.toBelow h.1 hk (held_size h) (fun k h1 h2 => by omega), by have := hk.size; have := held_size h; omega, trivial⟩
theorem Blk.alloc_eq {w v : World} {b : Nat} {cs : List Value} {e : TypeId} {ob : Obj} (h : Blk w b cs e) (hv : w.alloc ob = v) : Blk v b cs e := by
 subst hv; exact h.alloc _
theorem Blk.new_eq {w v : World} {cs : List Value} {e : TypeId} (hv : w.alloc (.cells cs.toArray e) = v) : Blk v w.heap.size cs e := by
 subst hv; exact Blk.new' rfl
end Go.Proofs.YtfcphagmjijmkaaGreatDoor
