/-
  XGa: XLisA XLisB XLisC XLisD XLisE XRegP XRegQ XRegR XRegPa.
-/
import Derived.Below
import Derived.ChangeSame
import Derived.Deep.DeepCutAuto
import Derived.Deep.Fields
import Derived.Deep.MidRow
import Derived.Deep.RegionHeld3
import Derived.Deep.Slices
import Derived.Deep.WholeRow
import Derived.KernelRfl
import Derived.Laws.AppendOwnNone
import Derived.Laws.BitsLemmas
import Derived.Laws.CopyOwn
import Derived.Laws.CopyRow
import Derived.Laws.EntriesVeiled
import Derived.Laws.Externs
import Derived.Laws.IdiomCopy
import Derived.Laws.MakeOwn
import Derived.Laws.OwnMore
import Derived.Laws.StructEq
import Derived.Lib.Bytealg
import Derived.Lib.DecodeNEq
import Derived.Lib.Hide
import Derived.Lib.IndexBytes
import Derived.Lib.OthersKept
import Derived.Lib.SmallJoins
import Derived.LoopIn
import Derived.LoopNIn
import Derived.Maps.AppendAt
import Derived.OneCell
import Derived.OrdersHeld
import Derived.OwnWalk
import Derived.OwnWalkIn
import Derived.RangeFuncBound
import Derived.RangeFuncCalls
import Derived.RangeFuncLeaves
import Derived.RangeFuncNested
import Derived.ScopeJumps
import Derived.Shelf.Bits.Mul64
import Derived.Shelf.LaysM
import Derived.Shelf.RegionOpen
import Derived.Shelf.SlSortCmp.NoneTotal
import Derived.Shelf.SlSortCmp.WholeK
import Derived.Shelf.Slices.CompactI
import Derived.Shelf.Slices.In.SortNone
import Derived.Shelf.Small.Bits
import Derived.Shelf.Small.Wraps
import Derived.Shelf.Sort.Plain
import Derived.Shelf.Spec.SlicesGrow
import Derived.Shelf.Spec.SlicesInsert
import Derived.Shelf.Strconv.Itoa0
import Derived.Shelf.Strconv.Itoa1
import Derived.Shelf.Strconv.Itoa2
import Derived.Shelf.Strconv.Itoa3
import Derived.Shelf.Strings.Builder1
import Derived.Shelf.Strings.BuilderCap
import Derived.Shelf.Strings.BuilderF
import Derived.Shelf.Strings.BuilderK
import Derived.Shelf.Strings.BuilderRune
import Derived.Shelf.Strings.Prefix
import Derived.Shelf.Unicode.Decode
import Derived.Shelf.Unicode.DecodeAny
import Derived.Shelf.Unicode.DecodeSlow
import Derived.Shelf.Utf8.AppendRune
import Derived.Shelf.Utf8.AppendRunePlain
import Derived.Sort.OwnSortedInts
import Derived.StillTail
import Derived.Tactics2
import Derived.TacticsInMore
import Derived.WalkKit
import Derived.WalkLawsBesides
import Derived.WalkSpells
import Derived.Test.YtfcphagmjijmkaaGreatDoorDq30
import Derived.Test.YtfcphagmjijmkaaGreatDoorProg
namespace Go.Proofs.YtfcphagmjijmkaaGreatDoor
open Go.RowKit
set_option linter.unusedVariables false
attribute [local go_sem] vwp vUpon_value vUpon_skip vUpon_enter vUpon_row
set_option linter.unusedSimpArgs false
set_option linter.unusedVariables false
section
set_option linter.unusedSimpArgs false
theorem rwithin_any (n : Int) (w : World) (hn : I64 n) : Calls Tryz.prog 181 #[.int .i64 n] w fun e w' => e = .returned (.bool (inB n)) ∧ w = w' := by
  unfold inB
  go_enter Tryz.func181, Tryz.ntmps181
  by_cases h : -16384 ≤ n
  · have g1 : decide (-16384 ≤ n) = true := by simpa using h
    go_wp2
    go_ret
    exact ⟨by simp [g1], rfl⟩
  · have g1 : decide (-16384 ≤ n) = false := by simpa using h
    go_wp2
    go_ret
    exact ⟨by simp [g1], rfl⟩
theorem rside_any (n : Int) (w : World) (hn : I64 n) : Calls Tryz.prog 182 #[.int .i64 n] w fun e w' => e = .returned (.bool (sdB n)) ∧ w = w' := by
  unfold sdB
  go_enter Tryz.func182, Tryz.ntmps182
  by_cases h : 0 ≤ n
  · have g1 : decide (0 ≤ n) = true := by simpa using h
    go_wp2
    go_ret
    exact ⟨by simp [g1], rfl⟩
  · have g1 : decide (0 ≤ n) = false := by simpa using h
    go_wp2
    go_ret
    exact ⟨by simp [g1], rfl⟩
end
section
set_option linter.unusedSimpArgs false
instance : Inhabited Re := ⟨⟨0, 0, 0, 0⟩⟩
theorem span_any (a s : Int) (w : World) (ha : I64 a) (hs : I64 s) : Calls Tryz.prog 135 #[.int .i64 a, .int .i64 s] w fun e w' => e = .returned (.bool (spanB a s)) ∧ w = w' := by
  have A := fun w => rwithin_any a w ha
  have B := fun w => rside_any s w hs
  unfold spanB
  cases h1 : inB a
  · rw [h1] at A
    replace A := Lib.hid A
    go_enter Tryz.func135, Tryz.ntmps135
    go_wp2_with (first | (go_at_call 181; (with_reducible refine (A.out _).mono ?_); rintro e w1 ⟨rfl, rfl⟩) | (go_at_call 182; (with_reducible refine (B _).mono ?_); rintro e w2 ⟨rfl, rfl⟩))
    go_ret
    exact ⟨rfl, rfl⟩
  · cases h2 : sdB s
    · rw [h1] at A
      rw [h2] at B
      replace A := Lib.hid A
      replace B := Lib.hid B
      go_enter Tryz.func135, Tryz.ntmps135
      go_wp2_with (first | (go_at_call 181; (with_reducible refine (A.out _).mono ?_); rintro e w1 ⟨rfl, rfl⟩) | (go_at_call 182; (with_reducible refine (B.out _).mono ?_); rintro e w2 ⟨rfl, rfl⟩))
      go_ret
      exact ⟨rfl, rfl⟩
    · rw [h1] at A
      rw [h2] at B
      obtain ⟨x1, x2⟩ := inB_iff.1 h1
      obtain ⟨y1, y2⟩ := sdB_iff.1 h2
      clear h1 h2
      replace A := Lib.hid A
      replace B := Lib.hid B
      go_enter Tryz.func135, Tryz.ntmps135
      go_wp2_with (first | (go_at_call 181; (with_reducible refine (A.out _).mono ?_); rintro e w1 ⟨rfl, rfl⟩) | (go_at_call 182; (with_reducible refine (B.out _).mono ?_); rintro e w2 ⟨rfl, rfl⟩))
      go_ret
      exact ⟨rfl, rfl⟩
theorem may_any (q : Re) (w : World) (hq : q.Wf) : Calls Tryz.prog 92 #[.agg #[.int .i64 (q).x, .int .i64 (q).y, .int .i64 (q).wd, .int .i64 (q).ht]] w fun e w' => e = .returned (.bool (mayR q)) ∧ Below w.heap.size w w' := by
  have A := fun w => span_any q.x q.wd w hq.1 hq.2.2.1
  have B := fun w => span_any q.y q.ht w hq.2.1 hq.2.2.2
  unfold mayR
  cases h1 : spanB q.x q.wd <;> rw [h1] at A <;> replace A := Lib.hid A <;> replace B := Lib.hid B
  · go_enter Tryz.func92, Tryz.ntmps92
    go_wp2_with (first | (go_at_call 135; (with_reducible refine (A.out _).mono ?_); rintro e w1 ⟨rfl, rfl⟩) | (go_at_call 135; (with_reducible refine (B.out _).mono ?_); rintro e w2 ⟨rfl, rfl⟩))
    go_ret
    exact ⟨rfl, (by repeat (first | exact Below.refl _ _ | assumption | refine Below.drew ?_ | refine Below.alloc ?_ (by (try simp) <;> omega) _ | refine Below.setCell ?_ (by (try simp) <;> omega) _))⟩
  · go_enter Tryz.func92, Tryz.ntmps92
    go_wp2_with (first | (go_at_call 135; (with_reducible refine (A.out _).mono ?_); rintro e w1 ⟨rfl, rfl⟩) | (go_at_call 135; (with_reducible refine (B.out _).mono ?_); rintro e w2 ⟨rfl, rfl⟩))
    go_ret
    exact ⟨rfl, (by repeat (first | exact Below.refl _ _ | assumption | refine Below.drew ?_ | refine Below.alloc ?_ (by (try simp) <;> omega) _ | refine Below.setCell ?_ (by (try simp) <;> omega) _))⟩
end
section
set_option linter.unusedSimpArgs false
set_option linter.unusedVariables false
instance : Inhabited St := ⟨⟨0, default, ⟨0, 0, 0, 0⟩, ⟨0, 0, 0, 0⟩, default, 0⟩⟩
end
section
set_option linter.unusedSimpArgs false
/-! ### rising lists -/
/-! ### what is wanted between edges -/
/-! ### rectangles as sets of places (those that may be: sides not below 0) -/
/-! ### the program's way: rows merged, mixed -/
/-! ### bands -/
/-! ### the document's way with bands -/
def growL (out : List Re) (k : Nat) (d : Int) : List Re := out.take (out.length - k) ++ (out.drop (out.length - k)).map fun q => ⟨q.x, q.y, q.wd, q.ht + d⟩
def refGo (now : Int → List Sp) : List Re → List Sp → List Int → List Re
  | out, last, y :: z :: r => if now y = last then refGo now (growL out last.length (z - y)) last (z :: r) else refGo now (out ++ rectsOf y (z - y) (now y)) (now y) (z :: r)
  | out, _, _ => out
theorem flatB_if (y h : Int) (l : List Sp) : flatB (if l = [] then [] else [(y, h, l)]) = rectsOf y h l := by
  split
  · rename_i e; subst e; rfl
  · simp [flatB]
theorem growL_rects (done : List Re) (y h d : Int) (l : List Sp) : growL (done ++ rectsOf y h l) l.length d = done ++ rectsOf y (h + d) l := by
  have e : (done ++ rectsOf y h l).length - l.length = done.length := by simp [rectsOf]
  unfold growL
  rw [e, List.take_left, List.drop_left]
  simp [rectsOf]
theorem refGo_band (now : Int → List Sp) : ∀ (r : List Int) (y : Int) (done : List Re) (last : List Sp) (frm : Int), refGo now (done ++ rectsOf frm (y - frm) last) last (y :: r) = done ++ flatB (bandGo now last frm (y :: r))
  | [], y, done, last, frm => by
    show done ++ rectsOf frm (y - frm) last = done ++ flatB (if last = [] then [] else [(frm, y - frm, last)])
    rw [flatB_if]
  | z :: r, y, done, last, frm => by
    show (if now y = last then refGo now (growL (done ++ rectsOf frm (y - frm) last) last.length (z - y)) last (z :: r) else refGo now ((done ++ rectsOf frm (y - frm) last) ++ rectsOf y (z - y) (now y)) (now y) (z :: r)) = done ++ flatB (if now y = last then bandGo now last frm (z :: r) else (if last = [] then [] else [(frm, y - frm, last)]) ++ bandGo now (now y) y (z :: r))
    split
    · rw [growL_rects, show y - frm + (z - y) = z - frm by omega]
      exact refGo_band now r z done last frm
    · rw [refGo_band now r z (done ++ rectsOf frm (y - frm) last) (now y) y, flatB_append, flatB_if, List.append_assoc]
theorem refGo_form (now : Int → List Sp) (ys : List Int) : refGo now [] [] ys = flatB (bandGo now [] 0 ys) := by
  cases ys with
  | nil => rfl
  | cons y r => exact refGo_band now r y [] [] 0
theorem growL_len (out : List Re) (k : Nat) (d : Int) : (growL out k d).length = out.length := by unfold growL; simp
theorem refGo_le (now : Int → List Sp) : ∀ (ys : List Int) (out : List Re) (last : List Sp), out.length ≤ (refGo now out last ys).length
  | [], _, _ => Nat.le_refl _
  | [_], _, _ => Nat.le_refl _
  | y :: z :: r, out, last => by
    unfold refGo
    split
    · have := refGo_le now (z :: r) (growL out last.length (z - y)) last
      rw [growL_len] at this; exact this
    · have := refGo_le now (z :: r) (out ++ rectsOf y (z - y) (now y)) (now y)
      rw [List.length_append] at this; omega
/-! ### areas -/
/-! ### rows alone -/
end
section
set_option linter.unusedSimpArgs false
/-! ### ends lie among the edges -/
/-! ### areas as numbers of places -/
/-! ### moved -/
/-- Two lists of rectangles. -/
def eqRs : List Re → List Re → Bool
  | [], [] => true
  | x :: xs, y :: ys => x.eqb y && eqRs xs ys
  | _, _ => false
theorem eqRs_len : ∀ {xs ys : List Re}, xs.length ≠ ys.length → eqRs xs ys = false
  | [], [], h => absurd rfl h
  | [], _ :: _, _ => rfl
  | _ :: _, [], _ => rfl
  | x :: xs, y :: ys, h => by
    unfold eqRs
    rw [eqRs_len (by simpa using h), Bool.and_false]
theorem eqRs_iff : ∀ {xs ys : List Re}, eqRs xs ys = true ↔ xs = ys
  | [], [] => by simp [eqRs]
  | [], _ :: _ => by simp [eqRs]
  | _ :: _, [] => by simp [eqRs]
  | x :: xs, y :: ys => by
    unfold eqRs
    rw [Bool.and_eq_true, eqb_iff, eqRs_iff]
    simp
theorem eqRs_step {xs ys : List Re} {k : Nat} {x y : Re} (hx : xs[k]? = some x) (hy : ys[k]? = some y) : eqRs (xs.drop k) (ys.drop k) = (x.eqb y && eqRs (xs.drop (k + 1)) (ys.drop (k + 1))) := by
  obtain ⟨hk, e⟩ := List.getElem?_eq_some_iff.1 hx
  obtain ⟨hk', e'⟩ := List.getElem?_eq_some_iff.1 hy
  rw [List.drop_eq_getElem_cons hk, e, List.drop_eq_getElem_cons hk', e']
  rfl
end
end Go.Proofs.YtfcphagmjijmkaaGreatDoor

namespace Go.Proofs.YtfcphagmjijmkaaGreatDoor
open Go.RowKit
set_option linter.unusedVariables false
attribute [local go_sem] vwp vUpon_value vUpon_skip vUpon_enter vUpon_row
set_option linter.unusedSimpArgs false
set_option linter.unusedVariables false
section
set_option linter.unusedSimpArgs false
set_option linter.unusedVariables false
/-! ### spans and numbers -/
theorem own_int {w : World} {base g n cap k : Nat} {l : List Int} {s : Int} (h : OwnsI base w (.slice (some ⟨g, 0, none⟩) n cap) l) (hs : l[k]? = some s) : w.cell? ⟨g, k, none⟩ = some (.int .i64 s) := by
  obtain ⟨b, o, cap', e, _, _, _, hx⟩ := row_in (h.row (Nat.le_refl _)) (by have := (List.getElem?_eq_some_iff.1 hs).1; omega)
  injection e with e _ _
  injection e with e
  injection e with e1 e2 _
  subst e1
  subst e2
  have := hx k s hs
  rwa [Nat.zero_add] at this
end
end Go.Proofs.YtfcphagmjijmkaaGreatDoor

namespace Go.Proofs.YtfcphagmjijmkaaGreatDoor
open Go.RowKit
set_option linter.unusedVariables false
attribute [local go_sem] vwp vUpon_value vUpon_skip vUpon_enter vUpon_row
set_option linter.unusedSimpArgs false
set_option linter.unusedVariables false
set_option maxHeartbeats 1000000 in
theorem rcontrol_any (r : Int) (w : World) : Calls Tryz.prog 201 #[.int .i32 r] w fun e w' => e = .returned (.bool (ctlR r)) ∧ Below w.heap.size w w' := by
 go_enter Tryz.func201, Tryz.ntmps201
 by_cases c1 : 0 ≤ r
 ·by_cases c2 : r < 32
  ·have e : ctlR r = true := by unfold ctlR; simp; omega
   rw [e]
   go_wp2
   go_ret
   exact ⟨rfl, (by repeat (first | exact Below.refl _ _ | assumption | refine Below.drew ?_ | refine Below.alloc ?_ (by (try simp) <;> omega) _ | refine Below.setCell ?_ (by (try simp) <;> omega) _))⟩
  ·by_cases c3 : 127 ≤ r
   ·by_cases c4 : r ≤ 159
    ·have e : ctlR r = true := by unfold ctlR; simp; omega
     rw [e]
     go_wp2
     go_ret
     exact ⟨rfl, (by repeat (first | exact Below.refl _ _ | assumption | refine Below.drew ?_ | refine Below.alloc ?_ (by (try simp) <;> omega) _ | refine Below.setCell ?_ (by (try simp) <;> omega) _))⟩
    ·have e : ctlR r = false := by unfold ctlR; simp; omega
     rw [e]
     go_wp2
     go_ret
     exact ⟨rfl, (by repeat (first | exact Below.refl _ _ | assumption | refine Below.drew ?_ | refine Below.alloc ?_ (by (try simp) <;> omega) _ | refine Below.setCell ?_ (by (try simp) <;> omega) _))⟩
   ·have e : ctlR r = false := by unfold ctlR; simp; omega
    rw [e]
    go_wp2
    go_ret
    exact ⟨rfl, (by repeat (first | exact Below.refl _ _ | assumption | refine Below.drew ?_ | refine Below.alloc ?_ (by (try simp) <;> omega) _ | refine Below.setCell ?_ (by (try simp) <;> omega) _))⟩
 ·have c3 : ¬ 127 ≤ r := by omega
  have e : ctlR r = false := by unfold ctlR; simp; omega
  rw [e]
  go_wp2
  go_ret
  exact ⟨rfl, (by repeat (first | exact Below.refl _ _ | assumption | refine Below.drew ?_ | refine Below.alloc ?_ (by (try simp) <;> omega) _ | refine Below.setCell ?_ (by (try simp) <;> omega) _))⟩
/-! ### the document's answer -/
def RowP (B : Nat) (w : World) (v : Value) (l : List (Int × Int)) : Prop :=
  ∃ b cap, v = .slice (some ⟨b, 0, none⟩) (2 * l.length) cap ∧ b < B ∧ ∀ (k : Nat) s, l[k]? = some s → w.cell? ⟨b, 2 * k, none⟩ = some (.int .i32 s.1) ∧ w.cell? ⟨b, 2 * k + 1, none⟩ = some (.int .i32 s.2)
set_option maxHeartbeats 1000000 in
theorem among_any (l : List (Int × Int)) (v : Value) (r : Int) (w : World) (hl : RowP w.heap.size w v l) (hm : l.length ≤ 1000) :
  Calls Tryz.prog 219 #[.int .i32 r, v] w fun e w' => e = .returned (.bool (inL r l)) ∧ Below w.heap.size w w' := by
 obtain ⟨b, cap, rfl, hb, hel⟩ := hl
 obtain ⟨n, en⟩ : ∃ n, l.length = n := ⟨_, rfl⟩
 rw [en] at hm ⊢
 obtain ⟨R, hR⟩ : ∃ R, inL r l = R := ⟨_, rfl⟩
 rw [hR]
 have hgo := Lib.hid (show inL r (l.drop 0) = R from hR)
 replace hel := Lib.hid hel
 replace en := Lib.hid en
 clear hR
 obtain ⟨N, hN⟩ : ∃ N, 2 * n = N := ⟨_, rfl⟩
 rw [hN]
 have hN16 : N ≤ 2000 := by omega
 go_enter Tryz.func219, Tryz.ntmps219
 go_wp2
 go_loopw [5] (fun iv wr => ∃ k m : Nat, Hid (m = 2 * k) ∧ k ≤ n ∧ iv = .int .i64 m ∧ Hid (inL r (l.drop k) = R) ∧ Below w.heap.size w wr) (fun iv _ => N - (intOf iv).toNat)
 case atStart => exact ⟨0, 0, Lib.hid rfl, Nat.zero_le _, rfl, hgo, Below.refl _ _⟩
 case round =>
  obtain ⟨k, m, em, hk, rfl, hgo, hbr⟩ := hrel
  have zr := hbr.size
  by_cases hkn : k < n
  ·obtain ⟨s, hs⟩ := get_at en.out hkn
   have g0 := (hbr.cell (p := ⟨b, 2 * k, none⟩) hb).trans (hel.out k s hs).1
   have g1 := (hbr.cell (p := ⟨b, 2 * k + 1, none⟩) hb).trans (hel.out k s hs).2
   rw [← em.out] at g0 g1
   have em' := em.out
   have hg := hgo.out
   rw [inL_step hs] at hg
   have hmm : (m : Int) + 1 < N := by omega
   have hmN : m < N := by omega
   have hmN1 : m + 1 < N := by omega
   have yb : b < wr.heap.size := by omega
   clear hs em'
   obtain ⟨s1, s2⟩ := s
   simp only at g0 g1 hg
   by_cases c1 : s1 ≤ r
   ·by_cases c2 : r ≤ s2
    ·have d1 : decide (s1 ≤ r) = true := decide_eq_true c1
     have d2 : decide (r ≤ s2) = true := decide_eq_true c2
     rw [d1, d2] at hg
     simp only [Bool.and_true, Bool.true_or] at hg
     subst hg
     go_wp2
     go_ret
     exact ⟨rfl, (by repeat (first | exact Below.refl _ _ | assumption | refine Below.drew ?_ | refine Below.alloc ?_ (by (try simp) <;> omega) _ | refine Below.setCell ?_ (by (try simp) <;> omega) _))⟩
    ·have d1 : decide (s1 ≤ r) = true := decide_eq_true c1
     have d2 : decide (r ≤ s2) = false := decide_eq_false c2
     rw [d1, d2] at hg
     simp only [Bool.and_false, Bool.false_or] at hg
     replace hg := Lib.hid hg
     go_wp2
     go_roundw
     case rel => exact ⟨k + 1, m + 2, Lib.hid (by have := em.out; omega), by omega, by go_num, hg, (by repeat (first | exact Below.refl _ _ | assumption | refine Below.drew ?_ | refine Below.alloc ?_ (by (try simp) <;> omega) _ | refine Below.setCell ?_ (by (try simp) <;> omega) _))⟩
     case measure => simp [intOf]; omega
   ·have d1 : decide (s1 ≤ r) = false := decide_eq_false c1
    rw [d1] at hg
    simp only [Bool.false_and, Bool.false_or] at hg
    replace hg := Lib.hid hg
    go_wp2
    go_roundw
    case rel => exact ⟨k + 1, m + 2, Lib.hid (by have := em.out; omega), by omega, by go_num, hg, (by repeat (first | exact Below.refl _ _ | assumption | refine Below.drew ?_ | refine Below.alloc ?_ (by (try simp) <;> omega) _ | refine Below.setCell ?_ (by (try simp) <;> omega) _))⟩
    case measure => simp [intOf]; omega
  ·obtain rfl : k = n := by omega
   have hg := hgo.out
   rw [List.drop_eq_nil_of_le (by have := en.out; omega)] at hg
   have hg : false = R := hg
   subst hg
   have hmm : decide ((m : Int) + 1 < (N : Int)) = false := decide_eq_false (by have := em.out; omega)
   have hmm2 : ¬ (m : Int) + 1 < (N : Int) := of_decide_eq_false hmm
   have hmm3 : ¬ m + 1 < N := by omega
   have hm2 : m ≤ 2000 := by have := em.out; omega
   go_wp2
   go_ret
   exact ⟨rfl, hbr⟩
theorem rowP_new {w : World} {cs : List Value} {xs : List (Int × Int)} (h : cs = xs.flatMap encW) {n : Nat} (hn : n = 2 * xs.length) : RowP (w.alloc (.cells cs.toArray 21)).heap.size (w.alloc (.cells cs.toArray 21)) (.slice (some ⟨w.heap.size, 0, none⟩) n n) xs := by
  subst hn
  refine ⟨_, _, rfl, by simp, fun k s hs => ?_⟩
  have hB : Blk (w.alloc (.cells cs.toArray 21)) w.heap.size cs 21 := Blk.new' rfl
  have hk : ∀ (xs : List (Int × Int)) (k : Nat), xs[k]? = some s → (xs.flatMap encW)[2 * k]? = some (.int .i32 s.1) ∧ (xs.flatMap encW)[2 * k + 1]? = some (.int .i32 s.2) := by
    intro xs
    induction xs with
    | nil => intro k h; simp at h
    | cons x xs ih =>
      intro k h
      cases k with
      | zero =>
        simp at h; subst h
        exact ⟨rfl, rfl⟩
      | succ k =>
        have := ih k (by simpa using h)
        rw [List.flatMap_cons]
        exact this
  have hc := hk xs k hs
  rw [← h] at hc
  exact ⟨hB.cell hc.1, hB.cell hc.2⟩
set_option maxHeartbeats 1000000 in
theorem rmark_any (r : Int) (w : World) : Calls Tryz.prog 202 #[.int .i32 r] w fun e w' => e = .returned (.bool (inL r marksL)) ∧ Below w.heap.size w w' := by
  go_enter Tryz.func202, Tryz.ntmps202
  go_wp2_with fail
  refine (among_any marksL _ _ _ (rowP_new rfl rfl) (by decide)).mono ?_
  rintro e w2 ⟨rfl, hb2⟩
  go_wp2
  go_ret
  exact ⟨rfl, belt⟩
set_option maxHeartbeats 1000000 in
theorem rwide_any (r : Int) (w : World) : Calls Tryz.prog 203 #[.int .i32 r] w fun e w' => e = .returned (.bool (inL r broadL)) ∧ Below w.heap.size w w' := by
  go_enter Tryz.func203, Tryz.ntmps203
  go_wp2_with fail
  refine (among_any broadL _ _ _ (rowP_new rfl rfl) (by decide)).mono ?_
  rintro e w2 ⟨rfl, hb2⟩
  go_wp2
  go_ret
  exact ⟨rfl, belt⟩
/-- A rune that may not be, by comparisons. -/
theorem valid_of {r : Int} : validR r = false ↔ (r < 0 ∨ 1114111 < r ∨ (55296 ≤ r ∧ r ≤ 57343)) := by
  unfold validR
  simp only [Bool.or_eq_false_iff, Bool.and_eq_false_iff, decide_eq_false_iff_not]
  omega
set_option maxHeartbeats 2000000 in
theorem rwidth_any (r : Int) (w : World) : Calls Tryz.prog 174 #[.int .i32 r] w fun e w' => e = .returned (.int .i64 (widR r)) ∧ Below w.heap.size w w' := by
 obtain ⟨W, hW⟩ : ∃ W, widR r = W := ⟨_, rfl⟩
 rw [hW]
 unfold widR at hW
 have C := rcontrol_any r
 have M := rmark_any r
 have D := rwide_any r
 go_enter Tryz.func174, Tryz.ntmps174
 cases hv : validR r
 ·rw [hv] at hW
  simp only [if_true] at hW
  subst hW
  have hv := valid_of.1 hv
  by_cases q1 : r < 0
  ·go_wp2
   go_ret
   exact ⟨rfl, (by repeat (first | exact Below.refl _ _ | assumption | refine Below.drew ?_ | refine Below.alloc ?_ (by (try simp) <;> omega) _ | refine Below.setCell ?_ (by (try simp) <;> omega) _))⟩
  ·by_cases q2 : 1114111 < r
   ·go_wp2
    go_ret
    exact ⟨rfl, (by repeat (first | exact Below.refl _ _ | assumption | refine Below.drew ?_ | refine Below.alloc ?_ (by (try simp) <;> omega) _ | refine Below.setCell ?_ (by (try simp) <;> omega) _))⟩
   ·have q3 : 55296 ≤ r := by omega
    have q4 : r ≤ 57343 := by omega
    go_wp2
    go_ret
    exact ⟨rfl, (by repeat (first | exact Below.refl _ _ | assumption | refine Below.drew ?_ | refine Below.alloc ?_ (by (try simp) <;> omega) _ | refine Below.setCell ?_ (by (try simp) <;> omega) _))⟩
 ·rw [hv] at hW
  simp only [Bool.true_eq_false, if_false] at hW
  have hv : ¬ (r < 0 ∨ 1114111 < r ∨ (55296 ≤ r ∧ r ≤ 57343)) := fun h => by rw [valid_of.2 h] at hv; cases hv
  have q1 : ¬ r < 0 := fun h => hv (.inl h)
  have q2 : ¬ 1114111 < r := fun h => hv (.inr (.inl h))
  obtain ⟨N1, hN1⟩ : ∃ n, ctlR r = n := ⟨_, rfl⟩
  obtain ⟨N2, hN2⟩ : ∃ n, inL r marksL = n := ⟨_, rfl⟩
  obtain ⟨N3, hN3⟩ : ∃ n, inL r broadL = n := ⟨_, rfl⟩
  rw [hN1] at C hW
  rw [hN2] at M hW
  rw [hN3] at D hW
  clear hN1 hN2 hN3
  by_cases q3 : 55296 ≤ r
  ·have q4 : ¬ r ≤ 57343 := fun h => hv (.inr (.inr ⟨q3, h⟩))
   clear hv
   replace C := Lib.hid C
   replace M := Lib.hid M
   replace D := Lib.hid D
   cases N1
   ·cases N2
    ·cases N3
     ·simp at hW; subst hW
      go_wp2_with (first | (go_at_call 201; (with_reducible refine (C.out _).mono ?_); rintro e w2 ⟨rfl, hb2⟩; obtain ⟨hc2, hf2⟩ := bcell hb2; have hz2 := hb2.size; (try simp at hz2); (try have lt2 : w.heap.size < w2.heap.size := (by omega))) | (go_at_call 202; (with_reducible refine (M.out _).mono ?_); rintro e w3 ⟨rfl, hb3⟩; obtain ⟨hc3, hf3⟩ := bcell hb3; have hz3 := hb3.size; (try simp at hz3); (try have lt3 : w.heap.size < w3.heap.size := (by omega))) | (go_at_call 203; (with_reducible refine (D.out _).mono ?_); rintro e w4 ⟨rfl, hb4⟩; obtain ⟨hc4, hf4⟩ := bcell hb4; have hz4 := hb4.size; (try simp at hz4); (try have lt4 : w.heap.size < w4.heap.size := (by omega))))
      go_ret
      exact ⟨rfl, belt⟩
     ·simp at hW; subst hW
      go_wp2_with (first | (go_at_call 201; (with_reducible refine (C.out _).mono ?_); rintro e w2 ⟨rfl, hb2⟩; obtain ⟨hc2, hf2⟩ := bcell hb2; have hz2 := hb2.size; (try simp at hz2); (try have lt2 : w.heap.size < w2.heap.size := (by omega))) | (go_at_call 202; (with_reducible refine (M.out _).mono ?_); rintro e w3 ⟨rfl, hb3⟩; obtain ⟨hc3, hf3⟩ := bcell hb3; have hz3 := hb3.size; (try simp at hz3); (try have lt3 : w.heap.size < w3.heap.size := (by omega))) | (go_at_call 203; (with_reducible refine (D.out _).mono ?_); rintro e w4 ⟨rfl, hb4⟩; obtain ⟨hc4, hf4⟩ := bcell hb4; have hz4 := hb4.size; (try simp at hz4); (try have lt4 : w.heap.size < w4.heap.size := (by omega))))
      go_ret
      exact ⟨rfl, belt⟩
    ·simp at hW; subst hW
     go_wp2_with (first | (go_at_call 201; (with_reducible refine (C.out _).mono ?_); rintro e w2 ⟨rfl, hb2⟩; obtain ⟨hc2, hf2⟩ := bcell hb2; have hz2 := hb2.size; (try simp at hz2); (try have lt2 : w.heap.size < w2.heap.size := (by omega))) | (go_at_call 202; (with_reducible refine (M.out _).mono ?_); rintro e w3 ⟨rfl, hb3⟩; obtain ⟨hc3, hf3⟩ := bcell hb3; have hz3 := hb3.size; (try simp at hz3); (try have lt3 : w.heap.size < w3.heap.size := (by omega))) | (go_at_call 203; (with_reducible refine (D.out _).mono ?_); rintro e w4 ⟨rfl, hb4⟩; obtain ⟨hc4, hf4⟩ := bcell hb4; have hz4 := hb4.size; (try simp at hz4); (try have lt4 : w.heap.size < w4.heap.size := (by omega))))
     go_ret
     exact ⟨rfl, belt⟩
   ·simp at hW; subst hW
    go_wp2_with (first | (go_at_call 201; (with_reducible refine (C.out _).mono ?_); rintro e w2 ⟨rfl, hb2⟩; obtain ⟨hc2, hf2⟩ := bcell hb2; have hz2 := hb2.size; (try simp at hz2); (try have lt2 : w.heap.size < w2.heap.size := (by omega))) | (go_at_call 202; (with_reducible refine (M.out _).mono ?_); rintro e w3 ⟨rfl, hb3⟩; obtain ⟨hc3, hf3⟩ := bcell hb3; have hz3 := hb3.size; (try simp at hz3); (try have lt3 : w.heap.size < w3.heap.size := (by omega))) | (go_at_call 203; (with_reducible refine (D.out _).mono ?_); rintro e w4 ⟨rfl, hb4⟩; obtain ⟨hc4, hf4⟩ := bcell hb4; have hz4 := hb4.size; (try simp at hz4); (try have lt4 : w.heap.size < w4.heap.size := (by omega))))
    go_ret
    exact ⟨rfl, belt⟩
  ·clear hv
   replace C := Lib.hid C
   replace M := Lib.hid M
   replace D := Lib.hid D
   cases N1
   ·cases N2
    ·cases N3
     ·simp at hW; subst hW
      go_wp2_with (first | (go_at_call 201; (with_reducible refine (C.out _).mono ?_); rintro e w2 ⟨rfl, hb2⟩; obtain ⟨hc2, hf2⟩ := bcell hb2; have hz2 := hb2.size; (try simp at hz2); (try have lt2 : w.heap.size < w2.heap.size := (by omega))) | (go_at_call 202; (with_reducible refine (M.out _).mono ?_); rintro e w3 ⟨rfl, hb3⟩; obtain ⟨hc3, hf3⟩ := bcell hb3; have hz3 := hb3.size; (try simp at hz3); (try have lt3 : w.heap.size < w3.heap.size := (by omega))) | (go_at_call 203; (with_reducible refine (D.out _).mono ?_); rintro e w4 ⟨rfl, hb4⟩; obtain ⟨hc4, hf4⟩ := bcell hb4; have hz4 := hb4.size; (try simp at hz4); (try have lt4 : w.heap.size < w4.heap.size := (by omega))))
      go_ret
      exact ⟨rfl, belt⟩
     ·simp at hW; subst hW
      go_wp2_with (first | (go_at_call 201; (with_reducible refine (C.out _).mono ?_); rintro e w2 ⟨rfl, hb2⟩; obtain ⟨hc2, hf2⟩ := bcell hb2; have hz2 := hb2.size; (try simp at hz2); (try have lt2 : w.heap.size < w2.heap.size := (by omega))) | (go_at_call 202; (with_reducible refine (M.out _).mono ?_); rintro e w3 ⟨rfl, hb3⟩; obtain ⟨hc3, hf3⟩ := bcell hb3; have hz3 := hb3.size; (try simp at hz3); (try have lt3 : w.heap.size < w3.heap.size := (by omega))) | (go_at_call 203; (with_reducible refine (D.out _).mono ?_); rintro e w4 ⟨rfl, hb4⟩; obtain ⟨hc4, hf4⟩ := bcell hb4; have hz4 := hb4.size; (try simp at hz4); (try have lt4 : w.heap.size < w4.heap.size := (by omega))))
      go_ret
      exact ⟨rfl, belt⟩
    ·simp at hW; subst hW
     go_wp2_with (first | (go_at_call 201; (with_reducible refine (C.out _).mono ?_); rintro e w2 ⟨rfl, hb2⟩; obtain ⟨hc2, hf2⟩ := bcell hb2; have hz2 := hb2.size; (try simp at hz2); (try have lt2 : w.heap.size < w2.heap.size := (by omega))) | (go_at_call 202; (with_reducible refine (M.out _).mono ?_); rintro e w3 ⟨rfl, hb3⟩; obtain ⟨hc3, hf3⟩ := bcell hb3; have hz3 := hb3.size; (try simp at hz3); (try have lt3 : w.heap.size < w3.heap.size := (by omega))) | (go_at_call 203; (with_reducible refine (D.out _).mono ?_); rintro e w4 ⟨rfl, hb4⟩; obtain ⟨hc4, hf4⟩ := bcell hb4; have hz4 := hb4.size; (try simp at hz4); (try have lt4 : w.heap.size < w4.heap.size := (by omega))))
     go_ret
     exact ⟨rfl, belt⟩
   ·simp at hW; subst hW
    go_wp2_with (first | (go_at_call 201; (with_reducible refine (C.out _).mono ?_); rintro e w2 ⟨rfl, hb2⟩; obtain ⟨hc2, hf2⟩ := bcell hb2; have hz2 := hb2.size; (try simp at hz2); (try have lt2 : w.heap.size < w2.heap.size := (by omega))) | (go_at_call 202; (with_reducible refine (M.out _).mono ?_); rintro e w3 ⟨rfl, hb3⟩; obtain ⟨hc3, hf3⟩ := bcell hb3; have hz3 := hb3.size; (try simp at hz3); (try have lt3 : w.heap.size < w3.heap.size := (by omega))) | (go_at_call 203; (with_reducible refine (D.out _).mono ?_); rintro e w4 ⟨rfl, hb4⟩; obtain ⟨hc4, hf4⟩ := bcell hb4; have hz4 := hb4.size; (try simp at hz4); (try have lt4 : w.heap.size < w4.heap.size := (by omega))))
    go_ret
    exact ⟨rfl, belt⟩
end Go.Proofs.YtfcphagmjijmkaaGreatDoor

namespace Go.Proofs.YtfcphagmjijmkaaGreatDoor
open Go.RowKit
set_option linter.unusedVariables false
attribute [local go_sem] vwp vUpon_value vUpon_skip vUpon_enter vUpon_row
set_option linter.unusedSimpArgs false
set_option linter.unusedVariables false
instance : Inhabited Ce := ⟨⟨0, ⟨0, 0, 0, 0⟩, ⟨0, 0, 0, 0⟩, false, false⟩⟩
set_option maxHeartbeats 4000000 in
theorem crcell_any (c : Ce) (w : World) : Calls Tryz.prog 125 #[.agg #[.int .i32 (c).rune, .int .u8 (c).col.r, .int .u8 (c).col.g, .int .u8 (c).col.b, .int .u8 (c).col.a, .int .u8 (c).back.r, .int .u8 (c).back.g, .int .u8 (c).back.b, .int .u8 (c).back.a, .bool (c).wide, .bool (c).tail]] w fun e w' => e = .returned (.bool (mayC c)) ∧ Below w.heap.size w w' := by
 obtain ⟨R, hR⟩ : ∃ R, mayC c = R := ⟨_, rfl⟩
 rw [hR]
 obtain ⟨ru, ⟨c1, c2, c3, c4⟩, ⟨d1, d2, d3, d4⟩, wi, ta⟩ := c
 unfold mayC at hR
 dsimp only at hR ⊢
 have D := rwidth_any ru
 have bd := widR_bd ru
 go_enter Tryz.func125, Tryz.ntmps125
 cases hv : validR ru
 ·rw [hv] at hR
  simp only [Bool.false_and] at hR
  subst hR
  have hv := valid_of.1 hv
  clear D bd
  by_cases q1 : ru < 0
  ·go_wp2
   go_ret
   exact ⟨rfl, belt⟩
  ·by_cases q2 : 1114111 < ru
   ·go_wp2
    go_ret
    exact ⟨rfl, belt⟩
   ·have q3 : 55296 ≤ ru := by omega
    have q4 : ru ≤ 57343 := by omega
    go_wp2
    go_ret
    exact ⟨rfl, belt⟩
 ·rw [hv] at hR
  simp only [Bool.true_and] at hR
  have hv : ¬ (ru < 0 ∨ 1114111 < ru ∨ (55296 ≤ ru ∧ ru ≤ 57343)) := fun h => by rw [valid_of.2 h] at hv; cases hv
  have q1 : ¬ ru < 0 := fun h => hv (.inl h)
  have q2 : ¬ 1114111 < ru := fun h => hv (.inr (.inl h))
  obtain ⟨W, hW⟩ : ∃ W, widR ru = W := ⟨_, rfl⟩
  rw [hW] at D hR bd
  clear hW
  replace D := Lib.hid D
  by_cases q3 : 55296 ≤ ru
  ·have q4 : ¬ ru ≤ 57343 := fun h => hv (.inr (.inr ⟨q3, h⟩))
   clear hv
   obtain rfl | rfl | rfl : W = 0 ∨ W = 1 ∨ W = 2 := by omega
   ·simp at hR; subst hR
    go_wp2_with (go_at_call 174; (with_reducible refine (D.out _).mono ?_); rintro e w2 ⟨rfl, hb2⟩; obtain ⟨hc2, hf2⟩ := bcell hb2; have hz2 := hb2.size; (try simp at hz2); (try have lt2 : w.heap.size < w2.heap.size := (by omega)))
    go_ret
    exact ⟨rfl, belt⟩
   ·cases wi
    ·cases ta
     ·simp at hR; subst hR
      go_wp2_with (go_at_call 174; (with_reducible refine (D.out _).mono ?_); rintro e w2 ⟨rfl, hb2⟩; obtain ⟨hc2, hf2⟩ := bcell hb2; have hz2 := hb2.size; (try simp at hz2); (try have lt2 : w.heap.size < w2.heap.size := (by omega)))
      go_ret
      exact ⟨rfl, belt⟩
     ·simp at hR; subst hR
      go_wp2_with (go_at_call 174; (with_reducible refine (D.out _).mono ?_); rintro e w2 ⟨rfl, hb2⟩; obtain ⟨hc2, hf2⟩ := bcell hb2; have hz2 := hb2.size; (try simp at hz2); (try have lt2 : w.heap.size < w2.heap.size := (by omega)))
      go_ret
      exact ⟨rfl, belt⟩
    ·simp at hR; subst hR
     go_wp2_with (go_at_call 174; (with_reducible refine (D.out _).mono ?_); rintro e w2 ⟨rfl, hb2⟩; obtain ⟨hc2, hf2⟩ := bcell hb2; have hz2 := hb2.size; (try simp at hz2); (try have lt2 : w.heap.size < w2.heap.size := (by omega)))
     go_ret
     exact ⟨rfl, belt⟩
   ·have e : (wi != ta) = R := by simpa using hR
    clear hR
    cases wi <;> cases ta <;> simp at e <;> subst e
    ·go_wp2_with (go_at_call 174; (with_reducible refine (D.out _).mono ?_); rintro e w2 ⟨rfl, hb2⟩; obtain ⟨hc2, hf2⟩ := bcell hb2; have hz2 := hb2.size; (try simp at hz2); (try have lt2 : w.heap.size < w2.heap.size := (by omega)))
     go_ret
     exact ⟨rfl, belt⟩
    ·go_wp2_with (go_at_call 174; (with_reducible refine (D.out _).mono ?_); rintro e w2 ⟨rfl, hb2⟩; obtain ⟨hc2, hf2⟩ := bcell hb2; have hz2 := hb2.size; (try simp at hz2); (try have lt2 : w.heap.size < w2.heap.size := (by omega)))
     go_ret
     exact ⟨rfl, belt⟩
    ·go_wp2_with (go_at_call 174; (with_reducible refine (D.out _).mono ?_); rintro e w2 ⟨rfl, hb2⟩; obtain ⟨hc2, hf2⟩ := bcell hb2; have hz2 := hb2.size; (try simp at hz2); (try have lt2 : w.heap.size < w2.heap.size := (by omega)))
     go_ret
     exact ⟨rfl, belt⟩
    ·go_wp2_with (go_at_call 174; (with_reducible refine (D.out _).mono ?_); rintro e w2 ⟨rfl, hb2⟩; obtain ⟨hc2, hf2⟩ := bcell hb2; have hz2 := hb2.size; (try simp at hz2); (try have lt2 : w.heap.size < w2.heap.size := (by omega)))
     go_ret
     exact ⟨rfl, belt⟩
  ·clear hv
   obtain rfl | rfl | rfl : W = 0 ∨ W = 1 ∨ W = 2 := by omega
   ·simp at hR; subst hR
    go_wp2_with (go_at_call 174; (with_reducible refine (D.out _).mono ?_); rintro e w2 ⟨rfl, hb2⟩; obtain ⟨hc2, hf2⟩ := bcell hb2; have hz2 := hb2.size; (try simp at hz2); (try have lt2 : w.heap.size < w2.heap.size := (by omega)))
    go_ret
    exact ⟨rfl, belt⟩
   ·cases wi
    ·cases ta
     ·simp at hR; subst hR
      go_wp2_with (go_at_call 174; (with_reducible refine (D.out _).mono ?_); rintro e w2 ⟨rfl, hb2⟩; obtain ⟨hc2, hf2⟩ := bcell hb2; have hz2 := hb2.size; (try simp at hz2); (try have lt2 : w.heap.size < w2.heap.size := (by omega)))
      go_ret
      exact ⟨rfl, belt⟩
     ·simp at hR; subst hR
      go_wp2_with (go_at_call 174; (with_reducible refine (D.out _).mono ?_); rintro e w2 ⟨rfl, hb2⟩; obtain ⟨hc2, hf2⟩ := bcell hb2; have hz2 := hb2.size; (try simp at hz2); (try have lt2 : w.heap.size < w2.heap.size := (by omega)))
      go_ret
      exact ⟨rfl, belt⟩
    ·simp at hR; subst hR
     go_wp2_with (go_at_call 174; (with_reducible refine (D.out _).mono ?_); rintro e w2 ⟨rfl, hb2⟩; obtain ⟨hc2, hf2⟩ := bcell hb2; have hz2 := hb2.size; (try simp at hz2); (try have lt2 : w.heap.size < w2.heap.size := (by omega)))
     go_ret
     exact ⟨rfl, belt⟩
   ·have e : (wi != ta) = R := by simpa using hR
    clear hR
    cases wi <;> cases ta <;> simp at e <;> subst e
    ·go_wp2_with (go_at_call 174; (with_reducible refine (D.out _).mono ?_); rintro e w2 ⟨rfl, hb2⟩; obtain ⟨hc2, hf2⟩ := bcell hb2; have hz2 := hb2.size; (try simp at hz2); (try have lt2 : w.heap.size < w2.heap.size := (by omega)))
     go_ret
     exact ⟨rfl, belt⟩
    ·go_wp2_with (go_at_call 174; (with_reducible refine (D.out _).mono ?_); rintro e w2 ⟨rfl, hb2⟩; obtain ⟨hc2, hf2⟩ := bcell hb2; have hz2 := hb2.size; (try simp at hz2); (try have lt2 : w.heap.size < w2.heap.size := (by omega)))
     go_ret
     exact ⟨rfl, belt⟩
    ·go_wp2_with (go_at_call 174; (with_reducible refine (D.out _).mono ?_); rintro e w2 ⟨rfl, hb2⟩; obtain ⟨hc2, hf2⟩ := bcell hb2; have hz2 := hb2.size; (try simp at hz2); (try have lt2 : w.heap.size < w2.heap.size := (by omega)))
     go_ret
     exact ⟨rfl, belt⟩
    ·go_wp2_with (go_at_call 174; (with_reducible refine (D.out _).mono ?_); rintro e w2 ⟨rfl, hb2⟩; obtain ⟨hc2, hf2⟩ := bcell hb2; have hz2 := hb2.size; (try simp at hz2); (try have lt2 : w.heap.size < w2.heap.size := (by omega)))
     go_ret
     exact ⟨rfl, belt⟩
/-! ### rows of cells -/
end Go.Proofs.YtfcphagmjijmkaaGreatDoor

namespace Go.Proofs.YtfcphagmjijmkaaGreatDoor
open Go.RowKit
set_option linter.unusedVariables false
attribute [local go_sem] vwp vUpon_value vUpon_skip vUpon_enter vUpon_row
set_option linter.unusedSimpArgs false
set_option linter.unusedVariables false
set_option maxHeartbeats 4000000 in
theorem rsize_any (wd ht : Int) (w : World) (h1 : I64 wd) (h2 : I64 ht) : Calls Tryz.prog 124 #[.agg #[.int .i64 (wd), .int .i64 (ht)]] w fun e w' => e = .returned (.bool (fitsS wd ht)) ∧ Below w.heap.size w w' := by
 obtain ⟨R, hR⟩ : ∃ R, fitsS wd ht = R := ⟨_, rfl⟩
 rw [hR]
 obtain ⟨P, hP⟩ : ∃ P, wd * ht = P := ⟨_, rfl⟩
 have bd : 0 ≤ wd → 0 ≤ ht → wd ≤ 16384 → ht ≤ 16384 → 0 ≤ P ∧ P ≤ 268435456 := fun a b c d => hP ▸ mul_bd a b c d
 unfold fitsS at hR
 rw [hP] at hR
 go_enter Tryz.func124, Tryz.ntmps124
 by_cases a1 : 0 ≤ wd
 ·by_cases a2 : 0 ≤ ht
  ·by_cases a3 : wd ≤ 16384
   ·by_cases a4 : ht ≤ 16384
    ·have bd := bd a1 a2 a3 a4
     by_cases c3 : P ≤ 262144
     ·have : R = true := by rw [← hR]; simp [a1, a2, a3, a4, c3]
      subst this
      clear hR
      go_wp2
      go_ret
      exact ⟨rfl, (by repeat (first | exact Below.refl _ _ | assumption | refine Below.drew ?_ | refine Below.alloc ?_ (by (try simp) <;> omega) _ | refine Below.setCell ?_ (by (try simp) <;> omega) _))⟩
     ·have : R = false := by rw [← hR]; simp [c3]
      subst this
      clear hR
      go_wp2
      go_ret
      exact ⟨rfl, (by repeat (first | exact Below.refl _ _ | assumption | refine Below.drew ?_ | refine Below.alloc ?_ (by (try simp) <;> omega) _ | refine Below.setCell ?_ (by (try simp) <;> omega) _))⟩
    ·have : R = false := by rw [← hR]; simp [a4]
     subst this
     clear hR bd
     go_wp2
     go_ret
     exact ⟨rfl, (by repeat (first | exact Below.refl _ _ | assumption | refine Below.drew ?_ | refine Below.alloc ?_ (by (try simp) <;> omega) _ | refine Below.setCell ?_ (by (try simp) <;> omega) _))⟩
   ·have : R = false := by rw [← hR]; simp [a3]
    subst this
    clear hR bd
    go_wp2
    go_ret
    exact ⟨rfl, (by repeat (first | exact Below.refl _ _ | assumption | refine Below.drew ?_ | refine Below.alloc ?_ (by (try simp) <;> omega) _ | refine Below.setCell ?_ (by (try simp) <;> omega) _))⟩
  ·have : R = false := by rw [← hR]; simp [a2]
   subst this
   clear hR bd
   go_wp2
   go_ret
   exact ⟨rfl, (by repeat (first | exact Below.refl _ _ | assumption | refine Below.drew ?_ | refine Below.alloc ?_ (by (try simp) <;> omega) _ | refine Below.setCell ?_ (by (try simp) <;> omega) _))⟩
 ·have : R = false := by rw [← hR]; simp [a1]
  subst this
  clear hR bd
  go_wp2
  go_ret
  exact ⟨rfl, (by repeat (first | exact Below.refl _ _ | assumption | refine Below.drew ?_ | refine Below.alloc ?_ (by (try simp) <;> omega) _ | refine Below.setCell ?_ (by (try simp) <;> omega) _))⟩
end Go.Proofs.YtfcphagmjijmkaaGreatDoor

namespace Go.Proofs.YtfcphagmjijmkaaGreatDoor
open Go.RowKit
set_option linter.unusedVariables false
attribute [local go_sem] vwp vUpon_value vUpon_skip vUpon_enter vUpon_row
set_option linter.unusedSimpArgs false
set_option linter.unusedVariables false
def r150 (b : Bool) : Int := if b then 0 else 150
set_option maxHeartbeats 4000000 in
theorem crcheck_any (wd ht : Int) (l : List Ce) (v : Value) (w : World) (h1 : I64 wd) (h2 : I64 ht) (hl : Row w.heap.size 11 Ce.enc w v l) : Calls Tryz.prog 76 #[.agg #[.int .i64 (wd), .int .i64 (ht), v]] w fun e w' => e = .returned (.int .i64 (chkS wd ht l)) ∧ Below w.heap.size w w' := by
 obtain ⟨R, hR⟩ : ∃ R, chkS wd ht l = R := ⟨_, rfl⟩
 rw [hR]
 unfold chkS at hR
 have X := rsize_any wd ht
 obtain ⟨P, hP⟩ : ∃ P, wd * ht = P := ⟨_, rfl⟩
 rw [hP] at hR
 obtain ⟨s0, cap, rfl, hmax⟩ := hl.shape
 have hopen := fun h0 => row_ce hl h0
 obtain ⟨n, en⟩ : ∃ n, l.length = n := ⟨_, rfl⟩
 rw [en] at hR hmax hopen
 unfold maxLen at hmax
 replace hopen := Lib.hid hopen
 replace en := Lib.hid en
 clear hl
 go_enter Tryz.func76, Tryz.ntmps76
 rw [en.out]
 cases hf : fitsS wd ht
 ·rw [hf] at X hR
  have : R = 150 := by rw [← hR]; simp
  subst this
  replace X := Lib.hid X
  go_wp2_with (go_at_call 124; (with_reducible refine (X.out _ ‹_› ‹_›).mono ?_); rintro e w1 ⟨rfl, hb1⟩; obtain ⟨hc1, hf1⟩ := bcell hb1; have hz1 := hb1.size; (try simp at hz1); (try have lt1 : w.heap.size < w1.heap.size := (by omega)))
  go_ret
  exact ⟨rfl, belt⟩
 ·rw [hf] at X hR
  obtain ⟨a1, a2, a3, a4, a5⟩ := fitsS_true.1 hf
  have bd := mul_bd a1 a2 a3 a4
  rw [hP] at bd a5
  replace X := Lib.hid X
  by_cases c : (n : Int) = P
  ·have hgo := Lib.hid (show r150 ((l.drop 0).all mayC) = R by rw [← hR]; simp [r150, c])
   clear hR hf
   have cb : ((n : Int) != P) = false := by simp [c]
   go_upto_region 2 with (go_at_call 124; (with_reducible refine (X.out _ ‹_› ‹_›).mono ?_); rintro e w1 ⟨rfl, hb1⟩; obtain ⟨hc1, hf1⟩ := bcell hb1; have hz1 := hb1.size; (try simp at hz1); (try have lt1 : w.heap.size < w1.heap.size := (by omega)))
   have y1 : w.heap.size < w1.heap.size := by omega
   have bz : Below w.heap.size w w1 := belt
   have q2 : w1.cell? ⟨w.heap.size, 2, none⟩ = some (.slice s0 n cap) := by go_simp
   clear hc1 hf1 hb1 hz1 X
   go_wp2
   go_loopw [3] (fun iv wr => ∃ k : Nat, k ≤ n ∧ iv = .int .i64 k ∧ Hid (r150 ((l.drop k).all mayC) = R) ∧ Below w.heap.size w wr ∧ wr.cell? ⟨w.heap.size, 2, none⟩ = some (.slice s0 n cap) ∧ w.heap.size < wr.heap.size) (fun iv _ => n - (intOf iv).toNat)
   case atStart => exact ⟨0, Nat.zero_le _, rfl, hgo, bz, q2, y1⟩
   case round =>
    clear q2 bz
    obtain ⟨k, hk, rfl, hgo, hbr, q2, yr⟩ := hrel
    have zr := hbr.size
    by_cases hkn : k < n
    ·obtain ⟨b, o, cap', e, hb, _, _, hel⟩ := hopen.out (by omega)
     simp at e
     obtain ⟨rfl, rfl⟩ := e
     obtain ⟨s, hs⟩ := get_at en.out hkn
     obtain ⟨g0, g1, g2, g3, g4, g5, g6, g7, g8, g9, g10⟩ := CMem.below (hel k s hs) hbr hb
     have A := crcell_any s
     have hg := hgo.out
     rw [allC_step hs] at hg
     have hkk : (k : Int) < n := by omega
     have yb : b < wr.heap.size := by omega
     clear hel hs
     generalize mayC s = r at A hg
     replace A := Lib.hid A
     cases r
     ·rw [Bool.false_and] at hg
      subst hg
      go_wp2_with (go_at_call 125; (with_reducible refine (A.out _).mono ?_); rintro e w2 ⟨rfl, hb2⟩; obtain ⟨hc2, hf2⟩ := bcell hb2; have hz2 := hb2.size; (try simp at hz2); (try have lt2 : w.heap.size < w2.heap.size := (by omega)))
      go_ret
      exact ⟨rfl, belt⟩
     ·rw [Bool.true_and] at hg
      replace hg := Lib.hid hg
      go_wp2_with (go_at_call 125; (with_reducible refine (A.out _).mono ?_); rintro e w2 ⟨rfl, hb2⟩; obtain ⟨hc2, hf2⟩ := bcell hb2; have hz2 := hb2.size; (try simp at hz2); (try have lt2 : w.heap.size < w2.heap.size := (by omega)))
      go_roundw
      case rel => exact ⟨k + 1, by omega, by go_num, hg, belt, (hc2 _ _ yr).trans q2, by omega⟩
      case measure => simp [intOf]; omega
    ·obtain rfl : k = n := by omega
     have hg := hgo.out
     rw [List.drop_eq_nil_of_le (by have := en.out; omega)] at hg
     have hg : 0 = R := hg
     subst hg
     go_wp2
     go_ret
     exact ⟨rfl, hbr⟩
  ·have : R = 150 := by rw [← hR]; simp [c]
   subst this
   have cb : ((n : Int) != P) = true := by simp [c]
   have cb2 : ((n : Int) == P) = false := by simp [c]
   go_wp2_with (go_at_call 124; (with_reducible refine (X.out _ ‹_› ‹_›).mono ?_); rintro e w1 ⟨rfl, hb1⟩; obtain ⟨hc1, hf1⟩ := bcell hb1; have hz1 := hb1.size; (try simp at hz1); (try have lt1 : w.heap.size < w1.heap.size := (by omega)))
   go_ret
   exact ⟨rfl, belt⟩
/-! ### places -/
end Go.Proofs.YtfcphagmjijmkaaGreatDoor

namespace Go.Proofs.YtfcphagmjijmkaaGreatDoor
open Go.RowKit
set_option linter.unusedVariables false
attribute [local go_sem] vwp vUpon_value vUpon_skip vUpon_enter vUpon_row
set_option linter.unusedSimpArgs false
set_option linter.unusedVariables false
section
set_option linter.unusedSimpArgs false
set_option linter.unusedVariables false
open Go.Sort Go.Shelf
instance : Inhabited SpB := ⟨⟨(0, 0), by unfold InM; omega⟩⟩
end
section
set_option linter.unusedSimpArgs false
set_option linter.unusedVariables false
def eqI1 (s t : Int) : Bool := s == t
def eqIs (l m : List Int) : Bool := eqG eqI1 l m
theorem eqIs_iff {l m : List Int} : eqIs l m = true ↔ l = m := eqG_iff (fun x y => by unfold eqI1; simp)
theorem eqIs_step {xs ys : List Int} {k : Nat} {x y : Int} (hx : xs[k]? = some x) (hy : ys[k]? = some y) : eqIs (xs.drop k) (ys.drop k) = (eqI1 x y && eqIs (xs.drop (k + 1)) (ys.drop (k + 1))) := eqG_step hx hy
theorem eqIs_len {xs ys : List Int} (h : xs.length ≠ ys.length) : eqIs xs ys = false := eqG_len h
attribute [local go_sem high] neq_rect neq_span
set_option maxHeartbeats 2000000 in
set_option maxRecDepth 100000 in
theorem sameR_any (xs ys : List Re) (v1 v2 : Value) (w : World) (h1 : Row w.heap.size 4 Re.enc w v1 xs) (h2 : Row w.heap.size 4 Re.enc w v2 ys) (hmany : xs.length ≤ 2000000) (hmany2 : ys.length ≤ 2000000) : Calls Tryz.prog 29 #[v1, v2] w fun e w' => e = .returned (.bool (eqRs xs ys)) ∧ Below w.heap.size w w' := by
 obtain ⟨s1, c1, rfl, hmax1⟩ := h1.shape
 obtain ⟨s2, c2, rfl, hmax2⟩ := h2.shape
 have o1 := fun h0 => row_re h1 h0
 have o2 := fun h0 => row_re h2 h0
 clear h1 h2
 obtain ⟨n, en⟩ : ∃ n, xs.length = n := ⟨_, rfl⟩
 obtain ⟨m, em⟩ : ∃ m, ys.length = m := ⟨_, rfl⟩
 by_cases hnm : n = m
 ·subst hnm
  rw [en] at o1 hmany hmax1 ⊢
  rw [em] at o2 hmany2 hmax2 ⊢
  replace o1 := Lib.hid o1
  replace o2 := Lib.hid o2
  replace en := Lib.hid en
  replace em := Lib.hid em
  obtain ⟨res, hres⟩ : ∃ r, eqRs xs ys = r := ⟨_, rfl⟩
  rw [hres]
  go_enter Tryz.func29, Tryz.ntmps29
  go_wp2
  go_loopw [5] (fun i wr => ∃ k : Nat, k ≤ n ∧ i = .int .i64 k ∧ eqRs (xs.drop k) (ys.drop k) = res ∧ Below w.heap.size w wr) (fun i _ => n - (intOf i).toNat)
  case atStart => exact ⟨0, Nat.zero_le _, rfl, by simpa using hres, (by repeat (first | exact Below.refl _ _ | assumption | refine Below.drew ?_ | refine Below.alloc ?_ (by (try simp) <;> omega) _ | refine Below.setCell ?_ (by (try simp) <;> omega) _))⟩
  case round =>
   obtain ⟨k, hk, rfl, hgo, hbr⟩ := hrel
   clear hres
   have zr := hbr.size
   obtain ⟨hcr, hfr⟩ := bcell hbr
   by_cases hkn : k < n
   ·obtain ⟨b, p, cap', e, hb, _, _, hel⟩ := o1.out (by omega)
    simp at e
    obtain ⟨rfl, rfl⟩ := e
    obtain ⟨b', p', cap', e, hb', _, _, hex⟩ := o2.out (by omega)
    simp at e
    obtain ⟨rfl, rfl⟩ := e
    obtain ⟨s, hs⟩ := get_at en.out hkn
    obtain ⟨t, ht⟩ := get_at em.out hkn
    have g := hel k s hs
    have j := hex k t ht
    rw [eqRs_step hs ht] at hgo
    have hkk : (k : Int) < n := by omega
    have yb : b < wr.heap.size := by omega
    have yb' : b' < wr.heap.size := by omega
    clear hel hex hs ht
    obtain ⟨x, y, wd, ht⟩ := s
    obtain ⟨x', y', wd', ht'⟩ := t
    obtain ⟨g0, g1, g2, g3⟩ := g
    obtain ⟨j0, j1, j2, j3⟩ := j
    simp only at g0 g1 g2 g3 j0 j1 j2 j3
    obtain ⟨bb, hc⟩ : ∃ bb, Re.eqb ⟨x, y, wd, ht⟩ ⟨x', y', wd', ht'⟩ = bb := ⟨_, rfl⟩
    rw [hc] at hgo
    replace hc : eq4 x y wd ht x' y' wd' ht' = bb := hc
    cases bb
    ·rw [Bool.false_and] at hgo
     subst hgo
     go_wp2
     refine wp_region_steady (Held wr 0 []) (by kernel_rfl) (by kernel_rfl) ⟨belt, (by (try simp) <;> omega), (by first | exact trivial | (simp only [Cells]; go_simp))⟩ ?_
     repeat (first | (refine' wpSteady_do _ _ _; rotate_left; (focus rfl); (focus (intro w1 hS R hR; have hc := hS.cells; simp only [Cells] at hc; obtain ⟨hco, hfo⟩ := bcell hS.old; go_simp; (try go_bits); first | exact hR _ hS | fail)); simp only [pu]) | (refine wpSteady_pass ?_ ?_; (focus rfl); simp only [pu]))
     refine wpSteady_nil (fun uA hSA => ?_)
     have hcA := hSA.cells; have hbA := hSA.old; have hzA := hSA.size; clear hSA; simp only [Cells] at hcA; obtain ⟨hcoA, hfoA⟩ := bcell hbA
     go_wp2
     go_ret
     exact ⟨rfl, hbr.trans (hbA.mono zr)⟩
    ·rw [Bool.true_and] at hgo
     replace hgo := Lib.hid hgo
     go_wp2
     refine wp_region_steady (Held wr 0 []) (by kernel_rfl) (by kernel_rfl) ⟨belt, (by (try simp) <;> omega), (by first | exact trivial | (simp only [Cells]; go_simp))⟩ ?_
     repeat (first | (refine' wpSteady_do _ _ _; rotate_left; (focus rfl); (focus (intro w1 hS R hR; have hc := hS.cells; simp only [Cells] at hc; obtain ⟨hco, hfo⟩ := bcell hS.old; go_simp; (try go_bits); first | exact hR _ hS | fail)); simp only [pu]) | (refine wpSteady_pass ?_ ?_; (focus rfl); simp only [pu]))
     refine wpSteady_nil (fun uA hSA => ?_)
     have hcA := hSA.cells; have hbA := hSA.old; have hzA := hSA.size; clear hSA; simp only [Cells] at hcA; obtain ⟨hcoA, hfoA⟩ := bcell hbA
     go_wp2
     go_roundw
     case rel => exact ⟨k + 1, by omega, by go_num, hgo.out, hbr.trans (hbA.mono zr)⟩
     case measure => simp [intOf]; omega
   ·obtain rfl : k = n := by omega
    have e1 : xs.drop k = [] := List.drop_eq_nil_of_le (by have := en.out; omega)
    have e2 : ys.drop k = [] := List.drop_eq_nil_of_le (by have := em.out; omega)
    rw [e1, e2] at hgo
    clear e1 e2
    have hgo : true = res := hgo
    subst hgo
    go_wp2
    go_ret
    exact ⟨rfl, hbr⟩
 ·rw [eqRs_len (by rw [en, em]; exact hnm)]
  rw [en] at hmax1 ⊢
  rw [em] at hmax2 ⊢
  have hni : ¬ (n : Int) = m := by omega
  clear o1 o2
  go_enter Tryz.func29, Tryz.ntmps29
  go_wp2
  go_ret
  exact ⟨rfl, (by repeat (first | exact Below.refl _ _ | assumption | refine Below.drew ?_ | refine Below.alloc ?_ (by (try simp) <;> omega) _ | refine Below.setCell ?_ (by (try simp) <;> omega) _))⟩
set_option maxHeartbeats 2000000 in
set_option maxRecDepth 100000 in
theorem alike_any (xs ys : List Int) (v1 v2 : Value) (w : World) (h1 : Row w.heap.size 1 encI w v1 xs) (h2 : Row w.heap.size 1 encI w v2 ys) (hmany : xs.length ≤ 2000000) (hmany2 : ys.length ≤ 2000000) : Calls Tryz.prog 173 #[v1, v2] w fun e w' => e = .returned (.bool (eqIs xs ys)) ∧ Below w.heap.size w w' := by
 obtain ⟨s1, c1, rfl, hmax1⟩ := h1.shape
 obtain ⟨s2, c2, rfl, hmax2⟩ := h2.shape
 have o1 := fun h0 => row_in h1 h0
 have o2 := fun h0 => row_in h2 h0
 clear h1 h2
 obtain ⟨n, en⟩ : ∃ n, xs.length = n := ⟨_, rfl⟩
 obtain ⟨m, em⟩ : ∃ m, ys.length = m := ⟨_, rfl⟩
 by_cases hnm : n = m
 ·subst hnm
  rw [en] at o1 hmany hmax1 ⊢
  rw [em] at o2 hmany2 hmax2 ⊢
  replace o1 := Lib.hid o1
  replace o2 := Lib.hid o2
  replace en := Lib.hid en
  replace em := Lib.hid em
  obtain ⟨res, hres⟩ : ∃ r, eqIs xs ys = r := ⟨_, rfl⟩
  rw [hres]
  go_enter Tryz.func173, Tryz.ntmps173
  go_wp2
  go_loopw [5] (fun i wr => ∃ k : Nat, k ≤ n ∧ i = .int .i64 k ∧ eqIs (xs.drop k) (ys.drop k) = res ∧ Below w.heap.size w wr) (fun i _ => n - (intOf i).toNat)
  case atStart => exact ⟨0, Nat.zero_le _, rfl, by simpa using hres, (by repeat (first | exact Below.refl _ _ | assumption | refine Below.drew ?_ | refine Below.alloc ?_ (by (try simp) <;> omega) _ | refine Below.setCell ?_ (by (try simp) <;> omega) _))⟩
  case round =>
   obtain ⟨k, hk, rfl, hgo, hbr⟩ := hrel
   clear hres
   have zr := hbr.size
   obtain ⟨hcr, hfr⟩ := bcell hbr
   by_cases hkn : k < n
   ·obtain ⟨b, p, cap', e, hb, _, _, hel⟩ := o1.out (by omega)
    simp at e
    obtain ⟨rfl, rfl⟩ := e
    obtain ⟨b', p', cap', e, hb', _, _, hex⟩ := o2.out (by omega)
    simp at e
    obtain ⟨rfl, rfl⟩ := e
    obtain ⟨s, hs⟩ := get_at en.out hkn
    obtain ⟨t, ht⟩ := get_at em.out hkn
    have g := hel k s hs
    have j := hex k t ht
    rw [eqIs_step hs ht] at hgo
    have hkk : (k : Int) < n := by omega
    have yb : b < wr.heap.size := by omega
    have yb' : b' < wr.heap.size := by omega
    clear hel hex hs ht
    skip
    skip
    obtain ⟨bb, hc⟩ : ∃ bb, eqI1 s t = bb := ⟨_, rfl⟩
    rw [hc] at hgo
    replace hc : (s == t) = bb := hc
    cases bb
    ·rw [Bool.false_and] at hgo
     subst hgo
     go_wp2
     refine wp_region_steady (Held wr 0 []) (by kernel_rfl) (by kernel_rfl) ⟨belt, (by (try simp) <;> omega), (by first | exact trivial | (simp only [Cells]; go_simp))⟩ ?_
     repeat (first | (refine' wpSteady_do _ _ _; rotate_left; (focus rfl); (focus (intro w1 hS R hR; have hc := hS.cells; simp only [Cells] at hc; obtain ⟨hco, hfo⟩ := bcell hS.old; go_simp; (try go_bits); first | exact hR _ hS | fail)); simp only [pu]) | (refine wpSteady_pass ?_ ?_; (focus rfl); simp only [pu]))
     refine wpSteady_nil (fun uA hSA => ?_)
     have hcA := hSA.cells; have hbA := hSA.old; have hzA := hSA.size; clear hSA; simp only [Cells] at hcA; obtain ⟨hcoA, hfoA⟩ := bcell hbA
     go_wp2
     go_ret
     exact ⟨rfl, hbr.trans (hbA.mono zr)⟩
    ·rw [Bool.true_and] at hgo
     replace hgo := Lib.hid hgo
     go_wp2
     refine wp_region_steady (Held wr 0 []) (by kernel_rfl) (by kernel_rfl) ⟨belt, (by (try simp) <;> omega), (by first | exact trivial | (simp only [Cells]; go_simp))⟩ ?_
     repeat (first | (refine' wpSteady_do _ _ _; rotate_left; (focus rfl); (focus (intro w1 hS R hR; have hc := hS.cells; simp only [Cells] at hc; obtain ⟨hco, hfo⟩ := bcell hS.old; go_simp; (try go_bits); first | exact hR _ hS | fail)); simp only [pu]) | (refine wpSteady_pass ?_ ?_; (focus rfl); simp only [pu]))
     refine wpSteady_nil (fun uA hSA => ?_)
     have hcA := hSA.cells; have hbA := hSA.old; have hzA := hSA.size; clear hSA; simp only [Cells] at hcA; obtain ⟨hcoA, hfoA⟩ := bcell hbA
     go_wp2
     go_roundw
     case rel => exact ⟨k + 1, by omega, by go_num, hgo.out, hbr.trans (hbA.mono zr)⟩
     case measure => simp [intOf]; omega
   ·obtain rfl : k = n := by omega
    have e1 : xs.drop k = [] := List.drop_eq_nil_of_le (by have := en.out; omega)
    have e2 : ys.drop k = [] := List.drop_eq_nil_of_le (by have := em.out; omega)
    rw [e1, e2] at hgo
    clear e1 e2
    have hgo : true = res := hgo
    subst hgo
    go_wp2
    go_ret
    exact ⟨rfl, hbr⟩
 ·rw [eqIs_len (by rw [en, em]; exact hnm)]
  rw [en] at hmax1 ⊢
  rw [em] at hmax2 ⊢
  have hni : ¬ (n : Int) = m := by omega
  clear o1 o2
  go_enter Tryz.func173, Tryz.ntmps173
  go_wp2
  go_ret
  exact ⟨rfl, (by repeat (first | exact Below.refl _ _ | assumption | refine Below.drew ?_ | refine Below.alloc ?_ (by (try simp) <;> omega) _ | refine Below.setCell ?_ (by (try simp) <;> omega) _))⟩
end
end Go.Proofs.YtfcphagmjijmkaaGreatDoor

namespace Go.Proofs.YtfcphagmjijmkaaGreatDoor
open Go.RowKit
set_option linter.unusedVariables false
attribute [local go_sem] vwp vUpon_value vUpon_skip vUpon_enter vUpon_row
set_option linter.unusedSimpArgs false
set_option linter.unusedVariables false
section
set_option linter.unusedSimpArgs false
set_option linter.unusedVariables false
attribute [local go_sem high] eql_rect neq_rect
theorem kempty1_any (q : Re) (w : World) (hq : q.Wf) : Calls Tryz.prog 105 #[.agg #[.int .i64 (q).x, .int .i64 (q).y, .int .i64 (q).wd, .int .i64 (q).ht]] w fun e w' => e = .returned (.bool (emptyR q)) ∧ Below w.heap.size w w' := by
 have A := fun w => may_any q w hq
 clear hq
 obtain ⟨x, y, a, b⟩ := q
 simp only at A ⊢
 cases hm : mayR ⟨x, y, a, b⟩
 ·have he : emptyR ⟨x, y, a, b⟩ = true := by unfold emptyR areaR; rw [hm]; rfl
  rw [hm] at A
  clear hm
  rw [show emptyR ⟨x, y, a, b⟩ = true from he]
  replace A := Lib.hid A
  clear he
  go_enter Tryz.func105, Tryz.ntmps105
  go_wp2_with (first
   | (go_at_call 92; (with_reducible refine (A.out _).mono ?_); rintro e w1 ⟨rfl, hb1⟩; obtain ⟨hc1, hf1⟩ := bcell hb1; have z1 := hb1.size; (try simp at z1); have lx1 : w.heap.size < w1.heap.size := (by omega))
   | go_in)
  go_ret
  exact ⟨rfl, belt⟩
 ·rw [hm] at A
  by_cases h1 : a = 0
  ·have he : emptyR ⟨x, y, a, b⟩ = true := by rw [empty_none hm]; simp [noneR, h1]
   have d1 : (a == 0) = true := by simp [h1]
   clear h1 hm
   rw [show emptyR ⟨x, y, a, b⟩ = true from he]
   replace A := Lib.hid A
   clear he
   go_enter Tryz.func105, Tryz.ntmps105
   go_wp2_with (first
    | (go_at_call 92; (with_reducible refine (A.out _).mono ?_); rintro e w1 ⟨rfl, hb1⟩; obtain ⟨hc1, hf1⟩ := bcell hb1; have z1 := hb1.size; (try simp at z1); have lx1 : w.heap.size < w1.heap.size := (by omega))
    | go_in)
   go_ret
   exact ⟨rfl, belt⟩
  ·have d1 : (a == 0) = false := by simp [h1]
   by_cases h2 : b = 0
   ·have he : emptyR ⟨x, y, a, b⟩ = true := by rw [empty_none hm]; simp [noneR, h2]
    have d2 : (b == 0) = true := by simp [h2]
    clear h2 hm
    rw [show emptyR ⟨x, y, a, b⟩ = true from he]
    replace A := Lib.hid A
    clear he
    go_enter Tryz.func105, Tryz.ntmps105
    go_wp2_with (first
     | (go_at_call 92; (with_reducible refine (A.out _).mono ?_); rintro e w1 ⟨rfl, hb1⟩; obtain ⟨hc1, hf1⟩ := bcell hb1; have z1 := hb1.size; (try simp at z1); have lx1 : w.heap.size < w1.heap.size := (by omega))
     | go_in)
    go_ret
    exact ⟨rfl, belt⟩
   ·have he : emptyR ⟨x, y, a, b⟩ = false := by rw [empty_none hm]; simp [noneR, h1, h2]
    have d2 : (b == 0) = false := by simp [h2]
    clear hm
    rw [show emptyR ⟨x, y, a, b⟩ = false from he]
    replace A := Lib.hid A
    clear he
    go_enter Tryz.func105, Tryz.ntmps105
    go_wp2_with (first
     | (go_at_call 92; (with_reducible refine (A.out _).mono ?_); rintro e w1 ⟨rfl, hb1⟩; obtain ⟨hc1, hf1⟩ := bcell hb1; have z1 := hb1.size; (try simp at z1); have lx1 : w.heap.size < w1.heap.size := (by omega))
     | go_in)
    go_ret
    exact ⟨rfl, belt⟩
theorem kfrom_any (x y r b : Int) (w : World) (hx : -65536 ≤ x ∧ x ≤ 65536) (hy : -65536 ≤ y ∧ y ≤ 65536) (hr : -65536 ≤ r ∧ r ≤ 65536) (hb : -65536 ≤ b ∧ b ≤ 65536) : Calls Tryz.prog 169 #[.int .i64 x, .int .i64 y, .int .i64 r, .int .i64 b] w fun e w' => e = .returned (.agg #[.int .i64 (fromR x y r b).x, .int .i64 (fromR x y r b).y, .int .i64 (fromR x y r b).wd, .int .i64 (fromR x y r b).ht]) ∧ Below w.heap.size w w' := by
 obtain ⟨x0, x1⟩ := hx; obtain ⟨y0, y1⟩ := hy; obtain ⟨r0, r1⟩ := hr; obtain ⟨b0, b1⟩ := hb
 by_cases c1 : r ≤ x
 ·have e : fromR x y r b = Re.none := by unfold fromR; rw [if_pos (.inl c1)]
  rw [e]; clear e
  go_enter Tryz.func169, Tryz.ntmps169
  go_wp2
  refine bodyPost_ret (v := .agg #[.int .i64 (Re.none).x, .int .i64 (Re.none).y, .int .i64 (Re.none).wd, .int .i64 (Re.none).ht]) (by simp [results, Tryz.results169, go_sem, Re.none]) rfl ⟨rfl, belt⟩
 ·by_cases c2 : b ≤ y
  ·have e : fromR x y r b = Re.none := by unfold fromR; rw [if_pos (.inr c2)]
   rw [e]; clear e
   go_enter Tryz.func169, Tryz.ntmps169
   go_wp2
   refine bodyPost_ret (v := .agg #[.int .i64 (Re.none).x, .int .i64 (Re.none).y, .int .i64 (Re.none).wd, .int .i64 (Re.none).ht]) (by simp [results, Tryz.results169, go_sem, Re.none]) rfl ⟨rfl, belt⟩
  ·have e : fromR x y r b = ⟨x, y, r - x, b - y⟩ := by unfold fromR; rw [if_neg (by omega)]
   rw [e]; clear e
   go_enter Tryz.func169, Tryz.ntmps169
   go_wp2
   refine bodyPost_ret (v := .agg #[.int .i64 x, .int .i64 y, .int .i64 (r - x), .int .i64 (b - y)]) (by simp [results, Tryz.results169, go_sem]) rfl ⟨rfl, belt⟩
theorem kright_any (q : Re) (w : World) (hq : mayR q = true) : Calls Tryz.prog 106 #[.agg #[.int .i64 (q).x, .int .i64 (q).y, .int .i64 (q).wd, .int .i64 (q).ht]] w fun e w' => e = .returned (.int .i64 (q.x + q.wd)) ∧ Below w.heap.size w w' := by
  have hb := may_bd hq
  obtain ⟨x, y, a, b⟩ := q
  obtain ⟨x0, x1, y0, y1, a0, a1, b0, b1⟩ := hb
  simp only at x0 x1 y0 y1 a0 a1 b0 b1 ⊢
  clear hq
  go_enter Tryz.func106, Tryz.ntmps106
  go_wp2
  go_ret
  exact ⟨rfl, belt⟩
theorem kbelow_any (q : Re) (w : World) (hq : mayR q = true) : Calls Tryz.prog 107 #[.agg #[.int .i64 (q).x, .int .i64 (q).y, .int .i64 (q).wd, .int .i64 (q).ht]] w fun e w' => e = .returned (.int .i64 (q.y + q.ht)) ∧ Below w.heap.size w w' := by
  have hb := may_bd hq
  obtain ⟨x, y, a, b⟩ := q
  obtain ⟨x0, x1, y0, y1, a0, a1, b0, b1⟩ := hb
  simp only at x0 x1 y0 y1 a0 a1 b0 b1 ⊢
  clear hq
  go_enter Tryz.func107, Tryz.ntmps107
  go_wp2
  go_ret
  exact ⟨rfl, belt⟩
end
end Go.Proofs.YtfcphagmjijmkaaGreatDoor

namespace Go.Proofs.YtfcphagmjijmkaaGreatDoor
open Go.RowKit
set_option linter.unusedVariables false
attribute [local go_sem] vwp vUpon_value vUpon_skip vUpon_enter vUpon_row
set_option linter.unusedSimpArgs false
set_option linter.unusedVariables false
instance : Inhabited Gl := ⟨⟨0, false, false⟩⟩
end Go.Proofs.YtfcphagmjijmkaaGreatDoor

namespace Go.Proofs.YtfcphagmjijmkaaGreatDoor
open Go.RowKit
set_option linter.unusedVariables false
attribute [local go_sem] vwp vUpon_value vUpon_skip vUpon_enter vUpon_row
set_option linter.unusedSimpArgs false
set_option linter.unusedVariables false
set_option maxHeartbeats 2000000 in
set_option maxRecDepth 100000 in
theorem twin_any (a b : Int) (xs : List Ce) (v : Value) (w : World) (hl : Row w.heap.size 11 Ce.enc w v xs) (hm : xs.length ≤ 1000000) : Calls Tryz.prog 33 #[.agg #[.int .i64 (a), .int .i64 (b), v]] w fun e w' => ∃ v', e = .returned (.agg #[.int .i64 (a), .int .i64 (b), v']) ∧ OwnsC w.heap.size w' v' xs ∧ Below w.heap.size w w' := by
 obtain ⟨iM, hi0, hm0, hm1, hm2⟩ := info_parts infoCe
 obtain ⟨s, cap, rfl, hmax⟩ := hl.shape
 have hlh := Lib.hid hl
 clear hl
 go_enter Tryz.func33, Tryz.ntmps33
 go_upto_region 2 with fail
 obtain ⟨W, hW⟩ : ∃ W, (w.alloc (.cells #[.int .i64 a, .int .i64 b, .slice s xs.length cap] 40)).alloc (.cells #[.int .i64 0, .int .i64 0, .slice none 0 0] 40) = W := ⟨_, rfl⟩
 have B1 : Blk W w.heap.size [.int .i64 a, .int .i64 b, .slice s xs.length cap] 40 := by rw [← hW]; exact (Blk.new' rfl).alloc _
 have B2 : Blk W (w.heap.size + 1) [.int .i64 0, .int .i64 0, .slice none 0 0] 40 := by rw [← hW]; exact Blk.new' (by simp)
 have hbw : Below w.heap.size w W := by rw [← hW]; exact belt
 rw [hW]
 clear hW
 have yB1 := B1.lt
 have yB2 := B2.lt
 have hr2 := Lib.hid (hlh.out.below hbw)
 have hnil : W.ownsRow W.heap.size 47 11 (.slice none 0 0) 0 [] := World.ownsRow_nil _ _ _ _
 have q0 := B1.cell (o := 0) rfl
 have q1 := B1.cell (o := 1) rfl
 have q2 := B1.cell (o := 2) rfl
 go_upto_region 3 with (first
  | ((at_builtin; refine wpList_append_row rfl _ _ _ rfl W.heap.size 47 iM _ 11 16 Tryz.underlying38 hi0 hm0 hm1 hm2 rfl (by omega) W _ _ _ (by rfl) hnil Ce.enc_len Ce.enc_one w.heap.size _ xs hr2.out (by rfl) (by unfold maxLen; omega) (by omega) (Nat.le_refl _) ?_; intro v3 w3 hown3 hgr3); obtain ⟨s3, c3, hv3⟩ := own_slice hown3; rw [Nat.zero_add] at hv3; subst hv3; replace B1 := B1.keep hgr3 (by simp [Value.ownBlock]); replace B2 := B2.keep hgr3 (by simp [Value.ownBlock]); have k0 := B1.cell (o := 0) rfl; have k1 := B1.cell (o := 1) rfl; have k2 := B1.cell (o := 2) rfl; have kf := B1.free)
  | go_in)
 rw [Nat.zero_add, List.nil_append] at hown3
 have hb3 : Below w.heap.size w w3 := hbw.grown hgr3 hbw.size (fun k hk => by simp [Value.ownBlock] at hk)
 have z3 := hgr3.size
 have ho : OwnsC W.heap.size w3 (.slice s3 xs.length c3) xs := hown3
 clear hown3 q0 q1 q2
 have G1 := B1.set 2 (.slice s3 xs.length c3)
 have G2 := B2.set_ne (a := ⟨w.heap.size, 2, none⟩) (by show w.heap.size + 1 ≠ w.heap.size; omega) (.slice s3 xs.length c3)
 have go := ho.set_ne (b := w.heap.size) (o := 2) yB1 (.slice s3 xs.length c3)
 have hbX := hb3.setCell (p := ⟨w.heap.size, 2, none⟩) (Nat.le_refl _) (.slice s3 xs.length c3)
 clear B1 B2 ho hb3 k0 k1 k2 kf
 generalize w3.setCell ⟨w.heap.size, 2, none⟩ (.slice s3 xs.length c3) = wB at G1 G2 go hbX ⊢
 have k0 := G1.cell (o := 0) rfl
 have k1 := G1.cell (o := 1) rfl
 have k2 := G1.cell (o := 2) rfl
 have j0 := G2.cell (o := 0) rfl
 have j1 := G2.cell (o := 1) rfl
 have j2 := G2.cell (o := 2) rfl
 have jf := G2.free
 go_wp2
 clear k0 k1 k2 j0 j1 j2 jf
 replace go := ((go.set_ne (b := w.heap.size + 1) (o := 0) yB2 (.int .i64 a)).set_ne (b := w.heap.size + 1) (o := 1) yB2 (.int .i64 b)).set_ne (b := w.heap.size + 1) (o := 2) yB2 (.slice s3 xs.length c3)
 have HZ := Blk.put3 G2 rfl (.int .i64 a) (.int .i64 b) (.slice s3 xs.length c3)
 have hbZ := ((hbX.setCell (p := ⟨w.heap.size + 1, 0, none⟩) (by show w.heap.size ≤ w.heap.size + 1; omega) (.int .i64 a)).setCell (p := ⟨w.heap.size + 1, 1, none⟩) (by show w.heap.size ≤ w.heap.size + 1; omega) (.int .i64 b)).setCell (p := ⟨w.heap.size + 1, 2, none⟩) (by show w.heap.size ≤ w.heap.size + 1; omega) (.slice s3 xs.length c3)
 generalize ((wB.setCell ⟨w.heap.size + 1, 0, none⟩ (.int .i64 a)).setCell ⟨w.heap.size + 1, 1, none⟩ (.int .i64 b)).setCell ⟨w.heap.size + 1, 2, none⟩ (.slice s3 xs.length c3) = wZ at HZ hbZ go ⊢
 have jz0 := HZ.cell (o := 0) rfl
 have jz1 := HZ.cell (o := 1) rfl
 have jz2 := HZ.cell (o := 2) rfl
 refine bodyPost_ret (v := .agg #[.int .i64 a, .int .i64 b, (.slice s3 xs.length c3)]) (by simp [results, Tryz.results33, go_sem, jz0, jz1, jz2]) rfl ⟨_, rfl, own_less go (by omega), hbZ⟩
end Go.Proofs.YtfcphagmjijmkaaGreatDoor

namespace Go.Proofs.YtfcphagmjijmkaaGreatDoor
open Go.RowKit
set_option linter.unusedVariables false
attribute [local go_sem] vwp vUpon_value vUpon_skip vUpon_enter vUpon_row
set_option linter.unusedSimpArgs false
set_option linter.unusedVariables false
section
set_option linter.unusedSimpArgs false
set_option linter.unusedVariables false
theorem kempty_any (q : Re) (w : World) : Calls Tryz.prog 198 #[.agg #[.int .i64 (q).x, .int .i64 (q).y, .int .i64 (q).wd, .int .i64 (q).ht]] w fun e w' => e = .returned (.bool (noneR q)) ∧ Below w.heap.size w w' := by
 obtain ⟨x, y, a, b⟩ := q
 simp only
 by_cases c1 : a = 0
 ·have hm : noneR ⟨x, y, a, b⟩ = true := by simp [noneR, c1]
  have d1 : (a == 0) = true := by simp [c1]
  clear c1
  rw [show noneR ⟨x, y, a, b⟩ = true from hm]
  clear hm
  go_enter Tryz.func198, Tryz.ntmps198
  go_wp2
  go_ret
  exact ⟨rfl, (by repeat (first | exact Below.refl _ _ | assumption | refine Below.drew ?_ | refine Below.alloc ?_ (by (try simp) <;> omega) _ | refine Below.setCell ?_ (by (try simp) <;> omega) _))⟩
 have d1 : (a == 0) = false := by simp [c1]
 by_cases c2 : b = 0
 ·have hm : noneR ⟨x, y, a, b⟩ = true := by simp [noneR, c2]
  have d2 : (b == 0) = true := by simp [c2]
  clear c2
  rw [show noneR ⟨x, y, a, b⟩ = true from hm]
  clear hm
  go_enter Tryz.func198, Tryz.ntmps198
  go_wp2
  go_ret
  exact ⟨rfl, (by repeat (first | exact Below.refl _ _ | assumption | refine Below.drew ?_ | refine Below.alloc ?_ (by (try simp) <;> omega) _ | refine Below.setCell ?_ (by (try simp) <;> omega) _))⟩
 have d2 : (b == 0) = false := by simp [c2]
 have hm : noneR ⟨x, y, a, b⟩ = false := by simp [noneR, c1, c2]
 rw [show noneR ⟨x, y, a, b⟩ = false from hm]
 clear hm
 go_enter Tryz.func198, Tryz.ntmps198
 go_wp2
 go_ret
 exact ⟨rfl, (by repeat (first | exact Below.refl _ _ | assumption | refine Below.drew ?_ | refine Below.alloc ?_ (by (try simp) <;> omega) _ | refine Below.setCell ?_ (by (try simp) <;> omega) _))⟩
theorem hasL_at {l : List Re} {k : Nat} {q : Re} (h : l[k]? = some q) (x y : Int) : hasL (l.drop k) x y = (hasR q x y || hasL (l.drop (k + 1)) x y) := by
  rw [drop_get h]; rfl
set_option maxHeartbeats 2000000 in
set_option maxRecDepth 100000 in
theorem khas_any (l : List Re) (v : Value) (px py : Int) (w : World) (hl : Row w.heap.size 4 Re.enc w v l) (ml : MayL l) : Calls Tryz.prog 129 #[v, .int .i64 px, .int .i64 py] w fun e w' => e = .returned (.bool (hasL l px py)) ∧ Below w.heap.size w w' := by
 obtain ⟨s0, cap, rfl, hmax⟩ := hl.shape
 have hopen := fun h0 => row_re hl h0
 obtain ⟨n, en⟩ : ∃ n, l.length = n := ⟨_, rfl⟩
 rw [en] at hopen hmax ⊢
 unfold maxLen at hmax
 obtain ⟨R, hR⟩ : ∃ R, hasL l px py = R := ⟨_, rfl⟩
 rw [hR]
 have hgo := Lib.hid (show hasL (l.drop 0) px py = R from hR)
 clear hl hR
 replace hopen := Lib.hid hopen
 replace en := Lib.hid en
 replace ml := Lib.hid ml
 go_enter Tryz.func129, Tryz.ntmps129
 go_wp2
 go_loopw [7] (fun iv wr => ∃ k : Nat, k ≤ n ∧ iv = .int .i64 k ∧ Hid (hasL (l.drop k) px py = R) ∧ Below w.heap.size w wr) (fun iv _ => n - (intOf iv).toNat)
 case atStart => exact ⟨0, Nat.zero_le _, rfl, hgo, Below.refl _ _⟩
 case round =>
  clear hgo
  obtain ⟨k, hk, rfl, hgo, hbr⟩ := hrel
  have zr := hbr.size
  obtain ⟨hcr, hfr⟩ := bcell hbr
  by_cases hkn : k < n
  ·obtain ⟨b, o, cap', e, yb, _, _, hel⟩ := hopen.out (by omega)
   simp at e
   obtain ⟨rfl, rfl⟩ := e
   obtain ⟨⟨qx, qy, qa, qb⟩, hq⟩ := get_at en.out hkn
   obtain ⟨g0, g1, g2, g3⟩ := hel k _ hq
   simp only at g0 g1 g2 g3
   have hbd := may_bd (ml.out _ (List.mem_of_getElem? hq))
   obtain ⟨x0, x1, y0, y1, a0, a1, b0, b1⟩ := hbd
   simp only at x0 x1 y0 y1 a0 a1 b0 b1
   have hgo := hgo.out
   rw [hasL_at hq] at hgo
   have hkk : (k : Int) < n := by omega
   clear hel hq
   by_cases c1 : qx ≤ px
   ·by_cases c2 : px < qx + qa
    ·by_cases c3 : qy ≤ py
     ·by_cases c4 : py < qy + qb
      ·rw [show hasR ⟨qx, qy, qa, qb⟩ px py = true by simp [hasR, c1, c2, c3, c4]] at hgo
       have hgo : true = R := by simpa using hgo
       subst hgo
       go_wp2
       go_ret
       exact ⟨rfl, (by repeat (first | exact Below.refl _ _ | assumption | refine Below.drew ?_ | refine Below.alloc ?_ (by (try simp) <;> omega) _ | refine Below.setCell ?_ (by (try simp) <;> omega) _))⟩
      ·have hm : hasR ⟨qx, qy, qa, qb⟩ px py = false := by simp [hasR, c4]
       rw [show hasR ⟨qx, qy, qa, qb⟩ px py = false from hm] at hgo
       have hgo := Lib.hid (show hasL (l.drop (k + 1)) px py = R from hgo)
       clear hm
       go_wp2
       go_roundw
       case rel => exact ⟨k + 1, by omega, by go_num, hgo, (by repeat (first | exact Below.refl _ _ | assumption | refine Below.drew ?_ | refine Below.alloc ?_ (by (try simp) <;> omega) _ | refine Below.setCell ?_ (by (try simp) <;> omega) _))⟩
       case measure => simp [intOf]; omega
     ·have hm : hasR ⟨qx, qy, qa, qb⟩ px py = false := by simp [hasR, c3]
      rw [show hasR ⟨qx, qy, qa, qb⟩ px py = false from hm] at hgo
      have hgo := Lib.hid (show hasL (l.drop (k + 1)) px py = R from hgo)
      clear hm
      go_wp2
      go_roundw
      case rel => exact ⟨k + 1, by omega, by go_num, hgo, (by repeat (first | exact Below.refl _ _ | assumption | refine Below.drew ?_ | refine Below.alloc ?_ (by (try simp) <;> omega) _ | refine Below.setCell ?_ (by (try simp) <;> omega) _))⟩
      case measure => simp [intOf]; omega
    ·have hm : hasR ⟨qx, qy, qa, qb⟩ px py = false := by simp [hasR, c2]
     rw [show hasR ⟨qx, qy, qa, qb⟩ px py = false from hm] at hgo
     have hgo := Lib.hid (show hasL (l.drop (k + 1)) px py = R from hgo)
     clear hm
     go_wp2
     go_roundw
     case rel => exact ⟨k + 1, by omega, by go_num, hgo, (by repeat (first | exact Below.refl _ _ | assumption | refine Below.drew ?_ | refine Below.alloc ?_ (by (try simp) <;> omega) _ | refine Below.setCell ?_ (by (try simp) <;> omega) _))⟩
     case measure => simp [intOf]; omega
   ·have hm : hasR ⟨qx, qy, qa, qb⟩ px py = false := by simp [hasR, c1]
    rw [show hasR ⟨qx, qy, qa, qb⟩ px py = false from hm] at hgo
    have hgo := Lib.hid (show hasL (l.drop (k + 1)) px py = R from hgo)
    clear hm
    go_wp2
    go_roundw
    case rel => exact ⟨k + 1, by omega, by go_num, hgo, (by repeat (first | exact Below.refl _ _ | assumption | refine Below.drew ?_ | refine Below.alloc ?_ (by (try simp) <;> omega) _ | refine Below.setCell ?_ (by (try simp) <;> omega) _))⟩
    case measure => simp [intOf]; omega
  ·obtain rfl : k = n := by omega
   have hgo := hgo.out
   rw [List.drop_eq_nil_of_le (by have := en.out; omega)] at hgo
   have hgo : false = R := hgo
   subst hgo
   go_wp2
   go_ret
   exact ⟨rfl, hbr⟩
end
section
set_option linter.unusedSimpArgs false
set_option linter.unusedVariables false
theorem edgeI_has (n : Int) : ∀ (l : List Int) (a : Nat) (x : Int), (∀ (j : Nat) y, j < a → l[j]? = some y → y < n) → l[a]? = some x → x = n → edgeI l n = l
  | [], a, x, _, h, _ => by simp at h
  | y :: l, 0, x, _, h, e => by
    simp at h; subst h; subst e
    unfold edgeI
    rw [if_neg (by omega), if_pos rfl]
  | y :: l, a + 1, x, hl, h, e => by
    unfold edgeI
    rw [if_pos (hl 0 y (by omega) rfl), edgeI_has n l a x (fun j z hj hz => hl (j + 1) z (by omega) (by simpa using hz)) (by simpa using h) e]
theorem edgeI_ins (n : Int) : ∀ (l : List Int) (a : Nat), (∀ (j : Nat) y, j < a → l[j]? = some y → y < n) → (∀ y, l[a]? = some y → n < y) → a ≤ l.length → edgeI l n = l.take a ++ n :: l.drop a
  | [], a, _, _, h => by
    have : a = 0 := by simpa using h
    subst this; rfl
  | y :: l, 0, _, h2, _ => by
    have := h2 y rfl
    unfold edgeI
    rw [if_neg (by omega), if_neg (by omega)]
    rfl
  | y :: l, a + 1, hl, h2, h3 => by
    unfold edgeI
    rw [if_pos (hl 0 y (by omega) rfl), edgeI_ins n l a (fun j z hj hz => hl (j + 1) z (by omega) (by simpa using hz)) (fun z hz => h2 z (by simpa using hz)) (by simpa using h3)]
    rfl
theorem edgeI_len (l : List Int) (n : Int) : (edgeI l n).length ≤ l.length + 1 := by
  induction l with
  | nil => simp [edgeI]
  | cons a r ih =>
    unfold edgeI
    split
    · simp; omega
    · split <;> simp
def vI (n : Int) : Value := .int .i64 n
theorem own_insI {w7 : World} {base g cap L a : Nat} {n : Int} {ix : List Int} {cur : Array Value} {e : TypeId} (hh : w7.heap[g]? = some (.cells (splice cur.toList (a + 1) ((ix.map vI).drop a)).toArray e (0, 0))) (hbase : base ≤ g) (hnc : L + 1 ≤ cap) (hcm : cap ≤ maxLen) (hs : cur.size = cap * 1)
  (ht : cur.toList.take ((L + 1) * 1) = ix.map vI ++ [Value.int .i64 0]) (hL : ix.length = L) (ha : a ≤ L) :
  (w7.setCell ⟨g, a, none⟩ (.int .i64 n)).ownsRow base e 1 (.slice (some ⟨g, 0, none⟩) (L + 1) cap) (L + 1) ((ix.take a ++ n :: ix.drop a).map vI) := by
 have hsp := length_splice cur.toList (a + 1) ((ix.map vI).drop a) (by simp; omega)
 refine ⟨by simp; omega, .inr ⟨g, cap, _, rfl, hbase, heap_setCell_same _ _ _ _ _ _ hh, hnc, hcm, by rw [Array.size_setIfInBounds, List.size_toArray, hsp]; simpa using hs, ?_⟩⟩
 rw [Array.toList_setIfInBounds, Nat.mul_one]
 rw [Nat.mul_one] at ht
 have h1 : cur.toList.take (a + 1) = (ix.map vI ++ [Value.int .i64 0]).take (a + 1) := by rw [← ht, List.take_take, Nat.min_eq_left (by omega)]
 obtain ⟨z, h2⟩ : ∃ z, (ix.map vI ++ [Value.int .i64 0]).take (a + 1) = (ix.map vI).take a ++ [z] := by
  refine ⟨(ix.map vI ++ [Value.int .i64 0])[a]'(by simp; omega), ?_⟩
  rw [List.take_succ_eq_append_getElem (by simp; omega), List.take_append_of_le_length (by simp; omega)]
 unfold splice
 rw [h1, h2]
 have h3 : ((ix.map vI).take a ++ [z] ++ ((ix.map vI).drop a ++ cur.toList.drop (a + 1 + ((ix.map vI).drop a).length))).set a (.int .i64 n) = ((ix.map vI).take a ++ [.int .i64 n] ++ (ix.map vI).drop a) ++ cur.toList.drop (a + 1 + ((ix.map vI).drop a).length) := by
  rw [List.append_assoc, List.set_append_right _ _ (by simp; omega)]
  have : a - ((ix.map vI).take a).length = 0 := by simp; omega
  rw [this]
  simp
 rw [h3, List.take_left' (by simp; omega)]
 simp [vI, List.map_take, List.map_drop]
theorem flatVI (l : List Int) : l.flatMap encI = l.map vI := by
  induction l with
  | nil => rfl
  | cons a r ih => rw [List.flatMap_cons, ih]; rfl
theorem wpList_copy_grown {P : Program} {w : World} {ops : Array Oper} {rest : List Oper} {o : Oper} {a : Act} {Q : Exit → Act → World → Prop} (hgd : o.guard = none) (d s : Operand) (dT sT : TypeId)
  (ho : o.op = .call { callee := .builtin .copy, args := #[d, s], argTypes := #[dT, sT] }) (elem : TypeId) (hu : P.underlying dT = some (.slice elem)) (hsz : (P.info? elem).map (·.size) = some 1)
  (dp sp : Option Addr) (dLen dCap sLen sCap : Nat) (hd : a.eval d = .slice dp dLen dCap) (hs : a.eval s = .slice sp sLen sCap)
  (g off : Nat) (cur : List Value) (t : TypeId) (hg : w.heap[g]? = some (.cells cur.toArray t (0, 0))) (cs : List Value) (hn : cs.length = Nat.min sLen dLen)
  (hpos : 0 < cs.length → dp = some ⟨g, off, none⟩ ∧ ∃ ad, sp = some ad ∧ ∀ j v, cs[j]? = some v → w.cell? (ad.add j) = some v)
  (hfit : off + cs.length ≤ cur.length) (h1 : ∀ v ∈ cs, v.oneCell' = true)
  (h : ∀ w', Hid (w'.heap[g]? = some (.cells (splice cur off cs).toArray t (0, 0))) → w.grownBy w' (some g) → wpList P ops Q rest (a.put o.dst (goInt cs.length)) w') :
  wpList P ops Q (o :: rest) a w := by
 by_cases h0 : cs.length = 0
 ·obtain rfl : cs = [] := List.eq_nil_of_length_eq_zero h0
  refine wpList_copy_nothing hgd d s dT sT ho elem hu hsz dp sp dLen dCap sLen sCap hd hs (by simpa using hn.symm) ?_
  exact h w (show _ = _ by simpa [splice] using hg) (grown_refl _ _)
 ·obtain ⟨rfl, ad, rfl, hsrc⟩ := hpos (by omega)
  refine wpList_copy_own hgd d s dT sT ho elem hu hsz g off dLen dCap ad sLen sCap hd hs cur.toArray t hg cs hn hsrc (by simpa using hfit) h1 ?_
  refine h _ (show _ = _ by simpa [splice] using setRow_heap w g _ _ t _ hg) ⟨rfl, rfl, rfl, by simp [World.setRow], fun k hk hne => setRow_other w g k _ (by intro e; exact hne (by rw [e]))⟩
theorem edge_close {w w6 uE w7 : World} {r : Option Nat} {g6 : Nat} (h6 : w.grownBy w6 r) (t6 : r = some g6 ∨ w.heap.size < g6) (hE : Below w6.heap.size w6 uE) (h7 : uE.grownBy w7 (some g6)) (o : Nat) (x : Option (Nat × Nat)) (u : Value) :
    w.grownBy (w7.setCell ⟨g6, o, none⟩ u) r := by
  refine ⟨h7.os.trans (hE.os.trans h6.os), h7.tape.trans (hE.tape.trans h6.tape), h7.output.trans (hE.output.trans h6.output), ?_, fun k hk hne => ?_⟩
  · have e : (w7.setCell ⟨g6, o, none⟩ u).heap.size = w7.heap.size := by simp
    rw [e]
    exact Nat.le_trans h6.size (Nat.le_trans hE.size h7.size)
  · have hkg : k ≠ g6 := by
      rintro rfl
      rcases t6 with h | h
      · exact hne h.symm
      · omega
    have k6 := Nat.lt_of_lt_of_le hk h6.size
    rw [heap_setCell_other _ _ _ _ hkg, h7.block k (Nat.lt_of_lt_of_le k6 hE.size) (by intro e; injection e with e; exact hkg e), hE.block k k6, h6.block k hk hne]
def EdgePost (ns : List Int) (B : Nat) (v : Value) (w : World) (e : Ending) (w' : World) : Prop := w.grownBy w' v.ownBlock ∧ ∃ v', e = .returned v' ∧ OwnsI B w' v' ns ∧ ∀ g, v'.ownBlock = some g → v.ownBlock = some g ∨ w.heap.size ≤ g
set_option maxHeartbeats 4000000 in
set_option maxRecDepth 100000 in
theorem edge_any (ns : List Int) (n : Int) (v : Value) (B : Nat) (w : World) (h : OwnsI B w v ns) (hB : B ≤ w.heap.size) (hmany : ns.length ≤ 1000000) : Calls Tryz.prog 199 #[v, .int .i64 n] w (EdgePost (edgeI ns n) B v w) := by
 obtain ⟨iI, hi0, hz0, hz1, hz2⟩ := info_parts infoIn
 have hcells := fun h0 => row_in (h.row (Nat.le_refl _)) h0
 have hown := h
 unfold OwnsI at hown
 obtain ⟨L, hL⟩ : ∃ L, ns.length = L := ⟨_, rfl⟩
 rw [hL] at hown hmany hcells
 obtain ⟨s3, cap3, rfl⟩ := own_slice hown
 clear h
 replace hcells := Lib.hid hcells
 replace hown := Lib.hid hown
 replace hL := Lib.hid hL
 go_enter Tryz.func199, Tryz.ntmps199
 go_wp2
 go_loop [5] (fun av => ∃ a : Nat, a ≤ L ∧ av = .int .i64 a ∧ (∀ (j : Nat) x, j < a → ns[j]? = some x → x < n)) (fun av => L - (intOf av).toNat)
 case atStart => exact ⟨0, Nat.zero_le _, rfl, fun _ _ h => absurd h (Nat.not_lt_zero _)⟩
 case round =>
  obtain ⟨a, ha, rfl, hlow⟩ := hrel
  replace hlow := Lib.hid hlow
  by_cases haL : a < L
  ·obtain ⟨g, o, cap4, e, hg1, hg2, hg3, hcl⟩ := hcells.out (by omega)
   simp at e
   obtain ⟨rfl, rfl⟩ := e
   obtain ⟨x, ex⟩ := get_at hL.out haL
   have c1 := hcl a x ex
   have haa : (a : Int) < L := by omega
   clear hcl
   by_cases hlt : x < n
   ·replace ex := Lib.hid ex
    go_wp2
    go_round
    case rel =>
     refine ⟨a + 1, by omega, by go_num, fun j y hj hy => ?_⟩
     rcases Nat.lt_succ_iff_lt_or_eq.1 hj with hj | rfl
     ·exact hlow.out j y hj hy
     ·rw [ex.out] at hy; obtain rfl := Option.some.inj hy; exact hlt
    case measure => simp [intOf]; omega
   ·by_cases heq : x = n
    ·have hins := edgeI_has n ns a x hlow.out ex heq
     have g4 : (x == n) = true := by simpa using heq
     replace hins := Lib.hid hins
     replace ex := Lib.hid ex
     subst heq
     go_wp2
     go_ret
     refine ⟨grown_refl _ _, _, rfl, ?_, fun g hg => .inl hg⟩
     unfold OwnsI
     rw [hins.out, hL.out]
     exact hown.out
    ·have hgt : n < x := by omega
     have hins := edgeI_ins n ns a hlow.out (fun y hy => by rw [ex] at hy; obtain rfl := Option.some.inj hy; exact hgt) (by have := hL.out; omega)
     have g4 : (x == n) = false := by simpa using heq
     replace hins := Lib.hid hins
     replace ex := Lib.hid ex
     clear heq
     have hownD := hown.out
     have zD : B ≤ w.heap.size := hB
     go_wp2_with (at_builtin; refine wpList_append_two rfl _ _ _ rfl B 3 iI _ 1 8 Tryz.underlying52 hi0 hz0 hz1 hz2 rfl (by omega) w 1 _ _ _ _ (by rfl) hownD (by rfl) rfl (by simp [Value.oneCell']) (by omega) (by unfold maxLen; omega) zD ?_; intro v6 w6 hown6 hgr6 htw6 hb6)
     rcases hown6.2 with ⟨_, h⟩ | ⟨g6, cap6, cur6, rfl, hg6, hh6, hn6, hm6, hs6, ht6⟩
     ·exact absurd h (by omega)
     have htw := htw6 g6 rfl
     replace htw := Lib.hid htw
     replace hgr6 := Lib.hid hgr6
     clear htw6
     have gl6 := Go.lt_of_block hh6
     have hn6i : (L : Int) + 1 ≤ cap6 := by omega
     rw [flatVI] at ht6
     clear hown6 hownD hb6 zD
     unfold maxLen at hm6
     have q1 : (a : Int) ≤ (L : Int) + 1 := by omega
     have q2 : (a : Int) + 1 ≤ (L : Int) + 1 := by omega
     have q3 : ¬ cap6 = a := by omega
     by_cases hac : a + 1 < cap6
     ·have haci : (a : Int) + 1 < cap6 := by omega
      have q4 : ¬ cap6 = a + 1 := by omega
      refine wp_region_steady_then (Held w6 0 []) 7 (by kernel_rfl) (by kernel_rfl) (by decide) (by kernel_rfl) (by kernel_rfl) ⟨belt, (by (try simp) <;> omega), (by first | exact trivial | (simp only [Cells]; go_simp))⟩ ?_
      simp only [List.take_succ_cons, List.take_zero]
      repeat (first | (refine' wpSteady_do _ _ _; rotate_left; (focus rfl); (focus (intro w1 hS R hR; have hc := hS.cells; simp only [Cells] at hc; obtain ⟨hco, hfo⟩ := bcell hS.old; go_simp; (try go_bits); first | exact hR _ hS | fail)); simp only [pu]) | (refine wpSteady_pass ?_ ?_; (focus rfl); simp only [pu]))
      refine wpSteady_nil (fun uE hSE => ?_)
      have hcE := hSE.cells; have hbE := hSE.old; have hzE := hSE.size; clear hSE; simp only [Cells] at hcE; obtain ⟨hcoE, hfoE⟩ := bcell hbE
      simp only [List.drop_succ_cons, List.drop_zero, List.drop_nil]
      have hhE := (hbE.block g6 gl6).trans hh6
      refine wpList_copy_grown rfl _ _ _ _ rfl 3 Tryz.underlying52 (by kernel_rfl) _ _ _ _ _ _ (by rfl) (by rfl) g6 (a + 1) cur6.toList 3 (by simpa using hhE) ((ns.map vI).drop a) (by have := hL.out; simp [Nat.min_def]; (try split) <;> omega) (fun h0 => ⟨rfl, ⟨g6, a, none⟩, rfl, fun j v hj => by
             rw [show (⟨g6, a, none⟩ : Addr).add j = ⟨g6, a + j, none⟩ by (unfold Addr.add; split <;> simp_all)]
             rw [List.getElem?_drop] at hj
             have hjl := (List.getElem?_eq_some_iff.1 hj).1
             have e1 : (cur6.toList.take ((L + 1) * 1))[a + j]? = some v := by rw [ht6, List.getElem?_append_left hjl]; exact hj
             rw [List.getElem?_take_of_lt (by have := hL.out; simp at hjl; omega)] at e1
             simp only [World.cell?, hhE]
             simpa using e1⟩) (by have := hL.out; simp; omega) (fun v hv => by obtain ⟨i, _, rfl⟩ := List.mem_map.1 (List.mem_of_mem_drop hv); rfl) ?_
      intro w7 hh7 hgr7
      replace hgr7 := Lib.hid hgr7
      replace hbE := Lib.hid hbE
      have hh7' := hh7.out
      have hl7 : a < (splice cur6.toList (a + 1) ((ns.map vI).drop a)).length := by rw [length_splice _ _ _ (by have := hL.out; simp; omega)]; simp; omega
      have c7 : w7.cell? ⟨g6, a, none⟩ = some ((splice cur6.toList (a + 1) ((ns.map vI).drop a))[a]'hl7) := by
       simp only [World.cell?, hh7']
       simp [List.getElem?_eq_getElem hl7]
      have f7 : w7.frozen? ⟨g6, a, none⟩ = false := by simp [World.frozen?, hh7']
      have haL1 : (a : Int) < (L : Int) + 1 := by have := hL.out; omega
      obtain ⟨z7, hz7⟩ : ∃ z7, (splice cur6.toList (a + 1) ((ns.map vI).drop a))[a]'hl7 = z7 := ⟨_, rfl⟩
      rw [hz7] at c7
      clear hz7 hl7 hcE hcoE hfoE hhE hzE hh7'
      replace hh6 := Lib.hid hh6
      replace ht6 := Lib.hid ht6
      replace hs6 := Lib.hid hs6
      go_wp2
      go_ret
      refine ⟨edge_close hgr6.out htw.out hbE.out hgr7.out a none _, _, rfl, ?_, fun g hg => by cases hg; exact htw.out.imp id Nat.le_of_lt⟩
      have h := own_insI (n := n) (base := B) hh7.out hg6 hn6 hm6 hs6.out ht6.out hL.out (by have := hL.out; omega)
      unfold OwnsI
      have e : (ns.take a ++ n :: ns.drop a).length = L + 1 := by have := hL.out; simp; omega
      rw [hins.out, e, flatVI]
      exact h
     ·(exfalso; omega)
  ·have haE : a = L := by omega
   have hins := edgeI_ins n ns a hlow.out (fun y hy => by rw [List.getElem?_eq_none (by have := hL.out; omega)] at hy; cases hy) (by have := hL.out; omega)
   replace haE := Lib.hid haE
   replace hins := Lib.hid hins
   have hownD := hown.out
   have zD : B ≤ w.heap.size := hB
   go_wp2_with (at_builtin; refine wpList_append_two rfl _ _ _ rfl B 3 iI _ 1 8 Tryz.underlying52 hi0 hz0 hz1 hz2 rfl (by omega) w 1 _ _ _ _ (by rfl) hownD (by rfl) rfl (by simp [Value.oneCell']) (by omega) (by unfold maxLen; omega) zD ?_; intro v6 w6 hown6 hgr6 htw6 hb6)
   rcases hown6.2 with ⟨_, h⟩ | ⟨g6, cap6, cur6, rfl, hg6, hh6, hn6, hm6, hs6, ht6⟩
   ·exact absurd h (by omega)
   have htw := htw6 g6 rfl
   replace htw := Lib.hid htw
   replace hgr6 := Lib.hid hgr6
   clear htw6
   have gl6 := Go.lt_of_block hh6
   have hn6i : (L : Int) + 1 ≤ cap6 := by omega
   rw [flatVI] at ht6
   clear hown6 hownD hb6 zD
   unfold maxLen at hm6
   have q1 : (a : Int) ≤ (L : Int) + 1 := by omega
   have q2 : (a : Int) + 1 ≤ (L : Int) + 1 := by omega
   have q3 : ¬ cap6 = a := by omega
   by_cases hac : a + 1 < cap6
   ·have haci : (a : Int) + 1 < cap6 := by omega
    have q4 : ¬ cap6 = a + 1 := by omega
    refine wp_region_steady_then (Held w6 0 []) 7 (by kernel_rfl) (by kernel_rfl) (by decide) (by kernel_rfl) (by kernel_rfl) ⟨belt, (by (try simp) <;> omega), (by first | exact trivial | (simp only [Cells]; go_simp))⟩ ?_
    simp only [List.take_succ_cons, List.take_zero]
    repeat (first | (refine' wpSteady_do _ _ _; rotate_left; (focus rfl); (focus (intro w1 hS R hR; have hc := hS.cells; simp only [Cells] at hc; obtain ⟨hco, hfo⟩ := bcell hS.old; go_simp; (try go_bits); first | exact hR _ hS | fail)); simp only [pu]) | (refine wpSteady_pass ?_ ?_; (focus rfl); simp only [pu]))
    refine wpSteady_nil (fun uE hSE => ?_)
    have hcE := hSE.cells; have hbE := hSE.old; have hzE := hSE.size; clear hSE; simp only [Cells] at hcE; obtain ⟨hcoE, hfoE⟩ := bcell hbE
    simp only [List.drop_succ_cons, List.drop_zero, List.drop_nil]
    have hhE := (hbE.block g6 gl6).trans hh6
    refine wpList_copy_grown rfl _ _ _ _ rfl 3 Tryz.underlying52 (by kernel_rfl) _ _ _ _ _ _ (by rfl) (by rfl) g6 (a + 1) cur6.toList 3 (by simpa using hhE) ((ns.map vI).drop a) (by have := hL.out; simp [Nat.min_def]; (try split) <;> omega) (fun h0 => ⟨rfl, ⟨g6, a, none⟩, rfl, fun j v hj => by
         rw [show (⟨g6, a, none⟩ : Addr).add j = ⟨g6, a + j, none⟩ by (unfold Addr.add; split <;> simp_all)]
         rw [List.getElem?_drop] at hj
         have hjl := (List.getElem?_eq_some_iff.1 hj).1
         have e1 : (cur6.toList.take ((L + 1) * 1))[a + j]? = some v := by rw [ht6, List.getElem?_append_left hjl]; exact hj
         rw [List.getElem?_take_of_lt (by have := hL.out; simp at hjl; omega)] at e1
         simp only [World.cell?, hhE]
         simpa using e1⟩) (by have := hL.out; simp; omega) (fun v hv => by obtain ⟨i, _, rfl⟩ := List.mem_map.1 (List.mem_of_mem_drop hv); rfl) ?_
    intro w7 hh7 hgr7
    replace hgr7 := Lib.hid hgr7
    replace hbE := Lib.hid hbE
    have hh7' := hh7.out
    have hl7 : a < (splice cur6.toList (a + 1) ((ns.map vI).drop a)).length := by rw [length_splice _ _ _ (by have := hL.out; simp; omega)]; simp; omega
    have c7 : w7.cell? ⟨g6, a, none⟩ = some ((splice cur6.toList (a + 1) ((ns.map vI).drop a))[a]'hl7) := by
     simp only [World.cell?, hh7']
     simp [List.getElem?_eq_getElem hl7]
    have f7 : w7.frozen? ⟨g6, a, none⟩ = false := by simp [World.frozen?, hh7']
    have haL1 : (a : Int) < (L : Int) + 1 := by have := hL.out; omega
    obtain ⟨z7, hz7⟩ : ∃ z7, (splice cur6.toList (a + 1) ((ns.map vI).drop a))[a]'hl7 = z7 := ⟨_, rfl⟩
    rw [hz7] at c7
    clear hz7 hl7 hcE hcoE hfoE hhE hzE hh7'
    replace hh6 := Lib.hid hh6
    replace ht6 := Lib.hid ht6
    replace hs6 := Lib.hid hs6
    go_wp2
    go_ret
    refine ⟨edge_close hgr6.out htw.out hbE.out hgr7.out a none _, _, rfl, ?_, fun g hg => by cases hg; exact htw.out.imp id Nat.le_of_lt⟩
    have h := own_insI (n := n) (base := B) hh7.out hg6 hn6 hm6 hs6.out ht6.out hL.out (by have := hL.out; omega)
    unfold OwnsI
    have e : (ns.take a ++ n :: ns.drop a).length = L + 1 := by have := hL.out; simp; omega
    rw [hins.out, e, flatVI]
    exact h
   ·obtain rfl : cap6 = a + 1 := by omega
    refine wp_region_steady_then (Held w6 0 []) 7 (by kernel_rfl) (by kernel_rfl) (by decide) (by kernel_rfl) (by kernel_rfl) ⟨belt, (by (try simp) <;> omega), (by first | exact trivial | (simp only [Cells]; go_simp))⟩ ?_
    simp only [List.take_succ_cons, List.take_zero]
    repeat (first | (refine' wpSteady_do _ _ _; rotate_left; (focus rfl); (focus (intro w1 hS R hR; have hc := hS.cells; simp only [Cells] at hc; obtain ⟨hco, hfo⟩ := bcell hS.old; go_simp; (try go_bits); first | exact hR _ hS | fail)); simp only [pu]) | (refine wpSteady_pass ?_ ?_; (focus rfl); simp only [pu]))
    refine wpSteady_nil (fun uE hSE => ?_)
    have hcE := hSE.cells; have hbE := hSE.old; have hzE := hSE.size; clear hSE; simp only [Cells] at hcE; obtain ⟨hcoE, hfoE⟩ := bcell hbE
    simp only [List.drop_succ_cons, List.drop_zero, List.drop_nil]
    have hhE := (hbE.block g6 gl6).trans hh6
    refine wpList_copy_grown rfl _ _ _ _ rfl 3 Tryz.underlying52 (by kernel_rfl) _ _ _ _ _ _ (by rfl) (by rfl) g6 (a + 1) cur6.toList 3 (by simpa using hhE) ((ns.map vI).drop a) (by have := hL.out; simp [Nat.min_def]; (try split) <;> omega) (fun h0 => by exfalso; have := hL.out; simp at h0; omega) (by have := hL.out; simp; omega) (fun v hv => by obtain ⟨i, _, rfl⟩ := List.mem_map.1 (List.mem_of_mem_drop hv); rfl) ?_
    intro w7 hh7 hgr7
    replace hgr7 := Lib.hid hgr7
    replace hbE := Lib.hid hbE
    have hh7' := hh7.out
    have hl7 : a < (splice cur6.toList (a + 1) ((ns.map vI).drop a)).length := by rw [length_splice _ _ _ (by have := hL.out; simp; omega)]; simp; omega
    have c7 : w7.cell? ⟨g6, a, none⟩ = some ((splice cur6.toList (a + 1) ((ns.map vI).drop a))[a]'hl7) := by
     simp only [World.cell?, hh7']
     simp [List.getElem?_eq_getElem hl7]
    have f7 : w7.frozen? ⟨g6, a, none⟩ = false := by simp [World.frozen?, hh7']
    have haL1 : (a : Int) < (L : Int) + 1 := by have := hL.out; omega
    obtain ⟨z7, hz7⟩ : ∃ z7, (splice cur6.toList (a + 1) ((ns.map vI).drop a))[a]'hl7 = z7 := ⟨_, rfl⟩
    rw [hz7] at c7
    clear hz7 hl7 hcE hcoE hfoE hhE hzE hh7'
    replace hh6 := Lib.hid hh6
    replace ht6 := Lib.hid ht6
    replace hs6 := Lib.hid hs6
    go_wp2
    go_ret
    refine ⟨edge_close hgr6.out htw.out hbE.out hgr7.out a none _, _, rfl, ?_, fun g hg => by cases hg; exact htw.out.imp id Nat.le_of_lt⟩
    have h := own_insI (n := n) (base := B) hh7.out hg6 hn6 hm6 hs6.out ht6.out hL.out (by have := hL.out; omega)
    unfold OwnsI
    have e : (ns.take a ++ n :: ns.drop a).length = L + 1 := by have := hL.out; simp; omega
    rw [hins.out, e, flatVI]
    exact h
end
section
set_option linter.unusedSimpArgs false
set_option linter.unusedVariables false
def edgF (down : Bool) (y : Int) (ts : List Int) (q : Re) : List Int := if down then edgY ts q else edgX y ts q
theorem edgF_len (down : Bool) (y : Int) (ts : List Int) (q : Re) : (edgF down y ts q).length ≤ ts.length + 2 := by
  have h1 := edgeI_len ts q.y
  have h2 := edgeI_len (edgeI ts q.y) (q.y + q.ht)
  have h3 := edgeI_len ts q.x
  have h4 := edgeI_len (edgeI ts q.x) (q.x + q.wd)
  unfold edgF edgY edgX
  split
  · split <;> omega
  · split
    · omega
    · split <;> omega
theorem edgF_fold (down : Bool) (y : Int) : ∀ (l : List Re) (ts : List Int), (l.foldl (edgF down y) ts).length ≤ ts.length + l.length * 2
  | [], ts => by simp
  | q :: l, ts => by
    have h1 := edgF_fold down y l (edgF down y ts q)
    have h2 := edgF_len down y ts q
    rw [List.foldl_cons, List.length_cons]
    omega
theorem edgF_step {l : List Re} {k : Nat} {q : Re} (h : l[k]? = some q) (down : Bool) (y : Int) (ts : List Int) : (l.drop k).foldl (edgF down y) ts = (l.drop (k + 1)).foldl (edgF down y) (edgF down y ts q) := by
  rw [drop_get h]; rfl
theorem grown_far {w w' : World} {r : Option Nat} (h : w.grownBy w' r) {b : Nat} (hb : b < w.heap.size) (hr : ∀ g, r = some g → g ≠ b) (o : Nat) : w'.cell? ⟨b, o, none⟩ = w.cell? ⟨b, o, none⟩ :=
  World.cell?_of_block (a := ⟨b, o, none⟩) (h.block b hb (fun e => hr b e.symm rfl))
theorem grown_below {B : Nat} {w w' : World} {r : Option Nat} (h : w.grownBy w' r) (hB : B ≤ w.heap.size) (hr : ∀ g, r = some g → B ≤ g) : Below B w w' :=
  ⟨h.os, h.tape, h.output, h.size, fun k hk => h.block k (by omega) (fun e => by have := hr k e.symm; omega)⟩
set_option maxHeartbeats 4000000 in
set_option maxRecDepth 100000 in
theorem kedges_any (ts : List Int) (l : List Re) (v vl : Value) (down : Bool) (y : Int) (B : Nat) (w : World) (ht : OwnsI B w v ts) (hl : Row B 4 Re.enc w vl l) (ml : MayL l) (hB : B ≤ w.heap.size) (h1 : ts.length ≤ 400000) (h2 : l.length ≤ 100000) :
  Calls Tryz.prog 171 #[v, vl, .bool down, .int .i64 y] w (EdgePost (l.foldl (edgF down y) ts) B v w) := by
 obtain ⟨s0, cap, rfl, hmax⟩ := hl.shape
 have hopen := fun h0 => row_re hl h0
 obtain ⟨n, en⟩ : ∃ n, l.length = n := ⟨_, rfl⟩
 rw [en] at hopen hmax h2 ⊢
 obtain ⟨R, hR⟩ : ∃ R, l.foldl (edgF down y) ts = R := ⟨_, rfl⟩
 rw [hR]
 have hgo := Lib.hid (show (l.drop 0).foldl (edgF down y) ts = R from hR)
 have ht0 := Lib.hid ht
 have hvB := Lib.hid (fun g h => (own_block_lt ht g h).1)
 clear hl hR
 replace hopen := Lib.hid hopen
 replace en := Lib.hid en
 replace ml := Lib.hid ml
 have hts := Lib.hid h1
 clear ht h1
 go_enter Tryz.func171, Tryz.ntmps171
 go_wp2
 go_loopw [0, 9] (fun tv iv wr => ∃ (k : Nat) (T : List Int), k ≤ n ∧ iv = .int .i64 k ∧ OwnsI B wr tv T ∧ Hid ((l.drop k).foldl (edgF down y) T = R) ∧ Hid (T.length ≤ 400000 + k * 2) ∧ EdI v w tv wr) (fun _ iv _ => n - (intOf iv).toNat)
 case atStart => exact ⟨0, ts, Nat.zero_le _, rfl, ht0.out, hgo, hts, EdI.start _ _⟩
 case round =>
  clear hgo ht0 hts
  obtain ⟨k, T, hk, rfl, hT, hgo, hTl, hI⟩ := hrel
  have hbr : Below B w wr := grown_below hI.1 hB hvB.out
  have zr := hbr.size
  by_cases hkn : k < n
  ·obtain ⟨b, o, cap', e, yb, _, _, hel⟩ := hopen.out (by omega)
   simp at e
   obtain ⟨rfl, rfl⟩ := e
   obtain ⟨q, hq⟩ := get_at en.out hkn
   have hbd := may_bd (ml.out _ (List.mem_of_getElem? hq))
   obtain ⟨x, yy, wd, hgt⟩ := q
   obtain ⟨g0, g1, g2, g3⟩ := hel k _ hq
   simp only at g0 g1 g2 g3
   obtain ⟨x0, x1, y0, y1, a0, a1, b0, b1⟩ := hbd
   simp only at x0 x1 y0 y1 a0 a1 b0 b1
   have hgo := hgo.out
   rw [edgF_step hq] at hgo
   have hkk : (k : Int) < n := by omega
   have EM := fun w => kempty_any ⟨x, yy, wd, hgt⟩ w
   simp only at EM
   have hTl2 := Lib.hid (edgF_len down y T ⟨x, yy, wd, hgt⟩)
   have hTlt := Lib.hid (fun g h => Nat.ne_of_lt (own_block_lt hT g h).2)
   clear hel hq
   have ybr : b < wr.heap.size := by omega
   replace g0 := (hbr.cell (p := ⟨b, _, none⟩) yb).trans g0
   replace g1 := (hbr.cell (p := ⟨b, _, none⟩) yb).trans g1
   replace g2 := (hbr.cell (p := ⟨b, _, none⟩) yb).trans g2
   replace g3 := (hbr.cell (p := ⟨b, _, none⟩) yb).trans g3
   replace hT := Lib.hid hT
   clear hbr
   cases hn : noneR ⟨x, yy, wd, hgt⟩
   ·rw [hn] at EM
    cases down
    ·by_cases c1 : yy ≤ y
     ·by_cases c2 : y < yy + hgt
      ·have hgo := Lib.hid (show (l.drop (k + 1)).foldl (edgF false y) (edgeI (edgeI T x) (x + wd)) = R by
        rw [← hgo]; unfold edgF edgX inRow; rw [hn]; simp [c1, c2])
       replace hTl2 := Lib.hid (show (edgeI (edgeI T x) (x + wd)).length ≤ T.length + 2 by have := hTl2.out; unfold edgF edgX inRow at this; rw [hn] at this; simpa [c1, c2] using this)
       clear hn
       replace EM := Lib.hid EM
       replace hI := Lib.hid hI
       go_wp2_with (first | (go_at_call 198; (with_reducible refine (EM.out _).mono ?_); rintro e w1 ⟨rfl, hb1⟩; obtain ⟨hc1, hf1⟩ := bcell hb1; have hbr1 : Below wr.heap.size wr w1 := ((Below.refl _ _).alloc (Nat.le_refl _) _).trans (hb1.mono (by simp)); have l1 : wr.heap.size < w1.heap.size := (by have := hb1.size; simp at this; omega); have E1 := Lib.hid (OwnsI.below hT.out hbr1 (Nat.le_refl _))) | (go_at_call 199; (with_reducible refine (edge_any T _ _ B _ E1.out (by omega) (by have := hTl.out; omega)).mono ?_); rintro e w2 ⟨hg2, v2, rfl, hT2, tw2⟩; have hc2 := fun o => grown_far hg2 l1 hTlt.out o; have b2 := grown_below hg2 (B := B) (by omega) (fun g h => (own_block_lt E1.out g h).1); have hT2 := Lib.hid hT2; have tw2 := Lib.hid tw2; have hg2 := Lib.hid hg2) | (go_at_call 199; (with_reducible refine (edge_any (edgeI T x) _ v2 B _ hT2.out (by have := hg2.out.size; omega) (by have := hTl.out; have := edgeI_len T x; omega)).mono ?_); rintro e w3 ⟨hg3, v3, rfl, hT3, tw3⟩; have b3 := grown_below hg3 (B := B) (by have := hg2.out.size; omega) (fun g h => (own_block_lt hT2.out g h).1)) | go_in)
       go_roundw
       case rel => exact ⟨k + 1, _, by omega, by go_num, hT3, hgo, Lib.hid (by have := hTl.out; have := hTl2.out; omega), (hI.out.step hbr1 hg2.out tw2.out).step (Below.refl _ _) hg3 tw3⟩
       case measure => simp [intOf]; omega
      ·have hgo := Lib.hid (show (l.drop (k + 1)).foldl (edgF false y) T = R by
        rw [← hgo]; unfold edgF edgX inRow; rw [hn]; simp [c1, c2])
       clear hn
       replace EM := Lib.hid EM
       replace hI := Lib.hid hI
       go_wp2_with (first | (go_at_call 198; (with_reducible refine (EM.out _).mono ?_); rintro e w1 ⟨rfl, hb1⟩; obtain ⟨hc1, hf1⟩ := bcell hb1; have hbr1 : Below wr.heap.size wr w1 := ((Below.refl _ _).alloc (Nat.le_refl _) _).trans (hb1.mono (by simp)); have l1 : wr.heap.size < w1.heap.size := (by have := hb1.size; simp at this; omega); have E1 := Lib.hid (OwnsI.below hT.out hbr1 (Nat.le_refl _))) | go_in)
       go_roundw
       case rel => exact ⟨k + 1, T, by omega, by go_num, E1.out, hgo, Lib.hid (by have := hTl.out; omega), hI.out.stay hbr1⟩
       case measure => simp [intOf]; omega
     ·have hgo := Lib.hid (show (l.drop (k + 1)).foldl (edgF false y) T = R by
       rw [← hgo]; unfold edgF edgX inRow; rw [hn]; simp [c1])
      clear hn
      replace EM := Lib.hid EM
      replace hI := Lib.hid hI
      go_wp2_with (first | (go_at_call 198; (with_reducible refine (EM.out _).mono ?_); rintro e w1 ⟨rfl, hb1⟩; obtain ⟨hc1, hf1⟩ := bcell hb1; have hbr1 : Below wr.heap.size wr w1 := ((Below.refl _ _).alloc (Nat.le_refl _) _).trans (hb1.mono (by simp)); have l1 : wr.heap.size < w1.heap.size := (by have := hb1.size; simp at this; omega); have E1 := Lib.hid (OwnsI.below hT.out hbr1 (Nat.le_refl _))) | go_in)
      go_roundw
      case rel => exact ⟨k + 1, T, by omega, by go_num, E1.out, hgo, Lib.hid (by have := hTl.out; omega), hI.out.stay hbr1⟩
      case measure => simp [intOf]; omega
    ·have hgo := Lib.hid (show (l.drop (k + 1)).foldl (edgF true y) (edgeI (edgeI T yy) (yy + hgt)) = R by
      rw [← hgo]; unfold edgF edgY; rw [hn]; simp)
     replace hTl2 := Lib.hid (show (edgeI (edgeI T yy) (yy + hgt)).length ≤ T.length + 2 by have := hTl2.out; unfold edgF edgY at this; rw [hn] at this; simpa using this)
     clear hn
     replace EM := Lib.hid EM
     replace hI := Lib.hid hI
     go_wp2_with (first | (go_at_call 198; (with_reducible refine (EM.out _).mono ?_); rintro e w1 ⟨rfl, hb1⟩; obtain ⟨hc1, hf1⟩ := bcell hb1; have hbr1 : Below wr.heap.size wr w1 := ((Below.refl _ _).alloc (Nat.le_refl _) _).trans (hb1.mono (by simp)); have l1 : wr.heap.size < w1.heap.size := (by have := hb1.size; simp at this; omega); have E1 := Lib.hid (OwnsI.below hT.out hbr1 (Nat.le_refl _))) | (go_at_call 199; (with_reducible refine (edge_any T _ _ B _ E1.out (by omega) (by have := hTl.out; omega)).mono ?_); rintro e w2 ⟨hg2, v2, rfl, hT2, tw2⟩; have hc2 := fun o => grown_far hg2 l1 hTlt.out o; have b2 := grown_below hg2 (B := B) (by omega) (fun g h => (own_block_lt E1.out g h).1); have hT2 := Lib.hid hT2; have tw2 := Lib.hid tw2; have hg2 := Lib.hid hg2) | (go_at_call 199; (with_reducible refine (edge_any (edgeI T yy) _ v2 B _ hT2.out (by have := hg2.out.size; omega) (by have := hTl.out; have := edgeI_len T yy; omega)).mono ?_); rintro e w3 ⟨hg3, v3, rfl, hT3, tw3⟩; have b3 := grown_below hg3 (B := B) (by have := hg2.out.size; omega) (fun g h => (own_block_lt hT2.out g h).1)) | go_in)
     go_roundw
     case rel => exact ⟨k + 1, _, by omega, by go_num, hT3, hgo, Lib.hid (by have := hTl.out; have := hTl2.out; omega), (hI.out.step hbr1 hg2.out tw2.out).step (Below.refl _ _) hg3 tw3⟩
     case measure => simp [intOf]; omega
   ·rw [hn] at EM
    have hgo := Lib.hid (show (l.drop (k + 1)).foldl (edgF down y) T = R by
     rw [← hgo]; unfold edgF edgX edgY; rw [hn]; simp)
    clear hn
    replace EM := Lib.hid EM
    replace hI := Lib.hid hI
    go_wp2_with (first | (go_at_call 198; (with_reducible refine (EM.out _).mono ?_); rintro e w1 ⟨rfl, hb1⟩; obtain ⟨hc1, hf1⟩ := bcell hb1; have hbr1 : Below wr.heap.size wr w1 := ((Below.refl _ _).alloc (Nat.le_refl _) _).trans (hb1.mono (by simp)); have l1 : wr.heap.size < w1.heap.size := (by have := hb1.size; simp at this; omega); have E1 := Lib.hid (OwnsI.below hT.out hbr1 (Nat.le_refl _))) | go_in)
    go_roundw
    case rel => exact ⟨k + 1, T, by omega, by go_num, E1.out, hgo, Lib.hid (by have := hTl.out; omega), hI.out.stay hbr1⟩
    case measure => simp [intOf]; omega
  ·obtain rfl : k = n := by omega
   have hgo := hgo.out
   rw [List.drop_eq_nil_of_le (by have := en.out; omega)] at hgo
   have hgo : T = R := hgo
   subst hgo
   replace hT := Lib.hid hT
   go_wp2
   go_ret
   exact ⟨hI.1, _, rfl, hT.out, hI.2⟩
end
section
set_option linter.unusedSimpArgs false
set_option linter.unusedVariables false
set_option maxHeartbeats 2000000 in
theorem kkept_any (a b : List Re) (va vb : Value) (what x y : Int) (w : World) (ha : Row w.heap.size 4 Re.enc w va a) (hb : Row w.heap.size 4 Re.enc w vb b) (ma : MayL a) (mb : MayL b) (hw : what = 1 ∨ what = 2 ∨ what = 3) :
    Calls Tryz.prog 200 #[va, vb, .int .i64 what, .int .i64 x, .int .i64 y] w fun e w' => e = .returned (.bool (keptB a b what x y)) ∧ Below w.heap.size w w' := by
  have A := khas_any a va x y w ha ma
  have B := fun W (h : Below w.heap.size w W) => khas_any b vb x y W ((hb.below h).mono h.size) mb
  unfold keptB
  obtain ⟨o, ho⟩ : ∃ o, hasL a x y = o := ⟨_, rfl⟩
  obtain ⟨p, hp⟩ : ∃ p, hasL b x y = p := ⟨_, rfl⟩
  simp only [ho] at A
  simp only [hp] at B
  rw [ho, hp]
  clear ha hb ho hp ma mb
  obtain ⟨r, hr⟩ : ∃ r, wantB what o p = r := ⟨_, rfl⟩
  rw [hr]
  rcases hw with rfl | rfl | rfl <;> cases o <;> cases p <;> simp [wantB] at hr <;> subst hr
  all_goals
    replace A := Lib.hid A
    replace B := Lib.hid B
    go_enter Tryz.func200, Tryz.ntmps200
    go_wp2_with (first
      | (go_at_call 129; (with_reducible refine (A.out).mono ?_); rintro e w1 ⟨rfl, hb1⟩)
      | (go_at_call 129; (with_reducible refine (B.out _ hb1).mono ?_); rintro e w2 ⟨rfl, hb2⟩)
      | go_in)
    go_ret
    exact ⟨rfl, hb1.trans (hb2.mono hb1.size)⟩
theorem endsS_last : ∀ {M : List Sp} {p : Nat} {t : Sp}, M[p]? = some t → (endsS M)[2 * p + 1]? = some t.2
  | [], p, t, h => by simp at h
  | s :: M, 0, t, h => by simp at h; subst h; rfl
  | s :: M, p + 1, t, h => by
    have := endsS_last (M := M) (p := p) (t := t) (by simpa using h)
    rw [show endsS (s :: M) = s.1 :: s.2 :: endsS M from rfl, show 2 * (p + 1) + 1 = (2 * p + 1) + 1 + 1 by omega, List.getElem?_cons_succ, List.getElem?_cons_succ]
    exact this
theorem endsS_set : ∀ {M : List Sp} {p : Nat} {t : Sp} {y : Int}, M[p]? = some t → endsS (M.set p (t.1, y)) = (endsS M).set (2 * p + 1) y
  | [], p, t, y, h => by simp at h
  | s :: M, 0, t, y, h => by simp at h; subst h; rfl
  | s :: M, p + 1, t, y, h => by
    have := endsS_set (M := M) (p := p) (t := t) (y := y) (by simpa using h)
    rw [List.set_cons_succ, show endsS (s :: M.set p (t.1, y)) = s.1 :: s.2 :: endsS (M.set p (t.1, y)) from rfl, this, show endsS (s :: M) = s.1 :: s.2 :: endsS M from rfl, show 2 * (p + 1) + 1 = (2 * p + 1) + 1 + 1 by omega, List.set_cons_succ, List.set_cons_succ]
theorem endsS_app (M : List Sp) (x y : Int) : endsS (M ++ [(x, y)]) = endsS M ++ [x, y] := by
  unfold endsS
  rw [List.flatMap_append]
  rfl
theorem own_unfzI {w : World} {base g n cap : Nat} {C : List Int} (h : OwnsI base w (.slice (some ⟨g, 0, none⟩) n cap) C) (o : Nat) : w.frozen? ⟨g, o, none⟩ = false := by
  rcases h.2 with ⟨h0, _⟩ | ⟨g', cap', cur, hv, hg, hh, _⟩
  · cases h0
  · injection hv with hv _ _
    injection hv with hv
    injection hv with hv _ _
    subst hv
    simp [World.frozen?, hh]
theorem own_putI {w : World} {base g n cap k : Nat} {C : List Int} (h : OwnsI base w (.slice (some ⟨g, 0, none⟩) n cap) C) (hn : C.length = n) (hk : k < n) (u : Int) : OwnsI base (w.setCell ⟨g, k, none⟩ (.int .i64 u)) (.slice (some ⟨g, 0, none⟩) n cap) (C.set k u) := by
  unfold OwnsI at *
  rw [List.length_set, hn]
  rw [hn] at h
  have := own_put h (k := k) (by omega) (.int .i64 u)
  rw [flatVI] at this ⊢
  rw [List.map_set]
  exact this
theorem own_lessI {w : World} {base B : Nat} {v : Value} {C : List Int} (h : OwnsI base w v C) (hB : B ≤ base) : OwnsI B w v C := by
  unfold OwnsI at *
  obtain ⟨h1, h2⟩ := h
  refine ⟨h1, ?_⟩
  rcases h2 with h2 | ⟨g, cap, cur, hv, hg, r⟩
  · exact .inl h2
  · exact .inr ⟨g, cap, cur, hv, by omega, r⟩
theorem edgF_false (y : Int) : edgF false y = edgX y := by funext t q; rfl
theorem edgF_true (y : Int) : edgF true y = edgY := by funext t q; rfl
theorem edgesX_len (a b : List Re) (y : Int) : (edgesX a b y).length ≤ a.length * 2 + b.length * 2 := by
  unfold edgesX
  have h1 := edgF_fold false y a []
  have h2 := edgF_fold false y b (a.foldl (edgX y) [])
  rw [edgF_false] at h1 h2
  simp at h1
  omega
def SpansPost (l : List Sp) (w : World) (e : Ending) (w' : World) : Prop := Below w.heap.size w w' ∧ ∃ v, e = .returned v ∧ OwnsI w.heap.size w' v (endsS l)
set_option maxHeartbeats 4000000 in
set_option maxRecDepth 100000 in
theorem kspans_any (a b : List Re) (va vb : Value) (what y0 : Int) (w : World) (ha : Row w.heap.size 4 Re.enc w va a) (hb : Row w.heap.size 4 Re.enc w vb b) (ma : MayL a) (mb : MayL b) (la : a.length ≤ 100000) (lb : b.length ≤ 100000) (hw : what = 1 ∨ what = 2 ∨ what = 3) :
  Calls Tryz.prog 172 #[va, vb, .int .i64 what, .int .i64 y0] w (SpansPost (spansP a b what y0) w) := by
 obtain ⟨iS, hi0, hm0, hm1, hm2⟩ := info_parts infoIn
 have E1 := kedges_any [] a (.slice none 0 0) va false y0 w.heap.size w (OwnsI.nil _ _) ha ma (Nat.le_refl _) (by simp) la
 have E2 := fun w1 v1 (h : OwnsI w.heap.size w1 v1 (a.foldl (edgF false y0) [])) (h2 : Below w.heap.size w w1) => kedges_any (a.foldl (edgF false y0) []) b v1 vb false y0 w.heap.size w1 h (hb.below h2) mb h2.size (by have := edgF_fold false y0 a []; simp at this; omega) lb
 obtain ⟨X1, hX1⟩ : ∃ X, a.foldl (edgF false y0) [] = X := ⟨_, rfl⟩
 obtain ⟨X, hX⟩ : ∃ X, edgesX a b y0 = X := ⟨_, rfl⟩
 have hXe : b.foldl (edgF false y0) X1 = X := by rw [← hX, ← hX1, edgF_false]; rfl
 have hXl : X.length ≤ 400000 := by rw [← hX]; have := edgesX_len a b y0; omega
 have hXin : ∀ x ∈ X, InM x := fun x hx => by rw [← hX] at hx; exact edgesX_in ma mb y0 x hx
 rw [hX1] at E1 E2
 rw [hXe] at E2
 obtain ⟨R, hR⟩ : ∃ R, spansP a b what y0 = R := ⟨_, rfl⟩
 have hgo : mixGo (fun x => keptB a b what x y0) [] (X.drop 0) = R := by rw [List.drop_zero, ← hX]; exact hR
 have KP := fun x W (h : Below w.heap.size w W) => kkept_any a b va vb what x y0 W ((ha.below h).mono h.size) ((hb.below h).mono h.size) ma mb hw
 obtain ⟨s1, c1, rfl, hmax1⟩ := ha.shape
 obtain ⟨s2, c2, rfl, hmax2⟩ := hb.shape
 unfold SpansPost
 rw [hR]
 replace E1 := Lib.hid E1
 replace E2 := Lib.hid E2
 replace KP := Lib.hid KP
 replace hgo := Lib.hid hgo
 replace hXin := Lib.hid hXin
 clear ha hb hX1 hX hXe hR hw
 go_enter Tryz.func172, Tryz.ntmps172
 go_wp2_with (first
  | (go_at_call 171; (with_reducible refine (E1.out).mono ?_); rintro e w1 ⟨gr1, v1, rfl, ow1, _⟩; have hb1 : Below w.heap.size w w1 := grown_below gr1 (Nat.le_refl _) (fun g h => by cases h); replace ow1 := Lib.hid ow1)
  | (go_at_call 171; (with_reducible refine (E2.out _ _ ow1.out hb1).mono ?_); rintro e w4 ⟨gr4, v4, rfl, ow4, _⟩; have hb04 : Below w.heap.size w w4 := hb1.trans (grown_below gr4 hb1.size (fun g h => (own_block_lt ow1.out g h).1)))
  | go_in)
 clear hb1 gr1 gr4 ow1 E1 E2
 obtain ⟨s4, c4, rfl⟩ := own_slice ow4
 have hX4 := fun (wr : World) (hb : Below w4.heap.size w4 wr) h0 => row_in ((ow4.row (Nat.le_refl _)).below hb) h0
 have z04 := hb04.size
 obtain ⟨L, hL⟩ : ∃ L, X.length = L := ⟨_, rfl⟩
 rw [hL] at hX4 hXl ⊢
 replace hX4 := Lib.hid hX4
 replace hL := Lib.hid hL
 clear ow4
 go_loopw [10, 11] (fun ov iv wr => ∃ (i : Nat) (M : List Sp), i ≤ L ∧ iv = .int .i64 i ∧ Hid (M.length ≤ i) ∧ Hid (mixGo (fun x => keptB a b what x y0) M (X.drop i) = R) ∧ OwnsI w4.heap.size wr ov (endsS M) ∧ Below w4.heap.size w4 wr) (fun _ iv _ => L - (intOf iv).toNat)
 case atStart => exact ⟨0, [], Nat.zero_le _, rfl, Lib.hid (Nat.zero_le _), hgo, OwnsI.nil _ _, Below.refl _ _⟩
 case round =>
  obtain ⟨i, M, hi, rfl, hMl, hgo, hown, hb4r⟩ := hrel
  have hbr := hb04.trans (hb4r.mono z04)
  have zr := hbr.size
  have z4r := hb4r.size
  by_cases hiL : i + 1 < L
  ·obtain ⟨bb, o, cap', e, yb, _, _, hel⟩ := hX4.out w4 (Below.refl _ _) (by omega)
   simp at e
   obtain ⟨rfl, rfl⟩ := e
   obtain ⟨x, hx⟩ := get_at hL.out (show i < L by omega)
   obtain ⟨y, hy⟩ := get_at hL.out hiL
   have g0 := hel i x hx
   have g1 := hel (i + 1) y hy
   obtain ⟨hcr, hfr⟩ := bcell hb4r
   obtain ⟨x0, x1⟩ := id (hXin.out x (List.mem_of_getElem? hx))
   obtain ⟨y0', y1⟩ := id (hXin.out y (List.mem_of_getElem? hy))
   have KP := fun W (h : Below wr.heap.size wr W) => KP.out x W (hbr.trans (h.mono zr))
   have hgo := hgo.out
   rw [mix_step hx hy] at hgo
   have hii : (i : Int) < L := by omega
   have hii2 : (i : Int) + 1 < L := by omega
   have ybr : bb < wr.heap.size := by omega
   clear hel hx hy
   generalize keptB a b what x y0 = kb at KP hgo
   have kl : (endsS M).length ≤ 800000 := by rw [endsS_len]; have := hMl.out; omega
   cases kb
   ·rw [if_neg (by decide)] at hgo
    replace hgo := Lib.hid hgo
    replace hown := Lib.hid hown
    replace KP := Lib.hid KP
    go_wp2_with (first | (go_at_call 200; (with_reducible refine (KP.out _ (Below.refl _ _)).mono ?_); rintro e wk ⟨rfl, hbk⟩; obtain ⟨hck, hfk⟩ := bcell hbk; have zk := hbk.size) | go_in)
    go_roundw
    case rel => exact ⟨i + 1, M, by omega, by go_num, Lib.hid (by have := hMl.out; omega), hgo, hown.out.below hbk (Nat.le_refl _), hb4r.trans (hbk.mono z4r)⟩
    case measure => simp [intOf]; omega
   ·rw [if_pos rfl] at hgo
    obtain ⟨st0, cap0, rfl⟩ := own_slice hown
    obtain ⟨k, hk⟩ : ∃ k, (endsS M).length = k := ⟨_, rfl⟩
    rw [hk] at kl hown ⊢
    replace KP := Lib.hid KP
    rcases Nat.eq_zero_or_pos M.length with h0 | h0
    ·have hM : M = [] := List.length_eq_zero_iff.1 h0
     rw [show putS M x y = M ++ [(x, y)] by rw [hM]; rfl] at hgo
     obtain rfl : k = 0 := by rw [← hk, hM]; rfl
     clear hM h0
     replace hgo := Lib.hid hgo
     replace hown := Lib.hid hown
     replace hk := Lib.hid hk
     go_wp2_with (first | (go_at_call 200; (with_reducible refine (KP.out _ (Below.refl _ _)).mono ?_); rintro e wk ⟨rfl, hbk⟩; obtain ⟨hck, hfk⟩ := bcell hbk; have zk := hbk.size) | go_in)
     have ybk : bb < wk.heap.size := by omega
     refine wp_region_steady (Held wk 0 []) (by kernel_rfl) (by kernel_rfl) ⟨belt, (by (try simp) <;> omega), (by first | exact trivial | (simp only [Cells]; go_simp))⟩ ?_
     repeat (first | (refine' wpSteady_do _ _ _; rotate_left; (focus rfl); (focus (intro w1 hS R hR; have hc := hS.cells; simp only [Cells] at hc; obtain ⟨hco, hfo⟩ := bcell hS.old; go_simp; (try go_bits); first | exact hR _ hS | fail)); simp only [pu]) | (refine wpSteady_pass ?_ ?_; (focus rfl); simp only [pu]))
     refine wpSteady_nil (fun uB hSB => ?_)
     have hcB := hSB.cells; have hbB := hSB.old; have hzB := hSB.size; clear hSB; simp only [Cells] at hcB; obtain ⟨hcoB, hfoB⟩ := bcell hbB
     go_wp2
     have hownB := (hown.out.below hbk (Nat.le_refl _)).below hbB (Nat.le_refl _)
     unfold OwnsI at hownB
     rw [hk.out] at hownB
     have hb4B := (hb4r.trans (hbk.mono z4r)).trans (hbB.mono (by have := hbk.size; omega))
     have zB := hb4B.size
     refine held_begin (Held w4 0 []) (by kernel_rfl) ⟨Below.drew hb4B, by simp; omega, trivial⟩ (fun hS => ?_)
     replace hownB := Lib.hid hownB
     (refine' held_do (i := 0) _ (by kernel_rfl) (by kernel_rfl) (by kernel_rfl) _ _ hS _ _; rotate_left 2; (focus exact geti); (focus exact fun _ _ _ h => h); (focus rfl); (focus (intro w1 hSS R hR; have hc := hSS.2.2; (try simp only [Cells] at hc); obtain ⟨hco, hfo⟩ := bcell hSS.1; go_simp; (try go_bits); exact hR)); simp only [pu])
     (refine' held_do (i := 1) _ (by kernel_rfl) (by kernel_rfl) (by kernel_rfl) _ _ hS _ _; rotate_left 2; (focus exact geti); (focus exact fun _ _ _ h => h); (focus rfl); (focus (intro w1 hSS R hR; have hc := hSS.2.2; (try simp only [Cells] at hc); obtain ⟨hco, hfo⟩ := bcell hSS.1; go_simp; (try go_bits); exact hR)); simp only [pu])
     (refine' held_do (i := 2) _ (by kernel_rfl) (by kernel_rfl) (by kernel_rfl) _ _ hS _ _; rotate_left 2; (focus exact geti); (focus exact fun _ _ _ h => h); (focus rfl); (focus (intro w1 hSS R hR; have hc := hSS.2.2; (try simp only [Cells] at hc); obtain ⟨hco, hfo⟩ := bcell hSS.1; go_simp; (try go_bits); exact hR)); simp only [pu])
     (refine' held_do (i := 3) _ (by kernel_rfl) (by kernel_rfl) (by kernel_rfl) _ _ hS _ _; rotate_left 2; (focus exact geti); (focus exact fun _ _ _ h => h); (focus rfl); (focus (intro w1 hSS R hR; have hc := hSS.2.2; (try simp only [Cells] at hc); obtain ⟨hco, hfo⟩ := bcell hSS.1; go_simp; (try go_bits); exact hR)); simp only [pu])
     (refine' held_do (i := 4) _ (by kernel_rfl) (by kernel_rfl) (by kernel_rfl) _ _ hS _ _; rotate_left 2; (focus exact geti); (focus exact fun _ _ _ h => h); (focus rfl); (focus (intro w1 hSS R hR; have hc := hSS.2.2; (try simp only [Cells] at hc); obtain ⟨hco, hfo⟩ := bcell hSS.1; go_simp; (try go_bits); exact hR)); simp only [pu])
     (refine' held_do (i := 5) _ (by kernel_rfl) (by kernel_rfl) (by kernel_rfl) _ _ hS _ _; rotate_left 2; (focus exact geti); (focus exact fun _ _ _ h => h); (focus rfl); (focus (intro w1 hSS R hR; have hc := hSS.2.2; (try simp only [Cells] at hc); obtain ⟨hco, hfo⟩ := bcell hSS.1; go_simp; (try go_bits); exact hR)); simp only [pu])
     (refine' held_do (i := 6) _ (by kernel_rfl) (by kernel_rfl) (by kernel_rfl) _ _ hS _ _; rotate_left 2; (focus exact geti); (focus exact fun _ _ _ h => h); (focus rfl); (focus (intro w1 hSS R hR; have hc := hSS.2.2; (try simp only [Cells] at hc); obtain ⟨hco, hfo⟩ := bcell hSS.1; go_simp; (try go_bits); exact hR)); simp only [pu])
     (refine' held_do (i := 7) _ (by kernel_rfl) (by kernel_rfl) (by kernel_rfl) _ _ hS _ _; rotate_left 2; (focus exact geti); (focus exact fun _ _ _ h => h); (focus rfl); (focus (intro w1 hSS R hR; have hc := hSS.2.2; (try simp only [Cells] at hc); obtain ⟨hco, hfo⟩ := bcell hSS.1; go_simp; (try go_bits); exact hR)); simp only [pu])
     (refine' held_do (i := 8) _ (by kernel_rfl) (by kernel_rfl) (by kernel_rfl) _ _ hS _ _; rotate_left 2; (focus exact geti); (focus exact fun _ _ _ h => h); (focus rfl); (focus (intro w1 hSS R hR; have hc := hSS.2.2; (try simp only [Cells] at hc); obtain ⟨hco, hfo⟩ := bcell hSS.1; go_simp; (try go_bits); exact hR)); simp only [pu])
     (refine' held_do (i := 9) _ (by kernel_rfl) (by kernel_rfl) (by kernel_rfl) _ _ hS _ _; rotate_left 2; (focus exact geti); (focus exact fun _ _ _ h => h); (focus rfl); (focus (intro w1 hSS R hR; have hc := hSS.2.2; (try simp only [Cells] at hc); obtain ⟨hco, hfo⟩ := bcell hSS.1; go_simp; (try go_bits); exact hR)); simp only [pu])
     (refine' held_one (i := 10) _ (by kernel_rfl) _ _; rotate_left; (focus exact geti); (focus rfl); intro K hK; go_simp)
     have hS1 := hS.below ((Below.refl _ _).alloc (Nat.le_refl _) (.cells #[.int .i64 x, .int .i64 y] 3))
     refine hK _ _ hS1 ?_
     clear hK
     (try simp only [pu])
     (refine' held_one (i := 11) _ (by kernel_rfl) _ _; rotate_left; (focus exact geti); (focus rfl); intro K hK)
     refine wp_append_blk _ _ _ rfl w4.heap.size 3 iS _ 1 8 Tryz.underlying52 hi0 hm0 hm1 hm2 rfl (by omega) _ 2 _ _ _ _ _ _ (by rfl) (hownB.out.drew.alloc _) (Blk.new' rfl) (by rfl) (by rfl) (by simp [Value.oneCell']) (by omega) (by unfold maxLen; omega) (by simp; omega) ?_
     intro v6 w6 own6 gr6 at6 hb6
     have hS2 : Held w4 0 [] w6 := ⟨hS1.1.trans hb6, Nat.le_trans hS1.2.1 gr6.size, trivial⟩
     refine hK _ _ hS2 ?_
     clear hK
     (try simp only [pu])
     have hown6 := own6
     rw [flatI2 _ x y rfl] at hown6
     clear own6
     replace hown6 := Lib.hid hown6
     (refine' held_one (i := 12) _ (by kernel_rfl) _ _; rotate_left; (focus exact geti); (focus rfl); intro K hK; go_simp)
     refine hK _ _ hS2 ?_
     clear hK
     (try simp only [pu])
     refine wpAnyH_done (by kernel_rfl) ?_ _
     go_wp2
     go_roundw
     case rel =>
      refine ⟨i + 1, M ++ [(x, y)], by omega, by go_num, by rw [List.length_append]; have := hMl.out; simp <;> omega, hgo, ?_, hS2.1⟩
      rw [endsS_app]
      unfold OwnsI
      rw [List.length_append, hk.out]
      exact hown6.out
     case measure => simp [intOf]; omega
    ·obtain ⟨p, hp⟩ : ∃ p, M.length = p + 1 := ⟨M.length - 1, by omega⟩
     obtain ⟨t, ht⟩ := get_at (k := p) hp (by omega)
     have htl := endsS_last ht
     have hm : k = 2 * p + 1 + 1 := by rw [← hk, endsS_len, hp]; omega
     obtain ⟨m, hme⟩ : ∃ m, 2 * p + 1 = m := ⟨_, rfl⟩
     rw [hme] at hm htl
     subst hm
     have hown' := hown
     unfold OwnsI at hown'
     rw [hk] at hown'
     obtain ⟨g, rfl, hgB, hgl⟩ := own_addr hown' (by omega)
     have j0 := own_int hown htl
     have hfz := own_unfzI hown
     have hpi : (0 : Int) < (m : Int) + 1 := by omega
     have hpi2 : (m : Int) < (m : Int) + 1 := by omega
     clear hown' h0 htl
     replace hown := Lib.hid hown
     replace hme := Lib.hid hme
     by_cases htx : t.2 = x
     ·rw [putS_set hp ht htx] at hgo
      have hth := Lib.hid ht
      replace hgo := Lib.hid hgo
      have hkh := Lib.hid hk
      have hph := Lib.hid hp
      clear hk ht hp
      obtain ⟨t1, t2⟩ := t
      simp only at j0 htx
      subst htx
      go_wp2_with (first | (go_at_call 200; (with_reducible refine (KP.out _ (Below.refl _ _)).mono ?_); rintro e wk ⟨rfl, hbk⟩; obtain ⟨hck, hfk⟩ := bcell hbk; have zk := hbk.size) | go_in)
      have ybk : bb < wk.heap.size := by omega
      have ygk : g < wk.heap.size := by omega
      refine wp_region_steady (Held wk 0 []) (by kernel_rfl) (by kernel_rfl) ⟨belt, (by (try simp) <;> omega), (by first | exact trivial | (simp only [Cells]; go_simp))⟩ ?_
      repeat (first | (refine' wpSteady_do _ _ _; rotate_left; (focus rfl); (focus (intro w1 hS R hR; have hc := hS.cells; simp only [Cells] at hc; obtain ⟨hco, hfo⟩ := bcell hS.old; go_simp; (try go_bits); first | exact hR _ hS | fail)); simp only [pu]) | (refine wpSteady_pass ?_ ?_; (focus rfl); simp only [pu]))
      refine wpSteady_nil (fun uB hSB => ?_)
      have hcB := hSB.cells; have hbB := hSB.old; have hzB := hSB.size; clear hSB; simp only [Cells] at hcB; obtain ⟨hcoB, hfoB⟩ := bcell hbB
      have yB : bb < uB.heap.size := by omega
      have yBg : g < uB.heap.size := by omega
      have hfzB : ∀ o, uB.frozen? ⟨g, o, none⟩ = false := fun o => (hfoB g o ygk).trans ((hfk g o hgl).trans (hfz o))
      go_wp2
      go_roundw
      case rel =>
       refine ⟨i + 1, M.set p (t1, y), by omega, by go_num, Lib.hid (by rw [List.length_set]; have := hMl.out; omega), hgo, ?_, ?_⟩
       ·rw [endsS_set hth.out, hme.out]
        exact own_putI ((hown.out.below hbk (Nat.le_refl _)).below hbB (Nat.le_refl _)) hkh.out (by omega) y
       ·exact ((hb4r.trans (hbk.mono z4r)).trans (hbB.mono (by omega))).setCell (by simp; omega) _
      case measure => simp [intOf]; omega
     ·rw [putS_app hp ht htx] at hgo
      replace hgo := Lib.hid hgo
      obtain ⟨t1, t2⟩ := t
      simp only at j0 htx
      have htx' : (t2 == x) = false := by simp [htx]
      have htx2 : decide (t2 = x) = false := by simp [htx]
      clear ht
      replace hp := Lib.hid hp
      replace hk := Lib.hid hk
      go_wp2_with (first | (go_at_call 200; (with_reducible refine (KP.out _ (Below.refl _ _)).mono ?_); rintro e wk ⟨rfl, hbk⟩; obtain ⟨hck, hfk⟩ := bcell hbk; have zk := hbk.size) | go_in)
      have ybk : bb < wk.heap.size := by omega
      have ygk : g < wk.heap.size := by omega
      refine wp_region_steady (Held wk 0 []) (by kernel_rfl) (by kernel_rfl) ⟨belt, (by (try simp) <;> omega), (by first | exact trivial | (simp only [Cells]; go_simp))⟩ ?_
      repeat (first | (refine' wpSteady_do _ _ _; rotate_left; (focus rfl); (focus (intro w1 hS R hR; have hc := hS.cells; simp only [Cells] at hc; obtain ⟨hco, hfo⟩ := bcell hS.old; go_simp; (try go_bits); first | exact hR _ hS | fail)); simp only [pu]) | (refine wpSteady_pass ?_ ?_; (focus rfl); simp only [pu]))
      refine wpSteady_nil (fun uB hSB => ?_)
      have hcB := hSB.cells; have hbB := hSB.old; have hzB := hSB.size; clear hSB; simp only [Cells] at hcB; obtain ⟨hcoB, hfoB⟩ := bcell hbB
      go_wp2
      have hownB := (hown.out.below hbk (Nat.le_refl _)).below hbB (Nat.le_refl _)
      unfold OwnsI at hownB
      rw [hk.out] at hownB
      have hb4B := (hb4r.trans (hbk.mono z4r)).trans (hbB.mono (by have := hbk.size; omega))
      have zB := hb4B.size
      refine held_begin (Held w4 0 []) (by kernel_rfl) ⟨Below.drew hb4B, by simp; omega, trivial⟩ (fun hS => ?_)
      replace hownB := Lib.hid hownB
      (refine' held_do (i := 0) _ (by kernel_rfl) (by kernel_rfl) (by kernel_rfl) _ _ hS _ _; rotate_left 2; (focus exact geti); (focus exact fun _ _ _ h => h); (focus rfl); (focus (intro w1 hSS R hR; have hc := hSS.2.2; (try simp only [Cells] at hc); obtain ⟨hco, hfo⟩ := bcell hSS.1; go_simp; (try go_bits); exact hR)); simp only [pu])
      (refine' held_do (i := 1) _ (by kernel_rfl) (by kernel_rfl) (by kernel_rfl) _ _ hS _ _; rotate_left 2; (focus exact geti); (focus exact fun _ _ _ h => h); (focus rfl); (focus (intro w1 hSS R hR; have hc := hSS.2.2; (try simp only [Cells] at hc); obtain ⟨hco, hfo⟩ := bcell hSS.1; go_simp; (try go_bits); exact hR)); simp only [pu])
      (refine' held_do (i := 2) _ (by kernel_rfl) (by kernel_rfl) (by kernel_rfl) _ _ hS _ _; rotate_left 2; (focus exact geti); (focus exact fun _ _ _ h => h); (focus rfl); (focus (intro w1 hSS R hR; have hc := hSS.2.2; (try simp only [Cells] at hc); obtain ⟨hco, hfo⟩ := bcell hSS.1; go_simp; (try go_bits); exact hR)); simp only [pu])
      (refine' held_do (i := 3) _ (by kernel_rfl) (by kernel_rfl) (by kernel_rfl) _ _ hS _ _; rotate_left 2; (focus exact geti); (focus exact fun _ _ _ h => h); (focus rfl); (focus (intro w1 hSS R hR; have hc := hSS.2.2; (try simp only [Cells] at hc); obtain ⟨hco, hfo⟩ := bcell hSS.1; go_simp; (try go_bits); exact hR)); simp only [pu])
      (refine' held_do (i := 4) _ (by kernel_rfl) (by kernel_rfl) (by kernel_rfl) _ _ hS _ _; rotate_left 2; (focus exact geti); (focus exact fun _ _ _ h => h); (focus rfl); (focus (intro w1 hSS R hR; have hc := hSS.2.2; (try simp only [Cells] at hc); obtain ⟨hco, hfo⟩ := bcell hSS.1; go_simp; (try go_bits); exact hR)); simp only [pu])
      (refine' held_do (i := 5) _ (by kernel_rfl) (by kernel_rfl) (by kernel_rfl) _ _ hS _ _; rotate_left 2; (focus exact geti); (focus exact fun _ _ _ h => h); (focus rfl); (focus (intro w1 hSS R hR; have hc := hSS.2.2; (try simp only [Cells] at hc); obtain ⟨hco, hfo⟩ := bcell hSS.1; go_simp; (try go_bits); exact hR)); simp only [pu])
      (refine' held_do (i := 6) _ (by kernel_rfl) (by kernel_rfl) (by kernel_rfl) _ _ hS _ _; rotate_left 2; (focus exact geti); (focus exact fun _ _ _ h => h); (focus rfl); (focus (intro w1 hSS R hR; have hc := hSS.2.2; (try simp only [Cells] at hc); obtain ⟨hco, hfo⟩ := bcell hSS.1; go_simp; (try go_bits); exact hR)); simp only [pu])
      (refine' held_do (i := 7) _ (by kernel_rfl) (by kernel_rfl) (by kernel_rfl) _ _ hS _ _; rotate_left 2; (focus exact geti); (focus exact fun _ _ _ h => h); (focus rfl); (focus (intro w1 hSS R hR; have hc := hSS.2.2; (try simp only [Cells] at hc); obtain ⟨hco, hfo⟩ := bcell hSS.1; go_simp; (try go_bits); exact hR)); simp only [pu])
      (refine' held_do (i := 8) _ (by kernel_rfl) (by kernel_rfl) (by kernel_rfl) _ _ hS _ _; rotate_left 2; (focus exact geti); (focus exact fun _ _ _ h => h); (focus rfl); (focus (intro w1 hSS R hR; have hc := hSS.2.2; (try simp only [Cells] at hc); obtain ⟨hco, hfo⟩ := bcell hSS.1; go_simp; (try go_bits); exact hR)); simp only [pu])
      (refine' held_do (i := 9) _ (by kernel_rfl) (by kernel_rfl) (by kernel_rfl) _ _ hS _ _; rotate_left 2; (focus exact geti); (focus exact fun _ _ _ h => h); (focus rfl); (focus (intro w1 hSS R hR; have hc := hSS.2.2; (try simp only [Cells] at hc); obtain ⟨hco, hfo⟩ := bcell hSS.1; go_simp; (try go_bits); exact hR)); simp only [pu])
      (refine' held_one (i := 10) _ (by kernel_rfl) _ _; rotate_left; (focus exact geti); (focus rfl); intro K hK; go_simp)
      have hS1 := hS.below ((Below.refl _ _).alloc (Nat.le_refl _) (.cells #[.int .i64 x, .int .i64 y] 3))
      refine hK _ _ hS1 ?_
      clear hK
      (try simp only [pu])
      (refine' held_one (i := 11) _ (by kernel_rfl) _ _; rotate_left; (focus exact geti); (focus rfl); intro K hK)
      refine wp_append_blk _ _ _ rfl w4.heap.size 3 iS _ 1 8 Tryz.underlying52 hi0 hm0 hm1 hm2 rfl (by omega) _ 2 _ _ _ _ _ _ (by rfl) (hownB.out.drew.alloc _) (Blk.new' rfl) (by rfl) (by rfl) (by simp [Value.oneCell']) (by omega) (by unfold maxLen; omega) (by simp; omega) ?_
      intro v6 w6 own6 gr6 at6 hb6
      have hS2 : Held w4 0 [] w6 := ⟨hS1.1.trans hb6, Nat.le_trans hS1.2.1 gr6.size, trivial⟩
      refine hK _ _ hS2 ?_
      clear hK
      (try simp only [pu])
      have hown6 := own6
      rw [flatI2 _ x y rfl] at hown6
      clear own6
      replace hown6 := Lib.hid hown6
      (refine' held_one (i := 12) _ (by kernel_rfl) _ _; rotate_left; (focus exact geti); (focus rfl); intro K hK; go_simp)
      refine hK _ _ hS2 ?_
      clear hK
      (try simp only [pu])
      refine wpAnyH_done (by kernel_rfl) ?_ _
      go_wp2
      go_roundw
      case rel =>
       refine ⟨i + 1, M ++ [(x, y)], by omega, by go_num, by rw [List.length_append]; have := hMl.out; simp <;> omega, hgo, ?_, hS2.1⟩
       rw [endsS_app]
       unfold OwnsI
       rw [List.length_append, hk.out]
       exact hown6.out
      case measure => simp [intOf]; omega
  ·have hgo := hgo.out
   rw [mix_end (by have := hL.out; omega)] at hgo
   subst hgo
   obtain ⟨st0, cap0, rfl⟩ := own_slice hown
   replace hown := Lib.hid hown
   have hii2 : ¬ (i : Int) + 1 < L := by omega
   go_wp2
   go_ret
   exact ⟨hbr, _, rfl, own_lessI hown.out z04⟩
end
end Go.Proofs.YtfcphagmjijmkaaGreatDoor

namespace Go.Proofs.YtfcphagmjijmkaaGreatDoor
open Go.RowKit
set_option linter.unusedVariables false
attribute [local go_sem] vwp vUpon_value vUpon_skip vUpon_enter vUpon_row
set_option linter.unusedSimpArgs false
set_option linter.unusedVariables false
section
set_option linter.unusedSimpArgs false
set_option linter.unusedVariables false
def HtB (out : List Re) (c : Int) : Prop := ∀ q ∈ out, 0 ≤ q.ht ∧ q.ht ≤ c + 16384
theorem endsS_inj : ∀ {l m : List Sp}, endsS l = endsS m → l = m
  | [], [], _ => rfl
  | [], t :: m, h => by simp [endsS] at h
  | s :: l, [], h => by simp [endsS] at h
  | s :: l, t :: m, h => by
    rw [show endsS (s :: l) = s.1 :: s.2 :: endsS l from rfl, show endsS (t :: m) = t.1 :: t.2 :: endsS m from rfl] at h
    injection h with h1 h
    injection h with h2 h
    rw [endsS_inj h, Prod.ext h1 h2]
theorem alike_ends (l m : List Sp) : eqIs (endsS l) (endsS m) = decide (l = m) := by
  rw [Bool.eq_iff_iff, eqIs_iff, decide_eq_true_eq]
  exact ⟨endsS_inj, fun h => by rw [h]⟩
theorem growL_zero (out : List Re) (d : Int) : growL out 0 d = out := by unfold growL; simp
theorem growL_at {out : List Re} {k m : Nat} {d : Int} (hn : out.length = k + m + 1) : (growL out k d)[m]? = out[m]? := by
  unfold growL
  rw [List.getElem?_append_left (by rw [List.length_take]; omega), List.getElem?_take_of_lt (by omega)]
theorem growL_step {out : List Re} {k m : Nat} {d : Int} {q : Re} (hn : out.length = k + m + 1) (hq : out[m]? = some q) : growL out (k + 1) d = (growL out k d).set m ⟨q.x, q.y, q.wd, q.ht + d⟩ := by
  unfold growL
  rw [show out.length - (k + 1) = m by omega, show out.length - k = m + 1 by omega, List.set_append_left _ _ (by rw [List.length_take]; omega)]
  rw [drop_get hq, List.map_cons]
  have : out.take (m + 1) = out.take m ++ [q] := by rw [List.take_add_one, hq]; rfl
  rw [this, List.set_append_right _ _ (by rw [List.length_take]; omega)]
  have : m - (out.take m).length = 0 := by rw [List.length_take]; omega
  rw [this]
  simp
theorem growL_bd {out : List Re} {k : Nat} {y z : Int} (h : HtB out y) (hyz : y ≤ z) : HtB (growL out k (z - y)) z := by
  intro q hq
  unfold growL at hq
  rcases List.mem_append.1 hq with hq | hq
  · have := h q (List.mem_of_mem_take hq)
    omega
  · obtain ⟨p, hp, rfl⟩ := List.mem_map.1 hq
    have := h p (List.mem_of_mem_drop hp)
    simp only
    omega
theorem rects_bd {out : List Re} {l : List Sp} {y z : Int} (h : HtB out y) (hyz : y ≤ z) (hy : InM y) : HtB (out ++ rectsOf y (z - y) l) z := by
  intro q hq
  rcases List.mem_append.1 hq with hq | hq
  · have := h q hq
    omega
  · obtain ⟨p, hp, rfl⟩ := List.mem_map.1 hq
    unfold InM at hy
    simp only
    omega
theorem ref_step {now : Int → List Sp} {out : List Re} {last : List Sp} {X : List Int} {i : Nat} {y z : Int} (h1 : X[i]? = some y) (h2 : X[i + 1]? = some z) :
    refGo now out last (X.drop i) = if now y = last then refGo now (growL out last.length (z - y)) last (X.drop (i + 1)) else refGo now (out ++ rectsOf y (z - y) (now y)) (now y) (X.drop (i + 1)) := by
  rw [drop_get h1, drop_get h2]
  rfl
theorem ref_end {now : Int → List Sp} {out : List Re} {last : List Sp} {X : List Int} {i : Nat} (h : X.length ≤ i + 1) : refGo now out last (X.drop i) = out := by
  have : (X.drop i).length ≤ 1 := by rw [List.length_drop]; omega
  match hX : X.drop i, this with
  | [], _ => rfl
  | [_], _ => rfl
theorem rise_le {X : List Int} (h : Rise X) {i : Nat} {y z : Int} (h1 : X[i]? = some y) (h2 : X[i + 1]? = some z) : y ≤ z := by
  have hd := drop_get h1
  rw [drop_get h2] at hd
  have : ∀ (l : List Int) (k : Nat), Rise l → Rise (l.drop k) := by
    intro l k
    induction k generalizing l with
    | zero => intro h; simpa using h
    | succ k ih =>
      intro h
      cases l with
      | nil => simpa using h
      | cons a r => exact ih r h.tail
  have hr := this X i h
  rw [hd] at hr
  exact Int.le_of_lt (hr.above z (by simp))
theorem endsS_fst : ∀ {M : List Sp} {p : Nat} {t : Sp}, M[p]? = some t → (endsS M)[2 * p]? = some t.1
  | [], p, t, h => by simp at h
  | s :: M, 0, t, h => by simp at h; subst h; rfl
  | s :: M, p + 1, t, h => by
    have := endsS_fst (M := M) (p := p) (t := t) (by simpa using h)
    rw [show endsS (s :: M) = s.1 :: s.2 :: endsS M from rfl, show 2 * (p + 1) = (2 * p) + 1 + 1 by omega, List.getElem?_cons_succ, List.getElem?_cons_succ]
    exact this
theorem grown_stay {w w1 w2 : World} {r : Option Nat} (h : w.grownBy w1 r) (hb : Below w1.heap.size w1 w2) : w.grownBy w2 r :=
  ⟨hb.os.trans h.os, hb.tape.trans h.tape, hb.output.trans h.output, Nat.le_trans h.size hb.size, fun k hk hne => (hb.block k (Nat.lt_of_lt_of_le hk h.size)).trans (h.block k hk hne)⟩
theorem edgesY_len (a b : List Re) : (edgesY a b).length ≤ a.length * 2 + b.length * 2 := by
  unfold edgesY
  have h1 := edgF_fold true 0 a []
  have h2 := edgF_fold true 0 b (a.foldl edgY [])
  rw [edgF_true] at h1 h2
  simp at h1
  omega
set_option maxHeartbeats 8000000 in
set_option maxRecDepth 100000 in
theorem kmade_any (a b : List Re) (va vb : Value) (what : Int) (w : World) (ha : Row w.heap.size 4 Re.enc w va a) (hb : Row w.heap.size 4 Re.enc w vb b) (ma : MayL a) (mb : MayL b) (la : a.length ≤ 100000) (lb : b.length ≤ 100000) (hw : what = 1 ∨ what = 2 ∨ what = 3) :
  Calls Tryz.prog 123 #[va, vb, .int .i64 what] w (MadePost (madeE a b what) (madeL a b what) w) := by
 obtain ⟨iR, hi0, hm0, hm1, hm2⟩ := info_parts infoRe
 have E1 := kedges_any [] a (.slice none 0 0) va true 0 w.heap.size w (OwnsI.nil _ _) ha ma (Nat.le_refl _) (by simp) la
 have E2 := fun w1 v1 (h : OwnsI w.heap.size w1 v1 (a.foldl (edgF true 0) [])) (h2 : Below w.heap.size w w1) => kedges_any (a.foldl (edgF true 0) []) b v1 vb true 0 w.heap.size w1 h (hb.below h2) mb h2.size (by have := edgF_fold true 0 a []; simp at this; omega) lb
 obtain ⟨X1, hX1⟩ : ∃ X, a.foldl (edgF true 0) [] = X := ⟨_, rfl⟩
 obtain ⟨X, hX⟩ : ∃ X, edgesY a b = X := ⟨_, rfl⟩
 have hXe : b.foldl (edgF true 0) X1 = X := by rw [← hX, ← hX1, edgF_true]; rfl
 have hXl : X.length ≤ 400000 := by rw [← hX]; have := edgesY_len a b; omega
 have hXr : Rise X := by rw [← hX]; exact edgesY_rise a b
 have hXin : ∀ x ∈ X, InM x := fun x hx => by rw [← hX] at hx; exact edgesY_in ma mb x hx
 rw [hX1] at E1 E2
 rw [hXe] at E2
 obtain ⟨now, hnow⟩ : ∃ now, (fun y => spansP a b what y) = now := ⟨_, rfl⟩
 have hnl : ∀ y, (now y).length ≤ 200000 := fun y => by rw [← hnow]; have := spans_len2 ma.sane mb.sane what y; simp only; omega
 have hnin : ∀ y, ∀ s ∈ now y, InM s.1 ∧ InM s.2 := fun y => by rw [← hnow]; exact spans_in ma mb what y
 obtain ⟨R, hR⟩ : ∃ R, formR a b what = R := ⟨_, rfl⟩
 have hgo : refGo now [] [] (X.drop 0) = R := by rw [List.drop_zero, refGo_form, ← hnow, ← hX]; exact hR
 have SP := fun y W (h : Below w.heap.size w W) => kspans_any a b va vb what y W ((ha.below h).mono h.size) ((hb.below h).mono h.size) ma mb la lb hw
 have SP' : ∀ y W, Below w.heap.size w W → Calls Tryz.prog 172 #[va, vb, .int .i64 what, .int .i64 y] W (SpansPost (now y) W) := by rw [← hnow]; exact SP
 obtain ⟨E, hE⟩ : ∃ E, madeE a b what = E := ⟨_, rfl⟩
 obtain ⟨ML, hML⟩ : ∃ ML, madeL a b what = ML := ⟨_, rfl⟩
 have out4 : 1024 < R.length → E = 4 ∧ ML = [] := fun h => by rw [← hE, ← hML]; unfold madeE madeL; rw [hR, if_pos h, if_pos h]; exact ⟨rfl, rfl⟩
 have out0 : R.length ≤ 1024 → E = 0 ∧ ML = R := fun h => by rw [← hE, ← hML]; unfold madeE madeL; rw [hR, if_neg (by omega), if_neg (by omega)]; exact ⟨rfl, rfl⟩
 rw [hE, hML]
 obtain ⟨s1, c1, rfl, hmax1⟩ := ha.shape
 obtain ⟨s2, c2, rfl, hmax2⟩ := hb.shape
 unfold MadePost
 replace E1 := Lib.hid E1
 replace E2 := Lib.hid E2
 replace SP := Lib.hid SP'
 replace hgo := Lib.hid hgo
 replace hXin := Lib.hid hXin
 replace hXr := Lib.hid hXr
 replace hnl := Lib.hid hnl
 replace hnin := Lib.hid hnin
 replace out4 := Lib.hid out4
 replace out0 := Lib.hid out0
 clear ha hb hX1 hX hXe hR hw hE hML hnow SP'
 go_enter Tryz.func123, Tryz.ntmps123
 go_wp2_with (first
  | (go_at_call 171; (with_reducible refine (E1.out).mono ?_); rintro e w1 ⟨gr1, v1, rfl, ow1, _⟩; have hb1 : Below w.heap.size w w1 := grown_below gr1 (Nat.le_refl _) (fun g h => by cases h); replace ow1 := Lib.hid ow1)
  | (go_at_call 171; (with_reducible refine (E2.out _ _ ow1.out hb1).mono ?_); rintro e w4 ⟨gr4, v4, rfl, ow4, _⟩; have hb04 : Below w.heap.size w w4 := hb1.trans (grown_below gr4 hb1.size (fun g h => (own_block_lt ow1.out g h).1)))
  | go_in)
 clear hb1 gr1 gr4 ow1 E1 E2
 obtain ⟨s4, c4, rfl⟩ := own_slice ow4
 have hX4 := fun h0 => row_in (ow4.row (Nat.le_refl _)) h0
 have z04 := hb04.size
 obtain ⟨N, hN⟩ : ∃ N, X.length = N := ⟨_, rfl⟩
 rw [hN] at hX4 hXl ⊢
 replace hX4 := Lib.hid hX4
 replace hN := Lib.hid hN
 clear ow4
 go_loopw [9, 10, 11] (fun ov lv iv wr => ∃ (i : Nat) (out : List Re) (last : List Sp), i ≤ N ∧ iv = .int .i64 i ∧ OwnsR w4.heap.size wr ov out ∧ OwnsI w4.heap.size wr lv (endsS last) ∧ Apart ov lv ∧ Hid (refGo now out last (X.drop i) = R) ∧ Hid (out.length ≤ 1024 ∧ last.length ≤ out.length ∧ ∀ c, X[i]? = some c → HtB out c) ∧ Below w4.heap.size w4 wr) (fun _ _ iv _ => N - (intOf iv).toNat)
 case atStart => exact ⟨0, [], [], Nat.zero_le _, rfl, OwnsR.nil _ _, OwnsI.nil _ _, Apart.none _ _ _, hgo, Lib.hid ⟨by simp, by simp, fun c _ q hq => by simp at hq⟩, Below.refl _ _⟩
 case round =>
  obtain ⟨wo, rfl⟩ : ∃ wo : World, wo = wr := ⟨_, rfl⟩
  obtain ⟨i, out, last, hi, rfl, hown, hlast, hap, hgo, hbd, hb4r⟩ := hrel
  have hbr := hb04.trans (hb4r.mono z04)
  have zr := hbr.size
  have z4r := hb4r.size
  obtain ⟨so, co, rfl⟩ := own_slice hown
  obtain ⟨sl, cl, rfl⟩ := own_slice hlast
  by_cases hiN : i + 1 < N
  ·obtain ⟨bb, o, cap', e, yb, _, _, hel⟩ := hX4.out (by omega)
   simp at e
   obtain ⟨rfl, rfl⟩ := e
   obtain ⟨y, hy⟩ := get_at hN.out (show i < N by omega)
   obtain ⟨z, hz⟩ := get_at hN.out hiN
   have g0 := hel i y hy
   have g1 := hel (i + 1) z hz
   obtain ⟨hcr, hfr⟩ := bcell hb4r
   have iny := hXin.out y (List.mem_of_getElem? hy)
   obtain ⟨y0, y1⟩ := id iny
   obtain ⟨z0, z1⟩ := id (hXin.out z (List.mem_of_getElem? hz))
   have hyz := rise_le hXr.out hy hz
   have hgo := hgo.out
   rw [ref_step hy hz] at hgo
   obtain ⟨b1, b2, b3⟩ := hbd.out
   have b3 := b3 y hy
   have hznext : ∀ c, X[i + 1]? = some c → c = z := fun c h => Option.some.inj (h.symm.trans hz)
   have SP := SP.out y wo hbr
   have hnl := hnl.out y
   have hnin := hnin.out y
   obtain ⟨nw, hnw⟩ : ∃ nw, now y = nw := ⟨_, rfl⟩
   rw [hnw] at SP hgo hnl hnin
   have AK : ∀ w5 v5, Below wo.heap.size wo w5 → OwnsI wo.heap.size w5 v5 (endsS nw) → Calls Tryz.prog 173 #[v5, .slice sl (endsS last).length cl] w5 fun e w' => e = .returned (.bool (decide (nw = last))) ∧ Below w5.heap.size w5 w' := fun w5 v5 h1 h2 => by
    have := alike_any (endsS nw) (endsS last) v5 _ w5 (h2.row (Nat.le_refl _)) ((OwnsI.below hlast h1 (Nat.le_refl _)).row (Nat.le_refl _)) (by rw [endsS_len]; omega) (by rw [endsS_len]; omega)
    rw [alike_ends] at this
    exact this
   have hii : (i : Int) < N := by omega
   have hii2 : (i : Int) + 1 < N := by omega
   have ybr : bb < wo.heap.size := by omega
   clear hel hy hz hnw hbd
   replace SP := Lib.hid SP
   obtain ⟨NL, hNL⟩ : ∃ NL, (endsS nw).length = NL := ⟨_, rfl⟩
   obtain ⟨J, hJ⟩ : ∃ J, nw.length = J := ⟨_, rfl⟩
   have hNJ : NL = 2 * J := by rw [← hNL, endsS_len, hJ]; omega
   obtain ⟨n, hn⟩ : ∃ n, out.length = n := ⟨_, rfl⟩
   rw [hn] at b1 b2
   rw [hn] at hown hap ⊢
   have hq : (NL : Int) / 2 = J := by omega
   have hNLb : NL ≤ 400000 := by omega
   obtain ⟨t, ht⟩ : ∃ t, decide (nw = last) = t := ⟨_, rfl⟩
   simp only [ht] at AK
   replace AK := Lib.hid AK
   replace hlast := Lib.hid hlast
   replace hown := Lib.hid hown
   replace hap := Lib.hid hap
   replace hznext := Lib.hid hznext
   replace hn := Lib.hid hn
   replace b3 := Lib.hid b3
   replace hnin := Lib.hid hnin
   replace hJ := Lib.hid hJ
   cases t
   ·have hne : ¬ nw = last := of_decide_eq_false ht
    rw [if_neg hne] at hgo
    replace hgo := Lib.hid hgo
    clear hne ht
    replace hq := Lib.hid hq
    replace hNJ := Lib.hid hNJ
    go_wp2_with (first | (go_at_call 172; (with_reducible refine (SP.out).mono ?_); rintro e w5 ⟨hb5, v5, rfl, ow5⟩; obtain ⟨s5, c5, rfl⟩ := own_slice ow5; rw [hNL] at ow5; rw [hNL]; have ow5 := Lib.hid ow5; obtain ⟨hc5, hf5⟩ := bcell hb5) | (go_at_call 173; (with_reducible refine (AK.out _ _ hb5 ow5.out).mono ?_); rintro e w6 ⟨rfl, hb6⟩; have hb56 := hb5.trans (hb6.mono hb5.size); have ow6 := Lib.hid (OwnsI.below ow5.out hb6 (Nat.le_refl _))) | go_in)
    replace AK := ow5
    clear AK ow5
    have hb46 := hb4r.trans (hb56.mono z4r)
    have z6 := hb46.size
    have hap0 : Apart (.slice so n co) (.slice s5 NL c5) := fun g h1 h2 => by
     have h3 := (own_in hown.out g h1).2
     have h4 := (own_in ow6.out g h2).1
     omega
    have hown6 := Lib.hid (OwnsR.below hown.out hb56 (Nat.le_refl _))
    replace hap0 := Lib.hid hap0
    go_loopw [9, 15] (fun ov kv wr => ∃ (j m : Nat), j ≤ J ∧ Hid (m = 2 * j) ∧ kv = .int .i64 m ∧ OwnsR w4.heap.size wr ov (out ++ rectsOf y (z - y) (nw.take j)) ∧ OwnsI wo.heap.size wr (.slice s5 NL c5) (endsS nw) ∧ Apart ov (.slice s5 NL c5) ∧ Below w4.heap.size w4 wr) (fun _ kv _ => NL - (intOf kv).toNat)
    case atStart => exact ⟨0, 0, Nat.zero_le _, Lib.hid rfl, rfl, by simpa [rectsOf] using hown6.out, ow6.out, hap0.out, hb46⟩
    case round =>
     clear hown6 hap0
     obtain ⟨j, m, hj, hm, rfl, hownq, hnow, hapq, hb4q⟩ := hrel
     have z4q := hb4q.size
     obtain ⟨sq, cq, rfl⟩ := own_slice hownq
     obtain ⟨kk, hkk⟩ : ∃ kk, (out ++ rectsOf y (z - y) (nw.take j)).length = kk := ⟨_, rfl⟩
     have hkb : kk ≤ 300000 := by rw [← hkk, List.length_append, rectsOf_len, List.length_take, hn.out]; omega
     rw [hkk] at hownq hapq ⊢
     obtain ⟨hcq, hfq⟩ := bcell hb4q
     by_cases hjJ : j < J
     ·obtain ⟨s, hs⟩ := get_at hJ.out hjJ
      have e1 := endsS_fst hs
      have e2 := endsS_last hs
      rw [← hm.out] at e1 e2
      have hnow' := hnow
      unfold OwnsI at hnow'
      rw [hNL] at hnow'
      obtain ⟨gn, rfl, hg1, hg2⟩ := own_addr hnow' (by have := hNJ.out; omega)
      have n0 := own_int hnow e1
      have n1 := own_int hnow e2
      have f0 := own_unfzI hnow m
      have f1 := own_unfzI hnow (m + 1)
      obtain ⟨⟨p0, p1⟩, ⟨p2, p3⟩⟩ := id (hnin.out s (List.mem_of_getElem? hs))
      have hsnoc := rectsOf_snoc y (z - y) hs
      obtain ⟨sa, sb⟩ := s
      simp only at n0 n1 p0 p1 p2 p3 hsnoc
      have hmN : (m : Int) < NL := by have := hNJ.out; have := hm.out; omega
      have hmN2 : (m : Int) + 1 < NL := by have := hNJ.out; have := hm.out; omega
      have ybq : bb < wr.heap.size := by omega
      clear hnow' e1 e2 hs
      replace hownq := Lib.hid hownq
      replace hnow := Lib.hid hnow
      replace hapq := Lib.hid hapq
      replace hsnoc := Lib.hid hsnoc
      replace hkk := Lib.hid hkk
      go_wp2
      refine held_begin (Held w4 0 [(⟨gn, m, none⟩, .int .i64 sa), (⟨gn, m + 1, none⟩, .int .i64 sb)]) (by kernel_rfl) ⟨Below.drew hb4q, by simp; omega, by simp only [Cells]; go_simp⟩ (fun hS => ?_)
      (refine' held_do (i := 0) _ (by kernel_rfl) (by kernel_rfl) (by kernel_rfl) _ _ hS _ _; rotate_left 2; (focus exact geti); (focus exact fun _ _ _ h => h); (focus rfl); (focus (intro w1 hSS R hR; have hc := hSS.2.2; (try simp only [Cells] at hc); obtain ⟨hco, hfo⟩ := bcell hSS.1; go_simp; (try go_bits); exact hR)); simp only [pu])
      (refine' held_do (i := 1) _ (by kernel_rfl) (by kernel_rfl) (by kernel_rfl) _ _ hS _ _; rotate_left 2; (focus exact geti); (focus exact fun _ _ _ h => h); (focus rfl); (focus (intro w1 hSS R hR; have hc := hSS.2.2; (try simp only [Cells] at hc); obtain ⟨hco, hfo⟩ := bcell hSS.1; go_simp; (try go_bits); exact hR)); simp only [pu])
      (refine' held_do (i := 2) _ (by kernel_rfl) (by kernel_rfl) (by kernel_rfl) _ _ hS _ _; rotate_left 2; (focus exact geti); (focus exact fun _ _ _ h => h); (focus rfl); (focus (intro w1 hSS R hR; have hc := hSS.2.2; (try simp only [Cells] at hc); obtain ⟨hco, hfo⟩ := bcell hSS.1; go_simp; (try go_bits); exact hR)); simp only [pu])
      (refine' held_do (i := 3) _ (by kernel_rfl) (by kernel_rfl) (by kernel_rfl) _ _ hS _ _; rotate_left 2; (focus exact geti); (focus exact fun _ _ _ h => h); (focus rfl); (focus (intro w1 hSS R hR; have hc := hSS.2.2; (try simp only [Cells] at hc); obtain ⟨hco, hfo⟩ := bcell hSS.1; go_simp; (try go_bits); exact hR)); simp only [pu])
      (refine' held_do (i := 4) _ (by kernel_rfl) (by kernel_rfl) (by kernel_rfl) _ _ hS _ _; rotate_left 2; (focus exact geti); (focus exact fun _ _ _ h => h); (focus rfl); (focus (intro w1 hSS R hR; have hc := hSS.2.2; (try simp only [Cells] at hc); obtain ⟨hco, hfo⟩ := bcell hSS.1; go_simp; (try go_bits); exact hR)); simp only [pu])
      (refine' held_do (i := 5) _ (by kernel_rfl) (by kernel_rfl) (by kernel_rfl) _ _ hS _ _; rotate_left 2; (focus exact geti); (focus exact fun _ _ _ h => h); (focus rfl); (focus (intro w1 hSS R hR; have hc := hSS.2.2; (try simp only [Cells] at hc); obtain ⟨hco, hfo⟩ := bcell hSS.1; go_simp; (try go_bits); exact hR)); simp only [pu])
      (refine' held_do (i := 6) _ (by kernel_rfl) (by kernel_rfl) (by kernel_rfl) _ _ hS _ _; rotate_left 2; (focus exact geti); (focus exact fun _ _ _ h => h); (focus rfl); (focus (intro w1 hSS R hR; have hc := hSS.2.2; (try simp only [Cells] at hc); obtain ⟨hco, hfo⟩ := bcell hSS.1; go_simp; (try go_bits); exact hR)); simp only [pu])
      (refine' held_do (i := 7) _ (by kernel_rfl) (by kernel_rfl) (by kernel_rfl) _ _ hS _ _; rotate_left 2; (focus exact geti); (focus exact fun _ _ _ h => h); (focus rfl); (focus (intro w1 hSS R hR; have hc := hSS.2.2; (try simp only [Cells] at hc); obtain ⟨hco, hfo⟩ := bcell hSS.1; go_simp; (try go_bits); exact hR)); simp only [pu])
      (refine' held_do (i := 8) _ (by kernel_rfl) (by kernel_rfl) (by kernel_rfl) _ _ hS _ _; rotate_left 2; (focus exact geti); (focus exact fun _ _ _ h => h); (focus rfl); (focus (intro w1 hSS R hR; have hc := hSS.2.2; (try simp only [Cells] at hc); obtain ⟨hco, hfo⟩ := bcell hSS.1; go_simp; (try go_bits); exact hR)); simp only [pu])
      (refine' held_do (i := 9) _ (by kernel_rfl) (by kernel_rfl) (by kernel_rfl) _ _ hS _ _; rotate_left 2; (focus exact geti); (focus exact fun _ _ _ h => h); (focus rfl); (focus (intro w1 hSS R hR; have hc := hSS.2.2; (try simp only [Cells] at hc); obtain ⟨hco, hfo⟩ := bcell hSS.1; go_simp; (try go_bits); exact hR)); simp only [pu])
      (refine' held_do (i := 10) _ (by kernel_rfl) (by kernel_rfl) (by kernel_rfl) _ _ hS _ _; rotate_left 2; (focus exact geti); (focus exact fun _ _ _ h => h); (focus rfl); (focus (intro w1 hSS R hR; have hc := hSS.2.2; (try simp only [Cells] at hc); obtain ⟨hco, hfo⟩ := bcell hSS.1; go_simp; (try go_bits); exact hR)); simp only [pu])
      (refine' held_do (i := 11) _ (by kernel_rfl) (by kernel_rfl) (by kernel_rfl) _ _ hS _ _; rotate_left 2; (focus exact geti); (focus exact fun _ _ _ h => h); (focus rfl); (focus (intro w1 hSS R hR; have hc := hSS.2.2; (try simp only [Cells] at hc); obtain ⟨hco, hfo⟩ := bcell hSS.1; go_simp; (try go_bits); exact hR)); simp only [pu])
      (refine' held_do (i := 12) _ (by kernel_rfl) (by kernel_rfl) (by kernel_rfl) _ _ hS _ _; rotate_left 2; (focus exact geti); (focus exact fun _ _ _ h => h); (focus rfl); (focus (intro w1 hSS R hR; have hc := hSS.2.2; (try simp only [Cells] at hc); obtain ⟨hco, hfo⟩ := bcell hSS.1; go_simp; (try go_bits); exact hR)); simp only [pu])
      (refine' held_do (i := 13) _ (by kernel_rfl) (by kernel_rfl) (by kernel_rfl) _ _ hS _ _; rotate_left 2; (focus exact geti); (focus exact fun _ _ _ h => h); (focus rfl); (focus (intro w1 hSS R hR; have hc := hSS.2.2; (try simp only [Cells] at hc); obtain ⟨hco, hfo⟩ := bcell hSS.1; go_simp; (try go_bits); exact hR)); simp only [pu])
      (refine' held_do (i := 14) _ (by kernel_rfl) (by kernel_rfl) (by kernel_rfl) _ _ hS _ _; rotate_left 2; (focus exact geti); (focus exact fun _ _ _ h => h); (focus rfl); (focus (intro w1 hSS R hR; have hc := hSS.2.2; (try simp only [Cells] at hc); obtain ⟨hco, hfo⟩ := bcell hSS.1; go_simp; (try go_bits); exact hR)); simp only [pu])
      (refine' held_do (i := 15) _ (by kernel_rfl) (by kernel_rfl) (by kernel_rfl) _ _ hS _ _; rotate_left 2; (focus exact geti); (focus exact fun _ _ _ h => h); (focus rfl); (focus (intro w1 hSS R hR; have hc := hSS.2.2; (try simp only [Cells] at hc); obtain ⟨hco, hfo⟩ := bcell hSS.1; go_simp; (try go_bits); exact hR)); simp only [pu])
      (refine' held_do (i := 16) _ (by kernel_rfl) (by kernel_rfl) (by kernel_rfl) _ _ hS _ _; rotate_left 2; (focus exact geti); (focus exact fun _ _ _ h => h); (focus rfl); (focus (intro w1 hSS R hR; have hc := hSS.2.2; (try simp only [Cells] at hc); obtain ⟨hco, hfo⟩ := bcell hSS.1; go_simp; (try go_bits); exact hR)); simp only [pu])
      (refine' held_do (i := 17) _ (by kernel_rfl) (by kernel_rfl) (by kernel_rfl) _ _ hS _ _; rotate_left 2; (focus exact geti); (focus exact fun _ _ _ h => h); (focus rfl); (focus (intro w1 hSS R hR; have hc := hSS.2.2; (try simp only [Cells] at hc); obtain ⟨hco, hfo⟩ := bcell hSS.1; go_simp; (try go_bits); exact hR)); simp only [pu])
      (refine' held_do (i := 18) _ (by kernel_rfl) (by kernel_rfl) (by kernel_rfl) _ _ hS _ _; rotate_left 2; (focus exact geti); (focus exact fun _ _ _ h => h); (focus rfl); (focus (intro w1 hSS R hR; have hc := hSS.2.2; (try simp only [Cells] at hc); obtain ⟨hco, hfo⟩ := bcell hSS.1; go_simp; (try go_bits); exact hR)); simp only [pu])
      (refine' held_do (i := 19) _ (by kernel_rfl) (by kernel_rfl) (by kernel_rfl) _ _ hS _ _; rotate_left 2; (focus exact geti); (focus exact fun _ _ _ h => h); (focus rfl); (focus (intro w1 hSS R hR; have hc := hSS.2.2; (try simp only [Cells] at hc); obtain ⟨hco, hfo⟩ := bcell hSS.1; go_simp; (try go_bits); exact hR)); simp only [pu])
      (refine' held_do (i := 20) _ (by kernel_rfl) (by kernel_rfl) (by kernel_rfl) _ _ hS _ _; rotate_left 2; (focus exact geti); (focus exact fun _ _ _ h => h); (focus rfl); (focus (intro w1 hSS R hR; have hc := hSS.2.2; (try simp only [Cells] at hc); obtain ⟨hco, hfo⟩ := bcell hSS.1; go_simp; (try go_bits); exact hR)); simp only [pu])
      (refine' held_do (i := 21) _ (by kernel_rfl) (by kernel_rfl) (by kernel_rfl) _ _ hS _ _; rotate_left 2; (focus exact geti); (focus exact fun _ _ _ h => h); (focus rfl); (focus (intro w1 hSS R hR; have hc := hSS.2.2; (try simp only [Cells] at hc); obtain ⟨hco, hfo⟩ := bcell hSS.1; go_simp; (try go_bits); exact hR)); simp only [pu])
      (refine' held_do (i := 22) _ (by kernel_rfl) (by kernel_rfl) (by kernel_rfl) _ _ hS _ _; rotate_left 2; (focus exact geti); (focus exact fun _ _ _ h => h); (focus rfl); (focus (intro w1 hSS R hR; have hc := hSS.2.2; (try simp only [Cells] at hc); obtain ⟨hco, hfo⟩ := bcell hSS.1; go_simp; (try go_bits); exact hR)); simp only [pu])
      (refine' held_do (i := 23) _ (by kernel_rfl) (by kernel_rfl) (by kernel_rfl) _ _ hS _ _; rotate_left 2; (focus exact geti); (focus exact fun _ _ _ h => h); (focus rfl); (focus (intro w1 hSS R hR; have hc := hSS.2.2; (try simp only [Cells] at hc); obtain ⟨hco, hfo⟩ := bcell hSS.1; go_simp; (try go_bits); exact hR)); simp only [pu])
      (refine' held_do (i := 24) _ (by kernel_rfl) (by kernel_rfl) (by kernel_rfl) _ _ hS _ _; rotate_left 2; (focus exact geti); (focus exact fun _ _ _ h => h); (focus rfl); (focus (intro w1 hSS R hR; have hc := hSS.2.2; (try simp only [Cells] at hc); obtain ⟨hco, hfo⟩ := bcell hSS.1; go_simp; (try go_bits); exact hR)); simp only [pu])
      (refine' held_do (i := 25) _ (by kernel_rfl) (by kernel_rfl) (by kernel_rfl) _ _ hS _ _; rotate_left 2; (focus exact geti); (focus exact fun _ _ _ h => h); (focus rfl); (focus (intro w1 hSS R hR; have hc := hSS.2.2; (try simp only [Cells] at hc); obtain ⟨hco, hfo⟩ := bcell hSS.1; go_simp; (try go_bits); exact hR)); simp only [pu])
      (refine' held_do (i := 26) _ (by kernel_rfl) (by kernel_rfl) (by kernel_rfl) _ _ hS _ _; rotate_left 2; (focus exact geti); (focus exact fun _ _ _ h => h); (focus rfl); (focus (intro w1 hSS R hR; have hc := hSS.2.2; (try simp only [Cells] at hc); obtain ⟨hco, hfo⟩ := bcell hSS.1; go_simp; (try go_bits); exact hR)); simp only [pu])
      (refine' held_do (i := 27) _ (by kernel_rfl) (by kernel_rfl) (by kernel_rfl) _ _ hS _ _; rotate_left 2; (focus exact geti); (focus exact fun _ _ _ h => h); (focus rfl); (focus (intro w1 hSS R hR; have hc := hSS.2.2; (try simp only [Cells] at hc); obtain ⟨hco, hfo⟩ := bcell hSS.1; go_simp; (try go_bits); exact hR)); simp only [pu])
      (refine' held_do (i := 28) _ (by kernel_rfl) (by kernel_rfl) (by kernel_rfl) _ _ hS _ _; rotate_left 2; (focus exact geti); (focus exact fun _ _ _ h => h); (focus rfl); (focus (intro w1 hSS R hR; have hc := hSS.2.2; (try simp only [Cells] at hc); obtain ⟨hco, hfo⟩ := bcell hSS.1; go_simp; (try go_bits); exact hR)); simp only [pu])
      (refine' held_do (i := 29) _ (by kernel_rfl) (by kernel_rfl) (by kernel_rfl) _ _ hS _ _; rotate_left 2; (focus exact geti); (focus exact fun _ _ _ h => h); (focus rfl); (focus (intro w1 hSS R hR; have hc := hSS.2.2; (try simp only [Cells] at hc); obtain ⟨hco, hfo⟩ := bcell hSS.1; go_simp; (try go_bits); exact hR)); simp only [pu])
      (refine' held_do (i := 30) _ (by kernel_rfl) (by kernel_rfl) (by kernel_rfl) _ _ hS _ _; rotate_left 2; (focus exact geti); (focus exact fun _ _ _ h => h); (focus rfl); (focus (intro w1 hSS R hR; have hc := hSS.2.2; (try simp only [Cells] at hc); obtain ⟨hco, hfo⟩ := bcell hSS.1; go_simp; (try go_bits); exact hR)); simp only [pu])
      (refine' held_do (i := 31) _ (by kernel_rfl) (by kernel_rfl) (by kernel_rfl) _ _ hS _ _; rotate_left 2; (focus exact geti); (focus exact fun _ _ _ h => h); (focus rfl); (focus (intro w1 hSS R hR; have hc := hSS.2.2; (try simp only [Cells] at hc); obtain ⟨hco, hfo⟩ := bcell hSS.1; go_simp; (try go_bits); exact hR)); simp only [pu])
      (refine' held_one (i := 32) _ (by kernel_rfl) _ _; rotate_left; (focus exact geti); (focus rfl); intro K hK; go_simp)
      have hS1 := hS.below ((Below.refl _ _).alloc (Nat.le_refl _) (.cells #[.int .i64 sa, .int .i64 y, .int .i64 (sb - sa), .int .i64 (z - y)] 32))
      refine hK _ _ hS1 ?_
      clear hK
      (try simp only [pu])
      (refine' held_one (i := 33) _ (by kernel_rfl) _ _; rotate_left; (focus exact geti); (focus rfl); intro K hK)
      have hownq' := hownq.out
      unfold OwnsR at hownq'
      rw [hkk.out] at hownq'
      refine wp_append_blk _ _ _ rfl w4.heap.size 32 iR _ 4 32 Tryz.underlying25 hi0 hm0 hm1 hm2 rfl (by omega) _ 1 _ _ _ _ _ _ (by rfl) (hownq'.drew.alloc _) (Blk.new' rfl) (by rfl) (by rfl) (by simp [Value.oneCell']) (by omega) (by unfold maxLen; omega) (by simp; omega) ?_
      intro v6 w7 own7 gr7 at7 hb7
      have hS2 := held_grown hS1 gr7 (fun p hp he => by
       simp only [List.mem_cons, List.not_mem_nil, or_false] at hp
       rcases hp with rfl | rfl
       ·exact hapq.out _ he rfl
       ·exact hapq.out _ he rfl) (hS1.1.trans hb7)
      refine hK _ _ hS2 ?_
      clear hK
      (try simp only [pu])
      rw [flatR_snoc (t := ⟨sa, y, sb - sa, z - y⟩) (cs := [.int .i64 sa, .int .i64 y, .int .i64 (sb - sa), .int .i64 (z - y)]) rfl] at own7
      replace own7 := Lib.hid own7
      (refine' held_one (i := 34) _ (by kernel_rfl) _ _; rotate_left; (focus exact geti); (focus rfl); intro K hK; go_simp)
      refine hK _ _ hS2 ?_
      clear hK
      (try simp only [pu])
      refine wpAnyH_done (by kernel_rfl) ?_ _
      go_wp2
      go_roundw
      case rel =>
       refine ⟨j + 1, m + 2, by omega, Lib.hid (by have := hm.out; omega), by go_num, ?_, ?_, ?_, hS2.1⟩
       ·rw [hsnoc.out, ← List.append_assoc]
        unfold OwnsR
        rw [List.length_append, hkk.out]
        exact own7.out
       ·exact own_keep ((hnow.out.drew).alloc _) gr7 (fun g h1 h2 => hapq.out g h2 h1)
       ·intro g h1 h2
        rcases at7 g h1 with h | h
        ·exact hapq.out g h h2
        ·have h3 := (own_in hnow.out g h2).2
         simp at h
         omega
      case measure => simp [intOf]; omega
     ·obtain rfl : j = J := by omega
      have hmN : ¬ (m : Int) < NL := by have := hNJ.out; have := hm.out; omega
      have htk : nw.take j = nw := by rw [List.take_of_length_le (by have := hJ.out; omega)]
      rw [htk] at hownq hkk
      clear htk
      obtain ⟨out', hout⟩ : ∃ o, out ++ rectsOf y (z - y) nw = o := ⟨_, rfl⟩
      rw [hout] at hownq hkk
      have hgo := hgo.out
      rw [hout] at hgo
      have hle := refGo_le now (X.drop (i + 1)) out' nw
      rw [hgo, hkk] at hle
      have hbd := rects_bd (l := nw) b3.out hyz iny
      rw [hout] at hbd
      have hnk : nw.length ≤ kk := by rw [← hkk, ← hout, List.length_append, rectsOf_len]; omega
      replace hownq := Lib.hid hownq
      replace hnow := Lib.hid hnow
      replace hapq := Lib.hid hapq
      replace hkk := Lib.hid hkk
      replace hgo := Lib.hid hgo
      replace hbd := Lib.hid hbd
      by_cases hbig : 1024 < kk
      ·obtain ⟨rfl, rfl⟩ := out4.out (by omega)
       have hbig' : (1024 : Int) < kk := by omega
       clear hout hle hnk
       go_wp2
       refine bodyPost_ret (v := .tuple #[.slice none 0 0, .int .i64 4]) (by simp [results, Tryz.results123, go_sem]) rfl ⟨hb04.trans (hb4q.mono z04), _, rfl, OwnsR.nil _ _⟩
      ·have hbig' : ¬ (1024 : Int) < kk := by omega
       replace hout := Lib.hid hout
       replace hle := Lib.hid hle
       replace hnk := Lib.hid hnk
       go_wp2
       go_roundw
       case rel => exact ⟨i + 1, out', nw, by omega, by go_num, hownq.out, own_lessI hnow.out z4r, hapq.out, hgo, Lib.hid ⟨by have := hkk.out; omega, by have := hkk.out; have := hnk.out; omega, fun c hc => by rw [hznext.out c hc]; exact hbd.out⟩, hb4q⟩
       case measure => simp [intOf]; omega
   ·have hs : nw = last := of_decide_eq_true ht
    subst hs
    rw [if_pos rfl, hJ.out] at hgo
    rw [hJ.out] at b2
    replace hgo := Lib.hid hgo
    clear ht
    have AK := AK.out
    have hlast := hlast.out
    have hap := hap.out
    simp only [hNL] at AK
    rw [hNL] at hlast hap ⊢
    replace AK := Lib.hid AK
    replace hlast := Lib.hid hlast
    replace hap := Lib.hid hap
    replace hNJ := Lib.hid hNJ
    go_wp2_with (first | (go_at_call 172; (with_reducible refine (SP.out).mono ?_); rintro e w5 ⟨hb5, v5, rfl, ow5⟩; obtain ⟨s5, c5, rfl⟩ := own_slice ow5; rw [hNL] at ow5; rw [hNL]; have ow5 := Lib.hid ow5; obtain ⟨hc5, hf5⟩ := bcell hb5) | (go_at_call 173; (with_reducible refine (AK.out _ _ hb5 ow5.out).mono ?_); rintro e w6 ⟨rfl, hb6⟩; have hb56 := hb5.trans (hb6.mono hb5.size); have ow6 := Lib.hid (OwnsI.below ow5.out hb6 (Nat.le_refl _))) | go_in)
    replace AK := ow5
    clear AK ow5
    have hb46 := hb4r.trans (hb56.mono z4r)
    have z6 := hb46.size
    have hown6 := Lib.hid (OwnsR.below hown.out hb56 (Nat.le_refl _))
    have hlast6 := Lib.hid (OwnsI.below hlast.out hb56 (Nat.le_refl _))
    go_loopw [14] (fun kv wq => ∃ k : Nat, k ≤ J ∧ kv = .int .i64 k ∧ OwnsR w4.heap.size wq (.slice so n co) (growL out k (z - y)) ∧ w6.grownBy wq (Value.slice so n co).ownBlock) (fun kv _ => J - (intOf kv).toNat)
    case atStart => exact ⟨0, Nat.zero_le _, rfl, by rw [growL_zero]; exact hown6.out, grown_refl _ _⟩
    case round =>
     obtain ⟨k, hk, rfl, hownq, hgr⟩ := hrel
     have hb4q : Below w4.heap.size w4 wr := hb46.trans (grown_below hgr z6 (fun g h => (own_in hown6.out g h).1))
     have z4q := hb4q.size
     obtain ⟨hcq, hfq⟩ := bcell hb4q
     by_cases hkJ : k < J
     ·have hown' := hownq
      unfold OwnsR at hown'
      rw [growL_len, hn.out] at hown'
      obtain ⟨g, rfl, hg1, hg2⟩ := own_addr hown' (by omega)
      obtain ⟨m, hm⟩ : ∃ m, n = k + m + 1 := ⟨n - k - 1, by omega⟩
      obtain ⟨q, hqm⟩ := get_at (k := m) hn.out (by omega)
      have hgm : (growL out k (z - y))[m]? = some q := (growL_at (hn.out.trans hm)).trans hqm
      have hstep := growL_step (d := z - y) (hn.out.trans hm) hqm
      obtain ⟨r0, r1, r2, r3⟩ := own_rmem hownq hgm
      obtain ⟨t0, t1⟩ := b3.out q (List.mem_of_getElem? hqm)
      have hfz := own_unfzR hownq
      have hidx : (n : Int) - 1 - k = m := by omega
      have hmn : (m : Int) < n := by omega
      have hkJi : (k : Int) < J := by omega
      have ybq : bb < wr.heap.size := by omega
      obtain ⟨qx, qy, qa, qb⟩ := q
      simp only at r0 r1 r2 r3 t0 t1 hstep
      clear hown'
      replace hownq := Lib.hid hownq
      replace hgm := Lib.hid hgm
      replace hqm := Lib.hid hqm
      replace hstep := Lib.hid hstep
      replace hm := Lib.hid hm
      replace hgr := Lib.hid hgr
      go_wp2
      refine wp_region_steady_then (Held wr 0 []) 24 (by kernel_rfl) (by kernel_rfl) (by decide) (by kernel_rfl) (by kernel_rfl) ⟨belt, (by (try simp) <;> omega), (by first | exact trivial | (simp only [Cells]; go_simp))⟩ ?_
      simp only [List.take_succ_cons, List.take_zero]
      repeat (first | (refine' wpSteady_do _ _ _; rotate_left; (focus rfl); (focus (intro w1 hS R hR; have hc := hS.cells; simp only [Cells] at hc; obtain ⟨hco, hfo⟩ := bcell hS.old; go_simp; (try go_bits); first | exact hR _ hS | fail)); simp only [pu]) | (refine wpSteady_pass ?_ ?_; (focus rfl); simp only [pu]))
      refine wpSteady_nil (fun uA hSA => ?_)
      have hcA := hSA.cells; have hbA := hSA.old; have hzA := hSA.size; clear hSA; simp only [Cells] at hcA; obtain ⟨hcoA, hfoA⟩ := bcell hbA
      simp only [List.drop_succ_cons, List.drop_zero, List.drop_nil]
      have yA : g < uA.heap.size := by omega
      have hfzA : ∀ o, uA.frozen? ⟨g, o, none⟩ = false := fun o => (hfoA g o hg2).trans (hfz o)
      go_wp2
      go_roundw
      case rel =>
       refine ⟨k + 1, by omega, by go_num, ?_, grown_set (grown_stay hgr.out hbA) rfl _ _⟩
       rw [hstep.out]
       exact own_putR (OwnsR.below hownq.out hbA (Nat.le_refl _)) (by rw [growL_len, hn.out]) hgm.out (qb + (z - y))
      case measure => simp [intOf]; omega
     ·obtain rfl : k = J := by omega
      have hkJi : ¬ (k : Int) < k := by omega
      have hbd := growL_bd (k := k) b3.out hyz
      replace hbd := Lib.hid hbd
      replace hownq := Lib.hid hownq
      replace hgr := Lib.hid hgr
      go_wp2
      go_roundw
      case rel => exact ⟨i + 1, growL out k (z - y), nw, by omega, by go_num, hownq.out, own_keep hlast6.out hgr.out (fun g h1 h2 => hap.out g h2 h1), hap.out, hgo, Lib.hid ⟨by rw [growL_len, hn.out]; exact b1, by rw [growL_len, hn.out, hJ.out]; exact b2, fun c hc => by rw [hznext.out c hc]; exact hbd.out⟩, hb4q⟩
      case measure => simp [intOf]; omega
  ·have hgo := hgo.out
   rw [ref_end (by have := hN.out; omega)] at hgo
   obtain ⟨b1, _, _⟩ := hbd.out
   subst hgo
   obtain ⟨rfl, rfl⟩ := out0.out b1
   replace hown := Lib.hid hown
   replace hlast := Lib.hid hlast
   replace hap := Lib.hid hap
   have hii2 : ¬ (i : Int) + 1 < N := by omega
   clear b1
   go_wp2
   refine bodyPost_ret (v := .tuple #[.slice so ML.length co, .int .i64 0]) (by simp [results, Tryz.results123, go_sem]) rfl ⟨hbr, _, rfl, ?_⟩
   exact own_less hown.out z04
end
end Go.Proofs.YtfcphagmjijmkaaGreatDoor

namespace Go.Proofs.YtfcphagmjijmkaaGreatDoor
open Go.RowKit
set_option linter.unusedVariables false
attribute [local go_sem] vwp vUpon_value vUpon_skip vUpon_enter vUpon_row
set_option linter.unusedSimpArgs false
set_option linter.unusedVariables false
section
set_option maxHeartbeats 2000000 in
theorem kplain1_any (q : Re) (w : World) (hq : q.Wf) : Calls Tryz.prog 170 #[.agg #[.int .i64 (q).x, .int .i64 (q).y, .int .i64 (q).wd, .int .i64 (q).ht]] w fun e w' => e = .returned (.agg #[.int .i64 (plainR q).x, .int .i64 (plainR q).y, .int .i64 (plainR q).wd, .int .i64 (plainR q).ht]) ∧ Below w.heap.size w w' := by
 have A := fun w => kempty1_any q w hq
 clear hq
 unfold plainR
 cases h1 : emptyR q
 ·rw [h1] at A
  simp only [Bool.false_eq_true, if_false]
  obtain ⟨x, y, a, b⟩ := q
  simp only at A ⊢
  replace A := Lib.hid A
  clear h1
  go_enter Tryz.func170, Tryz.ntmps170
  go_wp2_with (first | (go_at_call 105; (with_reducible refine (A.out _).mono ?_); rintro e w1 ⟨rfl, hb1⟩; obtain ⟨hc1, hf1⟩ := bcell hb1; have z1 := hb1.size; (try simp at z1); have lx1 : w.heap.size < w1.heap.size := (by omega); have ly1 : w.heap.size + 1 < w1.heap.size := (by omega)) | go_in)
  refine bodyPost_ret (v := .agg #[.int .i64 ((⟨x, y, a, b⟩ : Re)).x, .int .i64 ((⟨x, y, a, b⟩ : Re)).y, .int .i64 ((⟨x, y, a, b⟩ : Re)).wd, .int .i64 ((⟨x, y, a, b⟩ : Re)).ht]) (by simp [results, Tryz.results170, go_sem, hc1, hf1, lx1, ly1]) rfl ⟨rfl, belt⟩
 ·rw [h1] at A
  simp only [if_true]
  obtain ⟨x, y, a, b⟩ := q
  simp only at A ⊢
  replace A := Lib.hid A
  clear h1
  go_enter Tryz.func170, Tryz.ntmps170
  go_wp2_with (first | (go_at_call 105; (with_reducible refine (A.out _).mono ?_); rintro e w1 ⟨rfl, hb1⟩; obtain ⟨hc1, hf1⟩ := bcell hb1; have z1 := hb1.size; (try simp at z1); have lx1 : w.heap.size < w1.heap.size := (by omega); have ly1 : w.heap.size + 1 < w1.heap.size := (by omega)) | go_in)
  refine bodyPost_ret (v := .agg #[.int .i64 (Re.none).x, .int .i64 (Re.none).y, .int .i64 (Re.none).wd, .int .i64 (Re.none).ht]) (by simp [results, Tryz.results170, go_sem, hc1, hf1, lx1, ly1, Re.none]) rfl ⟨rfl, belt⟩
set_option maxHeartbeats 4000000 in
set_option maxRecDepth 100000 in
theorem kjoin1_any (p q : Re) (w : World) (hp : p.Wf) (hq : q.Wf) : Calls Tryz.prog 122 #[.agg #[.int .i64 (p).x, .int .i64 (p).y, .int .i64 (p).wd, .int .i64 (p).ht], .agg #[.int .i64 (q).x, .int .i64 (q).y, .int .i64 (q).wd, .int .i64 (q).ht]] w fun e w' => e = .returned (.agg #[.int .i64 (joinR p q).x, .int .i64 (joinR p q).y, .int .i64 (joinR p q).wd, .int .i64 (joinR p q).ht]) ∧ Below w.heap.size w w' := by
 have A := fun w => kempty1_any p w hp
 have B := fun w => kempty1_any q w hq
 have P := fun w => kplain1_any q w hq
 clear hp hq
 unfold joinR
 cases h1 : emptyR p
 ·cases h2 : emptyR q
  ·rw [h1] at A
   rw [h2] at B
   obtain ⟨mp, p1, p2⟩ := full_bd h1
   obtain ⟨mq, q1, q2⟩ := full_bd h2
   have C := fun w => kright_any p w mp
   have D := fun w => kright_any q w mq
   have C2 := fun w => kbelow_any p w mp
   have D2 := fun w => kbelow_any q w mq
   have := may_bd mp; have := may_bd mq; have := may_sum mp; have := may_sum mq
   have E := fun w => kfrom_any (min p.x q.x) (min p.y q.y) (max (p.x + p.wd) (q.x + q.wd)) (max (p.y + p.ht) (q.y + q.ht)) w (by omega) (by omega) (by omega) (by omega)
   simp only [Bool.false_eq_true, if_false]
   obtain ⟨x, y, a, b⟩ := p
   obtain ⟨u, v, c, d⟩ := q
   simp only at A B C D C2 D2 E ⊢
   generalize fromR (min x u) (min y v) (max (x + a) (u + c)) (max (y + b) (v + d)) = r at *
   obtain ⟨r1, r2, r3, r4⟩ := r
   replace A := Lib.hid A
   replace B := Lib.hid B
   replace C := Lib.hid C
   replace D := Lib.hid D
   replace C2 := Lib.hid C2
   replace D2 := Lib.hid D2
   replace E := Lib.hid E
   clear h1 h2 mp mq P
   go_enter Tryz.func122, Tryz.ntmps122
   go_upto_region 5 with (first | (go_at_call 105; (with_reducible refine (A.out _).mono ?_); rintro e w1 ⟨rfl, hb1⟩; obtain ⟨hc1, hf1⟩ := bcell hb1; have z1 := hb1.size; (try simp at z1); have lx1 : w.heap.size < w1.heap.size := (by omega); have ly1 : w.heap.size + 1 < w1.heap.size := (by omega); have lz1 : w.heap.size + 1 + 1 < w1.heap.size := (by omega); clear A) | (go_at_call 105; (with_reducible refine (B.out _).mono ?_); rintro e w2 ⟨rfl, hb2⟩; obtain ⟨hc2, hf2⟩ := bcell hb2; have z2 := hb2.size; (try simp at z2); have lx2 : w.heap.size < w2.heap.size := (by omega); have ly2 : w.heap.size + 1 < w2.heap.size := (by omega); have lz2 : w.heap.size + 1 + 1 < w2.heap.size := (by omega); clear B) | go_in)
   have hw2 : Below w.heap.size w w2 := belt
   have k0 : w2.cell? ⟨w.heap.size, 0, none⟩ = some (.int .i64 x) := by go_simp
   refine wp_region_steady_then (Held w2 0 []) 25 (by kernel_rfl) (by kernel_rfl) (by decide) (by kernel_rfl) (by kernel_rfl) ⟨belt, (by (try simp) <;> omega), (by first | exact trivial | (simp only [Cells]; go_simp))⟩ ?_
   simp only [List.take_succ_cons, List.take_zero]
   repeat (first | (refine' wpSteady_do _ _ _; rotate_left; (focus rfl); (focus (intro w1 hS R hR; have hc := hS.cells; simp only [Cells] at hc; obtain ⟨hco, hfo⟩ := bcell hS.old; go_simp; (try go_bits); first | exact hR _ hS | (first
          | (go_at_call 106; (with_reducible refine (C.out _).mono ?_); rintro e w4 ⟨rfl, hb4⟩; exact ⟨_, rfl, hR _ (hS.below hb4)⟩)
          | (go_at_call 106; (with_reducible refine (D.out _).mono ?_); rintro e w4 ⟨rfl, hb4⟩; exact ⟨_, rfl, hR _ (hS.below hb4)⟩)
          | (go_at_call 107; (with_reducible refine (C2.out _).mono ?_); rintro e w4 ⟨rfl, hb4⟩; exact ⟨_, rfl, hR _ (hS.below hb4)⟩)
          | (go_at_call 107; (with_reducible refine (D2.out _).mono ?_); rintro e w4 ⟨rfl, hb4⟩; exact ⟨_, rfl, hR _ (hS.below hb4)⟩)
          | (go_at_call 169; (with_reducible refine (E.out _).mono ?_); rintro e w4 ⟨rfl, hb4⟩; exact ⟨_, rfl, hR _ (hS.below hb4)⟩)))); simp only [pu]) | (refine wpSteady_pass ?_ ?_; (focus rfl); simp only [pu]))
   refine wpSteady_nil (fun uT hST => ?_)
   have hcT := hST.cells; have hbT := hST.old; have hzT := hST.size; clear hST; simp only [Cells] at hcT; obtain ⟨hcoT, hfoT⟩ := bcell hbT
   simp only [List.drop_succ_cons, List.drop_zero, List.drop_nil]
   have hwT : Below w.heap.size w uT := hw2.trans (hbT.mono hw2.size)
   have lzT : w.heap.size + 1 + 1 < uT.heap.size := by have := hbT.size; omega
   go_wp2
   refine bodyPost_ret (v := .agg #[.int .i64 r1, .int .i64 r2, .int .i64 r3, .int .i64 r4]) (by simp [results, Tryz.results122, go_sem, hcoT, hfoT, hc1, hc2, hf1, hf2, lz1, lz2, lzT]) rfl ⟨rfl, belt⟩
  ·rw [h1] at A
   rw [h2] at B
   simp only [Bool.false_eq_true, if_false, if_true]
   obtain ⟨x, y, a, b⟩ := p
   obtain ⟨u, v, c, d⟩ := q
   simp only at A B ⊢
   replace A := Lib.hid A
   replace B := Lib.hid B
   clear h1 h2 P
   go_enter Tryz.func122, Tryz.ntmps122
   go_wp2_with (first | (go_at_call 105; (with_reducible refine (A.out _).mono ?_); rintro e w1 ⟨rfl, hb1⟩; obtain ⟨hc1, hf1⟩ := bcell hb1; have z1 := hb1.size; (try simp at z1); have lx1 : w.heap.size < w1.heap.size := (by omega); have ly1 : w.heap.size + 1 < w1.heap.size := (by omega); have lz1 : w.heap.size + 1 + 1 < w1.heap.size := (by omega); clear A) | (go_at_call 105; (with_reducible refine (B.out _).mono ?_); rintro e w2 ⟨rfl, hb2⟩; obtain ⟨hc2, hf2⟩ := bcell hb2; have z2 := hb2.size; (try simp at z2); have lx2 : w.heap.size < w2.heap.size := (by omega); have ly2 : w.heap.size + 1 < w2.heap.size := (by omega); have lz2 : w.heap.size + 1 + 1 < w2.heap.size := (by omega); clear B) | go_in)
   refine bodyPost_ret (v := .agg #[.int .i64 ((⟨x, y, a, b⟩ : Re)).x, .int .i64 ((⟨x, y, a, b⟩ : Re)).y, .int .i64 ((⟨x, y, a, b⟩ : Re)).wd, .int .i64 ((⟨x, y, a, b⟩ : Re)).ht]) (by simp [results, Tryz.results122, go_sem, hc1, hc2, hf1, hf2, lx1, lx2, ly1, ly2, lz1, lz2]) rfl ⟨rfl, belt⟩
 ·rw [h1] at A
  simp only [if_true]
  obtain ⟨x, y, a, b⟩ := p
  obtain ⟨u, v, c, d⟩ := q
  generalize plainR ⟨u, v, c, d⟩ = r at *
  obtain ⟨r1, r2, r3, r4⟩ := r
  simp only at A P ⊢
  replace A := Lib.hid A
  replace P := Lib.hid P
  clear h1 B
  go_enter Tryz.func122, Tryz.ntmps122
  go_wp2_with (first | (go_at_call 105; (with_reducible refine (A.out _).mono ?_); rintro e w1 ⟨rfl, hb1⟩; obtain ⟨hc1, hf1⟩ := bcell hb1; have z1 := hb1.size; (try simp at z1); have lx1 : w.heap.size < w1.heap.size := (by omega); have ly1 : w.heap.size + 1 < w1.heap.size := (by omega); have lz1 : w.heap.size + 1 + 1 < w1.heap.size := (by omega); clear A) | (go_at_call 170; (with_reducible refine (P.out _).mono ?_); rintro e w2 ⟨rfl, hb2⟩; obtain ⟨hc2, hf2⟩ := bcell hb2; have z2 := hb2.size; (try simp at z2); have lx2 : w.heap.size < w2.heap.size := (by omega); have ly2 : w.heap.size + 1 < w2.heap.size := (by omega); have lz2 : w.heap.size + 1 + 1 < w2.heap.size := (by omega); clear P) | go_in)
  refine bodyPost_ret (v := .agg #[.int .i64 ((⟨r1, r2, r3, r4⟩ : Re)).x, .int .i64 ((⟨r1, r2, r3, r4⟩ : Re)).y, .int .i64 ((⟨r1, r2, r3, r4⟩ : Re)).wd, .int .i64 ((⟨r1, r2, r3, r4⟩ : Re)).ht]) (by simp [results, Tryz.results122, go_sem, hc1, hc2, hf1, hf2, lx1, lx2, ly1, ly2, lz1, lz2]) rfl ⟨rfl, belt⟩
end
theorem rrect_any (x y a b : Int) (w : World) : Calls Tryz.prog 81 #[.int .i64 x, .int .i64 y, .int .i64 a, .int .i64 b] w fun e w' => e = .returned (.agg #[.int .i64 x, .int .i64 y, .int .i64 a, .int .i64 b]) ∧ Below w.heap.size w w' := by
  go_enter Tryz.func81, Tryz.ntmps81
  go_wp2
  refine bodyPost_ret (v := .agg #[.int .i64 x, .int .i64 y, .int .i64 a, .int .i64 b]) (by simp [results, Tryz.results81, go_sem]) rfl ⟨rfl, belt⟩
end Go.Proofs.YtfcphagmjijmkaaGreatDoor

namespace Go.Proofs.YtfcphagmjijmkaaGreatDoor
open Go.RowKit
set_option linter.unusedVariables false
attribute [local go_sem] vwp vUpon_value vUpon_skip vUpon_enter vUpon_row
set_option linter.unusedSimpArgs false
set_option linter.unusedVariables false
set_option maxHeartbeats 4000000 in
set_option maxRecDepth 100000 in
theorem rabout_any (l : List Re) (v : Value) (w : World) (hl : Row w.heap.size 4 Re.enc w v l) (hm : MayL l) (he : ∀ q ∈ l, emptyR q = false) (h0 : 0 < l.length) :
  Calls Tryz.prog 71 #[v] w fun e w' => Below w.heap.size w w' ∧ ∃ v', e = .returned v' ∧ CutR w.heap.size w' v' [abtR l] := by
 obtain ⟨b, o, cap, rfl, hb, hlc, hcm, hel⟩ := row_re hl h0
 unfold maxLen at hcm
 obtain ⟨n, hn⟩ : ∃ n, l.length = n := ⟨_, rfl⟩
 obtain ⟨q0, hq0⟩ := get_at hn (show 0 < n by omega)
 obtain ⟨g0, g1, g2, g3⟩ := hel 0 q0 hq0
 rw [Nat.zero_mul, Nat.add_zero] at g0 g1 g2 g3
 have hq0e := he q0 (List.mem_of_getElem? hq0)
 have hq0m := hm q0 (List.mem_of_getElem? hq0)
 have hfin : (l.drop 1).foldl joinR q0 = abtR l := by
  cases l with
  | nil => simp at h0
  | cons q l =>
   simp at hq0
   subst hq0
   unfold abtR
   rw [List.foldl_cons, join_none q hq0e]
   rfl
 rw [hn] at hlc h0 ⊢
 rw [← hfin]
 replace hel := Lib.hid hel
 replace hn := Lib.hid hn
 replace hm := Lib.hid hm
 clear hfin he hl hq0 hq0e
 obtain ⟨RES, hRES⟩ : ∃ r, (l.drop 1).foldl joinR q0 = r := ⟨_, rfl⟩
 rw [hRES]
 replace hRES := Lib.hid hRES
 go_enter Tryz.func71, Tryz.ntmps71
 go_upto_region 2 with fail
 obtain ⟨W, hW⟩ : ∃ W, w.alloc (.cells #[.int .i64 q0.x, .int .i64 q0.y, .int .i64 q0.wd, .int .i64 q0.ht] 32) = W := ⟨_, rfl⟩
 obtain ⟨b3, hb3⟩ : ∃ b, w.heap.size = b := ⟨_, rfl⟩
 have B3 : Blk W b3 (Re.enc q0) 32 := by rw [← hW]; exact Blk.new' (cs := Re.enc q0) hb3.symm
 have hbW : Below w.heap.size w W := by rw [← hW]; exact belt
 rw [hW, hb3]
 clear hW g0 g1 g2 g3
 replace hb3 := Lib.hid hb3
 go_upto_region 3 with fail
 go_loopw [4] (fun i wr => ∃ (k : Nat) (o : Re), 1 ≤ k ∧ k ≤ n ∧ i = .int .i64 k ∧ Blk wr b3 (Re.enc o) 32 ∧ mayR o = true ∧ Hid ((l.drop k).foldl joinR o = RES) ∧ Below w.heap.size w wr) (fun i _ => n - (intOf i).toNat)
 case atStart => exact ⟨1, q0, Nat.le_refl _, by omega, rfl, B3, hq0m, Lib.hid hRES.out, hbW⟩
 case round =>
  obtain ⟨k, o', hk1, hk, rfl, BO, hom, hfo, hbr⟩ := hrel
  obtain ⟨wv, rfl⟩ : ∃ x, x = wr := ⟨_, rfl⟩
  have zr := hbr.size
  by_cases hkn : k < n
  ·obtain ⟨q, hq⟩ := get_at hn.out hkn
   obtain ⟨g0, g1, g2, g3⟩ := hel.out k q hq
   have hqm := hm.out q (List.mem_of_getElem? hq)
   have hkk : (k : Int) < n := by omega
   have J := Lib.hid (fun w => kjoin1_any o' q w (may_wf hom) (may_wf hqm))
   have hjm := joinR_may hom hqm
   have hfo' : (l.drop (k + 1)).foldl joinR (joinR o' q) = RES := by have h := hfo.out; rw [drop_get hq, List.foldl_cons] at h; exact h
   replace hfo' := Lib.hid hfo'
   replace hjm := Lib.hid hjm
   have g0 := (hbr.cell (p := ⟨b, o + k * 4, none⟩) hb).trans g0
   have g1 := (hbr.cell (p := ⟨b, o + k * 4 + 1, none⟩) hb).trans g1
   have g2 := (hbr.cell (p := ⟨b, o + k * 4 + 2, none⟩) hb).trans g2
   have g3 := (hbr.cell (p := ⟨b, o + k * 4 + 3, none⟩) hb).trans g3
   have c0 := BO.cell (o := 0) rfl
   have c1 := BO.cell (o := 1) rfl
   have c2 := BO.cell (o := 2) rfl
   have c3 := BO.cell (o := 3) rfl
   have y3 := BO.lt
   have yb : b < wv.heap.size := by omega
   clear hq
   go_upto_region 5 with fail
   refine wp_region_steady_then (Held wv 0 []) 6 (by kernel_rfl) (by kernel_rfl) (by decide) (by kernel_rfl) (by kernel_rfl) ⟨belt, (by (try simp) <;> omega), (by first | exact trivial | (simp only [Cells]; go_simp))⟩ ?_
   simp only [List.take_succ_cons, List.take_zero]
   repeat (first | (refine' wpSteady_do _ _ _; rotate_left; (focus rfl); (focus (intro w1 hS R hR; have hc := hS.cells; simp only [Cells] at hc; obtain ⟨hco, hfo⟩ := bcell hS.old; go_simp; (try go_bits); first | exact hR _ hS | (go_at_call 122; (with_reducible refine (J.out _).mono ?_); rintro e w2 ⟨rfl, hb2⟩; exact ⟨_, rfl, hR _ (hS.below hb2)⟩))); simp only [pu]) | (refine wpSteady_pass ?_ ?_; (focus rfl); simp only [pu]))
   refine wpSteady_nil (fun uA hSA => ?_)
   have hcA := hSA.cells; have hbA := hSA.old; have hzA := hSA.size; clear hSA; simp only [Cells] at hcA; obtain ⟨hcoA, hfoA⟩ := bcell hbA
   simp only [List.drop_succ_cons, List.drop_zero, List.drop_nil]
   have BO6 := BO.below hbA BO.lt
   clear c0 c1 c2 c3 g0 g1 g2 g3 hcoA hfoA
   have e0 := BO6.cell (o := 0) rfl
   have e1 := BO6.cell (o := 1) rfl
   have e2 := BO6.cell (o := 2) rfl
   have e3 := BO6.cell (o := 3) rfl
   have fz := BO6.free
   have ys := BO6.lt
   go_wp2
   have HZ : Blk _ b3 (Re.enc (joinR o' q)) 32 := (((BO6.set 0 (.int .i64 (joinR o' q).x)).set 1 (.int .i64 (joinR o' q).y)).set 2 (.int .i64 (joinR o' q).wd)).set 3 (.int .i64 (joinR o' q).ht)
   have hbr6 := hbr.trans (hbA.mono zr)
   have hbb : w.heap.size ≤ b3 := by have := hb3.out; omega
   exact ⟨⟨k + 1, _, by omega, by omega, by go_num, HZ, hjm.out, hfo', (((hbr6.setCell (p := ⟨b3, 0, none⟩) hbb _).setCell (p := ⟨b3, 1, none⟩) hbb _).setCell (p := ⟨b3, 2, none⟩) hbb _).setCell (p := ⟨b3, 3, none⟩) hbb _⟩, by simp [intOf]; omega⟩
  ·obtain rfl : k = n := by omega
   have e1 : o' = RES := by have h := hfo.out; rw [List.drop_of_length_le (by rw [hn.out]; exact Nat.le_refl _)] at h; exact h
   subst e1
   have hkk : ¬ (k : Int) < k := by omega
   have c0 := BO.cell (o := 0) rfl
   have c1 := BO.cell (o := 1) rfl
   have c2 := BO.cell (o := 2) rfl
   have c3 := BO.cell (o := 3) rfl
   go_wp2
   go_ret
   refine ⟨hbr.alloc zr _, _, rfl, ?_⟩
   exact CutR.of (Blk.ownsR (rs := [o']) (show Blk _ _ _ _ from Blk.new' (cs := [.int .i64 o'.x, .int .i64 o'.y, .int .i64 o'.wd, .int .i64 o'.ht]) rfl) rfl zr (by unfold maxLen; omega)) rfl
end Go.Proofs.YtfcphagmjijmkaaGreatDoor

namespace Go.Proofs.YtfcphagmjijmkaaGreatDoor
open Go.RowKit
set_option linter.unusedVariables false
attribute [local go_sem] vwp vUpon_value vUpon_skip vUpon_enter vUpon_row
set_option linter.unusedSimpArgs false
set_option linter.unusedVariables false
/-! ### the least rectangle about some -/
def InR (a r : Re) : Prop := r.x ≤ a.x ∧ r.y ≤ a.y ∧ a.x + a.wd ≤ r.x + r.wd ∧ a.y + a.ht ≤ r.y + r.ht
theorem full_pos {q : Re} (h : emptyR q = false) : 0 < q.wd ∧ 0 < q.ht := by
  obtain ⟨_, h1, h2⟩ := full_bd h
  exact ⟨h1, h2⟩
theorem inR_of {a r : Re} (ha : emptyR a = false) (h : ∀ x y, hasR a x y = true → hasR r x y = true) : InR a r := by
  obtain ⟨h1, h2⟩ := full_pos ha
  have p1 := has_bd.1 (h a.x a.y (has_bd.2 (by omega)))
  have p2 := has_bd.1 (h (a.x + a.wd - 1) (a.y + a.ht - 1) (has_bd.2 (by omega)))
  unfold InR
  omega
theorem inR_eq {a b : Re} (h1 : InR a b) (h2 : InR b a) : a = b := by
  obtain ⟨ax, ay, aw, ah⟩ := a
  obtain ⟨bx, by', bw, bh⟩ := b
  unfold InR at h1 h2
  simp only at h1 h2
  simp only [Re.mk.injEq]
  omega
theorem join_in {a b r : Re} (ha : a = Re.none ∨ (emptyR a = false ∧ InR a r)) (hb : emptyR b = false) (hr : InR b r) : InR (joinR a b) r := by
  rcases ha with rfl | ⟨ha, hi⟩
  · rw [join_none b hb]; exact hr
  · rw [(join_full ha hb).1]
    unfold InR at *
    simp only
    omega
theorem abt_least {r : Re} : ∀ (l : List Re) (o : Re), (o = Re.none ∨ (emptyR o = false ∧ InR o r)) → (∀ q ∈ l, emptyR q = false ∧ InR q r) → l = [] ∨ InR (l.foldl joinR o) r
  | [], _, _, _ => .inl rfl
  | q :: l, o, ho, hl => by
    obtain ⟨hq, hi⟩ := hl q (List.mem_cons_self ..)
    have h1 := join_in ho hq hi
    have h2 : emptyR (joinR o q) = false := join_ok (ho.imp id And.left) hq
    rw [List.foldl_cons]
    rcases abt_least l (joinR o q) (.inr ⟨h2, h1⟩) (fun p hp => hl p (List.mem_cons_of_mem _ hp)) with rfl | h
    · exact .inr h1
    · exact .inr h
theorem has_memL {l : List Re} {q : Re} (hq : q ∈ l) {x y : Int} (h : hasR q x y = true) : hasL l x y = true := by
  unfold hasL
  exact List.any_eq_true.2 ⟨q, hq, h⟩
theorem abt_sub {l m : List Re} (hl : ∀ q ∈ l, emptyR q = false) (hm : ∀ q ∈ m, emptyR q = false) (h0 : l ≠ []) (h : ∀ x y, hasL l x y = true → hasL m x y = true) : InR (abtR l) (abtR m) := by
  have hm2 := (abt_go m Re.none (.inl rfl) hm).2
  rcases abt_least (r := abtR m) l Re.none (.inl rfl) (fun q hq => ⟨hl q hq, inR_of (hl q hq) fun x y hx => hm2 x y (.inr (h x y (has_memL hq hx)))⟩) with h1 | h1
  · exact absurd h1 h0
  · exact h1
theorem abt_same {l m : List Re} (hl : ∀ q ∈ l, emptyR q = false) (hm : ∀ q ∈ m, emptyR q = false) (h0 : l ≠ []) (h1 : m ≠ []) (h : ∀ x y, hasL l x y = hasL m x y) : abtR l = abtR m :=
  inR_eq (abt_sub hl hm h0 fun x y hx => by rw [← h]; exact hx) (abt_sub hm hl h1 fun x y hx => by rw [h]; exact hx)
/-! ### places that rise, as runs -/
def mrgB (p q : Re) : Bool := (p.y == q.y) && (p.x + p.wd == q.x)
def mrgS (G : List Re) (q : Re) : List Re := match G[G.length - 1]? with
  | some p => if mrgB p q then G.set (G.length - 1) ⟨p.x, p.y, p.wd + 1, p.ht⟩ else G ++ [q]
  | none => G ++ [q]
def mrgR (l : List Re) : List Re := l.foldl mrgS []
def UnitQ (q : Re) : Prop := q.wd = 1 ∧ q.ht = 1 ∧ mayR q = true
def MrgI (G : List Re) : Prop := ∀ p ∈ G, 0 < p.wd ∧ p.ht = 1 ∧ mayR p = true
theorem mrg_cases (G : List Re) (q : Re) : mrgS G q = G ++ [q] ∨ ∃ A p, G = A ++ [p] ∧ mrgB p q = true ∧ mrgS G q = A ++ [⟨p.x, p.y, p.wd + 1, p.ht⟩] := by
  rcases List.eq_nil_or_concat G with rfl | ⟨A, p, rfl⟩
  · exact .inl rfl
  · have e : (A ++ [p])[(A ++ [p]).length - 1]? = some p := by simp
    rw [List.concat_eq_append]
    unfold mrgS
    rw [e]
    simp only
    split
    · rename_i h
      refine .inr ⟨A, p, rfl, h, ?_⟩
      rw [List.length_append, List.length_singleton, Nat.add_sub_cancel, List.set_append_right _ _ (Nat.le_refl _), Nat.sub_self]
      rfl
    · exact .inl rfl
theorem mrg_step {G : List Re} {q : Re} (hG : MrgI G) (hq : UnitQ q) : MrgI (mrgS G q) ∧ (∀ x y, hasL (mrgS G q) x y = (hasL G x y || hasR q x y)) ∧ (mrgS G q).length ≤ G.length + 1 := by
  obtain ⟨q1, q2, q3⟩ := hq
  rcases mrg_cases G q with e | ⟨A, p, rfl, hb, e⟩
  · rw [e]
    refine ⟨fun p hp => ?_, fun x y => ?_, by simp⟩
    · rcases List.mem_append.1 hp with hp | hp
      · exact hG p hp
      · rw [List.mem_singleton.1 hp]; exact ⟨by omega, q2, q3⟩
    · rw [has_append]
      unfold hasL
      simp
  · obtain ⟨p1, p2, p3⟩ := hG p (by simp)
    unfold mrgB at hb
    simp only [Bool.and_eq_true, beq_iff_eq] at hb
    obtain ⟨b1, b2⟩ := hb
    rw [e]
    have m1 := may_bd p3
    have m2 := may_sum p3
    have m3 := may_bd q3
    have m4 := may_sum q3
    refine ⟨fun r hr => ?_, fun x y => ?_, by simp⟩
    · rcases List.mem_append.1 hr with hr | hr
      · exact hG r (by simp [hr])
      · rw [List.mem_singleton.1 hr]
        exact ⟨by simp only; omega, p2, may_of (by simp only; omega)⟩
    · rw [has_append, has_append]
      have h1 : hasL [(⟨p.x, p.y, p.wd + 1, p.ht⟩ : Re)] x y = (hasL [p] x y || hasR q x y) := by
        unfold hasL
        simp only [List.any_cons, List.any_nil, Bool.or_false]
        rw [Bool.eq_iff_iff, Bool.or_eq_true, has_bd, has_bd, has_bd]
        simp only
        omega
      rw [h1, Bool.or_assoc]
theorem mrg_go : ∀ (l G : List Re), MrgI G → (∀ q ∈ l, UnitQ q) → MrgI (l.foldl mrgS G) ∧ (∀ x y, hasL (l.foldl mrgS G) x y = (hasL G x y || hasL l x y)) ∧ (l.foldl mrgS G).length ≤ G.length + l.length
  | [], G, h, _ => ⟨h, fun x y => by simp [hasL], by simp⟩
  | q :: l, G, h, hl => by
    obtain ⟨a, b, c⟩ := mrg_step h (hl q (List.mem_cons_self ..))
    obtain ⟨d, e, f⟩ := mrg_go l (mrgS G q) a (fun p hp => hl p (List.mem_cons_of_mem _ hp))
    rw [List.foldl_cons]
    refine ⟨d, fun x y => ?_, by rw [List.length_cons]; omega⟩
    rw [e, b, Bool.or_assoc]
    rfl
theorem mrgI_nil : MrgI [] := fun p hp => by cases hp
theorem mrg_spec {l : List Re} (hl : ∀ q ∈ l, UnitQ q) : MayL (mrgR l) ∧ (mrgR l).length ≤ l.length ∧ formR (mrgR l) [] 1 = formR l [] 1 := by
  obtain ⟨a, b, c⟩ := mrg_go l [] mrgI_nil hl
  have m1 : MayL (mrgR l) := fun q hq => (a q hq).2.2
  have m2 : MayL l := fun q hq => (hl q hq).2.2
  refine ⟨m1, by have h := c; simp only [List.length_nil, Nat.zero_add] at h; exact h, form_same m1.sane mayL_nil.sane m2.sane mayL_nil.sane fun x y => ?_⟩
  rw [want1, want1]
  show (hasL (l.foldl mrgS []) x y || _) = _
  rw [b]
  rfl
/-! ### the document's answer -/
def rchL (wa ha : Int) (ls : List Ce) (wb hb : Int) (ms : List Ce) : List Re := if 1024 < (formR (unitL wa.toNat ls ms) [] 1).length then [abtR (unitL wa.toNat ls ms)] else formR (unitL wa.toNat ls ms) [] 1
theorem unit_q {W H : Nat} {ls ms : List Ce} (hl : ls.length = W * H) (hW : W ≤ 16384) (hH : H ≤ 16384) : ∀ q ∈ unitL W ls ms, UnitQ q := fun q hq => by
  have hm := unit_may (ms := ms) hl hW hH q hq
  unfold unitL at hq
  obtain ⟨k, hk, rfl⟩ := List.mem_map.1 hq
  exact ⟨rfl, rfl, hm⟩
theorem unit_full {W H : Nat} {ls ms : List Ce} (hl : ls.length = W * H) (hW : W ≤ 16384) (hH : H ≤ 16384) : ∀ q ∈ unitL W ls ms, emptyR q = false := fun q hq => by
  obtain ⟨h1, h2, h3⟩ := unit_q hl hW hH q hq
  exact full_mk h3 (by omega) (by omega)
end Go.Proofs.YtfcphagmjijmkaaGreatDoor

namespace Go.Proofs.YtfcphagmjijmkaaGreatDoor
open Go.RowKit
set_option linter.unusedVariables false
attribute [local go_sem] vwp vUpon_value vUpon_skip vUpon_enter vUpon_row
set_option linter.unusedSimpArgs false
set_option linter.unusedVariables false
theorem own_putW {w : World} {base g n cap k : Nat} {C : List Re} {q : Re} (h : OwnsR base w (.slice (some ⟨g, 0, none⟩) n cap) C) (hn : C.length = n) (hq : C[k]? = some q) (u : Int) : OwnsR base (w.setCell ⟨g, k * 4 + 2, none⟩ (.int .i64 u)) (.slice (some ⟨g, 0, none⟩) n cap) (C.set k ⟨q.x, q.y, u, q.ht⟩) := by
  have hk := (List.getElem?_eq_some_iff.1 hq).1
  unfold OwnsR at *
  rw [List.length_set, hn]
  rw [hn] at h
  have := own_put h (k := k * 4 + 2) (by omega) (.int .i64 u)
  rw [flat_set Re.enc_len 2 (.int .i64 u) q ⟨q.x, q.y, u, q.ht⟩ (by omega) rfl C k hq] at this
  exact this
theorem mrg_at {G : List Re} {q p : Re} {j : Nat} (hl : G.length = j + 1) (hp : G[j]? = some p) : mrgS G q = if mrgB p q then G.set j ⟨p.x, p.y, p.wd + 1, p.ht⟩ else G ++ [q] := by
  unfold mrgS
  rw [hl, Nat.add_sub_cancel, hp]
theorem mrg_nil {q : Re} : mrgS [] q = [] ++ [q] := rfl
set_option maxHeartbeats 1000000 in
theorem kform2_any (a : List Re) (va : Value) (w : World) (ha : Row w.heap.size 4 Re.enc w va a) (ma : MayL a) (la : a.length ≤ 100000) : Calls Tryz.prog 130 #[va] w (MadePost (madeE a [] 1) (madeL a [] 1) w) := by
  have M := kmade_any a [] va (.slice none 0 0) 1 w ha (nilRow _ _) ma mayL_nil la (by simp) (.inl rfl)
  generalize madeE a [] 1 = E at M ⊢
  generalize madeL a [] 1 = L at M ⊢
  clear ha
  replace M := Lib.hid M
  go_enter Tryz.func130, Tryz.ntmps130
  go_wp2_with (first
    | (go_at_call 123; (with_reducible refine (M.out).mono ?_); rintro e w2 ⟨hb2, v, rfl, hcut⟩)
    | go_in)
  go_ret2
  exact ⟨hb2, _, rfl, hcut⟩
set_option maxHeartbeats 8000000 in
set_option maxRecDepth 100000 in
theorem rform_any (l : List Re) (v : Value) (w : World) (hl : Row w.heap.size 4 Re.enc w v l) (hu : ∀ q ∈ l, UnitQ q) (hle : l.length ≤ 50000) : Calls Tryz.prog 82 #[v] w (MadePost (madeE l [] 1) (madeL l [] 1) w) := by
 obtain ⟨iR, hr0, hr1, hr2, hr3⟩ := info_parts infoRe
 obtain ⟨s1, cap, rfl, hmax⟩ := hl.shape
 have hop := fun h0 => row_re hl h0
 obtain ⟨r1, r2, r3⟩ := mrg_spec hu
 have eE : madeE l [] 1 = madeE (mrgR l) [] 1 := by unfold madeE; rw [r3]
 have eL : madeL l [] 1 = madeL (mrgR l) [] 1 := by unfold madeL; rw [r3]
 rw [eE, eL]
 have FC := fun W va h => kform2_any (mrgR l) va W h r1 (by omega)
 obtain ⟨R, hR⟩ : ∃ R, mrgR l = R := ⟨_, rfl⟩
 rw [hR] at FC ⊢
 obtain ⟨E, hE⟩ : ∃ R0, madeE R [] 1 = R0 := ⟨_, rfl⟩
 obtain ⟨L, hL⟩ : ∃ L, madeL R [] 1 = L := ⟨_, rfl⟩
 rw [hE, hL] at FC ⊢
 have h0 : (l.drop 0).foldl mrgS [] = R := hR
 obtain ⟨n, hn⟩ : ∃ n, l.length = n := ⟨_, rfl⟩
 rw [hn] at hop hle ⊢
 replace FC := Lib.hid FC
 replace hop := Lib.hid hop
 replace hn := Lib.hid hn
 replace hu := Lib.hid hu
 replace h0 := Lib.hid h0
 clear hl hmax r1 r2 r3 eE eL hR hE hL
 go_enter Tryz.func82, Tryz.ntmps82
 go_upto_region 3 with fail
 go_loopw [4, 5] (fun gv iv wr => ∃ (i : Nat) (G : List Re), i ≤ n ∧ iv = .int .i64 i ∧ OwnsR w.heap.size wr gv G ∧ Hid ((l.drop i).foldl mrgS G = R) ∧ Hid (MrgI G) ∧ G.length ≤ i ∧ Below w.heap.size w wr) (fun _ iv _ => n - (intOf iv).toNat)
 case atStart => exact ⟨0, [], Nat.zero_le _, rfl, OwnsR.nil _ _, h0, Lib.hid mrgI_nil, Nat.le_refl _, Below.refl _ _⟩
 case round =>
  clear h0
  obtain ⟨i, G, hi, rfl, O4, hgo, hI, hGl, hbr⟩ := hrel
  obtain ⟨wv, rfl⟩ : ∃ x, x = wr := ⟨_, rfl⟩
  have zr := hbr.size
  obtain ⟨s4, c4, hv4⟩ := own_slice O4
  obtain ⟨m, hm⟩ : ∃ m, G.length = m := ⟨_, rfl⟩
  rw [hm] at hv4 hGl
  subst hv4
  by_cases hin : i < n
  ·have hii : (i : Int) < n := by omega
   obtain ⟨b, o, cap', e, hb, hc1, _, hel⟩ := hop.out (by omega)
   simp only [Value.slice.injEq] at e
   obtain ⟨rfl, _, rfl⟩ := e
   obtain ⟨q, hq⟩ := get_at hn.out hin
   have huq := hu.out q (List.mem_of_getElem? hq)
   obtain ⟨a0, a1, a2, a3⟩ := hel i q hq
   have hgo2 := hgo.out
   rw [drop_get hq, List.foldl_cons] at hgo2
   have hst := hgo2
   have hgI := (mrg_step hI.out huq).1
   have O4' : wv.ownsRow w.heap.size 32 4 (.slice s4 m c4) m (G.flatMap Re.enc) := by have h := O4; unfold OwnsR at h; rw [hm] at h; exact h
   have lo := fun g hg => (own_in O4 g hg).1
   have a0 := (hbr.cell (p := ⟨b, o + i * 4, none⟩) hb).trans a0
   have a1 := (hbr.cell (p := ⟨b, o + i * 4 + 1, none⟩) hb).trans a1
   have a2 := (hbr.cell (p := ⟨b, o + i * 4 + 2, none⟩) hb).trans a2
   have a3 := (hbr.cell (p := ⟨b, o + i * 4 + 3, none⟩) hb).trans a3
   have yb : b < wv.heap.size := by omega
   have mq := may_bd huq.2.2
   obtain ⟨qx, qy, qw, qh⟩ := q
   simp only at a0 a1 a2 a3 mq
   replace O4' := Lib.hid O4'
   replace lo := Lib.hid lo
   clear hq hel hgo2 hgo huq
   cases m with
   | zero =>
    have hG0 : G = [] := List.length_eq_zero_iff.1 hm
    subst hG0
    rw [mrg_nil] at hst hgI
    replace hst := Lib.hid hst
    replace hgI := Lib.hid hgI
    replace hm := Lib.hid hm
    clear O4 hI
    go_upto_region 6 with fail
    refine wp_region_steady (Held wv 0 []) (by kernel_rfl) (by kernel_rfl) ⟨belt, (by (try simp) <;> omega), (by first | exact trivial | (simp only [Cells]; go_simp))⟩ ?_
    repeat (first | (refine' wpSteady_do _ _ _; rotate_left; (focus rfl); (focus (intro w1 hS R hR; have hc := hS.cells; simp only [Cells] at hc; obtain ⟨hco, hfo⟩ := bcell hS.old; go_simp; (try go_bits); first | exact hR _ hS | fail)); simp only [pu]) | (refine wpSteady_pass ?_ ?_; (focus rfl); simp only [pu]))
    refine wpSteady_nil (fun uA hSA => ?_)
    have hcA := hSA.cells; have hbA := hSA.old; have hzA := hSA.size; clear hSA; simp only [Cells] at hcA; obtain ⟨hcoA, hfoA⟩ := bcell hbA
    have hbrA := hbr.trans (hbA.mono zr)
    have zA := hbrA.size
    have O4A := Lib.hid (ownsRow_below O4'.out hbA (Nat.le_refl _))
    have a0A := (hbA.cell (p := ⟨b, o + i * 4, none⟩) yb).trans a0
    have a1A := (hbA.cell (p := ⟨b, o + i * 4 + 1, none⟩) yb).trans a1
    have a2A := (hbA.cell (p := ⟨b, o + i * 4 + 2, none⟩) yb).trans a2
    have a3A := (hbA.cell (p := ⟨b, o + i * 4 + 3, none⟩) yb).trans a3
    have ybA : b < uA.heap.size := by omega
    clear a0 a1 a2 a3 hcoA hfoA O4'
    go_wp2_with (first
     | (at_builtin; refine wpList_append_own _ rfl _ _ _ rfl w.heap.size 32 iR _ 4 32 Tryz.underlying25 hr0 hr1 hr2 hr3 rfl (by omega) _ 0 _ (by rfl) (O4A.out.alloc _) ⟨uA.heap.size, 0, none⟩ 1 1 [.int .i64 qx, .int .i64 qy, .int .i64 qw, .int .i64 qh] (by rfl) rfl (cells_new uA [.int .i64 qx, .int .i64 qy, .int .i64 qw, .int .i64 qh] 32) (by intro u hu; simp only [List.mem_cons, List.not_mem_nil, or_false] at hu; rcases hu with rfl | rfl | rfl | rfl <;> rfl) (by unfold maxLen; omega) (by omega) (by simp; omega) ?_; intro v6 w6 hown6 hgr6 _; replace hown6 := Lib.hid hown6; replace hgr6 := Lib.hid hgr6)
     | go_in)
    have hbn := (hbrA.alloc zA (.cells #[.int .i64 qx, .int .i64 qy, .int .i64 qw, .int .i64 qh] 32)).grown hgr6.out (by simp; omega) (fun g hg => lo.out g hg)
    clear hbr
    go_roundw
    case rel =>
     refine ⟨i + 1, _, by omega, by go_num, ?_, hst, hgI, by rw [List.length_append, hm.out, List.length_singleton]; omega, hbn⟩
     unfold OwnsR
     rw [List.length_append, hm.out, List.flatMap_append]
     exact hown6.out
    case measure => simp [intOf]; omega
   | succ j =>
    obtain ⟨p, hp⟩ := get_at hm (show j < j + 1 by omega)
    rw [mrg_at hm hp] at hst hgI
    obtain ⟨g, rfl, hg1, hg2⟩ := own_addr O4'.out (by omega)
    obtain ⟨p0, p1, p2, p3⟩ := own_rmem O4 hp
    obtain ⟨_, _, hpm⟩ := hI.out p (List.mem_of_getElem? hp)
    have mp := may_bd hpm
    have ms := may_sum hpm
    have hjj : (j : Int) < (j : Int) + 1 := by omega
    obtain ⟨px, py, pw, ph⟩ := p
    simp only at p0 p1 p2 p3 mp ms
    replace hm := Lib.hid hm
    replace hp := Lib.hid hp
    unfold mrgB at hst hgI
    cases b1 : (py == qy)
    ·simp only [b1, Bool.false_and, Bool.false_eq_true, if_false] at hst hgI
     replace hst := Lib.hid hst
     replace hgI := Lib.hid hgI
     clear hI hpm O4
     go_upto_region 6 with fail
     refine wp_region_steady (Held wv 0 []) (by kernel_rfl) (by kernel_rfl) ⟨belt, (by (try simp) <;> omega), (by first | exact trivial | (simp only [Cells]; go_simp))⟩ ?_
     repeat (first | (refine' wpSteady_do _ _ _; rotate_left; (focus rfl); (focus (intro w1 hS R hR; have hc := hS.cells; simp only [Cells] at hc; obtain ⟨hco, hfo⟩ := bcell hS.old; go_simp; (try go_bits); first | exact hR _ hS | fail)); simp only [pu]) | (refine wpSteady_pass ?_ ?_; (focus rfl); simp only [pu]))
     refine wpSteady_nil (fun uA hSA => ?_)
     have hcA := hSA.cells; have hbA := hSA.old; have hzA := hSA.size; clear hSA; simp only [Cells] at hcA; obtain ⟨hcoA, hfoA⟩ := bcell hbA
     have hbrA := hbr.trans (hbA.mono zr)
     have zA := hbrA.size
     have O4A := Lib.hid (ownsRow_below O4'.out hbA (Nat.le_refl _))
     have a0A := (hbA.cell (p := ⟨b, o + i * 4, none⟩) yb).trans a0
     have a1A := (hbA.cell (p := ⟨b, o + i * 4 + 1, none⟩) yb).trans a1
     have a2A := (hbA.cell (p := ⟨b, o + i * 4 + 2, none⟩) yb).trans a2
     have a3A := (hbA.cell (p := ⟨b, o + i * 4 + 3, none⟩) yb).trans a3
     have ybA : b < uA.heap.size := by omega
     clear a0 a1 a2 a3 hcoA hfoA O4'
     go_wp2_with (first
      | (at_builtin; refine wpList_append_own _ rfl _ _ _ rfl w.heap.size 32 iR _ 4 32 Tryz.underlying25 hr0 hr1 hr2 hr3 rfl (by omega) _ (j + 1) _ (by rfl) (O4A.out.alloc _) ⟨uA.heap.size, 0, none⟩ 1 1 [.int .i64 qx, .int .i64 qy, .int .i64 qw, .int .i64 qh] (by rfl) rfl (cells_new uA [.int .i64 qx, .int .i64 qy, .int .i64 qw, .int .i64 qh] 32) (by intro u hu; simp only [List.mem_cons, List.not_mem_nil, or_false] at hu; rcases hu with rfl | rfl | rfl | rfl <;> rfl) (by unfold maxLen; omega) (by omega) (by simp; omega) ?_; intro v6 w6 hown6 hgr6 _; replace hown6 := Lib.hid hown6; replace hgr6 := Lib.hid hgr6)
      | go_in)
     have hbn := (hbrA.alloc zA (.cells #[.int .i64 qx, .int .i64 qy, .int .i64 qw, .int .i64 qh] 32)).grown hgr6.out (by simp; omega) (fun g hg => lo.out g hg)
     clear hbr
     go_roundw
     case rel =>
      refine ⟨i + 1, _, by omega, by go_num, ?_, hst, hgI, by rw [List.length_append, hm.out, List.length_singleton]; omega, hbn⟩
      unfold OwnsR
      rw [List.length_append, hm.out, List.flatMap_append]
      exact hown6.out
     case measure => simp [intOf]; omega
    ·cases b2 : (px + pw == qx)
     ·simp only [b1, b2, Bool.and_false, Bool.false_eq_true, if_false] at hst hgI
      replace hst := Lib.hid hst
      replace hgI := Lib.hid hgI
      clear hI hpm O4
      go_upto_region 6 with fail
      refine wp_region_steady (Held wv 0 []) (by kernel_rfl) (by kernel_rfl) ⟨belt, (by (try simp) <;> omega), (by first | exact trivial | (simp only [Cells]; go_simp))⟩ ?_
      repeat (first | (refine' wpSteady_do _ _ _; rotate_left; (focus rfl); (focus (intro w1 hS R hR; have hc := hS.cells; simp only [Cells] at hc; obtain ⟨hco, hfo⟩ := bcell hS.old; go_simp; (try go_bits); first | exact hR _ hS | fail)); simp only [pu]) | (refine wpSteady_pass ?_ ?_; (focus rfl); simp only [pu]))
      refine wpSteady_nil (fun uA hSA => ?_)
      have hcA := hSA.cells; have hbA := hSA.old; have hzA := hSA.size; clear hSA; simp only [Cells] at hcA; obtain ⟨hcoA, hfoA⟩ := bcell hbA
      have hbrA := hbr.trans (hbA.mono zr)
      have zA := hbrA.size
      have O4A := Lib.hid (ownsRow_below O4'.out hbA (Nat.le_refl _))
      have a0A := (hbA.cell (p := ⟨b, o + i * 4, none⟩) yb).trans a0
      have a1A := (hbA.cell (p := ⟨b, o + i * 4 + 1, none⟩) yb).trans a1
      have a2A := (hbA.cell (p := ⟨b, o + i * 4 + 2, none⟩) yb).trans a2
      have a3A := (hbA.cell (p := ⟨b, o + i * 4 + 3, none⟩) yb).trans a3
      have ybA : b < uA.heap.size := by omega
      clear a0 a1 a2 a3 hcoA hfoA O4'
      go_wp2_with (first
       | (at_builtin; refine wpList_append_own _ rfl _ _ _ rfl w.heap.size 32 iR _ 4 32 Tryz.underlying25 hr0 hr1 hr2 hr3 rfl (by omega) _ (j + 1) _ (by rfl) (O4A.out.alloc _) ⟨uA.heap.size, 0, none⟩ 1 1 [.int .i64 qx, .int .i64 qy, .int .i64 qw, .int .i64 qh] (by rfl) rfl (cells_new uA [.int .i64 qx, .int .i64 qy, .int .i64 qw, .int .i64 qh] 32) (by intro u hu; simp only [List.mem_cons, List.not_mem_nil, or_false] at hu; rcases hu with rfl | rfl | rfl | rfl <;> rfl) (by unfold maxLen; omega) (by omega) (by simp; omega) ?_; intro v6 w6 hown6 hgr6 _; replace hown6 := Lib.hid hown6; replace hgr6 := Lib.hid hgr6)
       | go_in)
      have hbn := (hbrA.alloc zA (.cells #[.int .i64 qx, .int .i64 qy, .int .i64 qw, .int .i64 qh] 32)).grown hgr6.out (by simp; omega) (fun g hg => lo.out g hg)
      clear hbr
      go_roundw
      case rel =>
       refine ⟨i + 1, _, by omega, by go_num, ?_, hst, hgI, by rw [List.length_append, hm.out, List.length_singleton]; omega, hbn⟩
       unfold OwnsR
       rw [List.length_append, hm.out, List.flatMap_append]
       exact hown6.out
      case measure => simp [intOf]; omega
     ·simp only [b1, b2, Bool.and_self, if_true] at hst hgI
      replace hst := Lib.hid hst
      replace hgI := Lib.hid hgI
      clear hI hpm
      go_upto_region 6 with fail
      refine wp_region_steady (Held wv 0 []) (by kernel_rfl) (by kernel_rfl) ⟨belt, (by (try simp) <;> omega), (by first | exact trivial | (simp only [Cells]; go_simp))⟩ ?_
      repeat (first | (refine' wpSteady_do _ _ _; rotate_left; (focus rfl); (focus (intro w1 hS R hR; have hc := hS.cells; simp only [Cells] at hc; obtain ⟨hco, hfo⟩ := bcell hS.old; go_simp; (try go_bits); first | exact hR _ hS | fail)); simp only [pu]) | (refine wpSteady_pass ?_ ?_; (focus rfl); simp only [pu]))
      refine wpSteady_nil (fun uA hSA => ?_)
      have hcA := hSA.cells; have hbA := hSA.old; have hzA := hSA.size; clear hSA; simp only [Cells] at hcA; obtain ⟨hcoA, hfoA⟩ := bcell hbA
      have p2A := (hbA.cell (p := ⟨g, j * 4 + 2, none⟩) hg2).trans p2
      have OA := OwnsR.below O4 hbA (Nat.le_refl _)
      have fA := own_unfzR OA
      have hbrA := hbr.trans (hbA.mono zr)
      have ygA : g < uA.heap.size := by have := hbA.size; omega
      clear hcoA hfoA O4' O4 p0 p1 p2 p3 a0 a1 a2 a3
      go_wp2
      go_roundw
      case rel => exact ⟨i + 1, _, by omega, by go_num, own_putW OA hm.out hp.out (pw + 1), hst, hgI, by rw [List.length_set, hm.out]; omega, hbrA.setCell (p := ⟨g, j * 4 + 2, none⟩) hg1 _⟩
      case measure => simp [intOf]; omega
  ·obtain rfl : i = n := by omega
   have hii : ¬ (i : Int) < i := by omega
   have eG : G = R := by have h := hgo.out; rw [List.drop_of_length_le (by rw [hn.out]; exact Nat.le_refl _)] at h; exact h
   subst eG
   have FC := Lib.hid (FC.out wv (.slice s4 m c4) (O4.row (Nat.le_refl _)))
   clear O4 hgo hI
   go_wp2_with (go_at_call 130; (with_reducible refine FC.out.mono ?_); rintro e w9 ⟨hb9, v9, rfl, O9⟩)
   go_ret2
   exact ⟨hbr.trans (hb9.mono zr), _, rfl, own_less O9 zr⟩
end Go.Proofs.YtfcphagmjijmkaaGreatDoor

namespace Go.Proofs.YtfcphagmjijmkaaGreatDoor
open Go.RowKit
set_option linter.unusedVariables false
attribute [local go_sem] vwp vUpon_value vUpon_skip vUpon_enter vUpon_row
set_option linter.unusedSimpArgs false
set_option linter.unusedVariables false
attribute [local go_sem high] neq_cell neq_size
theorem chg_ref {wa ha wb hb : Int} {xs ys : List Ce} (h : chgE wa ha xs wb hb ys = 0) : chgL wa ha xs wb hb ys = rchL wa ha xs wb hb ys := by
  have ho : runsOk wa ha xs wb hb ys = true := by
    unfold chgE runsE at h
    split at h
    · assumption
    · exact absurd h (by decide)
  obtain ⟨h1, h2, rfl, rfl⟩ := runsOk_iff.1 ho
  have ef := chgF_form h1 h2
  have sn := size_nat h1
  have um := unit_may (ms := ys) sn.1 sn.2.1 sn.2.2
  unfold chgL rchL
  rw [ef]
  split
  · rename_i hlen
    have uf := unit_full (ms := ys) sn.1 sn.2.1 sn.2.2
    have ff := form_full um mayL_nil 1
    have hs : ∀ x y, hasL (formR (unitL wa.toNat xs ys) [] 1) x y = hasL (unitL wa.toNat xs ys) x y := fun x y => by
      rw [form_places um.sane mayL_nil.sane, want1, has_nil, Bool.or_false]
    have n1 : formR (unitL wa.toNat xs ys) [] 1 ≠ [] := fun e => by rw [e] at hlen; simp at hlen
    have n2 : unitL wa.toNat xs ys ≠ [] := fun e => by
      rw [e] at n1
      exact n1 rfl
    rw [abt_same ff uf n1 n2 hs]
  · rfl
def unitI (N : Nat) (ls ms : List Ce) (i : Nat) : List Re := ((List.range i).filter (dif ls ms)).map (unitR N)
theorem unitI_step (N : Nat) (ls ms : List Ce) (i : Nat) : unitI N ls ms (i + 1) = unitI N ls ms i ++ (if dif ls ms i then [unitR N i] else []) := by
  unfold unitI
  rw [List.range_succ, List.filter_append, List.map_append]
  congr 1
  cases h : dif ls ms i <;> simp [h]
theorem unitI_end (N : Nat) (ls ms : List Ce) : unitI N ls ms ls.length = unitL N ls ms := rfl
theorem unitI_len (N : Nat) (ls ms : List Ce) (i : Nat) : (unitI N ls ms i).length ≤ i := by
  unfold unitI
  rw [List.length_map]
  exact Nat.le_trans (List.length_filter_le _ _) (by simp)
set_option maxHeartbeats 16000000 in
set_option maxRecDepth 100000 in
theorem rchanged_any (wa ha : Int) (xs : List Ce) (va : Value) (wb hb : Int) (ys : List Ce) (vb : Value) (w : World) (h1 : I64 wa) (h2 : I64 ha) (h3 : I64 wb) (h4 : I64 hb) (hl : Row w.heap.size 11 Ce.enc w va xs) (hl2 : Row w.heap.size 11 Ce.enc w vb ys) (hle : xs.length ≤ 3000) :
    Calls Tryz.prog 35 #[.agg #[.int .i64 (wa), .int .i64 (ha), va], .agg #[.int .i64 (wb), .int .i64 (hb), vb]] w (OutDm w.heap.size (chgE wa ha xs wb hb ys) (chgL wa ha xs wb hb ys) w) := by
  obtain ⟨iR, hr0, hr1, hr2, hr3⟩ := info_parts infoRe
  have C1 := fun w1 (hb : Below w.heap.size w w1) => crcheck_any wa ha xs va w1 h1 h2 ((hl.below hb).mono hb.size)
  have C2 := fun w1 (hb' : Below w.heap.size w w1) => crcheck_any wb hb ys vb w1 h3 h4 ((hl2.below hb').mono hb'.size)
  obtain ⟨s0, cap, rfl, hmax⟩ := hl.shape
  obtain ⟨s1, cap1, rfl, hmax1⟩ := hl2.shape
  have hbad : chgE wa ha xs wb hb ys ≠ 0 → chgL wa ha xs wb hb ys = [] := fun h => chg_bad h
  have href : chgE wa ha xs wb hb ys = 0 → chgL wa ha xs wb hb ys = rchL wa ha xs wb hb ys := fun h => chg_ref h
  have hEd : chgE wa ha xs wb hb ys = if runsOk wa ha xs wb hb ys then 0 else 150 := rfl
  obtain ⟨E, hE⟩ : ∃ E, chgE wa ha xs wb hb ys = E := ⟨_, rfl⟩
  obtain ⟨L, hL⟩ : ∃ E, chgL wa ha xs wb hb ys = E := ⟨_, rfl⟩
  rw [hE, hL] at hbad href ⊢
  rw [hE] at hEd
  obtain ⟨ok, hok⟩ : ∃ b, runsOk wa ha xs wb hb ys = b := ⟨_, rfl⟩
  rw [hok] at hEd
  unfold runsOk at hok
  have CS1 := chkS_cases wa ha xs
  have CZ1 : chkS wa ha xs = 0 → _ := fun h => chkS_zero h
  have CN1 : chkS wa ha xs = 0 → _ := fun h => size_nat h
  have CS2 := chkS_cases wb hb ys
  have CZ2 : chkS wb hb ys = 0 → _ := fun h => chkS_zero h
  obtain ⟨E1, hE1⟩ : ∃ E, chkS wa ha xs = E := ⟨_, rfl⟩
  obtain ⟨E2, hE2⟩ : ∃ E, chkS wb hb ys = E := ⟨_, rfl⟩
  rw [hE1] at C1 CS1 CZ1 CN1 hok
  rw [hE2] at C2 CS2 CZ2 hok
  clear hE1 hE2
  have hop := fun h0 => row_ce hl h0
  have hop2 := fun h0 => row_ce hl2 h0
  obtain ⟨n, en⟩ : ∃ n, xs.length = n := ⟨_, rfl⟩
  obtain ⟨m, em⟩ : ∃ m, ys.length = m := ⟨_, rfl⟩
  rw [en] at hop C1 hmax hle ⊢
  rw [em] at hop2 C2 hmax1 ⊢
  replace hop := Lib.hid hop
  replace hop2 := Lib.hid hop2
  replace hbad := Lib.hid hbad
  replace href := Lib.hid href
  replace CZ1 := Lib.hid CZ1
  replace CN1 := Lib.hid CN1
  replace CZ2 := Lib.hid CZ2
  replace hEd := Lib.hid hEd
  replace hok := Lib.hid hok
  clear hl hl2 hE hL
  go_enter Tryz.func35, Tryz.ntmps35
  go_upto_region 1 with fail
  obtain ⟨W, hW⟩ : ∃ W, (w.alloc (.cells #[.int .i64 wa, .int .i64 ha, .slice s0 n cap] 40)).alloc (.cells #[.int .i64 wb, .int .i64 hb, .slice s1 m cap1] 40) = W := ⟨_, rfl⟩
  obtain ⟨b2, hb2⟩ : ∃ b, w.heap.size = b := ⟨_, rfl⟩
  have B2 : Blk W b2 [.int .i64 wa, .int .i64 ha, .slice s0 n cap] 40 := by rw [← hW]; exact (Blk.new' hb2.symm).alloc _
  have B3 : Blk W (b2 + 1) [.int .i64 wb, .int .i64 hb, .slice s1 m cap1] 40 := by rw [← hW]; exact Blk.new' (by simp [hb2])
  have hbw : Below w.heap.size w W := by rw [← hW]; exact belt
  rw [hW, hb2]
  clear hW
  replace hb2 := Lib.hid hb2
  have yB2 := B2.lt
  have yB3 := B3.lt
  have q0 := B2.cell (o := 0) rfl
  have q1 := B2.cell (o := 1) rfl
  have q2 := B2.cell (o := 2) rfl
  go_upto_region 2 with (go_at_call 76; (with_reducible refine (C1 W hbw).mono ?_); rintro e w1 ⟨rfl, hb1⟩)
  have hbw1 := hbw.trans (hb1.mono hbw.size)
  have D2 := B2.below hb1 yB2
  have D3 := B3.below hb1 yB3
  clear q0 q1 q2 yB2 yB3 B2 B3 hb1 hbw C1
  have q0 := D2.cell (o := 0) rfl
  have q1 := D2.cell (o := 1) rfl
  have q2 := D2.cell (o := 2) rfl
  have p0 := D3.cell (o := 0) rfl
  have p1 := D3.cell (o := 1) rfl
  have p2 := D3.cell (o := 2) rfl
  have yD2 := D2.lt
  have yD3 := D3.lt
  rcases CS1 with e1 | e1
  · subst e1
    go_upto_region 5 with (go_at_call 76; (with_reducible refine (C2 w1 hbw1).mono ?_); rintro e w2 ⟨rfl, hb2'⟩)
    have hbw2 := hbw1.trans (hb2'.mono hbw1.size)
    replace D2 := D2.below hb2' yD2
    replace D3 := D3.below hb2' yD3
    clear q0 q1 q2 p0 p1 p2 yD2 yD3 hb2' hbw1 C2
    have q0 := D2.cell (o := 0) rfl
    have q1 := D2.cell (o := 1) rfl
    have p0 := D3.cell (o := 0) rfl
    have p1 := D3.cell (o := 1) rfl
    have yD2 := D2.lt
    have yD3 := D3.lt
    rcases CS2 with e2 | e2
    · subst e2
      by_cases hsz : wa = wb ∧ ha = hb
      · obtain ⟨rfl, rfl⟩ := hsz
        have hokT : ok = true := by rw [← hok.out]; simp
        subst hokT
        have hE0 : E = 0 := hEd.out
        subst hE0
        have hLr := href.out rfl
        subst hLr
        obtain ⟨sn1, sn2, sn3⟩ := CN1.out (by trivial)
        obtain ⟨_, hlenY, _⟩ := CZ2.out (by trivial)
        obtain ⟨hfit, hlenX, _⟩ := CZ1.out (by trivial)
        obtain ⟨z0, z1, z2, z3, z4⟩ := fitsS_true.1 hfit
        have hmn : m = n := by
          have h : ((ys.length : Nat) : Int) = ((xs.length : Nat) : Int) := by rw [hlenX, hlenY]
          rw [← en, ← em]
          exact Int.ofNat.inj h
        subst hmn
        obtain ⟨N, rfl⟩ : ∃ N : Nat, wa = N := ⟨wa.toNat, by omega⟩
        rw [Int.toNat_natCast] at sn1 sn2
        have uq := unit_q (ms := ys) sn1 sn2 sn3
        have uf := unit_full (ms := ys) sn1 sn2 sn3
        have ul : (unitL N xs ys).length ≤ 3000 := by
          rw [← unitI_end]
          exact Nat.le_trans (unitI_len _ _ _ _) (by rw [en]; exact hle)
        have hNp : ∀ i, i < m → 0 < N := fun i hi => by
          rw [← en, sn1] at hi
          cases N with
          | zero => simp at hi
          | succ N => omega
        have FC := fun W v h => rform_any (unitL N xs ys) v W h uq (by omega)
        have AC := fun W v h h0 => rabout_any (unitL N xs ys) v W h (fun q hq => (uq q hq).2.2) uf h0
        have ue : unitI N xs ys m = unitL N xs ys := by rw [← en]; exact unitI_end N xs ys
        have rl : rchL N ha xs N ha ys = if 1024 < (formR (unitL N xs ys) [] 1).length then [abtR (unitL N xs ys)] else formR (unitL N xs ys) [] 1 := rfl
        obtain ⟨U, hU⟩ : ∃ U, unitL N xs ys = U := ⟨_, rfl⟩
        rw [hU] at FC AC ue ul rl
        obtain ⟨RS, hRS⟩ : ∃ l, (if 1024 < (formR U [] 1).length then [abtR U] else formR U [] 1) = l := ⟨_, rfl⟩
        rw [hRS] at rl
        replace hRS := Lib.hid hRS
        replace rl := Lib.hid rl
        replace FC := Lib.hid FC
        replace AC := Lib.hid AC
        replace ue := Lib.hid ue
        replace hNp := Lib.hid hNp
        replace en := Lib.hid en
        replace em := Lib.hid em
        replace hbw2 := Lib.hid hbw2
        clear hEd hbad href hok CZ1 CN1 CZ2 sn1 sn2 sn3 hlenX hlenY hfit z0 z1 z2 z3 z4 h1 h2 h3 h4 uq uf hU
        obtain ⟨W0, rfl⟩ : ∃ x, x = w2 := ⟨_, rfl⟩
        go_upto_region 11 with fail
        go_loopw [7, 8] (fun rv iv wr => ∃ i : Nat, i ≤ m ∧ iv = .int .i64 i ∧ OwnsR W0.heap.size wr rv (unitI N xs ys i) ∧ Below W0.heap.size W0 wr) (fun _ iv _ => m - (intOf iv).toNat)
        case atStart => exact ⟨0, Nat.zero_le _, rfl, OwnsR.nil _ _, Below.refl _ _⟩
        case round =>
          clear q0 q1 p0 p1
          obtain ⟨i, hi, rfl, O7, hbr⟩ := hrel
          obtain ⟨wv, rfl⟩ : ∃ x, x = wr := ⟨_, rfl⟩
          have zr := hbr.size
          have F2 := D2.below hbr yD2
          have F3 := D3.below hbr yD3
          have q0 := F2.cell (o := 0) rfl
          have q2 := F2.cell (o := 2) rfl
          have p2 := F3.cell (o := 2) rfl
          have yF2 := F2.lt
          have yF3 := F3.lt
          by_cases him : i < m
          · have hii : (i : Int) < m := by omega
            obtain ⟨ga, oa, d1, e1, hga, hca, _, hela⟩ := hop.out (by omega)
            obtain ⟨gb, ob, d2, e2, hgb, hcb, _, helb⟩ := hop2.out (by omega)
            simp only [Value.slice.injEq] at e1 e2
            obtain ⟨rfl, _, rfl⟩ := e1
            obtain ⟨rfl, _, rfl⟩ := e2
            obtain ⟨a, ha1⟩ := get_at en.out him
            obtain ⟨b, hb1⟩ := get_at em.out him
            have hdf := dif_at ha1 hb1
            have hw0 := hbw2.out.trans (hbr.mono hbw2.out.size)
            have Ma := (hela i a ha1).below hw0 hga
            have Mb := (helb i b hb1).below hw0 hgb
            have yga : ga < wv.heap.size := by have := hw0.size; omega
            have ygb : gb < wv.heap.size := by have := hw0.size; omega
            have ust := unitI_step N xs ys i
            have uln := unitI_len N xs ys i
            have hN0 := hNp.out i him
            clear hela helb ha1 hb1
            obtain ⟨ra, ⟨a0, a1, a2, a3⟩, ⟨a4, a5, a6, a7⟩, a8, a9⟩ := a
            obtain ⟨rb, ⟨b0, b1, b2', b3⟩, ⟨b4, b5, b6, b7⟩, b8, b9⟩ := b
            obtain ⟨j0, j1, j2, j3, j4, j5, j6, j7, j8, j9, j10⟩ := Ma
            obtain ⟨i0, i1, i2, i3, i4, i5, i6, i7, i8, i9, i10⟩ := Mb
            dsimp only at j0 j1 j2 j3 j4 j5 j6 j7 j8 j9 j10 i0 i1 i2 i3 i4 i5 i6 i7 i8 i9 i10
            cases heq : Ce.eqb ⟨ra, ⟨a0, a1, a2, a3⟩, ⟨a4, a5, a6, a7⟩, a8, a9⟩ ⟨rb, ⟨b0, b1, b2', b3⟩, ⟨b4, b5, b6, b7⟩, b8, b9⟩
            · rw [heq] at hdf
              rw [hdf] at ust
              simp only [Bool.not_false, if_true] at ust
              go_upto_region 13 with fail
              refine wp_region_steady (Held wv 0 []) (by kernel_rfl) (by kernel_rfl) ⟨belt, (by (try simp) <;> omega), (by first | exact trivial | (simp only [Cells]; go_simp))⟩ ?_
              repeat (first | (refine' wpSteady_do _ _ _; rotate_left; (focus rfl); (focus (intro w1 hS R hR; have hc := hS.cells; simp only [Cells] at hc; obtain ⟨hco, hfo⟩ := bcell hS.old; go_simp; (try go_bits); first | exact hR _ hS | fail)); simp only [pu]) | (refine wpSteady_pass ?_ ?_; (focus rfl); simp only [pu]))
              refine wpSteady_nil (fun uA hSA => ?_)
              have hcA := hSA.cells; have hbA := hSA.old; have hzA := hSA.size; clear hSA; simp only [Cells] at hcA; obtain ⟨hcoA, hfoA⟩ := bcell hbA
              obtain ⟨s7, c7, hv7⟩ := own_slice O7
              obtain ⟨mm, hmm⟩ : ∃ k, (unitI N xs ys i).length = k := ⟨_, rfl⟩
              rw [hmm] at hv7 uln
              subst hv7
              have O7' : wv.ownsRow W0.heap.size 32 4 (.slice s7 mm c7) mm ((unitI N xs ys i).flatMap Re.enc) := by have h := O7; unfold OwnsR at h; rw [hmm] at h; exact h
              have lo := Lib.hid (fun g hg => (own_in O7 g hg).1)
              have hbrA := hbr.trans (hbA.mono zr)
              have zA := hbrA.size
              have O7A := ownsRow_below O7' hbA (Nat.le_refl _)
              have F2A := F2.below hbA yF2
              have hNi : (0 : Int) < N := by omega
              have hNn : ¬ N = 0 := by omega
              have hr : unitR N i = ⟨(i : Int) % (N : Int), (i : Int) / (N : Int), 1, 1⟩ := by unfold unitR; rw [Int.natCast_emod, Int.natCast_ediv]
              have hq0 : 0 ≤ (i : Int) / (N : Int) := Int.ediv_nonneg (by omega) (by omega)
              have hq1 : (i : Int) / (N : Int) ≤ i := Int.ediv_le_self _ (by omega)
              rw [hr] at ust
              replace hmm := Lib.hid hmm
              replace ust := Lib.hid ust
              clear O7 O7' hbr hcoA hfoA q0 q2 p2 F2 F3 j0 j1 j2 j3 j4 j5 j6 j7 j8 j9 j10 i0 i1 i2 i3 i4 i5 i6 i7 i8 i9 i10 hw0
              have q0 := F2A.cell (o := 0) rfl
              have yF2A := F2A.lt
              go_upto_region 14 with fail
              refine held_begin (Below W0.heap.size uA) (by kernel_rfl) (Below.drew (Below.refl _ _)) (fun hS => ?_)
              have hb0 : Below uA.heap.size uA uA.drew := Below.drew (Below.refl _ _)
              generalize uA.drew = u0 at hS hb0 ⊢
              have z0 := hb0.size
              have O70 := Lib.hid (ownsRow_below O7A hb0 (Nat.le_refl _))
              clear O7A
              (refine' held_do (i := 0) _ (by kernel_rfl) (by kernel_rfl) (by kernel_rfl) _ _ hS _ _; rotate_left 2; (focus exact geti); (focus exact fun _ _ _ h => h); (focus rfl); (focus (intro w1 hSS R hR; obtain ⟨hco, hfo⟩ := bcellB hSS; go_simp; (try go_bits); exact hR)); simp only [pu])
              (refine' held_do (i := 1) _ (by kernel_rfl) (by kernel_rfl) (by kernel_rfl) _ _ hS _ _; rotate_left 2; (focus exact geti); (focus exact fun _ _ _ h => h); (focus rfl); (focus (intro w1 hSS R hR; obtain ⟨hco, hfo⟩ := bcellB hSS; go_simp; (try go_bits); exact hR)); simp only [pu])
              (refine' held_do (i := 2) _ (by kernel_rfl) (by kernel_rfl) (by kernel_rfl) _ _ hS _ _; rotate_left 2; (focus exact geti); (focus exact fun _ _ _ h => h); (focus rfl); (focus (intro w1 hSS R hR; obtain ⟨hco, hfo⟩ := bcellB hSS; go_simp; (try go_bits); exact hR)); simp only [pu])
              (refine' held_do (i := 3) _ (by kernel_rfl) (by kernel_rfl) (by kernel_rfl) _ _ hS _ _; rotate_left 2; (focus exact geti); (focus exact fun _ _ _ h => h); (focus rfl); (focus (intro w1 hSS R hR; obtain ⟨hco, hfo⟩ := bcellB hSS; go_simp; (try go_bits); exact hR)); simp only [pu])
              (refine' held_do (i := 4) _ (by kernel_rfl) (by kernel_rfl) (by kernel_rfl) _ _ hS _ _; rotate_left 2; (focus exact geti); (focus exact fun _ _ _ h => h); (focus rfl); (focus (intro w1 hSS R hR; obtain ⟨hco, hfo⟩ := bcellB hSS; go_simp; (try go_bits); exact hR)); simp only [pu])
              (refine' held_do (i := 5) _ (by kernel_rfl) (by kernel_rfl) (by kernel_rfl) _ _ hS _ _; rotate_left 2; (focus exact geti); (focus exact fun _ _ _ h => h); (focus rfl); (focus (intro w1 hSS R hR; obtain ⟨hco, hfo⟩ := bcellB hSS; go_simp; (try go_bits); exact hR)); simp only [pu])
              (refine' held_do (i := 6) _ (by kernel_rfl) (by kernel_rfl) (by kernel_rfl) _ _ hS _ _; rotate_left 2; (focus exact geti); (focus exact fun _ _ _ h => h); (focus rfl); (focus (intro w1 hSS R hR; obtain ⟨hco, hfo⟩ := bcellB hSS; go_simp; (try go_bits); exact hR)); simp only [pu])
              (refine' held_do (i := 7) _ (by kernel_rfl) (by kernel_rfl) (by kernel_rfl) _ _ hS _ _; rotate_left 2; (focus exact geti); (focus exact fun _ _ _ h => h); (focus rfl); (focus (intro w1 hSS R hR; obtain ⟨hco, hfo⟩ := bcellB hSS; go_simp; (try go_bits); exact hR)); simp only [pu])
              (refine' held_do (i := 8) _ (by kernel_rfl) (by kernel_rfl) (by kernel_rfl) _ _ hS _ _; rotate_left 2; (focus exact geti); (focus exact fun _ _ _ h => h); (focus rfl); (focus (intro w1 hSS R hR; obtain ⟨hco, hfo⟩ := bcellB hSS; go_simp; (try go_bits); exact hR)); simp only [pu])
              (refine' held_do (i := 9) _ (by kernel_rfl) (by kernel_rfl) (by kernel_rfl) _ _ hS _ _; rotate_left 2; (focus exact geti); (focus exact fun _ _ _ h => h); (focus rfl); (focus (intro w1 hSS R hR; obtain ⟨hco, hfo⟩ := bcellB hSS; go_simp; (try go_bits); exact hR)); simp only [pu])
              (refine' held_do (i := 10) _ (by kernel_rfl) (by kernel_rfl) (by kernel_rfl) _ _ hS _ _; rotate_left 2; (focus exact geti); (focus exact fun _ _ _ h => h); (focus rfl); (focus (intro w1 hSS R hR; obtain ⟨hco, hfo⟩ := bcellB hSS; go_simp; (try go_bits); exact hR)); simp only [pu])
              (refine' held_one (i := 11) _ (by kernel_rfl) _ _; rotate_left; (focus exact geti); (focus rfl); intro K hK; go_simp)
              refine (rrect_any _ _ _ _ _).mono ?_
              rintro e w5 ⟨rfl, hb5⟩
              have hT5 : Below W0.heap.size uA w5 := hS.trans (hb5.mono (by omega))
              have O75 := Lib.hid (ownsRow_below O70.out hb5 (Nat.le_refl _))
              have z5 := hb5.size
              refine hK _ _ hT5 ?_
              clear hK hS O70
              (try simp only [pu])
              (refine' held_one (i := 12) _ (by kernel_rfl) _ _; rotate_left; (focus exact geti); (focus rfl); intro K hK; go_simp)
              obtain ⟨v1, hv⟩ : ∃ v, w5.alloc (.cells #[.int .i64 ((i : Int) % (N : Int)), .int .i64 ((i : Int) / (N : Int)), .int .i64 1, .int .i64 1] 32) = v := ⟨_, rfl⟩
              have BN : Blk v1 w5.heap.size [.int .i64 ((i : Int) % (N : Int)), .int .i64 ((i : Int) / (N : Int)), .int .i64 1, .int .i64 1] 32 := by rw [← hv]; exact Blk.new' rfl
              have O7v := Lib.hid (show v1.ownsRow W0.heap.size 32 4 (.slice s7 mm c7) mm _ by rw [← hv]; exact O75.out.alloc _)
              have hTv : Below W0.heap.size uA v1 := by rw [← hv]; exact hT5.alloc (by omega) _
              have zv : W0.heap.size ≤ v1.heap.size := by rw [← hv, World.size_alloc]; omega
              rw [hv]
              clear hv
              refine hK _ _ hTv ?_
              clear hK hT5 O75
              (try simp only [pu])
              (refine' held_one (i := 13) _ (by kernel_rfl) _ _; rotate_left; (focus exact geti); (focus rfl); intro K hK)
              refine wp_append_blk _ _ _ rfl W0.heap.size 32 iR _ 4 32 Tryz.underlying25 hr0 hr1 hr2 hr3 rfl (by omega) v1 1 _ _ _ _ mm _ (by rfl) O7v.out BN (by rfl) rfl (by intro u hu; simp only [List.mem_cons, List.not_mem_nil, or_false] at hu; rcases hu with rfl | rfl | rfl | rfl <;> rfl) (by omega) (by unfold maxLen; omega) (by omega) ?_
              intro v6 w6 hown6 hgr6 _ hlw6
              have hS6 : Below W0.heap.size uA w6 := hTv.trans hlw6
              replace hown6 := Lib.hid hown6
              refine hK _ _ hS6 ?_
              clear hK hTv
              (try simp only [pu])
              (refine' held_one (i := 14) _ (by kernel_rfl) _ _; rotate_left; (focus exact geti); (focus rfl); intro K hK; go_simp)
              refine hK _ _ hS6 ?_
              clear hK
              (try simp only [pu])
              refine wpAnyH_done (by kernel_rfl) ?_ _
              have hbn := hbrA.trans hS6
              clear hgr6 hlw6 BN O7v
              go_wp2
              go_roundw
              case rel =>
                refine ⟨i + 1, by omega, by go_num, ?_, hbn⟩
                rw [ust.out]
                unfold OwnsR
                rw [List.length_append, hmm.out, List.flatMap_append]
                exact hown6.out
              case measure => simp [intOf]; omega
            · rw [heq] at hdf
              rw [hdf] at ust
              simp only [Bool.not_true, Bool.false_eq_true, if_false, List.append_nil] at ust
              replace ust := Lib.hid ust
              go_upto_region 13 with fail
              refine wp_region_steady (Held wv 0 []) (by kernel_rfl) (by kernel_rfl) ⟨belt, (by (try simp) <;> omega), (by first | exact trivial | (simp only [Cells]; go_simp))⟩ ?_
              repeat (first | (refine' wpSteady_do _ _ _; rotate_left; (focus rfl); (focus (intro w1 hS R hR; have hc := hS.cells; simp only [Cells] at hc; obtain ⟨hco, hfo⟩ := bcell hS.old; go_simp; (try go_bits); first | exact hR _ hS | fail)); simp only [pu]) | (refine wpSteady_pass ?_ ?_; (focus rfl); simp only [pu]))
              refine wpSteady_nil (fun uA hSA => ?_)
              have hcA := hSA.cells; have hbA := hSA.old; have hzA := hSA.size; clear hSA; simp only [Cells] at hcA; obtain ⟨hcoA, hfoA⟩ := bcell hbA
              have O7n := OwnsR.below O7 hbA (Nat.le_refl _)
              have hbn := hbr.trans (hbA.mono zr)
              clear O7 hbr hcoA hfoA
              go_wp2
              go_roundw
              case rel => exact ⟨i + 1, by omega, by go_num, by rw [ust.out]; exact O7n, hbn⟩
              case measure => simp [intOf]; omega
          · obtain rfl : i = m := by omega
            have hii : ¬ (i : Int) < i := by omega
            rw [ue.out] at O7
            have hw0 := hbw2.out.trans (hbr.mono hbw2.out.size)
            have FC2 := FC.out wv _ (O7.row (Nat.le_refl _))
            by_cases hbig : 1024 < (formR U [] 1).length
            · have mE : madeE U [] 1 = 4 := if_pos hbig
              have mL : madeL U [] 1 = [] := if_pos hbig
              have hU0 : 0 < U.length := by
                cases U with
                | nil => exact absurd hbig (by decide)
                | cons _ _ => simp
              rw [mE, mL] at FC2
              obtain rfl : RS = [abtR U] := by rw [← hRS.out]; exact if_pos hbig
              replace FC2 := Lib.hid FC2
              have P7 := Lib.hid (O7.row (Nat.le_refl _))
              clear O7 D2 D3 F2 F3 hbig mE mL
              go_upto_region 17 with (go_at_call 82; (with_reducible refine FC2.out.mono ?_); rintro e w9 ⟨hb9, v9, rfl, O9⟩)
              have AC2 := Lib.hid (AC.out w9 _ ((P7.out.below hb9).mono hb9.size) hU0)
              clear O9 FC2
              go_wp2_with (go_at_call 71; (with_reducible refine AC2.out.mono ?_); rintro e w10 ⟨hb10, v10, rfl, O10⟩)
              go_ret2
              have h9 := hw0.trans (hb9.mono hw0.size)
              exact ⟨h9.trans (hb10.mono h9.size), _, rfl, by rw [rl.out]; exact O10.less h9.size⟩
            · have mE : madeE U [] 1 = 0 := if_neg hbig
              have mL : madeL U [] 1 = formR U [] 1 := if_neg hbig
              rw [mE, mL] at FC2
              obtain rfl : formR U [] 1 = RS := by rw [← hRS.out]; exact (if_neg hbig).symm
              replace FC2 := Lib.hid FC2
              clear O7 D2 D3 F2 F3 hbig mE mL
              go_wp2_with (go_at_call 82; (with_reducible refine FC2.out.mono ?_); rintro e w9 ⟨hb9, v9, rfl, O9⟩; obtain ⟨s9, c9, hv9⟩ := own_slice O9; subst hv9)
              go_ret2
              exact ⟨hw0.trans (hb9.mono hw0.size), _, rfl, by rw [rl.out]; exact (CutR.own O9 rfl).less hw0.size⟩
      · have hsf : ((wa == wb) && (ha == hb)) = false := by
          rw [Bool.eq_false_iff]
          intro h
          simp only [Bool.and_eq_true, beq_iff_eq] at h
          exact hsz h
        have hsb : (!((wa == wb) && (ha == hb))) = true := by rw [hsf]; rfl
        have hE5 : E = 150 := by
          rw [hEd.out, ← hok.out, hsf]
          rfl
        have hL0 := hbad.out (by rw [hE5]; decide)
        subst hL0 hE5
        ((try clear CZ1)
         (try clear CN1)
         (try clear CZ2)
         (try clear C2)
         clear D2 D3 hEd hok hbad href
         go_wp2
         go_ret2
         exact ⟨by first | exact hbw1 | exact hbw2, _, rfl, CutR.nil _ _⟩)
    · subst e2
      have hE5 : E = 150 := by rw [hEd.out, ← hok.out]; rfl
      have hL0 := hbad.out (by rw [hE5]; decide)
      subst hL0 hE5
      ((try clear CZ1)
       (try clear CN1)
       (try clear CZ2)
       (try clear C2)
       clear D2 D3 hEd hok hbad href
       go_wp2
       go_ret2
       exact ⟨by first | exact hbw1 | exact hbw2, _, rfl, CutR.nil _ _⟩)
  · subst e1
    have hE5 : E = 150 := by rw [hEd.out, ← hok.out]; rfl
    have hL0 := hbad.out (by rw [hE5]; decide)
    subst hL0 hE5
    ((try clear CZ1)
     (try clear CN1)
     (try clear CZ2)
     (try clear C2)
     clear D2 D3 hEd hok hbad href
     go_wp2
     go_ret2
     exact ⟨by first | exact hbw1 | exact hbw2, _, rfl, CutR.nil _ _⟩)
end Go.Proofs.YtfcphagmjijmkaaGreatDoor

namespace Go.Proofs.YtfcphagmjijmkaaGreatDoor
open Go Go.RowKit Go.ChangeShapes Go.WideShapes Go.Deep Go.Joins
set_option linter.unusedVariables false
set_option linter.unusedSimpArgs false
section
variable {P : Program} {H : Type} {enc : TypeId × Value → H} {w : World} {base : Nat} {spare : Nat → Bool} {held : Bool}
/-- A slice that came in, whatever its elements are: 'dec' says how the cells of one read. -/
theorem open_rowT {α : Type} [Inhabited α] {Ok : α → Prop} {sz : Nat} {encA : α → List Value} {fuel : Nat} {t e : TypeId} {v : Value} {y : DataW H × List MemPlace} (ht : P.underlying t = some (.slice e)) (hC : P.cellsOf e = sz) (hsz : 0 < sz)
  (dec : ∀ (n : Nat) (cs : List Value) (y : DataW H × List MemPlace), cs.length = sz → DataW.trod enc P w base spare held n e cs = some y → ∃ x, Ok x ∧ cs = encA x)
  (hf : DataW.trod enc P w base spare held fuel t [v] = some y) :
  ∃ xs : List α, Row w.heap.size sz encA w v xs ∧ ∀ x ∈ xs, Ok x := by
 rcases open_slice ht hf with ⟨h0, _⟩ | ⟨a', len, cap, m, n, D, Pl, hcs, hb, hl, hm, hmm, hx, hi⟩
 ·simp at h0
  subst h0
  exact ⟨[], ⟨none, 0, rfl, by simp, by unfold maxLen; omega, fun h => by simp at h⟩, by simp⟩
 ·simp at hcs
  subst hcs
  have hlm : len ≤ m := by rw [hmm]; split <;> omega
  have each : ∀ i, i < len → ∃ x : α, Ok x ∧ ∀ k u, (encA x)[k]? = some u → w.cell? ((a'.add (i * sz)).add k) = some u := by
   intro i hil
   obtain ⟨cs', hc, ht'⟩ := hi i (by omega)
   rw [hC] at hc
   obtain ⟨_, hcl, hat⟩ := World.cells?_some hc
   obtain ⟨x, hok, rfl⟩ := dec _ _ _ hcl ht'
   refine ⟨x, hok, fun k u hk => ?_⟩
   have hkl : k < sz := by rw [← hcl]; exact (List.getElem?_eq_some_iff.1 hk).1
   rw [hat k hkl, hk]
  obtain ⟨V, hV⟩ := choose_lt (α := α) (p := fun i x => Ok x ∧ ∀ k u, (encA x)[k]? = some u → w.cell? ((a'.add (i * sz)).add k) = some u) each
  refine ⟨(List.range len).map V, ⟨some a', cap, by simp, by simpa using hl, hm, fun h0 => ?_⟩, fun x hx => ?_⟩
  ·simp only [List.length_map, List.length_range] at h0
   obtain ⟨cs', hc, ht'⟩ := hi 0 (by omega)
   rw [hC] at hc
   obtain ⟨_, hcl, hat⟩ := World.cells?_some hc
   have h1 := hat 0 hsz
   rw [Nat.zero_mul] at h1
   obtain ⟨b, o, x⟩ := a'
   cases x with
   | some x =>
    exfalso
    have e0 : ((⟨b, o, some x⟩ : Addr).add 0).add 0 = ⟨b, o, some x⟩ := rfl
    rw [e0] at h1
    have : cs'[0]? = some (cs'[0]'(by omega)) := List.getElem?_eq_getElem (by omega)
    rw [this] at h1
    simp only [World.cell?] at h1
    split at h1 <;> simp at h1
   | none =>
    refine ⟨b, o, rfl, ?_, fun j x hj i u hi' => ?_⟩
    ·have : cs'[0]? = some (cs'[0]'(by omega)) := List.getElem?_eq_getElem (by omega)
     rw [this] at h1
     exact World.block_lt_of_cell? _ _ h1
    ·obtain ⟨hj', e⟩ := List.getElem?_eq_some_iff.1 hj
     simp at hj' e
     subst e
     have := (hV j hj').2 i u hi'
     rw [add_lit, add_lit] at this
     exact this
  ·obtain ⟨j, hj, rfl⟩ := List.mem_map.1 hx
   exact (hV j (List.mem_range.1 hj)).1
end
section
variable {H : Type} {enc : TypeId × Value → H} {w : World} {base : Nat} {spare : Nat → Bool} {held : Bool}
theorem list11 {cs : List Value} (h : cs.length = 11) : ∃ a b c d e f g i j k l, cs = [a, b, c, d, e, f, g, i, j, k, l] := by
  match cs, h with
  | [a, b, c, d, e, f, g, i, j, k, l], _ => exact ⟨a, b, c, d, e, f, g, i, j, k, l, rfl⟩
theorem cell_of {fuel : Nat} {cs : List Value} {x : DataW H × List MemPlace} (hl : cs.length = 11) (h : DataW.trod enc Tryz.prog w base spare held fuel 47 cs = some x) : ∃ s : Ce, s.Wf ∧ cs = s.enc := by
  obtain ⟨a, b, c, d, e, f, g, i, j, k, l, rfl⟩ := list11 hl
  obtain ⟨m0, y0, h0⟩ := field_of Tryz.underlying47 h 0 0 1 21 _ rfl rfl rfl (by kernel_rfl)
  obtain ⟨m1, y1, h1⟩ := field_of Tryz.underlying47 h 1 1 4 34 _ rfl rfl rfl (by kernel_rfl)
  obtain ⟨m2, y2, h2⟩ := field_of Tryz.underlying47 h 2 5 4 34 _ rfl rfl rfl (by kernel_rfl)
  obtain ⟨m3, y3, h3⟩ := field_of Tryz.underlying47 h 3 9 1 4 _ rfl rfl rfl (by kernel_rfl)
  obtain ⟨m4, y4, h4⟩ := field_of Tryz.underlying47 h 4 10 1 4 _ rfl rfl rfl (by kernel_rfl)
  simp only [List.drop_zero, List.drop_succ_cons, List.take_succ_cons, List.take_zero] at h0 h1 h2 h3 h4
  obtain ⟨n0, e0, z0, wf0⟩ := DataW.trod_int Tryz.underlying21 h0; simp at e0; subst e0
  obtain ⟨c1, w1, e1⟩ := colour_of h1
  obtain ⟨c2, w2, e2⟩ := colour_of h2
  obtain ⟨n3, e3, z3⟩ := DataW.trod_bool Tryz.underlying4 h3; simp at e3; subst e3
  obtain ⟨n4, e4, z4⟩ := DataW.trod_bool Tryz.underlying4 h4; simp at e4; subst e4
  refine ⟨⟨n0, c1, c2, n3, n4⟩, ⟨trivial, w1, w2⟩, ?_⟩
  unfold Ce.enc
  rw [← e1, ← e2]
  rfl
set_option maxRecDepth 100000 in
theorem open_screen {r : Reach} {b0 : Nat} {v : Value} {d : DataW H} {p : List MemPlace} (hv : Value.okWide Tryz.prog w r b0 40 v) (h : DataW.Trod enc Tryz.prog w base spare held 40 v d p) :
    ∃ (wd ht : Int) (u : Value) (cs : List Ce), v = .agg #[.int .i64 (wd), .int .i64 (ht), u] ∧ I64 wd ∧ I64 ht ∧ Row w.heap.size 11 Ce.enc w u cs ∧ CeL cs := by
  obtain ⟨cs, rfl, hsz⟩ := okWide_struct Tryz.underlying40 hv
  obtain ⟨l⟩ := cs
  obtain ⟨fuel, hf⟩ := h
  have hl : l.length = 3 := by
    have hc : Tryz.prog.cellsOf 40 = 3 := by kernel_rfl
    rw [← hc, ← hsz]; simp
  obtain ⟨a, b, c, rfl⟩ : ∃ a b c, l = [a, b, c] := by
    match l, hl with
    | [a, b, c], _ => exact ⟨a, b, c, rfl⟩
  simp only [Value.cells] at hf
  obtain ⟨m0, y0, h0⟩ := field_of Tryz.underlying40 hf 0 0 2 24 _ rfl rfl rfl (by kernel_rfl)
  obtain ⟨m1, y1, h1⟩ := field_of Tryz.underlying40 hf 1 2 1 38 _ rfl rfl rfl (by kernel_rfl)
  simp only [List.drop_zero, List.drop_succ_cons, List.take_succ_cons, List.take_zero] at h0 h1
  obtain ⟨wd, ht, ww, wh, rfl, rfl⟩ := size_of h0
  obtain ⟨cs, hr, hwf⟩ := open_rowT (sz := 11) (encA := Ce.enc) (Ok := Ce.Wf) Tryz.underlying38 (by kernel_rfl) (by omega) (fun n cs y hl ht => cell_of hl ht) h1
  exact ⟨wd, ht, c, cs, rfl, ww, wh, hr, hwf⟩
end
end Go.Proofs.YtfcphagmjijmkaaGreatDoor
