/-
  XGa: XLisA XLisB XLisC XLisD XLisE XRegP XRegQ XRegR XRegPa.
-/
import Derived.Laws.StructEq
import Derived.Test.YtffmomgmkpmpkaaGreatDoorProg
import Derived.Test.YtffmomgmkpmpkaaGreatDoorKd2
namespace Go.Proofs.YtffmomgmkpmpkaaGreatDoor
open Go.RowKit
set_option linter.unusedVariables false
attribute [local go_sem] vwp vUpon_value vUpon_skip vUpon_enter vUpon_row
set_option linter.unusedSimpArgs false
set_option linter.unusedVariables false
section
set_option linter.unusedSimpArgs false
def inB (n : Int) : Bool := decide (-16384 ≤ n) && decide (n ≤ 16384)
def sdB (n : Int) : Bool := decide (0 ≤ n) && decide (n ≤ 32768)
theorem gwithin_any (n : Int) (w : World) (hn : I64 n) : Calls Tryz.prog 155 #[.int .i64 n] w fun e w' => e = .returned (.bool (inB n)) ∧ w = w' := by
  unfold inB
  go_enter Tryz.func155, Tryz.ntmps155
  by_cases h : -16384 ≤ n
  · have g1 : decide (-16384 ≤ n) = true := by simpa using h
    go_wp2
    go_ret
    exact ⟨by simp [g1], rfl⟩
  · have g1 : decide (-16384 ≤ n) = false := by simpa using h
    go_wp2
    go_ret
    exact ⟨by simp [g1], rfl⟩
theorem gside_any (n : Int) (w : World) (hn : I64 n) : Calls Tryz.prog 156 #[.int .i64 n] w fun e w' => e = .returned (.bool (sdB n)) ∧ w = w' := by
  unfold sdB
  go_enter Tryz.func156, Tryz.ntmps156
  by_cases h : 0 ≤ n
  · have g1 : decide (0 ≤ n) = true := by simpa using h
    go_wp2
    go_ret
    exact ⟨by simp [g1], rfl⟩
  · have g1 : decide (0 ≤ n) = false := by simpa using h
    go_wp2
    go_ret
    exact ⟨by simp [g1], rfl⟩
theorem rwithin_any (n : Int) (w : World) (hn : I64 n) : Calls Tryz.prog 174 #[.int .i64 n] w fun e w' => e = .returned (.bool (inB n)) ∧ w = w' := by
  unfold inB
  go_enter Tryz.func174, Tryz.ntmps174
  by_cases h : -16384 ≤ n
  · have g1 : decide (-16384 ≤ n) = true := by simpa using h
    go_wp2
    go_ret
    exact ⟨by simp [g1], rfl⟩
  · have g1 : decide (-16384 ≤ n) = false := by simpa using h
    go_wp2
    go_ret
    exact ⟨by simp [g1], rfl⟩
theorem rside_any (n : Int) (w : World) (hn : I64 n) : Calls Tryz.prog 175 #[.int .i64 n] w fun e w' => e = .returned (.bool (sdB n)) ∧ w = w' := by
  unfold sdB
  go_enter Tryz.func175, Tryz.ntmps175
  by_cases h : 0 ≤ n
  · have g1 : decide (0 ≤ n) = true := by simpa using h
    go_wp2
    go_ret
    exact ⟨by simp [g1], rfl⟩
  · have g1 : decide (0 ≤ n) = false := by simpa using h
    go_wp2
    go_ret
    exact ⟨by simp [g1], rfl⟩
end
section
set_option linter.unusedSimpArgs false
structure Re where
  x : Int
  y : Int
  wd : Int
  ht : Int
instance : Inhabited Re := ⟨⟨0, 0, 0, 0⟩⟩
def Re.Wf (q : Re) : Prop := I64 q.x ∧ I64 q.y ∧ I64 q.wd ∧ I64 q.ht
theorem inB_iff {n : Int} : inB n = true ↔ -16384 ≤ n ∧ n ≤ 16384 := by simp [inB]
theorem sdB_iff {n : Int} : sdB n = true ↔ 0 ≤ n ∧ n ≤ 32768 := by simp [sdB]
def spanB (a s : Int) : Bool := inB a && (sdB s && decide (a + s ≤ 16384))
def mayR (q : Re) : Bool := spanB q.x q.wd && spanB q.y q.ht
theorem span_any (a s : Int) (w : World) (ha : I64 a) (hs : I64 s) : Calls Tryz.prog 163 #[.int .i64 a, .int .i64 s] w fun e w' => e = .returned (.bool (spanB a s)) ∧ w = w' := by
  have A := fun w => rwithin_any a w ha
  have B := fun w => rside_any s w hs
  unfold spanB
  cases h1 : inB a
  · rw [h1] at A
    replace A := Lib.hid A
    go_enter Tryz.func163, Tryz.ntmps163
    go_wp2_with (first | (go_at_call 174; (with_reducible refine (A.out _).mono ?_); rintro e w1 ⟨rfl, rfl⟩) | (go_at_call 175; (with_reducible refine (B _).mono ?_); rintro e w2 ⟨rfl, rfl⟩))
    go_ret
    exact ⟨rfl, rfl⟩
  · cases h2 : sdB s
    · rw [h1] at A
      rw [h2] at B
      replace A := Lib.hid A
      replace B := Lib.hid B
      go_enter Tryz.func163, Tryz.ntmps163
      go_wp2_with (first | (go_at_call 174; (with_reducible refine (A.out _).mono ?_); rintro e w1 ⟨rfl, rfl⟩) | (go_at_call 175; (with_reducible refine (B.out _).mono ?_); rintro e w2 ⟨rfl, rfl⟩))
      go_ret
      exact ⟨rfl, rfl⟩
    · rw [h1] at A
      rw [h2] at B
      obtain ⟨x1, x2⟩ := inB_iff.1 h1
      obtain ⟨y1, y2⟩ := sdB_iff.1 h2
      clear h1 h2
      replace A := Lib.hid A
      replace B := Lib.hid B
      go_enter Tryz.func163, Tryz.ntmps163
      go_wp2_with (first | (go_at_call 174; (with_reducible refine (A.out _).mono ?_); rintro e w1 ⟨rfl, rfl⟩) | (go_at_call 175; (with_reducible refine (B.out _).mono ?_); rintro e w2 ⟨rfl, rfl⟩))
      go_ret
      exact ⟨rfl, rfl⟩
theorem may_any (q : Re) (w : World) (hq : q.Wf) : Calls Tryz.prog 140 #[.agg #[.int .i64 (q).x, .int .i64 (q).y, .int .i64 (q).wd, .int .i64 (q).ht]] w fun e w' => e = .returned (.bool (mayR q)) ∧ Below w.heap.size w w' := by
  have A := fun w => span_any q.x q.wd w hq.1 hq.2.2.1
  have B := fun w => span_any q.y q.ht w hq.2.1 hq.2.2.2
  unfold mayR
  cases h1 : spanB q.x q.wd <;> rw [h1] at A <;> replace A := Lib.hid A <;> replace B := Lib.hid B
  · go_enter Tryz.func140, Tryz.ntmps140
    go_wp2_with (first | (go_at_call 163; (with_reducible refine (A.out _).mono ?_); rintro e w1 ⟨rfl, rfl⟩) | (go_at_call 163; (with_reducible refine (B.out _).mono ?_); rintro e w2 ⟨rfl, rfl⟩))
    go_ret
    exact ⟨rfl, (by repeat (first | exact Below.refl _ _ | assumption | refine Below.drew ?_ | refine Below.alloc ?_ (by (try simp) <;> omega) _ | refine Below.setCell ?_ (by (try simp) <;> omega) _))⟩
  · go_enter Tryz.func140, Tryz.ntmps140
    go_wp2_with (first | (go_at_call 163; (with_reducible refine (A.out _).mono ?_); rintro e w1 ⟨rfl, rfl⟩) | (go_at_call 163; (with_reducible refine (B.out _).mono ?_); rintro e w2 ⟨rfl, rfl⟩))
    go_ret
    exact ⟨rfl, (by repeat (first | exact Below.refl _ _ | assumption | refine Below.drew ?_ | refine Below.alloc ?_ (by (try simp) <;> omega) _ | refine Below.setCell ?_ (by (try simp) <;> omega) _))⟩
end
section
set_option linter.unusedSimpArgs false
set_option maxHeartbeats 1000000 in
theorem gcheck_any (q : Re) (w : World) (hq : q.Wf) : Calls Tryz.prog 124 #[.agg #[.int .i64 (q).x, .int .i64 (q).y, .int .i64 (q).wd, .int .i64 (q).ht]] w fun e w' => e = .returned (.int .i64 (if mayR q then 0 else 5)) ∧ Below w.heap.size w w' := by
 obtain ⟨x, y, a, b⟩ := q
 obtain ⟨q1, q2, q3, q4⟩ := hq
 simp only at q1 q2 q3 q4 ⊢
 have A := fun w => gwithin_any x w q1
 have B := fun w => gwithin_any y w q2
 have C := fun w => gside_any a w q3
 have D := fun w => gside_any b w q4
 cases h1 : inB x
 ·have hm : mayR ⟨x, y, a, b⟩ = false := by simp [mayR, spanB, h1]
  rw [h1] at A
  replace A := Lib.hid A
  replace B := Lib.hid B
  replace C := Lib.hid C
  replace D := Lib.hid D
  rw [show mayR ⟨x, y, a, b⟩ = false from hm]
  clear hm
  go_enter Tryz.func124, Tryz.ntmps124
  go_wp2_with (first | (go_at_call 155; (with_reducible refine (A.out _).mono ?_); rintro e w1 ⟨rfl, rfl⟩) | (go_at_call 155; (with_reducible refine (B.out _).mono ?_); rintro e w2 ⟨rfl, rfl⟩) | (go_at_call 156; (with_reducible refine (C.out _).mono ?_); rintro e w3 ⟨rfl, rfl⟩) | (go_at_call 156; (with_reducible refine (D.out _).mono ?_); rintro e w4 ⟨rfl, rfl⟩))
  all_goals (go_ret; exact ⟨rfl, (by repeat (first | exact Below.refl _ _ | assumption | refine Below.drew ?_ | refine Below.alloc ?_ (by (try simp) <;> omega) _ | refine Below.setCell ?_ (by (try simp) <;> omega) _))⟩)
 cases h2 : inB y
 ·have hm : mayR ⟨x, y, a, b⟩ = false := by simp [mayR, spanB, h2]
  rw [h1] at A
  rw [h2] at B
  replace A := Lib.hid A
  replace B := Lib.hid B
  replace C := Lib.hid C
  replace D := Lib.hid D
  rw [show mayR ⟨x, y, a, b⟩ = false from hm]
  clear hm
  go_enter Tryz.func124, Tryz.ntmps124
  go_wp2_with (first | (go_at_call 155; (with_reducible refine (A.out _).mono ?_); rintro e w1 ⟨rfl, rfl⟩) | (go_at_call 155; (with_reducible refine (B.out _).mono ?_); rintro e w2 ⟨rfl, rfl⟩) | (go_at_call 156; (with_reducible refine (C.out _).mono ?_); rintro e w3 ⟨rfl, rfl⟩) | (go_at_call 156; (with_reducible refine (D.out _).mono ?_); rintro e w4 ⟨rfl, rfl⟩))
  all_goals (go_ret; exact ⟨rfl, (by repeat (first | exact Below.refl _ _ | assumption | refine Below.drew ?_ | refine Below.alloc ?_ (by (try simp) <;> omega) _ | refine Below.setCell ?_ (by (try simp) <;> omega) _))⟩)
 cases h3 : sdB a
 ·have hm : mayR ⟨x, y, a, b⟩ = false := by simp [mayR, spanB, h3]
  rw [h1] at A
  rw [h2] at B
  rw [h3] at C
  replace A := Lib.hid A
  replace B := Lib.hid B
  replace C := Lib.hid C
  replace D := Lib.hid D
  rw [show mayR ⟨x, y, a, b⟩ = false from hm]
  clear hm
  go_enter Tryz.func124, Tryz.ntmps124
  go_wp2_with (first | (go_at_call 155; (with_reducible refine (A.out _).mono ?_); rintro e w1 ⟨rfl, rfl⟩) | (go_at_call 155; (with_reducible refine (B.out _).mono ?_); rintro e w2 ⟨rfl, rfl⟩) | (go_at_call 156; (with_reducible refine (C.out _).mono ?_); rintro e w3 ⟨rfl, rfl⟩) | (go_at_call 156; (with_reducible refine (D.out _).mono ?_); rintro e w4 ⟨rfl, rfl⟩))
  all_goals (go_ret; exact ⟨rfl, (by repeat (first | exact Below.refl _ _ | assumption | refine Below.drew ?_ | refine Below.alloc ?_ (by (try simp) <;> omega) _ | refine Below.setCell ?_ (by (try simp) <;> omega) _))⟩)
 cases h4 : sdB b
 ·have hm : mayR ⟨x, y, a, b⟩ = false := by simp [mayR, spanB, h4]
  rw [h1] at A
  rw [h2] at B
  rw [h3] at C
  rw [h4] at D
  replace A := Lib.hid A
  replace B := Lib.hid B
  replace C := Lib.hid C
  replace D := Lib.hid D
  rw [show mayR ⟨x, y, a, b⟩ = false from hm]
  clear hm
  go_enter Tryz.func124, Tryz.ntmps124
  go_wp2_with (first | (go_at_call 155; (with_reducible refine (A.out _).mono ?_); rintro e w1 ⟨rfl, rfl⟩) | (go_at_call 155; (with_reducible refine (B.out _).mono ?_); rintro e w2 ⟨rfl, rfl⟩) | (go_at_call 156; (with_reducible refine (C.out _).mono ?_); rintro e w3 ⟨rfl, rfl⟩) | (go_at_call 156; (with_reducible refine (D.out _).mono ?_); rintro e w4 ⟨rfl, rfl⟩))
  all_goals (go_ret; exact ⟨rfl, (by repeat (first | exact Below.refl _ _ | assumption | refine Below.drew ?_ | refine Below.alloc ?_ (by (try simp) <;> omega) _ | refine Below.setCell ?_ (by (try simp) <;> omega) _))⟩)
 obtain ⟨x1, x2⟩ := inB_iff.1 h1
 obtain ⟨y1, y2⟩ := inB_iff.1 h2
 obtain ⟨a1, a2⟩ := sdB_iff.1 h3
 obtain ⟨b1, b2⟩ := sdB_iff.1 h4
 by_cases h5 : max (x + a) (y + b) ≤ 16384
 ·have hm : mayR ⟨x, y, a, b⟩ = true := by simp [mayR, spanB, h1, h2, h3, h4]; omega
  have h6 : x + a ≤ 16384 ∧ y + b ≤ 16384 := by omega
  obtain ⟨h7, h8⟩ := h6
  have g : decide (max (x + a) (y + b) ≤ 16384) = true := by simpa using h5
  rw [h1] at A
  rw [h2] at B
  rw [h3] at C
  rw [h4] at D
  replace A := Lib.hid A
  replace B := Lib.hid B
  replace C := Lib.hid C
  replace D := Lib.hid D
  rw [show mayR ⟨x, y, a, b⟩ = true from hm]
  clear hm
  go_enter Tryz.func124, Tryz.ntmps124
  go_wp2_with (first | (go_at_call 155; (with_reducible refine (A.out _).mono ?_); rintro e w1 ⟨rfl, rfl⟩) | (go_at_call 155; (with_reducible refine (B.out _).mono ?_); rintro e w2 ⟨rfl, rfl⟩) | (go_at_call 156; (with_reducible refine (C.out _).mono ?_); rintro e w3 ⟨rfl, rfl⟩) | (go_at_call 156; (with_reducible refine (D.out _).mono ?_); rintro e w4 ⟨rfl, rfl⟩))
  all_goals (go_ret; exact ⟨rfl, (by repeat (first | exact Below.refl _ _ | assumption | refine Below.drew ?_ | refine Below.alloc ?_ (by (try simp) <;> omega) _ | refine Below.setCell ?_ (by (try simp) <;> omega) _))⟩)
 ·have hm : mayR ⟨x, y, a, b⟩ = false := by simp [mayR, spanB, h1, h2, h3, h4]; omega
  have g : decide (max (x + a) (y + b) ≤ 16384) = false := by simpa using h5
  rw [h1] at A
  rw [h2] at B
  rw [h3] at C
  rw [h4] at D
  replace A := Lib.hid A
  replace B := Lib.hid B
  replace C := Lib.hid C
  replace D := Lib.hid D
  rw [show mayR ⟨x, y, a, b⟩ = false from hm]
  clear hm
  go_enter Tryz.func124, Tryz.ntmps124
  go_wp2_with (first | (go_at_call 155; (with_reducible refine (A.out _).mono ?_); rintro e w1 ⟨rfl, rfl⟩) | (go_at_call 155; (with_reducible refine (B.out _).mono ?_); rintro e w2 ⟨rfl, rfl⟩) | (go_at_call 156; (with_reducible refine (C.out _).mono ?_); rintro e w3 ⟨rfl, rfl⟩) | (go_at_call 156; (with_reducible refine (D.out _).mono ?_); rintro e w4 ⟨rfl, rfl⟩))
  all_goals (go_ret; exact ⟨rfl, (by repeat (first | exact Below.refl _ _ | assumption | refine Below.drew ?_ | refine Below.alloc ?_ (by (try simp) <;> omega) _ | refine Below.setCell ?_ (by (try simp) <;> omega) _))⟩)
end
section
set_option linter.unusedSimpArgs false
set_option linter.unusedVariables false
structure Co where
  r : Int
  g : Int
  b : Int
  a : Int
structure St where
  kind : Int
  rect : Re
  col : Co
  back : Co
  text : ByteArray
  node : Int
instance : Inhabited St := ⟨⟨0, default, ⟨0, 0, 0, 0⟩, ⟨0, 0, 0, 0⟩, default, 0⟩⟩
def Co.Wf (c : Co) : Prop := U8 c.r ∧ U8 c.g ∧ U8 c.b ∧ U8 c.a
def Co.enc (c : Co) : List Value := [.int .u8 c.r, .int .u8 c.g, .int .u8 c.b, .int .u8 c.a]
def Re.enc (q : Re) : List Value := [.int .i64 q.x, .int .i64 q.y, .int .i64 q.wd, .int .i64 q.ht]
def St.enc (s : St) : List Value := [.int .u8 s.kind] ++ s.rect.enc ++ s.col.enc ++ s.back.enc ++ [.string s.text, .int .i64 s.node]
def St.Wf (s : St) : Prop := U8 s.kind ∧ s.rect.Wf ∧ s.col.Wf ∧ s.back.Wf ∧ s.text.size ≤ maxLen ∧ I64 s.node
section
variable {H : Type} {enc : TypeId × Value → H} {w : World} {base : Nat} {spare : Nat → Bool} {held : Bool}
theorem field_of {P : Program} {t : TypeId} {fs : Array Field} {fuel : Nat} {cs : List Value} {x : DataW H × List MemPlace} (hs : P.underlying t = some (.struct fs)) (h : DataW.trod enc P w base spare held fuel t cs = some x)
    (j off k : Nat) (ty : TypeId) (f : Field) (hj : fs[j]? = some f) (ht : f.type = ty) (ho : f.offset = off) (hk : P.cellsOf ty = k) : ∃ (n : Nat) (y : DataW H × List MemPlace), DataW.trod enc P w base spare held n ty ((cs.drop off).take k) = some y := by
  subst ht
  subst ho
  subst hk
  obtain ⟨ys, n, _, _, _, hyl, hf⟩ := DataW.trod_struct hs h
  have h1 := hf j f hj
  have hjl : j < fs.size := (Array.getElem?_eq_some_iff.1 hj).1
  exact ⟨n, _, h1.trans (List.getElem?_eq_getElem (by omega))⟩
theorem colour_of {fuel : Nat} {c0 c1 c2 c3 : Value} {x : DataW H × List MemPlace} (h : DataW.trod enc Tryz.prog w base spare held fuel 44 [c0, c1, c2, c3] = some x) : ∃ c : Co, c.Wf ∧ [c0, c1, c2, c3] = c.enc := by
  obtain ⟨m0, y0, h0⟩ := field_of Tryz.underlying44 h 0 0 1 5 _ rfl rfl rfl (by kernel_rfl)
  obtain ⟨m1, y1, h1⟩ := field_of Tryz.underlying44 h 1 1 1 5 _ rfl rfl rfl (by kernel_rfl)
  obtain ⟨m2, y2, h2⟩ := field_of Tryz.underlying44 h 2 2 1 5 _ rfl rfl rfl (by kernel_rfl)
  obtain ⟨m3, y3, h3⟩ := field_of Tryz.underlying44 h 3 3 1 5 _ rfl rfl rfl (by kernel_rfl)
  simp only [List.drop_zero, List.drop_succ_cons, List.take_succ_cons, List.take_zero] at h0 h1 h2 h3
  obtain ⟨n0, e0, z0, wf0⟩ := DataW.trod_int Tryz.underlying5 h0; simp at e0; subst e0
  obtain ⟨n1, e1, z1, wf1⟩ := DataW.trod_int Tryz.underlying5 h1; simp at e1; subst e1
  obtain ⟨n2, e2, z2, wf2⟩ := DataW.trod_int Tryz.underlying5 h2; simp at e2; subst e2
  obtain ⟨n3, e3, z3, wf3⟩ := DataW.trod_int Tryz.underlying5 h3; simp at e3; subst e3
  exact ⟨⟨n0, n1, n2, n3⟩, ⟨u8_of wf0, u8_of wf1, u8_of wf2, u8_of wf3⟩, rfl⟩
theorem point_of {fuel : Nat} {c0 c1 : Value} {x : DataW H × List MemPlace} (h : DataW.trod enc Tryz.prog w base spare held fuel 40 [c0, c1] = some x) : ∃ a b : Int, I64 a ∧ I64 b ∧ c0 = .int .i64 a ∧ c1 = .int .i64 b := by
  obtain ⟨m0, y0, h0⟩ := field_of Tryz.underlying40 h 0 0 1 3 _ rfl rfl rfl (by kernel_rfl)
  obtain ⟨m1, y1, h1⟩ := field_of Tryz.underlying40 h 1 1 1 3 _ rfl rfl rfl (by kernel_rfl)
  simp only [List.drop_zero, List.drop_succ_cons, List.take_succ_cons, List.take_zero] at h0 h1
  obtain ⟨n0, e0, z0, wf0⟩ := DataW.trod_int Tryz.underlying3 h0; simp at e0; subst e0
  obtain ⟨n1, e1, z1, wf1⟩ := DataW.trod_int Tryz.underlying3 h1; simp at e1; subst e1
  exact ⟨n0, n1, i64_of wf0, i64_of wf1, rfl, rfl⟩
theorem size_of {fuel : Nat} {c0 c1 : Value} {x : DataW H × List MemPlace} (h : DataW.trod enc Tryz.prog w base spare held fuel 23 [c0, c1] = some x) : ∃ a b : Int, I64 a ∧ I64 b ∧ c0 = .int .i64 a ∧ c1 = .int .i64 b := by
  obtain ⟨m0, y0, h0⟩ := field_of Tryz.underlying23 h 0 0 1 3 _ rfl rfl rfl (by kernel_rfl)
  obtain ⟨m1, y1, h1⟩ := field_of Tryz.underlying23 h 1 1 1 3 _ rfl rfl rfl (by kernel_rfl)
  simp only [List.drop_zero, List.drop_succ_cons, List.take_succ_cons, List.take_zero] at h0 h1
  obtain ⟨n0, e0, z0, wf0⟩ := DataW.trod_int Tryz.underlying3 h0; simp at e0; subst e0
  obtain ⟨n1, e1, z1, wf1⟩ := DataW.trod_int Tryz.underlying3 h1; simp at e1; subst e1
  exact ⟨n0, n1, i64_of wf0, i64_of wf1, rfl, rfl⟩
theorem rect_of {fuel : Nat} {c0 c1 c2 c3 : Value} {x : DataW H × List MemPlace} (h : DataW.trod enc Tryz.prog w base spare held fuel 42 [c0, c1, c2, c3] = some x) : ∃ q : Re, q.Wf ∧ [c0, c1, c2, c3] = q.enc := by
  obtain ⟨m0, y0, h0⟩ := field_of Tryz.underlying42 h 0 0 2 40 _ rfl rfl rfl (by kernel_rfl)
  obtain ⟨m1, y1, h1⟩ := field_of Tryz.underlying42 h 1 2 2 23 _ rfl rfl rfl (by kernel_rfl)
  simp only [List.drop_zero, List.drop_succ_cons, List.take_succ_cons, List.take_zero] at h0 h1
  obtain ⟨a, b, wa, wb, rfl, rfl⟩ := point_of h0
  obtain ⟨c, d, wc, wd, rfl, rfl⟩ := size_of h1
  exact ⟨⟨a, b, c, d⟩, ⟨wa, wb, wc, wd⟩, rfl⟩
theorem list15 {cs : List Value} (h : cs.length = 15) : ∃ a b c d e f g i j k l m n o p, cs = [a, b, c, d, e, f, g, i, j, k, l, m, n, o, p] := by
  match cs, h with
  | [a, b, c, d, e, f, g, i, j, k, l, m, n, o, p], _ => exact ⟨a, b, c, d, e, f, g, i, j, k, l, m, n, o, p, rfl⟩
theorem stroke_of {fuel : Nat} {cs : List Value} {x : DataW H × List MemPlace} (hl : cs.length = 15) (h : DataW.trod enc Tryz.prog w base spare held fuel 46 cs = some x) : ∃ s : St, s.Wf ∧ cs = s.enc := by
  obtain ⟨a, b, c, d, e, f, g, i, j, k, l, m, n, o, p, rfl⟩ := list15 hl
  obtain ⟨m0, y0, h0⟩ := field_of Tryz.underlying46 h 0 0 1 5 _ rfl rfl rfl (by kernel_rfl)
  obtain ⟨m1, y1, h1⟩ := field_of Tryz.underlying46 h 1 1 4 42 _ rfl rfl rfl (by kernel_rfl)
  obtain ⟨m2, y2, h2⟩ := field_of Tryz.underlying46 h 2 5 4 44 _ rfl rfl rfl (by kernel_rfl)
  obtain ⟨m3, y3, h3⟩ := field_of Tryz.underlying46 h 3 9 4 44 _ rfl rfl rfl (by kernel_rfl)
  obtain ⟨m4, y4, h4⟩ := field_of Tryz.underlying46 h 4 13 1 9 _ rfl rfl rfl (by kernel_rfl)
  obtain ⟨m5, y5, h5⟩ := field_of Tryz.underlying46 h 5 14 1 3 _ rfl rfl rfl (by kernel_rfl)
  simp only [List.drop_zero, List.drop_succ_cons, List.take_succ_cons, List.take_zero] at h0 h1 h2 h3 h4 h5
  obtain ⟨n0, e0, z0, wf0⟩ := DataW.trod_int Tryz.underlying5 h0; simp at e0; subst e0
  obtain ⟨q, wq, eq⟩ := rect_of h1
  obtain ⟨c1, w1, e1⟩ := colour_of h2
  obtain ⟨c2, w2, e2⟩ := colour_of h3
  obtain ⟨t, e4, z4, wt⟩ := DataW.trod_string Tryz.underlying9 h4; simp at e4; subst e4
  obtain ⟨n5, e5, z5, wf5⟩ := DataW.trod_int Tryz.underlying3 h5; simp at e5; subst e5
  refine ⟨⟨n0, q, c1, c2, t, n5⟩, ⟨u8_of wf0, wq, w1, w2, wt, i64_of wf5⟩, ?_⟩
  unfold St.enc
  rw [← eq, ← e1, ← e2]
  rfl
set_option maxRecDepth 100000 in
theorem open_strokes {r : Reach} {b0 : Nat} {v : Value} {d : DataW H} {p : List MemPlace} (hv : Value.okWide Tryz.prog w r b0 27 v) (h : DataW.Trod enc Tryz.prog w base spare held 27 v d p) :
    ∃ xs : List St, Row w.heap.size 15 St.enc w v xs ∧ ∀ x ∈ xs, x.Wf :=
  open_row Tryz.underlying27 (by kernel_rfl) (by omega) (fun n cs y hl ht => stroke_of hl ht) hv h
end
end
section
set_option linter.unusedSimpArgs false
set_option linter.unusedVariables false
def eq4 (a b c d a' b' c' d' : Int) : Bool := (a == a') && ((b == b') && ((c == c') && (d == d')))
theorem eq4_iff {a b c d a' b' c' d' : Int} : eq4 a b c d a' b' c' d' = true ↔ a = a' ∧ b = b' ∧ c = c' ∧ d = d' := by
  simp [eq4]
def Re.eqb (p q : Re) : Bool := eq4 p.x p.y p.wd p.ht q.x q.y q.wd q.ht
def Co.eqb (p q : Co) : Bool := eq4 p.r p.g p.b p.a q.r q.g q.b q.a
def St.eqb (s t : St) : Bool := (s.kind == t.kind) && (s.rect.eqb t.rect && (s.col.eqb t.col && (s.back.eqb t.back && ((s.text.toList == t.text.toList) && (s.node == t.node)))))
def Co.none : Co := ⟨0, 0, 0, 0⟩
def Re.none : Re := ⟨0, 0, 0, 0⟩
theorem eq_colour (d : Nat) (w : World) (a b c e a' b' c' e' : Int) : (Op.equalIn (d + 2) 44 (.agg #[.int .u8 (a), .int .u8 (b), .int .u8 (c), .int .u8 (e)]) (.agg #[.int .u8 (a'), .int .u8 (b'), .int .u8 (c'), .int .u8 (e')])).run Tryz.prog w = .ok (eq4 a b c e a' b' c' e') w := by
  unfold eq4
  have A := Tryz.underlying44
  have B := Tryz.underlying5
  rw [run_equalIn_agg w (d + 1) _ _ _ (by simp [Program.fieldsOf, A]) (by kernel_rfl)]
  simp only [Program.fieldsOf, A]
  by_cases h0 : a = a' <;> by_cases h1 : b = b' <;> by_cases h2 : c = c' <;> by_cases h3 : e = e' <;> simp [Op.eqFields, part, isAgg, run_underlying B, run_equalIn_int _ _ _ _ _ _ _ B, h0, h1, h2, h3]

theorem eq_point (d : Nat) (w : World) (a b a' b' : Int) : (Op.equalIn (d + 2) 40 (.agg #[.int .i64 a, .int .i64 b]) (.agg #[.int .i64 a', .int .i64 b'])).run Tryz.prog w = .ok ((a == a') && (b == b')) w := by
  have A := Tryz.underlying40
  have B := Tryz.underlying3
  rw [run_equalIn_agg w (d + 1) _ _ _ (by simp [Program.fieldsOf, A]) (by kernel_rfl)]
  simp only [Program.fieldsOf, A]
  by_cases h0 : a = a' <;> by_cases h1 : b = b' <;> simp [Op.eqFields, part, isAgg, run_underlying B, run_equalIn_int _ _ _ _ _ _ _ B, h0, h1]
theorem eq_size (d : Nat) (w : World) (a b a' b' : Int) : (Op.equalIn (d + 2) 23 (.agg #[.int .i64 a, .int .i64 b]) (.agg #[.int .i64 a', .int .i64 b'])).run Tryz.prog w = .ok ((a == a') && (b == b')) w := by
  have A := Tryz.underlying23
  have B := Tryz.underlying3
  rw [run_equalIn_agg w (d + 1) _ _ _ (by simp [Program.fieldsOf, A]) (by kernel_rfl)]
  simp only [Program.fieldsOf, A]
  by_cases h0 : a = a' <;> by_cases h1 : b = b' <;> simp [Op.eqFields, part, isAgg, run_underlying B, run_equalIn_int _ _ _ _ _ _ _ B, h0, h1]
theorem eq_rect (d : Nat) (w : World) (a b c e a' b' c' e' : Int) : (Op.equalIn (d + 3) 42 (.agg #[.int .i64 a, .int .i64 b, .int .i64 c, .int .i64 e]) (.agg #[.int .i64 a', .int .i64 b', .int .i64 c', .int .i64 e'])).run Tryz.prog w = .ok (eq4 a b c e a' b' c' e') w := by
  unfold eq4
  have A := Tryz.underlying42
  have B := Tryz.underlying40
  have C := Tryz.underlying23
  rw [run_equalIn_agg w (d + 2) _ _ _ (by simp [Program.fieldsOf, A]) (by kernel_rfl)]
  simp only [Program.fieldsOf, A]
  have e1 := fun w => eq_point d w a b a' b'
  have e2 := fun w => eq_size d w c e c' e'
  have z1 : Tryz.prog.cellsOf 40 = 2 := by kernel_rfl
  have z2 : Tryz.prog.cellsOf 23 = 2 := by kernel_rfl
  have y1 : Tryz.t40.size = 2 := by kernel_rfl
  have y2 : Tryz.t23.size = 2 := by kernel_rfl
  generalize (a == a') = b0 at *
  generalize (b == b') = b1 at *
  generalize (c == c') = b2 at *
  generalize (e == e') = b3 at *
  simp [Op.eqFields, part, isAgg, run_underlying B, run_underlying C, sizeOf, z1, z2, y1, y2, e1, e2]
  cases b0 <;> cases b1 <;> cases b2 <;> cases b3 <;> simp
theorem eq_stroke (d : Nat) (w : World) (s t : St) : (Op.equalIn (d + 4) 46 (.agg #[.int .u8 (s).kind, .int .i64 ((s).rect).x, .int .i64 ((s).rect).y, .int .i64 ((s).rect).wd, .int .i64 ((s).rect).ht, .int .u8 ((s).col).r, .int .u8 ((s).col).g, .int .u8 ((s).col).b, .int .u8 ((s).col).a, .int .u8 ((s).back).r, .int .u8 ((s).back).g, .int .u8 ((s).back).b, .int .u8 ((s).back).a, .string (s).text, .int .i64 (s).node]) (.agg #[.int .u8 (t).kind, .int .i64 ((t).rect).x, .int .i64 ((t).rect).y, .int .i64 ((t).rect).wd, .int .i64 ((t).rect).ht, .int .u8 ((t).col).r, .int .u8 ((t).col).g, .int .u8 ((t).col).b, .int .u8 ((t).col).a, .int .u8 ((t).back).r, .int .u8 ((t).back).g, .int .u8 ((t).back).b, .int .u8 ((t).back).a, .string (t).text, .int .i64 (t).node])).run Tryz.prog w = .ok (s.eqb t) w := by
 unfold St.eqb Re.eqb Co.eqb
 have A := Tryz.underlying46
 have K := Tryz.underlying5
 have I := Tryz.underlying3
 have S := Tryz.underlying9
 have B := Tryz.underlying42
 have C := Tryz.underlying44
 rw [run_equalIn_agg w (d + 3) _ _ _ (by simp [Program.fieldsOf, A]) (by kernel_rfl)]
 simp only [Program.fieldsOf, A]
 have z1 : Tryz.prog.cellsOf 42 = 4 := by kernel_rfl
 have z2 : Tryz.prog.cellsOf 44 = 4 := by kernel_rfl
 have y1 : Tryz.t42.size = 4 := by kernel_rfl
 have y2 : Tryz.t44.size = 4 := by kernel_rfl
 have E0 : ∀ w a b, (Op.equalIn (d + 3) 5 (.int .u8 a) (.int .u8 b)).run Tryz.prog w = .ok (a == b) w := fun w a b => run_equalIn_int w (d + 2) _ _ _ a b K
 have E1 : ∀ w a b, (Op.equalIn (d + 3) 3 (.int .i64 a) (.int .i64 b)).run Tryz.prog w = .ok (a == b) w := fun w a b => run_equalIn_int w (d + 2) _ _ _ a b I
 have E2 : ∀ w a b, (Op.equalIn (d + 3) 9 (.string a) (.string b)).run Tryz.prog w = .ok (a.toList == b.toList) w := fun w a b => run_equalIn_string w (d + 2) _ a b S
 have E3 := eq_rect d
 have E4 := eq_colour (d + 1)
 generalize hb0 : (s.kind == t.kind) = b0
 generalize hb1 : eq4 s.rect.x s.rect.y s.rect.wd s.rect.ht t.rect.x t.rect.y t.rect.wd t.rect.ht = b1
 generalize hb2 : eq4 s.col.r s.col.g s.col.b s.col.a t.col.r t.col.g t.col.b t.col.a = b2
 generalize hb3 : eq4 s.back.r s.back.g s.back.b s.back.a t.back.r t.back.g t.back.b t.back.a = b3
 generalize hb4 : (s.text.toList == t.text.toList) = b4
 generalize hb5 : (s.node == t.node) = b5
 simp only [Op.eqFields, Sem.run_bind, Sem.run_ite, part, isAgg, run_underlying K, run_underlying I, run_underlying S, run_underlying B, run_underlying C]
 simp [sizeOf, z1, z2, y1, y2, E0, E1, E2, E3, E4, hb0, hb1, hb2, hb3, hb4, hb5]
 cases b0 <;> cases b1 <;> cases b2 <;> cases b3 <;> cases b4 <;> cases b5 <;> simp
end
section
set_option linter.unusedSimpArgs false
/-- Spans of a row: (from, to), from the left, none beside another one. -/
abbrev Sp := Int × Int
def InS (l : List Sp) (x : Int) : Prop := ∃ s ∈ l, s.1 ≤ x ∧ x < s.2
def CanS : List Sp → Prop
  | [] => True
  | [s] => s.1 < s.2
  | s :: t :: r => s.1 < s.2 ∧ s.2 < t.1 ∧ CanS (t :: r)
theorem CanS.tail {s : Sp} {r : List Sp} (h : CanS (s :: r)) : CanS r := by
  cases r with
  | nil => trivial
  | cons t r => exact h.2.2
theorem CanS.pos {s : Sp} {r : List Sp} (h : CanS (s :: r)) : s.1 < s.2 := by
  cases r with
  | nil => exact h
  | cons t r => exact h.1
theorem InS.nil (x : Int) : ¬ InS [] x := by simp [InS]
theorem InS.cons {s : Sp} {r : List Sp} {x : Int} : InS (s :: r) x ↔ (s.1 ≤ x ∧ x < s.2) ∨ InS r x := by
  simp [InS]
/-! ### rising lists -/
def Rise : List Int → Prop
  | [] => True
  | [_] => True
  | a :: b :: r => a < b ∧ Rise (b :: r)
theorem Rise.tail {a : Int} {r : List Int} (h : Rise (a :: r)) : Rise r := by
  cases r with
  | nil => trivial
  | cons b r => exact h.2
theorem Rise.mk {a : Int} {r : List Int} (h : Rise r) (ha : ∀ x ∈ r, a < x) : Rise (a :: r) := by
  cases r with
  | nil => trivial
  | cons b r => exact ⟨ha b (by simp), h⟩
/-! ### what is wanted between edges -/
/-! ### rectangles as sets of places (those that may be: sides not below 0) -/
def hasR (q : Re) (x y : Int) : Bool := decide (q.x ≤ x) && decide (x < q.x + q.wd) && decide (q.y ≤ y) && decide (y < q.y + q.ht)
def noneR (q : Re) : Bool := decide (q.wd = 0) || decide (q.ht = 0)
/-! ### the program's way: rows merged, mixed -/
def mergeS : List Sp → Sp → List Sp
  | [], s => [s]
  | [t], s => if s.1 ≤ t.2 then [(t.1, max t.2 s.2)] else [t, s]
  | t :: u :: r, s => t :: mergeS (u :: r) s
/-! ### bands -/
/-! ### the document's way with bands -/
/-! ### areas -/
/-! ### rows alone -/
end
section
set_option linter.unusedSimpArgs false
/-! ### forms as sets of places -/
abbrev Bd := Int × Int × List Sp
def OnB (l : List Bd) (x z : Int) : Prop := ∃ t ∈ l, t.1 ≤ z ∧ z < t.1 + t.2.1 ∧ InS t.2.2 x
def GoodB (t : Bd) : Prop := 0 < t.2.1 ∧ t.2.2 ≠ [] ∧ CanS t.2.2
def CanB : List Bd → Prop
  | [] => True
  | [t] => GoodB t
  | t :: u :: r => GoodB t ∧ t.1 + t.2.1 ≤ u.1 ∧ (t.1 + t.2.1 = u.1 → t.2.2 ≠ u.2.2) ∧ CanB (u :: r)
theorem CanB.tail {t : Bd} {r : List Bd} (h : CanB (t :: r)) : CanB r := by
  cases r with
  | nil => trivial
  | cons u r => exact h.2.2.2
theorem OnB.nil (x z : Int) : ¬ OnB [] x z := by simp [OnB]
theorem OnB.cons {t : Bd} {r : List Bd} {x z : Int} : OnB (t :: r) x z ↔ (t.1 ≤ z ∧ z < t.1 + t.2.1 ∧ InS t.2.2 x) ∨ OnB r x z := by simp [OnB]
theorem OnB.append {l m : List Bd} {x z : Int} : OnB (l ++ m) x z ↔ OnB l x z ∨ OnB m x z := by
  unfold OnB
  simp only [List.mem_append]
  constructor
  · rintro ⟨t, h | h, h'⟩
    · exact .inl ⟨t, h, h'⟩
    · exact .inr ⟨t, h, h'⟩
  · rintro (⟨t, h, h'⟩ | ⟨t, h, h'⟩)
    · exact ⟨t, .inl h, h'⟩
    · exact ⟨t, .inr h, h'⟩
theorem CanS.some {l : List Sp} (h : CanS l) (hn : l ≠ []) : ∃ x, InS l x := by
  cases l with
  | nil => exact absurd rfl hn
  | cons s r => exact ⟨s.1, InS.cons.2 (.inl ⟨Int.le_refl _, h.pos⟩)⟩
/-! ### how many rectangles a form has -/
end
section
set_option linter.unusedSimpArgs false
/-! ### ends lie among the edges -/
def InM (v : Int) : Prop := -16384 ≤ v ∧ v ≤ 16384
def MayL (l : List Re) : Prop := ∀ q ∈ l, mayR q = true
theorem MayL.append {a b : List Re} (ha : MayL a) (hb : MayL b) : MayL (a ++ b) := fun q hq => by
  rcases List.mem_append.1 hq with h | h
  · exact ha q h
  · exact hb q h
/-! ### areas as numbers of places -/
/-! ### moved -/
theorem eqb_iff {p q : Re} : p.eqb q = true ↔ p = q := by
  unfold Re.eqb
  rw [eq4_iff]
  cases p; cases q; simp
end
end Go.Proofs.YtffmomgmkpmpkaaGreatDoor
