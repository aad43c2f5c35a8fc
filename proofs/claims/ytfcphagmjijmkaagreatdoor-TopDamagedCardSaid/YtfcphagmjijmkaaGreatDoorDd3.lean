/-
  XGa: XLisA XLisB XLisC XLisD XLisE XRegP XRegQ XRegR XRegPa.
-/
import Derived.Laws.StructEq
import Derived.Test.YtfcphagmjijmkaaGreatDoorDd2
namespace Go.Proofs.YtfcphagmjijmkaaGreatDoor
open Go.RowKit
set_option linter.unusedVariables false
set_option linter.unusedSimpArgs false
attribute [local go_sem] vwp vUpon_value vUpon_skip vUpon_enter vUpon_row
set_option maxHeartbeats 16000000
section
section
def inB (n : Int) : Bool := decide (-16384 ≤ n) && decide (n ≤ 16384)
def sdB (n : Int) : Bool := decide (0 ≤ n) && decide (n ≤ 32768)
theorem gwithin_any (n : Int) (w : World) (hn : I64 n) : Calls Tryz.prog 103 #[.int .i64 n] w fun e w' => e = .returned (.bool (inB n)) ∧ w = w' := by
 unfold inB
 go_enter Tryz.func103, Tryz.ntmps103
 by_cases h : -16384 ≤ n
 ·have g1 : decide (-16384 ≤ n) = true := by simpa using h
  go_wp2; go_ret; exact ⟨by simp [g1], rfl⟩
 ·have g1 : decide (-16384 ≤ n) = false := by simpa using h
  go_wp2; go_ret; exact ⟨by simp [g1], rfl⟩
theorem gside_any (n : Int) (w : World) (hn : I64 n) : Calls Tryz.prog 104 #[.int .i64 n] w fun e w' => e = .returned (.bool (sdB n)) ∧ w = w' := by
 unfold sdB
 go_enter Tryz.func104, Tryz.ntmps104
 by_cases h : 0 ≤ n
 ·have g1 : decide (0 ≤ n) = true := by simpa using h
  go_wp2; go_ret; exact ⟨by simp [g1], rfl⟩
 ·have g1 : decide (0 ≤ n) = false := by simpa using h
  go_wp2; go_ret; exact ⟨by simp [g1], rfl⟩
theorem rwithin_any (n : Int) (w : World) (hn : I64 n) : Calls Tryz.prog 181 #[.int .i64 n] w fun e w' => e = .returned (.bool (inB n)) ∧ w = w' := by
 unfold inB
 go_enter Tryz.func181, Tryz.ntmps181
 by_cases h : -16384 ≤ n
 ·have g1 : decide (-16384 ≤ n) = true := by simpa using h
  go_wp2; go_ret; exact ⟨by simp [g1], rfl⟩
 ·have g1 : decide (-16384 ≤ n) = false := by simpa using h
  go_wp2; go_ret; exact ⟨by simp [g1], rfl⟩
theorem rside_any (n : Int) (w : World) (hn : I64 n) : Calls Tryz.prog 182 #[.int .i64 n] w fun e w' => e = .returned (.bool (sdB n)) ∧ w = w' := by
 unfold sdB
 go_enter Tryz.func182, Tryz.ntmps182
 by_cases h : 0 ≤ n
 ·have g1 : decide (0 ≤ n) = true := by simpa using h
  go_wp2; go_ret; exact ⟨by simp [g1], rfl⟩
 ·have g1 : decide (0 ≤ n) = false := by simpa using h
  go_wp2; go_ret; exact ⟨by simp [g1], rfl⟩
end
section
structure Re where
 x : Int
 y : Int
 wd : Int
 ht : Int
instance : Inhabited Re := ⟨⟨0, 0, 0, 0⟩⟩
def Re.Wf (q : Re) : Prop := I64 q.x ∧ I64 q.y ∧ I64 q.wd ∧ I64 q.ht
theorem inB_iff {n : Int} : inB n = true ↔ -16384 ≤ n ∧ n ≤ 16384 := by simp [inB]
theorem sdB_iff {n : Int} : sdB n = true ↔ 0 ≤ n ∧ n ≤ 32768 := by simp [sdB]
def spanB (a s : Int) : Bool := inB a && (sdB s && decide (a + s ≤ 16384))
def mayR (q : Re) : Bool := spanB q.x q.wd && spanB q.y q.ht
theorem span_any (a s : Int) (w : World) (ha : I64 a) (hs : I64 s) : Calls Tryz.prog 135 #[.int .i64 a, .int .i64 s] w fun e w' => e = .returned (.bool (spanB a s)) ∧ w = w' := by
 have A := fun w => rwithin_any a w ha
 have B := fun w => rside_any s w hs
 unfold spanB
 cases h1 : inB a
 ·rw [h1] at A
  replace A := hdh A
  go_enter Tryz.func135, Tryz.ntmps135
  go_wp2_with (first | (go_at_call 181; (with_reducible refine (A.out _).mono ?_); rintro e w1 ⟨rfl, rfl⟩) | (go_at_call 182; (with_reducible refine (B _).mono ?_); rintro e w2 ⟨rfl, rfl⟩))
  go_ret; exact ⟨rfl, rfl⟩
 ·cases h2 : sdB s
  ·rw [h1] at A
   rw [h2] at B; replace A := hdh A; replace B := hdh B
   go_enter Tryz.func135, Tryz.ntmps135
   go_wp2_with (first | (go_at_call 181; (with_reducible refine (A.out _).mono ?_); rintro e w1 ⟨rfl, rfl⟩) | (go_at_call 182; (with_reducible refine (B.out _).mono ?_); rintro e w2 ⟨rfl, rfl⟩))
   go_ret; exact ⟨rfl, rfl⟩
  ·rw [h1] at A
   rw [h2] at B; obtain ⟨x1, x2⟩ := inB_iff.1 h1; obtain ⟨y1, y2⟩ := sdB_iff.1 h2; clear h1 h2; replace A := hdh A; replace B := hdh B
   go_enter Tryz.func135, Tryz.ntmps135
   go_wp2_with (first | (go_at_call 181; (with_reducible refine (A.out _).mono ?_); rintro e w1 ⟨rfl, rfl⟩) | (go_at_call 182; (with_reducible refine (B.out _).mono ?_); rintro e w2 ⟨rfl, rfl⟩))
   go_ret; exact ⟨rfl, rfl⟩
theorem may_any (q : Re) (w : World) (hq : q.Wf) : Calls Tryz.prog 92 #[.agg #[.int .i64 (q).x, .int .i64 (q).y, .int .i64 (q).wd, .int .i64 (q).ht]] w fun e w' => e = .returned (.bool (mayR q)) ∧ Below w.heap.size w w' := by
 have A := fun w => span_any q.x q.wd w hq.1 hq.2.2.1
 have B := fun w => span_any q.y q.ht w hq.2.1 hq.2.2.2
 unfold mayR
 cases h1 : spanB q.x q.wd <;> rw [h1] at A <;> replace A := hdh A <;> replace B := hdh B
 ·go_enter Tryz.func92, Tryz.ntmps92
  go_wp2_with (first | (go_at_call 135; (with_reducible refine (A.out _).mono ?_); rintro e w1 ⟨rfl, rfl⟩) | (go_at_call 135; (with_reducible refine (B.out _).mono ?_); rintro e w2 ⟨rfl, rfl⟩))
  go_ret; exact ⟨rfl, belt⟩
 ·go_enter Tryz.func92, Tryz.ntmps92
  go_wp2_with (first | (go_at_call 135; (with_reducible refine (A.out _).mono ?_); rintro e w1 ⟨rfl, rfl⟩) | (go_at_call 135; (with_reducible refine (B.out _).mono ?_); rintro e w2 ⟨rfl, rfl⟩))
  go_ret; exact ⟨rfl, belt⟩
end
section
theorem gcheck_any (q : Re) (w : World) (hq : q.Wf) : Calls Tryz.prog 55 #[.agg #[.int .i64 (q).x, .int .i64 (q).y, .int .i64 (q).wd, .int .i64 (q).ht]] w fun e w' => e = .returned (.int .i64 (if mayR q then 0 else 5)) ∧ Below w.heap.size w w' := by
 obtain ⟨x, y, a, b⟩ := q; obtain ⟨q1, q2, q3, q4⟩ := hq; simp only at q1 q2 q3 q4 ⊢
 have A := fun w => gwithin_any x w q1
 have B := fun w => gwithin_any y w q2
 have C := fun w => gside_any a w q3
 have D := fun w => gside_any b w q4
 cases h1 : inB x
 ·have hm : mayR ⟨x, y, a, b⟩ = false := by simp [mayR, spanB, h1]
  rw [h1] at A; replace A := hdh A; replace B := hdh B; replace C := hdh C; replace D := hdh D; rw [show mayR ⟨x, y, a, b⟩ = false from hm]; clear hm
  go_enter Tryz.func55, Tryz.ntmps55
  go_wp2_with (first | (go_at_call 103; (with_reducible refine (A.out _).mono ?_); rintro e w1 ⟨rfl, rfl⟩) | (go_at_call 103; (with_reducible refine (B.out _).mono ?_); rintro e w2 ⟨rfl, rfl⟩) | (go_at_call 104; (with_reducible refine (C.out _).mono ?_); rintro e w3 ⟨rfl, rfl⟩) | (go_at_call 104; (with_reducible refine (D.out _).mono ?_); rintro e w4 ⟨rfl, rfl⟩))
  all_goals (go_ret; exact ⟨rfl, belt⟩)
 cases h2 : inB y
 ·have hm : mayR ⟨x, y, a, b⟩ = false := by simp [mayR, spanB, h2]
  rw [h1] at A; rw [h2] at B; replace A := hdh A; replace B := hdh B; replace C := hdh C; replace D := hdh D; rw [show mayR ⟨x, y, a, b⟩ = false from hm]; clear hm
  go_enter Tryz.func55, Tryz.ntmps55
  go_wp2_with (first | (go_at_call 103; (with_reducible refine (A.out _).mono ?_); rintro e w1 ⟨rfl, rfl⟩) | (go_at_call 103; (with_reducible refine (B.out _).mono ?_); rintro e w2 ⟨rfl, rfl⟩) | (go_at_call 104; (with_reducible refine (C.out _).mono ?_); rintro e w3 ⟨rfl, rfl⟩) | (go_at_call 104; (with_reducible refine (D.out _).mono ?_); rintro e w4 ⟨rfl, rfl⟩))
  all_goals (go_ret; exact ⟨rfl, belt⟩)
 cases h3 : sdB a
 ·have hm : mayR ⟨x, y, a, b⟩ = false := by simp [mayR, spanB, h3]
  rw [h1] at A; rw [h2] at B; rw [h3] at C; replace A := hdh A; replace B := hdh B; replace C := hdh C; replace D := hdh D; rw [show mayR ⟨x, y, a, b⟩ = false from hm]; clear hm
  go_enter Tryz.func55, Tryz.ntmps55
  go_wp2_with (first | (go_at_call 103; (with_reducible refine (A.out _).mono ?_); rintro e w1 ⟨rfl, rfl⟩) | (go_at_call 103; (with_reducible refine (B.out _).mono ?_); rintro e w2 ⟨rfl, rfl⟩) | (go_at_call 104; (with_reducible refine (C.out _).mono ?_); rintro e w3 ⟨rfl, rfl⟩) | (go_at_call 104; (with_reducible refine (D.out _).mono ?_); rintro e w4 ⟨rfl, rfl⟩))
  all_goals (go_ret; exact ⟨rfl, belt⟩)
 cases h4 : sdB b
 ·have hm : mayR ⟨x, y, a, b⟩ = false := by simp [mayR, spanB, h4]
  rw [h1] at A; rw [h2] at B; rw [h3] at C; rw [h4] at D; replace A := hdh A; replace B := hdh B; replace C := hdh C; replace D := hdh D; rw [show mayR ⟨x, y, a, b⟩ = false from hm]; clear hm
  go_enter Tryz.func55, Tryz.ntmps55
  go_wp2_with (first | (go_at_call 103; (with_reducible refine (A.out _).mono ?_); rintro e w1 ⟨rfl, rfl⟩) | (go_at_call 103; (with_reducible refine (B.out _).mono ?_); rintro e w2 ⟨rfl, rfl⟩) | (go_at_call 104; (with_reducible refine (C.out _).mono ?_); rintro e w3 ⟨rfl, rfl⟩) | (go_at_call 104; (with_reducible refine (D.out _).mono ?_); rintro e w4 ⟨rfl, rfl⟩))
  all_goals (go_ret; exact ⟨rfl, belt⟩)
 obtain ⟨x1, x2⟩ := inB_iff.1 h1; obtain ⟨y1, y2⟩ := inB_iff.1 h2; obtain ⟨a1, a2⟩ := sdB_iff.1 h3; obtain ⟨b1, b2⟩ := sdB_iff.1 h4
 by_cases h5 : max (x + a) (y + b) ≤ 16384
 ·have hm : mayR ⟨x, y, a, b⟩ = true := by simp [mayR, spanB, h1, h2, h3, h4]; omega
  have h6 : x + a ≤ 16384 ∧ y + b ≤ 16384 := by omega
  obtain ⟨h7, h8⟩ := h6
  have g : decide (max (x + a) (y + b) ≤ 16384) = true := by simpa using h5
  rw [h1] at A; rw [h2] at B; rw [h3] at C; rw [h4] at D; replace A := hdh A; replace B := hdh B; replace C := hdh C; replace D := hdh D; rw [show mayR ⟨x, y, a, b⟩ = true from hm]; clear hm
  go_enter Tryz.func55, Tryz.ntmps55
  go_wp2_with (first | (go_at_call 103; (with_reducible refine (A.out _).mono ?_); rintro e w1 ⟨rfl, rfl⟩) | (go_at_call 103; (with_reducible refine (B.out _).mono ?_); rintro e w2 ⟨rfl, rfl⟩) | (go_at_call 104; (with_reducible refine (C.out _).mono ?_); rintro e w3 ⟨rfl, rfl⟩) | (go_at_call 104; (with_reducible refine (D.out _).mono ?_); rintro e w4 ⟨rfl, rfl⟩))
  all_goals (go_ret; exact ⟨rfl, belt⟩)
 ·have hm : mayR ⟨x, y, a, b⟩ = false := by simp [mayR, spanB, h1, h2, h3, h4]; omega
  have g : decide (max (x + a) (y + b) ≤ 16384) = false := by simpa using h5
  rw [h1] at A; rw [h2] at B; rw [h3] at C; rw [h4] at D; replace A := hdh A; replace B := hdh B; replace C := hdh C; replace D := hdh D; rw [show mayR ⟨x, y, a, b⟩ = false from hm]; clear hm
  go_enter Tryz.func55, Tryz.ntmps55
  go_wp2_with (first | (go_at_call 103; (with_reducible refine (A.out _).mono ?_); rintro e w1 ⟨rfl, rfl⟩) | (go_at_call 103; (with_reducible refine (B.out _).mono ?_); rintro e w2 ⟨rfl, rfl⟩) | (go_at_call 104; (with_reducible refine (C.out _).mono ?_); rintro e w3 ⟨rfl, rfl⟩) | (go_at_call 104; (with_reducible refine (D.out _).mono ?_); rintro e w4 ⟨rfl, rfl⟩))
  all_goals (go_ret; exact ⟨rfl, belt⟩)
end
section
structure Co where
 r : Int
 g : Int
 b : Int
 a : Int
structure St where
 kind : Int
 rect : Re
 col : Co
 back : Co
 text : ByteArray
 node : Int
instance : Inhabited St := ⟨⟨0, default, ⟨0, 0, 0, 0⟩, ⟨0, 0, 0, 0⟩, default, 0⟩⟩
def Co.Wf (c : Co) : Prop := U8 c.r ∧ U8 c.g ∧ U8 c.b ∧ U8 c.a
def Co.enc (c : Co) : List Value := [.int .u8 c.r, .int .u8 c.g, .int .u8 c.b, .int .u8 c.a]
def Re.enc (q : Re) : List Value := [.int .i64 q.x, .int .i64 q.y, .int .i64 q.wd, .int .i64 q.ht]
def St.enc (s : St) : List Value := [.int .u8 s.kind] ++ s.rect.enc ++ s.col.enc ++ s.back.enc ++ [.string s.text, .int .i64 s.node]
def St.Wf (s : St) : Prop := U8 s.kind ∧ s.rect.Wf ∧ s.col.Wf ∧ s.back.Wf ∧ s.text.size ≤ maxLen ∧ I64 s.node
section
variable {H : Type} {enc : TypeId × Value → H} {w : World} {base : Nat} {spare : Nat → Bool} {held : Bool}
theorem field_of {P : Program} {t : TypeId} {fs : Array Field} {fuel : Nat} {cs : List Value} {x : DataW H × List MemPlace} (hs : P.underlying t = some (.struct fs)) (h : DataW.trod enc P w base spare held fuel t cs = some x)
  (j off k : Nat) (ty : TypeId) (f : Field) (hj : fs[j]? = some f) (ht : f.type = ty) (ho : f.offset = off) (hk : P.cellsOf ty = k) : ∃ (n : Nat) (y : DataW H × List MemPlace), DataW.trod enc P w base spare held n ty ((cs.drop off).take k) = some y := by
 subst ht; subst ho; subst hk; obtain ⟨ys, n, _, _, _, hyl, hf⟩ := DataW.trod_struct hs h; have h1 := hf j f hj; have hjl : j < fs.size := (Array.getElem?_eq_some_iff.1 hj).1; exact ⟨n, _, h1.trans (List.getElem?_eq_getElem (by omega))⟩
theorem colour_of {fuel : Nat} {c0 c1 c2 c3 : Value} {x : DataW H × List MemPlace} (h : DataW.trod enc Tryz.prog w base spare held fuel 34 [c0, c1, c2, c3] = some x) : ∃ c : Co, c.Wf ∧ [c0, c1, c2, c3] = c.enc := by
 obtain ⟨m0, y0, h0⟩ := field_of Tryz.underlying34 h 0 0 1 5 _ rfl rfl rfl (by kernel_rfl); obtain ⟨m1, y1, h1⟩ := field_of Tryz.underlying34 h 1 1 1 5 _ rfl rfl rfl (by kernel_rfl); obtain ⟨m2, y2, h2⟩ := field_of Tryz.underlying34 h 2 2 1 5 _ rfl rfl rfl (by kernel_rfl); obtain ⟨m3, y3, h3⟩ := field_of Tryz.underlying34 h 3 3 1 5 _ rfl rfl rfl (by kernel_rfl); simp only [List.drop_zero, List.drop_succ_cons, List.take_succ_cons, List.take_zero] at h0 h1 h2 h3; obtain ⟨n0, e0, z0, wf0⟩ := DataW.trod_int Tryz.underlying5 h0; simp at e0; subst e0; obtain ⟨n1, e1, z1, wf1⟩ := DataW.trod_int Tryz.underlying5 h1; simp at e1; subst e1
 obtain ⟨n2, e2, z2, wf2⟩ := DataW.trod_int Tryz.underlying5 h2; simp at e2; subst e2; obtain ⟨n3, e3, z3, wf3⟩ := DataW.trod_int Tryz.underlying5 h3; simp at e3; subst e3; exact ⟨⟨n0, n1, n2, n3⟩, ⟨u8_of wf0, u8_of wf1, u8_of wf2, u8_of wf3⟩, rfl⟩
theorem point_of {fuel : Nat} {c0 c1 : Value} {x : DataW H × List MemPlace} (h : DataW.trod enc Tryz.prog w base spare held fuel 30 [c0, c1] = some x) : ∃ a b : Int, I64 a ∧ I64 b ∧ c0 = .int .i64 a ∧ c1 = .int .i64 b := by
 obtain ⟨m0, y0, h0⟩ := field_of Tryz.underlying30 h 0 0 1 3 _ rfl rfl rfl (by kernel_rfl); obtain ⟨m1, y1, h1⟩ := field_of Tryz.underlying30 h 1 1 1 3 _ rfl rfl rfl (by kernel_rfl); simp only [List.drop_zero, List.drop_succ_cons, List.take_succ_cons, List.take_zero] at h0 h1; obtain ⟨n0, e0, z0, wf0⟩ := DataW.trod_int Tryz.underlying3 h0; simp at e0; subst e0; obtain ⟨n1, e1, z1, wf1⟩ := DataW.trod_int Tryz.underlying3 h1; simp at e1; subst e1; exact ⟨n0, n1, i64_of wf0, i64_of wf1, rfl, rfl⟩
theorem size_of {fuel : Nat} {c0 c1 : Value} {x : DataW H × List MemPlace} (h : DataW.trod enc Tryz.prog w base spare held fuel 24 [c0, c1] = some x) : ∃ a b : Int, I64 a ∧ I64 b ∧ c0 = .int .i64 a ∧ c1 = .int .i64 b := by
 obtain ⟨m0, y0, h0⟩ := field_of Tryz.underlying24 h 0 0 1 3 _ rfl rfl rfl (by kernel_rfl); obtain ⟨m1, y1, h1⟩ := field_of Tryz.underlying24 h 1 1 1 3 _ rfl rfl rfl (by kernel_rfl); simp only [List.drop_zero, List.drop_succ_cons, List.take_succ_cons, List.take_zero] at h0 h1; obtain ⟨n0, e0, z0, wf0⟩ := DataW.trod_int Tryz.underlying3 h0; simp at e0; subst e0; obtain ⟨n1, e1, z1, wf1⟩ := DataW.trod_int Tryz.underlying3 h1; simp at e1; subst e1; exact ⟨n0, n1, i64_of wf0, i64_of wf1, rfl, rfl⟩
theorem rect_of {fuel : Nat} {c0 c1 c2 c3 : Value} {x : DataW H × List MemPlace} (h : DataW.trod enc Tryz.prog w base spare held fuel 32 [c0, c1, c2, c3] = some x) : ∃ q : Re, q.Wf ∧ [c0, c1, c2, c3] = q.enc := by
 obtain ⟨m0, y0, h0⟩ := field_of Tryz.underlying32 h 0 0 2 30 _ rfl rfl rfl (by kernel_rfl); obtain ⟨m1, y1, h1⟩ := field_of Tryz.underlying32 h 1 2 2 24 _ rfl rfl rfl (by kernel_rfl); simp only [List.drop_zero, List.drop_succ_cons, List.take_succ_cons, List.take_zero] at h0 h1; obtain ⟨a, b, wa, wb, rfl, rfl⟩ := point_of h0; obtain ⟨c, d, wc, wd, rfl, rfl⟩ := size_of h1; exact ⟨⟨a, b, c, d⟩, ⟨wa, wb, wc, wd⟩, rfl⟩
theorem list15 {cs : List Value} (h : cs.length = 15) : ∃ a b c d e f g i j k l m n o p, cs = [a, b, c, d, e, f, g, i, j, k, l, m, n, o, p] := by
 match cs, h with
 | [a, b, c, d, e, f, g, i, j, k, l, m, n, o, p], _ => exact ⟨a, b, c, d, e, f, g, i, j, k, l, m, n, o, p, rfl⟩
theorem stroke_of {fuel : Nat} {cs : List Value} {x : DataW H × List MemPlace} (hl : cs.length = 15) (h : DataW.trod enc Tryz.prog w base spare held fuel 36 cs = some x) : ∃ s : St, s.Wf ∧ cs = s.enc := by
 obtain ⟨a, b, c, d, e, f, g, i, j, k, l, m, n, o, p, rfl⟩ := list15 hl; obtain ⟨m0, y0, h0⟩ := field_of Tryz.underlying36 h 0 0 1 5 _ rfl rfl rfl (by kernel_rfl); obtain ⟨m1, y1, h1⟩ := field_of Tryz.underlying36 h 1 1 4 32 _ rfl rfl rfl (by kernel_rfl); obtain ⟨m2, y2, h2⟩ := field_of Tryz.underlying36 h 2 5 4 34 _ rfl rfl rfl (by kernel_rfl); obtain ⟨m3, y3, h3⟩ := field_of Tryz.underlying36 h 3 9 4 34 _ rfl rfl rfl (by kernel_rfl); obtain ⟨m4, y4, h4⟩ := field_of Tryz.underlying36 h 4 13 1 9 _ rfl rfl rfl (by kernel_rfl); obtain ⟨m5, y5, h5⟩ := field_of Tryz.underlying36 h 5 14 1 3 _ rfl rfl rfl (by kernel_rfl)
 simp only [List.drop_zero, List.drop_succ_cons, List.take_succ_cons, List.take_zero] at h0 h1 h2 h3 h4 h5; obtain ⟨n0, e0, z0, wf0⟩ := DataW.trod_int Tryz.underlying5 h0; simp at e0; subst e0; obtain ⟨q, wq, eq⟩ := rect_of h1; obtain ⟨c1, w1, e1⟩ := colour_of h2; obtain ⟨c2, w2, e2⟩ := colour_of h3; obtain ⟨t, e4, z4, wt⟩ := DataW.trod_string Tryz.underlying9 h4; simp at e4; subst e4; obtain ⟨n5, e5, z5, wf5⟩ := DataW.trod_int Tryz.underlying3 h5; simp at e5; subst e5; refine ⟨⟨n0, q, c1, c2, t, n5⟩, ⟨u8_of wf0, wq, w1, w2, wt, i64_of wf5⟩, ?_⟩; unfold St.enc; rw [← eq, ← e1, ← e2]
 rfl
set_option maxRecDepth 100000 in
theorem open_strokes {r : Reach} {b0 : Nat} {v : Value} {d : DataW H} {p : List MemPlace} (hv : Value.okWide Tryz.prog w r b0 22 v) (h : DataW.Trod enc Tryz.prog w base spare held 22 v d p) :
  ∃ xs : List St, Row w.heap.size 15 St.enc w v xs ∧ ∀ x ∈ xs, x.Wf :=
 open_row Tryz.underlying22 (by kernel_rfl) (by omega) (fun n cs y hl ht => stroke_of hl ht) hv h
end
end
section
def eq4 (a b c d a' b' c' d' : Int) : Bool := (a == a') && ((b == b') && ((c == c') && (d == d')))
theorem eq4_iff {a b c d a' b' c' d' : Int} : eq4 a b c d a' b' c' d' = true ↔ a = a' ∧ b = b' ∧ c = c' ∧ d = d' := by
 simp [eq4]
def Re.eqb (p q : Re) : Bool := eq4 p.x p.y p.wd p.ht q.x q.y q.wd q.ht
def Co.eqb (p q : Co) : Bool := eq4 p.r p.g p.b p.a q.r q.g q.b q.a
def St.eqb (s t : St) : Bool := (s.kind == t.kind) && (s.rect.eqb t.rect && (s.col.eqb t.col && (s.back.eqb t.back && ((s.text.toList == t.text.toList) && (s.node == t.node)))))
def Co.none : Co := ⟨0, 0, 0, 0⟩
def Re.none : Re := ⟨0, 0, 0, 0⟩
theorem eq_colour (d : Nat) (w : World) (a b c e a' b' c' e' : Int) : (Op.equalIn (d + 2) 34 (.agg #[.int .u8 (a), .int .u8 (b), .int .u8 (c), .int .u8 (e)]) (.agg #[.int .u8 (a'), .int .u8 (b'), .int .u8 (c'), .int .u8 (e')])).run Tryz.prog w = .ok (eq4 a b c e a' b' c' e') w := by
 unfold eq4; have A := Tryz.underlying34; have B := Tryz.underlying5; rw [run_equalIn_agg w (d + 1) _ _ _ (by simp [Program.fieldsOf, A]) (by kernel_rfl)]; simp only [Program.fieldsOf, A]
 by_cases h0 : a = a' <;> by_cases h1 : b = b' <;> by_cases h2 : c = c' <;> by_cases h3 : e = e' <;> simp [Op.eqFields, part, isAgg, run_underlying B, run_equalIn_int _ _ _ _ _ _ _ B, h0, h1, h2, h3]
theorem eq_point (d : Nat) (w : World) (a b a' b' : Int) : (Op.equalIn (d + 2) 30 (.agg #[.int .i64 a, .int .i64 b]) (.agg #[.int .i64 a', .int .i64 b'])).run Tryz.prog w = .ok ((a == a') && (b == b')) w := by
 have A := Tryz.underlying30; have B := Tryz.underlying3; rw [run_equalIn_agg w (d + 1) _ _ _ (by simp [Program.fieldsOf, A]) (by kernel_rfl)]; simp only [Program.fieldsOf, A]
 by_cases h0 : a = a' <;> by_cases h1 : b = b' <;> simp [Op.eqFields, part, isAgg, run_underlying B, run_equalIn_int _ _ _ _ _ _ _ B, h0, h1]
theorem eq_size (d : Nat) (w : World) (a b a' b' : Int) : (Op.equalIn (d + 2) 24 (.agg #[.int .i64 a, .int .i64 b]) (.agg #[.int .i64 a', .int .i64 b'])).run Tryz.prog w = .ok ((a == a') && (b == b')) w := by
 have A := Tryz.underlying24; have B := Tryz.underlying3; rw [run_equalIn_agg w (d + 1) _ _ _ (by simp [Program.fieldsOf, A]) (by kernel_rfl)]; simp only [Program.fieldsOf, A]
 by_cases h0 : a = a' <;> by_cases h1 : b = b' <;> simp [Op.eqFields, part, isAgg, run_underlying B, run_equalIn_int _ _ _ _ _ _ _ B, h0, h1]
theorem eq_rect (d : Nat) (w : World) (a b c e a' b' c' e' : Int) : (Op.equalIn (d + 3) 32 (.agg #[.int .i64 a, .int .i64 b, .int .i64 c, .int .i64 e]) (.agg #[.int .i64 a', .int .i64 b', .int .i64 c', .int .i64 e'])).run Tryz.prog w = .ok (eq4 a b c e a' b' c' e') w := by
 unfold eq4; have A := Tryz.underlying32; have B := Tryz.underlying30; have C := Tryz.underlying24; rw [run_equalIn_agg w (d + 2) _ _ _ (by simp [Program.fieldsOf, A]) (by kernel_rfl)]; simp only [Program.fieldsOf, A]
 have e1 := fun w => eq_point d w a b a' b'
 have e2 := fun w => eq_size d w c e c' e'
 have z1 : Tryz.prog.cellsOf 30 = 2 := by kernel_rfl
 have z2 : Tryz.prog.cellsOf 24 = 2 := by kernel_rfl
 have y1 : Tryz.t30.size = 2 := by kernel_rfl
 have y2 : Tryz.t24.size = 2 := by kernel_rfl
 generalize (a == a') = b0 at *; generalize (b == b') = b1 at *; generalize (c == c') = b2 at *; generalize (e == e') = b3 at *
 simp [Op.eqFields, part, isAgg, run_underlying B, run_underlying C, sizeOf, z1, z2, y1, y2, e1, e2]
 cases b0 <;> cases b1 <;> cases b2 <;> cases b3 <;> simp
theorem eq_stroke (d : Nat) (w : World) (s t : St) : (Op.equalIn (d + 4) 36 (.agg #[.int .u8 (s).kind, .int .i64 ((s).rect).x, .int .i64 ((s).rect).y, .int .i64 ((s).rect).wd, .int .i64 ((s).rect).ht, .int .u8 ((s).col).r, .int .u8 ((s).col).g, .int .u8 ((s).col).b, .int .u8 ((s).col).a, .int .u8 ((s).back).r, .int .u8 ((s).back).g, .int .u8 ((s).back).b, .int .u8 ((s).back).a, .string (s).text, .int .i64 (s).node]) (.agg #[.int .u8 (t).kind, .int .i64 ((t).rect).x, .int .i64 ((t).rect).y, .int .i64 ((t).rect).wd, .int .i64 ((t).rect).ht, .int .u8 ((t).col).r, .int .u8 ((t).col).g, .int .u8 ((t).col).b, .int .u8 ((t).col).a, .int .u8 ((t).back).r, .int .u8 ((t).back).g, .int .u8 ((t).back).b, .int .u8 ((t).back).a, .string (t).text, .int .i64 (t).node])).run Tryz.prog w = .ok (s.eqb t) w := by
 unfold St.eqb Re.eqb Co.eqb; have A := Tryz.underlying36; have K := Tryz.underlying5; have I := Tryz.underlying3; have S := Tryz.underlying9; have B := Tryz.underlying32; have C := Tryz.underlying34; rw [run_equalIn_agg w (d + 3) _ _ _ (by simp [Program.fieldsOf, A]) (by kernel_rfl)]; simp only [Program.fieldsOf, A]
 have z1 : Tryz.prog.cellsOf 32 = 4 := by kernel_rfl
 have z2 : Tryz.prog.cellsOf 34 = 4 := by kernel_rfl
 have y1 : Tryz.t32.size = 4 := by kernel_rfl
 have y2 : Tryz.t34.size = 4 := by kernel_rfl
 have E0 : ∀ w a b, (Op.equalIn (d + 3) 5 (.int .u8 a) (.int .u8 b)).run Tryz.prog w = .ok (a == b) w := fun w a b => run_equalIn_int w (d + 2) _ _ _ a b K
 have E1 : ∀ w a b, (Op.equalIn (d + 3) 3 (.int .i64 a) (.int .i64 b)).run Tryz.prog w = .ok (a == b) w := fun w a b => run_equalIn_int w (d + 2) _ _ _ a b I
 have E2 : ∀ w a b, (Op.equalIn (d + 3) 9 (.string a) (.string b)).run Tryz.prog w = .ok (a.toList == b.toList) w := fun w a b => run_equalIn_string w (d + 2) _ a b S
 have E3 := eq_rect d; have E4 := eq_colour (d + 1); generalize hb0 : (s.kind == t.kind) = b0; generalize hb1 : eq4 s.rect.x s.rect.y s.rect.wd s.rect.ht t.rect.x t.rect.y t.rect.wd t.rect.ht = b1; generalize hb2 : eq4 s.col.r s.col.g s.col.b s.col.a t.col.r t.col.g t.col.b t.col.a = b2; generalize hb3 : eq4 s.back.r s.back.g s.back.b s.back.a t.back.r t.back.g t.back.b t.back.a = b3; generalize hb4 : (s.text.toList == t.text.toList) = b4; generalize hb5 : (s.node == t.node) = b5; simp only [Op.eqFields, Sem.run_bind, Sem.run_ite, part, isAgg, run_underlying K, run_underlying I, run_underlying S, run_underlying B, run_underlying C]
 simp [sizeOf, z1, z2, y1, y2, E0, E1, E2, E3, E4, hb0, hb1, hb2, hb3, hb4, hb5]
 cases b0 <;> cases b1 <;> cases b2 <;> cases b3 <;> cases b4 <;> cases b5 <;> simp
end
section
abbrev Sp := Int × Int
def InS (l : List Sp) (x : Int) : Prop := ∃ s ∈ l, s.1 ≤ x ∧ x < s.2
def CanS : List Sp → Prop
 | [] => True
 | [s] => s.1 < s.2
 | s :: t :: r => s.1 < s.2 ∧ s.2 < t.1 ∧ CanS (t :: r)
theorem CanS.tail {s : Sp} {r : List Sp} (h : CanS (s :: r)) : CanS r := by
 cases r with
 | nil => trivial
 | cons t r => exact h.2.2
theorem CanS.pos {s : Sp} {r : List Sp} (h : CanS (s :: r)) : s.1 < s.2 := by
 cases r with
 | nil => exact h
 | cons t r => exact h.1
theorem CanS.above {s : Sp} {r : List Sp} (h : CanS (s :: r)) : ∀ t ∈ r, s.2 < t.1 ∧ t.1 < t.2 := by
 induction r generalizing s with
 | nil => simp
 | cons u r ih =>
  intro t ht
  obtain ⟨h1, h2, h3⟩ := h
  rcases List.mem_cons.1 ht with rfl | ht
  ·exact ⟨h2, h3.pos⟩
  ·have := ih h3 t ht
   have := h3.pos; omega
theorem InS.nil (x : Int) : ¬ InS [] x := by simp [InS]
theorem InS.cons {s : Sp} {r : List Sp} {x : Int} : InS (s :: r) x ↔ (s.1 ≤ x ∧ x < s.2) ∨ InS r x := by
 simp [InS]
theorem CanS.not_in {s : Sp} {r : List Sp} (h : CanS (s :: r)) {x : Int} (hx : x ≤ s.2) : ¬ InS r x := by
 rintro ⟨t, ht, h1, h2⟩
 have := h.above t ht; omega
theorem canS_unique : ∀ {l m : List Sp}, CanS l → CanS m → (∀ x, InS l x ↔ InS m x) → l = m
 | [], [], _, _, _ => rfl
 | [], s :: r, _, hm, h => by
  have := (h s.1).2 (InS.cons.2 (.inl ⟨Int.le_refl _, hm.pos⟩)); exact absurd this (InS.nil _)
 | s :: r, [], hl, _, h => by
  have := (h s.1).1 (InS.cons.2 (.inl ⟨Int.le_refl _, hl.pos⟩)); exact absurd this (InS.nil _)
 | s :: r, t :: q, hl, hm, h => by
  have p1 := hl.pos; have p2 := hm.pos
  have lo : ∀ {u : Sp} {w : List Sp}, CanS (u :: w) → ∀ x, InS (u :: w) x → u.1 ≤ x := by
   intro u w hu x hx
   rcases InS.cons.1 hx with hx | ⟨v, hv, h1, h2⟩
   ·exact hx.1
   ·have := hu.above v hv; have := hu.pos; omega
  have a1 := lo hm _ ((h s.1).1 (InS.cons.2 (.inl ⟨Int.le_refl _, p1⟩))); have a2 := lo hl _ ((h t.1).2 (InS.cons.2 (.inl ⟨Int.le_refl _, p2⟩)))
  have e1 : s.1 = t.1 := by omega
  have up : ∀ {u v : Sp} {w z : List Sp}, CanS (u :: w) → CanS (v :: z) → u.1 = v.1 → (∀ x, InS (u :: w) x ↔ InS (v :: z) x) → u.2 ≤ v.2 := by
   intro u v w z hu hv e hh
   rcases Int.lt_or_le v.2 u.2 with hlt | hle
   ·exfalso
    have hp := hv.pos; have := (hh v.2).1 (InS.cons.2 (.inl ⟨by omega, hlt⟩))
    rcases InS.cons.1 this with h' | h'
    ·omega
    ·exact hv.not_in (Int.le_refl _) h'
   ·exact hle
  have b1 := up hl hm e1 h; have b2 := up hm hl e1.symm (fun x => (h x).symm)
  have e2 : s.2 = t.2 := by omega
  obtain rfl : s = t := by cases s; cases t; simp_all
  have : r = q := canS_unique hl.tail hm.tail (fun x => by
   constructor
   ·intro hx
    rcases InS.cons.1 ((h x).1 (InS.cons.2 (.inr hx))) with h' | h'
    ·exact absurd hx (hl.not_in (by omega))
    ·exact h'
   ·intro hx
    rcases InS.cons.1 ((h x).2 (InS.cons.2 (.inr hx))) with h' | h'
    ·exact absurd hx (hm.not_in (by omega))
    ·exact h')
  rw [this]
/-! ### rising lists -/
def Rise : List Int → Prop
 | [] => True
 | [_] => True
 | a :: b :: r => a < b ∧ Rise (b :: r)
theorem Rise.tail {a : Int} {r : List Int} (h : Rise (a :: r)) : Rise r := by
 cases r with
 | nil => trivial
 | cons b r => exact h.2
theorem Rise.above {a : Int} {r : List Int} (h : Rise (a :: r)) : ∀ x ∈ r, a < x := by
 induction r generalizing a with
 | nil => simp
 | cons b r ih =>
  intro x hx
  rcases List.mem_cons.1 hx with rfl | hx
  ·exact h.1
  ·have := ih h.2 x hx; have := h.1; omega
theorem Rise.mk {a : Int} {r : List Int} (h : Rise r) (ha : ∀ x ∈ r, a < x) : Rise (a :: r) := by
 cases r with
 | nil => trivial
 | cons b r => exact ⟨ha b (by simp), h⟩
theorem rise_unique : ∀ {l m : List Int}, Rise l → Rise m → (∀ x, x ∈ l ↔ x ∈ m) → l = m
 | [], [], _, _, _ => rfl
 | [], a :: r, _, _, h => absurd ((h a).2 (by simp)) (by simp)
 | a :: r, [], _, _, h => absurd ((h a).1 (by simp)) (by simp)
 | a :: r, b :: q, hl, hm, h => by
  have h1 := (h a).1 (by simp); have h2 := (h b).2 (by simp)
  have e : a = b := by
   rcases List.mem_cons.1 h1 with e | h1
   ·exact e
   ·rcases List.mem_cons.1 h2 with e | h2
    ·exact e.symm
    ·have := hm.above a h1; have := hl.above b h2; omega
  subst e
  have : r = q := rise_unique hl.tail hm.tail (fun x => by
   constructor
   ·intro hx
    have := hl.above x hx
    rcases List.mem_cons.1 ((h x).1 (by simp [hx])) with e | h'
    ·omega
    ·exact h'
   ·intro hx
    have := hm.above x hx
    rcases List.mem_cons.1 ((h x).2 (by simp [hx])) with e | h'
    ·omega
    ·exact h')
  rw [this]
def edgeI : List Int → Int → List Int
 | [], n => [n]
 | a :: r, n => if a < n then a :: edgeI r n else if a = n then a :: r else n :: a :: r
theorem mem_edgeI {l : List Int} {n x : Int} : x ∈ edgeI l n ↔ x = n ∨ x ∈ l := by
 induction l with
 | nil => simp [edgeI]
 | cons a r ih =>
  unfold edgeI
  split
  ·simp only [List.mem_cons, ih]
   constructor
   ·rintro (h | h | h) <;> simp [h]
   ·rintro (h | h | h) <;> simp [h]
  ·split
   ·rename_i h; subst h
    simp only [List.mem_cons]
    constructor
    ·intro h; exact .inr h
    ·rintro (h | h)
     ·exact .inl h
     ·exact h
   ·simp only [List.mem_cons]
theorem edgeI_rise {l : List Int} {n : Int} (h : Rise l) : Rise (edgeI l n) := by
 induction l with
 | nil => trivial
 | cons a r ih =>
  unfold edgeI
  split
  ·rename_i h1
   refine Rise.mk (ih h.tail) (fun x hx => ?_)
   rcases mem_edgeI.1 hx with rfl | hx
   ·exact h1
   ·exact h.above x hx
  ·split
   ·exact h
   ·refine Rise.mk h (fun x hx => ?_)
    rcases List.mem_cons.1 hx with rfl | hx
    ·omega
    ·have := h.above x hx; omega
/-! ### what is wanted between edges -/
def putS : List Sp → Int → Int → List Sp
 | [], x, y => [(x, y)]
 | [s], x, y => if s.2 = x then [(s.1, y)] else [s, (x, y)]
 | s :: t :: r, x, y => s :: putS (t :: r) x y
def mixGo (keep : Int → Bool) : List Sp → List Int → List Sp
 | out, x :: y :: r => mixGo keep (if keep x then putS out x y else out) (y :: r)
 | out, _ => out
theorem CanS.putS {x y : Int} (hxy : x < y) : ∀ {l : List Sp}, CanS l → (∀ s ∈ l, s.2 ≤ x) → CanS (putS l x y)
 | [], _, _ => hxy
 | [s], h, hx => by
  have := hx s (by simp); unfold Go.Proofs.YtfcphagmjijmkaaGreatDoor.putS; have h' : s.1 < s.2 := h
  split
  ·show s.1 < y; omega
  ·exact ⟨h, by show s.2 < x; omega, hxy⟩
 | s :: t :: r, h, hx => by
  have ih := CanS.putS hxy h.2.2 (fun u hu => hx u (by simp [List.mem_cons.1 hu]))
  show CanS (s :: Go.Proofs.YtfcphagmjijmkaaGreatDoor.putS (t :: r) x y)
  cases r with
  | nil =>
   simp only [Go.Proofs.YtfcphagmjijmkaaGreatDoor.putS] at ih ⊢
   split
   ·rename_i e; rw [if_pos e] at ih
    exact ⟨h.1, h.2.1, ih⟩
   ·rename_i e; rw [if_neg e] at ih
    exact ⟨h.1, h.2.1, ih⟩
  | cons u r => exact ⟨h.1, h.2.1, ih⟩
theorem InS.putS {x y : Int} : ∀ {l : List Sp}, (∀ s ∈ l, s.1 < s.2) → ∀ z, x < y → (InS (putS l x y) z ↔ InS l z ∨ (x ≤ z ∧ z < y))
 | [], _, z, _ => by simp [Go.Proofs.YtfcphagmjijmkaaGreatDoor.putS, InS]
 | [s], h, z, hxy => by
  have := h s (by simp); unfold Go.Proofs.YtfcphagmjijmkaaGreatDoor.putS
  split
  ·rename_i e
   simp only [InS.cons, InS.nil, or_false]; omega
  ·simp only [InS.cons, InS.nil, or_false]
 | s :: t :: r, h, z, hxy => by
  show InS (s :: Go.Proofs.YtfcphagmjijmkaaGreatDoor.putS (t :: r) x y) z ↔ _
  rw [InS.cons, InS.putS (fun u hu => h u (by simp [List.mem_cons.1 hu])) z hxy, InS.cons (s := s), or_assoc]
theorem putS_le {x y : Int} (hxy : x < y) : ∀ {l : List Sp}, (∀ s ∈ l, s.2 ≤ x) → ∀ s ∈ putS l x y, s.2 ≤ y
 | [], _, s, hs => by simp [Go.Proofs.YtfcphagmjijmkaaGreatDoor.putS] at hs; subst hs; exact Int.le_refl _
 | [t], h, s, hs => by
  have := h t (by simp); unfold Go.Proofs.YtfcphagmjijmkaaGreatDoor.putS at hs
  split at hs
  ·simp at hs; subst hs; exact Int.le_refl _
  ·simp at hs
   rcases hs with rfl | rfl
   ·omega
   ·exact Int.le_refl _
 | t :: u :: r, h, s, hs => by
  have hs' : s ∈ t :: Go.Proofs.YtfcphagmjijmkaaGreatDoor.putS (u :: r) x y := hs
  rcases List.mem_cons.1 hs' with rfl | hs'
  ·have := h s (by simp); omega
  ·exact putS_le hxy (fun v hv => h v (by simp [List.mem_cons.1 hv])) s hs'
theorem mix_spec {keep : Int → Bool} {p : Int → Bool} : ∀ (xs : List Int) (out : List Sp), Rise xs → CanS out → (∀ x y, (x, y) ∈ xs.zip xs.tail → ∀ z, x ≤ z → z < y → p z = keep x) → (∀ s ∈ out, ∀ x ∈ xs, s.2 ≤ x) →
  CanS (mixGo keep out xs) ∧ ∀ z, InS (mixGo keep out xs) z ↔ InS out z ∨ (p z = true ∧ ∃ a ∈ xs.head?, ∃ b ∈ xs.getLast?, a ≤ z ∧ z < b)
 | [], out, _, hc, _, _ => ⟨hc, fun z => by simp [mixGo]⟩
 | [x], out, _, hc, _, _ => ⟨hc, fun z => by simp [mixGo]; omega⟩
 | x :: y :: r, out, hr, hc, hk, hb => by
  have hxy : x < y := hr.1; have hkx : ∀ z, x ≤ z → z < y → p z = keep x := hk x y (by simp)
  have hk' : ∀ a b, (a, b) ∈ (y :: r).zip (y :: r).tail → ∀ z, a ≤ z → z < b → p z = keep a := fun a b hab => hk a b (by simp only [List.tail_cons, List.zip_cons_cons] at *; exact List.mem_cons_of_mem _ hab)
  have hlast : ∃ b, (y :: r).getLast? = some b ∧ y ≤ b := by
   cases hg : (y :: r).getLast? with
   | none => simp at hg
   | some b =>
    refine ⟨b, rfl, ?_⟩; have hm := List.mem_of_getLast? hg
    rcases List.mem_cons.1 hm with rfl | hm
    ·exact Int.le_refl _
    ·have := hr.2.above b hm; omega
  obtain ⟨b, hgb, hyb⟩ := hlast
  have hg2 : (x :: y :: r).getLast? = some b := by rw [List.getLast?_cons_cons]; exact hgb
  have ho : ∀ s ∈ out, s.1 < s.2 := by
   intro s hs
   have : ∀ (l : List Sp), CanS l → ∀ s ∈ l, s.1 < s.2 := by
    intro l
    cases l with
    | nil => simp
    | cons u l =>
     intro h s hs
     rcases List.mem_cons.1 hs with rfl | hs
     ·exact h.pos
     ·exact (h.above s hs).2
   exact this out hc s hs
  unfold mixGo
  cases hkp : keep x
  ·rw [if_neg (by simp)]
   obtain ⟨h1, h2⟩ := mix_spec (keep := keep) (p := p) (y :: r) out hr.2 hc hk' (fun s hs u hu => hb s hs u (by simp [List.mem_cons.1 hu])); refine ⟨h1, fun z => ?_⟩; rw [h2 z, hg2, hgb]; simp only [List.head?_cons, Option.mem_def, Option.some.injEq, exists_eq_left']
   constructor
   ·rintro (h | ⟨h3, h4, h5⟩)
    ·exact .inl h
    ·exact .inr ⟨h3, by omega, h5⟩
   ·rintro (h | ⟨h3, h4, h5⟩)
    ·exact .inl h
    ·rcases Int.lt_or_le z y with hz | hz
     ·rw [hkx z h4 hz, hkp] at h3; cases h3
     ·exact .inr ⟨h3, hz, h5⟩
  ·rw [if_pos rfl]
   have hbx : ∀ s ∈ out, s.2 ≤ x := fun s hs => hb s hs x (by simp)
   have hle := putS_le hxy hbx
   obtain ⟨h1, h2⟩ := mix_spec (keep := keep) (p := p) (y :: r) (putS out x y) hr.2 (hc.putS hxy hbx) hk' (fun s hs u hu => by
    have := hle s hs
    rcases List.mem_cons.1 hu with rfl | hu
    ·exact this
    ·have := hr.2.above u hu; omega)
   refine ⟨h1, fun z => ?_⟩; rw [h2 z, hg2, hgb, InS.putS ho z hxy]; simp only [List.head?_cons, Option.mem_def, Option.some.injEq, exists_eq_left']
   constructor
   ·rintro ((h | ⟨h3, h4⟩) | ⟨h3, h4, h5⟩)
    ·exact .inl h
    ·exact .inr ⟨by rw [hkx z h3 h4, hkp], h3, by omega⟩
    ·exact .inr ⟨h3, by omega, h5⟩
   ·rintro (h | ⟨h3, h4, h5⟩)
    ·exact .inl (.inl h)
    ·rcases Int.lt_or_le z y with hz | hz
     ·exact .inl (.inr ⟨h4, hz⟩)
     ·exact .inr ⟨h3, hz, h5⟩
/-! ### rectangles as sets of places (those that may be: sides not below 0) -/
def hasR (q : Re) (x y : Int) : Bool := decide (q.x ≤ x) && decide (x < q.x + q.wd) && decide (q.y ≤ y) && decide (y < q.y + q.ht)
def hasL (l : List Re) (x y : Int) : Bool := l.any fun q => hasR q x y
def noneR (q : Re) : Bool := decide (q.wd = 0) || decide (q.ht = 0)
def inRow (q : Re) (y : Int) : Bool := decide (q.y ≤ y) && decide (y < q.y + q.ht)
def edgY (to : List Int) (q : Re) : List Int := if noneR q then to else edgeI (edgeI to q.y) (q.y + q.ht)
def edgX (y : Int) (to : List Int) (q : Re) : List Int := if noneR q then to else if inRow q y then edgeI (edgeI to q.x) (q.x + q.wd) else to
def edgesY (a b : List Re) : List Int := b.foldl edgY (a.foldl edgY [])
def edgesX (a b : List Re) (y : Int) : List Int := b.foldl (edgX y) (a.foldl (edgX y) [])
def wantB (what : Int) (one other : Bool) : Bool := if what = 1 then one || other else if what = 2 then one && other else one && !other
def keptB (a b : List Re) (what x y : Int) : Bool := wantB what (hasL a x y) (hasL b x y)
def spansP (a b : List Re) (what y : Int) : List Sp := mixGo (fun x => keptB a b what x y) [] (edgesX a b y)
def Sane (l : List Re) : Prop := ∀ q ∈ l, 0 ≤ q.wd ∧ 0 ≤ q.ht
theorem foldl_rise {α : Type} {f : List Int → α → List Int} (hf : ∀ t q, Rise t → Rise (f t q)) : ∀ (l : List α) (t : List Int), Rise t → Rise (l.foldl f t)
 | [], _, h => h
 | q :: l, t, h => foldl_rise hf l _ (hf t q h)
theorem foldl_mem {α : Type} {f : List Int → α → List Int} {g : α → Int → Prop} (hf : ∀ t q x, x ∈ f t q ↔ x ∈ t ∨ g q x) : ∀ (l : List α) (t : List Int) (x : Int), x ∈ l.foldl f t ↔ x ∈ t ∨ ∃ q ∈ l, g q x
 | [], t, x => by simp
 | q :: l, t, x => by
  rw [List.foldl_cons, foldl_mem hf l, hf]; simp only [List.mem_cons, exists_eq_or_imp, or_assoc]
theorem edgY_rise (t : List Int) (q : Re) (h : Rise t) : Rise (edgY t q) := by
 unfold edgY; split
 ·exact h
 ·exact edgeI_rise (edgeI_rise h)
theorem edgX_rise (y : Int) (t : List Int) (q : Re) (h : Rise t) : Rise (edgX y t q) := by
 unfold edgX; split
 ·exact h
 ·split
  ·exact edgeI_rise (edgeI_rise h)
  ·exact h
def OnY (q : Re) (v : Int) : Prop := noneR q = false ∧ (v = q.y ∨ v = q.y + q.ht)
def OnX (y : Int) (q : Re) (v : Int) : Prop := noneR q = false ∧ inRow q y = true ∧ (v = q.x ∨ v = q.x + q.wd)
theorem mem_edgY (t : List Int) (q : Re) (x : Int) : x ∈ edgY t q ↔ x ∈ t ∨ OnY q x := by
 unfold edgY OnY
 cases noneR q
 ·simp only [Bool.false_eq_true, if_false, mem_edgeI, true_and]
  constructor
  ·rintro (h | h | h) <;> simp [h]
  ·rintro (h | h | h) <;> simp [h]
 ·simp
theorem mem_edgX (y : Int) (t : List Int) (q : Re) (x : Int) : x ∈ edgX y t q ↔ x ∈ t ∨ OnX y q x := by
 unfold edgX OnX
 cases noneR q
 ·cases inRow q y
  ·simp
  ·simp only [Bool.false_eq_true, if_false, if_true, mem_edgeI, true_and]
   constructor
   ·rintro (h | h | h) <;> simp [h]
   ·rintro (h | h | h) <;> simp [h]
 ·simp
theorem edgesY_rise (a b : List Re) : Rise (edgesY a b) := foldl_rise edgY_rise _ _ (foldl_rise edgY_rise _ _ trivial)
theorem edgesX_rise (a b : List Re) (y : Int) : Rise (edgesX a b y) := foldl_rise (edgX_rise y) _ _ (foldl_rise (edgX_rise y) _ _ trivial)
theorem mem_edgesY {a b : List Re} {v : Int} : v ∈ edgesY a b ↔ ∃ q ∈ a ++ b, OnY q v := by
 unfold edgesY; rw [foldl_mem mem_edgY, foldl_mem mem_edgY]; simp only [List.not_mem_nil, false_or, List.mem_append]
 constructor
 ·rintro (⟨q, h, h'⟩ | ⟨q, h, h'⟩)
  ·exact ⟨q, .inl h, h'⟩
  ·exact ⟨q, .inr h, h'⟩
 ·rintro ⟨q, h | h, h'⟩
  ·exact .inl ⟨q, h, h'⟩
  ·exact .inr ⟨q, h, h'⟩
theorem mem_edgesX {a b : List Re} {y v : Int} : v ∈ edgesX a b y ↔ ∃ q ∈ a ++ b, OnX y q v := by
 unfold edgesX; rw [foldl_mem (mem_edgX y), foldl_mem (mem_edgX y)]; simp only [List.not_mem_nil, false_or, List.mem_append]
 constructor
 ·rintro (⟨q, h, h'⟩ | ⟨q, h, h'⟩)
  ·exact ⟨q, .inl h, h'⟩
  ·exact ⟨q, .inr h, h'⟩
 ·rintro ⟨q, h | h, h'⟩
  ·exact .inl ⟨q, h, h'⟩
  ·exact .inr ⟨q, h, h'⟩
theorem rise_gap : ∀ {xs : List Int}, Rise xs → ∀ {x y : Int}, (x, y) ∈ xs.zip xs.tail → ∀ v ∈ xs, v ≤ x ∨ y ≤ v
 | [], _, _, _, h, _, _ => by simp at h
 | [_], _, _, _, h, _, _ => by simp at h
 | a :: b :: r, hr, x, y, h, v, hv => by
  simp only [List.tail_cons, List.zip_cons_cons] at h
  rcases List.mem_cons.1 h with e | h2
  ·obtain ⟨rfl, rfl⟩ := Prod.mk.inj e
   rcases List.mem_cons.1 hv with rfl | hv
   ·exact .inl (Int.le_refl _)
   ·rcases List.mem_cons.1 hv with rfl | hv
    ·exact .inr (Int.le_refl _)
    ·have := hr.2.above v hv; exact .inr (by omega)
  ·rcases List.mem_cons.1 hv with e | hv
   ·have hx : x ∈ b :: r := (List.of_mem_zip h2).1
    have := hr.above x hx; exact .inl (by omega)
   ·exact rise_gap (xs := b :: r) hr.2 h2 v hv
theorem has_const {l : List Re} {xs : List Int} {y : Int} (hs : Sane l) (hm : ∀ q ∈ l, ∀ v, OnX y q v → v ∈ xs) (hr : Rise xs) {a b : Int} (hab : (a, b) ∈ xs.zip xs.tail) {z : Int} (h1 : a ≤ z) (h2 : z < b) : hasL l z y = hasL l a y := by
 unfold hasL; rw [Bool.eq_iff_iff, List.any_eq_true, List.any_eq_true]
 have key : ∀ q ∈ l, (hasR q z y = true ↔ hasR q a y = true) := by
  intro q hq
  obtain ⟨s1, s2⟩ := hs q hq; unfold hasR; simp only [Bool.and_eq_true, decide_eq_true_eq]
  by_cases hrow : q.y ≤ y ∧ y < q.y + q.ht
  ·by_cases hw : q.wd = 0
   ·omega
   ·have hn : noneR q = false := by unfold noneR; simp; omega
    have hi : inRow q y = true := by unfold inRow; simp; omega
    have e1 := rise_gap hr hab _ (hm q hq q.x ⟨hn, hi, .inl rfl⟩); have e2 := rise_gap hr hab _ (hm q hq (q.x + q.wd) ⟨hn, hi, .inr rfl⟩); omega
  ·omega
 constructor
 ·rintro ⟨q, hq, h⟩; exact ⟨q, hq, (key q hq).1 h⟩
 ·rintro ⟨q, hq, h⟩; exact ⟨q, hq, (key q hq).2 h⟩
theorem rise_bounds : ∀ {xs : List Int}, Rise xs → ∀ {v : Int}, v ∈ xs → ∃ a ∈ xs.head?, ∃ b ∈ xs.getLast?, a ≤ v ∧ v ≤ b
 | [], _, _, h => by simp at h
 | [x], _, v, h => by simp at h; subst h; exact ⟨v, rfl, v, rfl, Int.le_refl _, Int.le_refl _⟩
 | x :: y :: r, hr, v, h => by
  rw [List.getLast?_cons_cons]; obtain ⟨a, ha, b, hb, h1, h2⟩ := rise_bounds hr.2 (v := y) (by simp)
  rcases List.mem_cons.1 h with rfl | h
  ·exact ⟨v, rfl, b, hb, Int.le_refl _, by have := hr.1; omega⟩
  ·obtain ⟨a', ha', b', hb', h1', h2'⟩ := rise_bounds hr.2 h
   refine ⟨x, rfl, b', hb', ?_, h2'⟩
   simp at ha'
   subst ha'; have := hr.1; omega
theorem has_within {l : List Re} {xs : List Int} {y z : Int} (hm : ∀ q ∈ l, ∀ v, OnX y q v → v ∈ xs) (hr : Rise xs) (h : hasL l z y = true) : ∃ a ∈ xs.head?, ∃ b ∈ xs.getLast?, a ≤ z ∧ z < b := by
 unfold hasL at h; obtain ⟨q, hq, h⟩ := List.any_eq_true.1 h; unfold hasR at h; simp only [Bool.and_eq_true, decide_eq_true_eq] at h
 have hn : noneR q = false := by unfold noneR; simp; omega
 have hi : inRow q y = true := by unfold inRow; simp; omega
 obtain ⟨a, ha, b, hb, h1, h2⟩ := rise_bounds hr (hm q hq q.x ⟨hn, hi, .inl rfl⟩); obtain ⟨a', ha', b', hb', h1', h2'⟩ := rise_bounds hr (hm q hq (q.x + q.wd) ⟨hn, hi, .inr rfl⟩); exact ⟨a, ha, b', hb', by omega, by omega⟩
theorem want_some {what : Int} {one other : Bool} (h : wantB what one other = true) : one = true ∨ other = true := by
 unfold wantB at h
 cases one <;> cases other <;> simp at h ⊢
theorem spans_spec {a b : List Re} (ha : Sane a) (hb : Sane b) (what y : Int) : CanS (spansP a b what y) ∧ ∀ x, InS (spansP a b what y) x ↔ keptB a b what x y = true := by
 have hr := edgesX_rise a b y
 have m1 : ∀ q ∈ a, ∀ v, OnX y q v → v ∈ edgesX a b y := fun q hq v h => mem_edgesX.2 ⟨q, by simp [hq], h⟩
 have m2 : ∀ q ∈ b, ∀ v, OnX y q v → v ∈ edgesX a b y := fun q hq v h => mem_edgesX.2 ⟨q, by simp [hq], h⟩
 obtain ⟨h1, h2⟩ := mix_spec (keep := fun x => keptB a b what x y) (p := fun x => keptB a b what x y) (edgesX a b y) [] hr trivial (fun x x' hx z h1 h2 => by
  show keptB a b what z y = keptB a b what x y
  unfold keptB
  rw [has_const ha m1 hr hx h1 h2, has_const hb m2 hr hx h1 h2]) (by simp)
 refine ⟨h1, fun x => ?_⟩
 show InS (mixGo (fun x => keptB a b what x y) [] (edgesX a b y)) x ↔ _
 rw [h2 x]
 constructor
 ·rintro (h | h)
  ·exact absurd h (InS.nil _)
  ·exact h.1
 ·intro h
  refine .inr ⟨h, ?_⟩
  rcases want_some h with h | h
  ·exact has_within m1 hr h
  ·exact has_within m2 hr h
/-! ### the program's way: rows merged, mixed -/
def inSB (l : List Sp) (x : Int) : Bool := l.any fun s => decide (s.1 ≤ x) && decide (x < s.2)
theorem inSB_iff {l : List Sp} {x : Int} : inSB l x = true ↔ InS l x := by
 unfold inSB InS
 simp [List.any_eq_true]
def mergeS : List Sp → Sp → List Sp
 | [], s => [s]
 | [t], s => if s.1 ≤ t.2 then [(t.1, max t.2 s.2)] else [t, s]
 | t :: u :: r, s => t :: mergeS (u :: r) s
theorem mergeS_spec {s : Sp} (hs : s.1 < s.2) : ∀ {l : List Sp}, CanS l → (∀ t ∈ l, t.1 ≤ s.1) → CanS (mergeS l s) ∧ (∀ t ∈ mergeS l s, t.1 ≤ s.1) ∧ (∀ x, InS (mergeS l s) x ↔ InS l x ∨ (s.1 ≤ x ∧ x < s.2)) ∧ (∀ t ∈ l.head?, ∃ u ∈ (mergeS l s).head?, u.1 = t.1)
 | [], _, _ => ⟨hs, by simp [mergeS], fun x => by simp [mergeS, InS], by simp⟩
 | [t], h, ht => by
  have h0 : t.1 < t.2 := h; have h1 := ht t (by simp); unfold mergeS
  split
  ·refine ⟨by show t.1 < max t.2 s.2; omega, by simp; exact h1, fun x => ?_, by simp⟩
   simp only [InS.cons, InS.nil, or_false]; omega
  ·refine ⟨⟨h0, by omega, hs⟩, by simp; exact h1, fun x => ?_, by simp⟩
   simp only [InS.cons, InS.nil, or_false]
 | t :: u :: r, h, ht => by
  obtain ⟨i1, i2, i3, i4⟩ := mergeS_spec hs h.2.2 (fun v hv => ht v (by simp [List.mem_cons.1 hv]))
  show CanS (t :: mergeS (u :: r) s) ∧ (∀ v ∈ t :: mergeS (u :: r) s, v.1 ≤ s.1) ∧ (∀ x, InS (t :: mergeS (u :: r) s) x ↔ _) ∧ _
  refine ⟨?_, ?_, fun x => ?_, fun t' ht' => ⟨t, rfl, by simp at ht'; rw [ht']⟩⟩
  ·obtain ⟨v, hv, e⟩ := i4 u (by simp)
   cases hm : mergeS (u :: r) s with
   | nil => rw [hm] at hv; simp at hv
   | cons w q =>
    rw [hm] at hv i1
    simp at hv
    subst hv; exact ⟨h.1, by rw [e]; exact h.2.1, i1⟩
  ·intro v hv
   rcases List.mem_cons.1 hv with rfl | hv
   ·exact ht v (by simp)
   ·exact i2 v hv
  ·rw [InS.cons, i3, InS.cons (s := t), or_assoc]
def rowS (l : List Re) (y : Int) : List Sp := (l.filter fun q => inRow q y && decide (0 < q.wd)).map fun q => (q.x, q.x + q.wd)
theorem rowS_in {l : List Re} {x y : Int} : InS (rowS l y) x ↔ hasL l x y = true := by
 unfold rowS InS hasL; rw [List.any_eq_true]
 constructor
 ·rintro ⟨s, hs, h1, h2⟩
  obtain ⟨q, hq, rfl⟩ := List.mem_map.1 hs; obtain ⟨hq, h⟩ := List.mem_filter.1 hq; refine ⟨q, hq, ?_⟩; unfold inRow at h; unfold hasR; simp only [Bool.and_eq_true, decide_eq_true_eq] at h ⊢; simp only at h1 h2; omega
 ·rintro ⟨q, hq, h⟩
  unfold hasR at h; simp only [Bool.and_eq_true, decide_eq_true_eq] at h; refine ⟨(q.x, q.x + q.wd), List.mem_map.2 ⟨q, List.mem_filter.2 ⟨hq, ?_⟩, rfl⟩, by simp only; omega, by simp only; omega⟩; unfold inRow; simp only [Bool.and_eq_true, decide_eq_true_eq]; omega
theorem rowS_pos {l : List Re} {y : Int} : ∀ s ∈ rowS l y, s.1 < s.2 := by
 intro s hs
 unfold rowS at hs; obtain ⟨q, hq, rfl⟩ := List.mem_map.1 hs; obtain ⟨_, h⟩ := List.mem_filter.1 hq; simp only [Bool.and_eq_true, decide_eq_true_eq] at h
 simp only; omega
def RiseF : List Sp → Prop
 | [] => True
 | s :: r => (∀ t ∈ r, s.1 ≤ t.1) ∧ RiseF r
theorem fold_merge : ∀ (m acc : List Sp), (∀ s ∈ m, s.1 < s.2) → RiseF m → CanS acc → (∀ t ∈ acc, ∀ s ∈ m, t.1 ≤ s.1) → CanS (m.foldl mergeS acc) ∧ ∀ x, InS (m.foldl mergeS acc) x ↔ InS acc x ∨ InS m x
 | [], acc, _, _, h, _ => ⟨h, fun x => by simp [InS]⟩
 | s :: m, acc, hp, hr, h, ha => by
  obtain ⟨i1, i2, i3, _⟩ := mergeS_spec (hp s (by simp)) h (fun t ht => ha t ht s (by simp))
  obtain ⟨j1, j2⟩ := fold_merge m (mergeS acc s) (fun t ht => hp t (by simp [ht])) hr.2 i1 (fun t ht u hu => by
   have := i2 t ht; have := hr.1 u hu; omega)
  refine ⟨j1, fun x => ?_⟩; rw [List.foldl_cons, j2, i3, InS.cons, or_assoc]
theorem row_spec {l : List Re} {y : Int} {m : List Sp} (hp : m.Perm (rowS l y)) (hr : RiseF m) : CanS (m.foldl mergeS []) ∧ ∀ x, InS (m.foldl mergeS []) x ↔ hasL l x y = true := by
 obtain ⟨h1, h2⟩ := fold_merge m [] (fun s hs => rowS_pos s (hp.mem_iff.1 hs)) hr trivial (by simp); refine ⟨h1, fun x => ?_⟩; rw [h2, ← rowS_in]
 constructor
 ·rintro (h | ⟨s, hs, h⟩)
  ·exact absurd h (InS.nil _)
  ·exact ⟨s, hp.mem_iff.1 hs, h⟩
 ·rintro ⟨s, hs, h⟩
  exact .inr ⟨s, hp.mem_iff.2 hs, h⟩
def endsS (l : List Sp) : List Int := l.flatMap fun s => [s.1, s.2]
theorem mem_endsS {l : List Sp} {v : Int} : v ∈ endsS l ↔ ∃ s ∈ l, v = s.1 ∨ v = s.2 := by
 unfold endsS
 simp [List.mem_flatMap]
theorem CanS.all_pos : ∀ {l : List Sp}, CanS l → ∀ s ∈ l, s.1 < s.2
 | [], _, s, hs => by simp at hs
 | u :: l, h, s, hs => by
  rcases List.mem_cons.1 hs with rfl | hs
  ·exact h.pos
  ·exact (h.above s hs).2
theorem in_const {l : List Sp} {xs : List Int} (hm : ∀ v ∈ endsS l, v ∈ xs) (hr : Rise xs) {a b : Int} (hab : (a, b) ∈ xs.zip xs.tail) {z : Int} (h1 : a ≤ z) (h2 : z < b) : inSB l z = inSB l a := by
 rw [Bool.eq_iff_iff, inSB_iff, inSB_iff]
 have key : ∀ s ∈ l, ((s.1 ≤ z ∧ z < s.2) ↔ (s.1 ≤ a ∧ a < s.2)) := by
  intro s hs
  have e1 := rise_gap hr hab _ (hm s.1 (mem_endsS.2 ⟨s, hs, .inl rfl⟩)); have e2 := rise_gap hr hab _ (hm s.2 (mem_endsS.2 ⟨s, hs, .inr rfl⟩)); omega
 constructor
 ·rintro ⟨s, hs, h⟩; exact ⟨s, hs, (key s hs).1 h⟩
 ·rintro ⟨s, hs, h⟩; exact ⟨s, hs, (key s hs).2 h⟩
theorem in_within {l : List Sp} {xs : List Int} {z : Int} (hm : ∀ v ∈ endsS l, v ∈ xs) (hr : Rise xs) (h : inSB l z = true) : ∃ a ∈ xs.head?, ∃ b ∈ xs.getLast?, a ≤ z ∧ z < b := by
 obtain ⟨s, hs, h1, h2⟩ := inSB_iff.1 h; obtain ⟨a, ha, b, hb, a1, a2⟩ := rise_bounds hr (hm s.1 (mem_endsS.2 ⟨s, hs, .inl rfl⟩)); obtain ⟨a', ha', b', hb', b1, b2⟩ := rise_bounds hr (hm s.2 (mem_endsS.2 ⟨s, hs, .inr rfl⟩)); exact ⟨a, ha, b', hb', by omega, by omega⟩
theorem mixed_spec {sa sb : List Sp} {xs : List Int} (hr : Rise xs) (hx : ∀ v, v ∈ xs ↔ v ∈ endsS sa ++ endsS sb) (what : Int) :
  CanS (mixGo (fun x => wantB what (inSB sa x) (inSB sb x)) [] xs) ∧ ∀ x, InS (mixGo (fun x => wantB what (inSB sa x) (inSB sb x)) [] xs) x ↔ wantB what (inSB sa x) (inSB sb x) = true := by
 have m1 : ∀ v ∈ endsS sa, v ∈ xs := fun v hv => (hx v).2 (by simp [hv])
 have m2 : ∀ v ∈ endsS sb, v ∈ xs := fun v hv => (hx v).2 (by simp [hv])
 obtain ⟨h1, h2⟩ := mix_spec (keep := fun x => wantB what (inSB sa x) (inSB sb x)) (p := fun x => wantB what (inSB sa x) (inSB sb x)) xs [] hr trivial (fun x x' hx z h1 h2 => by
  show wantB what (inSB sa z) (inSB sb z) = wantB what (inSB sa x) (inSB sb x)
  rw [in_const m1 hr hx h1 h2, in_const m2 hr hx h1 h2]) (by simp)
 refine ⟨h1, fun x => ?_⟩; rw [h2 x]
 constructor
 ·rintro (h | h)
  ·exact absurd h (InS.nil _)
  ·exact h.1
 ·intro h
  refine .inr ⟨h, ?_⟩
  rcases want_some h with h | h
  ·exact in_within m1 hr h
  ·exact in_within m2 hr h
theorem mixed_eq {a b : List Re} (ha : Sane a) (hb : Sane b) {what y : Int} {sa sb : List Sp} {xs : List Int} (h1 : ∀ x, InS sa x ↔ hasL a x y = true) (h2 : ∀ x, InS sb x ↔ hasL b x y = true) (hr : Rise xs) (hx : ∀ v, v ∈ xs ↔ v ∈ endsS sa ++ endsS sb) :
  mixGo (fun x => wantB what (inSB sa x) (inSB sb x)) [] xs = spansP a b what y := by
 obtain ⟨c1, c2⟩ := mixed_spec hr hx what (sa := sa) (sb := sb); obtain ⟨d1, d2⟩ := spans_spec ha hb what y; refine canS_unique c1 d1 (fun x => ?_); rw [c2, d2]; unfold keptB
 have e1 : inSB sa x = hasL a x y := by rw [Bool.eq_iff_iff, inSB_iff]; exact h1 x
 have e2 : inSB sb x = hasL b x y := by rw [Bool.eq_iff_iff, inSB_iff]; exact h2 x
 rw [e1, e2]
/-! ### bands -/
def rectsOf (y h : Int) (l : List Sp) : List Re := l.map fun s => ⟨s.1, y, s.2 - s.1, h⟩
def bandGo (now : Int → List Sp) : List Sp → Int → List Int → List (Int × Int × List Sp)
 | last, frm, y :: z :: r => if now y = last then bandGo now last frm (z :: r) else (if last = [] then [] else [(frm, y - frm, last)]) ++ bandGo now (now y) y (z :: r)
 | last, frm, [y] => if last = [] then [] else [(frm, y - frm, last)]
 | _, _, [] => []
def bandsP (a b : List Re) (what : Int) : List (Int × Int × List Sp) := bandGo (fun y => spansP a b what y) [] 0 (edgesY a b)
def flatB (l : List (Int × Int × List Sp)) : List Re := l.flatMap fun t => rectsOf t.1 t.2.1 t.2.2
def formR (a b : List Re) (what : Int) : List Re := flatB (bandsP a b what)
def madeE (a b : List Re) (what : Int) : Int := if (formR a b what).length > 1024 then 4 else 0
def madeL (a b : List Re) (what : Int) : List Re := if (formR a b what).length > 1024 then [] else formR a b what
/-! ### the document's way with bands -/
theorem flatB_append (l m : List (Int × Int × List Sp)) : flatB (l ++ m) = flatB l ++ flatB m := by unfold flatB; rw [List.flatMap_append]
/-! ### areas -/
/-! ### rows alone -/
theorem row_alone {a : List Re} (ha : Sane a) {y : Int} {sa : List Sp} (hc : CanS sa) (h : ∀ x, InS sa x ↔ hasL a x y = true) : sa = spansP a [] 1 y := by
 obtain ⟨d1, d2⟩ := spans_spec ha (fun q hq => by simp at hq) 1 y (b := []); refine canS_unique hc d1 (fun x => ?_); rw [d2, h]; unfold keptB wantB
 simp [hasL]
end
section
/-! ### forms as sets of places -/
abbrev Bd := Int × Int × List Sp
def OnB (l : List Bd) (x z : Int) : Prop := ∃ t ∈ l, t.1 ≤ z ∧ z < t.1 + t.2.1 ∧ InS t.2.2 x
def GoodB (t : Bd) : Prop := 0 < t.2.1 ∧ t.2.2 ≠ [] ∧ CanS t.2.2
def CanB : List Bd → Prop
 | [] => True
 | [t] => GoodB t
 | t :: u :: r => GoodB t ∧ t.1 + t.2.1 ≤ u.1 ∧ (t.1 + t.2.1 = u.1 → t.2.2 ≠ u.2.2) ∧ CanB (u :: r)
theorem CanB.tail {t : Bd} {r : List Bd} (h : CanB (t :: r)) : CanB r := by
 cases r with
 | nil => trivial
 | cons u r => exact h.2.2.2
theorem CanB.good {t : Bd} {r : List Bd} (h : CanB (t :: r)) : GoodB t := by
 cases r with
 | nil => exact h
 | cons u r => exact h.1
theorem CanB.above {t : Bd} {r : List Bd} (h : CanB (t :: r)) : ∀ u ∈ r, t.1 + t.2.1 ≤ u.1 ∧ GoodB u := by
 induction r generalizing t with
 | nil => simp
 | cons v r ih =>
  intro u hu
  rcases List.mem_cons.1 hu with rfl | hu
  ·exact ⟨h.2.1, h.2.2.2.good⟩
  ·have := ih h.2.2.2 u hu
   have := h.2.1; have := h.2.2.2.good.1; exact ⟨by omega, (ih h.2.2.2 u hu).2⟩
theorem OnB.nil (x z : Int) : ¬ OnB [] x z := by simp [OnB]
theorem OnB.cons {t : Bd} {r : List Bd} {x z : Int} : OnB (t :: r) x z ↔ (t.1 ≤ z ∧ z < t.1 + t.2.1 ∧ InS t.2.2 x) ∨ OnB r x z := by simp [OnB]
theorem CanS.some {l : List Sp} (h : CanS l) (hn : l ≠ []) : ∃ x, InS l x := by
 cases l with
 | nil => exact absurd rfl hn
 | cons s r => exact ⟨s.1, InS.cons.2 (.inl ⟨Int.le_refl _, h.pos⟩)⟩
theorem canB_cons {t : Bd} {l : List Bd} (ht : GoodB t) (hl : CanB l) (h : ∀ u ∈ l.head?, t.1 + t.2.1 ≤ u.1 ∧ (t.1 + t.2.1 = u.1 → t.2.2 ≠ u.2.2)) : CanB (t :: l) := by
 cases l with
 | nil => exact ht
 | cons u r => obtain ⟨h1, h2⟩ := h u rfl; exact ⟨ht, h1, h2, hl⟩
theorem band_spec {now N : Int → List Sp} (hc : ∀ y, CanS (now y)) : ∀ (r : List Int) (y : Int) (last : List Sp) (frm : Int), Rise (y :: r) → (∀ a b, (a, b) ∈ (y :: r).zip r → ∀ z, a ≤ z → z < b → N z = now a) → CanS last → (last ≠ [] → frm < y) →
  CanB (bandGo now last frm (y :: r)) ∧ (∀ x z, OnB (bandGo now last frm (y :: r)) x z ↔ (frm ≤ z ∧ z < y ∧ InS last x) ∨ (y ≤ z ∧ (∃ b ∈ (y :: r).getLast?, z < b) ∧ InS (N z) x)) ∧ (∀ t ∈ (bandGo now last frm (y :: r)).head?, if last = [] then y ≤ t.1 else t.1 = frm ∧ t.2.2 = last)
 | [], y, last, frm, _, _, hl, hf => by
  show CanB (if last = [] then [] else [(frm, y - frm, last)]) ∧ (∀ x z, OnB (if last = [] then [] else [(frm, y - frm, last)]) x z ↔ _) ∧ (∀ t ∈ (if last = [] then [] else [(frm, y - frm, last)]).head?, _)
  by_cases e : last = []
  ·subst e
   refine ⟨trivial, fun x z => ?_, by simp⟩; simp only [if_pos, OnB.nil, InS.nil, List.getLast?_singleton, Option.mem_def, Option.some.injEq, exists_eq_left', false_iff, and_false, false_or]; omega
  ·rw [if_neg e]
   have := hf e; refine ⟨⟨by show 0 < y - frm; omega, e, hl⟩, fun x z => ?_, fun t ht => ?_⟩
   ·simp only [OnB.cons, OnB.nil, or_false, List.getLast?_singleton, Option.mem_def, Option.some.injEq, exists_eq_left']
    constructor
    ·rintro ⟨h1, h2, h3⟩; exact .inl ⟨h1, by omega, h3⟩
    ·rintro (⟨h1, h2, h3⟩ | h)
     ·exact ⟨h1, by omega, h3⟩
     ·omega
   ·simp at ht
    rw [if_neg e, ← ht]; exact ⟨rfl, rfl⟩
 | z :: r, y, last, frm, hr, hN, hl, hf => by
  have hyz : y < z := hr.1; have hN1 : ∀ v, y ≤ v → v < z → N v = now y := hN y z (by simp)
  have hN' : ∀ a b, (a, b) ∈ (z :: r).zip r → ∀ v, a ≤ v → v < b → N v = now a := fun a b hab => hN a b (by simp only [List.zip_cons_cons]; exact List.mem_cons_of_mem _ hab)
  have hlast : ∃ b, (z :: r).getLast? = some b ∧ z ≤ b := by
   obtain ⟨_, _, b, hb, _, h⟩ := rise_bounds hr.2 (v := z) (by simp); exact ⟨b, hb, h⟩
  obtain ⟨b, hgb, hzb⟩ := hlast
  have hg2 : (y :: z :: r).getLast? = some b := by rw [List.getLast?_cons_cons]; exact hgb
  by_cases e : now y = last
  ·have e0 : bandGo now last frm (y :: z :: r) = bandGo now last frm (z :: r) := by
    show (if now y = last then _ else _) = _
    rw [if_pos e]
   rw [e0]; obtain ⟨i1, i2, i3⟩ := band_spec (N := N) hc r z last frm hr.2 hN' hl (fun h => by have := hf h; omega); refine ⟨i1, fun x v => ?_, fun t ht => ?_⟩
   ·rw [i2, hg2, hgb]
    simp only [Option.mem_def, Option.some.injEq, exists_eq_left']
    constructor
    ·rintro (⟨h1, h2, h3⟩ | ⟨h1, h2, h3⟩)
     ·rcases Int.lt_or_le v y with hv | hv
      ·exact .inl ⟨h1, hv, h3⟩
      ·exact .inr ⟨hv, by omega, by rw [hN1 v hv h2, e]; exact h3⟩
     ·exact .inr ⟨by omega, h2, h3⟩
    ·rintro (⟨h1, h2, h3⟩ | ⟨h1, h2, h3⟩)
     ·exact .inl ⟨h1, by omega, h3⟩
     ·rcases Int.lt_or_le v z with hv | hv
      ·rw [hN1 v h1 hv, e] at h3
       have hne : last ≠ [] := by rintro rfl; exact InS.nil _ h3
       exact .inl ⟨by have := hf hne; omega, hv, h3⟩
      ·exact .inr ⟨hv, h2, h3⟩
   ·have := i3 t ht
    split at this
    ·rename_i h; rw [if_pos h]; omega
    ·rename_i h; rw [if_neg h]; exact this
  ·have e0 : bandGo now last frm (y :: z :: r) = (if last = [] then [] else [(frm, y - frm, last)]) ++ bandGo now (now y) y (z :: r) := by
    show (if now y = last then _ else _) = _
    rw [if_neg e]
   rw [e0]; obtain ⟨i1, i2, i3⟩ := band_spec (N := N) hc r z (now y) y hr.2 hN' (hc y) (fun _ => hyz)
   have hmid : ∀ x v, OnB (bandGo now (now y) y (z :: r)) x v ↔ (y ≤ v ∧ v < b ∧ InS (N v) x) := by
    intro x v
    rw [i2, hgb]; simp only [Option.mem_def, Option.some.injEq, exists_eq_left']
    constructor
    ·rintro (⟨h1, h2, h3⟩ | ⟨h1, h2, h3⟩)
     ·exact ⟨h1, by omega, by rw [hN1 v h1 h2]; exact h3⟩
     ·exact ⟨by omega, h2, h3⟩
    ·rintro ⟨h1, h2, h3⟩
     rcases Int.lt_or_le v z with hv | hv
     ·exact .inl ⟨h1, hv, by rw [← hN1 v h1 hv]; exact h3⟩
     ·exact .inr ⟨hv, h2, h3⟩
   have hhead : ∀ t ∈ (bandGo now (now y) y (z :: r)).head?, y ≤ t.1 ∧ (t.1 = y → t.2.2 = now y) := by
    intro t ht
    have := i3 t ht
    split at this
    ·exact ⟨by omega, fun h => by omega⟩
    ·exact ⟨by omega, fun _ => this.2⟩
   by_cases hle : last = []
   ·subst hle
    rw [if_pos rfl, List.nil_append]; refine ⟨i1, fun x v => ?_, fun t ht => ?_⟩
    ·rw [hmid, hg2]
     simp only [Option.mem_def, Option.some.injEq, exists_eq_left', InS.nil, and_false, false_or]
    ·rw [if_pos rfl]; exact (hhead t ht).1
   ·rw [if_neg hle]
    have hfy := hf hle; refine ⟨canB_cons ⟨by show 0 < y - frm; omega, hle, hl⟩ i1 (fun u hu => ?_), fun x v => ?_, fun t ht => ?_⟩
    ·have := hhead u hu
     refine ⟨by show frm + (y - frm) ≤ u.1; omega, fun h => ?_⟩; have h' : frm + (y - frm) = u.1 := h; rw [this.2 (by omega)]
     exact fun h2 => e h2.symm
    ·rw [List.singleton_append, OnB.cons, hmid, hg2]
     simp only [Option.mem_def, Option.some.injEq, exists_eq_left']
     constructor
     ·rintro (⟨h1, h2, h3⟩ | h)
      ·exact .inl ⟨h1, by omega, h3⟩
      ·exact .inr h
     ·rintro (⟨h1, h2, h3⟩ | h)
      ·exact .inl ⟨h1, by omega, h3⟩
      ·exact .inr h
    ·rw [if_neg hle]
     have ht' : some (frm, y - frm, last) = some t := ht
     injection ht' with ht'
     rw [← ht']; exact ⟨rfl, rfl⟩
theorem has_constY {l : List Re} {ys : List Int} (hs : Sane l) (hm : ∀ q ∈ l, ∀ v, OnY q v → v ∈ ys) (hr : Rise ys) {a b : Int} (hab : (a, b) ∈ ys.zip ys.tail) {z : Int} (h1 : a ≤ z) (h2 : z < b) (x : Int) : hasL l x z = hasL l x a := by
 unfold hasL; rw [Bool.eq_iff_iff, List.any_eq_true, List.any_eq_true]
 have key : ∀ q ∈ l, (hasR q x z = true ↔ hasR q x a = true) := by
  intro q hq
  obtain ⟨s1, s2⟩ := hs q hq; unfold hasR; simp only [Bool.and_eq_true, decide_eq_true_eq]
  by_cases hrow : q.x ≤ x ∧ x < q.x + q.wd
  ·by_cases hw : q.ht = 0
   ·omega
   ·have hn : noneR q = false := by unfold noneR; simp; omega
    have e1 := rise_gap hr hab _ (hm q hq q.y ⟨hn, .inl rfl⟩); have e2 := rise_gap hr hab _ (hm q hq (q.y + q.ht) ⟨hn, .inr rfl⟩); omega
  ·omega
 constructor
 ·rintro ⟨q, hq, h⟩; exact ⟨q, hq, (key q hq).1 h⟩
 ·rintro ⟨q, hq, h⟩; exact ⟨q, hq, (key q hq).2 h⟩
theorem has_withinY {l : List Re} {ys : List Int} {x z : Int} (hm : ∀ q ∈ l, ∀ v, OnY q v → v ∈ ys) (hr : Rise ys) (h : hasL l x z = true) : ∃ a ∈ ys.head?, ∃ b ∈ ys.getLast?, a ≤ z ∧ z < b := by
 unfold hasL at h; obtain ⟨q, hq, h⟩ := List.any_eq_true.1 h; unfold hasR at h; simp only [Bool.and_eq_true, decide_eq_true_eq] at h
 have hn : noneR q = false := by unfold noneR; simp; omega
 obtain ⟨a, ha, b, hb, h1, h2⟩ := rise_bounds hr (hm q hq q.y ⟨hn, .inl rfl⟩); obtain ⟨a', ha', b', hb', h1', h2'⟩ := rise_bounds hr (hm q hq (q.y + q.ht) ⟨hn, .inr rfl⟩); exact ⟨a, ha, b', hb', by omega, by omega⟩
theorem spans_congr {a b a' b' : List Re} {what what' y y' : Int} (ha : Sane a) (hb : Sane b) (ha' : Sane a') (hb' : Sane b') (h : ∀ x, keptB a b what x y = keptB a' b' what' x y') : spansP a b what y = spansP a' b' what' y' := by
 obtain ⟨c1, c2⟩ := spans_spec ha hb what y; obtain ⟨d1, d2⟩ := spans_spec ha' hb' what' y'; refine canS_unique c1 d1 (fun x => ?_); rw [c2, d2, h]
theorem bands_spec {a b : List Re} (ha : Sane a) (hb : Sane b) (what : Int) : CanB (bandsP a b what) ∧ ∀ x z, OnB (bandsP a b what) x z ↔ keptB a b what x z = true := by
 have hr := edgesY_rise a b
 have m1 : ∀ q ∈ a, ∀ v, OnY q v → v ∈ edgesY a b := fun q hq v h => mem_edgesY.2 ⟨q, by simp [hq], h⟩
 have m2 : ∀ q ∈ b, ∀ v, OnY q v → v ∈ edgesY a b := fun q hq v h => mem_edgesY.2 ⟨q, by simp [hq], h⟩
 have hin : ∀ x z, keptB a b what x z = true → ∃ p ∈ (edgesY a b).head?, ∃ q ∈ (edgesY a b).getLast?, p ≤ z ∧ z < q := fun x z h => by
  rcases want_some h with h | h
  ·exact has_withinY m1 hr h
  ·exact has_withinY m2 hr h
 have hgap : ∀ u v, (u, v) ∈ (edgesY a b).zip (edgesY a b).tail → ∀ z, u ≤ z → z < v → spansP a b what z = spansP a b what u := fun u v huv z h1 h2 => by
  refine spans_congr ha hb ha hb (fun x => ?_); unfold keptB; rw [has_constY ha m1 hr huv h1 h2, has_constY hb m2 hr huv h1 h2]
 unfold bandsP
 cases he : edgesY a b with
 | nil =>
  refine ⟨trivial, fun x z => ?_⟩
  constructor
  ·intro h; exact absurd h (OnB.nil _ _)
  ·intro h
   obtain ⟨p, hp, _⟩ := hin x z h; rw [he] at hp
   simp at hp
 | cons y r =>
  rw [he] at hr hgap; obtain ⟨c1, c2, _⟩ := band_spec (now := fun y => spansP a b what y) (N := fun y => spansP a b what y) (fun y => (spans_spec ha hb what y).1) r y [] 0 hr (fun u v huv z h1 h2 => hgap u v huv z h1 h2) trivial (fun h => absurd rfl h); refine ⟨c1, fun x z => ?_⟩; rw [c2]
  show _ ∨ (y ≤ z ∧ _ ∧ InS (spansP a b what z) x) ↔ _
  rw [(spans_spec ha hb what z).2]
  constructor
  ·rintro (⟨_, _, h⟩ | ⟨_, _, h⟩)
   ·exact absurd h (InS.nil _)
   ·exact h
  ·intro h
   obtain ⟨p, hp, q, hq, h1, h2⟩ := hin x z h; rw [he] at hp hq; simp only [List.head?_cons, Option.mem_def, Option.some.injEq] at hp; subst hp; exact .inr ⟨h1, ⟨q, hq, h2⟩, h⟩
theorem has_rects {y h x z : Int} {l : List Sp} : hasL (rectsOf y h l) x z = true ↔ (y ≤ z ∧ z < y + h ∧ InS l x) := by
 unfold hasL rectsOf InS; rw [List.any_eq_true]
 constructor
 ·rintro ⟨q, hq, hh⟩
  obtain ⟨s, hs, rfl⟩ := List.mem_map.1 hq; unfold hasR at hh; simp only [Bool.and_eq_true, decide_eq_true_eq] at hh; exact ⟨by omega, by omega, s, hs, by omega, by omega⟩
 ·rintro ⟨h1, h2, s, hs, h3, h4⟩
  refine ⟨_, List.mem_map.2 ⟨s, hs, rfl⟩, ?_⟩; unfold hasR; simp only [Bool.and_eq_true, decide_eq_true_eq]; omega
theorem has_append {l m : List Re} {x z : Int} : hasL (l ++ m) x z = (hasL l x z || hasL m x z) := by unfold hasL; rw [List.any_append]
theorem has_flat {l : List Bd} {x z : Int} : hasL (flatB l) x z = true ↔ OnB l x z := by
 induction l with
 | nil => simp [flatB, hasL, OnB]
 | cons t l ih =>
  rw [show flatB (t :: l) = rectsOf t.1 t.2.1 t.2.2 ++ flatB l from rfl, has_append, Bool.or_eq_true, ih, has_rects, OnB.cons]
theorem form_has {a b : List Re} (ha : Sane a) (hb : Sane b) (what x z : Int) : hasL (formR a b what) x z = keptB a b what x z := by
 rw [Bool.eq_iff_iff]; unfold formR; rw [has_flat, (bands_spec ha hb what).2]
theorem band_good : ∀ {l : List Bd}, CanB l → ∀ t ∈ l, GoodB t
 | [], _, t, ht => by simp at ht
 | u :: l, h, t, ht => by
  rcases List.mem_cons.1 ht with rfl | ht
  ·exact h.good
  ·exact (h.above t ht).2
theorem sane_nil : Sane [] := fun q hq => by simp at hq
theorem kept_one (a : List Re) (x z : Int) : keptB a [] 1 x z = hasL a x z := by
 unfold keptB wantB; simp [hasL]
/-! ### how many rectangles a form has -/
theorem sub_len {α : Type} [BEq α] [LawfulBEq α] : ∀ {V C : List α}, V.Nodup → (∀ v ∈ V, v ∈ C) → V.length ≤ C.length
 | [], _, _, _ => Nat.zero_le _
 | v :: V, C, hn, h => by
  have hv := h v (by simp); obtain ⟨h1, h2⟩ := List.nodup_cons.1 hn; have := sub_len (V := V) (C := C.erase v) h2 (fun u hu => (List.mem_erase_of_ne (by rintro rfl; exact h1 hu)).2 (h u (by simp [hu]))); rw [List.length_erase_of_mem hv] at this; have := List.length_pos_of_mem hv; simp only [List.length_cons]; omega
theorem rise_nodup : ∀ {l : List Int}, Rise l → l.Nodup
 | [], _ => List.nodup_nil
 | a :: r, h => List.nodup_cons.2 ⟨fun ha => by have := h.above a ha; omega, rise_nodup h.tail⟩
def actB (v : Int) (q : Re) : Bool := decide (q.y ≤ v) && decide (v < q.y + q.ht)
def actN (L : List Re) (v : Int) : Nat := L.countP (actB v)
theorem starts_rise : ∀ {l : List Sp}, CanS l → Rise (l.map Prod.fst)
 | [], _ => trivial
 | s :: r, h => Rise.mk (starts_rise h.tail) (fun x hx => by
  obtain ⟨t, ht, rfl⟩ := List.mem_map.1 hx; have := h.above t ht; have := h.pos
  omega)
theorem start_not : ∀ {l : List Sp}, CanS l → ∀ s ∈ l, ¬ InS l (s.1 - 1)
 | [], _, s, hs => by simp at hs
 | t :: r, h, s, hs => by
  intro hin
  rcases List.mem_cons.1 hs with rfl | hs
  ·rcases InS.cons.1 hin with h' | h'
   ·omega
   ·exact h.not_in (by have := h.pos; omega) h'
  ·rcases InS.cons.1 hin with h' | h'
   ·have := (h.above s hs).1; omega
   ·exact start_not h.tail s hs h'
theorem has_gain {l : List Re} {x y : Int} (h1 : hasL l x y = true) (h2 : hasL l (x - 1) y = false) : ∃ q ∈ l, q.x = x ∧ noneR q = false ∧ actB y q = true := by
 unfold hasL at h1 h2; obtain ⟨q, hq, h⟩ := List.any_eq_true.1 h1; have h3 := List.any_eq_false.1 h2 q hq; unfold hasR at h h3; simp only [Bool.and_eq_true, decide_eq_true_eq, not_and] at h h3; refine ⟨q, hq, ?_, by unfold noneR; simp; omega, by unfold actB; simp; omega⟩
 by_cases hx : q.x = x
 ·exact hx
 ·exact (h3 ⟨⟨by omega, by omega⟩, h.1.2⟩ h.2).elim
theorem has_loss {l : List Re} {x y : Int} (h1 : hasL l x y = false) (h2 : hasL l (x - 1) y = true) : ∃ q ∈ l, q.x + q.wd = x ∧ noneR q = false ∧ actB y q = true := by
 unfold hasL at h1 h2; obtain ⟨q, hq, h⟩ := List.any_eq_true.1 h2; have h3 := List.any_eq_false.1 h1 q hq; unfold hasR at h h3; simp only [Bool.and_eq_true, decide_eq_true_eq, not_and] at h h3; refine ⟨q, hq, ?_, by unfold noneR; simp; omega, by unfold actB; simp; omega⟩
 by_cases hx : q.x + q.wd = x
 ·exact hx
 ·exact (h3 ⟨⟨by omega, by omega⟩, h.1.2⟩ h.2).elim
theorem want_gain {what : Int} {o1 p1 o2 p2 : Bool} (h1 : wantB what o1 p1 = true) (h2 : wantB what o2 p2 = false) : (o1 = true ∧ o2 = false) ∨ (if what = 1 ∨ what = 2 then p1 = true ∧ p2 = false else p1 = false ∧ p2 = true) := by
 unfold wantB at h1 h2
 by_cases w1 : what = 1
 ·subst w1
  cases o1 <;> cases p1 <;> cases o2 <;> cases p2 <;> simp_all
 ·by_cases w2 : what = 2
  ·subst w2
   cases o1 <;> cases p1 <;> cases o2 <;> cases p2 <;> simp_all
  ·rw [if_neg w1, if_neg w2] at h1 h2
   rw [if_neg (by omega)]
   cases o1 <;> cases p1 <;> cases o2 <;> cases p2 <;> simp_all
theorem spans_len {a b : List Re} (ha : Sane a) (hb : Sane b) (what y : Int) : (spansP a b what y).length ≤ actN (a ++ b) y := by
 obtain ⟨c1, c2⟩ := spans_spec ha hb what y
 have hst : ∀ v ∈ (spansP a b what y).map Prod.fst, (∃ q ∈ a, q.x = v ∧ actB y q = true) ∨ (∃ q ∈ b, (if what = 1 ∨ what = 2 then q.x else q.x + q.wd) = v ∧ actB y q = true) := by
  intro v hv
  obtain ⟨s, hs, rfl⟩ := List.mem_map.1 hv; have h1 := (c2 s.1).1 ⟨s, hs, Int.le_refl _, c1.all_pos s hs⟩
  have h2 : keptB a b what (s.1 - 1) y = false := by
   cases h : keptB a b what (s.1 - 1) y
   ·rfl
   ·exact absurd ((c2 _).2 h) (start_not c1 s hs)
  unfold keptB at h1 h2
  rcases want_gain h1 h2 with ⟨g1, g2⟩ | g
  ·obtain ⟨q, hq, e, _, h⟩ := has_gain g1 g2
   exact .inl ⟨q, hq, e, h⟩
  ·by_cases hw : what = 1 ∨ what = 2
   ·rw [if_pos hw] at g
    obtain ⟨q, hq, e, _, h⟩ := has_gain g.1 g.2; exact .inr ⟨q, hq, by rw [if_pos hw]; exact e, h⟩
   ·rw [if_neg hw] at g
    obtain ⟨q, hq, e, _, h⟩ := has_loss g.1 g.2; exact .inr ⟨q, hq, by rw [if_neg hw]; exact e, h⟩
 have hn := rise_nodup (starts_rise c1)
 have hle : ((spansP a b what y).map Prod.fst).length ≤ ((a.filter (actB y)).map (fun q => q.x) ++ (b.filter (actB y)).map fun q => if what = 1 ∨ what = 2 then q.x else q.x + q.wd).length := by
  refine sub_len hn (fun v hv => ?_)
  rcases hst v hv with ⟨q, hq, e, h⟩ | ⟨q, hq, e, h⟩
  ·exact List.mem_append.2 (.inl (List.mem_map.2 ⟨q, List.mem_filter.2 ⟨hq, h⟩, e⟩))
  ·exact List.mem_append.2 (.inr (List.mem_map.2 ⟨q, List.mem_filter.2 ⟨hq, h⟩, e⟩))
 unfold actN; rw [List.countP_append, List.countP_eq_length_filter, List.countP_eq_length_filter]
 simpa using hle
end
section
/-! ### ends lie among the edges -/
theorem putS_ends {x y : Int} {S : Int → Prop} : ∀ {l : List Sp}, (∀ s ∈ l, S s.1 ∧ S s.2) → S x → S y → ∀ s ∈ putS l x y, S s.1 ∧ S s.2
 | [], _, hx, hy, s, hs => by simp [putS] at hs; subst hs; exact ⟨hx, hy⟩
 | [t], h, hx, hy, s, hs => by
  have := h t (by simp); unfold putS at hs
  split at hs
  ·simp at hs; subst hs; exact ⟨this.1, hy⟩
  ·simp at hs
   rcases hs with rfl | rfl
   ·exact this
   ·exact ⟨hx, hy⟩
 | t :: u :: r, h, hx, hy, s, hs => by
  have hs' : s ∈ t :: putS (u :: r) x y := hs
  rcases List.mem_cons.1 hs' with rfl | hs'
  ·exact h s (by simp)
  ·exact putS_ends (fun v hv => h v (by simp [List.mem_cons.1 hv])) hx hy s hs'
theorem mix_ends {S : Int → Prop} (keep : Int → Bool) : ∀ (xs : List Int) (out : List Sp), (∀ x ∈ xs, S x) → (∀ s ∈ out, S s.1 ∧ S s.2) → ∀ s ∈ mixGo keep out xs, S s.1 ∧ S s.2
 | [], out, _, h, s, hs => h s hs
 | [_], out, _, h, s, hs => h s hs
 | x :: y :: r, out, hx, h, s, hs => by
  unfold mixGo at hs; refine mix_ends keep (y :: r) _ (fun v hv => hx v (by simp [List.mem_cons.1 hv])) (fun t ht => ?_) s hs
  split at ht
  ·exact putS_ends h (hx x (by simp)) (hx y (by simp)) t ht
  ·exact h t ht
def InM (v : Int) : Prop := -16384 ≤ v ∧ v ≤ 16384
theorem may_sides {q : Re} (h : mayR q = true) : InM q.x ∧ InM (q.x + q.wd) ∧ InM q.y ∧ InM (q.y + q.ht) ∧ 0 ≤ q.wd ∧ 0 ≤ q.ht := by
 unfold mayR spanB at h; simp only [Bool.and_eq_true, inB_iff, sdB_iff, decide_eq_true_eq] at h; unfold InM; omega
theorem may_mk {q : Re} (h1 : InM q.x) (h2 : InM (q.x + q.wd)) (h3 : InM q.y) (h4 : InM (q.y + q.ht)) (h5 : 0 ≤ q.wd) (h6 : 0 ≤ q.ht) : mayR q = true := by
 unfold InM at h1 h2 h3 h4; unfold mayR spanB; simp only [Bool.and_eq_true, inB_iff, sdB_iff, decide_eq_true_eq]; omega
def MayL (l : List Re) : Prop := ∀ q ∈ l, mayR q = true
theorem MayL.sane {l : List Re} (h : MayL l) : Sane l := fun q hq => (may_sides (h q hq)).2.2.2.2
theorem mayL_nil : MayL [] := fun q hq => by simp at hq
theorem MayL.append {a b : List Re} (ha : MayL a) (hb : MayL b) : MayL (a ++ b) := fun q hq => by
 rcases List.mem_append.1 hq with h | h
 ·exact ha q h
 ·exact hb q h
theorem edgesX_in {a b : List Re} (ha : MayL a) (hb : MayL b) (y : Int) : ∀ v ∈ edgesX a b y, InM v := fun v hv => by
 obtain ⟨q, hq, _, _, h⟩ := mem_edgesX.1 hv; have := may_sides ((ha.append hb) q hq)
 rcases h with rfl | rfl
 ·exact this.1
 ·exact this.2.1
theorem edgesY_in {a b : List Re} (ha : MayL a) (hb : MayL b) : ∀ v ∈ edgesY a b, InM v := fun v hv => by
 obtain ⟨q, hq, _, h⟩ := mem_edgesY.1 hv; have := may_sides ((ha.append hb) q hq)
 rcases h with rfl | rfl
 ·exact this.2.2.1
 ·exact this.2.2.2.1
theorem spans_in {a b : List Re} (ha : MayL a) (hb : MayL b) (what y : Int) : ∀ s ∈ spansP a b what y, InM s.1 ∧ InM s.2 :=
 mix_ends _ _ [] (edgesX_in ha hb y) (by simp)
theorem band_in {now : Int → List Sp} {S : Int → Prop} : ∀ (r : List Int) (y : Int) (last : List Sp) (frm : Int), (∀ v ∈ y :: r, S v) → (last ≠ [] → S frm) → ∀ t ∈ bandGo now last frm (y :: r), S t.1 ∧ S (t.1 + t.2.1) ∧ (t.2.2 = last ∨ ∃ v ∈ y :: r, t.2.2 = now v)
 | [], y, last, frm, h, hf, t, ht => by
  have ht' : t ∈ (if last = [] then [] else [(frm, y - frm, last)]) := ht
  split at ht'
  ·simp at ht'
  ·rename_i e
   simp at ht'
   subst ht'; exact ⟨hf e, by show S (frm + (y - frm)); rw [show frm + (y - frm) = y by omega]; exact h y (by simp), .inl rfl⟩
 | z :: r, y, last, frm, h, hf, t, ht => by
  have ht' : t ∈ (if now y = last then bandGo now last frm (z :: r) else (if last = [] then [] else [(frm, y - frm, last)]) ++ bandGo now (now y) y (z :: r)) := ht
  have h' : ∀ v ∈ z :: r, S v := fun v hv => h v (by simp [List.mem_cons.1 hv])
  split at ht'
  ·obtain ⟨h1, h2, h3⟩ := band_in (S := S) r z last frm h' hf t ht'
   refine ⟨h1, h2, ?_⟩
   rcases h3 with h3 | ⟨v, hv, h3⟩
   ·exact .inl h3
   ·exact .inr ⟨v, List.mem_cons_of_mem _ hv, h3⟩
  ·rcases List.mem_append.1 ht' with ht' | ht'
   ·split at ht'
    ·simp at ht'
    ·rename_i e
     simp at ht'
     subst ht'; exact ⟨hf e, by show S (frm + (y - frm)); rw [show frm + (y - frm) = y by omega]; exact h y (by simp), .inl rfl⟩
   ·obtain ⟨h1, h2, h3⟩ := band_in (S := S) r z (now y) y h' (fun _ => h y (by simp)) t ht'
    refine ⟨h1, h2, .inr ?_⟩
    rcases h3 with h3 | ⟨v, hv, h3⟩
    ·exact ⟨y, by simp, h3⟩
    ·exact ⟨v, List.mem_cons_of_mem _ hv, h3⟩
theorem bands_in {a b : List Re} (ha : MayL a) (hb : MayL b) (what : Int) : ∀ t ∈ bandsP a b what, InM t.1 ∧ InM (t.1 + t.2.1) ∧ 0 < t.2.1 ∧ CanS t.2.2 ∧ ∀ s ∈ t.2.2, InM s.1 ∧ InM s.2 := by
 intro t ht
 obtain ⟨g1, g2, g3⟩ := band_good (bands_spec ha.sane hb.sane what).1 t ht; unfold bandsP at ht
 cases he : edgesY a b with
 | nil => rw [he] at ht; simp [bandGo] at ht
 | cons y r =>
  rw [he] at ht; obtain ⟨h1, h2, h3⟩ := band_in (S := InM) r y [] 0 (by rw [← he]; exact edgesY_in ha hb) (by simp) t ht; refine ⟨h1, h2, g1, g3, ?_⟩
  rcases h3 with h3 | ⟨v, _, h3⟩
  ·rw [h3]; simp
  ·rw [h3]; exact spans_in ha hb what v
theorem rects_may {y h : Int} {l : List Sp} (h1 : InM y) (h2 : InM (y + h)) (h3 : 0 < h) (hc : CanS l) (hl : ∀ s ∈ l, InM s.1 ∧ InM s.2) : MayL (rectsOf y h l) := by
 intro q hq
 unfold rectsOf at hq; obtain ⟨s, hs, rfl⟩ := List.mem_map.1 hq; have := hc.all_pos s hs; obtain ⟨l1, l2⟩ := hl s hs; exact may_mk l1 (by show InM (s.1 + (s.2 - s.1)); rw [show s.1 + (s.2 - s.1) = s.2 by omega]; exact l2) h1 h2 (by show 0 ≤ s.2 - s.1; omega) (by show 0 ≤ h; omega)
theorem form_may {a b : List Re} (ha : MayL a) (hb : MayL b) (what : Int) : MayL (formR a b what) := by
 intro q hq
 unfold formR flatB at hq; obtain ⟨t, ht, hq⟩ := List.mem_flatMap.1 hq; obtain ⟨h1, h2, h3, h4, h5⟩ := bands_in ha hb what t ht; exact rects_may h1 h2 h3 h4 h5 q hq
/-! ### areas as numbers of places -/
/-! ### moved -/
def chkR (l : List Re) : Int := if 1024 < l.length then 4 else if l.all mayR then 0 else 5
def askR (a b : List Re) : Int := if chkR a = 0 then chkR b else chkR a
theorem chkR_may {l : List Re} (h : chkR l = 0) : MayL l ∧ l.length ≤ 1024 := by
 unfold chkR at h
 split at h
 ·cases h
 ·split at h
  ·rename_i h2
   exact ⟨fun q hq => List.all_eq_true.1 h2 q hq, by omega⟩
  ·cases h
def bothE (a b : List Re) (what : Int) : Int := if askR a b = 0 then madeE a b what else askR a b
def bothL (a b : List Re) (what : Int) : List Re := if askR a b = 0 then madeL a b what else []
theorem eqb_iff {p q : Re} : p.eqb q = true ↔ p = q := by
 unfold Re.eqb; rw [eq4_iff]
 cases p; cases q; simp
end
section
theorem chk_of {l : List Re} (h : MayL l) (hl : l.length ≤ 1024) : chkR l = 0 := by
 unfold chkR; rw [if_neg (by omega), if_pos (List.all_eq_true.2 h)]
theorem has_nil (x z : Int) : hasL [] x z = false := rfl
theorem form_places {a b : List Re} (ha : Sane a) (hb : Sane b) (what : Int) (x z : Int) : hasL (formR a b what) x z = wantB what (hasL a x z) (hasL b x z) := form_has ha hb what x z
theorem want1 (o p : Bool) : wantB 1 o p = (o || p) := rfl
/-! ### the same places just if the same form -/
end
end
end Go.Proofs.YtfcphagmjijmkaaGreatDoor
