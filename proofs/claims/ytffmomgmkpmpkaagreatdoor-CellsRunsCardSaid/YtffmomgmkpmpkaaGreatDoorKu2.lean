/-
  XGa: XLisA XLisB XLisC XLisD XLisE XRegP XRegQ XRegR XRegPa.
-/
import Derived.Deep.DeepCutAuto
import Derived.Laws.AppendOwnNone
import Derived.Laws.StructEq
import Derived.OneCell
import Derived.Test.YtffmomgmkpmpkaaGreatDoorProg
import Derived.Test.YtffmomgmkpmpkaaGreatDoorKu1
namespace Go.Proofs.YtffmomgmkpmpkaaGreatDoor
open Go.RowKit
set_option linter.unusedVariables false
attribute [local go_sem] vwp vUpon_value vUpon_skip vUpon_enter vUpon_row
set_option linter.unusedSimpArgs false
set_option linter.unusedVariables false
section
set_option linter.unusedSimpArgs false
def inB (n : Int) : Bool := decide (-16384 ≤ n) && decide (n ≤ 16384)
def sdB (n : Int) : Bool := decide (0 ≤ n) && decide (n ≤ 32768)
theorem gwithin_any (n : Int) (w : World) (hn : I64 n) : Calls Tryz.prog 155 #[.int .i64 n] w fun e w' => e = .returned (.bool (inB n)) ∧ w = w' := by
  unfold inB
  go_enter Tryz.func155, Tryz.ntmps155
  by_cases h : -16384 ≤ n
  · have g1 : decide (-16384 ≤ n) = true := by simpa using h
    go_wp2
    go_ret
    exact ⟨by simp [g1], rfl⟩
  · have g1 : decide (-16384 ≤ n) = false := by simpa using h
    go_wp2
    go_ret
    exact ⟨by simp [g1], rfl⟩
theorem gside_any (n : Int) (w : World) (hn : I64 n) : Calls Tryz.prog 156 #[.int .i64 n] w fun e w' => e = .returned (.bool (sdB n)) ∧ w = w' := by
  unfold sdB
  go_enter Tryz.func156, Tryz.ntmps156
  by_cases h : 0 ≤ n
  · have g1 : decide (0 ≤ n) = true := by simpa using h
    go_wp2
    go_ret
    exact ⟨by simp [g1], rfl⟩
  · have g1 : decide (0 ≤ n) = false := by simpa using h
    go_wp2
    go_ret
    exact ⟨by simp [g1], rfl⟩
end
section
set_option linter.unusedSimpArgs false
structure Re where
  x : Int
  y : Int
  wd : Int
  ht : Int
instance : Inhabited Re := ⟨⟨0, 0, 0, 0⟩⟩
def Re.Wf (q : Re) : Prop := I64 q.x ∧ I64 q.y ∧ I64 q.wd ∧ I64 q.ht
theorem inB_iff {n : Int} : inB n = true ↔ -16384 ≤ n ∧ n ≤ 16384 := by simp [inB]
theorem sdB_iff {n : Int} : sdB n = true ↔ 0 ≤ n ∧ n ≤ 32768 := by simp [sdB]
def spanB (a s : Int) : Bool := inB a && (sdB s && decide (a + s ≤ 16384))
def mayR (q : Re) : Bool := spanB q.x q.wd && spanB q.y q.ht
end
section
set_option linter.unusedSimpArgs false
set_option maxHeartbeats 1000000 in
theorem gcheck_any (q : Re) (w : World) (hq : q.Wf) : Calls Tryz.prog 124 #[.agg #[.int .i64 (q).x, .int .i64 (q).y, .int .i64 (q).wd, .int .i64 (q).ht]] w fun e w' => e = .returned (.int .i64 (if mayR q then 0 else 5)) ∧ Below w.heap.size w w' := by
 obtain ⟨x, y, a, b⟩ := q
 obtain ⟨q1, q2, q3, q4⟩ := hq
 simp only at q1 q2 q3 q4 ⊢
 have A := fun w => gwithin_any x w q1
 have B := fun w => gwithin_any y w q2
 have C := fun w => gside_any a w q3
 have D := fun w => gside_any b w q4
 cases h1 : inB x
 ·have hm : mayR ⟨x, y, a, b⟩ = false := by simp [mayR, spanB, h1]
  rw [h1] at A
  replace A := Lib.hid A
  replace B := Lib.hid B
  replace C := Lib.hid C
  replace D := Lib.hid D
  rw [show mayR ⟨x, y, a, b⟩ = false from hm]
  clear hm
  go_enter Tryz.func124, Tryz.ntmps124
  go_wp2_with (first | (go_at_call 155; (with_reducible refine (A.out _).mono ?_); rintro e w1 ⟨rfl, rfl⟩) | (go_at_call 155; (with_reducible refine (B.out _).mono ?_); rintro e w2 ⟨rfl, rfl⟩) | (go_at_call 156; (with_reducible refine (C.out _).mono ?_); rintro e w3 ⟨rfl, rfl⟩) | (go_at_call 156; (with_reducible refine (D.out _).mono ?_); rintro e w4 ⟨rfl, rfl⟩))
  all_goals (go_ret; exact ⟨rfl, (by repeat (first | exact Below.refl _ _ | assumption | refine Below.drew ?_ | refine Below.alloc ?_ (by (try simp) <;> omega) _ | refine Below.setCell ?_ (by (try simp) <;> omega) _))⟩)
 cases h2 : inB y
 ·have hm : mayR ⟨x, y, a, b⟩ = false := by simp [mayR, spanB, h2]
  rw [h1] at A
  rw [h2] at B
  replace A := Lib.hid A
  replace B := Lib.hid B
  replace C := Lib.hid C
  replace D := Lib.hid D
  rw [show mayR ⟨x, y, a, b⟩ = false from hm]
  clear hm
  go_enter Tryz.func124, Tryz.ntmps124
  go_wp2_with (first | (go_at_call 155; (with_reducible refine (A.out _).mono ?_); rintro e w1 ⟨rfl, rfl⟩) | (go_at_call 155; (with_reducible refine (B.out _).mono ?_); rintro e w2 ⟨rfl, rfl⟩) | (go_at_call 156; (with_reducible refine (C.out _).mono ?_); rintro e w3 ⟨rfl, rfl⟩) | (go_at_call 156; (with_reducible refine (D.out _).mono ?_); rintro e w4 ⟨rfl, rfl⟩))
  all_goals (go_ret; exact ⟨rfl, (by repeat (first | exact Below.refl _ _ | assumption | refine Below.drew ?_ | refine Below.alloc ?_ (by (try simp) <;> omega) _ | refine Below.setCell ?_ (by (try simp) <;> omega) _))⟩)
 cases h3 : sdB a
 ·have hm : mayR ⟨x, y, a, b⟩ = false := by simp [mayR, spanB, h3]
  rw [h1] at A
  rw [h2] at B
  rw [h3] at C
  replace A := Lib.hid A
  replace B := Lib.hid B
  replace C := Lib.hid C
  replace D := Lib.hid D
  rw [show mayR ⟨x, y, a, b⟩ = false from hm]
  clear hm
  go_enter Tryz.func124, Tryz.ntmps124
  go_wp2_with (first | (go_at_call 155; (with_reducible refine (A.out _).mono ?_); rintro e w1 ⟨rfl, rfl⟩) | (go_at_call 155; (with_reducible refine (B.out _).mono ?_); rintro e w2 ⟨rfl, rfl⟩) | (go_at_call 156; (with_reducible refine (C.out _).mono ?_); rintro e w3 ⟨rfl, rfl⟩) | (go_at_call 156; (with_reducible refine (D.out _).mono ?_); rintro e w4 ⟨rfl, rfl⟩))
  all_goals (go_ret; exact ⟨rfl, (by repeat (first | exact Below.refl _ _ | assumption | refine Below.drew ?_ | refine Below.alloc ?_ (by (try simp) <;> omega) _ | refine Below.setCell ?_ (by (try simp) <;> omega) _))⟩)
 cases h4 : sdB b
 ·have hm : mayR ⟨x, y, a, b⟩ = false := by simp [mayR, spanB, h4]
  rw [h1] at A
  rw [h2] at B
  rw [h3] at C
  rw [h4] at D
  replace A := Lib.hid A
  replace B := Lib.hid B
  replace C := Lib.hid C
  replace D := Lib.hid D
  rw [show mayR ⟨x, y, a, b⟩ = false from hm]
  clear hm
  go_enter Tryz.func124, Tryz.ntmps124
  go_wp2_with (first | (go_at_call 155; (with_reducible refine (A.out _).mono ?_); rintro e w1 ⟨rfl, rfl⟩) | (go_at_call 155; (with_reducible refine (B.out _).mono ?_); rintro e w2 ⟨rfl, rfl⟩) | (go_at_call 156; (with_reducible refine (C.out _).mono ?_); rintro e w3 ⟨rfl, rfl⟩) | (go_at_call 156; (with_reducible refine (D.out _).mono ?_); rintro e w4 ⟨rfl, rfl⟩))
  all_goals (go_ret; exact ⟨rfl, (by repeat (first | exact Below.refl _ _ | assumption | refine Below.drew ?_ | refine Below.alloc ?_ (by (try simp) <;> omega) _ | refine Below.setCell ?_ (by (try simp) <;> omega) _))⟩)
 obtain ⟨x1, x2⟩ := inB_iff.1 h1
 obtain ⟨y1, y2⟩ := inB_iff.1 h2
 obtain ⟨a1, a2⟩ := sdB_iff.1 h3
 obtain ⟨b1, b2⟩ := sdB_iff.1 h4
 by_cases h5 : max (x + a) (y + b) ≤ 16384
 ·have hm : mayR ⟨x, y, a, b⟩ = true := by simp [mayR, spanB, h1, h2, h3, h4]; omega
  have h6 : x + a ≤ 16384 ∧ y + b ≤ 16384 := by omega
  obtain ⟨h7, h8⟩ := h6
  have g : decide (max (x + a) (y + b) ≤ 16384) = true := by simpa using h5
  rw [h1] at A
  rw [h2] at B
  rw [h3] at C
  rw [h4] at D
  replace A := Lib.hid A
  replace B := Lib.hid B
  replace C := Lib.hid C
  replace D := Lib.hid D
  rw [show mayR ⟨x, y, a, b⟩ = true from hm]
  clear hm
  go_enter Tryz.func124, Tryz.ntmps124
  go_wp2_with (first | (go_at_call 155; (with_reducible refine (A.out _).mono ?_); rintro e w1 ⟨rfl, rfl⟩) | (go_at_call 155; (with_reducible refine (B.out _).mono ?_); rintro e w2 ⟨rfl, rfl⟩) | (go_at_call 156; (with_reducible refine (C.out _).mono ?_); rintro e w3 ⟨rfl, rfl⟩) | (go_at_call 156; (with_reducible refine (D.out _).mono ?_); rintro e w4 ⟨rfl, rfl⟩))
  all_goals (go_ret; exact ⟨rfl, (by repeat (first | exact Below.refl _ _ | assumption | refine Below.drew ?_ | refine Below.alloc ?_ (by (try simp) <;> omega) _ | refine Below.setCell ?_ (by (try simp) <;> omega) _))⟩)
 ·have hm : mayR ⟨x, y, a, b⟩ = false := by simp [mayR, spanB, h1, h2, h3, h4]; omega
  have g : decide (max (x + a) (y + b) ≤ 16384) = false := by simpa using h5
  rw [h1] at A
  rw [h2] at B
  rw [h3] at C
  rw [h4] at D
  replace A := Lib.hid A
  replace B := Lib.hid B
  replace C := Lib.hid C
  replace D := Lib.hid D
  rw [show mayR ⟨x, y, a, b⟩ = false from hm]
  clear hm
  go_enter Tryz.func124, Tryz.ntmps124
  go_wp2_with (first | (go_at_call 155; (with_reducible refine (A.out _).mono ?_); rintro e w1 ⟨rfl, rfl⟩) | (go_at_call 155; (with_reducible refine (B.out _).mono ?_); rintro e w2 ⟨rfl, rfl⟩) | (go_at_call 156; (with_reducible refine (C.out _).mono ?_); rintro e w3 ⟨rfl, rfl⟩) | (go_at_call 156; (with_reducible refine (D.out _).mono ?_); rintro e w4 ⟨rfl, rfl⟩))
  all_goals (go_ret; exact ⟨rfl, (by repeat (first | exact Below.refl _ _ | assumption | refine Below.drew ?_ | refine Below.alloc ?_ (by (try simp) <;> omega) _ | refine Below.setCell ?_ (by (try simp) <;> omega) _))⟩)
end
section
set_option linter.unusedSimpArgs false
set_option linter.unusedVariables false
structure Co where
  r : Int
  g : Int
  b : Int
  a : Int
structure St where
  kind : Int
  rect : Re
  col : Co
  back : Co
  text : ByteArray
  node : Int
instance : Inhabited St := ⟨⟨0, default, ⟨0, 0, 0, 0⟩, ⟨0, 0, 0, 0⟩, default, 0⟩⟩
def Co.Wf (c : Co) : Prop := U8 c.r ∧ U8 c.g ∧ U8 c.b ∧ U8 c.a
def Co.enc (c : Co) : List Value := [.int .u8 c.r, .int .u8 c.g, .int .u8 c.b, .int .u8 c.a]
def Re.enc (q : Re) : List Value := [.int .i64 q.x, .int .i64 q.y, .int .i64 q.wd, .int .i64 q.ht]
def St.enc (s : St) : List Value := [.int .u8 s.kind] ++ s.rect.enc ++ s.col.enc ++ s.back.enc ++ [.string s.text, .int .i64 s.node]
def St.Wf (s : St) : Prop := U8 s.kind ∧ s.rect.Wf ∧ s.col.Wf ∧ s.back.Wf ∧ s.text.size ≤ maxLen ∧ I64 s.node
section
variable {H : Type} {enc : TypeId × Value → H} {w : World} {base : Nat} {spare : Nat → Bool} {held : Bool}
theorem field_of {P : Program} {t : TypeId} {fs : Array Field} {fuel : Nat} {cs : List Value} {x : DataW H × List MemPlace} (hs : P.underlying t = some (.struct fs)) (h : DataW.trod enc P w base spare held fuel t cs = some x)
    (j off k : Nat) (ty : TypeId) (f : Field) (hj : fs[j]? = some f) (ht : f.type = ty) (ho : f.offset = off) (hk : P.cellsOf ty = k) : ∃ (n : Nat) (y : DataW H × List MemPlace), DataW.trod enc P w base spare held n ty ((cs.drop off).take k) = some y := by
  subst ht
  subst ho
  subst hk
  obtain ⟨ys, n, _, _, _, hyl, hf⟩ := DataW.trod_struct hs h
  have h1 := hf j f hj
  have hjl : j < fs.size := (Array.getElem?_eq_some_iff.1 hj).1
  exact ⟨n, _, h1.trans (List.getElem?_eq_getElem (by omega))⟩
theorem colour_of {fuel : Nat} {c0 c1 c2 c3 : Value} {x : DataW H × List MemPlace} (h : DataW.trod enc Tryz.prog w base spare held fuel 44 [c0, c1, c2, c3] = some x) : ∃ c : Co, c.Wf ∧ [c0, c1, c2, c3] = c.enc := by
  obtain ⟨m0, y0, h0⟩ := field_of Tryz.underlying44 h 0 0 1 5 _ rfl rfl rfl (by kernel_rfl)
  obtain ⟨m1, y1, h1⟩ := field_of Tryz.underlying44 h 1 1 1 5 _ rfl rfl rfl (by kernel_rfl)
  obtain ⟨m2, y2, h2⟩ := field_of Tryz.underlying44 h 2 2 1 5 _ rfl rfl rfl (by kernel_rfl)
  obtain ⟨m3, y3, h3⟩ := field_of Tryz.underlying44 h 3 3 1 5 _ rfl rfl rfl (by kernel_rfl)
  simp only [List.drop_zero, List.drop_succ_cons, List.take_succ_cons, List.take_zero] at h0 h1 h2 h3
  obtain ⟨n0, e0, z0, wf0⟩ := DataW.trod_int Tryz.underlying5 h0; simp at e0; subst e0
  obtain ⟨n1, e1, z1, wf1⟩ := DataW.trod_int Tryz.underlying5 h1; simp at e1; subst e1
  obtain ⟨n2, e2, z2, wf2⟩ := DataW.trod_int Tryz.underlying5 h2; simp at e2; subst e2
  obtain ⟨n3, e3, z3, wf3⟩ := DataW.trod_int Tryz.underlying5 h3; simp at e3; subst e3
  exact ⟨⟨n0, n1, n2, n3⟩, ⟨u8_of wf0, u8_of wf1, u8_of wf2, u8_of wf3⟩, rfl⟩
theorem point_of {fuel : Nat} {c0 c1 : Value} {x : DataW H × List MemPlace} (h : DataW.trod enc Tryz.prog w base spare held fuel 40 [c0, c1] = some x) : ∃ a b : Int, I64 a ∧ I64 b ∧ c0 = .int .i64 a ∧ c1 = .int .i64 b := by
  obtain ⟨m0, y0, h0⟩ := field_of Tryz.underlying40 h 0 0 1 3 _ rfl rfl rfl (by kernel_rfl)
  obtain ⟨m1, y1, h1⟩ := field_of Tryz.underlying40 h 1 1 1 3 _ rfl rfl rfl (by kernel_rfl)
  simp only [List.drop_zero, List.drop_succ_cons, List.take_succ_cons, List.take_zero] at h0 h1
  obtain ⟨n0, e0, z0, wf0⟩ := DataW.trod_int Tryz.underlying3 h0; simp at e0; subst e0
  obtain ⟨n1, e1, z1, wf1⟩ := DataW.trod_int Tryz.underlying3 h1; simp at e1; subst e1
  exact ⟨n0, n1, i64_of wf0, i64_of wf1, rfl, rfl⟩
theorem size_of {fuel : Nat} {c0 c1 : Value} {x : DataW H × List MemPlace} (h : DataW.trod enc Tryz.prog w base spare held fuel 23 [c0, c1] = some x) : ∃ a b : Int, I64 a ∧ I64 b ∧ c0 = .int .i64 a ∧ c1 = .int .i64 b := by
  obtain ⟨m0, y0, h0⟩ := field_of Tryz.underlying23 h 0 0 1 3 _ rfl rfl rfl (by kernel_rfl)
  obtain ⟨m1, y1, h1⟩ := field_of Tryz.underlying23 h 1 1 1 3 _ rfl rfl rfl (by kernel_rfl)
  simp only [List.drop_zero, List.drop_succ_cons, List.take_succ_cons, List.take_zero] at h0 h1
  obtain ⟨n0, e0, z0, wf0⟩ := DataW.trod_int Tryz.underlying3 h0; simp at e0; subst e0
  obtain ⟨n1, e1, z1, wf1⟩ := DataW.trod_int Tryz.underlying3 h1; simp at e1; subst e1
  exact ⟨n0, n1, i64_of wf0, i64_of wf1, rfl, rfl⟩
end
end
section
set_option linter.unusedSimpArgs false
set_option linter.unusedVariables false
def eq4 (a b c d a' b' c' d' : Int) : Bool := (a == a') && ((b == b') && ((c == c') && (d == d')))
theorem eq4_iff {a b c d a' b' c' d' : Int} : eq4 a b c d a' b' c' d' = true ↔ a = a' ∧ b = b' ∧ c = c' ∧ d = d' := by
  simp [eq4]
def Re.eqb (p q : Re) : Bool := eq4 p.x p.y p.wd p.ht q.x q.y q.wd q.ht
def Co.eqb (p q : Co) : Bool := eq4 p.r p.g p.b p.a q.r q.g q.b q.a
def St.eqb (s t : St) : Bool := (s.kind == t.kind) && (s.rect.eqb t.rect && (s.col.eqb t.col && (s.back.eqb t.back && ((s.text.toList == t.text.toList) && (s.node == t.node)))))
def Co.none : Co := ⟨0, 0, 0, 0⟩
def Re.none : Re := ⟨0, 0, 0, 0⟩
theorem eq_colour (d : Nat) (w : World) (a b c e a' b' c' e' : Int) : (Op.equalIn (d + 2) 44 (.agg #[.int .u8 (a), .int .u8 (b), .int .u8 (c), .int .u8 (e)]) (.agg #[.int .u8 (a'), .int .u8 (b'), .int .u8 (c'), .int .u8 (e')])).run Tryz.prog w = .ok (eq4 a b c e a' b' c' e') w := by
  unfold eq4
  have A := Tryz.underlying44
  have B := Tryz.underlying5
  rw [run_equalIn_agg w (d + 1) _ _ _ (by simp [Program.fieldsOf, A]) (by kernel_rfl)]
  simp only [Program.fieldsOf, A]
  by_cases h0 : a = a' <;> by_cases h1 : b = b' <;> by_cases h2 : c = c' <;> by_cases h3 : e = e' <;> simp [Op.eqFields, part, isAgg, run_underlying B, run_equalIn_int _ _ _ _ _ _ _ B, h0, h1, h2, h3]

theorem eq_point (d : Nat) (w : World) (a b a' b' : Int) : (Op.equalIn (d + 2) 40 (.agg #[.int .i64 a, .int .i64 b]) (.agg #[.int .i64 a', .int .i64 b'])).run Tryz.prog w = .ok ((a == a') && (b == b')) w := by
  have A := Tryz.underlying40
  have B := Tryz.underlying3
  rw [run_equalIn_agg w (d + 1) _ _ _ (by simp [Program.fieldsOf, A]) (by kernel_rfl)]
  simp only [Program.fieldsOf, A]
  by_cases h0 : a = a' <;> by_cases h1 : b = b' <;> simp [Op.eqFields, part, isAgg, run_underlying B, run_equalIn_int _ _ _ _ _ _ _ B, h0, h1]
theorem eq_size (d : Nat) (w : World) (a b a' b' : Int) : (Op.equalIn (d + 2) 23 (.agg #[.int .i64 a, .int .i64 b]) (.agg #[.int .i64 a', .int .i64 b'])).run Tryz.prog w = .ok ((a == a') && (b == b')) w := by
  have A := Tryz.underlying23
  have B := Tryz.underlying3
  rw [run_equalIn_agg w (d + 1) _ _ _ (by simp [Program.fieldsOf, A]) (by kernel_rfl)]
  simp only [Program.fieldsOf, A]
  by_cases h0 : a = a' <;> by_cases h1 : b = b' <;> simp [Op.eqFields, part, isAgg, run_underlying B, run_equalIn_int _ _ _ _ _ _ _ B, h0, h1]
theorem eq_rect (d : Nat) (w : World) (a b c e a' b' c' e' : Int) : (Op.equalIn (d + 3) 42 (.agg #[.int .i64 a, .int .i64 b, .int .i64 c, .int .i64 e]) (.agg #[.int .i64 a', .int .i64 b', .int .i64 c', .int .i64 e'])).run Tryz.prog w = .ok (eq4 a b c e a' b' c' e') w := by
  unfold eq4
  have A := Tryz.underlying42
  have B := Tryz.underlying40
  have C := Tryz.underlying23
  rw [run_equalIn_agg w (d + 2) _ _ _ (by simp [Program.fieldsOf, A]) (by kernel_rfl)]
  simp only [Program.fieldsOf, A]
  have e1 := fun w => eq_point d w a b a' b'
  have e2 := fun w => eq_size d w c e c' e'
  have z1 : Tryz.prog.cellsOf 40 = 2 := by kernel_rfl
  have z2 : Tryz.prog.cellsOf 23 = 2 := by kernel_rfl
  have y1 : Tryz.t40.size = 2 := by kernel_rfl
  have y2 : Tryz.t23.size = 2 := by kernel_rfl
  generalize (a == a') = b0 at *
  generalize (b == b') = b1 at *
  generalize (c == c') = b2 at *
  generalize (e == e') = b3 at *
  simp [Op.eqFields, part, isAgg, run_underlying B, run_underlying C, sizeOf, z1, z2, y1, y2, e1, e2]
  cases b0 <;> cases b1 <;> cases b2 <;> cases b3 <;> simp
theorem eq_stroke (d : Nat) (w : World) (s t : St) : (Op.equalIn (d + 4) 46 (.agg #[.int .u8 (s).kind, .int .i64 ((s).rect).x, .int .i64 ((s).rect).y, .int .i64 ((s).rect).wd, .int .i64 ((s).rect).ht, .int .u8 ((s).col).r, .int .u8 ((s).col).g, .int .u8 ((s).col).b, .int .u8 ((s).col).a, .int .u8 ((s).back).r, .int .u8 ((s).back).g, .int .u8 ((s).back).b, .int .u8 ((s).back).a, .string (s).text, .int .i64 (s).node]) (.agg #[.int .u8 (t).kind, .int .i64 ((t).rect).x, .int .i64 ((t).rect).y, .int .i64 ((t).rect).wd, .int .i64 ((t).rect).ht, .int .u8 ((t).col).r, .int .u8 ((t).col).g, .int .u8 ((t).col).b, .int .u8 ((t).col).a, .int .u8 ((t).back).r, .int .u8 ((t).back).g, .int .u8 ((t).back).b, .int .u8 ((t).back).a, .string (t).text, .int .i64 (t).node])).run Tryz.prog w = .ok (s.eqb t) w := by
 unfold St.eqb Re.eqb Co.eqb
 have A := Tryz.underlying46
 have K := Tryz.underlying5
 have I := Tryz.underlying3
 have S := Tryz.underlying9
 have B := Tryz.underlying42
 have C := Tryz.underlying44
 rw [run_equalIn_agg w (d + 3) _ _ _ (by simp [Program.fieldsOf, A]) (by kernel_rfl)]
 simp only [Program.fieldsOf, A]
 have z1 : Tryz.prog.cellsOf 42 = 4 := by kernel_rfl
 have z2 : Tryz.prog.cellsOf 44 = 4 := by kernel_rfl
 have y1 : Tryz.t42.size = 4 := by kernel_rfl
 have y2 : Tryz.t44.size = 4 := by kernel_rfl
 have E0 : ∀ w a b, (Op.equalIn (d + 3) 5 (.int .u8 a) (.int .u8 b)).run Tryz.prog w = .ok (a == b) w := fun w a b => run_equalIn_int w (d + 2) _ _ _ a b K
 have E1 : ∀ w a b, (Op.equalIn (d + 3) 3 (.int .i64 a) (.int .i64 b)).run Tryz.prog w = .ok (a == b) w := fun w a b => run_equalIn_int w (d + 2) _ _ _ a b I
 have E2 : ∀ w a b, (Op.equalIn (d + 3) 9 (.string a) (.string b)).run Tryz.prog w = .ok (a.toList == b.toList) w := fun w a b => run_equalIn_string w (d + 2) _ a b S
 have E3 := eq_rect d
 have E4 := eq_colour (d + 1)
 generalize hb0 : (s.kind == t.kind) = b0
 generalize hb1 : eq4 s.rect.x s.rect.y s.rect.wd s.rect.ht t.rect.x t.rect.y t.rect.wd t.rect.ht = b1
 generalize hb2 : eq4 s.col.r s.col.g s.col.b s.col.a t.col.r t.col.g t.col.b t.col.a = b2
 generalize hb3 : eq4 s.back.r s.back.g s.back.b s.back.a t.back.r t.back.g t.back.b t.back.a = b3
 generalize hb4 : (s.text.toList == t.text.toList) = b4
 generalize hb5 : (s.node == t.node) = b5
 simp only [Op.eqFields, Sem.run_bind, Sem.run_ite, part, isAgg, run_underlying K, run_underlying I, run_underlying S, run_underlying B, run_underlying C]
 simp [sizeOf, z1, z2, y1, y2, E0, E1, E2, E3, E4, hb0, hb1, hb2, hb3, hb4, hb5]
 cases b0 <;> cases b1 <;> cases b2 <;> cases b3 <;> cases b4 <;> cases b5 <;> simp
end
section
set_option linter.unusedSimpArgs false
/-- Spans of a row: (from, to), from the left, none beside another one. -/
abbrev Sp := Int × Int
def InS (l : List Sp) (x : Int) : Prop := ∃ s ∈ l, s.1 ≤ x ∧ x < s.2
def CanS : List Sp → Prop
  | [] => True
  | [s] => s.1 < s.2
  | s :: t :: r => s.1 < s.2 ∧ s.2 < t.1 ∧ CanS (t :: r)
theorem CanS.tail {s : Sp} {r : List Sp} (h : CanS (s :: r)) : CanS r := by
  cases r with
  | nil => trivial
  | cons t r => exact h.2.2
theorem CanS.pos {s : Sp} {r : List Sp} (h : CanS (s :: r)) : s.1 < s.2 := by
  cases r with
  | nil => exact h
  | cons t r => exact h.1
theorem InS.nil (x : Int) : ¬ InS [] x := by simp [InS]
theorem InS.cons {s : Sp} {r : List Sp} {x : Int} : InS (s :: r) x ↔ (s.1 ≤ x ∧ x < s.2) ∨ InS r x := by
  simp [InS]
/-! ### rising lists -/
def Rise : List Int → Prop
  | [] => True
  | [_] => True
  | a :: b :: r => a < b ∧ Rise (b :: r)
theorem Rise.tail {a : Int} {r : List Int} (h : Rise (a :: r)) : Rise r := by
  cases r with
  | nil => trivial
  | cons b r => exact h.2
theorem Rise.mk {a : Int} {r : List Int} (h : Rise r) (ha : ∀ x ∈ r, a < x) : Rise (a :: r) := by
  cases r with
  | nil => trivial
  | cons b r => exact ⟨ha b (by simp), h⟩
/-! ### what is wanted between edges -/
/-! ### rectangles as sets of places (those that may be: sides not below 0) -/
def hasR (q : Re) (x y : Int) : Bool := decide (q.x ≤ x) && decide (x < q.x + q.wd) && decide (q.y ≤ y) && decide (y < q.y + q.ht)
def noneR (q : Re) : Bool := decide (q.wd = 0) || decide (q.ht = 0)
/-! ### the program's way: rows merged, mixed -/
/-! ### bands -/
/-! ### the document's way with bands -/
/-! ### areas -/
/-! ### rows alone -/
end
section
set_option linter.unusedSimpArgs false
/-! ### forms as sets of places -/
abbrev Bd := Int × Int × List Sp
def OnB (l : List Bd) (x z : Int) : Prop := ∃ t ∈ l, t.1 ≤ z ∧ z < t.1 + t.2.1 ∧ InS t.2.2 x
def GoodB (t : Bd) : Prop := 0 < t.2.1 ∧ t.2.2 ≠ [] ∧ CanS t.2.2
def CanB : List Bd → Prop
  | [] => True
  | [t] => GoodB t
  | t :: u :: r => GoodB t ∧ t.1 + t.2.1 ≤ u.1 ∧ (t.1 + t.2.1 = u.1 → t.2.2 ≠ u.2.2) ∧ CanB (u :: r)
theorem CanB.tail {t : Bd} {r : List Bd} (h : CanB (t :: r)) : CanB r := by
  cases r with
  | nil => trivial
  | cons u r => exact h.2.2.2
theorem OnB.nil (x z : Int) : ¬ OnB [] x z := by simp [OnB]
theorem OnB.cons {t : Bd} {r : List Bd} {x z : Int} : OnB (t :: r) x z ↔ (t.1 ≤ z ∧ z < t.1 + t.2.1 ∧ InS t.2.2 x) ∨ OnB r x z := by simp [OnB]
theorem OnB.append {l m : List Bd} {x z : Int} : OnB (l ++ m) x z ↔ OnB l x z ∨ OnB m x z := by
  unfold OnB
  simp only [List.mem_append]
  constructor
  · rintro ⟨t, h | h, h'⟩
    · exact .inl ⟨t, h, h'⟩
    · exact .inr ⟨t, h, h'⟩
  · rintro (⟨t, h, h'⟩ | ⟨t, h, h'⟩)
    · exact ⟨t, .inl h, h'⟩
    · exact ⟨t, .inr h, h'⟩
theorem CanS.some {l : List Sp} (h : CanS l) (hn : l ≠ []) : ∃ x, InS l x := by
  cases l with
  | nil => exact absurd rfl hn
  | cons s r => exact ⟨s.1, InS.cons.2 (.inl ⟨Int.le_refl _, h.pos⟩)⟩
/-! ### how many rectangles a form has -/
end
section
set_option linter.unusedSimpArgs false
/-! ### ends lie among the edges -/
def MayL (l : List Re) : Prop := ∀ q ∈ l, mayR q = true
theorem MayL.append {a b : List Re} (ha : MayL a) (hb : MayL b) : MayL (a ++ b) := fun q hq => by
  rcases List.mem_append.1 hq with h | h
  · exact ha q h
  · exact hb q h
/-! ### areas as numbers of places -/
/-! ### moved -/
theorem eqb_iff {p q : Re} : p.eqb q = true ↔ p = q := by
  unfold Re.eqb
  rw [eq4_iff]
  cases p; cases q; simp
end
end Go.Proofs.YtffmomgmkpmpkaaGreatDoor

namespace Go.Proofs.YtffmomgmkpmpkaaGreatDoor
open Go.RowKit
set_option linter.unusedVariables false
attribute [local go_sem] vwp vUpon_value vUpon_skip vUpon_enter vUpon_row
set_option linter.unusedSimpArgs false
set_option linter.unusedVariables false
section
set_option linter.unusedSimpArgs false
set_option linter.unusedVariables false
theorem flat_len {α : Type} {enc : α → List Value} {sz : Nat} (he : ∀ y, (enc y).length = sz) (ys : List α) : (ys.flatMap enc).length = ys.length * sz := by
  induction ys with
  | nil => simp
  | cons y ys ih => rw [List.flatMap_cons, List.length_append, ih, he, List.length_cons, Nat.add_mul]; omega
theorem flat_get {α : Type} {enc : α → List Value} {sz : Nat} (he : ∀ y, (enc y).length = sz) (hsz : 0 < sz) : ∀ (ys : List α) (p : Nat), (ys.flatMap enc)[p]? = (ys[p / sz]?).bind (fun y => (enc y)[p % sz]?)
  | [], p => by simp
  | y :: ys, p => by
    rw [List.flatMap_cons]
    by_cases hp : p < sz
    · rw [List.getElem?_append_left (by rw [he]; exact hp), Nat.div_eq_of_lt hp, Nat.mod_eq_of_lt hp]; rfl
    · rw [List.getElem?_append_right (by rw [he]; omega), he, flat_get he hsz ys (p - sz)]
      obtain ⟨q, rfl⟩ : ∃ q, p = q + sz := ⟨p - sz, by omega⟩
      rw [Nat.add_sub_cancel, Nat.add_div_right _ hsz, Nat.add_mod_right]
      rfl
theorem row_flat {α : Type} {enc : α → List Value} {sz B : Nat} {w : World} {v : Value} {xs : List α} (he : ∀ y, (enc y).length = sz) (hsz : 0 < sz) (h : Row B sz enc w v xs) (h0 : 0 < xs.length) :
    ∃ b o cap, v = .slice (some ⟨b, o, none⟩) xs.length cap ∧ b < B ∧ ∀ p u, (xs.flatMap enc)[p]? = some u → w.cell? ⟨b, o + p, none⟩ = some u := by
  obtain ⟨b, o, cap, e, hb, _, _, hx⟩ := h.open_ h0
  refine ⟨b, o, cap, e, hb, fun p u hp => ?_⟩
  rw [flat_get he hsz] at hp
  cases hm : xs[p / sz]? with
  | none => rw [hm] at hp; cases hp
  | some m =>
    rw [hm] at hp
    have := hx _ m hm _ u hp
    rwa [Nat.add_assoc, Nat.mul_comm, Nat.div_add_mod] at this
theorem run_append_none {P : Program} {w : World} (base : Nat) (t ty e : TypeId) (i : TypeInfo) (size : Nat) (ht : P.underlying t = some (.slice e)) (hi : P.info? e = some i)
    (v : Value) (n c : Nat) (xs : List Value) (hown : w.ownsRow base e size v n xs) :
    (Builtin.append_ #[t, t] ty #[v, .slice none 0 c]).run P w = .ok v w := by
  rcases hown.2 with ⟨rfl, rfl⟩ | ⟨g, cap, cur, rfl, _, _, hnc, _⟩
  · simp [Builtin.append_, run_underlying ht, sizeOf, typeInfo, hi, Builtin.lenOf, Builtin.firstCells]
  · simp [Builtin.append_, run_underlying ht, sizeOf, typeInfo, hi, Builtin.lenOf, Builtin.firstCells, hnc, storeCells]
theorem grown_refl (w : World) (o : Option Nat) : w.grownBy w o := ⟨rfl, rfl, rfl, Nat.le_refl _, fun _ _ _ => rfl⟩
theorem wpList_append_row {P : Program} {ops : Array Oper} {rest : List Oper} {o : Oper} {a : Act} {Q : Exit → Act → World → Prop} (hgd : o.guard = none) (s x : Operand) (t : TypeId)
  (ho : o.op = .call { callee := .builtin .append, args := #[s, x], argTypes := #[t, t] })
  (base : Nat) (e : TypeId) (i : TypeInfo) (z : Value) (size bytes : Nat) (ht : P.underlying t = some (.slice e)) (hi : P.info? e = some i) (hz : i.zero = some z)
  (hsize : i.size = size) (hby : i.bytes = bytes) (hzs : z.cells.size = size) (hsz : 0 < size)
  (w : World) (v : Value) (n : Nat) (xs : List Value) (hs : a.eval s = v) (hown : w.ownsRow base e size v n xs)
  {α : Type} {enc : α → List Value} (he : ∀ y, (enc y).length = size) (h1 : ∀ y, ∀ u ∈ enc y, u.oneCell' = true) (B : Nat) (vx : Value) (ys : List α) (hrow : Row B size enc w vx ys) (hx : a.eval x = vx)
  (h63 : n + ys.length ≤ maxLen) (hbytes : (n + ys.length) * bytes ≤ 140737488355328) (hbase : base ≤ w.heap.size)
  (h : ∀ v' w', w'.ownsRow base e size v' (n + ys.length) (xs ++ ys.flatMap enc) → w.grownBy w' v.ownBlock → wpList P ops Q rest (a.put o.dst v') w') :
  wpList P ops Q (o :: rest) a w := by
 have hone : ∀ u ∈ ys.flatMap enc, u.oneCell' = true := by
  intro u hu
  obtain ⟨y, _, hy⟩ := List.mem_flatMap.1 hu
  exact h1 y u hy
 rcases Nat.eq_zero_or_pos ys.length with h0 | h0
 ·have hy : ys = [] := List.length_eq_zero_iff.1 h0
  subst hy
  obtain ⟨s0, cap, rfl, hl, hc, _⟩ := hrow
  cases s0 with
  | none =>
   refine wpList_plain hgd fun K hK => ?_
   have hrun := run_append_none (P := P) (w := w) base t o.type e i size ht hi v n cap xs hown
   unfold Oper.wp
   simp [execOp, ho, resolve, invoke, builtin, hs, hx, hrun, Result.andThen]
   exact hK _ _ (h v w (by simpa using hown) (grown_refl _ _))
  | some ad =>
   refine wpList_append_own _ hgd s x t ho base e i z size bytes ht hi hz hsize hby hzs hsz v n xs hs hown ad 0 cap [] (by simpa using hx) (by simp) (fun j u hj => by simp at hj) (fun u hu => by simp at hu) (by simpa using h63) (by simpa using hbytes) hbase (fun v' w' h2 h3 _ => h v' w' (by simpa using h2) h3)
 ·obtain ⟨b, o', cap, rfl, hb, hc⟩ := row_flat he hsz hrow h0
  refine wpList_append_own _ hgd s x t ho base e i z size bytes ht hi hz hsize hby hzs hsz v n xs hs hown ⟨b, o', none⟩ ys.length cap (ys.flatMap enc) hx (flat_len he ys) (fun j u hj => ?_) hone h63 hbytes hbase (fun v' w' h2 h3 _ => h v' w' h2 h3)
  rw [show (⟨b, o', none⟩ : Addr).add j = ⟨b, o' + j, none⟩ by unfold Addr.add; split <;> simp_all]
  exact hc j u hj
theorem flat_set {α : Type} {enc : α → List Value} {sz : Nat} (he : ∀ y, (enc y).length = sz) (i : Nat) (u : Value) (y y' : α) (hi : i < sz) (h : (enc y).set i u = enc y') : ∀ (ys : List α) (k : Nat), ys[k]? = some y → (ys.flatMap enc).set (k * sz + i) u = (ys.set k y').flatMap enc
  | [], k, hk => by simp at hk
  | z :: ys, 0, hk => by
    simp at hk; subst hk
    rw [List.flatMap_cons, List.set_cons_zero, List.flatMap_cons, List.set_append, if_pos (by rw [he]; omega), Nat.zero_mul, Nat.zero_add, h]
  | z :: ys, k + 1, hk => by
    rw [List.flatMap_cons, List.set_cons_succ, List.flatMap_cons, List.set_append, if_neg (by rw [he, Nat.add_mul]; omega), he, ← flat_set he i u y y' hi h ys k (by simpa using hk)]
    congr 2
    rw [Nat.add_mul]; omega
theorem own_put {w : World} {base g n cap k sz : Nat} {e : TypeId} {cs : List Value} (h : w.ownsRow base e sz (.slice (some ⟨g, 0, none⟩) n cap) n cs) (hk : k < n * sz) (u : Value) : (w.setCell ⟨g, k, none⟩ u).ownsRow base e sz (.slice (some ⟨g, 0, none⟩) n cap) n (cs.set k u) := by
  obtain ⟨hl, h2⟩ := h
  rcases h2 with ⟨h0, _⟩ | ⟨g', cap', cur, hv, hg, hh, hnc, hcm, hcur, htake⟩
  · cases h0
  · injection hv with hv _ hc
    injection hv with hv
    injection hv with hv _ _
    subst hv
    subst hc
    refine ⟨by rw [List.length_set]; exact hl, .inr ⟨g, cap, _, rfl, hg, heap_setCell_same _ _ _ _ _ _ hh, hnc, hcm, by simpa using hcur, ?_⟩⟩
    rw [Array.toList_setIfInBounds, ← htake, List.take_set]
theorem own_slice {w : World} {base : Nat} {e : TypeId} {size n : Nat} {v : Value} {xs : List Value} (h : w.ownsRow base e size v n xs) : ∃ s cap, v = .slice s n cap := by
  rcases h.2 with ⟨rfl, rfl⟩ | ⟨g, cap, cur, rfl, _⟩
  · exact ⟨_, _, rfl⟩
  · exact ⟨_, _, rfl⟩
theorem own_addr {w : World} {base : Nat} {e : TypeId} {size n cap : Nat} {s : Option Addr} {xs : List Value} (h : w.ownsRow base e size (.slice s n cap) n xs) (hn : 0 < n) : ∃ g, s = some ⟨g, 0, none⟩ ∧ base ≤ g ∧ g < w.heap.size := by
  rcases h.2 with ⟨h1, h2⟩ | ⟨g, cap, cur, e, hg, hh, _⟩
  · omega
  · injection e with e _ _
    exact ⟨g, e, hg, lt_of_block hh⟩
theorem Re.enc_len (q : Re) : q.enc.length = 4 := rfl
theorem Re.enc_one (q : Re) : ∀ u ∈ q.enc, u.oneCell' = true := by
  intro u hu
  simp only [Re.enc, List.mem_cons, List.not_mem_nil, or_false] at hu
  rcases hu with rfl | rfl | rfl | rfl <;> rfl
theorem infoRe : (Tryz.prog.info? 42).map (fun i => (i.zero, i.size, i.bytes)) = some (some (.agg #[.int .i64 0, .int .i64 0, .int .i64 0, .int .i64 0]), 4, 32) := by kernel_rfl
/-- A row of the call's own, of rectangles. -/
def OwnsR (base : Nat) (w : World) (v : Value) (rs : List Re) : Prop := w.ownsRow base 42 4 v rs.length (rs.flatMap Re.enc)
theorem OwnsR.row {base B : Nat} {w : World} {v : Value} {rs : List Re} (h : OwnsR base w v rs) (hB : w.heap.size ≤ B) : Row B 4 Re.enc w v rs := Row.own Re.enc_len h hB (by omega)
theorem OwnsR.below {base B : Nat} {w w' : World} {v : Value} {rs : List Re} (h : OwnsR base w v rs) (hb : Below B w w') (hB : w.heap.size ≤ B) : OwnsR base w' v rs := ownsRow_below h hb hB
theorem Blk.ownsR {base g : Nat} {w : World} {rs : List Re} {n : Nat} (h : Blk w g (rs.flatMap Re.enc) 42) (hn : rs.length = n) (hg : base ≤ g) (hm : n ≤ maxLen) : OwnsR base w (.slice (some ⟨g, 0, none⟩) n n) rs := by
  unfold OwnsR
  rw [hn]
  refine ⟨by rw [flat_len Re.enc_len, hn], .inr ⟨g, n, _, rfl, hg, h, Nat.le_refl _, hm, ?_, ?_⟩⟩
  · simp [flat_len Re.enc_len, hn]
  · rw [List.take_of_length_le (by rw [flat_len Re.enc_len, hn]; omega)]
/-- A store elsewhere leaves it. -/
theorem own_other {w : World} {base n sz : Nat} {e : TypeId} {v : Value} {cs : List Value} (h : w.ownsRow base e sz v n cs) {a : Addr} (ha : ∀ g, v.ownBlock = some g → g ≠ a.block) (u : Value) : (w.setCell a u).ownsRow base e sz v n cs := by
  obtain ⟨h1, h2⟩ := h
  refine ⟨h1, ?_⟩
  rcases h2 with h2 | ⟨g, cap, cur, rfl, hg, hh, r⟩
  · exact .inl h2
  · refine .inr ⟨g, cap, cur, rfl, hg, ?_, r⟩
    rw [heap_setCell_other _ _ _ _ (ha g rfl)]
    exact hh
theorem own_block_lt {w : World} {base n sz : Nat} {e : TypeId} {v : Value} {cs : List Value} (h : w.ownsRow base e sz v n cs) : ∀ g, v.ownBlock = some g → base ≤ g ∧ g < w.heap.size := by
  intro g hg
  rcases h.2 with ⟨rfl, _⟩ | ⟨g', cap, cur, rfl, hb, hh, _⟩
  · cases hg
  · simp [Value.ownBlock] at hg
    subst hg
    exact ⟨hb, lt_of_block hh⟩
/-- The cells of one of its rectangles. -/
def RMem (w : World) (b p : Nat) (q : Re) : Prop := w.cell? ⟨b, p, none⟩ = some (.int .i64 q.x) ∧ w.cell? ⟨b, p + 1, none⟩ = some (.int .i64 q.y) ∧ w.cell? ⟨b, p + 2, none⟩ = some (.int .i64 q.wd) ∧ w.cell? ⟨b, p + 3, none⟩ = some (.int .i64 q.ht)
theorem row_re {B : Nat} {w : World} {v : Value} {rs : List Re} (h : Row B 4 Re.enc w v rs) (h0 : 0 < rs.length) :
    ∃ b o cap, v = .slice (some ⟨b, o, none⟩) rs.length cap ∧ b < B ∧ rs.length ≤ cap ∧ cap ≤ maxLen ∧ ∀ j q, rs[j]? = some q → RMem w b (o + j * 4) q := by
  obtain ⟨b, o, cap, e, hb, h1, h2, hx⟩ := h.open_ h0
  exact ⟨b, o, cap, e, hb, h1, h2, fun j s hj => ⟨hx j s hj 0 _ rfl, hx j s hj 1 _ rfl, hx j s hj 2 _ rfl, hx j s hj 3 _ rfl⟩⟩
theorem own_rmem {w : World} {base g n cap k : Nat} {rs : List Re} {q : Re} (h : OwnsR base w (.slice (some ⟨g, 0, none⟩) n cap) rs) (hs : rs[k]? = some q) : RMem w g (k * 4) q := by
  obtain ⟨b, o, cap', e, _, _, _, hx⟩ := row_re (h.row (Nat.le_refl _)) (by have := (List.getElem?_eq_some_iff.1 hs).1; omega)
  injection e with e _ _
  injection e with e
  injection e with e1 e2 _
  subst e1
  subst e2
  have := hx k q hs
  rwa [Nat.zero_add] at this
theorem RMem.below {w w' : World} {b p B : Nat} {q : Re} (h : RMem w b p q) (hb : Below B w w') (hB : b < B) : RMem w' b p q := by
  obtain ⟨g0, g1, g2, g3⟩ := h
  exact ⟨(hb.cell (p := ⟨b, p, none⟩) hB).trans g0, (hb.cell (p := ⟨b, p + 1, none⟩) hB).trans g1, (hb.cell (p := ⟨b, p + 2, none⟩) hB).trans g2, (hb.cell (p := ⟨b, p + 3, none⟩) hB).trans g3⟩
theorem drop_get {α : Type} {l : List α} {k : Nat} {a : α} (h : l[k]? = some a) : l.drop k = a :: l.drop (k + 1) := by
  obtain ⟨hk, e⟩ := List.getElem?_eq_some_iff.1 h
  rw [List.drop_eq_getElem_cons hk, e]
theorem blk_rmem {w : World} {b k : Nat} {D : List Re} {q : Re} {e : TypeId} (h : Blk w b (D.flatMap Re.enc) e) (hq : D[k]? = some q) : RMem w b (k * 4) q := by
  have key : ∀ i u, i < 4 → q.enc[i]? = some u → w.cell? ⟨b, k * 4 + i, none⟩ = some u := by
    intro i u hi hu
    refine h.cell ?_
    rw [flat_get Re.enc_len (by omega)]
    rw [show (k * 4 + i) / 4 = k by omega, show (k * 4 + i) % 4 = i by omega, hq]
    exact hu
  exact ⟨key 0 _ (by omega) rfl, key 1 _ (by omega) rfl, key 2 _ (by omega) rfl, key 3 _ (by omega) rfl⟩
/-! ### spans and numbers -/
def encS (s : Int × Int) : List Value := [.int .i64 s.1, .int .i64 s.2]
theorem encS_len (s : Int × Int) : (encS s).length = 2 := rfl
theorem encI_len (n : Int) : (encI n).length = 1 := rfl
def OwnsS (base : Nat) (w : World) (v : Value) (l : List (Int × Int)) : Prop := w.ownsRow base 213 2 v l.length (l.flatMap encS)
def OwnsI (base : Nat) (w : World) (v : Value) (l : List Int) : Prop := w.ownsRow base 3 1 v l.length (l.flatMap encI)
theorem OwnsS.row {base B : Nat} {w : World} {v : Value} {l : List (Int × Int)} (h : OwnsS base w v l) (hB : w.heap.size ≤ B) : Row B 2 encS w v l := Row.own encS_len h hB (by omega)
theorem OwnsI.row {base B : Nat} {w : World} {v : Value} {l : List Int} (h : OwnsI base w v l) (hB : w.heap.size ≤ B) : Row B 1 encI w v l := Row.own encI_len h hB (by omega)
theorem OwnsS.below {base B : Nat} {w w' : World} {v : Value} {l : List (Int × Int)} (h : OwnsS base w v l) (hb : Below B w w') (hB : w.heap.size ≤ B) : OwnsS base w' v l := ownsRow_below h hb hB
theorem OwnsI.below {base B : Nat} {w w' : World} {v : Value} {l : List Int} (h : OwnsI base w v l) (hb : Below B w w') (hB : w.heap.size ≤ B) : OwnsI base w' v l := ownsRow_below h hb hB
theorem OwnsS.nil (base : Nat) (w : World) : OwnsS base w (.slice none 0 0) [] := World.ownsRow_nil _ _ _ _
theorem OwnsI.nil (base : Nat) (w : World) : OwnsI base w (.slice none 0 0) [] := World.ownsRow_nil _ _ _ _
theorem OwnsR.nil (base : Nat) (w : World) : OwnsR base w (.slice none 0 0) [] := World.ownsRow_nil _ _ _ _
/-- The cells of a span. -/
def SpM (w : World) (b p : Nat) (s : Int × Int) : Prop := w.cell? ⟨b, p, none⟩ = some (.int .i64 s.1) ∧ w.cell? ⟨b, p + 1, none⟩ = some (.int .i64 s.2)
theorem SpM.below {w w' : World} {b p B : Nat} {s : Int × Int} (h : SpM w b p s) (hb : Below B w w') (hB : b < B) : SpM w' b p s := by
  obtain ⟨h0, h1⟩ := h
  exact ⟨(hb.cell (p := ⟨b, p, none⟩) hB).trans h0, (hb.cell (p := ⟨b, p + 1, none⟩) hB).trans h1⟩
theorem get_at {α : Type} {l : List α} {n k : Nat} (hn : l.length = n) (h : k < n) : ∃ x, l[k]? = some x := ⟨l[k]'(by omega), List.getElem?_eq_getElem _⟩
end
section
set_option linter.unusedSimpArgs false
set_option linter.unusedVariables false
theorem may_bd {q : Re} (h : mayR q = true) : -16384 ≤ q.x ∧ q.x ≤ 16384 ∧ -16384 ≤ q.y ∧ q.y ≤ 16384 ∧ 0 ≤ q.wd ∧ q.wd ≤ 32768 ∧ 0 ≤ q.ht ∧ q.ht ≤ 32768 := by
  unfold mayR spanB at h
  simp only [Bool.and_eq_true] at h
  obtain ⟨⟨h1, h2, h3⟩, ⟨h4, h5, h6⟩⟩ := h
  have := inB_iff.1 h1
  have := sdB_iff.1 h2
  have := inB_iff.1 h4
  have := sdB_iff.1 h5
  omega
def areaR (q : Re) : Int := if mayR q then q.wd * q.ht else 0
def emptyR (q : Re) : Bool := areaR q == 0
theorem full_bd {q : Re} (h : emptyR q = false) : mayR q = true ∧ 0 < q.wd ∧ 0 < q.ht := by
  unfold emptyR areaR at h
  cases hm : mayR q
  · rw [hm] at h; simp at h
  · rw [hm] at h
    have := may_bd hm
    simp at h
    exact ⟨rfl, by omega, by omega⟩
theorem may_sum {q : Re} (h : mayR q = true) : q.x + q.wd ≤ 16384 ∧ q.y + q.ht ≤ 16384 := by
  unfold mayR spanB at h
  simp only [Bool.and_eq_true, decide_eq_true_eq] at h
  exact ⟨h.1.2.2, h.2.2.2⟩
theorem may_wf {q : Re} (h : mayR q = true) : q.Wf := by
  have := may_bd h
  unfold Re.Wf I64
  omega
theorem area_any (q : Re) (w : World) (hq : q.Wf) : Calls Tryz.prog 89 #[.agg #[.int .i64 (q).x, .int .i64 (q).y, .int .i64 (q).wd, .int .i64 (q).ht]] w fun e w' => e = .returned (.int .i64 (areaR q)) ∧ Below w.heap.size w w' := by
  have A := fun w => gcheck_any q w hq
  obtain ⟨x, y, a, b⟩ := q
  unfold areaR
  simp only at A ⊢
  cases hm : mayR ⟨x, y, a, b⟩
  · rw [hm] at A
    replace A := Lib.hid A
    clear hq hm
    go_enter Tryz.func89, Tryz.ntmps89
    go_wp2_with (first | (go_at_call 124; (with_reducible refine (A.out _).mono ?_); rintro e w1 ⟨rfl, hb1⟩) | go_in)
    go_ret
    exact ⟨rfl, belt⟩
  · have hb := may_bd hm
    obtain ⟨_, _, _, _, a0, a1, b0, b1⟩ := hb
    simp only at a0 a1 b0 b1
    rw [hm] at A
    replace A := Lib.hid A
    have m0 : 0 ≤ a * b := Int.mul_nonneg a0 b0
    have m1 : a * b ≤ 1073741824 := by have := Int.mul_le_mul a1 b1 b0 (by omega); omega
    clear hq hm
    go_enter Tryz.func89, Tryz.ntmps89
    go_wp2_with (first | (go_at_call 124; (with_reducible refine (A.out _).mono ?_); rintro e w1 ⟨rfl, hb1⟩; obtain ⟨hc1, hf1⟩ := bcell hb1; have z1 := hb1.size; (try simp at z1); have l1 : w.heap.size < w1.heap.size := (by omega)) | go_in)
    go_ret
    exact ⟨rfl, belt⟩
theorem empty_any (q : Re) (w : World) (hq : q.Wf) : Calls Tryz.prog 43 #[.agg #[.int .i64 (q).x, .int .i64 (q).y, .int .i64 (q).wd, .int .i64 (q).ht]] w fun e w' => e = .returned (.bool (emptyR q)) ∧ Below w.heap.size w w' := by
  have A := fun w => area_any q w hq
  obtain ⟨x, y, a, b⟩ := q
  unfold emptyR
  simp only at A ⊢
  generalize areaR ⟨x, y, a, b⟩ = k at *
  replace A := Lib.hid A
  clear hq
  go_enter Tryz.func43, Tryz.ntmps43
  go_wp2_with (first | (go_at_call 89; (with_reducible refine (A.out _).mono ?_); rintro e w1 ⟨rfl, hb1⟩) | go_in)
  go_ret
  exact ⟨rfl, belt⟩
theorem ends_any (q : Re) (w : World) (hq : mayR q = true) : Calls Tryz.prog 87 #[.agg #[.int .i64 (q).x, .int .i64 (q).y, .int .i64 (q).wd, .int .i64 (q).ht]] w fun e w' => e = .returned (.tuple #[.int .i64 (q.x + q.wd), .int .i64 (q.y + q.ht)]) ∧ Below w.heap.size w w' := by
 have hb := may_bd hq
 obtain ⟨x, y, a, b⟩ := q
 obtain ⟨x0, x1, y0, y1, a0, a1, b0, b1⟩ := hb
 simp only at x0 x1 y0 y1 a0 a1 b0 b1 ⊢
 clear hq
 go_enter Tryz.func87, Tryz.ntmps87
 go_wp2
 refine wp_region_steady (Held w 1 [(⟨w.heap.size, 0, none⟩, .int .i64 x), (⟨w.heap.size, 1, none⟩, .int .i64 y), (⟨w.heap.size, 2, none⟩, .int .i64 a), (⟨w.heap.size, 3, none⟩, .int .i64 b)]) (by kernel_rfl) (by kernel_rfl) ⟨(by repeat (first | exact Below.refl _ _ | assumption | refine Below.drew ?_ | refine Below.alloc ?_ (by (try simp) <;> omega) _ | refine Below.setCell ?_ (by (try simp) <;> omega) _)), (by (try simp) <;> omega), (by simp only [Cells]; go_simp)⟩ ?_
 repeat (first | (refine' wpSteady_do _ _ _; rotate_left; (focus rfl); (focus (intro w1 hS R hR; have hc := hS.cells; simp only [Cells] at hc; go_simp; (try go_bits); first | exact hR _ hS | fail)); simp only [pu]) | (refine wpSteady_pass ?_ ?_; (focus rfl); simp only [pu]))
 refine wpSteady_nil (fun w1 hS => ?_)
 have hc := hS.cells; have hb := hS.old; have hz := hS.size; clear hS; simp only [Cells] at hc
 go_wp2
 refine bodyPost_ret (v := .tuple #[.int .i64 (x + a), .int .i64 (y + b)]) (by simp [results, Tryz.results87, go_sem]) rfl ⟨rfl, belt⟩
theorem empty_none {q : Re} (h : mayR q = true) : emptyR q = noneR q := by
  have := may_bd h
  unfold emptyR areaR noneR
  rw [if_pos h]
  by_cases h1 : q.wd = 0
  · simp [h1]
  · by_cases h2 : q.ht = 0
    · simp [h2]
    · have : q.wd * q.ht ≠ 0 := Int.mul_ne_zero h1 h2
      simp [h1, h2]
theorem has_none {q : Re} {x y : Int} (h : mayR q = true) (hn : noneR q = true) : hasR q x y = false := by
  have := may_bd h
  unfold noneR at hn
  unfold hasR
  simp only [Bool.or_eq_true, decide_eq_true_eq] at hn
  rw [Bool.eq_false_iff]
  simp only [ne_eq, Bool.and_eq_true, decide_eq_true_eq, not_and]
  omega
end
section
set_option linter.unusedSimpArgs false
set_option linter.unusedVariables false
/-- Lists handed over together. -/
def Lists (w : World) (g n : Nat) (ls : List (Value × List Re)) : Prop := ls.length = n ∧ g < w.heap.size ∧ ∀ (i : Nat) p, ls[i]? = some p → w.cell? ⟨g, i, none⟩ = some p.1 ∧ Row w.heap.size 4 Re.enc w p.1 p.2 ∧ ∀ q ∈ p.2, q.Wf
theorem Lists.below {w w' : World} {g n : Nat} {ls : List (Value × List Re)} (h : Lists w g n ls) (hb : Below w.heap.size w w') : Lists w' g n ls := by
  obtain ⟨h1, h2, h3⟩ := h
  refine ⟨h1, Nat.lt_of_lt_of_le h2 hb.size, fun i p hp => ?_⟩
  obtain ⟨a, b, c⟩ := h3 i p hp
  exact ⟨(hb.cell (p := ⟨g, i, none⟩) h2).trans a, (b.below hb).mono hb.size, c⟩
end
end Go.Proofs.YtffmomgmkpmpkaaGreatDoor
