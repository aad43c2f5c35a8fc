/-
  XGa: XLisA XLisB XLisC XLisD XLisE XRegP XRegQ XRegR XRegPa.
-/
import Derived.Test.YtkmofpnefjgnkaaRow
import Derived.Test.YtkmofpnefjgnkaaBlk
import Derived.Test.YtkmofpnefjgnkaaTwo
import Derived.Laws.StructEq
namespace Go.Proofs.Ytkmofpnefjgnkaa
open Go.RowKit
set_option linter.unusedVariables false
attribute [local go_sem] vwp vUpon_value vUpon_skip vUpon_enter vUpon_row
set_option linter.unusedSimpArgs false
set_option linter.unusedVariables false
section
set_option linter.unusedSimpArgs false
def inB (n : Int) : Bool := decide (-16384 ≤ n) && decide (n ≤ 16384)
def sdB (n : Int) : Bool := decide (0 ≤ n) && decide (n ≤ 32768)
theorem gwithin_any (n : Int) (w : World) (hn : I64 n) : Calls Try.prog 58 #[.int .i64 n] w fun e w' => e = .returned (.bool (inB n)) ∧ w = w' := by
  unfold inB
  go_enter Try.func58, Try.ntmps58
  by_cases h : -16384 ≤ n
  · have g1 : decide (-16384 ≤ n) = true := by simpa using h
    go_wp2
    go_ret
    exact ⟨by simp [g1], rfl⟩
  · have g1 : decide (-16384 ≤ n) = false := by simpa using h
    go_wp2
    go_ret
    exact ⟨by simp [g1], rfl⟩
theorem gside_any (n : Int) (w : World) (hn : I64 n) : Calls Try.prog 59 #[.int .i64 n] w fun e w' => e = .returned (.bool (sdB n)) ∧ w = w' := by
  unfold sdB
  go_enter Try.func59, Try.ntmps59
  by_cases h : 0 ≤ n
  · have g1 : decide (0 ≤ n) = true := by simpa using h
    go_wp2
    go_ret
    exact ⟨by simp [g1], rfl⟩
  · have g1 : decide (0 ≤ n) = false := by simpa using h
    go_wp2
    go_ret
    exact ⟨by simp [g1], rfl⟩
theorem rwithin_any (n : Int) (w : World) (hn : I64 n) : Calls Try.prog 68 #[.int .i64 n] w fun e w' => e = .returned (.bool (inB n)) ∧ w = w' := by
  unfold inB
  go_enter Try.func68, Try.ntmps68
  by_cases h : -16384 ≤ n
  · have g1 : decide (-16384 ≤ n) = true := by simpa using h
    go_wp2
    go_ret
    exact ⟨by simp [g1], rfl⟩
  · have g1 : decide (-16384 ≤ n) = false := by simpa using h
    go_wp2
    go_ret
    exact ⟨by simp [g1], rfl⟩
theorem rside_any (n : Int) (w : World) (hn : I64 n) : Calls Try.prog 69 #[.int .i64 n] w fun e w' => e = .returned (.bool (sdB n)) ∧ w = w' := by
  unfold sdB
  go_enter Try.func69, Try.ntmps69
  by_cases h : 0 ≤ n
  · have g1 : decide (0 ≤ n) = true := by simpa using h
    go_wp2
    go_ret
    exact ⟨by simp [g1], rfl⟩
  · have g1 : decide (0 ≤ n) = false := by simpa using h
    go_wp2
    go_ret
    exact ⟨by simp [g1], rfl⟩
end
section
set_option linter.unusedSimpArgs false
structure Re where
  x : Int
  y : Int
  wd : Int
  ht : Int
instance : Inhabited Re := ⟨⟨0, 0, 0, 0⟩⟩
def Re.Wf (q : Re) : Prop := I64 q.x ∧ I64 q.y ∧ I64 q.wd ∧ I64 q.ht
theorem inB_iff {n : Int} : inB n = true ↔ -16384 ≤ n ∧ n ≤ 16384 := by simp [inB]
theorem sdB_iff {n : Int} : sdB n = true ↔ 0 ≤ n ∧ n ≤ 32768 := by simp [sdB]
def spanB (a s : Int) : Bool := inB a && (sdB s && decide (a + s ≤ 16384))
def mayR (q : Re) : Bool := spanB q.x q.wd && spanB q.y q.ht
theorem span_any (a s : Int) (w : World) (ha : I64 a) (hs : I64 s) : Calls Try.prog 60 #[.int .i64 a, .int .i64 s] w fun e w' => e = .returned (.bool (spanB a s)) ∧ w = w' := by
  have A := fun w => rwithin_any a w ha
  have B := fun w => rside_any s w hs
  unfold spanB
  cases h1 : inB a
  · rw [h1] at A
    replace A := Lib.hid A
    go_enter Try.func60, Try.ntmps60
    go_wp2_with (first | (go_at_call 68; (with_reducible refine (A.out _).mono ?_); rintro e w1 ⟨rfl, rfl⟩) | (go_at_call 69; (with_reducible refine (B _).mono ?_); rintro e w2 ⟨rfl, rfl⟩))
    go_ret
    exact ⟨rfl, rfl⟩
  · cases h2 : sdB s
    · rw [h1] at A
      rw [h2] at B
      replace A := Lib.hid A
      replace B := Lib.hid B
      go_enter Try.func60, Try.ntmps60
      go_wp2_with (first | (go_at_call 68; (with_reducible refine (A.out _).mono ?_); rintro e w1 ⟨rfl, rfl⟩) | (go_at_call 69; (with_reducible refine (B.out _).mono ?_); rintro e w2 ⟨rfl, rfl⟩))
      go_ret
      exact ⟨rfl, rfl⟩
    · rw [h1] at A
      rw [h2] at B
      obtain ⟨x1, x2⟩ := inB_iff.1 h1
      obtain ⟨y1, y2⟩ := sdB_iff.1 h2
      clear h1 h2
      replace A := Lib.hid A
      replace B := Lib.hid B
      go_enter Try.func60, Try.ntmps60
      go_wp2_with (first | (go_at_call 68; (with_reducible refine (A.out _).mono ?_); rintro e w1 ⟨rfl, rfl⟩) | (go_at_call 69; (with_reducible refine (B.out _).mono ?_); rintro e w2 ⟨rfl, rfl⟩))
      go_ret
      exact ⟨rfl, rfl⟩
theorem may_any (q : Re) (w : World) (hq : q.Wf) : Calls Try.prog 39 #[.agg #[.int .i64 (q).x, .int .i64 (q).y, .int .i64 (q).wd, .int .i64 (q).ht]] w fun e w' => e = .returned (.bool (mayR q)) ∧ Below w.heap.size w w' := by
  have A := fun w => span_any q.x q.wd w hq.1 hq.2.2.1
  have B := fun w => span_any q.y q.ht w hq.2.1 hq.2.2.2
  unfold mayR
  cases h1 : spanB q.x q.wd <;> rw [h1] at A <;> replace A := Lib.hid A <;> replace B := Lib.hid B
  · go_enter Try.func39, Try.ntmps39
    go_wp2_with (first | (go_at_call 60; (with_reducible refine (A.out _).mono ?_); rintro e w1 ⟨rfl, rfl⟩) | (go_at_call 60; (with_reducible refine (B.out _).mono ?_); rintro e w2 ⟨rfl, rfl⟩))
    go_ret
    exact ⟨rfl, (by repeat (first | exact Below.refl _ _ | assumption | refine Below.drew ?_ | refine Below.alloc ?_ (by (try simp) <;> omega) _ | refine Below.setCell ?_ (by (try simp) <;> omega) _))⟩
  · go_enter Try.func39, Try.ntmps39
    go_wp2_with (first | (go_at_call 60; (with_reducible refine (A.out _).mono ?_); rintro e w1 ⟨rfl, rfl⟩) | (go_at_call 60; (with_reducible refine (B.out _).mono ?_); rintro e w2 ⟨rfl, rfl⟩))
    go_ret
    exact ⟨rfl, (by repeat (first | exact Below.refl _ _ | assumption | refine Below.drew ?_ | refine Below.alloc ?_ (by (try simp) <;> omega) _ | refine Below.setCell ?_ (by (try simp) <;> omega) _))⟩
end
section
set_option linter.unusedSimpArgs false
set_option maxHeartbeats 1000000 in
theorem gcheck_any (q : Re) (w : World) (hq : q.Wf) : Calls Try.prog 38 #[.agg #[.int .i64 (q).x, .int .i64 (q).y, .int .i64 (q).wd, .int .i64 (q).ht]] w fun e w' => e = .returned (.int .i64 (if mayR q then 0 else 5)) ∧ Below w.heap.size w w' := by
  obtain ⟨x, y, a, b⟩ := q
  obtain ⟨q1, q2, q3, q4⟩ := hq
  simp only at q1 q2 q3 q4 ⊢
  have A := fun w => gwithin_any x w q1
  have B := fun w => gwithin_any y w q2
  have C := fun w => gside_any a w q3
  have D := fun w => gside_any b w q4
  cases h1 : inB x
  · have hm : mayR ⟨x, y, a, b⟩ = false := by simp [mayR, spanB, h1]
    rw [h1] at A
    replace A := Lib.hid A
    replace B := Lib.hid B
    replace C := Lib.hid C
    replace D := Lib.hid D
    rw [show mayR ⟨x, y, a, b⟩ = false from hm]
    clear hm
    go_enter Try.func38, Try.ntmps38
    go_wp2_with (first | (go_at_call 58; (with_reducible refine (A.out _).mono ?_); rintro e w1 ⟨rfl, rfl⟩) | (go_at_call 58; (with_reducible refine (B.out _).mono ?_); rintro e w2 ⟨rfl, rfl⟩) | (go_at_call 59; (with_reducible refine (C.out _).mono ?_); rintro e w3 ⟨rfl, rfl⟩) | (go_at_call 59; (with_reducible refine (D.out _).mono ?_); rintro e w4 ⟨rfl, rfl⟩))
    all_goals (go_ret; exact ⟨rfl, (by repeat (first | exact Below.refl _ _ | assumption | refine Below.drew ?_ | refine Below.alloc ?_ (by (try simp) <;> omega) _ | refine Below.setCell ?_ (by (try simp) <;> omega) _))⟩)
  cases h2 : inB y
  · have hm : mayR ⟨x, y, a, b⟩ = false := by simp [mayR, spanB, h2]
    rw [h1] at A
    rw [h2] at B
    replace A := Lib.hid A
    replace B := Lib.hid B
    replace C := Lib.hid C
    replace D := Lib.hid D
    rw [show mayR ⟨x, y, a, b⟩ = false from hm]
    clear hm
    go_enter Try.func38, Try.ntmps38
    go_wp2_with (first | (go_at_call 58; (with_reducible refine (A.out _).mono ?_); rintro e w1 ⟨rfl, rfl⟩) | (go_at_call 58; (with_reducible refine (B.out _).mono ?_); rintro e w2 ⟨rfl, rfl⟩) | (go_at_call 59; (with_reducible refine (C.out _).mono ?_); rintro e w3 ⟨rfl, rfl⟩) | (go_at_call 59; (with_reducible refine (D.out _).mono ?_); rintro e w4 ⟨rfl, rfl⟩))
    all_goals (go_ret; exact ⟨rfl, (by repeat (first | exact Below.refl _ _ | assumption | refine Below.drew ?_ | refine Below.alloc ?_ (by (try simp) <;> omega) _ | refine Below.setCell ?_ (by (try simp) <;> omega) _))⟩)
  cases h3 : sdB a
  · have hm : mayR ⟨x, y, a, b⟩ = false := by simp [mayR, spanB, h3]
    rw [h1] at A
    rw [h2] at B
    rw [h3] at C
    replace A := Lib.hid A
    replace B := Lib.hid B
    replace C := Lib.hid C
    replace D := Lib.hid D
    rw [show mayR ⟨x, y, a, b⟩ = false from hm]
    clear hm
    go_enter Try.func38, Try.ntmps38
    go_wp2_with (first | (go_at_call 58; (with_reducible refine (A.out _).mono ?_); rintro e w1 ⟨rfl, rfl⟩) | (go_at_call 58; (with_reducible refine (B.out _).mono ?_); rintro e w2 ⟨rfl, rfl⟩) | (go_at_call 59; (with_reducible refine (C.out _).mono ?_); rintro e w3 ⟨rfl, rfl⟩) | (go_at_call 59; (with_reducible refine (D.out _).mono ?_); rintro e w4 ⟨rfl, rfl⟩))
    all_goals (go_ret; exact ⟨rfl, (by repeat (first | exact Below.refl _ _ | assumption | refine Below.drew ?_ | refine Below.alloc ?_ (by (try simp) <;> omega) _ | refine Below.setCell ?_ (by (try simp) <;> omega) _))⟩)
  cases h4 : sdB b
  · have hm : mayR ⟨x, y, a, b⟩ = false := by simp [mayR, spanB, h4]
    rw [h1] at A
    rw [h2] at B
    rw [h3] at C
    rw [h4] at D
    replace A := Lib.hid A
    replace B := Lib.hid B
    replace C := Lib.hid C
    replace D := Lib.hid D
    rw [show mayR ⟨x, y, a, b⟩ = false from hm]
    clear hm
    go_enter Try.func38, Try.ntmps38
    go_wp2_with (first | (go_at_call 58; (with_reducible refine (A.out _).mono ?_); rintro e w1 ⟨rfl, rfl⟩) | (go_at_call 58; (with_reducible refine (B.out _).mono ?_); rintro e w2 ⟨rfl, rfl⟩) | (go_at_call 59; (with_reducible refine (C.out _).mono ?_); rintro e w3 ⟨rfl, rfl⟩) | (go_at_call 59; (with_reducible refine (D.out _).mono ?_); rintro e w4 ⟨rfl, rfl⟩))
    all_goals (go_ret; exact ⟨rfl, (by repeat (first | exact Below.refl _ _ | assumption | refine Below.drew ?_ | refine Below.alloc ?_ (by (try simp) <;> omega) _ | refine Below.setCell ?_ (by (try simp) <;> omega) _))⟩)
  obtain ⟨x1, x2⟩ := inB_iff.1 h1
  obtain ⟨y1, y2⟩ := inB_iff.1 h2
  obtain ⟨a1, a2⟩ := sdB_iff.1 h3
  obtain ⟨b1, b2⟩ := sdB_iff.1 h4
  by_cases h5 : max (x + a) (y + b) ≤ 16384
  · have hm : mayR ⟨x, y, a, b⟩ = true := by simp [mayR, spanB, h1, h2, h3, h4]; omega
    have h6 : x + a ≤ 16384 ∧ y + b ≤ 16384 := by omega
    obtain ⟨h7, h8⟩ := h6
    have g : decide (max (x + a) (y + b) ≤ 16384) = true := by simpa using h5
    rw [h1] at A
    rw [h2] at B
    rw [h3] at C
    rw [h4] at D
    replace A := Lib.hid A
    replace B := Lib.hid B
    replace C := Lib.hid C
    replace D := Lib.hid D
    rw [show mayR ⟨x, y, a, b⟩ = true from hm]
    clear hm
    go_enter Try.func38, Try.ntmps38
    go_wp2_with (first | (go_at_call 58; (with_reducible refine (A.out _).mono ?_); rintro e w1 ⟨rfl, rfl⟩) | (go_at_call 58; (with_reducible refine (B.out _).mono ?_); rintro e w2 ⟨rfl, rfl⟩) | (go_at_call 59; (with_reducible refine (C.out _).mono ?_); rintro e w3 ⟨rfl, rfl⟩) | (go_at_call 59; (with_reducible refine (D.out _).mono ?_); rintro e w4 ⟨rfl, rfl⟩))
    all_goals (go_ret; exact ⟨rfl, (by repeat (first | exact Below.refl _ _ | assumption | refine Below.drew ?_ | refine Below.alloc ?_ (by (try simp) <;> omega) _ | refine Below.setCell ?_ (by (try simp) <;> omega) _))⟩)
  · have hm : mayR ⟨x, y, a, b⟩ = false := by simp [mayR, spanB, h1, h2, h3, h4]; omega
    have g : decide (max (x + a) (y + b) ≤ 16384) = false := by simpa using h5
    rw [h1] at A
    rw [h2] at B
    rw [h3] at C
    rw [h4] at D
    replace A := Lib.hid A
    replace B := Lib.hid B
    replace C := Lib.hid C
    replace D := Lib.hid D
    rw [show mayR ⟨x, y, a, b⟩ = false from hm]
    clear hm
    go_enter Try.func38, Try.ntmps38
    go_wp2_with (first | (go_at_call 58; (with_reducible refine (A.out _).mono ?_); rintro e w1 ⟨rfl, rfl⟩) | (go_at_call 58; (with_reducible refine (B.out _).mono ?_); rintro e w2 ⟨rfl, rfl⟩) | (go_at_call 59; (with_reducible refine (C.out _).mono ?_); rintro e w3 ⟨rfl, rfl⟩) | (go_at_call 59; (with_reducible refine (D.out _).mono ?_); rintro e w4 ⟨rfl, rfl⟩))
    all_goals (go_ret; exact ⟨rfl, (by repeat (first | exact Below.refl _ _ | assumption | refine Below.drew ?_ | refine Below.alloc ?_ (by (try simp) <;> omega) _ | refine Below.setCell ?_ (by (try simp) <;> omega) _))⟩)
end
section
set_option linter.unusedSimpArgs false
set_option linter.unusedVariables false
structure Co where
  r : Int
  g : Int
  b : Int
  a : Int
structure St where
  kind : Int
  rect : Re
  col : Co
  back : Co
  text : ByteArray
  node : Int
instance : Inhabited St := ⟨⟨0, default, ⟨0, 0, 0, 0⟩, ⟨0, 0, 0, 0⟩, default, 0⟩⟩
def Co.Wf (c : Co) : Prop := U8 c.r ∧ U8 c.g ∧ U8 c.b ∧ U8 c.a
def Co.enc (c : Co) : List Value := [.int .u8 c.r, .int .u8 c.g, .int .u8 c.b, .int .u8 c.a]
def Re.enc (q : Re) : List Value := [.int .i64 q.x, .int .i64 q.y, .int .i64 q.wd, .int .i64 q.ht]
def St.enc (s : St) : List Value := [.int .u8 s.kind] ++ s.rect.enc ++ s.col.enc ++ s.back.enc ++ [.string s.text, .int .i64 s.node]
def St.Wf (s : St) : Prop := U8 s.kind ∧ s.rect.Wf ∧ s.col.Wf ∧ s.back.Wf ∧ s.text.size ≤ maxLen ∧ I64 s.node
section
variable {H : Type} {enc : TypeId × Value → H} {w : World} {base : Nat} {spare : Nat → Bool} {held : Bool}
theorem field_of {P : Program} {t : TypeId} {fs : Array Field} {fuel : Nat} {cs : List Value} {x : DataW H × List MemPlace} (hs : P.underlying t = some (.struct fs)) (h : DataW.trod enc P w base spare held fuel t cs = some x)
    (j off k : Nat) (ty : TypeId) (f : Field) (hj : fs[j]? = some f) (ht : f.type = ty) (ho : f.offset = off) (hk : P.cellsOf ty = k) : ∃ (n : Nat) (y : DataW H × List MemPlace), DataW.trod enc P w base spare held n ty ((cs.drop off).take k) = some y := by
  subst ht
  subst ho
  subst hk
  obtain ⟨ys, n, _, _, _, hyl, hf⟩ := DataW.trod_struct hs h
  have h1 := hf j f hj
  have hjl : j < fs.size := (Array.getElem?_eq_some_iff.1 hj).1
  exact ⟨n, _, h1.trans (List.getElem?_eq_getElem (by omega))⟩
theorem colour_of {fuel : Nat} {c0 c1 c2 c3 : Value} {x : DataW H × List MemPlace} (h : DataW.trod enc Try.prog w base spare held fuel 43 [c0, c1, c2, c3] = some x) : ∃ c : Co, c.Wf ∧ [c0, c1, c2, c3] = c.enc := by
  obtain ⟨m0, y0, h0⟩ := field_of Try.underlying43 h 0 0 1 5 _ rfl rfl rfl (by kernel_rfl)
  obtain ⟨m1, y1, h1⟩ := field_of Try.underlying43 h 1 1 1 5 _ rfl rfl rfl (by kernel_rfl)
  obtain ⟨m2, y2, h2⟩ := field_of Try.underlying43 h 2 2 1 5 _ rfl rfl rfl (by kernel_rfl)
  obtain ⟨m3, y3, h3⟩ := field_of Try.underlying43 h 3 3 1 5 _ rfl rfl rfl (by kernel_rfl)
  simp only [List.drop_zero, List.drop_succ_cons, List.take_succ_cons, List.take_zero] at h0 h1 h2 h3
  obtain ⟨n0, e0, z0, wf0⟩ := DataW.trod_int Try.underlying5 h0; simp at e0; subst e0
  obtain ⟨n1, e1, z1, wf1⟩ := DataW.trod_int Try.underlying5 h1; simp at e1; subst e1
  obtain ⟨n2, e2, z2, wf2⟩ := DataW.trod_int Try.underlying5 h2; simp at e2; subst e2
  obtain ⟨n3, e3, z3, wf3⟩ := DataW.trod_int Try.underlying5 h3; simp at e3; subst e3
  exact ⟨⟨n0, n1, n2, n3⟩, ⟨u8_of wf0, u8_of wf1, u8_of wf2, u8_of wf3⟩, rfl⟩
theorem point_of {fuel : Nat} {c0 c1 : Value} {x : DataW H × List MemPlace} (h : DataW.trod enc Try.prog w base spare held fuel 24 [c0, c1] = some x) : ∃ a b : Int, I64 a ∧ I64 b ∧ c0 = .int .i64 a ∧ c1 = .int .i64 b := by
  obtain ⟨m0, y0, h0⟩ := field_of Try.underlying24 h 0 0 1 3 _ rfl rfl rfl (by kernel_rfl)
  obtain ⟨m1, y1, h1⟩ := field_of Try.underlying24 h 1 1 1 3 _ rfl rfl rfl (by kernel_rfl)
  simp only [List.drop_zero, List.drop_succ_cons, List.take_succ_cons, List.take_zero] at h0 h1
  obtain ⟨n0, e0, z0, wf0⟩ := DataW.trod_int Try.underlying3 h0; simp at e0; subst e0
  obtain ⟨n1, e1, z1, wf1⟩ := DataW.trod_int Try.underlying3 h1; simp at e1; subst e1
  exact ⟨n0, n1, i64_of wf0, i64_of wf1, rfl, rfl⟩
theorem size_of {fuel : Nat} {c0 c1 : Value} {x : DataW H × List MemPlace} (h : DataW.trod enc Try.prog w base spare held fuel 39 [c0, c1] = some x) : ∃ a b : Int, I64 a ∧ I64 b ∧ c0 = .int .i64 a ∧ c1 = .int .i64 b := by
  obtain ⟨m0, y0, h0⟩ := field_of Try.underlying39 h 0 0 1 3 _ rfl rfl rfl (by kernel_rfl)
  obtain ⟨m1, y1, h1⟩ := field_of Try.underlying39 h 1 1 1 3 _ rfl rfl rfl (by kernel_rfl)
  simp only [List.drop_zero, List.drop_succ_cons, List.take_succ_cons, List.take_zero] at h0 h1
  obtain ⟨n0, e0, z0, wf0⟩ := DataW.trod_int Try.underlying3 h0; simp at e0; subst e0
  obtain ⟨n1, e1, z1, wf1⟩ := DataW.trod_int Try.underlying3 h1; simp at e1; subst e1
  exact ⟨n0, n1, i64_of wf0, i64_of wf1, rfl, rfl⟩
theorem rect_of {fuel : Nat} {c0 c1 c2 c3 : Value} {x : DataW H × List MemPlace} (h : DataW.trod enc Try.prog w base spare held fuel 41 [c0, c1, c2, c3] = some x) : ∃ q : Re, q.Wf ∧ [c0, c1, c2, c3] = q.enc := by
  obtain ⟨m0, y0, h0⟩ := field_of Try.underlying41 h 0 0 2 24 _ rfl rfl rfl (by kernel_rfl)
  obtain ⟨m1, y1, h1⟩ := field_of Try.underlying41 h 1 2 2 39 _ rfl rfl rfl (by kernel_rfl)
  simp only [List.drop_zero, List.drop_succ_cons, List.take_succ_cons, List.take_zero] at h0 h1
  obtain ⟨a, b, wa, wb, rfl, rfl⟩ := point_of h0
  obtain ⟨c, d, wc, wd, rfl, rfl⟩ := size_of h1
  exact ⟨⟨a, b, c, d⟩, ⟨wa, wb, wc, wd⟩, rfl⟩
theorem list15 {cs : List Value} (h : cs.length = 15) : ∃ a b c d e f g i j k l m n o p, cs = [a, b, c, d, e, f, g, i, j, k, l, m, n, o, p] := by
  match cs, h with
  | [a, b, c, d, e, f, g, i, j, k, l, m, n, o, p], _ => exact ⟨a, b, c, d, e, f, g, i, j, k, l, m, n, o, p, rfl⟩
theorem stroke_of {fuel : Nat} {cs : List Value} {x : DataW H × List MemPlace} (hl : cs.length = 15) (h : DataW.trod enc Try.prog w base spare held fuel 45 cs = some x) : ∃ s : St, s.Wf ∧ cs = s.enc := by
  obtain ⟨a, b, c, d, e, f, g, i, j, k, l, m, n, o, p, rfl⟩ := list15 hl
  obtain ⟨m0, y0, h0⟩ := field_of Try.underlying45 h 0 0 1 5 _ rfl rfl rfl (by kernel_rfl)
  obtain ⟨m1, y1, h1⟩ := field_of Try.underlying45 h 1 1 4 41 _ rfl rfl rfl (by kernel_rfl)
  obtain ⟨m2, y2, h2⟩ := field_of Try.underlying45 h 2 5 4 43 _ rfl rfl rfl (by kernel_rfl)
  obtain ⟨m3, y3, h3⟩ := field_of Try.underlying45 h 3 9 4 43 _ rfl rfl rfl (by kernel_rfl)
  obtain ⟨m4, y4, h4⟩ := field_of Try.underlying45 h 4 13 1 9 _ rfl rfl rfl (by kernel_rfl)
  obtain ⟨m5, y5, h5⟩ := field_of Try.underlying45 h 5 14 1 3 _ rfl rfl rfl (by kernel_rfl)
  simp only [List.drop_zero, List.drop_succ_cons, List.take_succ_cons, List.take_zero] at h0 h1 h2 h3 h4 h5
  obtain ⟨n0, e0, z0, wf0⟩ := DataW.trod_int Try.underlying5 h0; simp at e0; subst e0
  obtain ⟨q, wq, eq⟩ := rect_of h1
  obtain ⟨c1, w1, e1⟩ := colour_of h2
  obtain ⟨c2, w2, e2⟩ := colour_of h3
  obtain ⟨t, e4, z4, wt⟩ := DataW.trod_string Try.underlying9 h4; simp at e4; subst e4
  obtain ⟨n5, e5, z5, wf5⟩ := DataW.trod_int Try.underlying3 h5; simp at e5; subst e5
  refine ⟨⟨n0, q, c1, c2, t, n5⟩, ⟨u8_of wf0, wq, w1, w2, wt, i64_of wf5⟩, ?_⟩
  unfold St.enc
  rw [← eq, ← e1, ← e2]
  rfl
set_option maxRecDepth 100000 in
theorem open_strokes {r : Reach} {b0 : Nat} {v : Value} {d : DataW H} {p : List MemPlace} (hv : Value.okWide Try.prog w r b0 22 v) (h : DataW.Trod enc Try.prog w base spare held 22 v d p) :
    ∃ xs : List St, Row w.heap.size 15 St.enc w v xs ∧ ∀ x ∈ xs, x.Wf :=
  open_row Try.underlying22 (by kernel_rfl) (by omega) (fun n cs y hl ht => stroke_of hl ht) hv h
end
end
section
set_option linter.unusedSimpArgs false
set_option linter.unusedVariables false
def eq4 (a b c d a' b' c' d' : Int) : Bool := (a == a') && ((b == b') && ((c == c') && (d == d')))
theorem eq4_iff {a b c d a' b' c' d' : Int} : eq4 a b c d a' b' c' d' = true ↔ a = a' ∧ b = b' ∧ c = c' ∧ d = d' := by
  simp [eq4]
def Re.eqb (p q : Re) : Bool := eq4 p.x p.y p.wd p.ht q.x q.y q.wd q.ht
def Co.eqb (p q : Co) : Bool := eq4 p.r p.g p.b p.a q.r q.g q.b q.a
def St.eqb (s t : St) : Bool := (s.kind == t.kind) && (s.rect.eqb t.rect && (s.col.eqb t.col && (s.back.eqb t.back && ((s.text.toList == t.text.toList) && (s.node == t.node)))))
def Co.none : Co := ⟨0, 0, 0, 0⟩
def Re.none : Re := ⟨0, 0, 0, 0⟩
theorem eq_colour (d : Nat) (w : World) (a b c e a' b' c' e' : Int) : (Op.equalIn (d + 2) 43 (.agg #[.int .u8 (a), .int .u8 (b), .int .u8 (c), .int .u8 (e)]) (.agg #[.int .u8 (a'), .int .u8 (b'), .int .u8 (c'), .int .u8 (e')])).run Try.prog w = .ok (eq4 a b c e a' b' c' e') w := by
  unfold eq4
  have A := Try.underlying43
  have B := Try.underlying5
  rw [run_equalIn_agg w (d + 1) _ _ _ (by simp [Program.fieldsOf, A]) (by kernel_rfl)]
  simp only [Program.fieldsOf, A]
  by_cases h0 : a = a' <;> by_cases h1 : b = b' <;> by_cases h2 : c = c' <;> by_cases h3 : e = e' <;> simp [Op.eqFields, part, isAgg, run_underlying B, run_equalIn_int _ _ _ _ _ _ _ B, h0, h1, h2, h3]

theorem eq_point (d : Nat) (w : World) (a b a' b' : Int) : (Op.equalIn (d + 2) 24 (.agg #[.int .i64 a, .int .i64 b]) (.agg #[.int .i64 a', .int .i64 b'])).run Try.prog w = .ok ((a == a') && (b == b')) w := by
  have A := Try.underlying24
  have B := Try.underlying3
  rw [run_equalIn_agg w (d + 1) _ _ _ (by simp [Program.fieldsOf, A]) (by kernel_rfl)]
  simp only [Program.fieldsOf, A]
  by_cases h0 : a = a' <;> by_cases h1 : b = b' <;> simp [Op.eqFields, part, isAgg, run_underlying B, run_equalIn_int _ _ _ _ _ _ _ B, h0, h1]
theorem eq_size (d : Nat) (w : World) (a b a' b' : Int) : (Op.equalIn (d + 2) 39 (.agg #[.int .i64 a, .int .i64 b]) (.agg #[.int .i64 a', .int .i64 b'])).run Try.prog w = .ok ((a == a') && (b == b')) w := by
  have A := Try.underlying39
  have B := Try.underlying3
  rw [run_equalIn_agg w (d + 1) _ _ _ (by simp [Program.fieldsOf, A]) (by kernel_rfl)]
  simp only [Program.fieldsOf, A]
  by_cases h0 : a = a' <;> by_cases h1 : b = b' <;> simp [Op.eqFields, part, isAgg, run_underlying B, run_equalIn_int _ _ _ _ _ _ _ B, h0, h1]
theorem eq_rect (d : Nat) (w : World) (a b c e a' b' c' e' : Int) : (Op.equalIn (d + 3) 41 (.agg #[.int .i64 a, .int .i64 b, .int .i64 c, .int .i64 e]) (.agg #[.int .i64 a', .int .i64 b', .int .i64 c', .int .i64 e'])).run Try.prog w = .ok (eq4 a b c e a' b' c' e') w := by
  unfold eq4
  have A := Try.underlying41
  have B := Try.underlying24
  have C := Try.underlying39
  rw [run_equalIn_agg w (d + 2) _ _ _ (by simp [Program.fieldsOf, A]) (by kernel_rfl)]
  simp only [Program.fieldsOf, A]
  have e1 := fun w => eq_point d w a b a' b'
  have e2 := fun w => eq_size d w c e c' e'
  have z1 : Try.prog.cellsOf 24 = 2 := by kernel_rfl
  have z2 : Try.prog.cellsOf 39 = 2 := by kernel_rfl
  have y1 : Try.t24.size = 2 := by kernel_rfl
  have y2 : Try.t39.size = 2 := by kernel_rfl
  generalize (a == a') = b0 at *
  generalize (b == b') = b1 at *
  generalize (c == c') = b2 at *
  generalize (e == e') = b3 at *
  simp [Op.eqFields, part, isAgg, run_underlying B, run_underlying C, sizeOf, z1, z2, y1, y2, e1, e2]
  cases b0 <;> cases b1 <;> cases b2 <;> cases b3 <;> simp
theorem eq_stroke (d : Nat) (w : World) (s t : St) : (Op.equalIn (d + 4) 45 (.agg #[.int .u8 (s).kind, .int .i64 ((s).rect).x, .int .i64 ((s).rect).y, .int .i64 ((s).rect).wd, .int .i64 ((s).rect).ht, .int .u8 ((s).col).r, .int .u8 ((s).col).g, .int .u8 ((s).col).b, .int .u8 ((s).col).a, .int .u8 ((s).back).r, .int .u8 ((s).back).g, .int .u8 ((s).back).b, .int .u8 ((s).back).a, .string (s).text, .int .i64 (s).node]) (.agg #[.int .u8 (t).kind, .int .i64 ((t).rect).x, .int .i64 ((t).rect).y, .int .i64 ((t).rect).wd, .int .i64 ((t).rect).ht, .int .u8 ((t).col).r, .int .u8 ((t).col).g, .int .u8 ((t).col).b, .int .u8 ((t).col).a, .int .u8 ((t).back).r, .int .u8 ((t).back).g, .int .u8 ((t).back).b, .int .u8 ((t).back).a, .string (t).text, .int .i64 (t).node])).run Try.prog w = .ok (s.eqb t) w := by
  unfold St.eqb Re.eqb Co.eqb
  have A := Try.underlying45
  have K := Try.underlying5
  have I := Try.underlying3
  have S := Try.underlying9
  have B := Try.underlying41
  have C := Try.underlying43
  rw [run_equalIn_agg w (d + 3) _ _ _ (by simp [Program.fieldsOf, A]) (by kernel_rfl)]
  simp only [Program.fieldsOf, A]
  have z1 : Try.prog.cellsOf 41 = 4 := by kernel_rfl
  have z2 : Try.prog.cellsOf 43 = 4 := by kernel_rfl
  have y1 : Try.t41.size = 4 := by kernel_rfl
  have y2 : Try.t43.size = 4 := by kernel_rfl
  have E0 : ∀ w a b, (Op.equalIn (d + 3) 5 (.int .u8 a) (.int .u8 b)).run Try.prog w = .ok (a == b) w := fun w a b => run_equalIn_int w (d + 2) _ _ _ a b K
  have E1 : ∀ w a b, (Op.equalIn (d + 3) 3 (.int .i64 a) (.int .i64 b)).run Try.prog w = .ok (a == b) w := fun w a b => run_equalIn_int w (d + 2) _ _ _ a b I
  have E2 : ∀ w a b, (Op.equalIn (d + 3) 9 (.string a) (.string b)).run Try.prog w = .ok (a.toList == b.toList) w := fun w a b => run_equalIn_string w (d + 2) _ a b S
  have E3 := eq_rect d
  have E4 := eq_colour (d + 1)
  generalize hb0 : (s.kind == t.kind) = b0
  generalize hb1 : eq4 s.rect.x s.rect.y s.rect.wd s.rect.ht t.rect.x t.rect.y t.rect.wd t.rect.ht = b1
  generalize hb2 : eq4 s.col.r s.col.g s.col.b s.col.a t.col.r t.col.g t.col.b t.col.a = b2
  generalize hb3 : eq4 s.back.r s.back.g s.back.b s.back.a t.back.r t.back.g t.back.b t.back.a = b3
  generalize hb4 : (s.text.toList == t.text.toList) = b4
  generalize hb5 : (s.node == t.node) = b5
  simp only [Op.eqFields, Sem.run_bind, Sem.run_ite, part, isAgg, run_underlying K, run_underlying I, run_underlying S, run_underlying B, run_underlying C]
  simp [sizeOf, z1, z2, y1, y2, E0, E1, E2, E3, E4, hb0, hb1, hb2, hb3, hb4, hb5]
  cases b0 <;> cases b1 <;> cases b2 <;> cases b3 <;> cases b4 <;> cases b5 <;> simp
end
section
set_option linter.unusedSimpArgs false
/-- Spans of a row: (from, to), from the left, none beside another one. -/
abbrev Sp := Int × Int
def InS (l : List Sp) (x : Int) : Prop := ∃ s ∈ l, s.1 ≤ x ∧ x < s.2
def CanS : List Sp → Prop
  | [] => True
  | [s] => s.1 < s.2
  | s :: t :: r => s.1 < s.2 ∧ s.2 < t.1 ∧ CanS (t :: r)
theorem CanS.tail {s : Sp} {r : List Sp} (h : CanS (s :: r)) : CanS r := by
  cases r with
  | nil => trivial
  | cons t r => exact h.2.2
theorem CanS.pos {s : Sp} {r : List Sp} (h : CanS (s :: r)) : s.1 < s.2 := by
  cases r with
  | nil => exact h
  | cons t r => exact h.1
theorem CanS.above {s : Sp} {r : List Sp} (h : CanS (s :: r)) : ∀ t ∈ r, s.2 < t.1 ∧ t.1 < t.2 := by
  induction r generalizing s with
  | nil => simp
  | cons u r ih =>
    intro t ht
    obtain ⟨h1, h2, h3⟩ := h
    rcases List.mem_cons.1 ht with rfl | ht
    · exact ⟨h2, h3.pos⟩
    · have := ih h3 t ht
      have := h3.pos
      omega
theorem InS.nil (x : Int) : ¬ InS [] x := by simp [InS]
theorem InS.cons {s : Sp} {r : List Sp} {x : Int} : InS (s :: r) x ↔ (s.1 ≤ x ∧ x < s.2) ∨ InS r x := by
  simp [InS]
theorem CanS.not_in {s : Sp} {r : List Sp} (h : CanS (s :: r)) {x : Int} (hx : x ≤ s.2) : ¬ InS r x := by
  rintro ⟨t, ht, h1, h2⟩
  have := h.above t ht
  omega
/-- A set of places of a row has one form. -/
theorem canS_unique : ∀ {l m : List Sp}, CanS l → CanS m → (∀ x, InS l x ↔ InS m x) → l = m
  | [], [], _, _, _ => rfl
  | [], s :: r, _, hm, h => by
    have := (h s.1).2 (InS.cons.2 (.inl ⟨Int.le_refl _, hm.pos⟩))
    exact absurd this (InS.nil _)
  | s :: r, [], hl, _, h => by
    have := (h s.1).1 (InS.cons.2 (.inl ⟨Int.le_refl _, hl.pos⟩))
    exact absurd this (InS.nil _)
  | s :: r, t :: q, hl, hm, h => by
    have p1 := hl.pos
    have p2 := hm.pos
    have lo : ∀ {u : Sp} {w : List Sp}, CanS (u :: w) → ∀ x, InS (u :: w) x → u.1 ≤ x := by
      intro u w hu x hx
      rcases InS.cons.1 hx with hx | ⟨v, hv, h1, h2⟩
      · exact hx.1
      · have := hu.above v hv; have := hu.pos; omega
    have a1 := lo hm _ ((h s.1).1 (InS.cons.2 (.inl ⟨Int.le_refl _, p1⟩)))
    have a2 := lo hl _ ((h t.1).2 (InS.cons.2 (.inl ⟨Int.le_refl _, p2⟩)))
    have e1 : s.1 = t.1 := by omega
    have up : ∀ {u v : Sp} {w z : List Sp}, CanS (u :: w) → CanS (v :: z) → u.1 = v.1 → (∀ x, InS (u :: w) x ↔ InS (v :: z) x) → u.2 ≤ v.2 := by
      intro u v w z hu hv e hh
      rcases Int.lt_or_le v.2 u.2 with hlt | hle
      · exfalso
        have hp := hv.pos
        have := (hh v.2).1 (InS.cons.2 (.inl ⟨by omega, hlt⟩))
        rcases InS.cons.1 this with h' | h'
        · omega
        · exact hv.not_in (Int.le_refl _) h'
      · exact hle
    have b1 := up hl hm e1 h
    have b2 := up hm hl e1.symm (fun x => (h x).symm)
    have e2 : s.2 = t.2 := by omega
    obtain rfl : s = t := by cases s; cases t; simp_all
    have : r = q := canS_unique hl.tail hm.tail (fun x => by
      constructor
      · intro hx
        rcases InS.cons.1 ((h x).1 (InS.cons.2 (.inr hx))) with h' | h'
        · exact absurd hx (hl.not_in (by omega))
        · exact h'
      · intro hx
        rcases InS.cons.1 ((h x).2 (InS.cons.2 (.inr hx))) with h' | h'
        · exact absurd hx (hm.not_in (by omega))
        · exact h')
    rw [this]
/-! ### rising lists -/
def Rise : List Int → Prop
  | [] => True
  | [_] => True
  | a :: b :: r => a < b ∧ Rise (b :: r)
theorem Rise.tail {a : Int} {r : List Int} (h : Rise (a :: r)) : Rise r := by
  cases r with
  | nil => trivial
  | cons b r => exact h.2
theorem Rise.above {a : Int} {r : List Int} (h : Rise (a :: r)) : ∀ x ∈ r, a < x := by
  induction r generalizing a with
  | nil => simp
  | cons b r ih =>
    intro x hx
    rcases List.mem_cons.1 hx with rfl | hx
    · exact h.1
    · have := ih h.2 x hx; have := h.1; omega
theorem Rise.mk {a : Int} {r : List Int} (h : Rise r) (ha : ∀ x ∈ r, a < x) : Rise (a :: r) := by
  cases r with
  | nil => trivial
  | cons b r => exact ⟨ha b (by simp), h⟩
theorem rise_unique : ∀ {l m : List Int}, Rise l → Rise m → (∀ x, x ∈ l ↔ x ∈ m) → l = m
  | [], [], _, _, _ => rfl
  | [], a :: r, _, _, h => absurd ((h a).2 (by simp)) (by simp)
  | a :: r, [], _, _, h => absurd ((h a).1 (by simp)) (by simp)
  | a :: r, b :: q, hl, hm, h => by
    have h1 := (h a).1 (by simp)
    have h2 := (h b).2 (by simp)
    have e : a = b := by
      rcases List.mem_cons.1 h1 with e | h1
      · exact e
      · rcases List.mem_cons.1 h2 with e | h2
        · exact e.symm
        · have := hm.above a h1; have := hl.above b h2; omega
    subst e
    have : r = q := rise_unique hl.tail hm.tail (fun x => by
      constructor
      · intro hx
        have := hl.above x hx
        rcases List.mem_cons.1 ((h x).1 (by simp [hx])) with e | h'
        · omega
        · exact h'
      · intro hx
        have := hm.above x hx
        rcases List.mem_cons.1 ((h x).2 (by simp [hx])) with e | h'
        · omega
        · exact h')
    rw [this]
/-- A number put into a rising list, once. -/
def edgeI : List Int → Int → List Int
  | [], n => [n]
  | a :: r, n => if a < n then a :: edgeI r n else if a = n then a :: r else n :: a :: r
theorem mem_edgeI {l : List Int} {n x : Int} : x ∈ edgeI l n ↔ x = n ∨ x ∈ l := by
  induction l with
  | nil => simp [edgeI]
  | cons a r ih =>
    unfold edgeI
    split
    · simp only [List.mem_cons, ih]
      constructor
      · rintro (h | h | h) <;> simp [h]
      · rintro (h | h | h) <;> simp [h]
    · split
      · rename_i h; subst h
        simp only [List.mem_cons]
        constructor
        · intro h; exact .inr h
        · rintro (h | h)
          · exact .inl h
          · exact h
      · simp only [List.mem_cons]
theorem edgeI_rise {l : List Int} {n : Int} (h : Rise l) : Rise (edgeI l n) := by
  induction l with
  | nil => trivial
  | cons a r ih =>
    unfold edgeI
    split
    · rename_i h1
      refine Rise.mk (ih h.tail) (fun x hx => ?_)
      rcases mem_edgeI.1 hx with rfl | hx
      · exact h1
      · exact h.above x hx
    · split
      · exact h
      · refine Rise.mk h (fun x hx => ?_)
        rcases List.mem_cons.1 hx with rfl | hx
        · omega
        · have := h.above x hx; omega
/-! ### what is wanted between edges -/
/-- One more stretch. -/
def putS : List Sp → Int → Int → List Sp
  | [], x, y => [(x, y)]
  | [s], x, y => if s.2 = x then [(s.1, y)] else [s, (x, y)]
  | s :: t :: r, x, y => s :: putS (t :: r) x y
def mixGo (keep : Int → Bool) : List Sp → List Int → List Sp
  | out, x :: y :: r => mixGo keep (if keep x then putS out x y else out) (y :: r)
  | out, _ => out
theorem CanS.putS {x y : Int} (hxy : x < y) : ∀ {l : List Sp}, CanS l → (∀ s ∈ l, s.2 ≤ x) → CanS (putS l x y)
  | [], _, _ => hxy
  | [s], h, hx => by
    have := hx s (by simp)
    unfold Go.Proofs.Ytkmofpnefjgnkaa.putS
    have h' : s.1 < s.2 := h
    split
    · show s.1 < y; omega
    · exact ⟨h, by show s.2 < x; omega, hxy⟩
  | s :: t :: r, h, hx => by
    have ih := CanS.putS hxy h.2.2 (fun u hu => hx u (by simp [List.mem_cons.1 hu]))
    show CanS (s :: Go.Proofs.Ytkmofpnefjgnkaa.putS (t :: r) x y)
    cases r with
    | nil =>
      simp only [Go.Proofs.Ytkmofpnefjgnkaa.putS] at ih ⊢
      split
      · rename_i e; rw [if_pos e] at ih
        exact ⟨h.1, h.2.1, ih⟩
      · rename_i e; rw [if_neg e] at ih
        exact ⟨h.1, h.2.1, ih⟩
    | cons u r => exact ⟨h.1, h.2.1, ih⟩
theorem InS.putS {x y : Int} : ∀ {l : List Sp}, (∀ s ∈ l, s.1 < s.2) → ∀ z, x < y → (InS (putS l x y) z ↔ InS l z ∨ (x ≤ z ∧ z < y))
  | [], _, z, _ => by simp [Go.Proofs.Ytkmofpnefjgnkaa.putS, InS]
  | [s], h, z, hxy => by
    have := h s (by simp)
    unfold Go.Proofs.Ytkmofpnefjgnkaa.putS
    split
    · rename_i e
      simp only [InS.cons, InS.nil, or_false]
      omega
    · simp only [InS.cons, InS.nil, or_false]
  | s :: t :: r, h, z, hxy => by
    show InS (s :: Go.Proofs.Ytkmofpnefjgnkaa.putS (t :: r) x y) z ↔ _
    rw [InS.cons, InS.putS (fun u hu => h u (by simp [List.mem_cons.1 hu])) z hxy, InS.cons (s := s), or_assoc]
theorem putS_le {x y : Int} (hxy : x < y) : ∀ {l : List Sp}, (∀ s ∈ l, s.2 ≤ x) → ∀ s ∈ putS l x y, s.2 ≤ y
  | [], _, s, hs => by simp [Go.Proofs.Ytkmofpnefjgnkaa.putS] at hs; subst hs; exact Int.le_refl _
  | [t], h, s, hs => by
    have := h t (by simp)
    unfold Go.Proofs.Ytkmofpnefjgnkaa.putS at hs
    split at hs
    · simp at hs; subst hs; exact Int.le_refl _
    · simp at hs
      rcases hs with rfl | rfl
      · omega
      · exact Int.le_refl _
  | t :: u :: r, h, s, hs => by
    have hs' : s ∈ t :: Go.Proofs.Ytkmofpnefjgnkaa.putS (u :: r) x y := hs
    rcases List.mem_cons.1 hs' with rfl | hs'
    · have := h s (by simp); omega
    · exact putS_le hxy (fun v hv => h v (by simp [List.mem_cons.1 hv])) s hs'
theorem mix_spec {keep : Int → Bool} {p : Int → Bool} : ∀ (xs : List Int) (out : List Sp), Rise xs → CanS out → (∀ x y, (x, y) ∈ xs.zip xs.tail → ∀ z, x ≤ z → z < y → p z = keep x) → (∀ s ∈ out, ∀ x ∈ xs, s.2 ≤ x) →
    CanS (mixGo keep out xs) ∧ ∀ z, InS (mixGo keep out xs) z ↔ InS out z ∨ (p z = true ∧ ∃ a ∈ xs.head?, ∃ b ∈ xs.getLast?, a ≤ z ∧ z < b)
  | [], out, _, hc, _, _ => ⟨hc, fun z => by simp [mixGo]⟩
  | [x], out, _, hc, _, _ => ⟨hc, fun z => by simp [mixGo]; omega⟩
  | x :: y :: r, out, hr, hc, hk, hb => by
    have hxy : x < y := hr.1
    have hkx : ∀ z, x ≤ z → z < y → p z = keep x := hk x y (by simp)
    have hk' : ∀ a b, (a, b) ∈ (y :: r).zip (y :: r).tail → ∀ z, a ≤ z → z < b → p z = keep a := fun a b hab => hk a b (by simp only [List.tail_cons, List.zip_cons_cons] at *; exact List.mem_cons_of_mem _ hab)
    have hlast : ∃ b, (y :: r).getLast? = some b ∧ y ≤ b := by
      cases hg : (y :: r).getLast? with
      | none => simp at hg
      | some b =>
        refine ⟨b, rfl, ?_⟩
        have hm := List.mem_of_getLast? hg
        rcases List.mem_cons.1 hm with rfl | hm
        · exact Int.le_refl _
        · have := hr.2.above b hm; omega
    obtain ⟨b, hgb, hyb⟩ := hlast
    have hg2 : (x :: y :: r).getLast? = some b := by rw [List.getLast?_cons_cons]; exact hgb
    have ho : ∀ s ∈ out, s.1 < s.2 := by
      intro s hs
      have : ∀ (l : List Sp), CanS l → ∀ s ∈ l, s.1 < s.2 := by
        intro l
        cases l with
        | nil => simp
        | cons u l =>
          intro h s hs
          rcases List.mem_cons.1 hs with rfl | hs
          · exact h.pos
          · exact (h.above s hs).2
      exact this out hc s hs
    unfold mixGo
    cases hkp : keep x
    · rw [if_neg (by simp)]
      obtain ⟨h1, h2⟩ := mix_spec (keep := keep) (p := p) (y :: r) out hr.2 hc hk' (fun s hs u hu => hb s hs u (by simp [List.mem_cons.1 hu]))
      refine ⟨h1, fun z => ?_⟩
      rw [h2 z, hg2, hgb]
      simp only [List.head?_cons, Option.mem_def, Option.some.injEq, exists_eq_left']
      constructor
      · rintro (h | ⟨h3, h4, h5⟩)
        · exact .inl h
        · exact .inr ⟨h3, by omega, h5⟩
      · rintro (h | ⟨h3, h4, h5⟩)
        · exact .inl h
        · rcases Int.lt_or_le z y with hz | hz
          · rw [hkx z h4 hz, hkp] at h3; cases h3
          · exact .inr ⟨h3, hz, h5⟩
    · rw [if_pos rfl]
      have hbx : ∀ s ∈ out, s.2 ≤ x := fun s hs => hb s hs x (by simp)
      have hle := putS_le hxy hbx
      obtain ⟨h1, h2⟩ := mix_spec (keep := keep) (p := p) (y :: r) (putS out x y) hr.2 (hc.putS hxy hbx) hk' (fun s hs u hu => by
        have := hle s hs
        rcases List.mem_cons.1 hu with rfl | hu
        · exact this
        · have := hr.2.above u hu; omega)
      refine ⟨h1, fun z => ?_⟩
      rw [h2 z, hg2, hgb, InS.putS ho z hxy]
      simp only [List.head?_cons, Option.mem_def, Option.some.injEq, exists_eq_left']
      constructor
      · rintro ((h | ⟨h3, h4⟩) | ⟨h3, h4, h5⟩)
        · exact .inl h
        · exact .inr ⟨by rw [hkx z h3 h4, hkp], h3, by omega⟩
        · exact .inr ⟨h3, by omega, h5⟩
      · rintro (h | ⟨h3, h4, h5⟩)
        · exact .inl (.inl h)
        · rcases Int.lt_or_le z y with hz | hz
          · exact .inl (.inr ⟨h4, hz⟩)
          · exact .inr ⟨h3, hz, h5⟩
/-! ### rectangles as sets of places (those that may be: sides not below 0) -/
def hasR (q : Re) (x y : Int) : Bool := decide (q.x ≤ x) && decide (x < q.x + q.wd) && decide (q.y ≤ y) && decide (y < q.y + q.ht)
def hasL (l : List Re) (x y : Int) : Bool := l.any fun q => hasR q x y
def noneR (q : Re) : Bool := decide (q.wd = 0) || decide (q.ht = 0)
def inRow (q : Re) (y : Int) : Bool := decide (q.y ≤ y) && decide (y < q.y + q.ht)
def edgY (to : List Int) (q : Re) : List Int := if noneR q then to else edgeI (edgeI to q.y) (q.y + q.ht)
def edgX (y : Int) (to : List Int) (q : Re) : List Int := if noneR q then to else if inRow q y then edgeI (edgeI to q.x) (q.x + q.wd) else to
def edgesY (a b : List Re) : List Int := b.foldl edgY (a.foldl edgY [])
def edgesX (a b : List Re) (y : Int) : List Int := b.foldl (edgX y) (a.foldl (edgX y) [])
/-- What is made of two: 1 joined, 2 met, 3 less. -/
def wantB (what : Int) (one other : Bool) : Bool := if what = 1 then one || other else if what = 2 then one && other else one && !other
def keptB (a b : List Re) (what x y : Int) : Bool := wantB what (hasL a x y) (hasL b x y)
/-- The spans of a row. -/
def spansP (a b : List Re) (what y : Int) : List Sp := mixGo (fun x => keptB a b what x y) [] (edgesX a b y)
def Sane (l : List Re) : Prop := ∀ q ∈ l, 0 ≤ q.wd ∧ 0 ≤ q.ht
theorem foldl_rise {α : Type} {f : List Int → α → List Int} (hf : ∀ t q, Rise t → Rise (f t q)) : ∀ (l : List α) (t : List Int), Rise t → Rise (l.foldl f t)
  | [], _, h => h
  | q :: l, t, h => foldl_rise hf l _ (hf t q h)
theorem foldl_mem {α : Type} {f : List Int → α → List Int} {g : α → Int → Prop} (hf : ∀ t q x, x ∈ f t q ↔ x ∈ t ∨ g q x) : ∀ (l : List α) (t : List Int) (x : Int), x ∈ l.foldl f t ↔ x ∈ t ∨ ∃ q ∈ l, g q x
  | [], t, x => by simp
  | q :: l, t, x => by
    rw [List.foldl_cons, foldl_mem hf l, hf]
    simp only [List.mem_cons, exists_eq_or_imp, or_assoc]
theorem edgY_rise (t : List Int) (q : Re) (h : Rise t) : Rise (edgY t q) := by
  unfold edgY; split
  · exact h
  · exact edgeI_rise (edgeI_rise h)
theorem edgX_rise (y : Int) (t : List Int) (q : Re) (h : Rise t) : Rise (edgX y t q) := by
  unfold edgX; split
  · exact h
  · split
    · exact edgeI_rise (edgeI_rise h)
    · exact h
def OnY (q : Re) (v : Int) : Prop := noneR q = false ∧ (v = q.y ∨ v = q.y + q.ht)
def OnX (y : Int) (q : Re) (v : Int) : Prop := noneR q = false ∧ inRow q y = true ∧ (v = q.x ∨ v = q.x + q.wd)
theorem mem_edgY (t : List Int) (q : Re) (x : Int) : x ∈ edgY t q ↔ x ∈ t ∨ OnY q x := by
  unfold edgY OnY
  cases noneR q
  · simp only [Bool.false_eq_true, if_false, mem_edgeI, true_and]
    constructor
    · rintro (h | h | h) <;> simp [h]
    · rintro (h | h | h) <;> simp [h]
  · simp
theorem mem_edgX (y : Int) (t : List Int) (q : Re) (x : Int) : x ∈ edgX y t q ↔ x ∈ t ∨ OnX y q x := by
  unfold edgX OnX
  cases noneR q
  · cases inRow q y
    · simp
    · simp only [Bool.false_eq_true, if_false, if_true, mem_edgeI, true_and]
      constructor
      · rintro (h | h | h) <;> simp [h]
      · rintro (h | h | h) <;> simp [h]
  · simp
theorem edgesY_rise (a b : List Re) : Rise (edgesY a b) := foldl_rise edgY_rise _ _ (foldl_rise edgY_rise _ _ trivial)
theorem edgesX_rise (a b : List Re) (y : Int) : Rise (edgesX a b y) := foldl_rise (edgX_rise y) _ _ (foldl_rise (edgX_rise y) _ _ trivial)
theorem mem_edgesY {a b : List Re} {v : Int} : v ∈ edgesY a b ↔ ∃ q ∈ a ++ b, OnY q v := by
  unfold edgesY
  rw [foldl_mem mem_edgY, foldl_mem mem_edgY]
  simp only [List.not_mem_nil, false_or, List.mem_append]
  constructor
  · rintro (⟨q, h, h'⟩ | ⟨q, h, h'⟩)
    · exact ⟨q, .inl h, h'⟩
    · exact ⟨q, .inr h, h'⟩
  · rintro ⟨q, h | h, h'⟩
    · exact .inl ⟨q, h, h'⟩
    · exact .inr ⟨q, h, h'⟩
theorem mem_edgesX {a b : List Re} {y v : Int} : v ∈ edgesX a b y ↔ ∃ q ∈ a ++ b, OnX y q v := by
  unfold edgesX
  rw [foldl_mem (mem_edgX y), foldl_mem (mem_edgX y)]
  simp only [List.not_mem_nil, false_or, List.mem_append]
  constructor
  · rintro (⟨q, h, h'⟩ | ⟨q, h, h'⟩)
    · exact ⟨q, .inl h, h'⟩
    · exact ⟨q, .inr h, h'⟩
  · rintro ⟨q, h | h, h'⟩
    · exact .inl ⟨q, h, h'⟩
    · exact .inr ⟨q, h, h'⟩
theorem rise_gap : ∀ {xs : List Int}, Rise xs → ∀ {x y : Int}, (x, y) ∈ xs.zip xs.tail → ∀ v ∈ xs, v ≤ x ∨ y ≤ v
  | [], _, _, _, h, _, _ => by simp at h
  | [_], _, _, _, h, _, _ => by simp at h
  | a :: b :: r, hr, x, y, h, v, hv => by
    simp only [List.tail_cons, List.zip_cons_cons] at h
    rcases List.mem_cons.1 h with e | h2
    · obtain ⟨rfl, rfl⟩ := Prod.mk.inj e
      rcases List.mem_cons.1 hv with rfl | hv
      · exact .inl (Int.le_refl _)
      · rcases List.mem_cons.1 hv with rfl | hv
        · exact .inr (Int.le_refl _)
        · have := hr.2.above v hv; exact .inr (by omega)
    · rcases List.mem_cons.1 hv with e | hv
      · have hx : x ∈ b :: r := (List.of_mem_zip h2).1
        have := hr.above x hx
        exact .inl (by omega)
      · exact rise_gap (xs := b :: r) hr.2 h2 v hv
theorem has_const {l : List Re} {xs : List Int} {y : Int} (hs : Sane l) (hm : ∀ q ∈ l, ∀ v, OnX y q v → v ∈ xs) (hr : Rise xs) {a b : Int} (hab : (a, b) ∈ xs.zip xs.tail) {z : Int} (h1 : a ≤ z) (h2 : z < b) : hasL l z y = hasL l a y := by
  unfold hasL
  rw [Bool.eq_iff_iff, List.any_eq_true, List.any_eq_true]
  have key : ∀ q ∈ l, (hasR q z y = true ↔ hasR q a y = true) := by
    intro q hq
    obtain ⟨s1, s2⟩ := hs q hq
    unfold hasR
    simp only [Bool.and_eq_true, decide_eq_true_eq]
    by_cases hrow : q.y ≤ y ∧ y < q.y + q.ht
    · by_cases hw : q.wd = 0
      · omega
      · have hn : noneR q = false := by unfold noneR; simp; omega
        have hi : inRow q y = true := by unfold inRow; simp; omega
        have e1 := rise_gap hr hab _ (hm q hq q.x ⟨hn, hi, .inl rfl⟩)
        have e2 := rise_gap hr hab _ (hm q hq (q.x + q.wd) ⟨hn, hi, .inr rfl⟩)
        omega
    · omega
  constructor
  · rintro ⟨q, hq, h⟩; exact ⟨q, hq, (key q hq).1 h⟩
  · rintro ⟨q, hq, h⟩; exact ⟨q, hq, (key q hq).2 h⟩
theorem rise_bounds : ∀ {xs : List Int}, Rise xs → ∀ {v : Int}, v ∈ xs → ∃ a ∈ xs.head?, ∃ b ∈ xs.getLast?, a ≤ v ∧ v ≤ b
  | [], _, _, h => by simp at h
  | [x], _, v, h => by simp at h; subst h; exact ⟨v, rfl, v, rfl, Int.le_refl _, Int.le_refl _⟩
  | x :: y :: r, hr, v, h => by
    rw [List.getLast?_cons_cons]
    obtain ⟨a, ha, b, hb, h1, h2⟩ := rise_bounds hr.2 (v := y) (by simp)
    rcases List.mem_cons.1 h with rfl | h
    · exact ⟨v, rfl, b, hb, Int.le_refl _, by have := hr.1; omega⟩
    · obtain ⟨a', ha', b', hb', h1', h2'⟩ := rise_bounds hr.2 h
      refine ⟨x, rfl, b', hb', ?_, h2'⟩
      simp at ha'
      subst ha'
      have := hr.1; omega
theorem has_within {l : List Re} {xs : List Int} {y z : Int} (hm : ∀ q ∈ l, ∀ v, OnX y q v → v ∈ xs) (hr : Rise xs) (h : hasL l z y = true) : ∃ a ∈ xs.head?, ∃ b ∈ xs.getLast?, a ≤ z ∧ z < b := by
  unfold hasL at h
  obtain ⟨q, hq, h⟩ := List.any_eq_true.1 h
  unfold hasR at h
  simp only [Bool.and_eq_true, decide_eq_true_eq] at h
  have hn : noneR q = false := by unfold noneR; simp; omega
  have hi : inRow q y = true := by unfold inRow; simp; omega
  obtain ⟨a, ha, b, hb, h1, h2⟩ := rise_bounds hr (hm q hq q.x ⟨hn, hi, .inl rfl⟩)
  obtain ⟨a', ha', b', hb', h1', h2'⟩ := rise_bounds hr (hm q hq (q.x + q.wd) ⟨hn, hi, .inr rfl⟩)
  exact ⟨a, ha, b', hb', by omega, by omega⟩
theorem want_some {what : Int} {one other : Bool} (h : wantB what one other = true) : one = true ∨ other = true := by
  unfold wantB at h
  cases one <;> cases other <;> simp at h ⊢
/-- WHAT A ROW's SPANS ARE. -/
theorem spans_spec {a b : List Re} (ha : Sane a) (hb : Sane b) (what y : Int) : CanS (spansP a b what y) ∧ ∀ x, InS (spansP a b what y) x ↔ keptB a b what x y = true := by
  have hr := edgesX_rise a b y
  have m1 : ∀ q ∈ a, ∀ v, OnX y q v → v ∈ edgesX a b y := fun q hq v h => mem_edgesX.2 ⟨q, by simp [hq], h⟩
  have m2 : ∀ q ∈ b, ∀ v, OnX y q v → v ∈ edgesX a b y := fun q hq v h => mem_edgesX.2 ⟨q, by simp [hq], h⟩
  obtain ⟨h1, h2⟩ := mix_spec (keep := fun x => keptB a b what x y) (p := fun x => keptB a b what x y) (edgesX a b y) [] hr trivial (fun x x' hx z h1 h2 => by
    show keptB a b what z y = keptB a b what x y
    unfold keptB
    rw [has_const ha m1 hr hx h1 h2, has_const hb m2 hr hx h1 h2]) (by simp)
  refine ⟨h1, fun x => ?_⟩
  show InS (mixGo (fun x => keptB a b what x y) [] (edgesX a b y)) x ↔ _
  rw [h2 x]
  constructor
  · rintro (h | h)
    · exact absurd h (InS.nil _)
    · exact h.1
  · intro h
    refine .inr ⟨h, ?_⟩
    rcases want_some h with h | h
    · exact has_within m1 hr h
    · exact has_within m2 hr h
/-! ### the program's way: rows merged, mixed -/
def inSB (l : List Sp) (x : Int) : Bool := l.any fun s => decide (s.1 ≤ x) && decide (x < s.2)
theorem inSB_iff {l : List Sp} {x : Int} : inSB l x = true ↔ InS l x := by
  unfold inSB InS
  simp [List.any_eq_true]
def mergeS : List Sp → Sp → List Sp
  | [], s => [s]
  | [t], s => if s.1 ≤ t.2 then [(t.1, max t.2 s.2)] else [t, s]
  | t :: u :: r, s => t :: mergeS (u :: r) s
theorem mergeS_spec {s : Sp} (hs : s.1 < s.2) : ∀ {l : List Sp}, CanS l → (∀ t ∈ l, t.1 ≤ s.1) → CanS (mergeS l s) ∧ (∀ t ∈ mergeS l s, t.1 ≤ s.1) ∧ (∀ x, InS (mergeS l s) x ↔ InS l x ∨ (s.1 ≤ x ∧ x < s.2)) ∧ (∀ t ∈ l.head?, ∃ u ∈ (mergeS l s).head?, u.1 = t.1)
  | [], _, _ => ⟨hs, by simp [mergeS], fun x => by simp [mergeS, InS], by simp⟩
  | [t], h, ht => by
    have h0 : t.1 < t.2 := h
    have h1 := ht t (by simp)
    unfold mergeS
    split
    · refine ⟨by show t.1 < max t.2 s.2; omega, by simp; exact h1, fun x => ?_, by simp⟩
      simp only [InS.cons, InS.nil, or_false]
      omega
    · refine ⟨⟨h0, by omega, hs⟩, by simp; exact h1, fun x => ?_, by simp⟩
      simp only [InS.cons, InS.nil, or_false]
  | t :: u :: r, h, ht => by
    obtain ⟨i1, i2, i3, i4⟩ := mergeS_spec hs h.2.2 (fun v hv => ht v (by simp [List.mem_cons.1 hv]))
    show CanS (t :: mergeS (u :: r) s) ∧ (∀ v ∈ t :: mergeS (u :: r) s, v.1 ≤ s.1) ∧ (∀ x, InS (t :: mergeS (u :: r) s) x ↔ _) ∧ _
    refine ⟨?_, ?_, fun x => ?_, fun t' ht' => ⟨t, rfl, by simp at ht'; rw [ht']⟩⟩
    · obtain ⟨v, hv, e⟩ := i4 u (by simp)
      cases hm : mergeS (u :: r) s with
      | nil => rw [hm] at hv; simp at hv
      | cons w q =>
        rw [hm] at hv i1
        simp at hv
        subst hv
        exact ⟨h.1, by rw [e]; exact h.2.1, i1⟩
    · intro v hv
      rcases List.mem_cons.1 hv with rfl | hv
      · exact ht v (by simp)
      · exact i2 v hv
    · rw [InS.cons, i3, InS.cons (s := t), or_assoc]
/-- The spans that rectangles have in a row. -/
def rowS (l : List Re) (y : Int) : List Sp := (l.filter fun q => inRow q y && decide (0 < q.wd)).map fun q => (q.x, q.x + q.wd)
theorem rowS_in {l : List Re} {x y : Int} : InS (rowS l y) x ↔ hasL l x y = true := by
  unfold rowS InS hasL
  rw [List.any_eq_true]
  constructor
  · rintro ⟨s, hs, h1, h2⟩
    obtain ⟨q, hq, rfl⟩ := List.mem_map.1 hs
    obtain ⟨hq, h⟩ := List.mem_filter.1 hq
    refine ⟨q, hq, ?_⟩
    unfold inRow at h
    unfold hasR
    simp only [Bool.and_eq_true, decide_eq_true_eq] at h ⊢
    simp only at h1 h2
    omega
  · rintro ⟨q, hq, h⟩
    unfold hasR at h
    simp only [Bool.and_eq_true, decide_eq_true_eq] at h
    refine ⟨(q.x, q.x + q.wd), List.mem_map.2 ⟨q, List.mem_filter.2 ⟨hq, ?_⟩, rfl⟩, by simp only; omega, by simp only; omega⟩
    unfold inRow
    simp only [Bool.and_eq_true, decide_eq_true_eq]
    omega
theorem rowS_pos {l : List Re} {y : Int} : ∀ s ∈ rowS l y, s.1 < s.2 := by
  intro s hs
  unfold rowS at hs
  obtain ⟨q, hq, rfl⟩ := List.mem_map.1 hs
  obtain ⟨_, h⟩ := List.mem_filter.1 hq
  simp only [Bool.and_eq_true, decide_eq_true_eq] at h
  simp only; omega
def RiseF : List Sp → Prop
  | [] => True
  | s :: r => (∀ t ∈ r, s.1 ≤ t.1) ∧ RiseF r
theorem fold_merge : ∀ (m acc : List Sp), (∀ s ∈ m, s.1 < s.2) → RiseF m → CanS acc → (∀ t ∈ acc, ∀ s ∈ m, t.1 ≤ s.1) → CanS (m.foldl mergeS acc) ∧ ∀ x, InS (m.foldl mergeS acc) x ↔ InS acc x ∨ InS m x
  | [], acc, _, _, h, _ => ⟨h, fun x => by simp [InS]⟩
  | s :: m, acc, hp, hr, h, ha => by
    obtain ⟨i1, i2, i3, _⟩ := mergeS_spec (hp s (by simp)) h (fun t ht => ha t ht s (by simp))
    obtain ⟨j1, j2⟩ := fold_merge m (mergeS acc s) (fun t ht => hp t (by simp [ht])) hr.2 i1 (fun t ht u hu => by
      have := i2 t ht; have := hr.1 u hu; omega)
    refine ⟨j1, fun x => ?_⟩
    rw [List.foldl_cons, j2, i3, InS.cons, or_assoc]
/-- A row of the program's: sorted by their beginnings, merged. -/
theorem row_spec {l : List Re} {y : Int} {m : List Sp} (hp : m.Perm (rowS l y)) (hr : RiseF m) : CanS (m.foldl mergeS []) ∧ ∀ x, InS (m.foldl mergeS []) x ↔ hasL l x y = true := by
  obtain ⟨h1, h2⟩ := fold_merge m [] (fun s hs => rowS_pos s (hp.mem_iff.1 hs)) hr trivial (by simp)
  refine ⟨h1, fun x => ?_⟩
  rw [h2, ← rowS_in]
  constructor
  · rintro (h | ⟨s, hs, h⟩)
    · exact absurd h (InS.nil _)
    · exact ⟨s, hp.mem_iff.1 hs, h⟩
  · rintro ⟨s, hs, h⟩
    exact .inr ⟨s, hp.mem_iff.2 hs, h⟩
def endsS (l : List Sp) : List Int := l.flatMap fun s => [s.1, s.2]
theorem mem_endsS {l : List Sp} {v : Int} : v ∈ endsS l ↔ ∃ s ∈ l, v = s.1 ∨ v = s.2 := by
  unfold endsS
  simp [List.mem_flatMap]
theorem CanS.all_pos : ∀ {l : List Sp}, CanS l → ∀ s ∈ l, s.1 < s.2
  | [], _, s, hs => by simp at hs
  | u :: l, h, s, hs => by
    rcases List.mem_cons.1 hs with rfl | hs
    · exact h.pos
    · exact (h.above s hs).2
theorem in_const {l : List Sp} {xs : List Int} (hm : ∀ v ∈ endsS l, v ∈ xs) (hr : Rise xs) {a b : Int} (hab : (a, b) ∈ xs.zip xs.tail) {z : Int} (h1 : a ≤ z) (h2 : z < b) : inSB l z = inSB l a := by
  rw [Bool.eq_iff_iff, inSB_iff, inSB_iff]
  have key : ∀ s ∈ l, ((s.1 ≤ z ∧ z < s.2) ↔ (s.1 ≤ a ∧ a < s.2)) := by
    intro s hs
    have e1 := rise_gap hr hab _ (hm s.1 (mem_endsS.2 ⟨s, hs, .inl rfl⟩))
    have e2 := rise_gap hr hab _ (hm s.2 (mem_endsS.2 ⟨s, hs, .inr rfl⟩))
    omega
  constructor
  · rintro ⟨s, hs, h⟩; exact ⟨s, hs, (key s hs).1 h⟩
  · rintro ⟨s, hs, h⟩; exact ⟨s, hs, (key s hs).2 h⟩
theorem in_within {l : List Sp} {xs : List Int} {z : Int} (hm : ∀ v ∈ endsS l, v ∈ xs) (hr : Rise xs) (h : inSB l z = true) : ∃ a ∈ xs.head?, ∃ b ∈ xs.getLast?, a ≤ z ∧ z < b := by
  obtain ⟨s, hs, h1, h2⟩ := inSB_iff.1 h
  obtain ⟨a, ha, b, hb, a1, a2⟩ := rise_bounds hr (hm s.1 (mem_endsS.2 ⟨s, hs, .inl rfl⟩))
  obtain ⟨a', ha', b', hb', b1, b2⟩ := rise_bounds hr (hm s.2 (mem_endsS.2 ⟨s, hs, .inr rfl⟩))
  exact ⟨a, ha, b', hb', by omega, by omega⟩
theorem mixed_spec {sa sb : List Sp} {xs : List Int} (hr : Rise xs) (hx : ∀ v, v ∈ xs ↔ v ∈ endsS sa ++ endsS sb) (what : Int) :
    CanS (mixGo (fun x => wantB what (inSB sa x) (inSB sb x)) [] xs) ∧ ∀ x, InS (mixGo (fun x => wantB what (inSB sa x) (inSB sb x)) [] xs) x ↔ wantB what (inSB sa x) (inSB sb x) = true := by
  have m1 : ∀ v ∈ endsS sa, v ∈ xs := fun v hv => (hx v).2 (by simp [hv])
  have m2 : ∀ v ∈ endsS sb, v ∈ xs := fun v hv => (hx v).2 (by simp [hv])
  obtain ⟨h1, h2⟩ := mix_spec (keep := fun x => wantB what (inSB sa x) (inSB sb x)) (p := fun x => wantB what (inSB sa x) (inSB sb x)) xs [] hr trivial (fun x x' hx z h1 h2 => by
    show wantB what (inSB sa z) (inSB sb z) = wantB what (inSB sa x) (inSB sb x)
    rw [in_const m1 hr hx h1 h2, in_const m2 hr hx h1 h2]) (by simp)
  refine ⟨h1, fun x => ?_⟩
  rw [h2 x]
  constructor
  · rintro (h | h)
    · exact absurd h (InS.nil _)
    · exact h.1
  · intro h
    refine .inr ⟨h, ?_⟩
    rcases want_some h with h | h
    · exact in_within m1 hr h
    · exact in_within m2 hr h
/-- THE PROGRAM's MIXED ROW IS THE DOCUMENT's. -/
theorem mixed_eq {a b : List Re} (ha : Sane a) (hb : Sane b) {what y : Int} {sa sb : List Sp} {xs : List Int} (h1 : ∀ x, InS sa x ↔ hasL a x y = true) (h2 : ∀ x, InS sb x ↔ hasL b x y = true) (hr : Rise xs) (hx : ∀ v, v ∈ xs ↔ v ∈ endsS sa ++ endsS sb) :
    mixGo (fun x => wantB what (inSB sa x) (inSB sb x)) [] xs = spansP a b what y := by
  obtain ⟨c1, c2⟩ := mixed_spec hr hx what (sa := sa) (sb := sb)
  obtain ⟨d1, d2⟩ := spans_spec ha hb what y
  refine canS_unique c1 d1 (fun x => ?_)
  rw [c2, d2]
  unfold keptB
  have e1 : inSB sa x = hasL a x y := by rw [Bool.eq_iff_iff, inSB_iff]; exact h1 x
  have e2 : inSB sb x = hasL b x y := by rw [Bool.eq_iff_iff, inSB_iff]; exact h2 x
  rw [e1, e2]
/-! ### bands -/
def rectsOf (y h : Int) (l : List Sp) : List Re := l.map fun s => ⟨s.1, y, s.2 - s.1, h⟩
/-- What the bands come to from a list of rows on: 'last' is the band's that is open, from 'frm' on. -/
def bandGo (now : Int → List Sp) : List Sp → Int → List Int → List (Int × Int × List Sp)
  | last, frm, y :: z :: r => if now y = last then bandGo now last frm (z :: r) else (if last = [] then [] else [(frm, y - frm, last)]) ++ bandGo now (now y) y (z :: r)
  | last, frm, [y] => if last = [] then [] else [(frm, y - frm, last)]
  | _, _, [] => []
def bandsP (a b : List Re) (what : Int) : List (Int × Int × List Sp) := bandGo (fun y => spansP a b what y) [] 0 (edgesY a b)
def flatB (l : List (Int × Int × List Sp)) : List Re := l.flatMap fun t => rectsOf t.1 t.2.1 t.2.2
/-- The form. -/
def formR (a b : List Re) (what : Int) : List Re := flatB (bandsP a b what)
def madeE (a b : List Re) (what : Int) : Int := if (formR a b what).length > 1024 then 4 else 0
def madeL (a b : List Re) (what : Int) : List Re := if (formR a b what).length > 1024 then [] else formR a b what
/-! ### the document's way with bands -/
def growL (out : List Re) (k : Nat) (d : Int) : List Re := out.take (out.length - k) ++ (out.drop (out.length - k)).map fun q => ⟨q.x, q.y, q.wd, q.ht + d⟩
def refGo (now : Int → List Sp) : List Re → List Sp → List Int → List Re
  | out, last, y :: z :: r => if now y = last then refGo now (growL out last.length (z - y)) last (z :: r) else refGo now (out ++ rectsOf y (z - y) (now y)) (now y) (z :: r)
  | out, _, _ => out
theorem flatB_append (l m : List (Int × Int × List Sp)) : flatB (l ++ m) = flatB l ++ flatB m := by unfold flatB; rw [List.flatMap_append]
theorem flatB_if (y h : Int) (l : List Sp) : flatB (if l = [] then [] else [(y, h, l)]) = rectsOf y h l := by
  split
  · rename_i e; subst e; rfl
  · simp [flatB]
theorem growL_rects (done : List Re) (y h d : Int) (l : List Sp) : growL (done ++ rectsOf y h l) l.length d = done ++ rectsOf y (h + d) l := by
  have e : (done ++ rectsOf y h l).length - l.length = done.length := by simp [rectsOf]
  unfold growL
  rw [e, List.take_left, List.drop_left]
  simp [rectsOf]
theorem refGo_band (now : Int → List Sp) : ∀ (r : List Int) (y : Int) (done : List Re) (last : List Sp) (frm : Int), refGo now (done ++ rectsOf frm (y - frm) last) last (y :: r) = done ++ flatB (bandGo now last frm (y :: r))
  | [], y, done, last, frm => by
    show done ++ rectsOf frm (y - frm) last = done ++ flatB (if last = [] then [] else [(frm, y - frm, last)])
    rw [flatB_if]
  | z :: r, y, done, last, frm => by
    show (if now y = last then refGo now (growL (done ++ rectsOf frm (y - frm) last) last.length (z - y)) last (z :: r) else refGo now ((done ++ rectsOf frm (y - frm) last) ++ rectsOf y (z - y) (now y)) (now y) (z :: r)) = done ++ flatB (if now y = last then bandGo now last frm (z :: r) else (if last = [] then [] else [(frm, y - frm, last)]) ++ bandGo now (now y) y (z :: r))
    split
    · rw [growL_rects, show y - frm + (z - y) = z - frm by omega]
      exact refGo_band now r z done last frm
    · rw [refGo_band now r z (done ++ rectsOf frm (y - frm) last) (now y) y, flatB_append, flatB_if, List.append_assoc]
theorem refGo_form (now : Int → List Sp) (ys : List Int) : refGo now [] [] ys = flatB (bandGo now [] 0 ys) := by
  cases ys with
  | nil => rfl
  | cons y r => exact refGo_band now r y [] [] 0
theorem growL_len (out : List Re) (k : Nat) (d : Int) : (growL out k d).length = out.length := by unfold growL; simp
theorem refGo_le (now : Int → List Sp) : ∀ (ys : List Int) (out : List Re) (last : List Sp), out.length ≤ (refGo now out last ys).length
  | [], _, _ => Nat.le_refl _
  | [_], _, _ => Nat.le_refl _
  | y :: z :: r, out, last => by
    unfold refGo
    split
    · have := refGo_le now (z :: r) (growL out last.length (z - y)) last
      rw [growL_len] at this; exact this
    · have := refGo_le now (z :: r) (out ++ rectsOf y (z - y) (now y)) (now y)
      rw [List.length_append] at this; omega
/-! ### areas -/
def sumI : List Int → Int
  | [] => 0
  | a :: r => a + sumI r
theorem sumI_append (a b : List Int) : sumI (a ++ b) = sumI a + sumI b := by
  induction a with
  | nil => simp [sumI]
  | cons x a ih => simp only [List.cons_append, sumI, ih]; omega
def areaQ (q : Re) : Int := q.wd * q.ht
def areaM (l : List Re) : Int := sumI (l.map areaQ)
theorem areaM_append (a b : List Re) : areaM (a ++ b) = areaM a + areaM b := by unfold areaM; rw [List.map_append, sumI_append]
def widS (l : List Sp) : Int := sumI (l.map fun s => s.2 - s.1)
theorem areaM_rects (y h : Int) (l : List Sp) : areaM (rectsOf y h l) = widS l * h := by
  unfold areaM rectsOf widS
  induction l with
  | nil => simp [sumI]
  | cons s l ih =>
    simp only [List.map_cons, sumI, areaQ] at ih ⊢
    rw [Int.add_mul, ih]
/-- The document's sum. -/
def refArea (now : Int → List Sp) : List Int → Int
  | y :: z :: r => widS (now y) * (z - y) + refArea now (z :: r)
  | _ => 0
theorem band_area (now : Int → List Sp) : ∀ (r : List Int) (y : Int) (last : List Sp) (frm : Int), areaM (flatB (bandGo now last frm (y :: r))) = widS last * (y - frm) + refArea now (y :: r)
  | [], y, last, frm => by
    show areaM (flatB (if last = [] then [] else [(frm, y - frm, last)])) = _
    rw [flatB_if, areaM_rects]
    simp [refArea]
  | z :: r, y, last, frm => by
    show areaM (flatB (if now y = last then bandGo now last frm (z :: r) else (if last = [] then [] else [(frm, y - frm, last)]) ++ bandGo now (now y) y (z :: r))) = widS last * (y - frm) + (widS (now y) * (z - y) + refArea now (z :: r))
    split
    · rename_i e
      rw [band_area now r z last frm, e, show z - frm = (y - frm) + (z - y) by omega, Int.mul_add]; omega
    · rw [flatB_append, flatB_if, areaM_append, areaM_rects, band_area now r z (now y) y]
theorem form_area (now : Int → List Sp) (ys : List Int) : areaM (flatB (bandGo now [] 0 ys)) = refArea now ys := by
  cases ys with
  | nil => rfl
  | cons y r =>
    rw [band_area]
    simp [widS, sumI]
/-! ### rows alone -/
theorem row_alone {a : List Re} (ha : Sane a) {y : Int} {sa : List Sp} (hc : CanS sa) (h : ∀ x, InS sa x ↔ hasL a x y = true) : sa = spansP a [] 1 y := by
  obtain ⟨d1, d2⟩ := spans_spec ha (fun q hq => by simp at hq) 1 y (b := [])
  refine canS_unique hc d1 (fun x => ?_)
  rw [d2, h]
  unfold keptB wantB
  simp [hasL]
def sameR (a b : List Re) : Bool := (edgesY a b).all fun y => decide (spansP a [] 1 y = spansP b [] 1 y)
theorem spans_nil {a b : List Re} {what y : Int} (h : ∀ v, v ∉ edgesX a b y) : spansP a b what y = [] := by
  unfold spansP
  cases he : edgesX a b y with
  | nil => rfl
  | cons x r => exact absurd (by rw [he]; simp) (h x)
theorem last_empty {a b : List Re} {v : Int} (hs : Sane (a ++ b)) (h : (edgesY a b).getLast? = some v) : spansP a [] 1 v = [] ∧ spansP b [] 1 v = [] := by
  have key : ∀ q ∈ a ++ b, ∀ u, ¬ OnX v q u := by
    rintro q hq u ⟨h1, h2, _⟩
    unfold inRow at h2
    simp only [Bool.and_eq_true, decide_eq_true_eq] at h2
    have hm : q.y + q.ht ∈ edgesY a b := mem_edgesY.2 ⟨q, hq, h1, .inr rfl⟩
    obtain ⟨_, _, b', hb', _, h3⟩ := rise_bounds (edgesY_rise a b) hm
    rw [h] at hb'
    simp at hb'
    omega
  constructor
  · refine spans_nil fun u hu => ?_
    obtain ⟨q, hq, ho⟩ := mem_edgesX.1 hu
    exact key q (by simp at hq ⊢; exact .inl hq) u ho
  · refine spans_nil fun u hu => ?_
    obtain ⟨q, hq, ho⟩ := mem_edgesX.1 hu
    exact key q (by simp at hq ⊢; exact .inr hq) u ho
theorem same_dropLast {a b : List Re} (hs : Sane (a ++ b)) : sameR a b = (edgesY a b).dropLast.all fun y => decide (spansP a [] 1 y = spansP b [] 1 y) := by
  unfold sameR
  rcases List.eq_nil_or_concat (edgesY a b) with h | ⟨l, v, h⟩
  · rw [h]; rfl
  · rw [h, List.concat_eq_append, List.dropLast_concat, List.all_append]
    obtain ⟨e1, e2⟩ := last_empty hs (v := v) (by rw [h]; simp)
    simp [e1, e2]
end
section
set_option linter.unusedSimpArgs false
/-! ### forms as sets of places -/
abbrev Bd := Int × Int × List Sp
def OnB (l : List Bd) (x z : Int) : Prop := ∃ t ∈ l, t.1 ≤ z ∧ z < t.1 + t.2.1 ∧ InS t.2.2 x
def GoodB (t : Bd) : Prop := 0 < t.2.1 ∧ t.2.2 ≠ [] ∧ CanS t.2.2
def CanB : List Bd → Prop
  | [] => True
  | [t] => GoodB t
  | t :: u :: r => GoodB t ∧ t.1 + t.2.1 ≤ u.1 ∧ (t.1 + t.2.1 = u.1 → t.2.2 ≠ u.2.2) ∧ CanB (u :: r)
theorem CanB.tail {t : Bd} {r : List Bd} (h : CanB (t :: r)) : CanB r := by
  cases r with
  | nil => trivial
  | cons u r => exact h.2.2.2
theorem CanB.good {t : Bd} {r : List Bd} (h : CanB (t :: r)) : GoodB t := by
  cases r with
  | nil => exact h
  | cons u r => exact h.1
theorem CanB.above {t : Bd} {r : List Bd} (h : CanB (t :: r)) : ∀ u ∈ r, t.1 + t.2.1 ≤ u.1 ∧ GoodB u := by
  induction r generalizing t with
  | nil => simp
  | cons v r ih =>
    intro u hu
    rcases List.mem_cons.1 hu with rfl | hu
    · exact ⟨h.2.1, h.2.2.2.good⟩
    · have := ih h.2.2.2 u hu
      have := h.2.1
      have := h.2.2.2.good.1
      exact ⟨by omega, (ih h.2.2.2 u hu).2⟩
theorem OnB.nil (x z : Int) : ¬ OnB [] x z := by simp [OnB]
theorem OnB.cons {t : Bd} {r : List Bd} {x z : Int} : OnB (t :: r) x z ↔ (t.1 ≤ z ∧ z < t.1 + t.2.1 ∧ InS t.2.2 x) ∨ OnB r x z := by simp [OnB]
theorem OnB.append {l m : List Bd} {x z : Int} : OnB (l ++ m) x z ↔ OnB l x z ∨ OnB m x z := by
  unfold OnB
  simp only [List.mem_append]
  constructor
  · rintro ⟨t, h | h, h'⟩
    · exact .inl ⟨t, h, h'⟩
    · exact .inr ⟨t, h, h'⟩
  · rintro (⟨t, h, h'⟩ | ⟨t, h, h'⟩)
    · exact ⟨t, .inl h, h'⟩
    · exact ⟨t, .inr h, h'⟩
theorem CanS.some {l : List Sp} (h : CanS l) (hn : l ≠ []) : ∃ x, InS l x := by
  cases l with
  | nil => exact absurd rfl hn
  | cons s r => exact ⟨s.1, InS.cons.2 (.inl ⟨Int.le_refl _, h.pos⟩)⟩
theorem CanB.below_ {t : Bd} {r : List Bd} (h : CanB (t :: r)) {x z : Int} (hz : z < t.1 + t.2.1) : ¬ OnB r x z := by
  rintro ⟨u, hu, h1, _⟩
  have := (h.above u hu).1
  omega
theorem canB_unique : ∀ {l m : List Bd}, CanB l → CanB m → (∀ x z, OnB l x z ↔ OnB m x z) → l = m
  | [], [], _, _, _ => rfl
  | [], t :: r, _, hm, h => by
    obtain ⟨x, hx⟩ := hm.good.2.2.some hm.good.2.1
    have := hm.good.1
    exact absurd ((h x t.1).2 (OnB.cons.2 (.inl ⟨Int.le_refl _, by omega, hx⟩))) (OnB.nil _ _)
  | t :: r, [], hl, _, h => by
    obtain ⟨x, hx⟩ := hl.good.2.2.some hl.good.2.1
    have := hl.good.1
    exact absurd ((h x t.1).1 (OnB.cons.2 (.inl ⟨Int.le_refl _, by omega, hx⟩))) (OnB.nil _ _)
  | t :: r, u :: q, hl, hm, h => by
    obtain ⟨gt1, gt2, gt3⟩ := hl.good
    obtain ⟨gu1, gu2, gu3⟩ := hm.good
    obtain ⟨xt, hxt⟩ := gt3.some gt2
    obtain ⟨xu, hxu⟩ := gu3.some gu2
    have lo : ∀ {v : Bd} {w : List Bd}, CanB (v :: w) → ∀ x z, OnB (v :: w) x z → v.1 ≤ z := by
      intro v w hv x z ho
      rcases OnB.cons.1 ho with h' | ⟨k, hk, h1, _⟩
      · exact h'.1
      · have := (hv.above k hk).1; have := hv.good.1; omega
    have a1 := lo hm _ _ ((h xt t.1).1 (OnB.cons.2 (.inl ⟨Int.le_refl _, by omega, hxt⟩)))
    have a2 := lo hl _ _ ((h xu u.1).2 (OnB.cons.2 (.inl ⟨Int.le_refl _, by omega, hxu⟩)))
    have e1 : t.1 = u.1 := by omega
    have e2 : t.2.2 = u.2.2 := by
      refine canS_unique gt3 gu3 (fun x => ?_)
      constructor
      · intro hx
        rcases OnB.cons.1 ((h x t.1).1 (OnB.cons.2 (.inl ⟨Int.le_refl _, by omega, hx⟩))) with h' | h'
        · exact h'.2.2
        · exact absurd h' (hm.below_ (by omega))
      · intro hx
        rcases OnB.cons.1 ((h x t.1).2 (OnB.cons.2 (.inl ⟨by omega, by omega, hx⟩))) with h' | h'
        · exact h'.2.2
        · exact absurd h' (hl.below_ (by omega))
    have up : ∀ {v k : Bd} {w p : List Bd}, CanB (v :: w) → CanB (k :: p) → v.1 = k.1 → v.2.2 = k.2.2 → (∀ x z, OnB (v :: w) x z ↔ OnB (k :: p) x z) → k.2.1 ≤ v.2.1 := by
      intro v k w p hv hk e e' hh
      rcases Int.lt_or_le v.2.1 k.2.1 with hlt | hle
      · exfalso
        have hvp := hv.good.1
        cases w with
        | nil =>
          obtain ⟨x, hx⟩ := hk.good.2.2.some hk.good.2.1
          have := (hh x (v.1 + v.2.1)).2 (OnB.cons.2 (.inl ⟨by omega, by omega, hx⟩))
          rcases OnB.cons.1 this with h' | h'
          · omega
          · exact OnB.nil _ _ h'
        | cons n w =>
          by_cases hn : n.1 = v.1 + v.2.1
          · have hg := hv.2.2.2.good
            have : v.2.2 = n.2.2 := by
              rw [e']
              refine canS_unique hk.good.2.2 hg.2.2 (fun x => ?_)
              constructor
              · intro hx
                have := (hh x n.1).2 (OnB.cons.2 (.inl ⟨by omega, by omega, hx⟩))
                rcases OnB.cons.1 this with h' | h'
                · omega
                · rcases OnB.cons.1 h' with h' | h'
                  · exact h'.2.2
                  · exact absurd h' (hv.2.2.2.below_ (by have := hg.1; omega))
              · intro hx
                have := (hh x n.1).1 (OnB.cons.2 (.inr (OnB.cons.2 (.inl ⟨Int.le_refl _, by have := hg.1; omega, hx⟩))))
                rcases OnB.cons.1 this with h' | h'
                · exact h'.2.2
                · exact absurd h' (hk.below_ (by omega))
            exact hv.2.2.1 hn.symm this
          · have hge := hv.2.1
            obtain ⟨x, hx⟩ := hk.good.2.2.some hk.good.2.1
            have := (hh x (v.1 + v.2.1)).2 (OnB.cons.2 (.inl ⟨by omega, by omega, hx⟩))
            rcases OnB.cons.1 this with h' | h'
            · omega
            · have := lo hv.2.2.2 _ _ h'
              omega
      · exact hle
    have b1 := up hl hm e1 e2 h
    have b2 := up hm hl e1.symm e2.symm (fun x z => (h x z).symm)
    obtain rfl : t = u := by
      obtain ⟨t1, t2, t3⟩ := t
      obtain ⟨u1, u2, u3⟩ := u
      simp only at e1 e2 b1 b2
      rw [e1, e2, show t2 = u2 by omega]
    have : r = q := canB_unique hl.tail hm.tail (fun x z => by
      constructor
      · intro hx
        rcases OnB.cons.1 ((h x z).1 (OnB.cons.2 (.inr hx))) with h' | h'
        · exact absurd hx (hl.below_ h'.2.1)
        · exact h'
      · intro hx
        rcases OnB.cons.1 ((h x z).2 (OnB.cons.2 (.inr hx))) with h' | h'
        · exact absurd hx (hm.below_ h'.2.1)
        · exact h')
    rw [this]
theorem canB_cons {t : Bd} {l : List Bd} (ht : GoodB t) (hl : CanB l) (h : ∀ u ∈ l.head?, t.1 + t.2.1 ≤ u.1 ∧ (t.1 + t.2.1 = u.1 → t.2.2 ≠ u.2.2)) : CanB (t :: l) := by
  cases l with
  | nil => exact ht
  | cons u r => obtain ⟨h1, h2⟩ := h u rfl; exact ⟨ht, h1, h2, hl⟩
/-- The bands from an open one on. 'N' says what each row holds. -/
theorem band_spec {now N : Int → List Sp} (hc : ∀ y, CanS (now y)) : ∀ (r : List Int) (y : Int) (last : List Sp) (frm : Int), Rise (y :: r) → (∀ a b, (a, b) ∈ (y :: r).zip r → ∀ z, a ≤ z → z < b → N z = now a) → CanS last → (last ≠ [] → frm < y) →
    CanB (bandGo now last frm (y :: r)) ∧ (∀ x z, OnB (bandGo now last frm (y :: r)) x z ↔ (frm ≤ z ∧ z < y ∧ InS last x) ∨ (y ≤ z ∧ (∃ b ∈ (y :: r).getLast?, z < b) ∧ InS (N z) x)) ∧ (∀ t ∈ (bandGo now last frm (y :: r)).head?, if last = [] then y ≤ t.1 else t.1 = frm ∧ t.2.2 = last)
  | [], y, last, frm, _, _, hl, hf => by
    show CanB (if last = [] then [] else [(frm, y - frm, last)]) ∧ (∀ x z, OnB (if last = [] then [] else [(frm, y - frm, last)]) x z ↔ _) ∧ (∀ t ∈ (if last = [] then [] else [(frm, y - frm, last)]).head?, _)
    by_cases e : last = []
    · subst e
      refine ⟨trivial, fun x z => ?_, by simp⟩
      simp only [if_pos, OnB.nil, InS.nil, List.getLast?_singleton, Option.mem_def, Option.some.injEq, exists_eq_left', false_iff, and_false, false_or]
      omega
    · rw [if_neg e]
      have := hf e
      refine ⟨⟨by show 0 < y - frm; omega, e, hl⟩, fun x z => ?_, fun t ht => ?_⟩
      · simp only [OnB.cons, OnB.nil, or_false, List.getLast?_singleton, Option.mem_def, Option.some.injEq, exists_eq_left']
        constructor
        · rintro ⟨h1, h2, h3⟩; exact .inl ⟨h1, by omega, h3⟩
        · rintro (⟨h1, h2, h3⟩ | h)
          · exact ⟨h1, by omega, h3⟩
          · omega
      · simp at ht
        rw [if_neg e, ← ht]
        exact ⟨rfl, rfl⟩
  | z :: r, y, last, frm, hr, hN, hl, hf => by
    have hyz : y < z := hr.1
    have hN1 : ∀ v, y ≤ v → v < z → N v = now y := hN y z (by simp)
    have hN' : ∀ a b, (a, b) ∈ (z :: r).zip r → ∀ v, a ≤ v → v < b → N v = now a := fun a b hab => hN a b (by simp only [List.zip_cons_cons]; exact List.mem_cons_of_mem _ hab)
    have hlast : ∃ b, (z :: r).getLast? = some b ∧ z ≤ b := by
      obtain ⟨_, _, b, hb, _, h⟩ := rise_bounds hr.2 (v := z) (by simp)
      exact ⟨b, hb, h⟩
    obtain ⟨b, hgb, hzb⟩ := hlast
    have hg2 : (y :: z :: r).getLast? = some b := by rw [List.getLast?_cons_cons]; exact hgb
    by_cases e : now y = last
    · have e0 : bandGo now last frm (y :: z :: r) = bandGo now last frm (z :: r) := by
        show (if now y = last then _ else _) = _
        rw [if_pos e]
      rw [e0]
      obtain ⟨i1, i2, i3⟩ := band_spec (N := N) hc r z last frm hr.2 hN' hl (fun h => by have := hf h; omega)
      refine ⟨i1, fun x v => ?_, fun t ht => ?_⟩
      · rw [i2, hg2, hgb]
        simp only [Option.mem_def, Option.some.injEq, exists_eq_left']
        constructor
        · rintro (⟨h1, h2, h3⟩ | ⟨h1, h2, h3⟩)
          · rcases Int.lt_or_le v y with hv | hv
            · exact .inl ⟨h1, hv, h3⟩
            · exact .inr ⟨hv, by omega, by rw [hN1 v hv h2, e]; exact h3⟩
          · exact .inr ⟨by omega, h2, h3⟩
        · rintro (⟨h1, h2, h3⟩ | ⟨h1, h2, h3⟩)
          · exact .inl ⟨h1, by omega, h3⟩
          · rcases Int.lt_or_le v z with hv | hv
            · rw [hN1 v h1 hv, e] at h3
              have hne : last ≠ [] := by rintro rfl; exact InS.nil _ h3
              exact .inl ⟨by have := hf hne; omega, hv, h3⟩
            · exact .inr ⟨hv, h2, h3⟩
      · have := i3 t ht
        split at this
        · rename_i h; rw [if_pos h]; omega
        · rename_i h; rw [if_neg h]; exact this
    · have e0 : bandGo now last frm (y :: z :: r) = (if last = [] then [] else [(frm, y - frm, last)]) ++ bandGo now (now y) y (z :: r) := by
        show (if now y = last then _ else _) = _
        rw [if_neg e]
      rw [e0]
      obtain ⟨i1, i2, i3⟩ := band_spec (N := N) hc r z (now y) y hr.2 hN' (hc y) (fun _ => hyz)
      have hmid : ∀ x v, OnB (bandGo now (now y) y (z :: r)) x v ↔ (y ≤ v ∧ v < b ∧ InS (N v) x) := by
        intro x v
        rw [i2, hgb]
        simp only [Option.mem_def, Option.some.injEq, exists_eq_left']
        constructor
        · rintro (⟨h1, h2, h3⟩ | ⟨h1, h2, h3⟩)
          · exact ⟨h1, by omega, by rw [hN1 v h1 h2]; exact h3⟩
          · exact ⟨by omega, h2, h3⟩
        · rintro ⟨h1, h2, h3⟩
          rcases Int.lt_or_le v z with hv | hv
          · exact .inl ⟨h1, hv, by rw [← hN1 v h1 hv]; exact h3⟩
          · exact .inr ⟨hv, h2, h3⟩
      have hhead : ∀ t ∈ (bandGo now (now y) y (z :: r)).head?, y ≤ t.1 ∧ (t.1 = y → t.2.2 = now y) := by
        intro t ht
        have := i3 t ht
        split at this
        · exact ⟨by omega, fun h => by omega⟩
        · exact ⟨by omega, fun _ => this.2⟩
      by_cases hle : last = []
      · subst hle
        rw [if_pos rfl, List.nil_append]
        refine ⟨i1, fun x v => ?_, fun t ht => ?_⟩
        · rw [hmid, hg2]
          simp only [Option.mem_def, Option.some.injEq, exists_eq_left', InS.nil, and_false, false_or]
        · rw [if_pos rfl]; exact (hhead t ht).1
      · rw [if_neg hle]
        have hfy := hf hle
        refine ⟨canB_cons ⟨by show 0 < y - frm; omega, hle, hl⟩ i1 (fun u hu => ?_), fun x v => ?_, fun t ht => ?_⟩
        · have := hhead u hu
          refine ⟨by show frm + (y - frm) ≤ u.1; omega, fun h => ?_⟩
          have h' : frm + (y - frm) = u.1 := h
          rw [this.2 (by omega)]
          exact fun h2 => e h2.symm
        · rw [List.singleton_append, OnB.cons, hmid, hg2]
          simp only [Option.mem_def, Option.some.injEq, exists_eq_left']
          constructor
          · rintro (⟨h1, h2, h3⟩ | h)
            · exact .inl ⟨h1, by omega, h3⟩
            · exact .inr h
          · rintro (⟨h1, h2, h3⟩ | h)
            · exact .inl ⟨h1, by omega, h3⟩
            · exact .inr h
        · rw [if_neg hle]
          have ht' : some (frm, y - frm, last) = some t := ht
          injection ht' with ht'
          rw [← ht']
          exact ⟨rfl, rfl⟩
theorem has_constY {l : List Re} {ys : List Int} (hs : Sane l) (hm : ∀ q ∈ l, ∀ v, OnY q v → v ∈ ys) (hr : Rise ys) {a b : Int} (hab : (a, b) ∈ ys.zip ys.tail) {z : Int} (h1 : a ≤ z) (h2 : z < b) (x : Int) : hasL l x z = hasL l x a := by
  unfold hasL
  rw [Bool.eq_iff_iff, List.any_eq_true, List.any_eq_true]
  have key : ∀ q ∈ l, (hasR q x z = true ↔ hasR q x a = true) := by
    intro q hq
    obtain ⟨s1, s2⟩ := hs q hq
    unfold hasR
    simp only [Bool.and_eq_true, decide_eq_true_eq]
    by_cases hrow : q.x ≤ x ∧ x < q.x + q.wd
    · by_cases hw : q.ht = 0
      · omega
      · have hn : noneR q = false := by unfold noneR; simp; omega
        have e1 := rise_gap hr hab _ (hm q hq q.y ⟨hn, .inl rfl⟩)
        have e2 := rise_gap hr hab _ (hm q hq (q.y + q.ht) ⟨hn, .inr rfl⟩)
        omega
    · omega
  constructor
  · rintro ⟨q, hq, h⟩; exact ⟨q, hq, (key q hq).1 h⟩
  · rintro ⟨q, hq, h⟩; exact ⟨q, hq, (key q hq).2 h⟩
theorem has_withinY {l : List Re} {ys : List Int} {x z : Int} (hm : ∀ q ∈ l, ∀ v, OnY q v → v ∈ ys) (hr : Rise ys) (h : hasL l x z = true) : ∃ a ∈ ys.head?, ∃ b ∈ ys.getLast?, a ≤ z ∧ z < b := by
  unfold hasL at h
  obtain ⟨q, hq, h⟩ := List.any_eq_true.1 h
  unfold hasR at h
  simp only [Bool.and_eq_true, decide_eq_true_eq] at h
  have hn : noneR q = false := by unfold noneR; simp; omega
  obtain ⟨a, ha, b, hb, h1, h2⟩ := rise_bounds hr (hm q hq q.y ⟨hn, .inl rfl⟩)
  obtain ⟨a', ha', b', hb', h1', h2'⟩ := rise_bounds hr (hm q hq (q.y + q.ht) ⟨hn, .inr rfl⟩)
  exact ⟨a, ha, b', hb', by omega, by omega⟩
theorem spans_congr {a b a' b' : List Re} {what what' y y' : Int} (ha : Sane a) (hb : Sane b) (ha' : Sane a') (hb' : Sane b') (h : ∀ x, keptB a b what x y = keptB a' b' what' x y') : spansP a b what y = spansP a' b' what' y' := by
  obtain ⟨c1, c2⟩ := spans_spec ha hb what y
  obtain ⟨d1, d2⟩ := spans_spec ha' hb' what' y'
  refine canS_unique c1 d1 (fun x => ?_)
  rw [c2, d2, h]
theorem bands_spec {a b : List Re} (ha : Sane a) (hb : Sane b) (what : Int) : CanB (bandsP a b what) ∧ ∀ x z, OnB (bandsP a b what) x z ↔ keptB a b what x z = true := by
  have hr := edgesY_rise a b
  have m1 : ∀ q ∈ a, ∀ v, OnY q v → v ∈ edgesY a b := fun q hq v h => mem_edgesY.2 ⟨q, by simp [hq], h⟩
  have m2 : ∀ q ∈ b, ∀ v, OnY q v → v ∈ edgesY a b := fun q hq v h => mem_edgesY.2 ⟨q, by simp [hq], h⟩
  have hin : ∀ x z, keptB a b what x z = true → ∃ p ∈ (edgesY a b).head?, ∃ q ∈ (edgesY a b).getLast?, p ≤ z ∧ z < q := fun x z h => by
    rcases want_some h with h | h
    · exact has_withinY m1 hr h
    · exact has_withinY m2 hr h
  have hgap : ∀ u v, (u, v) ∈ (edgesY a b).zip (edgesY a b).tail → ∀ z, u ≤ z → z < v → spansP a b what z = spansP a b what u := fun u v huv z h1 h2 => by
    refine spans_congr ha hb ha hb (fun x => ?_)
    unfold keptB
    rw [has_constY ha m1 hr huv h1 h2, has_constY hb m2 hr huv h1 h2]
  unfold bandsP
  cases he : edgesY a b with
  | nil =>
    refine ⟨trivial, fun x z => ?_⟩
    constructor
    · intro h; exact absurd h (OnB.nil _ _)
    · intro h
      obtain ⟨p, hp, _⟩ := hin x z h
      rw [he] at hp
      simp at hp
  | cons y r =>
    rw [he] at hr hgap
    obtain ⟨c1, c2, _⟩ := band_spec (now := fun y => spansP a b what y) (N := fun y => spansP a b what y) (fun y => (spans_spec ha hb what y).1) r y [] 0 hr (fun u v huv z h1 h2 => hgap u v huv z h1 h2) trivial (fun h => absurd rfl h)
    refine ⟨c1, fun x z => ?_⟩
    rw [c2]
    show _ ∨ (y ≤ z ∧ _ ∧ InS (spansP a b what z) x) ↔ _
    rw [(spans_spec ha hb what z).2]
    constructor
    · rintro (⟨_, _, h⟩ | ⟨_, _, h⟩)
      · exact absurd h (InS.nil _)
      · exact h
    · intro h
      obtain ⟨p, hp, q, hq, h1, h2⟩ := hin x z h
      rw [he] at hp hq
      simp only [List.head?_cons, Option.mem_def, Option.some.injEq] at hp
      subst hp
      exact .inr ⟨h1, ⟨q, hq, h2⟩, h⟩
theorem has_rects {y h x z : Int} {l : List Sp} : hasL (rectsOf y h l) x z = true ↔ (y ≤ z ∧ z < y + h ∧ InS l x) := by
  unfold hasL rectsOf InS
  rw [List.any_eq_true]
  constructor
  · rintro ⟨q, hq, hh⟩
    obtain ⟨s, hs, rfl⟩ := List.mem_map.1 hq
    unfold hasR at hh
    simp only [Bool.and_eq_true, decide_eq_true_eq] at hh
    exact ⟨by omega, by omega, s, hs, by omega, by omega⟩
  · rintro ⟨h1, h2, s, hs, h3, h4⟩
    refine ⟨_, List.mem_map.2 ⟨s, hs, rfl⟩, ?_⟩
    unfold hasR
    simp only [Bool.and_eq_true, decide_eq_true_eq]
    omega
theorem has_append {l m : List Re} {x z : Int} : hasL (l ++ m) x z = (hasL l x z || hasL m x z) := by unfold hasL; rw [List.any_append]
theorem has_flat {l : List Bd} {x z : Int} : hasL (flatB l) x z = true ↔ OnB l x z := by
  induction l with
  | nil => simp [flatB, hasL, OnB]
  | cons t l ih =>
    rw [show flatB (t :: l) = rectsOf t.1 t.2.1 t.2.2 ++ flatB l from rfl, has_append, Bool.or_eq_true, ih, has_rects, OnB.cons]
/-- THE FORM HAS JUST THE PLACES THAT ARE WANTED. -/
theorem form_has {a b : List Re} (ha : Sane a) (hb : Sane b) (what x z : Int) : hasL (formR a b what) x z = keptB a b what x z := by
  rw [Bool.eq_iff_iff]
  unfold formR
  rw [has_flat, (bands_spec ha hb what).2]
/-- A SET HAS ONE FORM. -/
theorem form_congr {a b a' b' : List Re} {what what' : Int} (ha : Sane a) (hb : Sane b) (ha' : Sane a') (hb' : Sane b') (h : ∀ x z, keptB a b what x z = keptB a' b' what' x z) : formR a b what = formR a' b' what' := by
  obtain ⟨c1, c2⟩ := bands_spec ha hb what
  obtain ⟨d1, d2⟩ := bands_spec ha' hb' what'
  unfold formR
  rw [canB_unique c1 d1 (fun x z => by rw [c2, d2, h])]
theorem band_good : ∀ {l : List Bd}, CanB l → ∀ t ∈ l, GoodB t
  | [], _, t, ht => by simp at ht
  | u :: l, h, t, ht => by
    rcases List.mem_cons.1 ht with rfl | ht
    · exact h.good
    · exact (h.above t ht).2
/-- No rectangle of a form is empty. -/
theorem form_pos {a b : List Re} (ha : Sane a) (hb : Sane b) (what : Int) : ∀ q ∈ formR a b what, 0 < q.wd ∧ 0 < q.ht := by
  intro q hq
  unfold formR flatB at hq
  obtain ⟨t, ht, hq⟩ := List.mem_flatMap.1 hq
  obtain ⟨g1, g2, g3⟩ := band_good (bands_spec ha hb what).1 t ht
  obtain ⟨s, hs, rfl⟩ := List.mem_map.1 hq
  have := g3.all_pos s hs
  exact ⟨by simp only; omega, by simp only; omega⟩
theorem form_sane {a b : List Re} (ha : Sane a) (hb : Sane b) (what : Int) : Sane (formR a b what) := fun q hq => by
  have := form_pos ha hb what q hq; omega
theorem sane_nil : Sane [] := fun q hq => by simp at hq
theorem sane_append {a b : List Re} (ha : Sane a) (hb : Sane b) : Sane (a ++ b) := fun q hq => by
  rcases List.mem_append.1 hq with h | h
  · exact ha q h
  · exact hb q h
theorem kept_one (a : List Re) (x z : Int) : keptB a [] 1 x z = hasL a x z := by
  unfold keptB wantB; simp [hasL]
/-- A form is its own form. -/
theorem form_form {a b : List Re} (ha : Sane a) (hb : Sane b) (what : Int) : formR (formR a b what) [] 1 = formR a b what :=
  form_congr (form_sane ha hb what) sane_nil ha hb (fun x z => by rw [kept_one, form_has ha hb])
/-- The corners of a place of the form lie within the given rectangles' ends. -/
theorem form_corner {a b : List Re} (ha : Sane a) (hb : Sane b) {what : Int} {q : Re} (hq : q ∈ formR a b what) (x z : Int) (h : hasR q x z = true) : ∃ p ∈ a ++ b, hasR p x z = true := by
  have h1 : hasL (formR a b what) x z = true := by unfold hasL; rw [List.any_eq_true]; exact ⟨q, hq, h⟩
  rw [form_has ha hb] at h1
  rcases want_some h1 with h | h
  · unfold hasL at h; obtain ⟨p, hp, h⟩ := List.any_eq_true.1 h; exact ⟨p, by simp [hp], h⟩
  · unfold hasL at h; obtain ⟨p, hp, h⟩ := List.any_eq_true.1 h; exact ⟨p, by simp [hp], h⟩
/-! ### how many rectangles a form has -/
def sumN : List Nat → Nat
  | [] => 0
  | a :: r => a + sumN r
theorem sumN_append (a b : List Nat) : sumN (a ++ b) = sumN a + sumN b := by
  induction a with
  | nil => simp [sumN]
  | cons x a ih => simp only [List.cons_append, sumN, ih]; omega
theorem sub_len {α : Type} [BEq α] [LawfulBEq α] : ∀ {V C : List α}, V.Nodup → (∀ v ∈ V, v ∈ C) → V.length ≤ C.length
  | [], _, _, _ => Nat.zero_le _
  | v :: V, C, hn, h => by
    have hv := h v (by simp)
    obtain ⟨h1, h2⟩ := List.nodup_cons.1 hn
    have := sub_len (V := V) (C := C.erase v) h2 (fun u hu => (List.mem_erase_of_ne (by rintro rfl; exact h1 hu)).2 (h u (by simp [hu])))
    rw [List.length_erase_of_mem hv] at this
    have := List.length_pos_of_mem hv
    simp only [List.length_cons]; omega
theorem rise_nodup : ∀ {l : List Int}, Rise l → l.Nodup
  | [], _ => List.nodup_nil
  | a :: r, h => List.nodup_cons.2 ⟨fun ha => by have := h.above a ha; omega, rise_nodup h.tail⟩
theorem cnt_inj {α : Type} {V : List Int} {L : List α} {P : Int → Bool} {Q : α → Bool} (f : α → Int) (hV : V.Nodup) (h : ∀ v ∈ V, P v = true → ∃ j ∈ L, Q j = true ∧ f j = v) : V.countP P ≤ L.countP Q := by
  rw [List.countP_eq_length_filter, List.countP_eq_length_filter, show (L.filter Q).length = ((L.filter Q).map f).length from (List.length_map _).symm]
  refine sub_len (hV.filter _) (fun v hv => ?_)
  obtain ⟨h1, h2⟩ := List.mem_filter.1 hv
  obtain ⟨j, hj, hq, e⟩ := h v h1 h2
  exact List.mem_map.2 ⟨j, List.mem_filter.2 ⟨hj, hq⟩, e⟩
theorem cnt_disj {α : Type} {P Q : α → Bool} : ∀ {L : List α}, (∀ j ∈ L, P j = true → Q j = true → False) → L.countP P + L.countP Q ≤ L.length
  | [], _ => by simp
  | a :: L, h => by
    have ih := cnt_disj (P := P) (Q := Q) (L := L) (fun j hj => h j (by simp [hj]))
    rw [List.countP_cons, List.countP_cons, List.length_cons]
    have := h a (by simp)
    cases hp : P a <;> cases hq : Q a <;> simp_all <;> omega
def actB (v : Int) (q : Re) : Bool := decide (q.y ≤ v) && decide (v < q.y + q.ht)
def actN (L : List Re) (v : Int) : Nat := L.countP (actB v)
def actV (L : List Re) (V : List Int) : Nat := sumN (V.map (actN L))
theorem actV_cons (q : Re) (L : List Re) (V : List Int) : actV (q :: L) V = actV L V + V.countP (fun v => actB v q) := by
  unfold actV
  induction V with
  | nil => simp [sumN]
  | cons v V ih =>
    simp only [List.map_cons, sumN, ih, List.countP_cons]
    have : actN (q :: L) v = actN L v + if actB v q = true then 1 else 0 := by unfold actN; rw [List.countP_cons]
    omega
theorem actV_split (L : List Re) (p : Int → Bool) (V : List Int) : actV L V = actV L (V.filter p) + actV L (V.filter fun v => !p v) := by
  unfold actV
  induction V with
  | nil => simp [sumN]
  | cons v V ih =>
    simp only [List.map_cons, sumN, List.filter_cons]
    cases p v
    · simp only [Bool.false_eq_true, if_false, Bool.not_false, if_true, List.map_cons, sumN]; omega
    · simp only [Bool.not_true, Bool.false_eq_true, if_false, if_true, List.map_cons, sumN]; omega
theorem only_one {V : List Int} {c : Int} (hn : V.Nodup) (h : ∀ v ∈ V, v = c) : V = [] ∨ V = [c] := by
  match V, hn, h with
  | [], _, _ => exact .inl rfl
  | [v], _, h => exact .inr (by rw [h v (by simp)])
  | v :: u :: V, hn, h =>
    have := (List.nodup_cons.1 hn).1
    exact absurd (by rw [h v (by simp), h u (by simp)]; simp) this
theorem act_starts : ∀ (L : List Re) (V : List Int), V.Nodup → (∀ v ∈ V, ∃ q ∈ L, q.y = v) → 2 * actV L V ≤ L.length * (L.length + 1)
  | [], V, _, h => by
    have : V = [] := List.eq_nil_iff_forall_not_mem.2 (fun v hv => by obtain ⟨q, hq, _⟩ := h v hv; simp at hq)
    subst this
    simp [actV, sumN]
  | q :: L, V, hn, h => by
    rw [actV_cons, actV_split L (fun v => decide (∃ j ∈ L, j.y = v)) V]
    have ih := act_starts L (V.filter fun v => decide (∃ j ∈ L, j.y = v)) (hn.filter _) (fun v hv => by
      have := (List.mem_filter.1 hv).2
      simpa using this)
    have h2 : ∀ v ∈ V.filter (fun v => !decide (∃ j ∈ L, j.y = v)), v = q.y := fun v hv => by
      obtain ⟨hv1, hv2⟩ := List.mem_filter.1 hv
      obtain ⟨j, hj, e⟩ := h v hv1
      rcases List.mem_cons.1 hj with rfl | hj
      · exact e.symm
      · have hno : ¬ ∃ j ∈ L, j.y = v := by simpa using hv2
        exact absurd ⟨j, hj, e⟩ hno
    have key : V.countP (fun v => actB v q) + actV L (V.filter fun v => !decide (∃ j ∈ L, j.y = v)) ≤ L.length + 1 := by
      rcases only_one (hn.filter _) h2 with e | e
      · rw [e]
        have h3 : V.countP (fun v => actB v q) ≤ L.countP (fun _ => true) := by
          refine cnt_inj (fun j => j.y) hn (fun v hv _ => ?_)
          by_cases hd : ∃ j ∈ L, j.y = v
          · obtain ⟨j, hj, hjv⟩ := hd; exact ⟨j, hj, rfl, hjv⟩
          · have : v ∈ V.filter (fun v => !decide (∃ j ∈ L, j.y = v)) := List.mem_filter.2 ⟨hv, by simpa using hd⟩
            rw [e] at this; simp at this
        have : L.countP (fun _ => true) ≤ L.length := List.countP_le_length
        simp only [actV, List.map_nil, sumN]; omega
      · rw [e]
        have hq : ¬ ∃ j ∈ L, j.y = q.y := by
          have : q.y ∈ V.filter (fun v => !decide (∃ j ∈ L, j.y = v)) := by rw [e]; simp
          have := (List.mem_filter.1 this).2
          simpa using this
        have h3 : V.countP (fun v => actB v q) ≤ 1 + L.countP (fun j => decide (q.y < j.y)) := by
          have : V.countP (fun v => actB v q) ≤ (q :: L).countP (fun j => decide (j.y = q.y) || decide (q.y < j.y)) := by
            refine cnt_inj (fun j => j.y) hn (fun v hv ha => ?_)
            obtain ⟨j, hj, ejv⟩ := h v hv
            unfold actB at ha
            simp only [Bool.and_eq_true, decide_eq_true_eq] at ha
            refine ⟨j, hj, ?_, ejv⟩
            simp only [Bool.or_eq_true, decide_eq_true_eq]
            omega
          rw [List.countP_cons] at this
          have e2 : L.countP (fun j => decide (j.y = q.y) || decide (q.y < j.y)) = L.countP (fun j => decide (q.y < j.y)) := by
            apply List.countP_congr
            intro j hj
            have : j.y ≠ q.y := fun e => hq ⟨j, hj, e⟩
            simp [this]
          rw [e2] at this
          simp at this
          omega
        have h4 : L.countP (fun j => decide (q.y < j.y)) + L.countP (actB q.y) ≤ L.length := cnt_disj (fun j _ h1 h2 => by
          unfold actB at h2
          simp only [Bool.and_eq_true, decide_eq_true_eq] at h1 h2
          omega)
        simp only [actV, List.map_cons, List.map_nil, sumN]
        unfold actN; omega
    simp only [List.length_cons]
    have e1 : (L.length + 1) * (L.length + 1 + 1) = L.length * (L.length + 1) + 2 * (L.length + 1) := by
      rw [show L.length + 1 + 1 = L.length + 2 from rfl, Nat.mul_add (L.length + 1) L.length 2, Nat.mul_comm (L.length + 1) L.length]; omega
    omega
theorem act_ends : ∀ (L : List Re) (V : List Int), V.Nodup → (∀ v ∈ V, ∃ q ∈ L, q.y + q.ht = v) → 2 * actV L V + L.length ≤ L.length * L.length
  | [], V, _, h => by
    have : V = [] := List.eq_nil_iff_forall_not_mem.2 (fun v hv => by obtain ⟨q, hq, _⟩ := h v hv; simp at hq)
    subst this
    simp [actV, sumN]
  | q :: L, V, hn, h => by
    rw [actV_cons, actV_split L (fun v => decide (∃ j ∈ L, j.y + j.ht = v)) V]
    have ih := act_ends L (V.filter fun v => decide (∃ j ∈ L, j.y + j.ht = v)) (hn.filter _) (fun v hv => by
      have := (List.mem_filter.1 hv).2
      simpa using this)
    have h2 : ∀ v ∈ V.filter (fun v => !decide (∃ j ∈ L, j.y + j.ht = v)), v = q.y + q.ht := fun v hv => by
      obtain ⟨hv1, hv2⟩ := List.mem_filter.1 hv
      obtain ⟨j, hj, e⟩ := h v hv1
      rcases List.mem_cons.1 hj with rfl | hj
      · exact e.symm
      · have hno : ¬ ∃ j ∈ L, j.y + j.ht = v := by simpa using hv2
        exact absurd ⟨j, hj, e⟩ hno
    have h3 : V.countP (fun v => actB v q) ≤ L.countP (fun j => decide (j.y + j.ht < q.y + q.ht)) := by
      refine cnt_inj (fun j => j.y + j.ht) hn (fun v hv ha => ?_)
      obtain ⟨j, hj, ejv⟩ := h v hv
      unfold actB at ha
      simp only [Bool.and_eq_true, decide_eq_true_eq] at ha
      rcases List.mem_cons.1 hj with rfl | hj
      · omega
      · exact ⟨j, hj, by simp only [decide_eq_true_eq]; omega, ejv⟩
    have key : V.countP (fun v => actB v q) + actV L (V.filter fun v => !decide (∃ j ∈ L, j.y + j.ht = v)) ≤ L.length := by
      rcases only_one (hn.filter _) h2 with e | e
      · rw [e]
        have : L.countP (fun j => decide (j.y + j.ht < q.y + q.ht)) ≤ L.length := List.countP_le_length
        simp only [actV, List.map_nil, sumN]; omega
      · rw [e]
        have h4 : L.countP (fun j => decide (j.y + j.ht < q.y + q.ht)) + L.countP (actB (q.y + q.ht)) ≤ L.length := cnt_disj (fun j _ h1 h2 => by
          unfold actB at h2
          simp only [Bool.and_eq_true, decide_eq_true_eq] at h1 h2
          omega)
        simp only [actV, List.map_cons, List.map_nil, sumN]
        unfold actN; omega
    simp only [List.length_cons]
    have e1 : (L.length + 1) * (L.length + 1) = L.length * L.length + 2 * L.length + 1 := by
      rw [Nat.mul_add, Nat.add_mul]; omega
    omega
/-- The edges' rows have at most the square of the number of rectangles. -/
theorem act_all (L : List Re) (V : List Int) (hn : V.Nodup) (h : ∀ v ∈ V, ∃ q ∈ L, q.y = v ∨ q.y + q.ht = v) : actV L V ≤ L.length * L.length := by
  rw [actV_split L (fun v => decide (∃ j ∈ L, j.y = v)) V]
  have h1 := act_starts L (V.filter fun v => decide (∃ j ∈ L, j.y = v)) (hn.filter _) (fun v hv => by
    have := (List.mem_filter.1 hv).2
    simpa using this)
  have h2 := act_ends L (V.filter fun v => !decide (∃ j ∈ L, j.y = v)) (hn.filter _) (fun v hv => by
    obtain ⟨hv1, hv2⟩ := List.mem_filter.1 hv
    obtain ⟨j, hj, e | e⟩ := h v hv1
    · have hno : ¬ ∃ j ∈ L, j.y = v := by simpa using hv2
      exact absurd ⟨j, hj, e⟩ hno
    · exact ⟨j, hj, e⟩)
  have : L.length * (L.length + 1) = L.length * L.length + L.length := by rw [Nat.mul_add]; omega
  omega
theorem band_len (now : Int → List Sp) : ∀ (r : List Int) (y : Int) (last : List Sp) (frm : Int), (flatB (bandGo now last frm (y :: r))).length ≤ last.length + sumN (((y :: r).dropLast).map fun v => (now v).length)
  | [], y, last, frm => by
    show (flatB (if last = [] then [] else [(frm, y - frm, last)])).length ≤ _
    rw [flatB_if]; simp [rectsOf]
  | z :: r, y, last, frm => by
    show (flatB (if now y = last then bandGo now last frm (z :: r) else (if last = [] then [] else [(frm, y - frm, last)]) ++ bandGo now (now y) y (z :: r))).length ≤ last.length + sumN ((y :: (z :: r).dropLast).map fun v => (now v).length)
    simp only [List.map_cons, sumN]
    split
    · have := band_len now r z last frm; omega
    · rw [flatB_append, flatB_if, List.length_append]
      have := band_len now r z (now y) y
      simp only [rectsOf, List.length_map] at this ⊢
      omega
theorem starts_rise : ∀ {l : List Sp}, CanS l → Rise (l.map Prod.fst)
  | [], _ => trivial
  | s :: r, h => Rise.mk (starts_rise h.tail) (fun x hx => by
    obtain ⟨t, ht, rfl⟩ := List.mem_map.1 hx
    have := h.above t ht
    have := h.pos
    omega)
theorem start_not : ∀ {l : List Sp}, CanS l → ∀ s ∈ l, ¬ InS l (s.1 - 1)
  | [], _, s, hs => by simp at hs
  | t :: r, h, s, hs => by
    intro hin
    rcases List.mem_cons.1 hs with rfl | hs
    · rcases InS.cons.1 hin with h' | h'
      · omega
      · exact h.not_in (by have := h.pos; omega) h'
    · rcases InS.cons.1 hin with h' | h'
      · have := (h.above s hs).1; omega
      · exact start_not h.tail s hs h'
theorem has_gain {l : List Re} {x y : Int} (h1 : hasL l x y = true) (h2 : hasL l (x - 1) y = false) : ∃ q ∈ l, q.x = x ∧ noneR q = false ∧ actB y q = true := by
  unfold hasL at h1 h2
  obtain ⟨q, hq, h⟩ := List.any_eq_true.1 h1
  have h3 := List.any_eq_false.1 h2 q hq
  unfold hasR at h h3
  simp only [Bool.and_eq_true, decide_eq_true_eq, not_and] at h h3
  refine ⟨q, hq, ?_, by unfold noneR; simp; omega, by unfold actB; simp; omega⟩
  by_cases hx : q.x = x
  · exact hx
  · exact (h3 ⟨⟨by omega, by omega⟩, h.1.2⟩ h.2).elim
theorem has_loss {l : List Re} {x y : Int} (h1 : hasL l x y = false) (h2 : hasL l (x - 1) y = true) : ∃ q ∈ l, q.x + q.wd = x ∧ noneR q = false ∧ actB y q = true := by
  unfold hasL at h1 h2
  obtain ⟨q, hq, h⟩ := List.any_eq_true.1 h2
  have h3 := List.any_eq_false.1 h1 q hq
  unfold hasR at h h3
  simp only [Bool.and_eq_true, decide_eq_true_eq, not_and] at h h3
  refine ⟨q, hq, ?_, by unfold noneR; simp; omega, by unfold actB; simp; omega⟩
  by_cases hx : q.x + q.wd = x
  · exact hx
  · exact (h3 ⟨⟨by omega, by omega⟩, h.1.2⟩ h.2).elim
theorem want_gain {what : Int} {o1 p1 o2 p2 : Bool} (h1 : wantB what o1 p1 = true) (h2 : wantB what o2 p2 = false) : (o1 = true ∧ o2 = false) ∨ (if what = 1 ∨ what = 2 then p1 = true ∧ p2 = false else p1 = false ∧ p2 = true) := by
  unfold wantB at h1 h2
  by_cases w1 : what = 1
  · subst w1
    cases o1 <;> cases p1 <;> cases o2 <;> cases p2 <;> simp_all
  · by_cases w2 : what = 2
    · subst w2
      cases o1 <;> cases p1 <;> cases o2 <;> cases p2 <;> simp_all
    · rw [if_neg w1, if_neg w2] at h1 h2
      rw [if_neg (by omega)]
      cases o1 <;> cases p1 <;> cases o2 <;> cases p2 <;> simp_all
theorem spans_len {a b : List Re} (ha : Sane a) (hb : Sane b) (what y : Int) : (spansP a b what y).length ≤ actN (a ++ b) y := by
  obtain ⟨c1, c2⟩ := spans_spec ha hb what y
  have hst : ∀ v ∈ (spansP a b what y).map Prod.fst, (∃ q ∈ a, q.x = v ∧ actB y q = true) ∨ (∃ q ∈ b, (if what = 1 ∨ what = 2 then q.x else q.x + q.wd) = v ∧ actB y q = true) := by
    intro v hv
    obtain ⟨s, hs, rfl⟩ := List.mem_map.1 hv
    have h1 := (c2 s.1).1 ⟨s, hs, Int.le_refl _, c1.all_pos s hs⟩
    have h2 : keptB a b what (s.1 - 1) y = false := by
      cases h : keptB a b what (s.1 - 1) y
      · rfl
      · exact absurd ((c2 _).2 h) (start_not c1 s hs)
    unfold keptB at h1 h2
    rcases want_gain h1 h2 with ⟨g1, g2⟩ | g
    · obtain ⟨q, hq, e, _, h⟩ := has_gain g1 g2
      exact .inl ⟨q, hq, e, h⟩
    · by_cases hw : what = 1 ∨ what = 2
      · rw [if_pos hw] at g
        obtain ⟨q, hq, e, _, h⟩ := has_gain g.1 g.2
        exact .inr ⟨q, hq, by rw [if_pos hw]; exact e, h⟩
      · rw [if_neg hw] at g
        obtain ⟨q, hq, e, _, h⟩ := has_loss g.1 g.2
        exact .inr ⟨q, hq, by rw [if_neg hw]; exact e, h⟩
  have hn := rise_nodup (starts_rise c1)
  have hle : ((spansP a b what y).map Prod.fst).length ≤ ((a.filter (actB y)).map (fun q => q.x) ++ (b.filter (actB y)).map fun q => if what = 1 ∨ what = 2 then q.x else q.x + q.wd).length := by
    refine sub_len hn (fun v hv => ?_)
    rcases hst v hv with ⟨q, hq, e, h⟩ | ⟨q, hq, e, h⟩
    · exact List.mem_append.2 (.inl (List.mem_map.2 ⟨q, List.mem_filter.2 ⟨hq, h⟩, e⟩))
    · exact List.mem_append.2 (.inr (List.mem_map.2 ⟨q, List.mem_filter.2 ⟨hq, h⟩, e⟩))
  unfold actN
  rw [List.countP_append, List.countP_eq_length_filter, List.countP_eq_length_filter]
  simpa using hle
theorem sumN_mono {f g : Int → Nat} : ∀ {l : List Int}, (∀ v ∈ l, f v ≤ g v) → sumN (l.map f) ≤ sumN (l.map g)
  | [], _ => Nat.le_refl _
  | v :: l, h => by
    have := h v (by simp)
    have := sumN_mono (f := f) (g := g) (l := l) (fun u hu => h u (by simp [hu]))
    simp only [List.map_cons, sumN]; omega
/-- A form of n rectangles has at most n * n. -/
theorem form_len {a b : List Re} (ha : Sane a) (hb : Sane b) (what : Int) : (formR a b what).length ≤ (a.length + b.length) * (a.length + b.length) := by
  unfold formR bandsP
  have hr := edgesY_rise a b
  have hm : ∀ v ∈ edgesY a b, ∃ q ∈ a ++ b, q.y = v ∨ q.y + q.ht = v := fun v hv => by
    obtain ⟨q, hq, _, h⟩ := mem_edgesY.1 hv
    exact ⟨q, hq, by omega⟩
  cases he : edgesY a b with
  | nil => simp [bandGo, flatB]
  | cons y r =>
    rw [he] at hr hm
    have h1 := band_len (fun y => spansP a b what y) r y [] 0
    have h2 : sumN (((y :: r).dropLast).map fun v => (spansP a b what v).length) ≤ actV (a ++ b) ((y :: r).dropLast) := sumN_mono (fun v _ => spans_len ha hb what v)
    have h3 := act_all (a ++ b) ((y :: r).dropLast) ((rise_nodup hr).sublist (List.dropLast_sublist _)) (fun v hv => hm v (List.dropLast_subset _ hv))
    rw [List.length_append] at h3
    simp only [List.length_nil, Nat.zero_add] at h1
    exact Nat.le_trans h1 (Nat.le_trans h2 h3)
end
section
set_option linter.unusedSimpArgs false
/-! ### ends lie among the edges -/
theorem putS_ends {x y : Int} {S : Int → Prop} : ∀ {l : List Sp}, (∀ s ∈ l, S s.1 ∧ S s.2) → S x → S y → ∀ s ∈ putS l x y, S s.1 ∧ S s.2
  | [], _, hx, hy, s, hs => by simp [putS] at hs; subst hs; exact ⟨hx, hy⟩
  | [t], h, hx, hy, s, hs => by
    have := h t (by simp)
    unfold putS at hs
    split at hs
    · simp at hs; subst hs; exact ⟨this.1, hy⟩
    · simp at hs
      rcases hs with rfl | rfl
      · exact this
      · exact ⟨hx, hy⟩
  | t :: u :: r, h, hx, hy, s, hs => by
    have hs' : s ∈ t :: putS (u :: r) x y := hs
    rcases List.mem_cons.1 hs' with rfl | hs'
    · exact h s (by simp)
    · exact putS_ends (fun v hv => h v (by simp [List.mem_cons.1 hv])) hx hy s hs'
theorem mix_ends {S : Int → Prop} (keep : Int → Bool) : ∀ (xs : List Int) (out : List Sp), (∀ x ∈ xs, S x) → (∀ s ∈ out, S s.1 ∧ S s.2) → ∀ s ∈ mixGo keep out xs, S s.1 ∧ S s.2
  | [], out, _, h, s, hs => h s hs
  | [_], out, _, h, s, hs => h s hs
  | x :: y :: r, out, hx, h, s, hs => by
    unfold mixGo at hs
    refine mix_ends keep (y :: r) _ (fun v hv => hx v (by simp [List.mem_cons.1 hv])) (fun t ht => ?_) s hs
    split at ht
    · exact putS_ends h (hx x (by simp)) (hx y (by simp)) t ht
    · exact h t ht
def InM (v : Int) : Prop := -16384 ≤ v ∧ v ≤ 16384
theorem may_sides {q : Re} (h : mayR q = true) : InM q.x ∧ InM (q.x + q.wd) ∧ InM q.y ∧ InM (q.y + q.ht) ∧ 0 ≤ q.wd ∧ 0 ≤ q.ht := by
  unfold mayR spanB at h
  simp only [Bool.and_eq_true, inB_iff, sdB_iff, decide_eq_true_eq] at h
  unfold InM
  omega
theorem may_mk {q : Re} (h1 : InM q.x) (h2 : InM (q.x + q.wd)) (h3 : InM q.y) (h4 : InM (q.y + q.ht)) (h5 : 0 ≤ q.wd) (h6 : 0 ≤ q.ht) : mayR q = true := by
  unfold InM at h1 h2 h3 h4
  unfold mayR spanB
  simp only [Bool.and_eq_true, inB_iff, sdB_iff, decide_eq_true_eq]
  omega
def MayL (l : List Re) : Prop := ∀ q ∈ l, mayR q = true
theorem MayL.sane {l : List Re} (h : MayL l) : Sane l := fun q hq => (may_sides (h q hq)).2.2.2.2
theorem mayL_nil : MayL [] := fun q hq => by simp at hq
theorem MayL.append {a b : List Re} (ha : MayL a) (hb : MayL b) : MayL (a ++ b) := fun q hq => by
  rcases List.mem_append.1 hq with h | h
  · exact ha q h
  · exact hb q h
theorem edgesX_in {a b : List Re} (ha : MayL a) (hb : MayL b) (y : Int) : ∀ v ∈ edgesX a b y, InM v := fun v hv => by
  obtain ⟨q, hq, _, _, h⟩ := mem_edgesX.1 hv
  have := may_sides ((ha.append hb) q hq)
  rcases h with rfl | rfl
  · exact this.1
  · exact this.2.1
theorem edgesY_in {a b : List Re} (ha : MayL a) (hb : MayL b) : ∀ v ∈ edgesY a b, InM v := fun v hv => by
  obtain ⟨q, hq, _, h⟩ := mem_edgesY.1 hv
  have := may_sides ((ha.append hb) q hq)
  rcases h with rfl | rfl
  · exact this.2.2.1
  · exact this.2.2.2.1
theorem spans_in {a b : List Re} (ha : MayL a) (hb : MayL b) (what y : Int) : ∀ s ∈ spansP a b what y, InM s.1 ∧ InM s.2 :=
  mix_ends _ _ [] (edgesX_in ha hb y) (by simp)
theorem band_in {now : Int → List Sp} {S : Int → Prop} : ∀ (r : List Int) (y : Int) (last : List Sp) (frm : Int), (∀ v ∈ y :: r, S v) → (last ≠ [] → S frm) → ∀ t ∈ bandGo now last frm (y :: r), S t.1 ∧ S (t.1 + t.2.1) ∧ (t.2.2 = last ∨ ∃ v ∈ y :: r, t.2.2 = now v)
  | [], y, last, frm, h, hf, t, ht => by
    have ht' : t ∈ (if last = [] then [] else [(frm, y - frm, last)]) := ht
    split at ht'
    · simp at ht'
    · rename_i e
      simp at ht'
      subst ht'
      exact ⟨hf e, by show S (frm + (y - frm)); rw [show frm + (y - frm) = y by omega]; exact h y (by simp), .inl rfl⟩
  | z :: r, y, last, frm, h, hf, t, ht => by
    have ht' : t ∈ (if now y = last then bandGo now last frm (z :: r) else (if last = [] then [] else [(frm, y - frm, last)]) ++ bandGo now (now y) y (z :: r)) := ht
    have h' : ∀ v ∈ z :: r, S v := fun v hv => h v (by simp [List.mem_cons.1 hv])
    split at ht'
    · obtain ⟨h1, h2, h3⟩ := band_in (S := S) r z last frm h' hf t ht'
      refine ⟨h1, h2, ?_⟩
      rcases h3 with h3 | ⟨v, hv, h3⟩
      · exact .inl h3
      · exact .inr ⟨v, List.mem_cons_of_mem _ hv, h3⟩
    · rcases List.mem_append.1 ht' with ht' | ht'
      · split at ht'
        · simp at ht'
        · rename_i e
          simp at ht'
          subst ht'
          exact ⟨hf e, by show S (frm + (y - frm)); rw [show frm + (y - frm) = y by omega]; exact h y (by simp), .inl rfl⟩
      · obtain ⟨h1, h2, h3⟩ := band_in (S := S) r z (now y) y h' (fun _ => h y (by simp)) t ht'
        refine ⟨h1, h2, .inr ?_⟩
        rcases h3 with h3 | ⟨v, hv, h3⟩
        · exact ⟨y, by simp, h3⟩
        · exact ⟨v, List.mem_cons_of_mem _ hv, h3⟩
theorem bands_in {a b : List Re} (ha : MayL a) (hb : MayL b) (what : Int) : ∀ t ∈ bandsP a b what, InM t.1 ∧ InM (t.1 + t.2.1) ∧ 0 < t.2.1 ∧ CanS t.2.2 ∧ ∀ s ∈ t.2.2, InM s.1 ∧ InM s.2 := by
  intro t ht
  obtain ⟨g1, g2, g3⟩ := band_good (bands_spec ha.sane hb.sane what).1 t ht
  unfold bandsP at ht
  cases he : edgesY a b with
  | nil => rw [he] at ht; simp [bandGo] at ht
  | cons y r =>
    rw [he] at ht
    obtain ⟨h1, h2, h3⟩ := band_in (S := InM) r y [] 0 (by rw [← he]; exact edgesY_in ha hb) (by simp) t ht
    refine ⟨h1, h2, g1, g3, ?_⟩
    rcases h3 with h3 | ⟨v, _, h3⟩
    · rw [h3]; simp
    · rw [h3]; exact spans_in ha hb what v
theorem rects_may {y h : Int} {l : List Sp} (h1 : InM y) (h2 : InM (y + h)) (h3 : 0 < h) (hc : CanS l) (hl : ∀ s ∈ l, InM s.1 ∧ InM s.2) : MayL (rectsOf y h l) := by
  intro q hq
  unfold rectsOf at hq
  obtain ⟨s, hs, rfl⟩ := List.mem_map.1 hq
  have := hc.all_pos s hs
  obtain ⟨l1, l2⟩ := hl s hs
  exact may_mk l1 (by show InM (s.1 + (s.2 - s.1)); rw [show s.1 + (s.2 - s.1) = s.2 by omega]; exact l2) h1 h2 (by show 0 ≤ s.2 - s.1; omega) (by show 0 ≤ h; omega)
theorem form_may {a b : List Re} (ha : MayL a) (hb : MayL b) (what : Int) : MayL (formR a b what) := by
  intro q hq
  unfold formR flatB at hq
  obtain ⟨t, ht, hq⟩ := List.mem_flatMap.1 hq
  obtain ⟨h1, h2, h3, h4, h5⟩ := bands_in ha hb what t ht
  exact rects_may h1 h2 h3 h4 h5 q hq
/-! ### areas as numbers of places -/
def cntI (p : Int → Bool) : Nat → Int
  | 0 => 0
  | n + 1 => cntI p n + if p (-16384 + n) then 1 else 0
theorem cntI_nonneg (p : Int → Bool) : ∀ n, 0 ≤ cntI p n
  | 0 => Int.le_refl _
  | n + 1 => by have := cntI_nonneg p n; unfold cntI; split <;> omega
theorem cntI_le (p : Int → Bool) : ∀ n : Nat, cntI p n ≤ n
  | 0 => Int.le_refl _
  | n + 1 => by have := cntI_le p n; unfold cntI; split <;> omega
theorem cntI_congr {p q : Int → Bool} : ∀ {n : Nat}, (∀ x, p x = q x) → cntI p n = cntI q n
  | 0, _ => rfl
  | n + 1, h => by unfold cntI; rw [cntI_congr h, h]
theorem cntI_or {p q : Int → Bool} : ∀ {n : Nat}, (∀ x, p x = true → q x = true → False) → cntI (fun x => p x || q x) n = cntI p n + cntI q n
  | 0, _ => rfl
  | n + 1, h => by
    unfold cntI
    rw [cntI_or h]
    have h1 := h (-16384 + (n : Int))
    cases hp : p (-16384 + (n : Int)) <;> cases hq : q (-16384 + (n : Int)) <;> simp <;> first | omega | exact (h1 hp hq).elim
theorem cntI_span {u v : Int} (hu : -16384 ≤ u) (huv : u ≤ v) : ∀ n : Nat, cntI (fun x => decide (u ≤ x) && decide (x < v)) n = max 0 (min (-16384 + (n : Int)) v - u)
  | 0 => by simp [cntI]; omega
  | n + 1 => by
    unfold cntI
    rw [cntI_span hu huv n]
    by_cases h1 : u ≤ -16384 + (n : Int) <;> by_cases h2 : -16384 + (n : Int) < v <;> simp [h1, h2] <;> omega
theorem cntI_false : ∀ {n : Nat}, cntI (fun _ => false) n = 0
  | 0 => rfl
  | n + 1 => by unfold cntI; rw [cntI_false]; simp
theorem cntI_wid (n : Nat) : ∀ (l : List Sp), CanS l → (∀ s ∈ l, -16384 ≤ s.1 ∧ s.2 ≤ -16384 + (n : Int)) → cntI (fun x => inSB l x) n = widS l
  | [], _, _ => by
    have : ∀ x, inSB [] x = false := fun x => rfl
    rw [cntI_congr this, cntI_false]; rfl
  | s :: l, hc, h => by
    have e : ∀ x, inSB (s :: l) x = ((decide (s.1 ≤ x) && decide (x < s.2)) || inSB l x) := fun x => by
      rw [Bool.eq_iff_iff, Bool.or_eq_true, inSB_iff, inSB_iff, InS.cons]
      simp
    rw [cntI_congr e, cntI_or, cntI_wid n l hc.tail (fun t ht => h t (by simp [ht])), cntI_span (h s (by simp)).1 (by have := hc.pos; omega)]
    · have := hc.pos
      have := h s (by simp)
      show max 0 (min (-16384 + (n : Int)) s.2 - s.1) + widS l = (s.2 - s.1) + widS l
      omega
    · intro x h1 h2
      simp only [Bool.and_eq_true, decide_eq_true_eq] at h1
      exact hc.not_in (by omega) (inSB_iff.1 h2)
def cntP (p : Int → Int → Bool) (n : Nat) : Nat → Int
  | 0 => 0
  | m + 1 => cntP p n m + cntI (fun x => p x (-16384 + m)) n
theorem cntP_le (p : Int → Int → Bool) (n : Nat) : ∀ m : Nat, cntP p n m ≤ (n : Int) * m
  | 0 => by simp [cntP]
  | m + 1 => by
    have h1 := cntP_le p n m
    have h2 := cntI_le (fun x => p x (-16384 + m)) n
    unfold cntP
    rw [Int.natCast_add, Int.mul_add]
    simp only [Int.natCast_one, Int.mul_one]
    omega
theorem cntP_congr {p q : Int → Int → Bool} {n : Nat} : ∀ {m : Nat}, (∀ x z, p x z = q x z) → cntP p n m = cntP q n m
  | 0, _ => rfl
  | m + 1, h => by unfold cntP; rw [cntP_congr h, cntI_congr (fun x => h x _)]
theorem cntP_or {p q : Int → Int → Bool} {n : Nat} : ∀ {m : Nat}, (∀ x z, p x z = true → q x z = true → False) → cntP (fun x z => p x z || q x z) n m = cntP p n m + cntP q n m
  | 0, _ => rfl
  | m + 1, h => by
    unfold cntP
    rw [cntP_or h, cntI_or (fun x => h x _)]
    omega
theorem cntP_false {n : Nat} : ∀ {m : Nat}, cntP (fun _ _ => false) n m = 0
  | 0 => rfl
  | m + 1 => by unfold cntP; rw [cntP_false, cntI_false]; rfl
theorem cntP_band (n : Nat) (c : Int → Bool) (p : Int → Bool) : ∀ m : Nat, cntP (fun x z => c z && p x) n m = cntI c m * cntI p n
  | 0 => by simp [cntP, cntI]
  | m + 1 => by
    unfold cntP
    rw [cntP_band n c p m, show cntI c (m + 1) = cntI c m + (if c (-16384 + m) then 1 else 0) from rfl, Int.add_mul]
    cases c (-16384 + (m : Int))
    · simp only [Bool.false_and, Bool.false_eq_true, if_false, Int.zero_mul]
      rw [cntI_false]
    · simp only [Bool.true_and, if_true, Int.one_mul]
def onB (l : List Bd) (x z : Int) : Bool := l.any fun t => (decide (t.1 ≤ z) && decide (z < t.1 + t.2.1)) && inSB t.2.2 x
theorem onB_iff {l : List Bd} {x z : Int} : onB l x z = true ↔ OnB l x z := by
  unfold onB OnB
  rw [List.any_eq_true]
  simp only [Bool.and_eq_true, decide_eq_true_eq, inSB_iff, and_assoc, InS]
theorem cntP_area (n m : Nat) : ∀ (l : List Bd), CanB l → (∀ t ∈ l, -16384 ≤ t.1 ∧ t.1 + t.2.1 ≤ -16384 + (m : Int) ∧ ∀ s ∈ t.2.2, -16384 ≤ s.1 ∧ s.2 ≤ -16384 + (n : Int)) → cntP (onB l) n m = areaM (flatB l)
  | [], _, _ => by
    have : ∀ x z, onB [] x z = false := fun x z => rfl
    rw [cntP_congr this, cntP_false]; rfl
  | t :: l, hc, h => by
    have e : ∀ x z, onB (t :: l) x z = (((decide (t.1 ≤ z) && decide (z < t.1 + t.2.1)) && inSB t.2.2 x) || onB l x z) := fun x z => by
      unfold onB; rw [List.any_cons]
    obtain ⟨h1, h2, h3⟩ := h t (by simp)
    obtain ⟨g1, g2, g3⟩ := hc.good
    have hf : flatB (t :: l) = rectsOf t.1 t.2.1 t.2.2 ++ flatB l := by unfold flatB; rw [List.flatMap_cons]
    rw [cntP_congr e, cntP_or, cntP_area n m l hc.tail (fun u hu => h u (by simp [hu])), cntP_band n (fun z => decide (t.1 ≤ z) && decide (z < t.1 + t.2.1)) (fun x => inSB t.2.2 x), cntI_span h1 (by omega), cntI_wid n t.2.2 g3 h3, hf, areaM_append, areaM_rects]
    · rw [show max 0 (min (-16384 + (m : Int)) (t.1 + t.2.1) - t.1) = t.2.1 by omega, Int.mul_comm]
    · intro x z p1 p2
      simp only [Bool.and_eq_true, decide_eq_true_eq] at p1
      exact hc.below_ p1.1.2 (onB_iff.1 p2)
/-- A form's area is the number of its places. -/
theorem area_cnt {a b : List Re} (ha : MayL a) (hb : MayL b) (what : Int) {n : Nat} (hn : n = 32768) : areaM (formR a b what) = cntP (keptB a b what) n n := by
  obtain ⟨c1, c2⟩ := bands_spec ha.sane hb.sane what
  unfold formR
  rw [← cntP_area n n _ c1 (fun t ht => by
    obtain ⟨h1, h2, h3, h4, h5⟩ := bands_in ha hb what t ht
    unfold InM at h1 h2
    refine ⟨h1.1, by omega, fun s hs => ?_⟩
    have := h5 s hs
    unfold InM at this
    omega)]
  refine cntP_congr (fun x z => ?_)
  rw [Bool.eq_iff_iff, onB_iff, c2]
theorem area_le {a b : List Re} (ha : MayL a) (hb : MayL b) (what : Int) : areaM (formR a b what) ≤ 1073741824 := by
  obtain ⟨n, hn⟩ : ∃ n : Nat, n = 32768 := ⟨_, rfl⟩
  rw [area_cnt ha hb what hn]
  have := cntP_le (keptB a b what) n n
  have e : (n : Int) * n = 1073741824 := by rw [hn]; rfl
  omega
theorem cntI_two {p q r s : Int → Bool} : ∀ {n : Nat}, (∀ x, (if p x then (1 : Int) else 0) + (if q x then 1 else 0) = (if r x then 1 else 0) + (if s x then 1 else 0)) → cntI p n + cntI q n = cntI r n + cntI s n
  | 0, _ => rfl
  | n + 1, h => by
    have h1 := cntI_two (n := n) h
    have h2 := h (-16384 + n)
    unfold cntI
    omega
theorem cntP_two {p q r s : Int → Int → Bool} {n : Nat} : ∀ {m : Nat}, (∀ x z, (if p x z then (1 : Int) else 0) + (if q x z then 1 else 0) = (if r x z then 1 else 0) + (if s x z then 1 else 0)) → cntP p n m + cntP q n m = cntP r n m + cntP s n m
  | 0, _ => rfl
  | m + 1, h => by
    have h1 := cntP_two (n := n) (m := m) h
    have h2 := cntI_two (n := n) (fun x => h x (-16384 + m))
    unfold cntP
    omega
theorem area_add {a b : List Re} (ha : MayL a) (hb : MayL b) : areaM (formR a b 1) + areaM (formR a b 2) = areaM (formR a [] 1) + areaM (formR b [] 1) := by
  obtain ⟨n, hn⟩ : ∃ n : Nat, n = 32768 := ⟨_, rfl⟩
  rw [area_cnt ha hb 1 hn, area_cnt ha hb 2 hn, area_cnt ha mayL_nil 1 hn, area_cnt hb mayL_nil 1 hn]
  refine cntP_two (fun x z => ?_)
  rw [kept_one, kept_one]
  unfold keptB wantB
  cases hasL a x z <;> cases hasL b x z <;> simp
theorem widS_nonneg : ∀ {l : List Sp}, CanS l → 0 ≤ widS l
  | [], _ => Int.le_refl _
  | s :: l, h => by
    have := widS_nonneg h.tail
    have := h.pos
    show 0 ≤ (s.2 - s.1) + widS l
    omega
/-! ### moved -/
def mvQ (px py : Int) (q : Re) : Re := ⟨q.x + px, q.y + py, q.wd, q.ht⟩
def farR (n : Int) : Bool := decide (65536 < n) || decide (n < -65536)
/-- The errors of lists. -/
def chkR (l : List Re) : Int := if 1024 < l.length then 4 else if l.all mayR then 0 else 5
def askR (a b : List Re) : Int := if chkR a = 0 then chkR b else chkR a
theorem chkR_may {l : List Re} (h : chkR l = 0) : MayL l ∧ l.length ≤ 1024 := by
  unfold chkR at h
  split at h
  · cases h
  · split at h
    · rename_i h2
      exact ⟨fun q hq => List.all_eq_true.1 h2 q hq, by omega⟩
    · cases h
def bothE (a b : List Re) (what : Int) : Int := if askR a b = 0 then madeE a b what else askR a b
def bothL (a b : List Re) (what : Int) : List Re := if askR a b = 0 then madeL a b what else []
/-- Two lists of rectangles. -/
def eqRs : List Re → List Re → Bool
  | [], [] => true
  | x :: xs, y :: ys => x.eqb y && eqRs xs ys
  | _, _ => false
theorem eqRs_len : ∀ {xs ys : List Re}, xs.length ≠ ys.length → eqRs xs ys = false
  | [], [], h => absurd rfl h
  | [], _ :: _, _ => rfl
  | _ :: _, [], _ => rfl
  | x :: xs, y :: ys, h => by
    unfold eqRs
    rw [eqRs_len (by simpa using h), Bool.and_false]
theorem eqb_iff {p q : Re} : p.eqb q = true ↔ p = q := by
  unfold Re.eqb
  rw [eq4_iff]
  cases p; cases q; simp
theorem eqRs_iff : ∀ {xs ys : List Re}, eqRs xs ys = true ↔ xs = ys
  | [], [] => by simp [eqRs]
  | [], _ :: _ => by simp [eqRs]
  | _ :: _, [] => by simp [eqRs]
  | x :: xs, y :: ys => by
    unfold eqRs
    rw [Bool.and_eq_true, eqb_iff, eqRs_iff]
    simp
theorem eqRs_step {xs ys : List Re} {k : Nat} {x y : Re} (hx : xs[k]? = some x) (hy : ys[k]? = some y) : eqRs (xs.drop k) (ys.drop k) = (x.eqb y && eqRs (xs.drop (k + 1)) (ys.drop (k + 1))) := by
  obtain ⟨hk, e⟩ := List.getElem?_eq_some_iff.1 hx
  obtain ⟨hk', e'⟩ := List.getElem?_eq_some_iff.1 hy
  rw [List.drop_eq_getElem_cons hk, e, List.drop_eq_getElem_cons hk', e']
  rfl
/-- Is it in the one form? -/
def isFormE (l : List Re) : Int := if chkR l = 0 then (if madeE l [] 1 = 0 ∧ eqRs (madeL l [] 1) l = true then 0 else 2) else chkR l
def areaE (l : List Re) : Int := if chkR l = 0 then areaM (formR l [] 1) else 0
def hasE (l : List Re) (x y : Int) : Bool := if chkR l = 0 then hasL l x y else false
def unR (o q : Re) : Re := ⟨min o.x q.x, min o.y q.y, max (o.x + o.wd) (q.x + q.wd) - min o.x q.x, max (o.y + o.ht) (q.y + q.ht) - min o.y q.y⟩
def bndGo (o : Re) (q : Re) : Re := if noneR q then o else if noneR o then q else unR o q
def bndR (l : List Re) : Re := l.foldl bndGo ⟨0, 0, 0, 0⟩
def bndE (l : List Re) : Re := if chkR l = 0 then bndR l else ⟨0, 0, 0, 0⟩
def movE (px py : Int) (l : List Re) : Int := if chkR l = 0 then (if farR px || farR py then 2 else if madeE l [] 1 = 0 then (if (madeL l [] 1).all (fun q => mayR (mvQ px py q)) then 0 else 5) else madeE l [] 1) else chkR l
def movL (px py : Int) (l : List Re) : List Re := if movE px py l = 0 then (madeL l [] 1).map (mvQ px py) else []
def samE (a b : List Re) : Bool := if askR a b = 0 then sameR a b else false
end
section
set_option linter.unusedSimpArgs false
set_option linter.unusedVariables false
theorem chk_of {l : List Re} (h : MayL l) (hl : l.length ≤ 1024) : chkR l = 0 := by
  unfold chkR
  rw [if_neg (by omega), if_pos (List.all_eq_true.2 h)]
theorem both_of {a b : List Re} {what : Int} (ha : MayL a) (hb : MayL b) (la : a.length ≤ 1024) (lb : b.length ≤ 1024) (hf : (formR a b what).length ≤ 1024) : bothE a b what = 0 ∧ bothL a b what = formR a b what := by
  have e : askR a b = 0 := by unfold askR; rw [if_pos (chk_of ha la), chk_of hb lb]
  unfold bothE bothL
  rw [if_pos e, if_pos e]
  unfold madeE madeL
  rw [if_neg (by omega), if_neg (by omega)]
  exact ⟨rfl, rfl⟩
theorem form_small {a b : List Re} (what : Int) (ha : MayL a) (hb : MayL b) (n : Nat) (hn : a.length + b.length ≤ n) (h32 : n ≤ 32) : (formR a b what).length ≤ 1024 := by
  have h1 := form_len ha.sane hb.sane what
  have h2 : (a.length + b.length) * (a.length + b.length) ≤ 32 * 32 := Nat.mul_le_mul (by omega) (by omega)
  omega
theorem has_nil (x z : Int) : hasL [] x z = false := rfl
/-- Lists with the same places. -/
def SameP (a b : List Re) : Prop := ∀ x z, hasL a x z = hasL b x z
theorem form_places {a b : List Re} (ha : Sane a) (hb : Sane b) (what : Int) (x z : Int) : hasL (formR a b what) x z = wantB what (hasL a x z) (hasL b x z) := form_has ha hb what x z
theorem form_same {a b a' b' : List Re} {what what' : Int} (ha : Sane a) (hb : Sane b) (ha' : Sane a') (hb' : Sane b') (h : ∀ x z, wantB what (hasL a x z) (hasL b x z) = wantB what' (hasL a' x z) (hasL b' x z)) : formR a b what = formR a' b' what' := form_congr ha hb ha' hb' h
theorem want1 (o p : Bool) : wantB 1 o p = (o || p) := rfl
theorem want2 (o p : Bool) : wantB 2 o p = (o && p) := rfl
theorem want3 (o p : Bool) : wantB 3 o p = (o && !p) := rfl
theorem join_comm {a b : List Re} (ha : Sane a) (hb : Sane b) : formR a b 1 = formR b a 1 := form_same ha hb hb ha (fun x z => by rw [want1, want1, Bool.or_comm])
theorem meet_comm {a b : List Re} (ha : Sane a) (hb : Sane b) : formR a b 2 = formR b a 2 := form_same ha hb hb ha (fun x z => by rw [want2, want2, Bool.and_comm])
theorem join_assoc {a b c : List Re} (ha : Sane a) (hb : Sane b) (hc : Sane c) : formR (formR a b 1) c 1 = formR a (formR b c 1) 1 :=
  form_same (form_sane ha hb 1) hc ha (form_sane hb hc 1) (fun x z => by rw [form_places ha hb, form_places hb hc, want1, want1, want1, want1, Bool.or_assoc])
theorem join_left {a b c : List Re} (ha : Sane a) (hb : Sane b) (hc : Sane c) : formR (formR a b 1) c 1 = formR (a ++ b) c 1 :=
  form_same (form_sane ha hb 1) hc (sane_append ha hb) hc (fun x z => by rw [form_places ha hb, has_append, want1, want1, want1])
theorem whole_eq {a b : List Re} (ha : Sane a) (hb : Sane b) : formR (formR a b 2) (formR a b 3) 1 = formR a [] 1 :=
  form_same (form_sane ha hb 2) (form_sane ha hb 3) ha sane_nil (fun x z => by
    rw [form_places ha hb, form_places ha hb, want1, want2, want3, want1, has_nil]
    cases hasL a x z <;> cases hasL b x z <;> rfl)
theorem none_eq {a b : List Re} (ha : Sane a) (hb : Sane b) : formR (formR a b 3) b 2 = [] := by
  have : formR (formR a b 3) b 2 = formR [] [] 1 := form_same (form_sane ha hb 3) hb sane_nil sane_nil (fun x z => by
    rw [form_places ha hb, want2, want3, want1, has_nil]
    cases hasL a x z <;> cases hasL b x z <;> rfl)
  rw [this]
  rfl
def backL (a : List Re) : List Re := a.reverse ++ a.take 1
theorem has_mem {a b : List Re} (h : ∀ q, q ∈ a ↔ q ∈ b) : SameP a b := by
  intro x z
  unfold hasL
  rw [Bool.eq_iff_iff, List.any_eq_true, List.any_eq_true]
  constructor
  · rintro ⟨q, hq, e⟩; exact ⟨q, (h q).1 hq, e⟩
  · rintro ⟨q, hq, e⟩; exact ⟨q, (h q).2 hq, e⟩
theorem back_mem (a : List Re) (q : Re) : q ∈ backL a ↔ q ∈ a := by
  unfold backL
  rw [List.mem_append, List.mem_reverse]
  constructor
  · rintro (h | h)
    · exact h
    · exact List.mem_of_mem_take h
  · intro h; exact .inl h
theorem back_form {a : List Re} (ha : Sane a) : formR (backL a) [] 1 = formR a [] 1 :=
  form_same (fun q hq => ha q ((back_mem a q).1 hq)) sane_nil ha sane_nil (fun x z => by rw [has_mem (back_mem a) x z])
theorem back_len (a : List Re) : (backL a).length ≤ a.length + 1 := by
  unfold backL
  rw [List.length_append, List.length_reverse, List.length_take]
  omega
/-! ### the same places just if the same form -/
theorem rise_find : ∀ {X : List Int}, Rise X → ∀ {z : Int}, (∃ a ∈ X.head?, ∃ b ∈ X.getLast?, a ≤ z ∧ z < b) → ∃ u v, (u, v) ∈ X.zip X.tail ∧ u ≤ z ∧ z < v
  | [], _, z, h => by obtain ⟨a, ha, _⟩ := h; simp at ha
  | [x], _, z, h => by
    obtain ⟨a, ha, b, hb, h1, h2⟩ := h
    simp at ha hb
    omega
  | x :: y :: X, hr, z, h => by
    obtain ⟨a, ha, b, hb, h1, h2⟩ := h
    simp at ha
    subst ha
    by_cases hz : z < y
    · exact ⟨x, y, by simp, h1, hz⟩
    · obtain ⟨u, v, huv, h3, h4⟩ := rise_find hr.2 (z := z) ⟨y, by simp, b, by rw [List.getLast?_cons_cons] at hb; exact hb, by omega, h2⟩
      exact ⟨u, v, by simp only [List.tail_cons, List.zip_cons_cons] at huv ⊢; exact List.mem_cons_of_mem _ huv, h3, h4⟩
theorem mem_zip_left {X : List Int} {u v : Int} (h : (u, v) ∈ X.zip X.tail) : u ∈ X := (List.of_mem_zip h).1
theorem same_places {a b : List Re} (ha : Sane a) (hb : Sane b) (h : ∀ y ∈ edgesY a b, spansP a [] 1 y = spansP b [] 1 y) : SameP a b := by
  have hr := edgesY_rise a b
  have m1 : ∀ q ∈ a, ∀ v, OnY q v → v ∈ edgesY a b := fun q hq v h => mem_edgesY.2 ⟨q, by simp [hq], h⟩
  have m2 : ∀ q ∈ b, ∀ v, OnY q v → v ∈ edgesY a b := fun q hq v h => mem_edgesY.2 ⟨q, by simp [hq], h⟩
  obtain hA := fun y => (spans_spec ha sane_nil 1 y).2
  obtain hB := fun y => (spans_spec hb sane_nil 1 y).2
  have key : ∀ (c : List Re), Sane c → (∀ q ∈ c, ∀ v, OnY q v → v ∈ edgesY a b) → ∀ x z, hasL c x z = true → ∃ y ∈ edgesY a b, hasL a x z = hasL a x y ∧ hasL b x z = hasL b x y := by
    intro c hc mc x z hz
    obtain ⟨u, v, huv, h1, h2⟩ := rise_find hr (has_withinY mc hr hz)
    exact ⟨u, mem_zip_left huv, has_constY ha m1 hr huv h1 h2 x, has_constY hb m2 hr huv h1 h2 x⟩
  have row : ∀ x, ∀ y ∈ edgesY a b, hasL a x y = hasL b x y := by
    intro x y hy
    have e := h y hy
    have h1 := hA y x
    have h2 := hB y x
    rw [kept_one] at h1 h2
    rw [Bool.eq_iff_iff, ← h1, ← h2, e]
  intro x z
  rw [Bool.eq_iff_iff]
  constructor
  · intro hz
    obtain ⟨y, hy, e1, e2⟩ := key a ha m1 x z hz
    rw [e2, ← row x y hy, ← e1]; exact hz
  · intro hz
    obtain ⟨y, hy, e1, e2⟩ := key b hb m2 x z hz
    rw [e1, row x y hy, ← e2]; exact hz
theorem same_forms {a b : List Re} (ha : Sane a) (hb : Sane b) : sameR a b = eqRs (formR a [] 1) (formR b [] 1) := by
  rw [Bool.eq_iff_iff, eqRs_iff]
  unfold sameR
  rw [List.all_eq_true]
  constructor
  · intro h
    have hs := same_places ha hb (fun y hy => by simpa using h y hy)
    exact form_same ha sane_nil hb sane_nil (fun x z => by rw [hs x z])
  · intro h y _
    rw [decide_eq_true_eq]
    refine spans_congr ha sane_nil hb sane_nil (fun x => ?_)
    rw [kept_one, kept_one]
    have h1 := form_places ha sane_nil 1 x y
    have h2 := form_places hb sane_nil 1 x y
    rw [h] at h1
    rw [h1, want1, want1, has_nil, Bool.or_false, Bool.or_false] at h2
    exact h2
theorem eqRs_refl (l : List Re) : eqRs l l = true := eqRs_iff.2 rfl
end
end Go.Proofs.Ytkmofpnefjgnkaa
