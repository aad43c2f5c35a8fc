/-
  Two colours, two rectangles, two strokes held against one another: one Boolean each.
-/
import Derived.Test.YtpbolbpenkfpiaaDoorLisD
import Derived.Laws.StructEq
namespace Go.Proofs.YtpbolbpenkfpiaaDoor
open Go.RowKit
set_option linter.unusedVariables false
attribute [local go_sem] vwp vUpon_value vUpon_skip vUpon_enter vUpon_row
set_option linter.unusedSimpArgs false
set_option linter.unusedVariables false
def eq4 (a b c d a' b' c' d' : Int) : Bool := (a == a') && ((b == b') && ((c == c') && (d == d')))
theorem eq4_iff {a b c d a' b' c' d' : Int} : eq4 a b c d a' b' c' d' = true ↔ a = a' ∧ b = b' ∧ c = c' ∧ d = d' := by
  simp [eq4]
def Re.eqb (p q : Re) : Bool := eq4 p.x p.y p.wd p.ht q.x q.y q.wd q.ht
def Co.eqb (p q : Co) : Bool := eq4 p.r p.g p.b p.a q.r q.g q.b q.a
def St.eqb (s t : St) : Bool := (s.kind == t.kind) && (s.rect.eqb t.rect && (s.col.eqb t.col && (s.back.eqb t.back && ((s.text.toList == t.text.toList) && (s.node == t.node)))))
def Co.none : Co := ⟨0, 0, 0, 0⟩
def Re.none : Re := ⟨0, 0, 0, 0⟩
theorem eq_colour (d : Nat) (w : World) (a b c e a' b' c' e' : Int) : (Op.equalIn (d + 2) 30 (.agg #[.int .u8 (a), .int .u8 (b), .int .u8 (c), .int .u8 (e)]) (.agg #[.int .u8 (a'), .int .u8 (b'), .int .u8 (c'), .int .u8 (e')])).run Tryd.prog w = .ok (eq4 a b c e a' b' c' e') w := by
  unfold eq4
  have A := Tryd.underlying30
  have B := Tryd.underlying5
  rw [run_equalIn_agg w (d + 1) _ _ _ (by simp [Program.fieldsOf, A]) (by kernel_rfl)]
  simp only [Program.fieldsOf, A]
  by_cases h0 : a = a' <;> by_cases h1 : b = b' <;> by_cases h2 : c = c' <;> by_cases h3 : e = e' <;> simp [Op.eqFields, part, isAgg, run_underlying B, run_equalIn_int _ _ _ _ _ _ _ B, h0, h1, h2, h3]

theorem eq_point (d : Nat) (w : World) (a b a' b' : Int) : (Op.equalIn (d + 2) 26 (.agg #[.int .i64 a, .int .i64 b]) (.agg #[.int .i64 a', .int .i64 b'])).run Tryd.prog w = .ok ((a == a') && (b == b')) w := by
  have A := Tryd.underlying26
  have B := Tryd.underlying3
  rw [run_equalIn_agg w (d + 1) _ _ _ (by simp [Program.fieldsOf, A]) (by kernel_rfl)]
  simp only [Program.fieldsOf, A]
  by_cases h0 : a = a' <;> by_cases h1 : b = b' <;> simp [Op.eqFields, part, isAgg, run_underlying B, run_equalIn_int _ _ _ _ _ _ _ B, h0, h1]
theorem eq_size (d : Nat) (w : World) (a b a' b' : Int) : (Op.equalIn (d + 2) 24 (.agg #[.int .i64 a, .int .i64 b]) (.agg #[.int .i64 a', .int .i64 b'])).run Tryd.prog w = .ok ((a == a') && (b == b')) w := by
  have A := Tryd.underlying24
  have B := Tryd.underlying3
  rw [run_equalIn_agg w (d + 1) _ _ _ (by simp [Program.fieldsOf, A]) (by kernel_rfl)]
  simp only [Program.fieldsOf, A]
  by_cases h0 : a = a' <;> by_cases h1 : b = b' <;> simp [Op.eqFields, part, isAgg, run_underlying B, run_equalIn_int _ _ _ _ _ _ _ B, h0, h1]
theorem eq_rect (d : Nat) (w : World) (a b c e a' b' c' e' : Int) : (Op.equalIn (d + 3) 28 (.agg #[.int .i64 a, .int .i64 b, .int .i64 c, .int .i64 e]) (.agg #[.int .i64 a', .int .i64 b', .int .i64 c', .int .i64 e'])).run Tryd.prog w = .ok (eq4 a b c e a' b' c' e') w := by
  unfold eq4
  have A := Tryd.underlying28
  have B := Tryd.underlying26
  have C := Tryd.underlying24
  rw [run_equalIn_agg w (d + 2) _ _ _ (by simp [Program.fieldsOf, A]) (by kernel_rfl)]
  simp only [Program.fieldsOf, A]
  have e1 := fun w => eq_point d w a b a' b'
  have e2 := fun w => eq_size d w c e c' e'
  have z1 : Tryd.prog.cellsOf 26 = 2 := by kernel_rfl
  have z2 : Tryd.prog.cellsOf 24 = 2 := by kernel_rfl
  have y1 : Tryd.t26.size = 2 := by kernel_rfl
  have y2 : Tryd.t24.size = 2 := by kernel_rfl
  generalize (a == a') = b0 at *
  generalize (b == b') = b1 at *
  generalize (c == c') = b2 at *
  generalize (e == e') = b3 at *
  simp [Op.eqFields, part, isAgg, run_underlying B, run_underlying C, sizeOf, z1, z2, y1, y2, e1, e2]
  cases b0 <;> cases b1 <;> cases b2 <;> cases b3 <;> simp
theorem eq_stroke (d : Nat) (w : World) (s t : St) : (Op.equalIn (d + 4) 32 (.agg #[.int .u8 (s).kind, .int .i64 ((s).rect).x, .int .i64 ((s).rect).y, .int .i64 ((s).rect).wd, .int .i64 ((s).rect).ht, .int .u8 ((s).col).r, .int .u8 ((s).col).g, .int .u8 ((s).col).b, .int .u8 ((s).col).a, .int .u8 ((s).back).r, .int .u8 ((s).back).g, .int .u8 ((s).back).b, .int .u8 ((s).back).a, .string (s).text, .int .i64 (s).node]) (.agg #[.int .u8 (t).kind, .int .i64 ((t).rect).x, .int .i64 ((t).rect).y, .int .i64 ((t).rect).wd, .int .i64 ((t).rect).ht, .int .u8 ((t).col).r, .int .u8 ((t).col).g, .int .u8 ((t).col).b, .int .u8 ((t).col).a, .int .u8 ((t).back).r, .int .u8 ((t).back).g, .int .u8 ((t).back).b, .int .u8 ((t).back).a, .string (t).text, .int .i64 (t).node])).run Tryd.prog w = .ok (s.eqb t) w := by
  unfold St.eqb Re.eqb Co.eqb
  have A := Tryd.underlying32
  have K := Tryd.underlying5
  have I := Tryd.underlying3
  have S := Tryd.underlying9
  have B := Tryd.underlying28
  have C := Tryd.underlying30
  rw [run_equalIn_agg w (d + 3) _ _ _ (by simp [Program.fieldsOf, A]) (by kernel_rfl)]
  simp only [Program.fieldsOf, A]
  have z1 : Tryd.prog.cellsOf 28 = 4 := by kernel_rfl
  have z2 : Tryd.prog.cellsOf 30 = 4 := by kernel_rfl
  have y1 : Tryd.t28.size = 4 := by kernel_rfl
  have y2 : Tryd.t30.size = 4 := by kernel_rfl
  have E0 : ∀ w a b, (Op.equalIn (d + 3) 5 (.int .u8 a) (.int .u8 b)).run Tryd.prog w = .ok (a == b) w := fun w a b => run_equalIn_int w (d + 2) _ _ _ a b K
  have E1 : ∀ w a b, (Op.equalIn (d + 3) 3 (.int .i64 a) (.int .i64 b)).run Tryd.prog w = .ok (a == b) w := fun w a b => run_equalIn_int w (d + 2) _ _ _ a b I
  have E2 : ∀ w a b, (Op.equalIn (d + 3) 9 (.string a) (.string b)).run Tryd.prog w = .ok (a.toList == b.toList) w := fun w a b => run_equalIn_string w (d + 2) _ a b S
  have E3 := eq_rect d
  have E4 := eq_colour (d + 1)
  generalize hb0 : (s.kind == t.kind) = b0
  generalize hb1 : eq4 s.rect.x s.rect.y s.rect.wd s.rect.ht t.rect.x t.rect.y t.rect.wd t.rect.ht = b1
  generalize hb2 : eq4 s.col.r s.col.g s.col.b s.col.a t.col.r t.col.g t.col.b t.col.a = b2
  generalize hb3 : eq4 s.back.r s.back.g s.back.b s.back.a t.back.r t.back.g t.back.b t.back.a = b3
  generalize hb4 : (s.text.toList == t.text.toList) = b4
  generalize hb5 : (s.node == t.node) = b5
  simp only [Op.eqFields, Sem.run_bind, Sem.run_ite, part, isAgg, run_underlying K, run_underlying I, run_underlying S, run_underlying B, run_underlying C]
  simp [sizeOf, z1, z2, y1, y2, E0, E1, E2, E3, E4, hb0, hb1, hb2, hb3, hb4, hb5]
  cases b0 <;> cases b1 <;> cases b2 <;> cases b3 <;> cases b4 <;> cases b5 <;> simp
end Go.Proofs.YtpbolbpenkfpiaaDoor
