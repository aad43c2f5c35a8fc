/-
  Two colours, two rectangles, two strokes held against one another: one Boolean each.
-/
import Derived.Test.YtlklmncjicgbgaaLisD
import Derived.Laws.StructEq
namespace Go.Proofs.Ytlklmncjicgbgaa
open Go.RowKit
set_option linter.unusedVariables false
attribute [local go_sem] vwp vUpon_value vUpon_skip vUpon_enter vUpon_row
set_option linter.unusedSimpArgs false
set_option linter.unusedVariables false
def eq4 (a b c d a' b' c' d' : Int) : Bool := (a == a') && ((b == b') && ((c == c') && (d == d')))
theorem eq4_iff {a b c d a' b' c' d' : Int} : eq4 a b c d a' b' c' d' = true ↔ a = a' ∧ b = b' ∧ c = c' ∧ d = d' := by
  simp [eq4]
def Re.eqb (p q : Re) : Bool := eq4 p.x p.y p.wd p.ht q.x q.y q.wd q.ht
def Co.eqb (p q : Co) : Bool := eq4 p.r p.g p.b p.a q.r q.g q.b q.a
def St.eqb (s t : St) : Bool := (s.kind == t.kind) && (s.rect.eqb t.rect && (s.col.eqb t.col && (s.back.eqb t.back && ((s.text.toList == t.text.toList) && (s.node == t.node)))))
def Co.none : Co := ⟨0, 0, 0, 0⟩
def Re.none : Re := ⟨0, 0, 0, 0⟩
theorem eq_point (d : Nat) (w : World) (a b a' b' : Int) : (Op.equalIn (d + 2) 34 (.agg #[.int .i64 a, .int .i64 b]) (.agg #[.int .i64 a', .int .i64 b'])).run Try.prog w = .ok ((a == a') && (b == b')) w := by
  have A := Try.underlying34
  have B := Try.underlying3
  rw [run_equalIn_agg w (d + 1) _ _ _ (by simp [Program.fieldsOf, A]) (by kernel_rfl)]
  simp only [Program.fieldsOf, A]
  by_cases h0 : a = a' <;> by_cases h1 : b = b' <;> simp [Op.eqFields, part, isAgg, run_underlying B, run_equalIn_int _ _ _ _ _ _ _ B, h0, h1]
theorem eq_size (d : Nat) (w : World) (a b a' b' : Int) : (Op.equalIn (d + 2) 47 (.agg #[.int .i64 a, .int .i64 b]) (.agg #[.int .i64 a', .int .i64 b'])).run Try.prog w = .ok ((a == a') && (b == b')) w := by
  have A := Try.underlying47
  have B := Try.underlying3
  rw [run_equalIn_agg w (d + 1) _ _ _ (by simp [Program.fieldsOf, A]) (by kernel_rfl)]
  simp only [Program.fieldsOf, A]
  by_cases h0 : a = a' <;> by_cases h1 : b = b' <;> simp [Op.eqFields, part, isAgg, run_underlying B, run_equalIn_int _ _ _ _ _ _ _ B, h0, h1]
theorem eq_rect (d : Nat) (w : World) (a b c e a' b' c' e' : Int) : (Op.equalIn (d + 3) 49 (.agg #[.int .i64 a, .int .i64 b, .int .i64 c, .int .i64 e]) (.agg #[.int .i64 a', .int .i64 b', .int .i64 c', .int .i64 e'])).run Try.prog w = .ok (eq4 a b c e a' b' c' e') w := by
  unfold eq4
  have A := Try.underlying49
  have B := Try.underlying34
  have C := Try.underlying47
  rw [run_equalIn_agg w (d + 2) _ _ _ (by simp [Program.fieldsOf, A]) (by kernel_rfl)]
  simp only [Program.fieldsOf, A]
  have e1 := fun w => eq_point d w a b a' b'
  have e2 := fun w => eq_size d w c e c' e'
  have z1 : Try.prog.cellsOf 34 = 2 := by kernel_rfl
  have z2 : Try.prog.cellsOf 47 = 2 := by kernel_rfl
  have y1 : Try.t34.size = 2 := by kernel_rfl
  have y2 : Try.t47.size = 2 := by kernel_rfl
  generalize (a == a') = b0 at *
  generalize (b == b') = b1 at *
  generalize (c == c') = b2 at *
  generalize (e == e') = b3 at *
  simp [Op.eqFields, part, isAgg, run_underlying B, run_underlying C, sizeOf, z1, z2, y1, y2, e1, e2]
  cases b0 <;> cases b1 <;> cases b2 <;> cases b3 <;> simp
end Go.Proofs.Ytlklmncjicgbgaa
