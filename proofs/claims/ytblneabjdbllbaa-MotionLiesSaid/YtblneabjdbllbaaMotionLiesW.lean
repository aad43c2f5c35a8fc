/-
  The law MotionLies walked.
-/
import Derived.Test.YtblneabjdbllbaaMotP
namespace Go.Proofs.Ytblneabjdbllbaa
open Go.RowKit
set_option linter.unusedVariables false
attribute [local go_sem] vwp vUpon_value vUpon_skip vUpon_enter vUpon_row
set_option maxHeartbeats 2000000 in
theorem lies_err (m : Mo) (t l : Int) (w : World) (hw : Wf m) (he : resE m t ≠ 0) :
    Calls Try.prog 5 #[.agg #[.int .i64 ((m).node), .int .i64 ((m).fr), .int .i64 ((m).to), .int .i64 ((m).st), .int .i64 ((m).ln), .int .u8 ((m).es), .int .i64 ((m).ts), .bool ((m).bk)], .int .i64 t, .int .i64 l] w fun e w' => e = .returned (.bool true) ∧ Below w.heap.size w w' := by
  have A1 := fun w => At_any m t w hw
  have e1 : resV m t = 0 := if_neg he
  have e2 : resG m t = false := if_neg he
  rw [e1, e2] at A1
  generalize resE m t = x at *
  have hx : (x != 0) = true := by simpa using he
  replace A1 := Lib.hid A1
  clear e1 e2 he hw
  obtain ⟨nd, fr, to, st, ln, es, ts, bk⟩ := m
  go_enter Try.func5, Try.ntmps5
  go_wp2_with (first
    | (go_at_call 9; (with_reducible refine (alive_any _).mono ?_); rintro e w1 ⟨rfl, hb1⟩; obtain ⟨hc1, hf1⟩ := bcell hb1; have hz1 := hb1.size; (try simp at hz1); (try have lt1 : w.heap.size < w1.heap.size := (by omega)))
    | (go_at_call 10; (with_reducible refine (A1.out _).mono ?_); rintro e w2 ⟨rfl, hb2⟩; obtain ⟨hc2, hf2⟩ := bcell hb2; have hz2 := hb2.size; (try simp at hz2); (try have lt2 : w.heap.size < w2.heap.size := (by omega))))
  go_ret
  exact ⟨rfl, (by repeat (first | exact Below.refl _ _ | assumption | refine Below.drew ?_ | refine Below.alloc ?_ (by (try simp) <;> omega) _ | refine Below.setCell ?_ (by (try simp) <;> omega) _ | (refine Below.trans ?_ (Below.mono (by assumption) (by (try simp) <;> omega)))))⟩
set_option maxHeartbeats 2000000 in
theorem n1_lies_a (nd fr to st ln es ts : Int) (t l v lo hi : Int) (g2 : Bool) (w : World)
    (A1 : Hid (∀ w, Calls Try.prog 10 #[.agg #[.int .i64 (nd), .int .i64 (fr), .int .i64 (to), .int .i64 (st), .int .i64 (ln), .int .u8 (es), .int .i64 (ts), .bool (false)], .int .i64 t] w fun e w' => e = .returned (.tuple #[.int .i64 v, .bool true, .int .i64 0]) ∧ Below w.heap.size w w'))
    (A2 : Hid (∀ w, Calls Try.prog 10 #[.agg #[.int .i64 (nd), .int .i64 (fr), .int .i64 (to), .int .i64 (st), .int .i64 (ln), .int .u8 (es), .int .i64 (ts), .bool (false)], .int .i64 st] w fun e w' => e = .returned (.tuple #[.int .i64 fr, .bool g2, .int .i64 0]) ∧ Below w.heap.size w w'))
    (A3 : Hid (true = false → t ≤ l → l ≤ 1048576 → ∀ w, Calls Try.prog 10 #[.agg #[.int .i64 (nd), .int .i64 (fr), .int .i64 (to), .int .i64 (st), .int .i64 (ln), .int .u8 (es), .int .i64 (ts), .bool (false)], .int .i64 l] w fun e w' => e = .returned (.tuple #[.int .i64 v, .bool false, .int .i64 0]) ∧ Below w.heap.size w w'))
    (A4 : Hid (false = true → 1 ≤ t - st - ln → t - st - ln < ln → ts ≠ 1 → ∃ g3, ∀ w, Calls Try.prog 10 #[.agg #[.int .i64 (nd), .int .i64 (fr), .int .i64 (to), .int .i64 (st), .int .i64 (ln), .int .u8 (es), .int .i64 (ts), .bool (false)], .int .i64 (st + ln - (t - st - ln))] w fun e w' => e = .returned (.tuple #[.int .i64 v, .bool g3, .int .i64 0]) ∧ Below w.heap.size w w'))
    (m1 : (if fr < to then fr else to) = lo) (m2 : (if to < fr then to else fr) = lo) (m3 : (if fr < to then to else fr) = hi) (m4 : (if to < fr then fr else to) = hi) (v0 : lo ≤ v) (v1 : v ≤ hi)
    (t0 : 0 ≤ t) (t1 : t ≤ 1048576) (s0 : 0 ≤ st) (s1 : st ≤ 1048576) (l0 : 1 ≤ ln) (l1 : ln ≤ 1048576)  (k1 : True) :
    Calls Try.prog 5 #[.agg #[.int .i64 (nd), .int .i64 (fr), .int .i64 (to), .int .i64 (st), .int .i64 (ln), .int .u8 (es), .int .i64 (ts), .bool (false)], .int .i64 t, .int .i64 l] w fun e w' => e = .returned (.bool true) ∧ Below w.heap.size w w' := by
  skip
  go_enter Try.func5, Try.ntmps5
  go_wp2_with (first
    | (go_at_call 9; (with_reducible refine (alive_any _).mono ?_); rintro e w1 ⟨rfl, hb1⟩; obtain ⟨hc1, hf1⟩ := bcell hb1; have hz1 := hb1.size; (try simp at hz1); (try have lt1 : w.heap.size < w1.heap.size := (by omega)))
    | (go_at_call 10; (with_reducible refine (A1.out _).mono ?_); rintro e w2 ⟨rfl, hb2⟩; obtain ⟨hc2, hf2⟩ := bcell hb2; have hz2 := hb2.size; (try simp at hz2); (try have lt2 : w.heap.size < w2.heap.size := (by omega)))
    | (go_at_call 10; (with_reducible refine (A2.out _).mono ?_); rintro e w3 ⟨rfl, hb3⟩; obtain ⟨hc3, hf3⟩ := bcell hb3; have hz3 := hb3.size; (try simp at hz3); (try have lt3 : w.heap.size < w3.heap.size := (by omega))))
  go_ret
  exact ⟨rfl, (by repeat (first | exact Below.refl _ _ | assumption | refine Below.drew ?_ | refine Below.alloc ?_ (by (try simp) <;> omega) _ | refine Below.setCell ?_ (by (try simp) <;> omega) _ | (refine Below.trans ?_ (Below.mono (by assumption) (by (try simp) <;> omega)))))⟩
set_option maxHeartbeats 2000000 in
theorem n2_lies_a (nd fr to st ln es ts : Int) (t l v lo hi : Int) (g2 : Bool) (w : World)
    (A1 : Hid (∀ w, Calls Try.prog 10 #[.agg #[.int .i64 (nd), .int .i64 (fr), .int .i64 (to), .int .i64 (st), .int .i64 (ln), .int .u8 (es), .int .i64 (ts), .bool (true)], .int .i64 t] w fun e w' => e = .returned (.tuple #[.int .i64 v, .bool true, .int .i64 0]) ∧ Below w.heap.size w w'))
    (A2 : Hid (∀ w, Calls Try.prog 10 #[.agg #[.int .i64 (nd), .int .i64 (fr), .int .i64 (to), .int .i64 (st), .int .i64 (ln), .int .u8 (es), .int .i64 (ts), .bool (true)], .int .i64 st] w fun e w' => e = .returned (.tuple #[.int .i64 fr, .bool g2, .int .i64 0]) ∧ Below w.heap.size w w'))
    (A3 : Hid (true = false → t ≤ l → l ≤ 1048576 → ∀ w, Calls Try.prog 10 #[.agg #[.int .i64 (nd), .int .i64 (fr), .int .i64 (to), .int .i64 (st), .int .i64 (ln), .int .u8 (es), .int .i64 (ts), .bool (true)], .int .i64 l] w fun e w' => e = .returned (.tuple #[.int .i64 v, .bool false, .int .i64 0]) ∧ Below w.heap.size w w'))
    (A4 : Hid (true = true → 1 ≤ t - st - ln → t - st - ln < ln → ts ≠ 1 → ∃ g3, ∀ w, Calls Try.prog 10 #[.agg #[.int .i64 (nd), .int .i64 (fr), .int .i64 (to), .int .i64 (st), .int .i64 (ln), .int .u8 (es), .int .i64 (ts), .bool (true)], .int .i64 (st + ln - (t - st - ln))] w fun e w' => e = .returned (.tuple #[.int .i64 v, .bool g3, .int .i64 0]) ∧ Below w.heap.size w w'))
    (m1 : (if fr < to then fr else to) = lo) (m2 : (if to < fr then to else fr) = lo) (m3 : (if fr < to then to else fr) = hi) (m4 : (if to < fr then fr else to) = hi) (v0 : lo ≤ v) (v1 : v ≤ hi)
    (t0 : 0 ≤ t) (t1 : t ≤ 1048576) (s0 : 0 ≤ st) (s1 : st ≤ 1048576) (l0 : 1 ≤ ln) (l1 : ln ≤ 1048576)  (k1 : (ts == 1) = true) :
    Calls Try.prog 5 #[.agg #[.int .i64 (nd), .int .i64 (fr), .int .i64 (to), .int .i64 (st), .int .i64 (ln), .int .u8 (es), .int .i64 (ts), .bool (true)], .int .i64 t, .int .i64 l] w fun e w' => e = .returned (.bool true) ∧ Below w.heap.size w w' := by
  skip
  go_enter Try.func5, Try.ntmps5
  go_wp2_with (first
    | (go_at_call 9; (with_reducible refine (alive_any _).mono ?_); rintro e w1 ⟨rfl, hb1⟩; obtain ⟨hc1, hf1⟩ := bcell hb1; have hz1 := hb1.size; (try simp at hz1); (try have lt1 : w.heap.size < w1.heap.size := (by omega)))
    | (go_at_call 10; (with_reducible refine (A1.out _).mono ?_); rintro e w2 ⟨rfl, hb2⟩; obtain ⟨hc2, hf2⟩ := bcell hb2; have hz2 := hb2.size; (try simp at hz2); (try have lt2 : w.heap.size < w2.heap.size := (by omega)))
    | (go_at_call 10; (with_reducible refine (A2.out _).mono ?_); rintro e w3 ⟨rfl, hb3⟩; obtain ⟨hc3, hf3⟩ := bcell hb3; have hz3 := hb3.size; (try simp at hz3); (try have lt3 : w.heap.size < w3.heap.size := (by omega))))
  go_ret
  exact ⟨rfl, (by repeat (first | exact Below.refl _ _ | assumption | refine Below.drew ?_ | refine Below.alloc ?_ (by (try simp) <;> omega) _ | refine Below.setCell ?_ (by (try simp) <;> omega) _ | (refine Below.trans ?_ (Below.mono (by assumption) (by (try simp) <;> omega)))))⟩
set_option maxHeartbeats 2000000 in
theorem n3_lies_a (nd fr to st ln es ts : Int) (t l v lo hi : Int) (g2 : Bool) (w : World)
    (A1 : Hid (∀ w, Calls Try.prog 10 #[.agg #[.int .i64 (nd), .int .i64 (fr), .int .i64 (to), .int .i64 (st), .int .i64 (ln), .int .u8 (es), .int .i64 (ts), .bool (true)], .int .i64 t] w fun e w' => e = .returned (.tuple #[.int .i64 v, .bool true, .int .i64 0]) ∧ Below w.heap.size w w'))
    (A2 : Hid (∀ w, Calls Try.prog 10 #[.agg #[.int .i64 (nd), .int .i64 (fr), .int .i64 (to), .int .i64 (st), .int .i64 (ln), .int .u8 (es), .int .i64 (ts), .bool (true)], .int .i64 st] w fun e w' => e = .returned (.tuple #[.int .i64 fr, .bool g2, .int .i64 0]) ∧ Below w.heap.size w w'))
    (A3 : Hid (true = false → t ≤ l → l ≤ 1048576 → ∀ w, Calls Try.prog 10 #[.agg #[.int .i64 (nd), .int .i64 (fr), .int .i64 (to), .int .i64 (st), .int .i64 (ln), .int .u8 (es), .int .i64 (ts), .bool (true)], .int .i64 l] w fun e w' => e = .returned (.tuple #[.int .i64 v, .bool false, .int .i64 0]) ∧ Below w.heap.size w w'))
    (A4 : Hid (true = true → 1 ≤ t - st - ln → t - st - ln < ln → ts ≠ 1 → ∃ g3, ∀ w, Calls Try.prog 10 #[.agg #[.int .i64 (nd), .int .i64 (fr), .int .i64 (to), .int .i64 (st), .int .i64 (ln), .int .u8 (es), .int .i64 (ts), .bool (true)], .int .i64 (st + ln - (t - st - ln))] w fun e w' => e = .returned (.tuple #[.int .i64 v, .bool g3, .int .i64 0]) ∧ Below w.heap.size w w'))
    (m1 : (if fr < to then fr else to) = lo) (m2 : (if to < fr then to else fr) = lo) (m3 : (if fr < to then to else fr) = hi) (m4 : (if to < fr then fr else to) = hi) (v0 : lo ≤ v) (v1 : v ≤ hi)
    (t0 : 0 ≤ t) (t1 : t ≤ 1048576) (s0 : 0 ≤ st) (s1 : st ≤ 1048576) (l0 : 1 ≤ ln) (l1 : ln ≤ 1048576)  (k1 : (ts == 1) = false) (k2 : t - st - ln < 1) :
    Calls Try.prog 5 #[.agg #[.int .i64 (nd), .int .i64 (fr), .int .i64 (to), .int .i64 (st), .int .i64 (ln), .int .u8 (es), .int .i64 (ts), .bool (true)], .int .i64 t, .int .i64 l] w fun e w' => e = .returned (.bool true) ∧ Below w.heap.size w w' := by
  skip
  go_enter Try.func5, Try.ntmps5
  go_wp2_with (first
    | (go_at_call 9; (with_reducible refine (alive_any _).mono ?_); rintro e w1 ⟨rfl, hb1⟩; obtain ⟨hc1, hf1⟩ := bcell hb1; have hz1 := hb1.size; (try simp at hz1); (try have lt1 : w.heap.size < w1.heap.size := (by omega)))
    | (go_at_call 10; (with_reducible refine (A1.out _).mono ?_); rintro e w2 ⟨rfl, hb2⟩; obtain ⟨hc2, hf2⟩ := bcell hb2; have hz2 := hb2.size; (try simp at hz2); (try have lt2 : w.heap.size < w2.heap.size := (by omega)))
    | (go_at_call 10; (with_reducible refine (A2.out _).mono ?_); rintro e w3 ⟨rfl, hb3⟩; obtain ⟨hc3, hf3⟩ := bcell hb3; have hz3 := hb3.size; (try simp at hz3); (try have lt3 : w.heap.size < w3.heap.size := (by omega))))
  go_ret
  exact ⟨rfl, (by repeat (first | exact Below.refl _ _ | assumption | refine Below.drew ?_ | refine Below.alloc ?_ (by (try simp) <;> omega) _ | refine Below.setCell ?_ (by (try simp) <;> omega) _ | (refine Below.trans ?_ (Below.mono (by assumption) (by (try simp) <;> omega)))))⟩
set_option maxHeartbeats 2000000 in
theorem n4_lies_a (nd fr to st ln es ts : Int) (t l v lo hi : Int) (g2 : Bool) (w : World)
    (A1 : Hid (∀ w, Calls Try.prog 10 #[.agg #[.int .i64 (nd), .int .i64 (fr), .int .i64 (to), .int .i64 (st), .int .i64 (ln), .int .u8 (es), .int .i64 (ts), .bool (true)], .int .i64 t] w fun e w' => e = .returned (.tuple #[.int .i64 v, .bool true, .int .i64 0]) ∧ Below w.heap.size w w'))
    (A2 : Hid (∀ w, Calls Try.prog 10 #[.agg #[.int .i64 (nd), .int .i64 (fr), .int .i64 (to), .int .i64 (st), .int .i64 (ln), .int .u8 (es), .int .i64 (ts), .bool (true)], .int .i64 st] w fun e w' => e = .returned (.tuple #[.int .i64 fr, .bool g2, .int .i64 0]) ∧ Below w.heap.size w w'))
    (A3 : Hid (true = false → t ≤ l → l ≤ 1048576 → ∀ w, Calls Try.prog 10 #[.agg #[.int .i64 (nd), .int .i64 (fr), .int .i64 (to), .int .i64 (st), .int .i64 (ln), .int .u8 (es), .int .i64 (ts), .bool (true)], .int .i64 l] w fun e w' => e = .returned (.tuple #[.int .i64 v, .bool false, .int .i64 0]) ∧ Below w.heap.size w w'))
    (A4 : Hid (true = true → 1 ≤ t - st - ln → t - st - ln < ln → ts ≠ 1 → ∃ g3, ∀ w, Calls Try.prog 10 #[.agg #[.int .i64 (nd), .int .i64 (fr), .int .i64 (to), .int .i64 (st), .int .i64 (ln), .int .u8 (es), .int .i64 (ts), .bool (true)], .int .i64 (st + ln - (t - st - ln))] w fun e w' => e = .returned (.tuple #[.int .i64 v, .bool g3, .int .i64 0]) ∧ Below w.heap.size w w'))
    (m1 : (if fr < to then fr else to) = lo) (m2 : (if to < fr then to else fr) = lo) (m3 : (if fr < to then to else fr) = hi) (m4 : (if to < fr then fr else to) = hi) (v0 : lo ≤ v) (v1 : v ≤ hi)
    (t0 : 0 ≤ t) (t1 : t ≤ 1048576) (s0 : 0 ≤ st) (s1 : st ≤ 1048576) (l0 : 1 ≤ ln) (l1 : ln ≤ 1048576)  (k1 : (ts == 1) = false) (k2 : 1 ≤ t - st - ln) (k3 : ln ≤ t - st - ln) :
    Calls Try.prog 5 #[.agg #[.int .i64 (nd), .int .i64 (fr), .int .i64 (to), .int .i64 (st), .int .i64 (ln), .int .u8 (es), .int .i64 (ts), .bool (true)], .int .i64 t, .int .i64 l] w fun e w' => e = .returned (.bool true) ∧ Below w.heap.size w w' := by
  skip
  go_enter Try.func5, Try.ntmps5
  go_wp2_with (first
    | (go_at_call 9; (with_reducible refine (alive_any _).mono ?_); rintro e w1 ⟨rfl, hb1⟩; obtain ⟨hc1, hf1⟩ := bcell hb1; have hz1 := hb1.size; (try simp at hz1); (try have lt1 : w.heap.size < w1.heap.size := (by omega)))
    | (go_at_call 10; (with_reducible refine (A1.out _).mono ?_); rintro e w2 ⟨rfl, hb2⟩; obtain ⟨hc2, hf2⟩ := bcell hb2; have hz2 := hb2.size; (try simp at hz2); (try have lt2 : w.heap.size < w2.heap.size := (by omega)))
    | (go_at_call 10; (with_reducible refine (A2.out _).mono ?_); rintro e w3 ⟨rfl, hb3⟩; obtain ⟨hc3, hf3⟩ := bcell hb3; have hz3 := hb3.size; (try simp at hz3); (try have lt3 : w.heap.size < w3.heap.size := (by omega))))
  go_ret
  exact ⟨rfl, (by repeat (first | exact Below.refl _ _ | assumption | refine Below.drew ?_ | refine Below.alloc ?_ (by (try simp) <;> omega) _ | refine Below.setCell ?_ (by (try simp) <;> omega) _ | (refine Below.trans ?_ (Below.mono (by assumption) (by (try simp) <;> omega)))))⟩
set_option maxHeartbeats 2000000 in
theorem n5_lies_a (nd fr to st ln es ts : Int) (t l v lo hi : Int) (g2 : Bool) (w : World)
    (A1 : Hid (∀ w, Calls Try.prog 10 #[.agg #[.int .i64 (nd), .int .i64 (fr), .int .i64 (to), .int .i64 (st), .int .i64 (ln), .int .u8 (es), .int .i64 (ts), .bool (true)], .int .i64 t] w fun e w' => e = .returned (.tuple #[.int .i64 v, .bool true, .int .i64 0]) ∧ Below w.heap.size w w'))
    (A2 : Hid (∀ w, Calls Try.prog 10 #[.agg #[.int .i64 (nd), .int .i64 (fr), .int .i64 (to), .int .i64 (st), .int .i64 (ln), .int .u8 (es), .int .i64 (ts), .bool (true)], .int .i64 st] w fun e w' => e = .returned (.tuple #[.int .i64 fr, .bool g2, .int .i64 0]) ∧ Below w.heap.size w w'))
    (A3 : Hid (true = false → t ≤ l → l ≤ 1048576 → ∀ w, Calls Try.prog 10 #[.agg #[.int .i64 (nd), .int .i64 (fr), .int .i64 (to), .int .i64 (st), .int .i64 (ln), .int .u8 (es), .int .i64 (ts), .bool (true)], .int .i64 l] w fun e w' => e = .returned (.tuple #[.int .i64 v, .bool false, .int .i64 0]) ∧ Below w.heap.size w w'))
    (A4 : Hid (true = true → 1 ≤ t - st - ln → t - st - ln < ln → ts ≠ 1 → ∃ g3, ∀ w, Calls Try.prog 10 #[.agg #[.int .i64 (nd), .int .i64 (fr), .int .i64 (to), .int .i64 (st), .int .i64 (ln), .int .u8 (es), .int .i64 (ts), .bool (true)], .int .i64 (st + ln - (t - st - ln))] w fun e w' => e = .returned (.tuple #[.int .i64 v, .bool g3, .int .i64 0]) ∧ Below w.heap.size w w'))
    (m1 : (if fr < to then fr else to) = lo) (m2 : (if to < fr then to else fr) = lo) (m3 : (if fr < to then to else fr) = hi) (m4 : (if to < fr then fr else to) = hi) (v0 : lo ≤ v) (v1 : v ≤ hi)
    (t0 : 0 ≤ t) (t1 : t ≤ 1048576) (s0 : 0 ≤ st) (s1 : st ≤ 1048576) (l0 : 1 ≤ ln) (l1 : ln ≤ 1048576)  (k1 : (ts == 1) = false) (k2 : 1 ≤ t - st - ln) (k3 : t - st - ln < ln) :
    Calls Try.prog 5 #[.agg #[.int .i64 (nd), .int .i64 (fr), .int .i64 (to), .int .i64 (st), .int .i64 (ln), .int .u8 (es), .int .i64 (ts), .bool (true)], .int .i64 t, .int .i64 l] w fun e w' => e = .returned (.bool true) ∧ Below w.heap.size w w' := by
  obtain ⟨g3, A4'⟩ := A4.out rfl k2 k3 (by simpa using k1)
  replace A4' := Lib.hid A4'
  clear A4
  go_enter Try.func5, Try.ntmps5
  go_wp2_with (first
    | (go_at_call 9; (with_reducible refine (alive_any _).mono ?_); rintro e w1 ⟨rfl, hb1⟩; obtain ⟨hc1, hf1⟩ := bcell hb1; have hz1 := hb1.size; (try simp at hz1); (try have lt1 : w.heap.size < w1.heap.size := (by omega)))
    | (go_at_call 10; (with_reducible refine (A1.out _).mono ?_); rintro e w2 ⟨rfl, hb2⟩; obtain ⟨hc2, hf2⟩ := bcell hb2; have hz2 := hb2.size; (try simp at hz2); (try have lt2 : w.heap.size < w2.heap.size := (by omega)))
    | (go_at_call 10; (with_reducible refine (A2.out _).mono ?_); rintro e w3 ⟨rfl, hb3⟩; obtain ⟨hc3, hf3⟩ := bcell hb3; have hz3 := hb3.size; (try simp at hz3); (try have lt3 : w.heap.size < w3.heap.size := (by omega)))
    | (go_at_call 10; (with_reducible refine (A4'.out _).mono ?_); rintro e w5 ⟨rfl, hb5⟩; obtain ⟨hc5, hf5⟩ := bcell hb5; have hz5 := hb5.size; (try simp at hz5); (try have lt5 : w.heap.size < w5.heap.size := (by omega))))
  go_ret
  exact ⟨rfl, (by repeat (first | exact Below.refl _ _ | assumption | refine Below.drew ?_ | refine Below.alloc ?_ (by (try simp) <;> omega) _ | refine Below.setCell ?_ (by (try simp) <;> omega) _ | (refine Below.trans ?_ (Below.mono (by assumption) (by (try simp) <;> omega)))))⟩
set_option maxHeartbeats 2000000 in
theorem n1_lies_b (nd fr to st ln es ts : Int) (t l v lo hi : Int) (g2 : Bool) (w : World)
    (A1 : Hid (∀ w, Calls Try.prog 10 #[.agg #[.int .i64 (nd), .int .i64 (fr), .int .i64 (to), .int .i64 (st), .int .i64 (ln), .int .u8 (es), .int .i64 (ts), .bool (false)], .int .i64 t] w fun e w' => e = .returned (.tuple #[.int .i64 v, .bool false, .int .i64 0]) ∧ Below w.heap.size w w'))
    (A2 : Hid (∀ w, Calls Try.prog 10 #[.agg #[.int .i64 (nd), .int .i64 (fr), .int .i64 (to), .int .i64 (st), .int .i64 (ln), .int .u8 (es), .int .i64 (ts), .bool (false)], .int .i64 st] w fun e w' => e = .returned (.tuple #[.int .i64 fr, .bool g2, .int .i64 0]) ∧ Below w.heap.size w w'))
    (A3 : Hid (false = false → t ≤ l → l ≤ 1048576 → ∀ w, Calls Try.prog 10 #[.agg #[.int .i64 (nd), .int .i64 (fr), .int .i64 (to), .int .i64 (st), .int .i64 (ln), .int .u8 (es), .int .i64 (ts), .bool (false)], .int .i64 l] w fun e w' => e = .returned (.tuple #[.int .i64 v, .bool false, .int .i64 0]) ∧ Below w.heap.size w w'))
    (A4 : Hid (false = true → 1 ≤ t - st - ln → t - st - ln < ln → ts ≠ 1 → ∃ g3, ∀ w, Calls Try.prog 10 #[.agg #[.int .i64 (nd), .int .i64 (fr), .int .i64 (to), .int .i64 (st), .int .i64 (ln), .int .u8 (es), .int .i64 (ts), .bool (false)], .int .i64 (st + ln - (t - st - ln))] w fun e w' => e = .returned (.tuple #[.int .i64 v, .bool g3, .int .i64 0]) ∧ Below w.heap.size w w'))
    (m1 : (if fr < to then fr else to) = lo) (m2 : (if to < fr then to else fr) = lo) (m3 : (if fr < to then to else fr) = hi) (m4 : (if to < fr then fr else to) = hi) (v0 : lo ≤ v) (v1 : v ≤ hi)
    (t0 : 0 ≤ t) (t1 : t ≤ 1048576) (s0 : 0 ≤ st) (s1 : st ≤ 1048576) (l0 : 1 ≤ ln) (l1 : ln ≤ 1048576) (h1 : l < t) (k1 : True) :
    Calls Try.prog 5 #[.agg #[.int .i64 (nd), .int .i64 (fr), .int .i64 (to), .int .i64 (st), .int .i64 (ln), .int .u8 (es), .int .i64 (ts), .bool (false)], .int .i64 t, .int .i64 l] w fun e w' => e = .returned (.bool true) ∧ Below w.heap.size w w' := by
  skip
  go_enter Try.func5, Try.ntmps5
  go_wp2_with (first
    | (go_at_call 9; (with_reducible refine (alive_any _).mono ?_); rintro e w1 ⟨rfl, hb1⟩; obtain ⟨hc1, hf1⟩ := bcell hb1; have hz1 := hb1.size; (try simp at hz1); (try have lt1 : w.heap.size < w1.heap.size := (by omega)))
    | (go_at_call 10; (with_reducible refine (A1.out _).mono ?_); rintro e w2 ⟨rfl, hb2⟩; obtain ⟨hc2, hf2⟩ := bcell hb2; have hz2 := hb2.size; (try simp at hz2); (try have lt2 : w.heap.size < w2.heap.size := (by omega)))
    | (go_at_call 10; (with_reducible refine (A2.out _).mono ?_); rintro e w3 ⟨rfl, hb3⟩; obtain ⟨hc3, hf3⟩ := bcell hb3; have hz3 := hb3.size; (try simp at hz3); (try have lt3 : w.heap.size < w3.heap.size := (by omega))))
  go_ret
  exact ⟨rfl, (by repeat (first | exact Below.refl _ _ | assumption | refine Below.drew ?_ | refine Below.alloc ?_ (by (try simp) <;> omega) _ | refine Below.setCell ?_ (by (try simp) <;> omega) _ | (refine Below.trans ?_ (Below.mono (by assumption) (by (try simp) <;> omega)))))⟩
set_option maxHeartbeats 2000000 in
theorem n2_lies_b (nd fr to st ln es ts : Int) (t l v lo hi : Int) (g2 : Bool) (w : World)
    (A1 : Hid (∀ w, Calls Try.prog 10 #[.agg #[.int .i64 (nd), .int .i64 (fr), .int .i64 (to), .int .i64 (st), .int .i64 (ln), .int .u8 (es), .int .i64 (ts), .bool (true)], .int .i64 t] w fun e w' => e = .returned (.tuple #[.int .i64 v, .bool false, .int .i64 0]) ∧ Below w.heap.size w w'))
    (A2 : Hid (∀ w, Calls Try.prog 10 #[.agg #[.int .i64 (nd), .int .i64 (fr), .int .i64 (to), .int .i64 (st), .int .i64 (ln), .int .u8 (es), .int .i64 (ts), .bool (true)], .int .i64 st] w fun e w' => e = .returned (.tuple #[.int .i64 fr, .bool g2, .int .i64 0]) ∧ Below w.heap.size w w'))
    (A3 : Hid (false = false → t ≤ l → l ≤ 1048576 → ∀ w, Calls Try.prog 10 #[.agg #[.int .i64 (nd), .int .i64 (fr), .int .i64 (to), .int .i64 (st), .int .i64 (ln), .int .u8 (es), .int .i64 (ts), .bool (true)], .int .i64 l] w fun e w' => e = .returned (.tuple #[.int .i64 v, .bool false, .int .i64 0]) ∧ Below w.heap.size w w'))
    (A4 : Hid (true = true → 1 ≤ t - st - ln → t - st - ln < ln → ts ≠ 1 → ∃ g3, ∀ w, Calls Try.prog 10 #[.agg #[.int .i64 (nd), .int .i64 (fr), .int .i64 (to), .int .i64 (st), .int .i64 (ln), .int .u8 (es), .int .i64 (ts), .bool (true)], .int .i64 (st + ln - (t - st - ln))] w fun e w' => e = .returned (.tuple #[.int .i64 v, .bool g3, .int .i64 0]) ∧ Below w.heap.size w w'))
    (m1 : (if fr < to then fr else to) = lo) (m2 : (if to < fr then to else fr) = lo) (m3 : (if fr < to then to else fr) = hi) (m4 : (if to < fr then fr else to) = hi) (v0 : lo ≤ v) (v1 : v ≤ hi)
    (t0 : 0 ≤ t) (t1 : t ≤ 1048576) (s0 : 0 ≤ st) (s1 : st ≤ 1048576) (l0 : 1 ≤ ln) (l1 : ln ≤ 1048576) (h1 : l < t) (k1 : (ts == 1) = true) :
    Calls Try.prog 5 #[.agg #[.int .i64 (nd), .int .i64 (fr), .int .i64 (to), .int .i64 (st), .int .i64 (ln), .int .u8 (es), .int .i64 (ts), .bool (true)], .int .i64 t, .int .i64 l] w fun e w' => e = .returned (.bool true) ∧ Below w.heap.size w w' := by
  skip
  go_enter Try.func5, Try.ntmps5
  go_wp2_with (first
    | (go_at_call 9; (with_reducible refine (alive_any _).mono ?_); rintro e w1 ⟨rfl, hb1⟩; obtain ⟨hc1, hf1⟩ := bcell hb1; have hz1 := hb1.size; (try simp at hz1); (try have lt1 : w.heap.size < w1.heap.size := (by omega)))
    | (go_at_call 10; (with_reducible refine (A1.out _).mono ?_); rintro e w2 ⟨rfl, hb2⟩; obtain ⟨hc2, hf2⟩ := bcell hb2; have hz2 := hb2.size; (try simp at hz2); (try have lt2 : w.heap.size < w2.heap.size := (by omega)))
    | (go_at_call 10; (with_reducible refine (A2.out _).mono ?_); rintro e w3 ⟨rfl, hb3⟩; obtain ⟨hc3, hf3⟩ := bcell hb3; have hz3 := hb3.size; (try simp at hz3); (try have lt3 : w.heap.size < w3.heap.size := (by omega))))
  go_ret
  exact ⟨rfl, (by repeat (first | exact Below.refl _ _ | assumption | refine Below.drew ?_ | refine Below.alloc ?_ (by (try simp) <;> omega) _ | refine Below.setCell ?_ (by (try simp) <;> omega) _ | (refine Below.trans ?_ (Below.mono (by assumption) (by (try simp) <;> omega)))))⟩
set_option maxHeartbeats 2000000 in
theorem n3_lies_b (nd fr to st ln es ts : Int) (t l v lo hi : Int) (g2 : Bool) (w : World)
    (A1 : Hid (∀ w, Calls Try.prog 10 #[.agg #[.int .i64 (nd), .int .i64 (fr), .int .i64 (to), .int .i64 (st), .int .i64 (ln), .int .u8 (es), .int .i64 (ts), .bool (true)], .int .i64 t] w fun e w' => e = .returned (.tuple #[.int .i64 v, .bool false, .int .i64 0]) ∧ Below w.heap.size w w'))
    (A2 : Hid (∀ w, Calls Try.prog 10 #[.agg #[.int .i64 (nd), .int .i64 (fr), .int .i64 (to), .int .i64 (st), .int .i64 (ln), .int .u8 (es), .int .i64 (ts), .bool (true)], .int .i64 st] w fun e w' => e = .returned (.tuple #[.int .i64 fr, .bool g2, .int .i64 0]) ∧ Below w.heap.size w w'))
    (A3 : Hid (false = false → t ≤ l → l ≤ 1048576 → ∀ w, Calls Try.prog 10 #[.agg #[.int .i64 (nd), .int .i64 (fr), .int .i64 (to), .int .i64 (st), .int .i64 (ln), .int .u8 (es), .int .i64 (ts), .bool (true)], .int .i64 l] w fun e w' => e = .returned (.tuple #[.int .i64 v, .bool false, .int .i64 0]) ∧ Below w.heap.size w w'))
    (A4 : Hid (true = true → 1 ≤ t - st - ln → t - st - ln < ln → ts ≠ 1 → ∃ g3, ∀ w, Calls Try.prog 10 #[.agg #[.int .i64 (nd), .int .i64 (fr), .int .i64 (to), .int .i64 (st), .int .i64 (ln), .int .u8 (es), .int .i64 (ts), .bool (true)], .int .i64 (st + ln - (t - st - ln))] w fun e w' => e = .returned (.tuple #[.int .i64 v, .bool g3, .int .i64 0]) ∧ Below w.heap.size w w'))
    (m1 : (if fr < to then fr else to) = lo) (m2 : (if to < fr then to else fr) = lo) (m3 : (if fr < to then to else fr) = hi) (m4 : (if to < fr then fr else to) = hi) (v0 : lo ≤ v) (v1 : v ≤ hi)
    (t0 : 0 ≤ t) (t1 : t ≤ 1048576) (s0 : 0 ≤ st) (s1 : st ≤ 1048576) (l0 : 1 ≤ ln) (l1 : ln ≤ 1048576) (h1 : l < t) (k1 : (ts == 1) = false) (k2 : t - st - ln < 1) :
    Calls Try.prog 5 #[.agg #[.int .i64 (nd), .int .i64 (fr), .int .i64 (to), .int .i64 (st), .int .i64 (ln), .int .u8 (es), .int .i64 (ts), .bool (true)], .int .i64 t, .int .i64 l] w fun e w' => e = .returned (.bool true) ∧ Below w.heap.size w w' := by
  skip
  go_enter Try.func5, Try.ntmps5
  go_wp2_with (first
    | (go_at_call 9; (with_reducible refine (alive_any _).mono ?_); rintro e w1 ⟨rfl, hb1⟩; obtain ⟨hc1, hf1⟩ := bcell hb1; have hz1 := hb1.size; (try simp at hz1); (try have lt1 : w.heap.size < w1.heap.size := (by omega)))
    | (go_at_call 10; (with_reducible refine (A1.out _).mono ?_); rintro e w2 ⟨rfl, hb2⟩; obtain ⟨hc2, hf2⟩ := bcell hb2; have hz2 := hb2.size; (try simp at hz2); (try have lt2 : w.heap.size < w2.heap.size := (by omega)))
    | (go_at_call 10; (with_reducible refine (A2.out _).mono ?_); rintro e w3 ⟨rfl, hb3⟩; obtain ⟨hc3, hf3⟩ := bcell hb3; have hz3 := hb3.size; (try simp at hz3); (try have lt3 : w.heap.size < w3.heap.size := (by omega))))
  go_ret
  exact ⟨rfl, (by repeat (first | exact Below.refl _ _ | assumption | refine Below.drew ?_ | refine Below.alloc ?_ (by (try simp) <;> omega) _ | refine Below.setCell ?_ (by (try simp) <;> omega) _ | (refine Below.trans ?_ (Below.mono (by assumption) (by (try simp) <;> omega)))))⟩
set_option maxHeartbeats 2000000 in
theorem n4_lies_b (nd fr to st ln es ts : Int) (t l v lo hi : Int) (g2 : Bool) (w : World)
    (A1 : Hid (∀ w, Calls Try.prog 10 #[.agg #[.int .i64 (nd), .int .i64 (fr), .int .i64 (to), .int .i64 (st), .int .i64 (ln), .int .u8 (es), .int .i64 (ts), .bool (true)], .int .i64 t] w fun e w' => e = .returned (.tuple #[.int .i64 v, .bool false, .int .i64 0]) ∧ Below w.heap.size w w'))
    (A2 : Hid (∀ w, Calls Try.prog 10 #[.agg #[.int .i64 (nd), .int .i64 (fr), .int .i64 (to), .int .i64 (st), .int .i64 (ln), .int .u8 (es), .int .i64 (ts), .bool (true)], .int .i64 st] w fun e w' => e = .returned (.tuple #[.int .i64 fr, .bool g2, .int .i64 0]) ∧ Below w.heap.size w w'))
    (A3 : Hid (false = false → t ≤ l → l ≤ 1048576 → ∀ w, Calls Try.prog 10 #[.agg #[.int .i64 (nd), .int .i64 (fr), .int .i64 (to), .int .i64 (st), .int .i64 (ln), .int .u8 (es), .int .i64 (ts), .bool (true)], .int .i64 l] w fun e w' => e = .returned (.tuple #[.int .i64 v, .bool false, .int .i64 0]) ∧ Below w.heap.size w w'))
    (A4 : Hid (true = true → 1 ≤ t - st - ln → t - st - ln < ln → ts ≠ 1 → ∃ g3, ∀ w, Calls Try.prog 10 #[.agg #[.int .i64 (nd), .int .i64 (fr), .int .i64 (to), .int .i64 (st), .int .i64 (ln), .int .u8 (es), .int .i64 (ts), .bool (true)], .int .i64 (st + ln - (t - st - ln))] w fun e w' => e = .returned (.tuple #[.int .i64 v, .bool g3, .int .i64 0]) ∧ Below w.heap.size w w'))
    (m1 : (if fr < to then fr else to) = lo) (m2 : (if to < fr then to else fr) = lo) (m3 : (if fr < to then to else fr) = hi) (m4 : (if to < fr then fr else to) = hi) (v0 : lo ≤ v) (v1 : v ≤ hi)
    (t0 : 0 ≤ t) (t1 : t ≤ 1048576) (s0 : 0 ≤ st) (s1 : st ≤ 1048576) (l0 : 1 ≤ ln) (l1 : ln ≤ 1048576) (h1 : l < t) (k1 : (ts == 1) = false) (k2 : 1 ≤ t - st - ln) (k3 : ln ≤ t - st - ln) :
    Calls Try.prog 5 #[.agg #[.int .i64 (nd), .int .i64 (fr), .int .i64 (to), .int .i64 (st), .int .i64 (ln), .int .u8 (es), .int .i64 (ts), .bool (true)], .int .i64 t, .int .i64 l] w fun e w' => e = .returned (.bool true) ∧ Below w.heap.size w w' := by
  skip
  go_enter Try.func5, Try.ntmps5
  go_wp2_with (first
    | (go_at_call 9; (with_reducible refine (alive_any _).mono ?_); rintro e w1 ⟨rfl, hb1⟩; obtain ⟨hc1, hf1⟩ := bcell hb1; have hz1 := hb1.size; (try simp at hz1); (try have lt1 : w.heap.size < w1.heap.size := (by omega)))
    | (go_at_call 10; (with_reducible refine (A1.out _).mono ?_); rintro e w2 ⟨rfl, hb2⟩; obtain ⟨hc2, hf2⟩ := bcell hb2; have hz2 := hb2.size; (try simp at hz2); (try have lt2 : w.heap.size < w2.heap.size := (by omega)))
    | (go_at_call 10; (with_reducible refine (A2.out _).mono ?_); rintro e w3 ⟨rfl, hb3⟩; obtain ⟨hc3, hf3⟩ := bcell hb3; have hz3 := hb3.size; (try simp at hz3); (try have lt3 : w.heap.size < w3.heap.size := (by omega))))
  go_ret
  exact ⟨rfl, (by repeat (first | exact Below.refl _ _ | assumption | refine Below.drew ?_ | refine Below.alloc ?_ (by (try simp) <;> omega) _ | refine Below.setCell ?_ (by (try simp) <;> omega) _ | (refine Below.trans ?_ (Below.mono (by assumption) (by (try simp) <;> omega)))))⟩
set_option maxHeartbeats 2000000 in
theorem n5_lies_b (nd fr to st ln es ts : Int) (t l v lo hi : Int) (g2 : Bool) (w : World)
    (A1 : Hid (∀ w, Calls Try.prog 10 #[.agg #[.int .i64 (nd), .int .i64 (fr), .int .i64 (to), .int .i64 (st), .int .i64 (ln), .int .u8 (es), .int .i64 (ts), .bool (true)], .int .i64 t] w fun e w' => e = .returned (.tuple #[.int .i64 v, .bool false, .int .i64 0]) ∧ Below w.heap.size w w'))
    (A2 : Hid (∀ w, Calls Try.prog 10 #[.agg #[.int .i64 (nd), .int .i64 (fr), .int .i64 (to), .int .i64 (st), .int .i64 (ln), .int .u8 (es), .int .i64 (ts), .bool (true)], .int .i64 st] w fun e w' => e = .returned (.tuple #[.int .i64 fr, .bool g2, .int .i64 0]) ∧ Below w.heap.size w w'))
    (A3 : Hid (false = false → t ≤ l → l ≤ 1048576 → ∀ w, Calls Try.prog 10 #[.agg #[.int .i64 (nd), .int .i64 (fr), .int .i64 (to), .int .i64 (st), .int .i64 (ln), .int .u8 (es), .int .i64 (ts), .bool (true)], .int .i64 l] w fun e w' => e = .returned (.tuple #[.int .i64 v, .bool false, .int .i64 0]) ∧ Below w.heap.size w w'))
    (A4 : Hid (true = true → 1 ≤ t - st - ln → t - st - ln < ln → ts ≠ 1 → ∃ g3, ∀ w, Calls Try.prog 10 #[.agg #[.int .i64 (nd), .int .i64 (fr), .int .i64 (to), .int .i64 (st), .int .i64 (ln), .int .u8 (es), .int .i64 (ts), .bool (true)], .int .i64 (st + ln - (t - st - ln))] w fun e w' => e = .returned (.tuple #[.int .i64 v, .bool g3, .int .i64 0]) ∧ Below w.heap.size w w'))
    (m1 : (if fr < to then fr else to) = lo) (m2 : (if to < fr then to else fr) = lo) (m3 : (if fr < to then to else fr) = hi) (m4 : (if to < fr then fr else to) = hi) (v0 : lo ≤ v) (v1 : v ≤ hi)
    (t0 : 0 ≤ t) (t1 : t ≤ 1048576) (s0 : 0 ≤ st) (s1 : st ≤ 1048576) (l0 : 1 ≤ ln) (l1 : ln ≤ 1048576) (h1 : l < t) (k1 : (ts == 1) = false) (k2 : 1 ≤ t - st - ln) (k3 : t - st - ln < ln) :
    Calls Try.prog 5 #[.agg #[.int .i64 (nd), .int .i64 (fr), .int .i64 (to), .int .i64 (st), .int .i64 (ln), .int .u8 (es), .int .i64 (ts), .bool (true)], .int .i64 t, .int .i64 l] w fun e w' => e = .returned (.bool true) ∧ Below w.heap.size w w' := by
  obtain ⟨g3, A4'⟩ := A4.out rfl k2 k3 (by simpa using k1)
  replace A4' := Lib.hid A4'
  clear A4
  go_enter Try.func5, Try.ntmps5
  go_wp2_with (first
    | (go_at_call 9; (with_reducible refine (alive_any _).mono ?_); rintro e w1 ⟨rfl, hb1⟩; obtain ⟨hc1, hf1⟩ := bcell hb1; have hz1 := hb1.size; (try simp at hz1); (try have lt1 : w.heap.size < w1.heap.size := (by omega)))
    | (go_at_call 10; (with_reducible refine (A1.out _).mono ?_); rintro e w2 ⟨rfl, hb2⟩; obtain ⟨hc2, hf2⟩ := bcell hb2; have hz2 := hb2.size; (try simp at hz2); (try have lt2 : w.heap.size < w2.heap.size := (by omega)))
    | (go_at_call 10; (with_reducible refine (A2.out _).mono ?_); rintro e w3 ⟨rfl, hb3⟩; obtain ⟨hc3, hf3⟩ := bcell hb3; have hz3 := hb3.size; (try simp at hz3); (try have lt3 : w.heap.size < w3.heap.size := (by omega)))
    | (go_at_call 10; (with_reducible refine (A4'.out _).mono ?_); rintro e w5 ⟨rfl, hb5⟩; obtain ⟨hc5, hf5⟩ := bcell hb5; have hz5 := hb5.size; (try simp at hz5); (try have lt5 : w.heap.size < w5.heap.size := (by omega))))
  go_ret
  exact ⟨rfl, (by repeat (first | exact Below.refl _ _ | assumption | refine Below.drew ?_ | refine Below.alloc ?_ (by (try simp) <;> omega) _ | refine Below.setCell ?_ (by (try simp) <;> omega) _ | (refine Below.trans ?_ (Below.mono (by assumption) (by (try simp) <;> omega)))))⟩
set_option maxHeartbeats 2000000 in
theorem n1_lies_c (nd fr to st ln es ts : Int) (t l v lo hi : Int) (g2 : Bool) (w : World)
    (A1 : Hid (∀ w, Calls Try.prog 10 #[.agg #[.int .i64 (nd), .int .i64 (fr), .int .i64 (to), .int .i64 (st), .int .i64 (ln), .int .u8 (es), .int .i64 (ts), .bool (false)], .int .i64 t] w fun e w' => e = .returned (.tuple #[.int .i64 v, .bool false, .int .i64 0]) ∧ Below w.heap.size w w'))
    (A2 : Hid (∀ w, Calls Try.prog 10 #[.agg #[.int .i64 (nd), .int .i64 (fr), .int .i64 (to), .int .i64 (st), .int .i64 (ln), .int .u8 (es), .int .i64 (ts), .bool (false)], .int .i64 st] w fun e w' => e = .returned (.tuple #[.int .i64 fr, .bool g2, .int .i64 0]) ∧ Below w.heap.size w w'))
    (A3 : Hid (false = false → t ≤ l → l ≤ 1048576 → ∀ w, Calls Try.prog 10 #[.agg #[.int .i64 (nd), .int .i64 (fr), .int .i64 (to), .int .i64 (st), .int .i64 (ln), .int .u8 (es), .int .i64 (ts), .bool (false)], .int .i64 l] w fun e w' => e = .returned (.tuple #[.int .i64 v, .bool false, .int .i64 0]) ∧ Below w.heap.size w w'))
    (A4 : Hid (false = true → 1 ≤ t - st - ln → t - st - ln < ln → ts ≠ 1 → ∃ g3, ∀ w, Calls Try.prog 10 #[.agg #[.int .i64 (nd), .int .i64 (fr), .int .i64 (to), .int .i64 (st), .int .i64 (ln), .int .u8 (es), .int .i64 (ts), .bool (false)], .int .i64 (st + ln - (t - st - ln))] w fun e w' => e = .returned (.tuple #[.int .i64 v, .bool g3, .int .i64 0]) ∧ Below w.heap.size w w'))
    (m1 : (if fr < to then fr else to) = lo) (m2 : (if to < fr then to else fr) = lo) (m3 : (if fr < to then to else fr) = hi) (m4 : (if to < fr then fr else to) = hi) (v0 : lo ≤ v) (v1 : v ≤ hi)
    (t0 : 0 ≤ t) (t1 : t ≤ 1048576) (s0 : 0 ≤ st) (s1 : st ≤ 1048576) (l0 : 1 ≤ ln) (l1 : ln ≤ 1048576) (h1 : t ≤ l) (h2 : 1048576 < l) (k1 : True) :
    Calls Try.prog 5 #[.agg #[.int .i64 (nd), .int .i64 (fr), .int .i64 (to), .int .i64 (st), .int .i64 (ln), .int .u8 (es), .int .i64 (ts), .bool (false)], .int .i64 t, .int .i64 l] w fun e w' => e = .returned (.bool true) ∧ Below w.heap.size w w' := by
  skip
  go_enter Try.func5, Try.ntmps5
  go_wp2_with (first
    | (go_at_call 9; (with_reducible refine (alive_any _).mono ?_); rintro e w1 ⟨rfl, hb1⟩; obtain ⟨hc1, hf1⟩ := bcell hb1; have hz1 := hb1.size; (try simp at hz1); (try have lt1 : w.heap.size < w1.heap.size := (by omega)))
    | (go_at_call 10; (with_reducible refine (A1.out _).mono ?_); rintro e w2 ⟨rfl, hb2⟩; obtain ⟨hc2, hf2⟩ := bcell hb2; have hz2 := hb2.size; (try simp at hz2); (try have lt2 : w.heap.size < w2.heap.size := (by omega)))
    | (go_at_call 10; (with_reducible refine (A2.out _).mono ?_); rintro e w3 ⟨rfl, hb3⟩; obtain ⟨hc3, hf3⟩ := bcell hb3; have hz3 := hb3.size; (try simp at hz3); (try have lt3 : w.heap.size < w3.heap.size := (by omega))))
  go_ret
  exact ⟨rfl, (by repeat (first | exact Below.refl _ _ | assumption | refine Below.drew ?_ | refine Below.alloc ?_ (by (try simp) <;> omega) _ | refine Below.setCell ?_ (by (try simp) <;> omega) _ | (refine Below.trans ?_ (Below.mono (by assumption) (by (try simp) <;> omega)))))⟩
set_option maxHeartbeats 2000000 in
theorem n2_lies_c (nd fr to st ln es ts : Int) (t l v lo hi : Int) (g2 : Bool) (w : World)
    (A1 : Hid (∀ w, Calls Try.prog 10 #[.agg #[.int .i64 (nd), .int .i64 (fr), .int .i64 (to), .int .i64 (st), .int .i64 (ln), .int .u8 (es), .int .i64 (ts), .bool (true)], .int .i64 t] w fun e w' => e = .returned (.tuple #[.int .i64 v, .bool false, .int .i64 0]) ∧ Below w.heap.size w w'))
    (A2 : Hid (∀ w, Calls Try.prog 10 #[.agg #[.int .i64 (nd), .int .i64 (fr), .int .i64 (to), .int .i64 (st), .int .i64 (ln), .int .u8 (es), .int .i64 (ts), .bool (true)], .int .i64 st] w fun e w' => e = .returned (.tuple #[.int .i64 fr, .bool g2, .int .i64 0]) ∧ Below w.heap.size w w'))
    (A3 : Hid (false = false → t ≤ l → l ≤ 1048576 → ∀ w, Calls Try.prog 10 #[.agg #[.int .i64 (nd), .int .i64 (fr), .int .i64 (to), .int .i64 (st), .int .i64 (ln), .int .u8 (es), .int .i64 (ts), .bool (true)], .int .i64 l] w fun e w' => e = .returned (.tuple #[.int .i64 v, .bool false, .int .i64 0]) ∧ Below w.heap.size w w'))
    (A4 : Hid (true = true → 1 ≤ t - st - ln → t - st - ln < ln → ts ≠ 1 → ∃ g3, ∀ w, Calls Try.prog 10 #[.agg #[.int .i64 (nd), .int .i64 (fr), .int .i64 (to), .int .i64 (st), .int .i64 (ln), .int .u8 (es), .int .i64 (ts), .bool (true)], .int .i64 (st + ln - (t - st - ln))] w fun e w' => e = .returned (.tuple #[.int .i64 v, .bool g3, .int .i64 0]) ∧ Below w.heap.size w w'))
    (m1 : (if fr < to then fr else to) = lo) (m2 : (if to < fr then to else fr) = lo) (m3 : (if fr < to then to else fr) = hi) (m4 : (if to < fr then fr else to) = hi) (v0 : lo ≤ v) (v1 : v ≤ hi)
    (t0 : 0 ≤ t) (t1 : t ≤ 1048576) (s0 : 0 ≤ st) (s1 : st ≤ 1048576) (l0 : 1 ≤ ln) (l1 : ln ≤ 1048576) (h1 : t ≤ l) (h2 : 1048576 < l) (k1 : (ts == 1) = true) :
    Calls Try.prog 5 #[.agg #[.int .i64 (nd), .int .i64 (fr), .int .i64 (to), .int .i64 (st), .int .i64 (ln), .int .u8 (es), .int .i64 (ts), .bool (true)], .int .i64 t, .int .i64 l] w fun e w' => e = .returned (.bool true) ∧ Below w.heap.size w w' := by
  skip
  go_enter Try.func5, Try.ntmps5
  go_wp2_with (first
    | (go_at_call 9; (with_reducible refine (alive_any _).mono ?_); rintro e w1 ⟨rfl, hb1⟩; obtain ⟨hc1, hf1⟩ := bcell hb1; have hz1 := hb1.size; (try simp at hz1); (try have lt1 : w.heap.size < w1.heap.size := (by omega)))
    | (go_at_call 10; (with_reducible refine (A1.out _).mono ?_); rintro e w2 ⟨rfl, hb2⟩; obtain ⟨hc2, hf2⟩ := bcell hb2; have hz2 := hb2.size; (try simp at hz2); (try have lt2 : w.heap.size < w2.heap.size := (by omega)))
    | (go_at_call 10; (with_reducible refine (A2.out _).mono ?_); rintro e w3 ⟨rfl, hb3⟩; obtain ⟨hc3, hf3⟩ := bcell hb3; have hz3 := hb3.size; (try simp at hz3); (try have lt3 : w.heap.size < w3.heap.size := (by omega))))
  go_ret
  exact ⟨rfl, (by repeat (first | exact Below.refl _ _ | assumption | refine Below.drew ?_ | refine Below.alloc ?_ (by (try simp) <;> omega) _ | refine Below.setCell ?_ (by (try simp) <;> omega) _ | (refine Below.trans ?_ (Below.mono (by assumption) (by (try simp) <;> omega)))))⟩
set_option maxHeartbeats 2000000 in
theorem n3_lies_c (nd fr to st ln es ts : Int) (t l v lo hi : Int) (g2 : Bool) (w : World)
    (A1 : Hid (∀ w, Calls Try.prog 10 #[.agg #[.int .i64 (nd), .int .i64 (fr), .int .i64 (to), .int .i64 (st), .int .i64 (ln), .int .u8 (es), .int .i64 (ts), .bool (true)], .int .i64 t] w fun e w' => e = .returned (.tuple #[.int .i64 v, .bool false, .int .i64 0]) ∧ Below w.heap.size w w'))
    (A2 : Hid (∀ w, Calls Try.prog 10 #[.agg #[.int .i64 (nd), .int .i64 (fr), .int .i64 (to), .int .i64 (st), .int .i64 (ln), .int .u8 (es), .int .i64 (ts), .bool (true)], .int .i64 st] w fun e w' => e = .returned (.tuple #[.int .i64 fr, .bool g2, .int .i64 0]) ∧ Below w.heap.size w w'))
    (A3 : Hid (false = false → t ≤ l → l ≤ 1048576 → ∀ w, Calls Try.prog 10 #[.agg #[.int .i64 (nd), .int .i64 (fr), .int .i64 (to), .int .i64 (st), .int .i64 (ln), .int .u8 (es), .int .i64 (ts), .bool (true)], .int .i64 l] w fun e w' => e = .returned (.tuple #[.int .i64 v, .bool false, .int .i64 0]) ∧ Below w.heap.size w w'))
    (A4 : Hid (true = true → 1 ≤ t - st - ln → t - st - ln < ln → ts ≠ 1 → ∃ g3, ∀ w, Calls Try.prog 10 #[.agg #[.int .i64 (nd), .int .i64 (fr), .int .i64 (to), .int .i64 (st), .int .i64 (ln), .int .u8 (es), .int .i64 (ts), .bool (true)], .int .i64 (st + ln - (t - st - ln))] w fun e w' => e = .returned (.tuple #[.int .i64 v, .bool g3, .int .i64 0]) ∧ Below w.heap.size w w'))
    (m1 : (if fr < to then fr else to) = lo) (m2 : (if to < fr then to else fr) = lo) (m3 : (if fr < to then to else fr) = hi) (m4 : (if to < fr then fr else to) = hi) (v0 : lo ≤ v) (v1 : v ≤ hi)
    (t0 : 0 ≤ t) (t1 : t ≤ 1048576) (s0 : 0 ≤ st) (s1 : st ≤ 1048576) (l0 : 1 ≤ ln) (l1 : ln ≤ 1048576) (h1 : t ≤ l) (h2 : 1048576 < l) (k1 : (ts == 1) = false) (k2 : t - st - ln < 1) :
    Calls Try.prog 5 #[.agg #[.int .i64 (nd), .int .i64 (fr), .int .i64 (to), .int .i64 (st), .int .i64 (ln), .int .u8 (es), .int .i64 (ts), .bool (true)], .int .i64 t, .int .i64 l] w fun e w' => e = .returned (.bool true) ∧ Below w.heap.size w w' := by
  skip
  go_enter Try.func5, Try.ntmps5
  go_wp2_with (first
    | (go_at_call 9; (with_reducible refine (alive_any _).mono ?_); rintro e w1 ⟨rfl, hb1⟩; obtain ⟨hc1, hf1⟩ := bcell hb1; have hz1 := hb1.size; (try simp at hz1); (try have lt1 : w.heap.size < w1.heap.size := (by omega)))
    | (go_at_call 10; (with_reducible refine (A1.out _).mono ?_); rintro e w2 ⟨rfl, hb2⟩; obtain ⟨hc2, hf2⟩ := bcell hb2; have hz2 := hb2.size; (try simp at hz2); (try have lt2 : w.heap.size < w2.heap.size := (by omega)))
    | (go_at_call 10; (with_reducible refine (A2.out _).mono ?_); rintro e w3 ⟨rfl, hb3⟩; obtain ⟨hc3, hf3⟩ := bcell hb3; have hz3 := hb3.size; (try simp at hz3); (try have lt3 : w.heap.size < w3.heap.size := (by omega))))
  go_ret
  exact ⟨rfl, (by repeat (first | exact Below.refl _ _ | assumption | refine Below.drew ?_ | refine Below.alloc ?_ (by (try simp) <;> omega) _ | refine Below.setCell ?_ (by (try simp) <;> omega) _ | (refine Below.trans ?_ (Below.mono (by assumption) (by (try simp) <;> omega)))))⟩
set_option maxHeartbeats 2000000 in
theorem n4_lies_c (nd fr to st ln es ts : Int) (t l v lo hi : Int) (g2 : Bool) (w : World)
    (A1 : Hid (∀ w, Calls Try.prog 10 #[.agg #[.int .i64 (nd), .int .i64 (fr), .int .i64 (to), .int .i64 (st), .int .i64 (ln), .int .u8 (es), .int .i64 (ts), .bool (true)], .int .i64 t] w fun e w' => e = .returned (.tuple #[.int .i64 v, .bool false, .int .i64 0]) ∧ Below w.heap.size w w'))
    (A2 : Hid (∀ w, Calls Try.prog 10 #[.agg #[.int .i64 (nd), .int .i64 (fr), .int .i64 (to), .int .i64 (st), .int .i64 (ln), .int .u8 (es), .int .i64 (ts), .bool (true)], .int .i64 st] w fun e w' => e = .returned (.tuple #[.int .i64 fr, .bool g2, .int .i64 0]) ∧ Below w.heap.size w w'))
    (A3 : Hid (false = false → t ≤ l → l ≤ 1048576 → ∀ w, Calls Try.prog 10 #[.agg #[.int .i64 (nd), .int .i64 (fr), .int .i64 (to), .int .i64 (st), .int .i64 (ln), .int .u8 (es), .int .i64 (ts), .bool (true)], .int .i64 l] w fun e w' => e = .returned (.tuple #[.int .i64 v, .bool false, .int .i64 0]) ∧ Below w.heap.size w w'))
    (A4 : Hid (true = true → 1 ≤ t - st - ln → t - st - ln < ln → ts ≠ 1 → ∃ g3, ∀ w, Calls Try.prog 10 #[.agg #[.int .i64 (nd), .int .i64 (fr), .int .i64 (to), .int .i64 (st), .int .i64 (ln), .int .u8 (es), .int .i64 (ts), .bool (true)], .int .i64 (st + ln - (t - st - ln))] w fun e w' => e = .returned (.tuple #[.int .i64 v, .bool g3, .int .i64 0]) ∧ Below w.heap.size w w'))
    (m1 : (if fr < to then fr else to) = lo) (m2 : (if to < fr then to else fr) = lo) (m3 : (if fr < to then to else fr) = hi) (m4 : (if to < fr then fr else to) = hi) (v0 : lo ≤ v) (v1 : v ≤ hi)
    (t0 : 0 ≤ t) (t1 : t ≤ 1048576) (s0 : 0 ≤ st) (s1 : st ≤ 1048576) (l0 : 1 ≤ ln) (l1 : ln ≤ 1048576) (h1 : t ≤ l) (h2 : 1048576 < l) (k1 : (ts == 1) = false) (k2 : 1 ≤ t - st - ln) (k3 : ln ≤ t - st - ln) :
    Calls Try.prog 5 #[.agg #[.int .i64 (nd), .int .i64 (fr), .int .i64 (to), .int .i64 (st), .int .i64 (ln), .int .u8 (es), .int .i64 (ts), .bool (true)], .int .i64 t, .int .i64 l] w fun e w' => e = .returned (.bool true) ∧ Below w.heap.size w w' := by
  skip
  go_enter Try.func5, Try.ntmps5
  go_wp2_with (first
    | (go_at_call 9; (with_reducible refine (alive_any _).mono ?_); rintro e w1 ⟨rfl, hb1⟩; obtain ⟨hc1, hf1⟩ := bcell hb1; have hz1 := hb1.size; (try simp at hz1); (try have lt1 : w.heap.size < w1.heap.size := (by omega)))
    | (go_at_call 10; (with_reducible refine (A1.out _).mono ?_); rintro e w2 ⟨rfl, hb2⟩; obtain ⟨hc2, hf2⟩ := bcell hb2; have hz2 := hb2.size; (try simp at hz2); (try have lt2 : w.heap.size < w2.heap.size := (by omega)))
    | (go_at_call 10; (with_reducible refine (A2.out _).mono ?_); rintro e w3 ⟨rfl, hb3⟩; obtain ⟨hc3, hf3⟩ := bcell hb3; have hz3 := hb3.size; (try simp at hz3); (try have lt3 : w.heap.size < w3.heap.size := (by omega))))
  go_ret
  exact ⟨rfl, (by repeat (first | exact Below.refl _ _ | assumption | refine Below.drew ?_ | refine Below.alloc ?_ (by (try simp) <;> omega) _ | refine Below.setCell ?_ (by (try simp) <;> omega) _ | (refine Below.trans ?_ (Below.mono (by assumption) (by (try simp) <;> omega)))))⟩
set_option maxHeartbeats 2000000 in
theorem n5_lies_c (nd fr to st ln es ts : Int) (t l v lo hi : Int) (g2 : Bool) (w : World)
    (A1 : Hid (∀ w, Calls Try.prog 10 #[.agg #[.int .i64 (nd), .int .i64 (fr), .int .i64 (to), .int .i64 (st), .int .i64 (ln), .int .u8 (es), .int .i64 (ts), .bool (true)], .int .i64 t] w fun e w' => e = .returned (.tuple #[.int .i64 v, .bool false, .int .i64 0]) ∧ Below w.heap.size w w'))
    (A2 : Hid (∀ w, Calls Try.prog 10 #[.agg #[.int .i64 (nd), .int .i64 (fr), .int .i64 (to), .int .i64 (st), .int .i64 (ln), .int .u8 (es), .int .i64 (ts), .bool (true)], .int .i64 st] w fun e w' => e = .returned (.tuple #[.int .i64 fr, .bool g2, .int .i64 0]) ∧ Below w.heap.size w w'))
    (A3 : Hid (false = false → t ≤ l → l ≤ 1048576 → ∀ w, Calls Try.prog 10 #[.agg #[.int .i64 (nd), .int .i64 (fr), .int .i64 (to), .int .i64 (st), .int .i64 (ln), .int .u8 (es), .int .i64 (ts), .bool (true)], .int .i64 l] w fun e w' => e = .returned (.tuple #[.int .i64 v, .bool false, .int .i64 0]) ∧ Below w.heap.size w w'))
    (A4 : Hid (true = true → 1 ≤ t - st - ln → t - st - ln < ln → ts ≠ 1 → ∃ g3, ∀ w, Calls Try.prog 10 #[.agg #[.int .i64 (nd), .int .i64 (fr), .int .i64 (to), .int .i64 (st), .int .i64 (ln), .int .u8 (es), .int .i64 (ts), .bool (true)], .int .i64 (st + ln - (t - st - ln))] w fun e w' => e = .returned (.tuple #[.int .i64 v, .bool g3, .int .i64 0]) ∧ Below w.heap.size w w'))
    (m1 : (if fr < to then fr else to) = lo) (m2 : (if to < fr then to else fr) = lo) (m3 : (if fr < to then to else fr) = hi) (m4 : (if to < fr then fr else to) = hi) (v0 : lo ≤ v) (v1 : v ≤ hi)
    (t0 : 0 ≤ t) (t1 : t ≤ 1048576) (s0 : 0 ≤ st) (s1 : st ≤ 1048576) (l0 : 1 ≤ ln) (l1 : ln ≤ 1048576) (h1 : t ≤ l) (h2 : 1048576 < l) (k1 : (ts == 1) = false) (k2 : 1 ≤ t - st - ln) (k3 : t - st - ln < ln) :
    Calls Try.prog 5 #[.agg #[.int .i64 (nd), .int .i64 (fr), .int .i64 (to), .int .i64 (st), .int .i64 (ln), .int .u8 (es), .int .i64 (ts), .bool (true)], .int .i64 t, .int .i64 l] w fun e w' => e = .returned (.bool true) ∧ Below w.heap.size w w' := by
  obtain ⟨g3, A4'⟩ := A4.out rfl k2 k3 (by simpa using k1)
  replace A4' := Lib.hid A4'
  clear A4
  go_enter Try.func5, Try.ntmps5
  go_wp2_with (first
    | (go_at_call 9; (with_reducible refine (alive_any _).mono ?_); rintro e w1 ⟨rfl, hb1⟩; obtain ⟨hc1, hf1⟩ := bcell hb1; have hz1 := hb1.size; (try simp at hz1); (try have lt1 : w.heap.size < w1.heap.size := (by omega)))
    | (go_at_call 10; (with_reducible refine (A1.out _).mono ?_); rintro e w2 ⟨rfl, hb2⟩; obtain ⟨hc2, hf2⟩ := bcell hb2; have hz2 := hb2.size; (try simp at hz2); (try have lt2 : w.heap.size < w2.heap.size := (by omega)))
    | (go_at_call 10; (with_reducible refine (A2.out _).mono ?_); rintro e w3 ⟨rfl, hb3⟩; obtain ⟨hc3, hf3⟩ := bcell hb3; have hz3 := hb3.size; (try simp at hz3); (try have lt3 : w.heap.size < w3.heap.size := (by omega)))
    | (go_at_call 10; (with_reducible refine (A4'.out _).mono ?_); rintro e w5 ⟨rfl, hb5⟩; obtain ⟨hc5, hf5⟩ := bcell hb5; have hz5 := hb5.size; (try simp at hz5); (try have lt5 : w.heap.size < w5.heap.size := (by omega))))
  go_ret
  exact ⟨rfl, (by repeat (first | exact Below.refl _ _ | assumption | refine Below.drew ?_ | refine Below.alloc ?_ (by (try simp) <;> omega) _ | refine Below.setCell ?_ (by (try simp) <;> omega) _ | (refine Below.trans ?_ (Below.mono (by assumption) (by (try simp) <;> omega)))))⟩
set_option maxHeartbeats 2000000 in
theorem n1_lies_d (nd fr to st ln es ts : Int) (t l v lo hi : Int) (g2 : Bool) (w : World)
    (A1 : Hid (∀ w, Calls Try.prog 10 #[.agg #[.int .i64 (nd), .int .i64 (fr), .int .i64 (to), .int .i64 (st), .int .i64 (ln), .int .u8 (es), .int .i64 (ts), .bool (false)], .int .i64 t] w fun e w' => e = .returned (.tuple #[.int .i64 v, .bool false, .int .i64 0]) ∧ Below w.heap.size w w'))
    (A2 : Hid (∀ w, Calls Try.prog 10 #[.agg #[.int .i64 (nd), .int .i64 (fr), .int .i64 (to), .int .i64 (st), .int .i64 (ln), .int .u8 (es), .int .i64 (ts), .bool (false)], .int .i64 st] w fun e w' => e = .returned (.tuple #[.int .i64 fr, .bool g2, .int .i64 0]) ∧ Below w.heap.size w w'))
    (A3 : Hid (false = false → t ≤ l → l ≤ 1048576 → ∀ w, Calls Try.prog 10 #[.agg #[.int .i64 (nd), .int .i64 (fr), .int .i64 (to), .int .i64 (st), .int .i64 (ln), .int .u8 (es), .int .i64 (ts), .bool (false)], .int .i64 l] w fun e w' => e = .returned (.tuple #[.int .i64 v, .bool false, .int .i64 0]) ∧ Below w.heap.size w w'))
    (A4 : Hid (false = true → 1 ≤ t - st - ln → t - st - ln < ln → ts ≠ 1 → ∃ g3, ∀ w, Calls Try.prog 10 #[.agg #[.int .i64 (nd), .int .i64 (fr), .int .i64 (to), .int .i64 (st), .int .i64 (ln), .int .u8 (es), .int .i64 (ts), .bool (false)], .int .i64 (st + ln - (t - st - ln))] w fun e w' => e = .returned (.tuple #[.int .i64 v, .bool g3, .int .i64 0]) ∧ Below w.heap.size w w'))
    (m1 : (if fr < to then fr else to) = lo) (m2 : (if to < fr then to else fr) = lo) (m3 : (if fr < to then to else fr) = hi) (m4 : (if to < fr then fr else to) = hi) (v0 : lo ≤ v) (v1 : v ≤ hi)
    (t0 : 0 ≤ t) (t1 : t ≤ 1048576) (s0 : 0 ≤ st) (s1 : st ≤ 1048576) (l0 : 1 ≤ ln) (l1 : ln ≤ 1048576) (h1 : t ≤ l) (h2 : l ≤ 1048576) (k1 : True) :
    Calls Try.prog 5 #[.agg #[.int .i64 (nd), .int .i64 (fr), .int .i64 (to), .int .i64 (st), .int .i64 (ln), .int .u8 (es), .int .i64 (ts), .bool (false)], .int .i64 t, .int .i64 l] w fun e w' => e = .returned (.bool true) ∧ Below w.heap.size w w' := by
  skip
  have A3' := A3.out rfl h1 h2
  replace A3' := Lib.hid A3'
  clear A3
  go_enter Try.func5, Try.ntmps5
  go_wp2_with (first
    | (go_at_call 9; (with_reducible refine (alive_any _).mono ?_); rintro e w1 ⟨rfl, hb1⟩; obtain ⟨hc1, hf1⟩ := bcell hb1; have hz1 := hb1.size; (try simp at hz1); (try have lt1 : w.heap.size < w1.heap.size := (by omega)))
    | (go_at_call 10; (with_reducible refine (A1.out _).mono ?_); rintro e w2 ⟨rfl, hb2⟩; obtain ⟨hc2, hf2⟩ := bcell hb2; have hz2 := hb2.size; (try simp at hz2); (try have lt2 : w.heap.size < w2.heap.size := (by omega)))
    | (go_at_call 10; (with_reducible refine (A2.out _).mono ?_); rintro e w3 ⟨rfl, hb3⟩; obtain ⟨hc3, hf3⟩ := bcell hb3; have hz3 := hb3.size; (try simp at hz3); (try have lt3 : w.heap.size < w3.heap.size := (by omega)))
    | (go_at_call 10; (with_reducible refine (A3'.out _).mono ?_); rintro e w4 ⟨rfl, hb4⟩; obtain ⟨hc4, hf4⟩ := bcell hb4; have hz4 := hb4.size; (try simp at hz4); (try have lt4 : w.heap.size < w4.heap.size := (by omega))))
  go_ret
  exact ⟨rfl, (by repeat (first | exact Below.refl _ _ | assumption | refine Below.drew ?_ | refine Below.alloc ?_ (by (try simp) <;> omega) _ | refine Below.setCell ?_ (by (try simp) <;> omega) _ | (refine Below.trans ?_ (Below.mono (by assumption) (by (try simp) <;> omega)))))⟩
set_option maxHeartbeats 2000000 in
theorem n2_lies_d (nd fr to st ln es ts : Int) (t l v lo hi : Int) (g2 : Bool) (w : World)
    (A1 : Hid (∀ w, Calls Try.prog 10 #[.agg #[.int .i64 (nd), .int .i64 (fr), .int .i64 (to), .int .i64 (st), .int .i64 (ln), .int .u8 (es), .int .i64 (ts), .bool (true)], .int .i64 t] w fun e w' => e = .returned (.tuple #[.int .i64 v, .bool false, .int .i64 0]) ∧ Below w.heap.size w w'))
    (A2 : Hid (∀ w, Calls Try.prog 10 #[.agg #[.int .i64 (nd), .int .i64 (fr), .int .i64 (to), .int .i64 (st), .int .i64 (ln), .int .u8 (es), .int .i64 (ts), .bool (true)], .int .i64 st] w fun e w' => e = .returned (.tuple #[.int .i64 fr, .bool g2, .int .i64 0]) ∧ Below w.heap.size w w'))
    (A3 : Hid (false = false → t ≤ l → l ≤ 1048576 → ∀ w, Calls Try.prog 10 #[.agg #[.int .i64 (nd), .int .i64 (fr), .int .i64 (to), .int .i64 (st), .int .i64 (ln), .int .u8 (es), .int .i64 (ts), .bool (true)], .int .i64 l] w fun e w' => e = .returned (.tuple #[.int .i64 v, .bool false, .int .i64 0]) ∧ Below w.heap.size w w'))
    (A4 : Hid (true = true → 1 ≤ t - st - ln → t - st - ln < ln → ts ≠ 1 → ∃ g3, ∀ w, Calls Try.prog 10 #[.agg #[.int .i64 (nd), .int .i64 (fr), .int .i64 (to), .int .i64 (st), .int .i64 (ln), .int .u8 (es), .int .i64 (ts), .bool (true)], .int .i64 (st + ln - (t - st - ln))] w fun e w' => e = .returned (.tuple #[.int .i64 v, .bool g3, .int .i64 0]) ∧ Below w.heap.size w w'))
    (m1 : (if fr < to then fr else to) = lo) (m2 : (if to < fr then to else fr) = lo) (m3 : (if fr < to then to else fr) = hi) (m4 : (if to < fr then fr else to) = hi) (v0 : lo ≤ v) (v1 : v ≤ hi)
    (t0 : 0 ≤ t) (t1 : t ≤ 1048576) (s0 : 0 ≤ st) (s1 : st ≤ 1048576) (l0 : 1 ≤ ln) (l1 : ln ≤ 1048576) (h1 : t ≤ l) (h2 : l ≤ 1048576) (k1 : (ts == 1) = true) :
    Calls Try.prog 5 #[.agg #[.int .i64 (nd), .int .i64 (fr), .int .i64 (to), .int .i64 (st), .int .i64 (ln), .int .u8 (es), .int .i64 (ts), .bool (true)], .int .i64 t, .int .i64 l] w fun e w' => e = .returned (.bool true) ∧ Below w.heap.size w w' := by
  skip
  have A3' := A3.out rfl h1 h2
  replace A3' := Lib.hid A3'
  clear A3
  go_enter Try.func5, Try.ntmps5
  go_wp2_with (first
    | (go_at_call 9; (with_reducible refine (alive_any _).mono ?_); rintro e w1 ⟨rfl, hb1⟩; obtain ⟨hc1, hf1⟩ := bcell hb1; have hz1 := hb1.size; (try simp at hz1); (try have lt1 : w.heap.size < w1.heap.size := (by omega)))
    | (go_at_call 10; (with_reducible refine (A1.out _).mono ?_); rintro e w2 ⟨rfl, hb2⟩; obtain ⟨hc2, hf2⟩ := bcell hb2; have hz2 := hb2.size; (try simp at hz2); (try have lt2 : w.heap.size < w2.heap.size := (by omega)))
    | (go_at_call 10; (with_reducible refine (A2.out _).mono ?_); rintro e w3 ⟨rfl, hb3⟩; obtain ⟨hc3, hf3⟩ := bcell hb3; have hz3 := hb3.size; (try simp at hz3); (try have lt3 : w.heap.size < w3.heap.size := (by omega)))
    | (go_at_call 10; (with_reducible refine (A3'.out _).mono ?_); rintro e w4 ⟨rfl, hb4⟩; obtain ⟨hc4, hf4⟩ := bcell hb4; have hz4 := hb4.size; (try simp at hz4); (try have lt4 : w.heap.size < w4.heap.size := (by omega))))
  go_ret
  exact ⟨rfl, (by repeat (first | exact Below.refl _ _ | assumption | refine Below.drew ?_ | refine Below.alloc ?_ (by (try simp) <;> omega) _ | refine Below.setCell ?_ (by (try simp) <;> omega) _ | (refine Below.trans ?_ (Below.mono (by assumption) (by (try simp) <;> omega)))))⟩
set_option maxHeartbeats 2000000 in
theorem n3_lies_d (nd fr to st ln es ts : Int) (t l v lo hi : Int) (g2 : Bool) (w : World)
    (A1 : Hid (∀ w, Calls Try.prog 10 #[.agg #[.int .i64 (nd), .int .i64 (fr), .int .i64 (to), .int .i64 (st), .int .i64 (ln), .int .u8 (es), .int .i64 (ts), .bool (true)], .int .i64 t] w fun e w' => e = .returned (.tuple #[.int .i64 v, .bool false, .int .i64 0]) ∧ Below w.heap.size w w'))
    (A2 : Hid (∀ w, Calls Try.prog 10 #[.agg #[.int .i64 (nd), .int .i64 (fr), .int .i64 (to), .int .i64 (st), .int .i64 (ln), .int .u8 (es), .int .i64 (ts), .bool (true)], .int .i64 st] w fun e w' => e = .returned (.tuple #[.int .i64 fr, .bool g2, .int .i64 0]) ∧ Below w.heap.size w w'))
    (A3 : Hid (false = false → t ≤ l → l ≤ 1048576 → ∀ w, Calls Try.prog 10 #[.agg #[.int .i64 (nd), .int .i64 (fr), .int .i64 (to), .int .i64 (st), .int .i64 (ln), .int .u8 (es), .int .i64 (ts), .bool (true)], .int .i64 l] w fun e w' => e = .returned (.tuple #[.int .i64 v, .bool false, .int .i64 0]) ∧ Below w.heap.size w w'))
    (A4 : Hid (true = true → 1 ≤ t - st - ln → t - st - ln < ln → ts ≠ 1 → ∃ g3, ∀ w, Calls Try.prog 10 #[.agg #[.int .i64 (nd), .int .i64 (fr), .int .i64 (to), .int .i64 (st), .int .i64 (ln), .int .u8 (es), .int .i64 (ts), .bool (true)], .int .i64 (st + ln - (t - st - ln))] w fun e w' => e = .returned (.tuple #[.int .i64 v, .bool g3, .int .i64 0]) ∧ Below w.heap.size w w'))
    (m1 : (if fr < to then fr else to) = lo) (m2 : (if to < fr then to else fr) = lo) (m3 : (if fr < to then to else fr) = hi) (m4 : (if to < fr then fr else to) = hi) (v0 : lo ≤ v) (v1 : v ≤ hi)
    (t0 : 0 ≤ t) (t1 : t ≤ 1048576) (s0 : 0 ≤ st) (s1 : st ≤ 1048576) (l0 : 1 ≤ ln) (l1 : ln ≤ 1048576) (h1 : t ≤ l) (h2 : l ≤ 1048576) (k1 : (ts == 1) = false) (k2 : t - st - ln < 1) :
    Calls Try.prog 5 #[.agg #[.int .i64 (nd), .int .i64 (fr), .int .i64 (to), .int .i64 (st), .int .i64 (ln), .int .u8 (es), .int .i64 (ts), .bool (true)], .int .i64 t, .int .i64 l] w fun e w' => e = .returned (.bool true) ∧ Below w.heap.size w w' := by
  skip
  have A3' := A3.out rfl h1 h2
  replace A3' := Lib.hid A3'
  clear A3
  go_enter Try.func5, Try.ntmps5
  go_wp2_with (first
    | (go_at_call 9; (with_reducible refine (alive_any _).mono ?_); rintro e w1 ⟨rfl, hb1⟩; obtain ⟨hc1, hf1⟩ := bcell hb1; have hz1 := hb1.size; (try simp at hz1); (try have lt1 : w.heap.size < w1.heap.size := (by omega)))
    | (go_at_call 10; (with_reducible refine (A1.out _).mono ?_); rintro e w2 ⟨rfl, hb2⟩; obtain ⟨hc2, hf2⟩ := bcell hb2; have hz2 := hb2.size; (try simp at hz2); (try have lt2 : w.heap.size < w2.heap.size := (by omega)))
    | (go_at_call 10; (with_reducible refine (A2.out _).mono ?_); rintro e w3 ⟨rfl, hb3⟩; obtain ⟨hc3, hf3⟩ := bcell hb3; have hz3 := hb3.size; (try simp at hz3); (try have lt3 : w.heap.size < w3.heap.size := (by omega)))
    | (go_at_call 10; (with_reducible refine (A3'.out _).mono ?_); rintro e w4 ⟨rfl, hb4⟩; obtain ⟨hc4, hf4⟩ := bcell hb4; have hz4 := hb4.size; (try simp at hz4); (try have lt4 : w.heap.size < w4.heap.size := (by omega))))
  go_ret
  exact ⟨rfl, (by repeat (first | exact Below.refl _ _ | assumption | refine Below.drew ?_ | refine Below.alloc ?_ (by (try simp) <;> omega) _ | refine Below.setCell ?_ (by (try simp) <;> omega) _ | (refine Below.trans ?_ (Below.mono (by assumption) (by (try simp) <;> omega)))))⟩
set_option maxHeartbeats 2000000 in
theorem n4_lies_d (nd fr to st ln es ts : Int) (t l v lo hi : Int) (g2 : Bool) (w : World)
    (A1 : Hid (∀ w, Calls Try.prog 10 #[.agg #[.int .i64 (nd), .int .i64 (fr), .int .i64 (to), .int .i64 (st), .int .i64 (ln), .int .u8 (es), .int .i64 (ts), .bool (true)], .int .i64 t] w fun e w' => e = .returned (.tuple #[.int .i64 v, .bool false, .int .i64 0]) ∧ Below w.heap.size w w'))
    (A2 : Hid (∀ w, Calls Try.prog 10 #[.agg #[.int .i64 (nd), .int .i64 (fr), .int .i64 (to), .int .i64 (st), .int .i64 (ln), .int .u8 (es), .int .i64 (ts), .bool (true)], .int .i64 st] w fun e w' => e = .returned (.tuple #[.int .i64 fr, .bool g2, .int .i64 0]) ∧ Below w.heap.size w w'))
    (A3 : Hid (false = false → t ≤ l → l ≤ 1048576 → ∀ w, Calls Try.prog 10 #[.agg #[.int .i64 (nd), .int .i64 (fr), .int .i64 (to), .int .i64 (st), .int .i64 (ln), .int .u8 (es), .int .i64 (ts), .bool (true)], .int .i64 l] w fun e w' => e = .returned (.tuple #[.int .i64 v, .bool false, .int .i64 0]) ∧ Below w.heap.size w w'))
    (A4 : Hid (true = true → 1 ≤ t - st - ln → t - st - ln < ln → ts ≠ 1 → ∃ g3, ∀ w, Calls Try.prog 10 #[.agg #[.int .i64 (nd), .int .i64 (fr), .int .i64 (to), .int .i64 (st), .int .i64 (ln), .int .u8 (es), .int .i64 (ts), .bool (true)], .int .i64 (st + ln - (t - st - ln))] w fun e w' => e = .returned (.tuple #[.int .i64 v, .bool g3, .int .i64 0]) ∧ Below w.heap.size w w'))
    (m1 : (if fr < to then fr else to) = lo) (m2 : (if to < fr then to else fr) = lo) (m3 : (if fr < to then to else fr) = hi) (m4 : (if to < fr then fr else to) = hi) (v0 : lo ≤ v) (v1 : v ≤ hi)
    (t0 : 0 ≤ t) (t1 : t ≤ 1048576) (s0 : 0 ≤ st) (s1 : st ≤ 1048576) (l0 : 1 ≤ ln) (l1 : ln ≤ 1048576) (h1 : t ≤ l) (h2 : l ≤ 1048576) (k1 : (ts == 1) = false) (k2 : 1 ≤ t - st - ln) (k3 : ln ≤ t - st - ln) :
    Calls Try.prog 5 #[.agg #[.int .i64 (nd), .int .i64 (fr), .int .i64 (to), .int .i64 (st), .int .i64 (ln), .int .u8 (es), .int .i64 (ts), .bool (true)], .int .i64 t, .int .i64 l] w fun e w' => e = .returned (.bool true) ∧ Below w.heap.size w w' := by
  skip
  have A3' := A3.out rfl h1 h2
  replace A3' := Lib.hid A3'
  clear A3
  go_enter Try.func5, Try.ntmps5
  go_wp2_with (first
    | (go_at_call 9; (with_reducible refine (alive_any _).mono ?_); rintro e w1 ⟨rfl, hb1⟩; obtain ⟨hc1, hf1⟩ := bcell hb1; have hz1 := hb1.size; (try simp at hz1); (try have lt1 : w.heap.size < w1.heap.size := (by omega)))
    | (go_at_call 10; (with_reducible refine (A1.out _).mono ?_); rintro e w2 ⟨rfl, hb2⟩; obtain ⟨hc2, hf2⟩ := bcell hb2; have hz2 := hb2.size; (try simp at hz2); (try have lt2 : w.heap.size < w2.heap.size := (by omega)))
    | (go_at_call 10; (with_reducible refine (A2.out _).mono ?_); rintro e w3 ⟨rfl, hb3⟩; obtain ⟨hc3, hf3⟩ := bcell hb3; have hz3 := hb3.size; (try simp at hz3); (try have lt3 : w.heap.size < w3.heap.size := (by omega)))
    | (go_at_call 10; (with_reducible refine (A3'.out _).mono ?_); rintro e w4 ⟨rfl, hb4⟩; obtain ⟨hc4, hf4⟩ := bcell hb4; have hz4 := hb4.size; (try simp at hz4); (try have lt4 : w.heap.size < w4.heap.size := (by omega))))
  go_ret
  exact ⟨rfl, (by repeat (first | exact Below.refl _ _ | assumption | refine Below.drew ?_ | refine Below.alloc ?_ (by (try simp) <;> omega) _ | refine Below.setCell ?_ (by (try simp) <;> omega) _ | (refine Below.trans ?_ (Below.mono (by assumption) (by (try simp) <;> omega)))))⟩
set_option maxHeartbeats 2000000 in
theorem n5_lies_d (nd fr to st ln es ts : Int) (t l v lo hi : Int) (g2 : Bool) (w : World)
    (A1 : Hid (∀ w, Calls Try.prog 10 #[.agg #[.int .i64 (nd), .int .i64 (fr), .int .i64 (to), .int .i64 (st), .int .i64 (ln), .int .u8 (es), .int .i64 (ts), .bool (true)], .int .i64 t] w fun e w' => e = .returned (.tuple #[.int .i64 v, .bool false, .int .i64 0]) ∧ Below w.heap.size w w'))
    (A2 : Hid (∀ w, Calls Try.prog 10 #[.agg #[.int .i64 (nd), .int .i64 (fr), .int .i64 (to), .int .i64 (st), .int .i64 (ln), .int .u8 (es), .int .i64 (ts), .bool (true)], .int .i64 st] w fun e w' => e = .returned (.tuple #[.int .i64 fr, .bool g2, .int .i64 0]) ∧ Below w.heap.size w w'))
    (A3 : Hid (false = false → t ≤ l → l ≤ 1048576 → ∀ w, Calls Try.prog 10 #[.agg #[.int .i64 (nd), .int .i64 (fr), .int .i64 (to), .int .i64 (st), .int .i64 (ln), .int .u8 (es), .int .i64 (ts), .bool (true)], .int .i64 l] w fun e w' => e = .returned (.tuple #[.int .i64 v, .bool false, .int .i64 0]) ∧ Below w.heap.size w w'))
    (A4 : Hid (true = true → 1 ≤ t - st - ln → t - st - ln < ln → ts ≠ 1 → ∃ g3, ∀ w, Calls Try.prog 10 #[.agg #[.int .i64 (nd), .int .i64 (fr), .int .i64 (to), .int .i64 (st), .int .i64 (ln), .int .u8 (es), .int .i64 (ts), .bool (true)], .int .i64 (st + ln - (t - st - ln))] w fun e w' => e = .returned (.tuple #[.int .i64 v, .bool g3, .int .i64 0]) ∧ Below w.heap.size w w'))
    (m1 : (if fr < to then fr else to) = lo) (m2 : (if to < fr then to else fr) = lo) (m3 : (if fr < to then to else fr) = hi) (m4 : (if to < fr then fr else to) = hi) (v0 : lo ≤ v) (v1 : v ≤ hi)
    (t0 : 0 ≤ t) (t1 : t ≤ 1048576) (s0 : 0 ≤ st) (s1 : st ≤ 1048576) (l0 : 1 ≤ ln) (l1 : ln ≤ 1048576) (h1 : t ≤ l) (h2 : l ≤ 1048576) (k1 : (ts == 1) = false) (k2 : 1 ≤ t - st - ln) (k3 : t - st - ln < ln) :
    Calls Try.prog 5 #[.agg #[.int .i64 (nd), .int .i64 (fr), .int .i64 (to), .int .i64 (st), .int .i64 (ln), .int .u8 (es), .int .i64 (ts), .bool (true)], .int .i64 t, .int .i64 l] w fun e w' => e = .returned (.bool true) ∧ Below w.heap.size w w' := by
  obtain ⟨g3, A4'⟩ := A4.out rfl k2 k3 (by simpa using k1)
  replace A4' := Lib.hid A4'
  clear A4
  have A3' := A3.out rfl h1 h2
  replace A3' := Lib.hid A3'
  clear A3
  go_enter Try.func5, Try.ntmps5
  go_wp2_with (first
    | (go_at_call 9; (with_reducible refine (alive_any _).mono ?_); rintro e w1 ⟨rfl, hb1⟩; obtain ⟨hc1, hf1⟩ := bcell hb1; have hz1 := hb1.size; (try simp at hz1); (try have lt1 : w.heap.size < w1.heap.size := (by omega)))
    | (go_at_call 10; (with_reducible refine (A1.out _).mono ?_); rintro e w2 ⟨rfl, hb2⟩; obtain ⟨hc2, hf2⟩ := bcell hb2; have hz2 := hb2.size; (try simp at hz2); (try have lt2 : w.heap.size < w2.heap.size := (by omega)))
    | (go_at_call 10; (with_reducible refine (A2.out _).mono ?_); rintro e w3 ⟨rfl, hb3⟩; obtain ⟨hc3, hf3⟩ := bcell hb3; have hz3 := hb3.size; (try simp at hz3); (try have lt3 : w.heap.size < w3.heap.size := (by omega)))
    | (go_at_call 10; (with_reducible refine (A3'.out _).mono ?_); rintro e w4 ⟨rfl, hb4⟩; obtain ⟨hc4, hf4⟩ := bcell hb4; have hz4 := hb4.size; (try simp at hz4); (try have lt4 : w.heap.size < w4.heap.size := (by omega)))
    | (go_at_call 10; (with_reducible refine (A4'.out _).mono ?_); rintro e w5 ⟨rfl, hb5⟩; obtain ⟨hc5, hf5⟩ := bcell hb5; have hz5 := hb5.size; (try simp at hz5); (try have lt5 : w.heap.size < w5.heap.size := (by omega))))
  go_ret
  exact ⟨rfl, (by repeat (first | exact Below.refl _ _ | assumption | refine Below.drew ?_ | refine Below.alloc ?_ (by (try simp) <;> omega) _ | refine Below.setCell ?_ (by (try simp) <;> omega) _ | (refine Below.trans ?_ (Below.mono (by assumption) (by (try simp) <;> omega)))))⟩
end Go.Proofs.Ytblneabjdbllbaa
