/-
  region.both, Of, Join, Meet, Less, Check.
-/
import Derived.Test.YtlklmncjicgbgaaRegBd
namespace Go.Proofs.Ytlklmncjicgbgaa
open Go.RowKit
set_option linter.unusedVariables false
attribute [local go_sem] vwp vUpon_value vUpon_skip vUpon_enter vUpon_row
set_option linter.unusedSimpArgs false
set_option linter.unusedVariables false
theorem both_any (a b : List Re) (va vb : Value) (what : Int) (fw : Nat) (w : World) (ha : Row w.heap.size 4 Re.enc w va a) (hb : Row w.heap.size 4 Re.enc w vb b) (wa : WfL a) (wb : WfL b)
    (eg : ∀ args w, (callFunc fw args).run Try.prog w = .ok (.enter fw args) w) (hw : ∀ a b w, Calls Try.prog fw #[.bool a, .bool b] w fun e w' => e = .returned (.bool (wantB what a b)) ∧ Below w.heap.size w w') :
    Calls Try.prog 39 #[va, vb, .func (.func fw) #[] #[]] w (FormPost (bothE a b what) (bothL a b what) w) := by
  obtain ⟨s1, c1, rfl, _⟩ := ha.shape
  obtain ⟨s2, c2, rfl, _⟩ := hb.shape
  have AS := asked2 a b s1 s2 c1 c2 w ha hb wa wb
  have hal : Below w.heap.size w (w.alloc (.cells #[.slice s1 a.length c1, .slice s2 b.length c2] 22)) := (Below.refl _ _).alloc (Nat.le_refl _) _
  unfold bothE bothL
  by_cases h0 : askR a b = 0
  · rw [if_pos h0, if_pos h0]
    rw [h0] at AS
    have hca : chkR a = 0 := by unfold askR at h0; by_cases h : chkR a = 0; exact h; rw [if_neg h] at h0; exact h0
    have hcb : chkR b = 0 := by unfold askR at h0; rw [if_pos hca] at h0; exact h0
    obtain ⟨ma, la⟩ := chkR_may hca
    obtain ⟨mb, lb⟩ := chkR_may hcb
    have FM := fun w1 (h : Below w.heap.size w w1) => form_any a b _ _ what fw w1 ((ha.below h).mono h.size) ((hb.below h).mono h.size) ma mb (by omega) (by omega) eg hw
    replace AS := Lib.hid AS
    replace FM := Lib.hid FM
    replace hw := Lib.hid hw
    clear ha hb
    go_enter Try.func39, Try.ntmps39
    go_wp2_with (first
      | (go_at_call 43; (with_reducible refine (AS.out).mono ?_); rintro e w1 ⟨rfl, hb1⟩; have hb01 := hal.trans (hb1.mono hal.size))
      | (go_at_call 52; (with_reducible refine (FM.out _ hb01).mono ?_); rintro e w2 ⟨hb2, v, rfl, hcut⟩)
      | go_in)
    go_ret2
    exact ⟨hb01.trans (hb2.mono hb01.size), v, rfl, hcut.less hb01.size⟩
  · rw [if_neg h0, if_neg h0]
    have h0' : (askR a b == 0) = false := by simp [h0]
    have h0n : (askR a b != 0) = true := by simp [h0]
    generalize askR a b = E at *
    replace AS := Lib.hid AS
    replace hw := Lib.hid hw
    clear ha hb
    go_enter Try.func39, Try.ntmps39
    go_wp2_with (first
      | (go_at_call 43; (with_reducible refine (AS.out).mono ?_); rintro e w1 ⟨rfl, hb1⟩; have hb01 := hal.trans (hb1.mono hal.size))
      | go_in)
    go_ret2
    exact ⟨hb01, _, rfl, CutR.nil _ _⟩
theorem eg_either : ∀ args w, (callFunc 40 args).run Try.prog w = .ok (.enter 40 args) w := enters_of Try.func40 (by kernel_rfl) rfl
theorem eg_each : ∀ args w, (callFunc 41 args).run Try.prog w = .ok (.enter 41 args) w := enters_of Try.func41 (by kernel_rfl) rfl
theorem eg_first : ∀ args w, (callFunc 42 args).run Try.prog w = .ok (.enter 42 args) w := enters_of Try.func42 (by kernel_rfl) rfl
theorem hw_either (a b : Bool) (w : World) : Calls Try.prog 40 #[.bool a, .bool b] w fun e w' => e = .returned (.bool (wantB 1 a b)) ∧ Below w.heap.size w w' := either_any a b w
theorem hw_each (a b : Bool) (w : World) : Calls Try.prog 41 #[.bool a, .bool b] w fun e w' => e = .returned (.bool (wantB 2 a b)) ∧ Below w.heap.size w w' := each_any a b w
theorem hw_first (a b : Bool) (w : World) : Calls Try.prog 42 #[.bool a, .bool b] w fun e w' => e = .returned (.bool (wantB 3 a b)) ∧ Below w.heap.size w w' := first_any a b w
theorem nilRow (B : Nat) (w : World) : Row B 4 Re.enc w (.slice none 0 0) [] := ⟨none, 0, rfl, by simp, by unfold maxLen; omega, fun h => by simp at h⟩
theorem wf_nil : WfL [] := fun q hq => by simp at hq
theorem join_any (a b : List Re) (va vb : Value) (w : World) (ha : Row w.heap.size 4 Re.enc w va a) (hb : Row w.heap.size 4 Re.enc w vb b) (wa : WfL a) (wb : WfL b) :
    Calls Try.prog 11 #[va, vb] w (FormPost (bothE a b 1) (bothL a b 1) w) := by
  have B := both_any a b va vb 1 _ w ha hb wa wb eg_either hw_either
  generalize bothE a b 1 = E at B ⊢
  generalize bothL a b 1 = L at B ⊢
  clear ha hb
  replace B := Lib.hid B
  go_enter Try.func11, Try.ntmps11
  go_wp2_with (first
    | (go_at_call 39; (with_reducible refine (B.out).mono ?_); rintro e w2 ⟨hb2, v, rfl, hcut⟩)
    | go_in)
  go_ret2
  exact ⟨hb2, v, rfl, hcut⟩
theorem meet_any (a b : List Re) (va vb : Value) (w : World) (ha : Row w.heap.size 4 Re.enc w va a) (hb : Row w.heap.size 4 Re.enc w vb b) (wa : WfL a) (wb : WfL b) :
    Calls Try.prog 12 #[va, vb] w (FormPost (bothE a b 2) (bothL a b 2) w) := by
  have B := both_any a b va vb 2 _ w ha hb wa wb eg_each hw_each
  generalize bothE a b 2 = E at B ⊢
  generalize bothL a b 2 = L at B ⊢
  clear ha hb
  replace B := Lib.hid B
  go_enter Try.func12, Try.ntmps12
  go_wp2_with (first
    | (go_at_call 39; (with_reducible refine (B.out).mono ?_); rintro e w2 ⟨hb2, v, rfl, hcut⟩)
    | go_in)
  go_ret2
  exact ⟨hb2, v, rfl, hcut⟩
theorem less_any (a b : List Re) (va vb : Value) (w : World) (ha : Row w.heap.size 4 Re.enc w va a) (hb : Row w.heap.size 4 Re.enc w vb b) (wa : WfL a) (wb : WfL b) :
    Calls Try.prog 13 #[va, vb] w (FormPost (bothE a b 3) (bothL a b 3) w) := by
  have B := both_any a b va vb 3 _ w ha hb wa wb eg_first hw_first
  generalize bothE a b 3 = E at B ⊢
  generalize bothL a b 3 = L at B ⊢
  clear ha hb
  replace B := Lib.hid B
  go_enter Try.func13, Try.ntmps13
  go_wp2_with (first
    | (go_at_call 39; (with_reducible refine (B.out).mono ?_); rintro e w2 ⟨hb2, v, rfl, hcut⟩)
    | go_in)
  go_ret2
  exact ⟨hb2, v, rfl, hcut⟩
theorem of_any (a : List Re) (va : Value) (w : World) (ha : Row w.heap.size 4 Re.enc w va a) (wa : WfL a) :
    Calls Try.prog 22 #[va] w (FormPost (bothE a [] 1) (bothL a [] 1) w) := by
  have B := both_any a [] va (.slice none 0 0) 1 _ w ha (nilRow _ _) wa wf_nil eg_either hw_either
  generalize bothE a [] 1 = E at B ⊢
  generalize bothL a [] 1 = L at B ⊢
  clear ha
  replace B := Lib.hid B
  go_enter Try.func22, Try.ntmps22
  go_wp2_with (first
    | (go_at_call 39; (with_reducible refine (B.out).mono ?_); rintro e w2 ⟨hb2, v, rfl, hcut⟩)
    | go_in)
  go_ret2
  exact ⟨hb2, v, rfl, hcut⟩
theorem rgcheck_any (a : List Re) (va : Value) (w : World) (ha : Row w.heap.size 4 Re.enc w va a) (wa : WfL a) :
    Calls Try.prog 23 #[va] w fun e w' => e = .returned (.int .i64 (isFormE a)) ∧ Below w.heap.size w w' := by
  obtain ⟨s1, c1, rfl, hmax⟩ := ha.shape
  have AS := asked1 a s1 c1 w ha wa
  have hal : Below w.heap.size w (w.alloc (.cells #[.slice s1 a.length c1] 22)) := (Below.refl _ _).alloc (Nat.le_refl _) _
  unfold isFormE
  by_cases h0 : chkR a = 0
  · rw [if_pos h0]
    rw [h0] at AS
    obtain ⟨ma, la⟩ := chkR_may h0
    have FM := fun w1 (h : Below w.heap.size w w1) => form_any a [] _ (.slice none 0 0) 1 _ w1 ((ha.below h).mono h.size) (nilRow _ _) ma mayL_nil (by omega) (by simp) eg_either hw_either
    have hML : (madeL a [] 1).length ≤ 1024 := by unfold madeL; split <;> simp_all <;> omega
    have EQ := fun w1 v (h : Below w.heap.size w w1) (hc : CutR w.heap.size w1 v (madeL a [] 1)) => equalR_any (madeL a [] 1) a v _ w1 (hc.row (Nat.le_refl _)) ((ha.below h).mono h.size) (by omega) (by omega)
    by_cases hE : madeE a [] 1 = 0
    · rw [hE] at FM
      have hres : (if madeE a [] 1 = 0 ∧ eqRs (madeL a [] 1) a = true then (0 : Int) else 2) = if eqRs (madeL a [] 1) a = true then 0 else 2 := by simp [hE]
      rw [hres]
      generalize madeL a [] 1 = L at FM EQ ⊢
      generalize eqRs L a = bb at EQ ⊢
      replace AS := Lib.hid AS
      replace FM := Lib.hid FM
      replace EQ := Lib.hid EQ
      clear ha
      cases bb
      · go_enter Try.func23, Try.ntmps23
        go_wp2_with (first
          | (go_at_call 43; (with_reducible refine (AS.out).mono ?_); rintro e w1 ⟨rfl, hb1⟩; have hb01 := hal.trans (hb1.mono hal.size))
          | (go_at_call 52; (with_reducible refine (FM.out _ hb01).mono ?_); rintro e w2 ⟨hb2, v, rfl, hcut⟩; have hb02 := hb01.trans (hb2.mono hb01.size); have hcut2 := Lib.hid (hcut.less hb01.size))
          | (go_at_call 53; (with_reducible refine (EQ.out _ _ hb02 hcut2.out).mono ?_); rintro e w3 ⟨rfl, hb3⟩)
          | go_in)
        go_ret
        exact ⟨rfl, hb02.trans (hb3.mono hb02.size)⟩
      · go_enter Try.func23, Try.ntmps23
        go_wp2_with (first
          | (go_at_call 43; (with_reducible refine (AS.out).mono ?_); rintro e w1 ⟨rfl, hb1⟩; have hb01 := hal.trans (hb1.mono hal.size))
          | (go_at_call 52; (with_reducible refine (FM.out _ hb01).mono ?_); rintro e w2 ⟨hb2, v, rfl, hcut⟩; have hb02 := hb01.trans (hb2.mono hb01.size); have hcut2 := Lib.hid (hcut.less hb01.size))
          | (go_at_call 53; (with_reducible refine (EQ.out _ _ hb02 hcut2.out).mono ?_); rintro e w3 ⟨rfl, hb3⟩)
          | go_in)
        go_ret
        exact ⟨rfl, hb02.trans (hb3.mono hb02.size)⟩
    · rw [if_neg (fun h => hE h.1)]
      have hE' : (madeE a [] 1 == 0) = false := by simp [hE]
      have hEn : (madeE a [] 1 != 0) = true := by simp [hE]
      generalize madeE a [] 1 = E at FM hE' hEn
      replace AS := Lib.hid AS
      replace FM := Lib.hid FM
      clear ha EQ hE
      go_enter Try.func23, Try.ntmps23
      go_wp2_with (first
        | (go_at_call 43; (with_reducible refine (AS.out).mono ?_); rintro e w1 ⟨rfl, hb1⟩; have hb01 := hal.trans (hb1.mono hal.size))
        | (go_at_call 52; (with_reducible refine (FM.out _ hb01).mono ?_); rintro e w2 ⟨hb2, v, rfl, hcut⟩)
        | go_in)
      go_ret
      exact ⟨rfl, hb01.trans (hb2.mono hb01.size)⟩
  · rw [if_neg h0]
    have h0' : (chkR a == 0) = false := by simp [h0]
    have h0n : (chkR a != 0) = true := by simp [h0]
    generalize chkR a = E at *
    replace AS := Lib.hid AS
    clear ha
    go_enter Try.func23, Try.ntmps23
    go_wp2_with (first
      | (go_at_call 43; (with_reducible refine (AS.out).mono ?_); rintro e w1 ⟨rfl, hb1⟩; have hb01 := hal.trans (hb1.mono hal.size))
      | go_in)
    go_ret
    exact ⟨rfl, hb01⟩
end Go.Proofs.Ytlklmncjicgbgaa
