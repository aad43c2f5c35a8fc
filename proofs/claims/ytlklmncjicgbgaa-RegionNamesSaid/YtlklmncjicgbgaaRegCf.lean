/-
  The document's answer: both, Join, Meet, Less, Of, Check, Has.
-/
import Derived.Test.YtlklmncjicgbgaaRegCe
namespace Go.Proofs.Ytlklmncjicgbgaa
open Go.RowKit
set_option linter.unusedVariables false
attribute [local go_sem] vwp vUpon_value vUpon_skip vUpon_enter vUpon_row
set_option linter.unusedSimpArgs false
set_option linter.unusedVariables false
theorem MadePost.mono {E : Int} {L : List Re} {w w1 : World} {e : Ending} {w' : World} (hb : Below w.heap.size w w1) (h : MadePost E L w1 e w') : MadePost E L w e w' := by
  obtain ⟨h1, v, h2, h3⟩ := h
  exact ⟨hb.trans (h1.mono hb.size), v, h2, own_less h3 hb.size⟩
theorem kboth_any (a b : List Re) (va vb : Value) (what : Int) (w : World) (ha : Row w.heap.size 4 Re.enc w va a) (hb : Row w.heap.size 4 Re.enc w vb b) (wa : WfL a) (wb : WfL b) (hw : what = 1 ∨ what = 2 ∨ what = 3) :
    Calls Try.prog 46 #[va, vb, .int .i64 what] w (MadePost (bothE a b what) (bothL a b what) w) := by
  have TW := ktwo_any a b va vb w ha hb wa wb
  unfold bothE bothL
  by_cases h0 : askR a b = 0
  · rw [if_pos h0, if_pos h0]
    rw [h0] at TW
    have hca : chkR a = 0 := by unfold askR at h0; by_cases h : chkR a = 0; exact h; rw [if_neg h] at h0; exact h0
    have hcb : chkR b = 0 := by unfold askR at h0; rw [if_pos hca] at h0; exact h0
    obtain ⟨ma, la⟩ := chkR_may hca
    obtain ⟨mb, lb⟩ := chkR_may hcb
    have MD := fun w1 (h : Below w.heap.size w w1) => kmade_any a b va vb what w1 ((ha.below h).mono h.size) ((hb.below h).mono h.size) ma mb (by omega) (by omega) hw
    generalize madeE a b what = E at *
    generalize madeL a b what = L at *
    replace TW := Lib.hid TW
    replace MD := Lib.hid MD
    clear ha hb hw h0 hca hcb
    go_enter Try.func46, Try.ntmps46
    go_wp2_with (first
      | (go_at_call 47; (with_reducible refine (TW.out).mono ?_); rintro e w1 ⟨rfl, hb1⟩)
      | (go_at_call 63; (with_reducible refine (MD.out _ hb1).mono ?_); rintro e w2 ⟨hb2, v, rfl, hcut⟩)
      | go_in)
    go_ret2
    exact ⟨hb1.trans (hb2.mono hb1.size), v, rfl, own_less hcut hb1.size⟩
  · rw [if_neg h0, if_neg h0]
    have h0' : (askR a b == 0) = false := by simp [h0]
    have h0n : (askR a b != 0) = true := by simp [h0]
    generalize askR a b = E at *
    replace TW := Lib.hid TW
    clear ha hb hw
    go_enter Try.func46, Try.ntmps46
    go_wp2_with (first
      | (go_at_call 47; (with_reducible refine (TW.out).mono ?_); rintro e w1 ⟨rfl, hb1⟩)
      | go_in)
    go_ret2
    exact ⟨hb1, _, rfl, OwnsR.nil _ _⟩
theorem kjoin_any (a b : List Re) (va vb : Value) (w : World) (ha : Row w.heap.size 4 Re.enc w va a) (hb : Row w.heap.size 4 Re.enc w vb b) (wa : WfL a) (wb : WfL b) :
    Calls Try.prog 15 #[va, vb] w (MadePost (bothE a b 1) (bothL a b 1) w) := by
  have B := kboth_any a b va vb 1 w ha hb wa wb (.inl rfl)
  generalize bothE a b 1 = E at B ⊢
  generalize bothL a b 1 = L at B ⊢
  clear ha hb
  replace B := Lib.hid B
  go_enter Try.func15, Try.ntmps15
  go_wp2_with (first
    | (go_at_call 46; (with_reducible refine (B.out).mono ?_); rintro e w2 ⟨hb2, v, rfl, hcut⟩)
    | go_in)
  go_ret2
  exact ⟨hb2, v, rfl, hcut⟩
theorem kmeet_any (a b : List Re) (va vb : Value) (w : World) (ha : Row w.heap.size 4 Re.enc w va a) (hb : Row w.heap.size 4 Re.enc w vb b) (wa : WfL a) (wb : WfL b) :
    Calls Try.prog 16 #[va, vb] w (MadePost (bothE a b 2) (bothL a b 2) w) := by
  have B := kboth_any a b va vb 2 w ha hb wa wb (.inr (.inl rfl))
  generalize bothE a b 2 = E at B ⊢
  generalize bothL a b 2 = L at B ⊢
  clear ha hb
  replace B := Lib.hid B
  go_enter Try.func16, Try.ntmps16
  go_wp2_with (first
    | (go_at_call 46; (with_reducible refine (B.out).mono ?_); rintro e w2 ⟨hb2, v, rfl, hcut⟩)
    | go_in)
  go_ret2
  exact ⟨hb2, v, rfl, hcut⟩
theorem kless_any (a b : List Re) (va vb : Value) (w : World) (ha : Row w.heap.size 4 Re.enc w va a) (hb : Row w.heap.size 4 Re.enc w vb b) (wa : WfL a) (wb : WfL b) :
    Calls Try.prog 17 #[va, vb] w (MadePost (bothE a b 3) (bothL a b 3) w) := by
  have B := kboth_any a b va vb 3 w ha hb wa wb (.inr (.inr rfl))
  generalize bothE a b 3 = E at B ⊢
  generalize bothL a b 3 = L at B ⊢
  clear ha hb
  replace B := Lib.hid B
  go_enter Try.func17, Try.ntmps17
  go_wp2_with (first
    | (go_at_call 46; (with_reducible refine (B.out).mono ?_); rintro e w2 ⟨hb2, v, rfl, hcut⟩)
    | go_in)
  go_ret2
  exact ⟨hb2, v, rfl, hcut⟩
theorem kof_any (a : List Re) (va : Value) (w : World) (ha : Row w.heap.size 4 Re.enc w va a) (wa : WfL a) :
    Calls Try.prog 31 #[va] w (MadePost (bothE a [] 1) (bothL a [] 1) w) := by
  have AS := kasked_any a va w ha wa
  have e1 : askR a [] = chkR a := by unfold askR; split <;> simp_all [chkR]
  unfold bothE bothL
  rw [e1]
  by_cases h0 : chkR a = 0
  · rw [if_pos h0, if_pos h0]
    rw [h0] at AS
    obtain ⟨ma, la⟩ := chkR_may h0
    have MD := fun w1 (h : Below w.heap.size w w1) => kmade_any a [] va (.slice none 0 0) 1 w1 ((ha.below h).mono h.size) (nilRow _ _) ma mayL_nil (by omega) (by simp) (.inl rfl)
    generalize madeE a [] 1 = E at *
    generalize madeL a [] 1 = L at *
    replace AS := Lib.hid AS
    replace MD := Lib.hid MD
    clear ha e1 h0
    go_enter Try.func31, Try.ntmps31
    go_wp2_with (first
      | (go_at_call 62; (with_reducible refine (AS.out).mono ?_); rintro e w1 ⟨rfl, hb1⟩)
      | (go_at_call 63; (with_reducible refine (MD.out _ hb1).mono ?_); rintro e w2 ⟨hb2, v, rfl, hcut⟩)
      | go_in)
    go_ret2
    exact ⟨hb1.trans (hb2.mono hb1.size), v, rfl, own_less hcut hb1.size⟩
  · rw [if_neg h0, if_neg h0]
    have h0' : (chkR a == 0) = false := by simp [h0]
    have h0n : (chkR a != 0) = true := by simp [h0]
    generalize chkR a = E at *
    replace AS := Lib.hid AS
    clear ha e1
    go_enter Try.func31, Try.ntmps31
    go_wp2_with (first
      | (go_at_call 62; (with_reducible refine (AS.out).mono ?_); rintro e w1 ⟨rfl, hb1⟩)
      | go_in)
    go_ret2
    exact ⟨hb1, _, rfl, OwnsR.nil _ _⟩
theorem kcheck_any (a : List Re) (va : Value) (w : World) (ha : Row w.heap.size 4 Re.enc w va a) (wa : WfL a) :
    Calls Try.prog 36 #[va] w fun e w' => e = .returned (.int .i64 (isFormE a)) ∧ Below w.heap.size w w' := by
  have AS := kasked_any a va w ha wa
  unfold isFormE
  by_cases h0 : chkR a = 0
  · rw [if_pos h0]
    rw [h0] at AS
    obtain ⟨ma, la⟩ := chkR_may h0
    have MD := fun w1 (h : Below w.heap.size w w1) => kmade_any a [] va (.slice none 0 0) 1 w1 ((ha.below h).mono h.size) (nilRow _ _) ma mayL_nil (by omega) (by simp) (.inl rfl)
    have hML : (madeL a [] 1).length ≤ 1024 := by unfold madeL; split <;> simp_all <;> omega
    have SM := fun w1 v (h : Below w.heap.size w w1) (hc : Row w1.heap.size 4 Re.enc w1 v (madeL a [] 1)) => sameR_any (madeL a [] 1) a v va w1 hc ((ha.below h).mono h.size) (by omega) (by omega)
    by_cases hE : madeE a [] 1 = 0
    · rw [hE] at MD
      have hres : (if madeE a [] 1 = 0 ∧ eqRs (madeL a [] 1) a = true then (0 : Int) else 2) = if eqRs (madeL a [] 1) a = true then 0 else 2 := by simp [hE]
      rw [hres]
      generalize madeL a [] 1 = L at MD SM ⊢
      generalize eqRs L a = bb at SM ⊢
      replace AS := Lib.hid AS
      replace MD := Lib.hid MD
      replace SM := Lib.hid SM
      clear ha hML h0
      cases bb
      · go_enter Try.func36, Try.ntmps36
        go_wp2_with (first
          | (go_at_call 62; (with_reducible refine (AS.out).mono ?_); rintro e w1 ⟨rfl, hb1⟩)
          | (go_at_call 63; (with_reducible refine (MD.out _ hb1).mono ?_); rintro e w2 ⟨hb2, v, rfl, hcut⟩; have hb02 := hb1.trans (hb2.mono hb1.size); have hcut := Lib.hid hcut)
          | (go_at_call 51; (with_reducible refine (SM.out _ _ hb02 (hcut.out.row (Nat.le_refl _))).mono ?_); rintro e w3 ⟨rfl, hb3⟩)
          | go_in)
        go_ret
        exact ⟨rfl, hb02.trans (hb3.mono hb02.size)⟩
      · go_enter Try.func36, Try.ntmps36
        go_wp2_with (first
          | (go_at_call 62; (with_reducible refine (AS.out).mono ?_); rintro e w1 ⟨rfl, hb1⟩)
          | (go_at_call 63; (with_reducible refine (MD.out _ hb1).mono ?_); rintro e w2 ⟨hb2, v, rfl, hcut⟩; have hb02 := hb1.trans (hb2.mono hb1.size); have hcut := Lib.hid hcut)
          | (go_at_call 51; (with_reducible refine (SM.out _ _ hb02 (hcut.out.row (Nat.le_refl _))).mono ?_); rintro e w3 ⟨rfl, hb3⟩)
          | go_in)
        go_ret
        exact ⟨rfl, hb02.trans (hb3.mono hb02.size)⟩
    · rw [if_neg (fun h => hE h.1)]
      have hE' : (madeE a [] 1 == 0) = false := by simp [hE]
      have hEn : (madeE a [] 1 != 0) = true := by simp [hE]
      generalize madeE a [] 1 = E at MD hE' hEn
      generalize madeL a [] 1 = L at MD SM hML
      generalize eqRs L a = bb at SM
      replace AS := Lib.hid AS
      replace MD := Lib.hid MD
      replace SM := Lib.hid SM
      clear ha hE h0
      go_enter Try.func36, Try.ntmps36
      go_wp2_with (first
        | (go_at_call 62; (with_reducible refine (AS.out).mono ?_); rintro e w1 ⟨rfl, hb1⟩)
        | (go_at_call 63; (with_reducible refine (MD.out _ hb1).mono ?_); rintro e w2 ⟨hb2, v, rfl, hcut⟩; have hb02 := hb1.trans (hb2.mono hb1.size); have hcut := Lib.hid hcut)
        | (go_at_call 51; (with_reducible refine (SM.out _ _ hb02 (hcut.out.row (Nat.le_refl _))).mono ?_); rintro e w3 ⟨rfl, hb3⟩)
        | go_in)
      go_ret
      exact ⟨rfl, hb02.trans (hb3.mono hb02.size)⟩
  · rw [if_neg h0]
    have h0' : (chkR a == 0) = false := by simp [h0]
    have h0n : (chkR a != 0) = true := by simp [h0]
    generalize chkR a = E at *
    replace AS := Lib.hid AS
    clear ha
    go_enter Try.func36, Try.ntmps36
    go_wp2_with (first
      | (go_at_call 62; (with_reducible refine (AS.out).mono ?_); rintro e w1 ⟨rfl, hb1⟩)
      | go_in)
    go_ret
    exact ⟨rfl, hb1⟩
theorem kHas_any (a : List Re) (va : Value) (px py : Int) (w : World) (ha : Row w.heap.size 4 Re.enc w va a) (wa : WfL a) :
    Calls Try.prog 34 #[va, .agg #[.int .i64 px, .int .i64 py]] w fun e w' => e = .returned (.tuple #[.bool (hasE a px py), .int .i64 (chkR a)]) ∧ Below w.heap.size w w' := by
  obtain ⟨wb, hwb⟩ : ∃ wb, wb = w.alloc (.cells #[.int .i64 px, .int .i64 py] 34) := ⟨_, rfl⟩
  have hb0 : Below w.heap.size w wb := by rw [hwb]; exact (Below.refl _ _).alloc (Nat.le_refl _) _
  have z0 : w.heap.size < wb.heap.size := by rw [hwb]; simp
  have g0 : wb.cell? ⟨w.heap.size, 0, none⟩ = some (.int .i64 px) := by rw [hwb]; exact World.cell?_alloc_at _ _ _ _ rfl
  have g1 : wb.cell? ⟨w.heap.size, 1, none⟩ = some (.int .i64 py) := by rw [hwb]; exact World.cell?_alloc_at _ _ _ _ rfl
  have AS := kasked_any a va wb ((ha.below hb0).mono hb0.size) wa
  unfold hasE
  by_cases h0 : chkR a = 0
  · rw [if_pos h0]
    rw [h0] at AS ⊢
    obtain ⟨ma, la⟩ := chkR_may h0
    have HA := fun W (h : Below w.heap.size w W) => khas_any a va px py W ((ha.below h).mono h.size) ma
    generalize hasL a px py = o at *
    replace AS := Lib.hid AS
    replace HA := Lib.hid HA
    clear ha h0
    go_enter Try.func34, Try.ntmps34
    go_upto_region 1 with fail
    rw [← hwb]
    clear hwb
    go_wp2_with (first
      | (go_at_call 62; (with_reducible refine (AS.out).mono ?_); rintro e w1 ⟨rfl, hb1⟩; have hb01 := hb0.trans (hb1.mono hb0.size); obtain ⟨hc1, hf1⟩ := bcell hb1)
      | (go_at_call 65; (with_reducible refine (HA.out _ hb01).mono ?_); rintro e w2 ⟨rfl, hb2⟩)
      | go_in)
    go_ret2
    exact ⟨rfl, hb01.trans (hb2.mono hb01.size)⟩
  · rw [if_neg h0]
    have h0' : (chkR a == 0) = false := by simp [h0]
    have h0n : (chkR a != 0) = true := by simp [h0]
    generalize chkR a = E at *
    replace AS := Lib.hid AS
    clear ha
    go_enter Try.func34, Try.ntmps34
    go_upto_region 1 with fail
    rw [← hwb]
    clear hwb
    go_wp2_with (first
      | (go_at_call 62; (with_reducible refine (AS.out).mono ?_); rintro e w1 ⟨rfl, hb1⟩)
      | go_in)
    go_ret2
    exact ⟨rfl, hb0.trans (hb1.mono hb0.size)⟩
end Go.Proofs.Ytlklmncjicgbgaa
