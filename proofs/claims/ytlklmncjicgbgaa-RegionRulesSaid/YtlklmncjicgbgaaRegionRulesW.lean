/-
  The law RegionRules, walked.
-/
import Derived.Test.YtlklmncjicgbgaaRegBk
namespace Go.Proofs.Ytlklmncjicgbgaa
open Go.RowKit
set_option linter.unusedVariables false
attribute [local go_sem] vwp vUpon_value vUpon_skip vUpon_enter vUpon_row
set_option linter.unusedSimpArgs false
set_option linter.unusedVariables false
set_option maxHeartbeats 8000000 in
set_option maxRecDepth 100000 in
theorem walk_RegionRules (a b c : List Re) (va vb vc : Value) (w : World) (ha : Row w.heap.size 4 Re.enc w va a) (hb : Row w.heap.size 4 Re.enc w vb b) (hc : Row w.heap.size 4 Re.enc w vc c) (wa : WfL a) (wb : WfL b) (wc : WfL c) :
    Calls Try.prog 5 #[va, vb, vc] w fun e w' => e = .returned (.bool true) ∧ Below w.heap.size w w' := by
  obtain ⟨s1, c1, rfl, hm1⟩ := ha.shape
  obtain ⟨s2, c2, rfl, hm2⟩ := hb.shape
  obtain ⟨s3, c3, rfl, hm3⟩ := hc.shape
  by_cases b1 : 10 < a.length
  · have b1' : (10 : Int) < a.length := by omega
    clear ha hb hc
    go_enter Try.func5, Try.ntmps5
    go_wp2_with (first | (go_at_call 8; (with_reducible refine (alive_any _).mono ?_); rintro e w0 ⟨rfl, hb0⟩; have z0 := hb0.size) | go_in)
    go_ret
    exact ⟨rfl, hb0⟩
  have b1' : ¬ (10 : Int) < a.length := by omega
  by_cases b2 : 10 < b.length
  · have b2' : (10 : Int) < b.length := by omega
    clear ha hb hc
    go_enter Try.func5, Try.ntmps5
    go_wp2_with (first | (go_at_call 8; (with_reducible refine (alive_any _).mono ?_); rintro e w0 ⟨rfl, hb0⟩; have z0 := hb0.size) | go_in)
    go_ret
    exact ⟨rfl, hb0⟩
  have b2' : ¬ (10 : Int) < b.length := by omega
  by_cases b3 : 10 < c.length
  · have b3' : (10 : Int) < c.length := by omega
    clear ha hb hc
    go_enter Try.func5, Try.ntmps5
    go_wp2_with (first | (go_at_call 8; (with_reducible refine (alive_any _).mono ?_); rintro e w0 ⟨rfl, hb0⟩; have z0 := hb0.size) | go_in)
    go_ret
    exact ⟨rfl, hb0⟩
  have b3' : ¬ (10 : Int) < c.length := by omega
  have OA := fun W (h : Below w.heap.size w W) => of_any a _ W ((ha.below h).mono h.size) wa
  have OB := fun W (h : Below w.heap.size w W) => of_any b _ W ((hb.below h).mono h.size) wb
  have OC := fun W (h : Below w.heap.size w W) => of_any c _ W ((hc.below h).mono h.size) wc
  obtain ⟨ea0, ea1⟩ := of_err (a := a) (by omega)
  obtain ⟨eb0, eb1⟩ := of_err (a := b) (by omega)
  obtain ⟨ec0, ec1⟩ := of_err (a := c) (by omega)
  by_cases za : chkR a = 0
  · by_cases zb : chkR b = 0
    · by_cases zc : chkR c = 0
      · clear OA OB OC ea0 ea1 eb0 eb1 ec0 ec1
        obtain ⟨ma, _⟩ := chkR_may za
        obtain ⟨mb, _⟩ := chkR_may zb
        obtain ⟨mc, _⟩ := chkR_may zc
        have fl : ∀ (x y : List Re) (k : Int), MayL x → MayL y → x.length ≤ 20 → y.length ≤ 12 → (formR x y k).length ≤ 1024 := fun x y k hx hy h1 h2 => form_small k hx hy 32 (by omega) (by omega)
        obtain ⟨F, hF⟩ : ∃ F, formR a [] 1 = F := ⟨_, rfl⟩
        obtain ⟨G, hG⟩ : ∃ F, formR b [] 1 = F := ⟨_, rfl⟩
        obtain ⟨K, hK⟩ : ∃ F, formR c [] 1 = F := ⟨_, rfl⟩
        obtain ⟨J, hJ⟩ : ∃ F, formR a b 1 = F := ⟨_, rfl⟩
        obtain ⟨M, hM⟩ : ∃ F, formR a b 2 = F := ⟨_, rfl⟩
        obtain ⟨L, hL⟩ : ∃ F, formR a b 3 = F := ⟨_, rfl⟩
        obtain ⟨Q, hQ⟩ : ∃ F, formR b c 1 = F := ⟨_, rfl⟩
        obtain ⟨T, hT⟩ : ∃ F, formR J c 1 = F := ⟨_, rfl⟩
        have mF : MayL F := hF ▸ form_may ma mayL_nil 1
        have mG : MayL G := hG ▸ form_may mb mayL_nil 1
        have mJ : MayL J := hJ ▸ form_may ma mb 1
        have mM : MayL M := hM ▸ form_may ma mb 2
        have mL : MayL L := hL ▸ form_may ma mb 3
        have mQ : MayL Q := hQ ▸ form_may mb mc 1
        have lF : F.length ≤ 1024 := hF ▸ fl a [] 1 ma mayL_nil (by omega) (by simp)
        have lG : G.length ≤ 1024 := hG ▸ fl b [] 1 mb mayL_nil (by omega) (by simp)
        have lK : K.length ≤ 1024 := hK ▸ fl c [] 1 mc mayL_nil (by omega) (by simp)
        have lJ : J.length ≤ 1024 := hJ ▸ fl a b 1 ma mb (by omega) (by omega)
        have lM : M.length ≤ 1024 := hM ▸ fl a b 2 ma mb (by omega) (by omega)
        have lL : L.length ≤ 1024 := hL ▸ fl a b 3 ma mb (by omega) (by omega)
        have lQ : Q.length ≤ 1024 := hQ ▸ fl b c 1 mb mc (by omega) (by omega)
        have lT : T.length ≤ 1024 := by
          rw [← hT, ← hJ, join_left ma.sane mb.sane mc.sane]
          exact fl (a ++ b) c 1 (ma.append mb) mc (by rw [List.length_append]; omega) (by omega)
        have mB : MayL (backL a) := fun q hq => ma q ((back_mem a q).1 hq)
        have lB : (backL a).length ≤ 1024 := by have := back_len a; omega
        have eA : formR F [] 1 = F := by rw [← hF]; exact form_form ma.sane sane_nil 1
        have eB : formR (backL a) [] 1 = F := by rw [← hF]; exact back_form ma.sane
        have eJ : formR b a 1 = J := by rw [← hJ]; exact join_comm mb.sane ma.sane
        have eM : formR b a 2 = M := by rw [← hM]; exact meet_comm mb.sane ma.sane
        have eT : formR a Q 1 = T := by rw [← hT, ← hJ, ← hQ]; exact (join_assoc ma.sane mb.sane mc.sane).symm
        have eW : formR M L 1 = F := by rw [← hM, ← hL, ← hF]; exact whole_eq ma.sane mb.sane
        have eN : formR L b 2 = [] := by rw [← hL]; exact none_eq ma.sane mb.sane
        have eJJ : formR J [] 1 = J := by rw [← hJ]; exact form_form ma.sane mb.sane 1
        have eMM : formR M [] 1 = M := by rw [← hM]; exact form_form ma.sane mb.sane 2
        have hArea : areaM J + areaM M = areaM F + areaM G := by rw [← hJ, ← hM, ← hF, ← hG]; exact area_add ma mb
        have bJ : 0 ≤ areaM J ∧ areaM J ≤ 1073741824 := ⟨areaM_pos mJ.sane, by rw [← hJ]; exact area_le ma mb 1⟩
        have bM : 0 ≤ areaM M ∧ areaM M ≤ 1073741824 := ⟨areaM_pos mM.sane, by rw [← hM]; exact area_le ma mb 2⟩
        have bF : 0 ≤ areaM F ∧ areaM F ≤ 1073741824 := ⟨areaM_pos mF.sane, by rw [← hF]; exact area_le ma mayL_nil 1⟩
        have bG : 0 ≤ areaM G ∧ areaM G ≤ 1073741824 := ⟨areaM_pos mG.sane, by rw [← hG]; exact area_le mb mayL_nil 1⟩
        have RA := fun W (h : Below w.heap.size w W) => (ha.below h).mono h.size
        have RB := fun W (h : Below w.heap.size w W) => (hb.below h).mono h.size
        have RC := fun W (h : Below w.heap.size w W) => (hc.below h).mono h.size
        have C1 := fun W (h : Below w.heap.size w W) => of_small a _ W (RA W h) ma (by omega) F hF lF
        have C2 := fun W (h : Below w.heap.size w W) => of_small b _ W (RB W h) mb (by omega) G hG lG
        have C3 := fun W (h : Below w.heap.size w W) => of_small c _ W (RC W h) mc (by omega) K hK lK
        have C4 := fun W v (h : CutR 0 W v F) => of_small F v W (h.row (Nat.le_refl _)) mF lF F eA lF
        have C5 := fun W (h : Below w.heap.size w W) => back_any a _ W (RA W h) (by omega)
        have C6 := fun W v (h : OwnsR 0 W v (backL a)) => of_small (backL a) v W (h.row (Nat.le_refl _)) mB lB F eB lF
        have C7 := fun W (h : Below w.heap.size w W) => join_small a b _ _ W (RA W h) (RB W h) ma mb (by omega) (by omega) J hJ lJ
        have C8 := fun W (h : Below w.heap.size w W) => join_small b a _ _ W (RB W h) (RA W h) mb ma (by omega) (by omega) J eJ lJ
        have C9 := fun W (h : Below w.heap.size w W) => meet_small a b _ _ W (RA W h) (RB W h) ma mb (by omega) (by omega) M hM lM
        have C10 := fun W (h : Below w.heap.size w W) => meet_small b a _ _ W (RB W h) (RA W h) mb ma (by omega) (by omega) M eM lM
        have C11 := fun W (h : Below w.heap.size w W) => less_small a b _ _ W (RA W h) (RB W h) ma mb (by omega) (by omega) L hL lL
        have C12 := fun W (h : Below w.heap.size w W) => join_small b c _ _ W (RB W h) (RC W h) mb mc (by omega) (by omega) Q hQ lQ
        have C13 := fun W (h : Below w.heap.size w W) v (hv : CutR 0 W v J) => join_small J c v _ W (hv.row (Nat.le_refl _)) (RC W h) mJ mc lJ (by omega) T hT lT
        have C14 := fun W (h : Below w.heap.size w W) v (hv : CutR 0 W v Q) => join_small a Q _ v W (RA W h) (hv.row (Nat.le_refl _)) ma mQ (by omega) lQ T eT lT
        have C15 := fun W v (hv : CutR 0 W v M) u (hu : CutR 0 W u L) => join_small M L v u W (hv.row (Nat.le_refl _)) (hu.row (Nat.le_refl _)) mM mL lM lL F eW lF
        have C16 := fun W (h : Below w.heap.size w W) v (hv : CutR 0 W v L) => meet_small L b v _ W (hv.row (Nat.le_refl _)) (RB W h) mL mb lL (by omega) [] eN (by simp)
        have C17 := fun W (h : Below w.heap.size w W) => sames_small a b _ _ W (RA W h) (RB W h) ma mb (by omega) (by omega)
        have C18 := fun W v (hv : CutR 0 W v J) => area_small J v W (hv.row (Nat.le_refl _)) mJ lJ J eJJ
        have C19 := fun W v (hv : CutR 0 W v M) => area_small M v W (hv.row (Nat.le_refl _)) mM lM M eMM
        have C20 := fun W (h : Below w.heap.size w W) => area_small a _ W (RA W h) ma (by omega) F hF
        have C21 := fun W (h : Below w.heap.size w W) => area_small b _ W (RB W h) mb (by omega) G hG
        have C22 := fun W v (hv : CutR 0 W v F) u (hu : CutR 0 W u F) => same_cut F F v u W hv hu lF lF
        have C23 := fun W v (hv : CutR 0 W v F) u (hu : CutR 0 W u F) => same_cut F F v u W hv hu lF lF
        have C24 := fun W v (hv : CutR 0 W v J) u (hu : CutR 0 W u J) => same_cut J J v u W hv hu lJ lJ
        have C25 := fun W v (hv : CutR 0 W v M) u (hu : CutR 0 W u M) => same_cut M M v u W hv hu lM lM
        have C26 := fun W v (hv : CutR 0 W v T) u (hu : CutR 0 W u T) => same_cut T T v u W hv hu lT lT
        have C27 := fun W v (hv : CutR 0 W v F) u (hu : CutR 0 W u F) => same_cut F F v u W hv hu lF lF
        have C28 := fun W v (hv : CutR 0 W v F) u (hu : CutR 0 W u G) => same_cut F G v u W hv hu lF lG
        rw [hF, hG] at C17
        obtain ⟨sB, hsB⟩ : ∃ x, eqRs F G = x := ⟨_, rfl⟩
        rw [hsB] at C17 C28
        rw [eqRs_refl] at C22 C23 C24 C25 C26 C27
        generalize areaM J = A1 at *
        generalize areaM M = A2 at *
        generalize areaM F = A3 at *
        generalize areaM G = A4 at *
        obtain ⟨_, _⟩ := bJ
        obtain ⟨_, _⟩ := bM
        obtain ⟨_, _⟩ := bF
        obtain ⟨_, _⟩ := bG
        have hsb : (sB == sB) = true := by simp
        replace C1 := Lib.hid C1
        replace C2 := Lib.hid C2
        replace C3 := Lib.hid C3
        replace C4 := Lib.hid C4
        replace C5 := Lib.hid C5
        replace C6 := Lib.hid C6
        replace C7 := Lib.hid C7
        replace C8 := Lib.hid C8
        replace C9 := Lib.hid C9
        replace C10 := Lib.hid C10
        replace C11 := Lib.hid C11
        replace C12 := Lib.hid C12
        replace C13 := Lib.hid C13
        replace C14 := Lib.hid C14
        replace C15 := Lib.hid C15
        replace C16 := Lib.hid C16
        replace C17 := Lib.hid C17
        replace C18 := Lib.hid C18
        replace C19 := Lib.hid C19
        replace C20 := Lib.hid C20
        replace C21 := Lib.hid C21
        replace C22 := Lib.hid C22
        replace C23 := Lib.hid C23
        replace C24 := Lib.hid C24
        replace C25 := Lib.hid C25
        replace C26 := Lib.hid C26
        replace C27 := Lib.hid C27
        replace C28 := Lib.hid C28
        clear ha hb hc RA RB RC hsB eA eB eJ eM eT eW eN eJJ eMM hF hG hK hJ hM hL hQ hT fl lF lG lK lJ lM lL lQ lT mF mG mJ mM mL mQ mB lB
        go_enter Try.func5, Try.ntmps5
        go_wp2_with (first
          | (go_at_call 8; (with_reducible refine (alive_any _).mono ?_); rintro e w0 ⟨rfl, hb0⟩; have z0 := hb0.size)
          | (go_at_call 22; (with_reducible refine (C1.out _ hb0).mono ?_); rintro e w1 ⟨hb1, v1, rfl, hc1⟩; have hx1 := hb0.trans (hb1.mono hb0.size); have H1_1 := Lib.hid (hc1.less (Nat.zero_le _)); clear hc1; clear hb1)
          | (go_at_call 22; (with_reducible refine (C2.out _ hx1).mono ?_); rintro e w2 ⟨hb2, v2, rfl, hc2⟩; have hx2 := hx1.trans (hb2.mono hx1.size); have H1_2 := Lib.hid (H1_1.out.below hb2 (Nat.le_refl _)); clear H1_1; have H2_2 := Lib.hid (hc2.less (Nat.zero_le _)); clear hc2; clear hb2)
          | (go_at_call 22; (with_reducible refine (C3.out _ hx2).mono ?_); rintro e w3 ⟨hb3, v3, rfl, hc3⟩; have hx3 := hx2.trans (hb3.mono hx2.size); have H1_3 := Lib.hid (H1_2.out.below hb3 (Nat.le_refl _)); clear H1_2; have H2_3 := Lib.hid (H2_2.out.below hb3 (Nat.le_refl _)); clear H2_2; clear hc3; clear hb3)
          | (go_at_call 22; (with_reducible refine (C4.out _ _ H1_3.out).mono ?_); rintro e w4 ⟨hb4, v4, rfl, hc4⟩; have hx4 := hx3.trans (hb4.mono hx3.size); have H1_4 := Lib.hid (H1_3.out.below hb4 (Nat.le_refl _)); clear H1_3; have H2_4 := Lib.hid (H2_3.out.below hb4 (Nat.le_refl _)); clear H2_3; have H4_4 := Lib.hid (hc4.less (Nat.zero_le _)); clear hc4; clear hb4)
          | (go_at_call 27; (with_reducible refine (C5.out _ hx4).mono ?_); rintro e w5 ⟨hb5, v5, rfl, hc5⟩; have hx5 := hx4.trans (hb5.mono hx4.size); have H1_5 := Lib.hid (H1_4.out.below hb5 (Nat.le_refl _)); clear H1_4; have H2_5 := Lib.hid (H2_4.out.below hb5 (Nat.le_refl _)); clear H2_4; have H4_5 := Lib.hid (H4_4.out.below hb5 (Nat.le_refl _)); clear H4_4; have O5_5 := Lib.hid (show OwnsR 0 _ _ (backL a) from own_less hc5 (Nat.zero_le _)); clear hc5; clear hb5)
          | (go_at_call 22; (with_reducible refine (C6.out _ _ O5_5.out).mono ?_); rintro e w6 ⟨hb6, v6, rfl, hc6⟩; have hx6 := hx5.trans (hb6.mono hx5.size); have H1_6 := Lib.hid (H1_5.out.below hb6 (Nat.le_refl _)); clear H1_5; have H2_6 := Lib.hid (H2_5.out.below hb6 (Nat.le_refl _)); clear H2_5; have H4_6 := Lib.hid (H4_5.out.below hb6 (Nat.le_refl _)); clear H4_5; clear O5_5; have H6_6 := Lib.hid (hc6.less (Nat.zero_le _)); clear hc6; clear hb6)
          | (go_at_call 11; (with_reducible refine (C7.out _ hx6).mono ?_); rintro e w7 ⟨hb7, v7, rfl, hc7⟩; have hx7 := hx6.trans (hb7.mono hx6.size); have H1_7 := Lib.hid (H1_6.out.below hb7 (Nat.le_refl _)); clear H1_6; have H2_7 := Lib.hid (H2_6.out.below hb7 (Nat.le_refl _)); clear H2_6; have H4_7 := Lib.hid (H4_6.out.below hb7 (Nat.le_refl _)); clear H4_6; have H6_7 := Lib.hid (H6_6.out.below hb7 (Nat.le_refl _)); clear H6_6; have H7_7 := Lib.hid (hc7.less (Nat.zero_le _)); clear hc7; clear hb7)
          | (go_at_call 11; (with_reducible refine (C8.out _ hx7).mono ?_); rintro e w8 ⟨hb8, v8, rfl, hc8⟩; have hx8 := hx7.trans (hb8.mono hx7.size); have H1_8 := Lib.hid (H1_7.out.below hb8 (Nat.le_refl _)); clear H1_7; have H2_8 := Lib.hid (H2_7.out.below hb8 (Nat.le_refl _)); clear H2_7; have H4_8 := Lib.hid (H4_7.out.below hb8 (Nat.le_refl _)); clear H4_7; have H6_8 := Lib.hid (H6_7.out.below hb8 (Nat.le_refl _)); clear H6_7; have H7_8 := Lib.hid (H7_7.out.below hb8 (Nat.le_refl _)); clear H7_7; have H8_8 := Lib.hid (hc8.less (Nat.zero_le _)); clear hc8; clear hb8)
          | (go_at_call 12; (with_reducible refine (C9.out _ hx8).mono ?_); rintro e w9 ⟨hb9, v9, rfl, hc9⟩; have hx9 := hx8.trans (hb9.mono hx8.size); have H1_9 := Lib.hid (H1_8.out.below hb9 (Nat.le_refl _)); clear H1_8; have H2_9 := Lib.hid (H2_8.out.below hb9 (Nat.le_refl _)); clear H2_8; have H4_9 := Lib.hid (H4_8.out.below hb9 (Nat.le_refl _)); clear H4_8; have H6_9 := Lib.hid (H6_8.out.below hb9 (Nat.le_refl _)); clear H6_8; have H7_9 := Lib.hid (H7_8.out.below hb9 (Nat.le_refl _)); clear H7_8; have H8_9 := Lib.hid (H8_8.out.below hb9 (Nat.le_refl _)); clear H8_8; have H9_9 := Lib.hid (hc9.less (Nat.zero_le _)); clear hc9; clear hb9)
          | (go_at_call 12; (with_reducible refine (C10.out _ hx9).mono ?_); rintro e w10 ⟨hb10, v10, rfl, hc10⟩; have hx10 := hx9.trans (hb10.mono hx9.size); have H1_10 := Lib.hid (H1_9.out.below hb10 (Nat.le_refl _)); clear H1_9; have H2_10 := Lib.hid (H2_9.out.below hb10 (Nat.le_refl _)); clear H2_9; have H4_10 := Lib.hid (H4_9.out.below hb10 (Nat.le_refl _)); clear H4_9; have H6_10 := Lib.hid (H6_9.out.below hb10 (Nat.le_refl _)); clear H6_9; have H7_10 := Lib.hid (H7_9.out.below hb10 (Nat.le_refl _)); clear H7_9; have H8_10 := Lib.hid (H8_9.out.below hb10 (Nat.le_refl _)); clear H8_9; have H9_10 := Lib.hid (H9_9.out.below hb10 (Nat.le_refl _)); clear H9_9; have H10_10 := Lib.hid (hc10.less (Nat.zero_le _)); clear hc10; clear hb10)
          | (go_at_call 13; (with_reducible refine (C11.out _ hx10).mono ?_); rintro e w11 ⟨hb11, v11, rfl, hc11⟩; have hx11 := hx10.trans (hb11.mono hx10.size); have H1_11 := Lib.hid (H1_10.out.below hb11 (Nat.le_refl _)); clear H1_10; have H2_11 := Lib.hid (H2_10.out.below hb11 (Nat.le_refl _)); clear H2_10; have H4_11 := Lib.hid (H4_10.out.below hb11 (Nat.le_refl _)); clear H4_10; have H6_11 := Lib.hid (H6_10.out.below hb11 (Nat.le_refl _)); clear H6_10; have H7_11 := Lib.hid (H7_10.out.below hb11 (Nat.le_refl _)); clear H7_10; have H8_11 := Lib.hid (H8_10.out.below hb11 (Nat.le_refl _)); clear H8_10; have H9_11 := Lib.hid (H9_10.out.below hb11 (Nat.le_refl _)); clear H9_10; have H10_11 := Lib.hid (H10_10.out.below hb11 (Nat.le_refl _)); clear H10_10; have H11_11 := Lib.hid (hc11.less (Nat.zero_le _)); clear hc11; clear hb11)
          | (go_at_call 11; (with_reducible refine (C12.out _ hx11).mono ?_); rintro e w12 ⟨hb12, v12, rfl, hc12⟩; have hx12 := hx11.trans (hb12.mono hx11.size); have H1_12 := Lib.hid (H1_11.out.below hb12 (Nat.le_refl _)); clear H1_11; have H2_12 := Lib.hid (H2_11.out.below hb12 (Nat.le_refl _)); clear H2_11; have H4_12 := Lib.hid (H4_11.out.below hb12 (Nat.le_refl _)); clear H4_11; have H6_12 := Lib.hid (H6_11.out.below hb12 (Nat.le_refl _)); clear H6_11; have H7_12 := Lib.hid (H7_11.out.below hb12 (Nat.le_refl _)); clear H7_11; have H8_12 := Lib.hid (H8_11.out.below hb12 (Nat.le_refl _)); clear H8_11; have H9_12 := Lib.hid (H9_11.out.below hb12 (Nat.le_refl _)); clear H9_11; have H10_12 := Lib.hid (H10_11.out.below hb12 (Nat.le_refl _)); clear H10_11; have H11_12 := Lib.hid (H11_11.out.below hb12 (Nat.le_refl _)); clear H11_11; have H12_12 := Lib.hid (hc12.less (Nat.zero_le _)); clear hc12; clear hb12)
          | (go_at_call 11; (with_reducible refine (C13.out _ hx12 _ H7_12.out).mono ?_); rintro e w13 ⟨hb13, v13, rfl, hc13⟩; have hx13 := hx12.trans (hb13.mono hx12.size); have H1_13 := Lib.hid (H1_12.out.below hb13 (Nat.le_refl _)); clear H1_12; have H2_13 := Lib.hid (H2_12.out.below hb13 (Nat.le_refl _)); clear H2_12; have H4_13 := Lib.hid (H4_12.out.below hb13 (Nat.le_refl _)); clear H4_12; have H6_13 := Lib.hid (H6_12.out.below hb13 (Nat.le_refl _)); clear H6_12; have H7_13 := Lib.hid (H7_12.out.below hb13 (Nat.le_refl _)); clear H7_12; have H8_13 := Lib.hid (H8_12.out.below hb13 (Nat.le_refl _)); clear H8_12; have H9_13 := Lib.hid (H9_12.out.below hb13 (Nat.le_refl _)); clear H9_12; have H10_13 := Lib.hid (H10_12.out.below hb13 (Nat.le_refl _)); clear H10_12; have H11_13 := Lib.hid (H11_12.out.below hb13 (Nat.le_refl _)); clear H11_12; have H12_13 := Lib.hid (H12_12.out.below hb13 (Nat.le_refl _)); clear H12_12; have H13_13 := Lib.hid (hc13.less (Nat.zero_le _)); clear hc13; clear hb13)
          | (go_at_call 11; (with_reducible refine (C14.out _ hx13 _ H12_13.out).mono ?_); rintro e w14 ⟨hb14, v14, rfl, hc14⟩; have hx14 := hx13.trans (hb14.mono hx13.size); have H1_14 := Lib.hid (H1_13.out.below hb14 (Nat.le_refl _)); clear H1_13; have H2_14 := Lib.hid (H2_13.out.below hb14 (Nat.le_refl _)); clear H2_13; have H4_14 := Lib.hid (H4_13.out.below hb14 (Nat.le_refl _)); clear H4_13; have H6_14 := Lib.hid (H6_13.out.below hb14 (Nat.le_refl _)); clear H6_13; have H7_14 := Lib.hid (H7_13.out.below hb14 (Nat.le_refl _)); clear H7_13; have H8_14 := Lib.hid (H8_13.out.below hb14 (Nat.le_refl _)); clear H8_13; have H9_14 := Lib.hid (H9_13.out.below hb14 (Nat.le_refl _)); clear H9_13; have H10_14 := Lib.hid (H10_13.out.below hb14 (Nat.le_refl _)); clear H10_13; have H11_14 := Lib.hid (H11_13.out.below hb14 (Nat.le_refl _)); clear H11_13; clear H12_13; have H13_14 := Lib.hid (H13_13.out.below hb14 (Nat.le_refl _)); clear H13_13; have H14_14 := Lib.hid (hc14.less (Nat.zero_le _)); clear hc14; clear hb14)
          | (go_at_call 11; (with_reducible refine (C15.out _ _ H9_14.out _ H11_14.out).mono ?_); rintro e w15 ⟨hb15, v15, rfl, hc15⟩; have hx15 := hx14.trans (hb15.mono hx14.size); have H1_15 := Lib.hid (H1_14.out.below hb15 (Nat.le_refl _)); clear H1_14; have H2_15 := Lib.hid (H2_14.out.below hb15 (Nat.le_refl _)); clear H2_14; have H4_15 := Lib.hid (H4_14.out.below hb15 (Nat.le_refl _)); clear H4_14; have H6_15 := Lib.hid (H6_14.out.below hb15 (Nat.le_refl _)); clear H6_14; have H7_15 := Lib.hid (H7_14.out.below hb15 (Nat.le_refl _)); clear H7_14; have H8_15 := Lib.hid (H8_14.out.below hb15 (Nat.le_refl _)); clear H8_14; have H9_15 := Lib.hid (H9_14.out.below hb15 (Nat.le_refl _)); clear H9_14; have H10_15 := Lib.hid (H10_14.out.below hb15 (Nat.le_refl _)); clear H10_14; have H11_15 := Lib.hid (H11_14.out.below hb15 (Nat.le_refl _)); clear H11_14; have H13_15 := Lib.hid (H13_14.out.below hb15 (Nat.le_refl _)); clear H13_14; have H14_15 := Lib.hid (H14_14.out.below hb15 (Nat.le_refl _)); clear H14_14; have H15_15 := Lib.hid (hc15.less (Nat.zero_le _)); clear hc15; clear hb15)
          | (go_at_call 12; (with_reducible refine (C16.out _ hx15 _ H11_15.out).mono ?_); rintro e w16 ⟨hb16, v16, rfl, hc16⟩; have hx16 := hx15.trans (hb16.mono hx15.size); have H1_16 := Lib.hid (H1_15.out.below hb16 (Nat.le_refl _)); clear H1_15; have H2_16 := Lib.hid (H2_15.out.below hb16 (Nat.le_refl _)); clear H2_15; have H4_16 := Lib.hid (H4_15.out.below hb16 (Nat.le_refl _)); clear H4_15; have H6_16 := Lib.hid (H6_15.out.below hb16 (Nat.le_refl _)); clear H6_15; have H7_16 := Lib.hid (H7_15.out.below hb16 (Nat.le_refl _)); clear H7_15; have H8_16 := Lib.hid (H8_15.out.below hb16 (Nat.le_refl _)); clear H8_15; have H9_16 := Lib.hid (H9_15.out.below hb16 (Nat.le_refl _)); clear H9_15; have H10_16 := Lib.hid (H10_15.out.below hb16 (Nat.le_refl _)); clear H10_15; clear H11_15; have H13_16 := Lib.hid (H13_15.out.below hb16 (Nat.le_refl _)); clear H13_15; have H14_16 := Lib.hid (H14_15.out.below hb16 (Nat.le_refl _)); clear H14_15; have H15_16 := Lib.hid (H15_15.out.below hb16 (Nat.le_refl _)); clear H15_15; obtain ⟨s16, c16, rfl⟩ := hc16.shape; clear hc16; clear hb16)
          | (go_at_call 14; (with_reducible refine (C17.out _ hx16).mono ?_); rintro e w17 ⟨rfl, hb17⟩; have hx17 := hx16.trans (hb17.mono hx16.size); have H1_17 := Lib.hid (H1_16.out.below hb17 (Nat.le_refl _)); clear H1_16; have H2_17 := Lib.hid (H2_16.out.below hb17 (Nat.le_refl _)); clear H2_16; have H4_17 := Lib.hid (H4_16.out.below hb17 (Nat.le_refl _)); clear H4_16; have H6_17 := Lib.hid (H6_16.out.below hb17 (Nat.le_refl _)); clear H6_16; have H7_17 := Lib.hid (H7_16.out.below hb17 (Nat.le_refl _)); clear H7_16; have H8_17 := Lib.hid (H8_16.out.below hb17 (Nat.le_refl _)); clear H8_16; have H9_17 := Lib.hid (H9_16.out.below hb17 (Nat.le_refl _)); clear H9_16; have H10_17 := Lib.hid (H10_16.out.below hb17 (Nat.le_refl _)); clear H10_16; have H13_17 := Lib.hid (H13_16.out.below hb17 (Nat.le_refl _)); clear H13_16; have H14_17 := Lib.hid (H14_16.out.below hb17 (Nat.le_refl _)); clear H14_16; have H15_17 := Lib.hid (H15_16.out.below hb17 (Nat.le_refl _)); clear H15_16; clear hb17)
          | (go_at_call 28; (with_reducible refine (C18.out _ _ H7_17.out).mono ?_); rintro e w18 ⟨rfl, hb18⟩; have hx18 := hx17.trans (hb18.mono hx17.size); have H1_18 := Lib.hid (H1_17.out.below hb18 (Nat.le_refl _)); clear H1_17; have H2_18 := Lib.hid (H2_17.out.below hb18 (Nat.le_refl _)); clear H2_17; have H4_18 := Lib.hid (H4_17.out.below hb18 (Nat.le_refl _)); clear H4_17; have H6_18 := Lib.hid (H6_17.out.below hb18 (Nat.le_refl _)); clear H6_17; have H7_18 := Lib.hid (H7_17.out.below hb18 (Nat.le_refl _)); clear H7_17; have H8_18 := Lib.hid (H8_17.out.below hb18 (Nat.le_refl _)); clear H8_17; have H9_18 := Lib.hid (H9_17.out.below hb18 (Nat.le_refl _)); clear H9_17; have H10_18 := Lib.hid (H10_17.out.below hb18 (Nat.le_refl _)); clear H10_17; have H13_18 := Lib.hid (H13_17.out.below hb18 (Nat.le_refl _)); clear H13_17; have H14_18 := Lib.hid (H14_17.out.below hb18 (Nat.le_refl _)); clear H14_17; have H15_18 := Lib.hid (H15_17.out.below hb18 (Nat.le_refl _)); clear H15_17; clear hb18)
          | (go_at_call 28; (with_reducible refine (C19.out _ _ H9_18.out).mono ?_); rintro e w19 ⟨rfl, hb19⟩; have hx19 := hx18.trans (hb19.mono hx18.size); have H1_19 := Lib.hid (H1_18.out.below hb19 (Nat.le_refl _)); clear H1_18; have H2_19 := Lib.hid (H2_18.out.below hb19 (Nat.le_refl _)); clear H2_18; have H4_19 := Lib.hid (H4_18.out.below hb19 (Nat.le_refl _)); clear H4_18; have H6_19 := Lib.hid (H6_18.out.below hb19 (Nat.le_refl _)); clear H6_18; have H7_19 := Lib.hid (H7_18.out.below hb19 (Nat.le_refl _)); clear H7_18; have H8_19 := Lib.hid (H8_18.out.below hb19 (Nat.le_refl _)); clear H8_18; have H9_19 := Lib.hid (H9_18.out.below hb19 (Nat.le_refl _)); clear H9_18; have H10_19 := Lib.hid (H10_18.out.below hb19 (Nat.le_refl _)); clear H10_18; have H13_19 := Lib.hid (H13_18.out.below hb19 (Nat.le_refl _)); clear H13_18; have H14_19 := Lib.hid (H14_18.out.below hb19 (Nat.le_refl _)); clear H14_18; have H15_19 := Lib.hid (H15_18.out.below hb19 (Nat.le_refl _)); clear H15_18; clear hb19)
          | (go_at_call 28; (with_reducible refine (C20.out _ hx19).mono ?_); rintro e w20 ⟨rfl, hb20⟩; have hx20 := hx19.trans (hb20.mono hx19.size); have H1_20 := Lib.hid (H1_19.out.below hb20 (Nat.le_refl _)); clear H1_19; have H2_20 := Lib.hid (H2_19.out.below hb20 (Nat.le_refl _)); clear H2_19; have H4_20 := Lib.hid (H4_19.out.below hb20 (Nat.le_refl _)); clear H4_19; have H6_20 := Lib.hid (H6_19.out.below hb20 (Nat.le_refl _)); clear H6_19; have H7_20 := Lib.hid (H7_19.out.below hb20 (Nat.le_refl _)); clear H7_19; have H8_20 := Lib.hid (H8_19.out.below hb20 (Nat.le_refl _)); clear H8_19; have H9_20 := Lib.hid (H9_19.out.below hb20 (Nat.le_refl _)); clear H9_19; have H10_20 := Lib.hid (H10_19.out.below hb20 (Nat.le_refl _)); clear H10_19; have H13_20 := Lib.hid (H13_19.out.below hb20 (Nat.le_refl _)); clear H13_19; have H14_20 := Lib.hid (H14_19.out.below hb20 (Nat.le_refl _)); clear H14_19; have H15_20 := Lib.hid (H15_19.out.below hb20 (Nat.le_refl _)); clear H15_19; clear hb20)
          | (go_at_call 28; (with_reducible refine (C21.out _ hx20).mono ?_); rintro e w21 ⟨rfl, hb21⟩; have hx21 := hx20.trans (hb21.mono hx20.size); have H1_21 := Lib.hid (H1_20.out.below hb21 (Nat.le_refl _)); clear H1_20; have H2_21 := Lib.hid (H2_20.out.below hb21 (Nat.le_refl _)); clear H2_20; have H4_21 := Lib.hid (H4_20.out.below hb21 (Nat.le_refl _)); clear H4_20; have H6_21 := Lib.hid (H6_20.out.below hb21 (Nat.le_refl _)); clear H6_20; have H7_21 := Lib.hid (H7_20.out.below hb21 (Nat.le_refl _)); clear H7_20; have H8_21 := Lib.hid (H8_20.out.below hb21 (Nat.le_refl _)); clear H8_20; have H9_21 := Lib.hid (H9_20.out.below hb21 (Nat.le_refl _)); clear H9_20; have H10_21 := Lib.hid (H10_20.out.below hb21 (Nat.le_refl _)); clear H10_20; have H13_21 := Lib.hid (H13_20.out.below hb21 (Nat.le_refl _)); clear H13_20; have H14_21 := Lib.hid (H14_20.out.below hb21 (Nat.le_refl _)); clear H14_20; have H15_21 := Lib.hid (H15_20.out.below hb21 (Nat.le_refl _)); clear H15_20; clear hb21)
          | (go_at_call 19; (with_reducible refine (C22.out _ _ H4_21.out _ H1_21.out).mono ?_); rintro e w22 ⟨rfl, hb22⟩; have hx22 := hx21.trans (hb22.mono hx21.size); have H1_22 := Lib.hid (H1_21.out.below hb22 (Nat.le_refl _)); clear H1_21; have H2_22 := Lib.hid (H2_21.out.below hb22 (Nat.le_refl _)); clear H2_21; clear H4_21; have H6_22 := Lib.hid (H6_21.out.below hb22 (Nat.le_refl _)); clear H6_21; have H7_22 := Lib.hid (H7_21.out.below hb22 (Nat.le_refl _)); clear H7_21; have H8_22 := Lib.hid (H8_21.out.below hb22 (Nat.le_refl _)); clear H8_21; have H9_22 := Lib.hid (H9_21.out.below hb22 (Nat.le_refl _)); clear H9_21; have H10_22 := Lib.hid (H10_21.out.below hb22 (Nat.le_refl _)); clear H10_21; have H13_22 := Lib.hid (H13_21.out.below hb22 (Nat.le_refl _)); clear H13_21; have H14_22 := Lib.hid (H14_21.out.below hb22 (Nat.le_refl _)); clear H14_21; have H15_22 := Lib.hid (H15_21.out.below hb22 (Nat.le_refl _)); clear H15_21; clear hb22)
          | (go_at_call 19; (with_reducible refine (C23.out _ _ H6_22.out _ H1_22.out).mono ?_); rintro e w23 ⟨rfl, hb23⟩; have hx23 := hx22.trans (hb23.mono hx22.size); have H1_23 := Lib.hid (H1_22.out.below hb23 (Nat.le_refl _)); clear H1_22; have H2_23 := Lib.hid (H2_22.out.below hb23 (Nat.le_refl _)); clear H2_22; clear H6_22; have H7_23 := Lib.hid (H7_22.out.below hb23 (Nat.le_refl _)); clear H7_22; have H8_23 := Lib.hid (H8_22.out.below hb23 (Nat.le_refl _)); clear H8_22; have H9_23 := Lib.hid (H9_22.out.below hb23 (Nat.le_refl _)); clear H9_22; have H10_23 := Lib.hid (H10_22.out.below hb23 (Nat.le_refl _)); clear H10_22; have H13_23 := Lib.hid (H13_22.out.below hb23 (Nat.le_refl _)); clear H13_22; have H14_23 := Lib.hid (H14_22.out.below hb23 (Nat.le_refl _)); clear H14_22; have H15_23 := Lib.hid (H15_22.out.below hb23 (Nat.le_refl _)); clear H15_22; clear hb23)
          | (go_at_call 19; (with_reducible refine (C24.out _ _ H7_23.out _ H8_23.out).mono ?_); rintro e w24 ⟨rfl, hb24⟩; have hx24 := hx23.trans (hb24.mono hx23.size); have H1_24 := Lib.hid (H1_23.out.below hb24 (Nat.le_refl _)); clear H1_23; have H2_24 := Lib.hid (H2_23.out.below hb24 (Nat.le_refl _)); clear H2_23; clear H7_23; clear H8_23; have H9_24 := Lib.hid (H9_23.out.below hb24 (Nat.le_refl _)); clear H9_23; have H10_24 := Lib.hid (H10_23.out.below hb24 (Nat.le_refl _)); clear H10_23; have H13_24 := Lib.hid (H13_23.out.below hb24 (Nat.le_refl _)); clear H13_23; have H14_24 := Lib.hid (H14_23.out.below hb24 (Nat.le_refl _)); clear H14_23; have H15_24 := Lib.hid (H15_23.out.below hb24 (Nat.le_refl _)); clear H15_23; clear hb24)
          | (go_at_call 19; (with_reducible refine (C25.out _ _ H9_24.out _ H10_24.out).mono ?_); rintro e w25 ⟨rfl, hb25⟩; have hx25 := hx24.trans (hb25.mono hx24.size); have H1_25 := Lib.hid (H1_24.out.below hb25 (Nat.le_refl _)); clear H1_24; have H2_25 := Lib.hid (H2_24.out.below hb25 (Nat.le_refl _)); clear H2_24; clear H9_24; clear H10_24; have H13_25 := Lib.hid (H13_24.out.below hb25 (Nat.le_refl _)); clear H13_24; have H14_25 := Lib.hid (H14_24.out.below hb25 (Nat.le_refl _)); clear H14_24; have H15_25 := Lib.hid (H15_24.out.below hb25 (Nat.le_refl _)); clear H15_24; clear hb25)
          | (go_at_call 19; (with_reducible refine (C26.out _ _ H13_25.out _ H14_25.out).mono ?_); rintro e w26 ⟨rfl, hb26⟩; have hx26 := hx25.trans (hb26.mono hx25.size); have H1_26 := Lib.hid (H1_25.out.below hb26 (Nat.le_refl _)); clear H1_25; have H2_26 := Lib.hid (H2_25.out.below hb26 (Nat.le_refl _)); clear H2_25; clear H13_25; clear H14_25; have H15_26 := Lib.hid (H15_25.out.below hb26 (Nat.le_refl _)); clear H15_25; clear hb26)
          | (go_at_call 19; (with_reducible refine (C27.out _ _ H15_26.out _ H1_26.out).mono ?_); rintro e w27 ⟨rfl, hb27⟩; have hx27 := hx26.trans (hb27.mono hx26.size); have H1_27 := Lib.hid (H1_26.out.below hb27 (Nat.le_refl _)); clear H1_26; have H2_27 := Lib.hid (H2_26.out.below hb27 (Nat.le_refl _)); clear H2_26; clear H15_26; clear hb27)
          | (go_at_call 19; (with_reducible refine (C28.out _ _ H1_27.out _ H2_27.out).mono ?_); rintro e w28 ⟨rfl, hb28⟩; have hx28 := hx27.trans (hb28.mono hx27.size); clear H1_27; clear H2_27; clear hb28)
          | go_in)
        go_ret
        exact ⟨rfl, hx28⟩
      · have E0 := (ec1 zc).1
        have hE : bothE c [] 1 ≠ 0 := by rw [E0]; exact zc
        rw [ea0 za] at OA
        rw [eb0 zb] at OB
        have q1 : (bothE c [] 1 == 0) = false := by simp [hE]
        have q2 : (bothE c [] 1 != 0) = true := by simp [hE]
        generalize bothE c [] 1 = E at OC q1 q2 hE
        replace OA := Lib.hid OA
        replace OB := Lib.hid OB
        replace OC := Lib.hid OC
        clear ha hb hc hE E0 ea0 ea1 eb0 eb1 ec0 ec1
        go_enter Try.func5, Try.ntmps5
        go_wp2_with (first
          | (go_at_call 8; (with_reducible refine (alive_any _).mono ?_); rintro e w0 ⟨rfl, hb0⟩; have z0 := hb0.size)
          | (go_at_call 22; (with_reducible refine (OA.out _ hb0).mono ?_); rintro e w1 ⟨hb1, v1, rfl, _⟩; have hb01 := hb0.trans (hb1.mono z0))
          | (go_at_call 22; (with_reducible refine (OB.out _ hb01).mono ?_); rintro e w2 ⟨hb2, v2, rfl, _⟩; have hb02 := hb01.trans (hb2.mono hb01.size))
          | (go_at_call 22; (with_reducible refine (OC.out _ hb02).mono ?_); rintro e w3 ⟨hb3, v3, rfl, _⟩; have hb03 := hb02.trans (hb3.mono hb02.size))
          | go_in)
        go_ret
        exact ⟨rfl, hb03⟩
    · have E0 := (eb1 zb).1
      have hE : bothE b [] 1 ≠ 0 := by rw [E0]; exact zb
      rw [ea0 za] at OA
      have q1 : (bothE b [] 1 == 0) = false := by simp [hE]
      have q2 : (bothE b [] 1 != 0) = true := by simp [hE]
      generalize bothE b [] 1 = E at OB q1 q2 hE
      generalize bothE c [] 1 = E3 at OC
      replace OA := Lib.hid OA
      replace OB := Lib.hid OB
      replace OC := Lib.hid OC
      clear ha hb hc hE E0 ea0 ea1 eb0 eb1 ec0 ec1
      go_enter Try.func5, Try.ntmps5
      go_wp2_with (first
        | (go_at_call 8; (with_reducible refine (alive_any _).mono ?_); rintro e w0 ⟨rfl, hb0⟩; have z0 := hb0.size)
        | (go_at_call 22; (with_reducible refine (OA.out _ hb0).mono ?_); rintro e w1 ⟨hb1, v1, rfl, _⟩; have hb01 := hb0.trans (hb1.mono z0))
        | (go_at_call 22; (with_reducible refine (OB.out _ hb01).mono ?_); rintro e w2 ⟨hb2, v2, rfl, _⟩; have hb02 := hb01.trans (hb2.mono hb01.size))
        | (go_at_call 22; (with_reducible refine (OC.out _ hb02).mono ?_); rintro e w3 ⟨hb3, v3, rfl, _⟩; have hb03 := hb02.trans (hb3.mono hb02.size))
        | go_in)
      go_ret
      exact ⟨rfl, hb03⟩
  · have E0 := (ea1 za).1
    have hE : bothE a [] 1 ≠ 0 := by rw [E0]; exact za
    have q1 : (bothE a [] 1 == 0) = false := by simp [hE]
    have q2 : (bothE a [] 1 != 0) = true := by simp [hE]
    generalize bothE a [] 1 = E at OA q1 q2 hE
    generalize bothE b [] 1 = E2 at OB
    generalize bothE c [] 1 = E3 at OC
    replace OA := Lib.hid OA
    replace OB := Lib.hid OB
    replace OC := Lib.hid OC
    clear ha hb hc hE E0 ea0 ea1 eb0 eb1 ec0 ec1
    go_enter Try.func5, Try.ntmps5
    go_wp2_with (first
      | (go_at_call 8; (with_reducible refine (alive_any _).mono ?_); rintro e w0 ⟨rfl, hb0⟩; have z0 := hb0.size)
      | (go_at_call 22; (with_reducible refine (OA.out _ hb0).mono ?_); rintro e w1 ⟨hb1, v1, rfl, _⟩; have hb01 := hb0.trans (hb1.mono z0))
      | (go_at_call 22; (with_reducible refine (OB.out _ hb01).mono ?_); rintro e w2 ⟨hb2, v2, rfl, _⟩; have hb02 := hb01.trans (hb2.mono hb01.size))
      | (go_at_call 22; (with_reducible refine (OC.out _ hb02).mono ?_); rintro e w3 ⟨hb3, v3, rfl, _⟩; have hb03 := hb02.trans (hb3.mono hb02.size))
      | go_in)
    go_ret
    exact ⟨rfl, hb03⟩
end Go.Proofs.Ytlklmncjicgbgaa
