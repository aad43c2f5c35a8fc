/-
  XGq: XLisRe.
-/
import Derived.Test.YtkmofpnefjgnkaaGreatGp
import Derived.Test.YtkmofpnefjgnkaaGreatGf
namespace Go.Proofs.YtkmofpnefjgnkaaGreat
open Go.RowKit
set_option linter.unusedVariables false
attribute [local go_sem] vwp vUpon_value vUpon_skip vUpon_enter vUpon_row
set_option linter.unusedSimpArgs false
set_option linter.unusedVariables false
section
set_option linter.unusedSimpArgs false
set_option linter.unusedVariables false
set_option maxHeartbeats 4000000 in
set_option maxRecDepth 100000 in
theorem kbound_any (xs : List St) (v : Value) (w : World) (hl : Row w.heap.size 15 St.enc w v xs) (hw : ∀ s ∈ xs, s.Wf) : Calls Tryz.prog 10 #[v] w (MadePost (bdE xs) (bdL xs) w) := by
  obtain ⟨iR, hr0, hr1, hr2, hr3⟩ := info_parts infoRe
  have CK := rcheck_any xs v w hl hw
  unfold bdE bdL
  by_cases hc : chkL xs = 0
  · rw [if_pos hc, if_pos hc]
    rw [hc] at CK
    have SH := fun W (h : Below w.heap.size w W) => kshown_any xs v W ((hl.below h).mono h.size) hw hc
    have hRm := shL_may hc
    have l1 := chk_len hc
    have herr := chk_mem hc
    have hopen := fun h0 => row_st hl h0
    obtain ⟨s0, cap, rfl, hmax⟩ := hl.shape
    obtain ⟨R, hR⟩ : ∃ R, shL xs = R := ⟨_, rfl⟩
    obtain ⟨n, hn⟩ : ∃ n, xs.length = n := ⟨_, rfl⟩
    have hRl : R.length = n := by rw [← hR, shL_len, hn]
    have hAm : MayL (allP xs R) := allP_may (by rw [← hR]; exact hRm)
    have hAl := allP_len xs R
    rw [hR] at SH hRm ⊢
    have OF := fun v W h => kof_any (allP xs R) v W h (fun q hq => may_wf (hAm q hq))
    obtain ⟨E, hE⟩ : ∃ E, bothE (allP xs R) [] 1 = E := ⟨_, rfl⟩
    obtain ⟨L, hL⟩ : ∃ E, bothL (allP xs R) [] 1 = E := ⟨_, rfl⟩
    rw [hE, hL] at OF ⊢
    rw [hn] at hopen l1 hAl SH CK ⊢
    replace CK := Lib.hid CK
    replace SH := Lib.hid SH
    replace OF := Lib.hid OF
    replace hopen := Lib.hid hopen
    replace hn := Lib.hid hn
    replace hRl := Lib.hid hRl
    replace hRm := Lib.hid hRm
    replace herr := Lib.hid herr
    replace hw := Lib.hid hw
    replace hAl := Lib.hid hAl
    replace hR := Lib.hid hR
    clear hl hc hE hL hAm hmax
    go_enter Tryz.func10, Tryz.ntmps10
    go_wp2_with (first
      | (go_at_call 12; (with_reducible refine (CK.out).mono ?_); rintro e w1 ⟨rfl, hb1⟩)
      | (go_at_call 24; (with_reducible refine (SH.out _ hb1).mono ?_); rintro e w2 ⟨v2, rfl, oR, hb2⟩; obtain ⟨sr, cr, rfl⟩ := own_slice oR; have hw2 := hb1.trans (hb2.mono hb1.size); have oR := Lib.hid oR)
      | go_in)
    have hRo := fun h0 => row_re (oR.out.row (Nat.le_refl _)) h0
    rw [hRl.out] at hRo ⊢
    replace hRo := Lib.hid hRo
    have z2 := hw2.size
    clear hb1 hb2
    go_loopw [6, 7] (fun ov iv wr => ∃ k : Nat, k ≤ n ∧ iv = .int .i64 k ∧ OwnsR w2.heap.size wr ov (allP (xs.take k) (R.take k)) ∧ Below w2.heap.size w2 wr) (fun _ iv _ => n - (intOf iv).toNat)
    case atStart => exact ⟨0, Nat.zero_le _, rfl, World.ownsRow_nil _ _ _ _, Below.refl _ _⟩
    case round =>
      obtain ⟨k, hk, rfl, hown, hbr⟩ := hrel
      have zr := hbr.size
      have hwr := hw2.trans (hbr.mono z2)
      by_cases hkn : k < n
      · obtain ⟨b, p, cap', e, hb, _, _, hel⟩ := hopen.out (by omega)
        simp at e
        obtain ⟨rfl, rfl⟩ := e
        obtain ⟨br, pr, capr, e, hbr', _, _, helr⟩ := hRo.out (by omega)
        simp at e
        obtain ⟨rfl, rfl⟩ := e
        obtain ⟨s, hs⟩ := get_at hn.out hkn
        obtain ⟨q, hq⟩ := get_at hRl.out hkn
        obtain ⟨g0, g1, g2, g3, g4, g5, g6, g7, g8, g9, g10, g11, g12, g13, g14⟩ := hel k s hs
        obtain ⟨r0, r1, r2, r3⟩ := helr k q hq
        have hsn := allP_snoc hs hq
        have hql := hRm.out q (List.mem_of_getElem? hq)
        have hes := herr.out s (List.mem_of_getElem? hs)
        have hqe := shGo_full xs [] k s q hs (by unfold shL at hR; rw [hR.out]; exact hq)
        have PL := fun W => kplaces_any s q W (hw.out s (List.mem_of_getElem? hs)) (err_may hes) hql (err_kind hes (hw.out s (List.mem_of_getElem? hs))) hqe
        have hpl := plc_le s q
        have hAk := allP_len (xs.take k) (R.take k)
        rw [List.length_take, Nat.min_eq_left (by have := hn.out; omega)] at hAk
        obtain ⟨hcr, hfr⟩ := bcell hbr
        obtain ⟨hcw, hfw⟩ := bcell hwr
        have hkk : (k : Int) < n := by omega
        obtain ⟨so, co, rfl⟩ := own_slice hown
        obtain ⟨m, hm⟩ : ∃ m, (allP (xs.take k) (R.take k)).length = m := ⟨_, rfl⟩
        have yb : b < wr.heap.size := by have := hwr.size; omega
        have ybr : br < wr.heap.size := by omega
        have x0 : wr.cell? ⟨b, p + k * 15, none⟩ = some (.int .u8 s.kind) := (hcw b _ hb).trans g0
        rw [hm] at hown hAk ⊢
        replace hown := Lib.hid hown
        replace hm := Lib.hid hm
        replace hsn := Lib.hid hsn
        replace PL := Lib.hid PL
        clear hel helr hs hq hql hes x0
        clear hqe
        have lo := Lib.hid (fun g h => (own_block_lt hown.out g h).2)
        have h2r := hbr
        go_upto_region 9 with fail
        obtain ⟨hc2, hf2⟩ := bcell hw2
        have yb2 : b < w2.heap.size := by omega
        have ybr2 : br < w2.heap.size := by omega
        clear hcr hfr hcw hfw
        refine held_begin (Held w2 0 []) (by kernel_rfl) ⟨Below.drew hbr, by simp; try omega, by simp only [Cells]⟩ (fun hS => ?_)
        (first | (refine' held_do (i := 0) _ (by kernel_rfl) (by kernel_rfl) (by kernel_rfl) _ _ hS _ _; rotate_left 2; (focus (simp only [List.getElem?_toArray, List.getElem?_cons_succ, List.getElem?_cons_zero]; rfl)); (focus exact fun _ _ _ h => h); (focus rfl); (focus (intro w1 hSS R hR; have hc := hSS.2.2; (try simp only [Cells] at hc); obtain ⟨hco, hfo⟩ := bcell hSS.1; go_simp; (try go_bits); exact hR)); simp only [Act.put, List.setIfInBounds_toArray, List.set_cons_zero, List.set_cons_succ]) | (refine' held_pass (i := 0) _ (by kernel_rfl) (by kernel_rfl) (by kernel_rfl) _ _ hS _; rotate_left; (focus (simp only [List.getElem?_toArray, List.getElem?_cons_succ, List.getElem?_cons_zero]; rfl)); (focus exact fun _ _ _ h => h); (focus rfl); simp only [Act.put, List.setIfInBounds_toArray, List.set_cons_zero, List.set_cons_succ]))
        (first | (refine' held_do (i := 1) _ (by kernel_rfl) (by kernel_rfl) (by kernel_rfl) _ _ hS _ _; rotate_left 2; (focus (simp only [List.getElem?_toArray, List.getElem?_cons_succ, List.getElem?_cons_zero]; rfl)); (focus exact fun _ _ _ h => h); (focus rfl); (focus (intro w1 hSS R hR; have hc := hSS.2.2; (try simp only [Cells] at hc); obtain ⟨hco, hfo⟩ := bcell hSS.1; go_simp; (try go_bits); exact hR)); simp only [Act.put, List.setIfInBounds_toArray, List.set_cons_zero, List.set_cons_succ]) | (refine' held_pass (i := 1) _ (by kernel_rfl) (by kernel_rfl) (by kernel_rfl) _ _ hS _; rotate_left; (focus (simp only [List.getElem?_toArray, List.getElem?_cons_succ, List.getElem?_cons_zero]; rfl)); (focus exact fun _ _ _ h => h); (focus rfl); simp only [Act.put, List.setIfInBounds_toArray, List.set_cons_zero, List.set_cons_succ]))
        (first | (refine' held_do (i := 2) _ (by kernel_rfl) (by kernel_rfl) (by kernel_rfl) _ _ hS _ _; rotate_left 2; (focus (simp only [List.getElem?_toArray, List.getElem?_cons_succ, List.getElem?_cons_zero]; rfl)); (focus exact fun _ _ _ h => h); (focus rfl); (focus (intro w1 hSS R hR; have hc := hSS.2.2; (try simp only [Cells] at hc); obtain ⟨hco, hfo⟩ := bcell hSS.1; go_simp; (try go_bits); exact hR)); simp only [Act.put, List.setIfInBounds_toArray, List.set_cons_zero, List.set_cons_succ]) | (refine' held_pass (i := 2) _ (by kernel_rfl) (by kernel_rfl) (by kernel_rfl) _ _ hS _; rotate_left; (focus (simp only [List.getElem?_toArray, List.getElem?_cons_succ, List.getElem?_cons_zero]; rfl)); (focus exact fun _ _ _ h => h); (focus rfl); simp only [Act.put, List.setIfInBounds_toArray, List.set_cons_zero, List.set_cons_succ]))
        (first | (refine' held_do (i := 3) _ (by kernel_rfl) (by kernel_rfl) (by kernel_rfl) _ _ hS _ _; rotate_left 2; (focus (simp only [List.getElem?_toArray, List.getElem?_cons_succ, List.getElem?_cons_zero]; rfl)); (focus exact fun _ _ _ h => h); (focus rfl); (focus (intro w1 hSS R hR; have hc := hSS.2.2; (try simp only [Cells] at hc); obtain ⟨hco, hfo⟩ := bcell hSS.1; go_simp; (try go_bits); exact hR)); simp only [Act.put, List.setIfInBounds_toArray, List.set_cons_zero, List.set_cons_succ]) | (refine' held_pass (i := 3) _ (by kernel_rfl) (by kernel_rfl) (by kernel_rfl) _ _ hS _; rotate_left; (focus (simp only [List.getElem?_toArray, List.getElem?_cons_succ, List.getElem?_cons_zero]; rfl)); (focus exact fun _ _ _ h => h); (focus rfl); simp only [Act.put, List.setIfInBounds_toArray, List.set_cons_zero, List.set_cons_succ]))
        (first | (refine' held_do (i := 4) _ (by kernel_rfl) (by kernel_rfl) (by kernel_rfl) _ _ hS _ _; rotate_left 2; (focus (simp only [List.getElem?_toArray, List.getElem?_cons_succ, List.getElem?_cons_zero]; rfl)); (focus exact fun _ _ _ h => h); (focus rfl); (focus (intro w1 hSS R hR; have hc := hSS.2.2; (try simp only [Cells] at hc); obtain ⟨hco, hfo⟩ := bcell hSS.1; go_simp; (try go_bits); exact hR)); simp only [Act.put, List.setIfInBounds_toArray, List.set_cons_zero, List.set_cons_succ]) | (refine' held_pass (i := 4) _ (by kernel_rfl) (by kernel_rfl) (by kernel_rfl) _ _ hS _; rotate_left; (focus (simp only [List.getElem?_toArray, List.getElem?_cons_succ, List.getElem?_cons_zero]; rfl)); (focus exact fun _ _ _ h => h); (focus rfl); simp only [Act.put, List.setIfInBounds_toArray, List.set_cons_zero, List.set_cons_succ]))
        (first | (refine' held_do (i := 5) _ (by kernel_rfl) (by kernel_rfl) (by kernel_rfl) _ _ hS _ _; rotate_left 2; (focus (simp only [List.getElem?_toArray, List.getElem?_cons_succ, List.getElem?_cons_zero]; rfl)); (focus exact fun _ _ _ h => h); (focus rfl); (focus (intro w1 hSS R hR; have hc := hSS.2.2; (try simp only [Cells] at hc); obtain ⟨hco, hfo⟩ := bcell hSS.1; go_simp; (try go_bits); exact hR)); simp only [Act.put, List.setIfInBounds_toArray, List.set_cons_zero, List.set_cons_succ]) | (refine' held_pass (i := 5) _ (by kernel_rfl) (by kernel_rfl) (by kernel_rfl) _ _ hS _; rotate_left; (focus (simp only [List.getElem?_toArray, List.getElem?_cons_succ, List.getElem?_cons_zero]; rfl)); (focus exact fun _ _ _ h => h); (focus rfl); simp only [Act.put, List.setIfInBounds_toArray, List.set_cons_zero, List.set_cons_succ]))
        (first | (refine' held_do (i := 6) _ (by kernel_rfl) (by kernel_rfl) (by kernel_rfl) _ _ hS _ _; rotate_left 2; (focus (simp only [List.getElem?_toArray, List.getElem?_cons_succ, List.getElem?_cons_zero]; rfl)); (focus exact fun _ _ _ h => h); (focus rfl); (focus (intro w1 hSS R hR; have hc := hSS.2.2; (try simp only [Cells] at hc); obtain ⟨hco, hfo⟩ := bcell hSS.1; go_simp; (try go_bits); exact hR)); simp only [Act.put, List.setIfInBounds_toArray, List.set_cons_zero, List.set_cons_succ]) | (refine' held_pass (i := 6) _ (by kernel_rfl) (by kernel_rfl) (by kernel_rfl) _ _ hS _; rotate_left; (focus (simp only [List.getElem?_toArray, List.getElem?_cons_succ, List.getElem?_cons_zero]; rfl)); (focus exact fun _ _ _ h => h); (focus rfl); simp only [Act.put, List.setIfInBounds_toArray, List.set_cons_zero, List.set_cons_succ]))
        (first | (refine' held_do (i := 7) _ (by kernel_rfl) (by kernel_rfl) (by kernel_rfl) _ _ hS _ _; rotate_left 2; (focus (simp only [List.getElem?_toArray, List.getElem?_cons_succ, List.getElem?_cons_zero]; rfl)); (focus exact fun _ _ _ h => h); (focus rfl); (focus (intro w1 hSS R hR; have hc := hSS.2.2; (try simp only [Cells] at hc); obtain ⟨hco, hfo⟩ := bcell hSS.1; go_simp; (try go_bits); exact hR)); simp only [Act.put, List.setIfInBounds_toArray, List.set_cons_zero, List.set_cons_succ]) | (refine' held_pass (i := 7) _ (by kernel_rfl) (by kernel_rfl) (by kernel_rfl) _ _ hS _; rotate_left; (focus (simp only [List.getElem?_toArray, List.getElem?_cons_succ, List.getElem?_cons_zero]; rfl)); (focus exact fun _ _ _ h => h); (focus rfl); simp only [Act.put, List.setIfInBounds_toArray, List.set_cons_zero, List.set_cons_succ]))
        (first | (refine' held_do (i := 8) _ (by kernel_rfl) (by kernel_rfl) (by kernel_rfl) _ _ hS _ _; rotate_left 2; (focus (simp only [List.getElem?_toArray, List.getElem?_cons_succ, List.getElem?_cons_zero]; rfl)); (focus exact fun _ _ _ h => h); (focus rfl); (focus (intro w1 hSS R hR; have hc := hSS.2.2; (try simp only [Cells] at hc); obtain ⟨hco, hfo⟩ := bcell hSS.1; go_simp; (try go_bits); exact hR)); simp only [Act.put, List.setIfInBounds_toArray, List.set_cons_zero, List.set_cons_succ]) | (refine' held_pass (i := 8) _ (by kernel_rfl) (by kernel_rfl) (by kernel_rfl) _ _ hS _; rotate_left; (focus (simp only [List.getElem?_toArray, List.getElem?_cons_succ, List.getElem?_cons_zero]; rfl)); (focus exact fun _ _ _ h => h); (focus rfl); simp only [Act.put, List.setIfInBounds_toArray, List.set_cons_zero, List.set_cons_succ]))
        (refine' held_one (i := 9) _ (by kernel_rfl) _ _; rotate_left; (focus (simp only [List.getElem?_toArray, List.getElem?_cons_succ, List.getElem?_cons_zero]; rfl)); (focus rfl); intro K hK; go_simp)
        refine (PL.out _).mono ?_
        rintro e w6 ⟨vp, rfl, op, hb6⟩
        have hS6 := hS.below hb6
        have hB6 : Below w2.heap.size w2 w6 := hS6.1
        refine hK _ _ hS6 ?_
        clear hK
        (try simp only [Act.put, List.setIfInBounds_toArray, List.set_cons_zero, List.set_cons_succ])
        have hown6 := OwnsR.below hown.out (show Below wr.heap.size wr w6 from (Below.refl _ _).drew.trans (hb6.mono (by simp))) (Nat.le_refl _)
        unfold OwnsR at hown6
        rw [hm.out] at hown6
        have z6 := hB6.size
        (refine' held_one (i := 10) _ (by kernel_rfl) _ _; rotate_left; (focus (simp only [List.getElem?_toArray, List.getElem?_cons_succ, List.getElem?_cons_zero]; rfl)); (focus rfl); intro K hK)
        refine wp_append_row _ _ _ rfl w2.heap.size 44 iR _ 4 32 Tryz.underlying25 hr0 hr1 hr2 hr3 rfl (by omega) w6 _ _ _ (by rfl) hown6 Re.enc_len Re.enc_one w6.heap.size _ (plcL s q) (op.row (Nat.le_refl _)) (by rfl) (by unfold maxLen; omega) (by omega) (by omega) ?_
        intro v7 w7 hown7 hgr7
        have hB7 : Below w2.heap.size w2 w7 := hB6.grown hgr7 (by omega) (fun g h => (own_in hown6 g h).1)
        have hown7 : OwnsR w2.heap.size w7 v7 (allP (xs.take (k + 1)) (R.take (k + 1))) := by
          unfold OwnsR
          rw [hsn.out, List.length_append, List.flatMap_append, hm.out]
          exact hown7
        have hS7 := held_grown hS6 hgr7 (fun p hp => by simp at hp) hB7
        refine hK _ _ hS7 ?_
        clear hK
        (try simp only [Act.put, List.setIfInBounds_toArray, List.set_cons_zero, List.set_cons_succ])
        replace hown7 := Lib.hid hown7
        (refine' held_one (i := 11) _ (by kernel_rfl) _ _; rotate_left; (focus (simp only [List.getElem?_toArray, List.getElem?_cons_succ, List.getElem?_cons_zero]; rfl)); (focus rfl); intro K hK; go_simp)
        refine hK _ _ hS7 ?_
        clear hK
        (try simp only [Act.put, List.setIfInBounds_toArray, List.set_cons_zero, List.set_cons_succ])
        refine wpAnyH_done (by kernel_rfl) ?_ _
        clear hgr7 hown6
        go_wp2
        go_roundw
        case rel => exact ⟨k + 1, by omega, by go_num, hown7.out, hB7⟩
        case measure => simp [intOf]; omega
      · obtain rfl : k = n := by omega
        rw [List.take_of_length_le (by have := hn.out; omega), List.take_of_length_le (by have := hRl.out; omega)] at hown
        replace hown := Lib.hid hown
        go_wp2_with (first
          | (go_at_call 29; (with_reducible refine (OF.out _ _ (hown.out.row (Nat.le_refl _))).mono ?_); rintro e w8 ⟨hb8, v8, rfl, hc8⟩)
          | go_in)
        go_ret2
        exact ⟨hwr.trans (hb8.mono hwr.size), _, rfl, own_less hc8 hwr.size⟩
  · rw [if_neg hc, if_neg hc]
    have h0' : (chkL xs == 0) = false := by simp [hc]
    have h0n : (chkL xs != 0) = true := by simp [hc]
    generalize chkL xs = E at *
    replace CK := Lib.hid CK
    clear hl hw hc
    go_enter Tryz.func10, Tryz.ntmps10
    go_wp2_with (first
      | (go_at_call 12; (with_reducible refine (CK.out).mono ?_); rintro e w1 ⟨rfl, hb1⟩)
      | go_in)
    go_ret2
    exact ⟨hb1, _, rfl, World.ownsRow_nil _ _ _ _⟩
end
end Go.Proofs.YtkmofpnefjgnkaaGreat
