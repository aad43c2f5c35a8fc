/-
  Damage, the document's answer: the least rectangle about some.
-/
import Derived.ChangeOld
import Derived.LaidMore
import Derived.Lay
import Derived.OpenShut
import Derived.ProofKit
import Derived.SevenTiedAt
import Derived.ShutString
import Derived.Stop.Joined
import Derived.Test.YtfcphagmjijmkaaGreatDoorCards
import Derived.Test.YtfcphagmjijmkaaGreatDoorChecked
import Derived.Test.YtfcphagmjijmkaaGreatDoorRows
import Derived.Test.YtfcphagmjijmkaaGreatDoorTie
import Derived.Test.YtfcphagmjijmkaaGreatDoorDt33
import Derived.Test.YtfcphagmjijmkaaGreatDoorDt35
namespace Go.Proofs.YtfcphagmjijmkaaGreatDoor
open Go.RowKit
set_option linter.unusedVariables false
set_option linter.unusedSimpArgs false
attribute [local go_sem] vwp vUpon_value vUpon_skip vUpon_enter vUpon_row
set_option maxHeartbeats 16000000
set_option maxRecDepth 100000 in
theorem rabout_any (l : List Re) (v : Value) (w : World) (hl : Row w.heap.size 4 Re.enc w v l) (hm : MayL l) (he : ∀ q ∈ l, emptyR q = false) (h0 : 0 < l.length) :
  Calls Tryz.prog 71 #[v] w fun e w' => Below w.heap.size w w' ∧ ∃ v', e = .returned v' ∧ CutR w.heap.size w' v' [abtR l] := by
 obtain ⟨b, o, cap, rfl, hb, hlc, hcm, hel⟩ := row_re hl h0; unfold maxLen at hcm; obtain ⟨n, hn⟩ := exx (l.length); obtain ⟨q0, hq0⟩ := get_at hn (show 0 < n by omega); obtain ⟨g0, g1, g2, g3⟩ := hel 0 q0 hq0; rw [Nat.zero_mul, Nat.add_zero] at g0 g1 g2 g3; have hq0e := he q0 (List.mem_of_getElem? hq0); have hq0m := hm q0 (List.mem_of_getElem? hq0)
 have hfin : (l.drop 1).foldl joinR q0 = abtR l := by
  cases l with
  | nil => simp at h0
  | cons q l =>
   simp at hq0
   subst hq0; unfold abtR; rw [List.foldl_cons, join_none q hq0e]
   rfl
 rw [hn] at hlc h0 ⊢; rw [← hfin]; replace hel := hdh hel; replace hn := hdh hn; replace hm := hdh hm; clear hfin he hl hq0 hq0e; obtain ⟨RES, hRES⟩ := exx ((l.drop 1).foldl joinR q0); rw [hRES]; replace hRES := hdh hRES
 go_enter Tryz.func71, Tryz.ntmps71
 go_upto_region 2 with fail
 obtain ⟨W, hW⟩ := exx (w.alloc (.cells #[.int .i64 q0.x, .int .i64 q0.y, .int .i64 q0.wd, .int .i64 q0.ht] 32)); obtain ⟨b3, hb3⟩ := exx (w.heap.size)
 have B3 : Blk W b3 (Re.enc q0) 32 := by rw [← hW]; exact Blk.new' (cs := Re.enc q0) hb3.symm
 have hbW : Below w.heap.size w W := by rw [← hW]; exact belt
 rw [hW, hb3]; clear hW g0 g1 g2 g3; replace hb3 := hdh hb3
 go_upto_region 3 with fail
 go_loopw [4] (fun i wr => ∃ (k : Nat) (o : Re), 1 ≤ k ∧ k ≤ n ∧ i = .int .i64 k ∧ Blk wr b3 (Re.enc o) 32 ∧ mayR o = true ∧ Hid ((l.drop k).foldl joinR o = RES) ∧ Below w.heap.size w wr) (fun i _ => n - (intOf i).toNat)
 case atStart => exact ⟨1, q0, Nat.le_refl _, by omega, rfl, B3, hq0m, hdh hRES.out, hbW⟩
 case round =>
  obtain ⟨k, o', hk1, hk, rfl, BO, hom, hfo, hbr⟩ := hrel; obtain ⟨wv, rfl⟩ : ∃ x, x = wr := ⟨_, rfl⟩; have zr := hbr.size
  by_cases hkn : k < n
  ·obtain ⟨q, hq⟩ := get_at hn.out hkn
   obtain ⟨g0, g1, g2, g3⟩ := hel.out k q hq; have hqm := hm.out q (List.mem_of_getElem? hq)
   have hkk : (k : Int) < n := by omega
   have J := hdh (fun w => kjoin1_any o' q w (may_wf hom) (may_wf hqm)); have hjm := joinR_may hom hqm
   have hfo' : (l.drop (k + 1)).foldl joinR (joinR o' q) = RES := by have h := hfo.out; rw [drop_get hq, List.foldl_cons] at h; exact h
   replace hfo' := hdh hfo'; replace hjm := hdh hjm; have g0 := (hbr.cell (p := ⟨b, o + k * 4, none⟩) hb).trans g0; have g1 := (hbr.cell (p := ⟨b, o + k * 4 + 1, none⟩) hb).trans g1; have g2 := (hbr.cell (p := ⟨b, o + k * 4 + 2, none⟩) hb).trans g2; have g3 := (hbr.cell (p := ⟨b, o + k * 4 + 3, none⟩) hb).trans g3; have c0 := BO.cell (o := 0) rfl; have c1 := BO.cell (o := 1) rfl; have c2 := BO.cell (o := 2) rfl; have c3 := BO.cell (o := 3) rfl; have y3 := BO.lt
   have yb : b < wv.heap.size := by omega
   clear hq
   go_upto_region 5 with fail
   refine wp_region_steady_then (Held wv 0 []) 6 (by kernel_rfl) (by kernel_rfl) (by decide) (by kernel_rfl) (by kernel_rfl) ⟨belt, (by (try simp) <;> omega), (by first | exact trivial | (simp only [Cells]; go_simp))⟩ ?_; simp only [List.take_succ_cons, List.take_zero]
   repeat (first | (refine' wpSteady_do _ _ _; rotate_left; (focus rfl); (focus (intro w1 hS R hR; have hc := hS.cells; simp only [Cells] at hc; obtain ⟨hco, hfo⟩ := bcell hS.old; go_simp; (try go_bits); first | exact hR _ hS | (go_at_call 122; (with_reducible refine cmm (J.out _) fun w2 hb2 => ?_); exact ⟨_, rfl, hR _ (hS.below hb2)⟩))); simp only [pu]) | (refine spa ?_; simp only [pu]))
   refine wpSteady_nil (fun uA hSA => ?_); obtain ⟨hcA, hbA, hzA, hcoA, hfoA⟩ := hall hSA; clear hSA; simp only [Cells] at hcA; simp only [List.drop_succ_cons, List.drop_zero, List.drop_nil]; have BO6 := BO.below hbA BO.lt; clear c0 c1 c2 c3 g0 g1 g2 g3 hcoA hfoA; have e0 := BO6.cell (o := 0) rfl; have e1 := BO6.cell (o := 1) rfl; have e2 := BO6.cell (o := 2) rfl; have e3 := BO6.cell (o := 3) rfl; have fz := BO6.free; have ys := BO6.lt; go_wp2; have HZ : Blk _ b3 (Re.enc (joinR o' q)) 32 := (((BO6.set 0 (.int .i64 (joinR o' q).x)).set 1 (.int .i64 (joinR o' q).y)).set 2 (.int .i64 (joinR o' q).wd)).set 3 (.int .i64 (joinR o' q).ht)
   have hbr6 := hbr.trans (hbA.mono zr)
   have hbb : w.heap.size ≤ b3 := by have := hb3.out; omega
   exact ⟨⟨k + 1, _, by omega, by omega, by go_num, HZ, hjm.out, hfo', (((hbr6.setCell (p := ⟨b3, 0, none⟩) hbb _).setCell (p := ⟨b3, 1, none⟩) hbb _).setCell (p := ⟨b3, 2, none⟩) hbb _).setCell (p := ⟨b3, 3, none⟩) hbb _⟩, by simp [intOf]; omega⟩
  ·obtain rfl : k = n := by omega
   have e1 : o' = RES := by have h := hfo.out; rw [List.drop_of_length_le (by rw [hn.out]; exact Nat.le_refl _)] at h; exact h
   subst e1
   have hkk : ¬ (k : Int) < k := by omega
   have c0 := BO.cell (o := 0) rfl; have c1 := BO.cell (o := 1) rfl; have c2 := BO.cell (o := 2) rfl; have c3 := BO.cell (o := 3) rfl; go_wp2; go_ret; refine ⟨hbr.alloc zr _, _, rfl, ?_⟩; exact CutR.of (Blk.ownsR (rs := [o']) (show Blk _ _ _ _ from Blk.new' (cs := [.int .i64 o'.x, .int .i64 o'.y, .int .i64 o'.wd, .int .i64 o'.ht]) rfl) rfl zr (by unfold maxLen; omega)) rfl
section
attribute [local go_sem ↓ high] ldG_is slG_is
set_option maxRecDepth 100000 in
theorem kof17_any (xs ys : List St) (v u : Value) (w : World) (hx : Row w.heap.size 15 St.enc w v xs) (hy : Row w.heap.size 15 St.enc w u ys) (k1 : ∀ s ∈ xs, s.Wf) (k2 : ∀ s ∈ ys, s.Wf) : Calls Tryz.prog 27 #[v, u] w (OutDm w.heap.size (dmgE xs ys) (dmgL xs ys) w) := by
 obtain ⟨iR, hr0, hr1, hr2, hr3⟩ := info_parts infoRe; have A1 := hdh (kasked17_any xs ys v u w hx hy k1 k2); have F1 := hdh (fun W (h : Below w.heap.size w W) => kflats_any xs v W ((hx.below h).mono h.size) k1); have F2 := hdh (fun W (h : Below w.heap.size w W) => kflats_any ys u W ((hy.below h).mono h.size) k2); obtain ⟨s1, c1, rfl, m1⟩ := hx.shape; obtain ⟨s2, c2, rfl, m2⟩ := hy.shape; clear hx hy
 by_cases hd : dmgE xs ys = 0
 ·obtain ⟨e1, e2⟩ := dmgE_zero hd
  have hX := flts_ok e1 k1; have hY := flts_ok e2 k2; have eL : dmgL xs ys = tldL (pieA (flts xs) (flts ys)) := if_pos hd; have lX := flts_le e1; have lY := flts_le e2; rw [hd] at A1; rw [hd, eL]; obtain ⟨X, hXe⟩ := exx (flts xs); obtain ⟨Y, hYe⟩ := exx (flts ys); rw [hXe] at F1 hX lX ⊢; rw [hYe] at F2 hY lY ⊢; obtain ⟨ml1, ml2⟩ := mid_le X Y; have hA : pieA X Y = ((midP X Y).1.flatMap pieL) ++ ((midP X Y).2).flatMap pieL := rfl
  have hok : ∀ f ∈ (midP X Y).1 ++ (midP X Y).2, f.Ok := by
   obtain ⟨p, q, h1, h2⟩ := mid_spec X Y
   intro f hf
   rcases List.mem_append.1 hf with hf | hf
   ·exact hX f (by rw [h1]; simp [hf])
   ·exact hY f (by rw [h2]; simp [hf])
  have MID := fun W v u h1 h2 => kmiddles_any X Y v u W h1 h2
  rw [hA]; obtain ⟨M, hM⟩ := exx ((midP X Y).1); obtain ⟨N, hN⟩ := exx ((midP X Y).2); rw [hM, hN] at MID; rw [hM, hN] at hok ⊢; rw [hM] at ml1; rw [hN] at ml2; have hmay := pies_may hok; have hful := pies_full hok; rw [List.flatMap_append] at hmay hful; have lM := pies_le M; have lN := pies_le N
  have hmle : M.length ≤ 16384 := by omega
  have hnle : N.length ≤ 16384 := by omega
  obtain ⟨nM, eM⟩ := exx (M.length); obtain ⟨nN, eN⟩ := exx (N.length); rw [eM] at hmle lM; rw [eN] at hnle lN; replace MID := hdh MID; replace hok := hdh hok; replace eM := hdh eM; replace eN := hdh eN; replace hmay := hdh hmay; replace hful := hdh hful; clear hd e1 e2 hX hY eL hXe hYe hA hM hN ml1 ml2 lX lY k1 k2
  go_enter Tryz.func27, Tryz.ntmps27
  go_upto_region 5 with (first
   | (go_at_call 67; (with_reducible refine cmm A1.out fun w2 hb2 => ?_))
   | (go_at_call 69; (with_reducible refine (F1.out _ hb2).mono ?_); rintro e w3 ⟨hb3, v3, rfl, O3⟩; have hb03 := hb2.trans (hb3.mono hb2.size))
   | (go_at_call 69; (with_reducible refine (F2.out _ hb03).mono ?_); rintro e w4 ⟨hb4, v4, rfl, O4⟩; have hb04 := hb03.trans (hb4.mono hb03.size); have R3 := (O3.below hb4 lrr).row (Nat.le_refl w4.heap.size); have R4 := O4.row (Nat.le_refl w4.heap.size))
   | (go_at_call 68; (with_reducible refine (MID.out _ _ _ R3 R4).mono ?_); rintro e w5 ⟨hb5, v5, u5, rfl, R5, S5⟩)
   | go_in)
  have hb05 := hb04.trans (hb5.mono hb04.size); have z5 := hb05.size; obtain ⟨sv, cv, rfl, _⟩ := R5.shape; obtain ⟨su, cu, rfl, _⟩ := S5.shape; have RM := (R5.below hb5).mono hb5.size; have RN := (S5.below hb5).mono hb5.size; rw [eM.out] at RM ⊢; rw [eN.out] at RN ⊢; replace RM := hdh RM; replace RN := hdh RN; clear A1 F1 F2 MID O3 O4 R3 R4 R5 S5 hb2 hb3 hb4 hb03 hb04 hb5; go_wp2
  go_loopw [9, 10] (fun ov iv wr => ∃ k : Nat, k ≤ nM ∧ iv = .int .i64 k ∧ OwnsR w5.heap.size wr ov ([] ++ (M.take k).flatMap pieL) ∧ Below w5.heap.size w5 wr) (fun _ iv _ => nM - (intOf iv).toNat)
  case atStart => exact ⟨0, Nat.zero_le _, rfl, World.ownsRow_nil _ _ _ _, Below.refl _ _⟩
  case round =>
   obtain ⟨k, hk, rfl, hown, hbr⟩ := hrel; have zr := hbr.size
   by_cases hkn : k < nM
   ·obtain ⟨f, hf⟩ := get_at eM.out hkn
    obtain ⟨bS, oS, cS, e, hbS, _, _, hel⟩ := row_ldG (RM.out.below hbr) zr (by rw [eM.out]; omega); rw [eM.out] at e
    simp at e
    obtain ⟨rfl, rfl⟩ := e; have LD := hel k f hf wr (Below.refl _ _)
    have PIE := fun W => kpieces_any f W (hok.out f (by first | exact List.mem_append_left _ (List.mem_of_getElem? hf) | exact List.mem_append_right _ (List.mem_of_getElem? hf)))
    generalize f.val = VX at LD PIE; have hsn := hdh (pies_snoc hf)
    have hkk : (k : Int) < nM := by omega
    have yS : bS < wr.heap.size := by omega
    have l1 := pies_le (M.take k); have l2 := pie_le (f := f)
    have l3 : (([] : List Re) ++ (M.take k).flatMap pieL).length ≤ 262144 := by rw [List.length_append]; rw [List.length_take] at l1; have := (show ([] : List Re).length ≤ 0 from Nat.le_refl _); omega
    obtain ⟨ln, hln⟩ := exx ((([] : List Re) ++ (M.take k).flatMap pieL).length); obtain ⟨lm, hlm⟩ := exx ((pieL f).length); unfold OwnsR at hown; rw [hln] at hown l3; rw [hlm] at l2; have l2b := pie_le (f := f); obtain ⟨s9, c9, rfl⟩ := own_slice hown; replace hown := hdh hown; replace hln := hdh hln; replace hlm := hdh hlm; replace PIE := hdh PIE; clear hel hf l1
    go_upto_region 10 with (first
     | (go_at_call 70; (with_reducible refine (PIE.out _).mono ?_); rintro e w9 ⟨v9, rfl, O9, hb9⟩; obtain ⟨s10, c10, hv10⟩ := own_slice O9; have R9 := O9.row lrr; rw [hlm.out] at hv10; subst hv10; have z89 := hb9.size)
     | go_in)
    clear LD PIE; have own9 := ownsRow_below hown.out hb9 lrr
    go_wp2_with (first
     | (at_builtin; refine wpList_append_row rfl _ _ _ rfl w5.heap.size 32 iR _ 4 32 Tryz.underlying25 hr0 hr1 hr2 hr3 rfl (by omega) w9 _ _ _ (by rfl) own9 Re.enc_len Re.enc_one w9.heap.size _ (pieL f) R9 (by rfl) (by unfold maxLen; omega) (by omega) (by omega) ?_; intro v6 w6 hown6 hgr6)
     | go_in)
    have hb06 : Below w5.heap.size w5 w6 := (hbr.trans (hb9.mono zr)).grown hgr6 (by omega) (fun g hg => (own9.lt g hg).1)
    have hown6' : OwnsR w5.heap.size w6 v6 (([] : List Re) ++ (M.take (k + 1)).flatMap pieL) := by
     unfold OwnsR; rw [hsn.out, ← List.append_assoc, List.flatMap_append, List.length_append, hln.out]; exact hown6
    replace hown6 := hdh hown6'; clear hown6' hgr6 own9 R9 O9; go_wp2; go_roundw
    case rel => exact ⟨k + 1, by omega, by go_num, hown6.out, hb06⟩
    case measure => simp [intOf]; omega
   ·obtain rfl : k = nM := by omega
    rw [List.take_of_length_le (by rw [eM.out]; exact Nat.le_refl _), List.nil_append] at hown; clear hkn; replace hown := hdh hown; obtain ⟨PM, hPM⟩ := exx (M.flatMap pieL); rw [hPM] at hown lM hmay hful; have hPM2 := hdh hPM; go_wp2; clear hk; obtain ⟨w6, rfl⟩ : ∃ x, x = wr := ⟨_, rfl⟩; have hown6 := hown; have hbr6 := hbr; clear hown hbr zr hPM
    go_loopw [9, 12] (fun ov iv wr => ∃ k : Nat, k ≤ nN ∧ iv = .int .i64 k ∧ OwnsR w5.heap.size wr ov (PM ++ (N.take k).flatMap pieL) ∧ Below w5.heap.size w5 wr) (fun _ iv _ => nN - (intOf iv).toNat)
    case atStart => exact ⟨0, Nat.zero_le _, rfl, by rw [List.take_zero, List.flatMap_nil, List.append_nil]; exact hown6.out, hbr6⟩
    case round =>
     clear hown6 hbr6; obtain ⟨k, hk, rfl, hown, hbr⟩ := hrel; have zr := hbr.size
     by_cases hkn : k < nN
     ·obtain ⟨f, hf⟩ := get_at eN.out hkn
      obtain ⟨bS, oS, cS, e, hbS, _, _, hel⟩ := row_ldG (RN.out.below hbr) zr (by rw [eN.out]; omega); rw [eN.out] at e
      simp at e
      obtain ⟨rfl, rfl⟩ := e; have LD := hel k f hf wr (Below.refl _ _)
      have PIE := fun W => kpieces_any f W (hok.out f (by first | exact List.mem_append_left _ (List.mem_of_getElem? hf) | exact List.mem_append_right _ (List.mem_of_getElem? hf)))
      generalize f.val = VX at LD PIE; have hsn := hdh (pies_snoc hf)
      have hkk : (k : Int) < nN := by omega
      have yS : bS < wr.heap.size := by omega
      have l1 := pies_le (N.take k); have l2 := pie_le (f := f)
      have l3 : (PM ++ (N.take k).flatMap pieL).length ≤ 262144 := by rw [List.length_append]; rw [List.length_take] at l1; have := lM; omega
      obtain ⟨ln, hln⟩ := exx ((PM ++ (N.take k).flatMap pieL).length); obtain ⟨lm, hlm⟩ := exx ((pieL f).length); unfold OwnsR at hown; rw [hln] at hown l3; rw [hlm] at l2; have l2b := pie_le (f := f); obtain ⟨s9, c9, rfl⟩ := own_slice hown; replace hown := hdh hown; replace hln := hdh hln; replace hlm := hdh hlm; replace PIE := hdh PIE; clear hel hf l1
      go_upto_region 15 with (first
       | (go_at_call 70; (with_reducible refine (PIE.out _).mono ?_); rintro e w9 ⟨v9, rfl, O9, hb9⟩; obtain ⟨s10, c10, hv10⟩ := own_slice O9; have R9 := O9.row lrr; rw [hlm.out] at hv10; subst hv10; have z89 := hb9.size)
       | go_in)
      clear LD PIE; have own9 := ownsRow_below hown.out hb9 lrr
      go_wp2_with (first
       | (at_builtin; refine wpList_append_row rfl _ _ _ rfl w5.heap.size 32 iR _ 4 32 Tryz.underlying25 hr0 hr1 hr2 hr3 rfl (by omega) w9 _ _ _ (by rfl) own9 Re.enc_len Re.enc_one w9.heap.size _ (pieL f) R9 (by rfl) (by unfold maxLen; omega) (by omega) (by omega) ?_; intro v6 w6 hown6 hgr6)
       | go_in)
      have hb06 : Below w5.heap.size w5 w6 := (hbr.trans (hb9.mono zr)).grown hgr6 (by omega) (fun g hg => (own9.lt g hg).1)
      have hown6' : OwnsR w5.heap.size w6 v6 (PM ++ (N.take (k + 1)).flatMap pieL) := by
       unfold OwnsR; rw [hsn.out, ← List.append_assoc, List.flatMap_append, List.length_append, hln.out]; exact hown6
      replace hown6 := hdh hown6'; clear hown6' hgr6 own9 R9 O9; go_wp2; go_roundw
      case rel => exact ⟨k + 1, by omega, by go_num, hown6.out, hb06⟩
      case measure => simp [intOf]; omega
     ·obtain rfl : k = nN := by omega
      rw [List.take_of_length_le (by rw [eN.out]; exact Nat.le_refl _)] at hown; obtain ⟨A, hA⟩ := exx (PM ++ N.flatMap pieL); rw [hA] at hown hmay hful; obtain ⟨nA, eA⟩ := exx (A.length); obtain ⟨s9, c9, hv9⟩ := own_slice hown; subst hv9; have RA := hown.row (Nat.le_refl wr.heap.size); have hbw := hb05.trans (hbr.mono z5); have hzw := hbw.size
      have AC := fun W (h : Below wr.heap.size wr W) h0 => rabout_any A (.slice s9 A.length c9) W ((RA.below h).mono h.size) hmay.out hful.out h0
      have KO := kof_any A (.slice s9 A.length c9) wr RA (wf_of_may hmay.out)
      have hE : bothE A [] 1 = if A.length > 1024 then 4 else if (formR A [] 1).length > 1024 then 4 else 0 := bothE_of hmay.out
      have T0 : bothE A [] 1 = 0 → tldL A = bothL A [] 1 := fun h => if_pos h
      have T1 : bothE A [] 1 ≠ 0 → tldL A = [abtR A] := fun h => if_neg h
      have hA0 : bothE A [] 1 ≠ 0 → 0 < A.length := fun h => by
       cases hAe : A with
       | nil => rw [hAe] at h; exact absurd (by rw [bothE_of mayL_nil]; rfl) h
       | cons _ _ => simp
      rw [eA] at AC KO hE hA0
      first | rw [eA] | skip
      obtain ⟨EE, hEE⟩ := exx (bothE A [] 1); obtain ⟨LL, hLL⟩ := exx (bothL A [] 1); rw [hEE] at KO hE T0 T1 hA0; rw [hLL] at KO T0; obtain ⟨T, hT⟩ := exx (tldL A); rw [hT] at T0 T1
      have hfin : tldL (M.flatMap pieL ++ N.flatMap pieL) = T := by rw [hPM2.out, hA, hT]
      replace hfin := hdh hfin; clear hPM2; replace KO := hdh KO; replace AC := hdh AC; replace eA := hdh eA; clear hown RA hbr zr hEE hLL hT hA
      by_cases hbig : 1024 < nA
      ·have hbi : (1024 : Int) < nA := by omega
       have hEn : EE ≠ 0 := by rw [hE, if_pos hbig]; decide
       obtain rfl := T1 hEn; have AC2 := hdh (AC.out wr (Below.refl _ _) (hA0 hEn)); clear KO AC hE T0 T1 hA0
       go_wp2_with (first | (go_at_call 71; (with_reducible refine AC2.out.mono ?_); rintro e w10 ⟨hb10, v10, rfl, O10⟩) | go_in)
       go_ret2; exact ⟨hbw.trans (hb10.mono hzw), _, rfl, by rw [hfin.out]; exact O10.less hzw⟩
      ·have hbi : ¬ (1024 : Int) < nA := by omega
       by_cases e0 : EE = 0
       ·subst e0
        obtain rfl := T0 rfl; clear AC hE T1 hA0 T0
        go_wp2_with (first
         | (go_at_call 72; (with_reducible refine KO.out.mono ?_); rintro e w7 ⟨hb7, v7, rfl, O7⟩; obtain ⟨s7, c7, hv7⟩ := own_slice O7; subst hv7)
         | go_in)
        go_ret2; exact ⟨hbw.trans (hb7.mono hzw), _, rfl, by rw [hfin.out]; exact (CutR.own O7 rfl).less hzw⟩
       ·obtain rfl := T1 e0
        have e1 : (EE != 0) = true := by simpa using e0
        have hp := hA0 e0; clear hE T0 T1 hA0
        go_wp2_with (first
         | (go_at_call 72; (with_reducible refine KO.out.mono ?_); rintro e w7 ⟨hb7, v7, rfl, O7⟩; have AC2 := hdh (AC.out w7 hb7 hp); clear O7)
         | (go_at_call 71; (with_reducible refine AC2.out.mono ?_); rintro e w10 ⟨hb10, v10, rfl, O10⟩)
         | go_in)
        go_ret2; exact ⟨(hbw.trans (hb7.mono hzw)).trans (hb10.mono (Nat.le_trans hzw hb7.size)), _, rfl, by rw [hfin.out]; exact O10.less (Nat.le_trans hzw hb7.size)⟩
 ·have eL : dmgL xs ys = [] := if_neg hd
  rw [eL]; obtain ⟨E, hE⟩ := exx (dmgE xs ys); rw [hE] at A1 hd ⊢
  have e1 : (E != 0) = true := by simpa using hd
  clear hE F1 F2 eL
  go_enter Tryz.func27, Tryz.ntmps27
  go_wp2_with (first
   | (go_at_call 67; (with_reducible refine cmm A1.out fun w3 hb3 => ?_))
   | go_in)
  go_ret2; exact ⟨hb3, _, rfl, CutR.nil _ _⟩
end
set_option maxRecDepth 100000 in
theorem dnumsT_same (l : List Int) (v1 v2 : Value) (w : World) (h1 : Row w.heap.size 1 encI w v1 l) (h2 : Row w.heap.size 1 encI w v2 l) : Calls Tryz.prog 30 #[v1, v2] w fun e w' => e = .returned (.bool true) ∧ Below w.heap.size w w' := by
 obtain ⟨s1, c1, rfl, m1⟩ := h1.shape; obtain ⟨s2, c2, rfl, m2⟩ := h2.shape
 have o1 := fun h0 => h1.open_ h0
 have o2 := fun h0 => h2.open_ h0
 obtain ⟨n, hn⟩ := exx (l.length); rw [hn] at o1 o2 m1 ⊢; unfold maxLen at m1; replace o1 := hdh o1; replace o2 := hdh o2; replace hn := hdh hn; clear h1 h2
 go_enter Tryz.func30, Tryz.ntmps30
 go_upto_region 4 with fail
 go_loopw [5] (fun iv wr => ∃ k : Nat, k ≤ n ∧ iv = .int .i64 k ∧ Below w.heap.size w wr) (fun iv _ => n - (intOf iv).toNat)
 case atStart => exact ⟨0, Nat.zero_le _, rfl, Below.refl _ _⟩
 case round =>
  obtain ⟨k, hk, rfl, hbr⟩ := hrel; obtain ⟨wv, rfl⟩ : ∃ u, u = wr := ⟨_, rfl⟩
  by_cases hkn : k < n
  ·have hkk : (k : Int) < n := by omega
   obtain ⟨g1, p1, d1, e1, y1, _, _, x1⟩ := o1.out (by omega); obtain ⟨g2, p2, d2, e2, y2, _, _, x2⟩ := o2.out (by omega); simp only [Value.slice.injEq] at e1 e2; obtain ⟨rfl, _, rfl⟩ := e1; obtain ⟨rfl, _, rfl⟩ := e2; obtain ⟨c, hc⟩ := get_at hn.out hkn; have z1 := (hbr.cell (p := ⟨g1, p1 + k, none⟩) y1).trans (show w.cell? ⟨g1, p1 + k, none⟩ = some (.int .i64 c) from by have h := x1 k c hc 0 _ rfl; rw [Nat.mul_one, Nat.add_zero] at h; exact h); have z2 := (hbr.cell (p := ⟨g2, p2 + k, none⟩) y2).trans (show w.cell? ⟨g2, p2 + k, none⟩ = some (.int .i64 c) from by have h := x2 k c hc 0 _ rfl; rw [Nat.mul_one, Nat.add_zero] at h; exact h)
   have zr := hbr.size
   have ya : g1 < wv.heap.size := by omega
   have yb : g2 < wv.heap.size := by omega
   clear hc x1 x2
   go_upto_region 6 with fail
   refine rst (Held wv 0 []) ?_
   repeat (first | (refine' sdo ?_; simp only [pu]) | (refine spa ?_; simp only [pu]))
   refine wpSteady_nil (fun uA hSA => ?_); obtain ⟨hcA, hbA, hzA, hcoA, hfoA⟩ := hall hSA; clear hSA; simp only [Cells] at hcA; go_wp2; go_roundw
   case rel => exact ⟨k + 1, by omega, by go_num, hbr.trans (hbA.mono zr)⟩
   case measure => simp [intOf]; omega
  ·obtain rfl : k = n := by omega
   have hkk : ¬ (k : Int) < k := by omega
   go_wp2; go_ret; exact ⟨rfl, hbr⟩
theorem CutR.addr {base n cap : Nat} {w : World} {s : Option Addr} {l : List Re} (h : CutR base w (.slice s n cap) l) (h0 : 0 < n) : ∃ g, s = some ⟨g, 0, none⟩ ∧ base ≤ g ∧ g < w.heap.size := by
 rcases h with ⟨e, _⟩ | ⟨g, cap', cur, e, h2, h3, _⟩
 ·injection e with e1 e2 _
  omega
 ·injection e with e1 e2 _
  exact ⟨g, e1, h2, lt_of_block h3⟩
theorem CutR.free {base n cap g : Nat} {w : World} {l : List Re} (h : CutR base w (.slice (some ⟨g, 0, none⟩) n cap) l) (o : Nat) : w.frozen? ⟨g, o, none⟩ = false := by
 rcases h with ⟨e, _⟩ | ⟨g', cap', cur, e, h2, h3, _⟩
 ·cases e
 ·injection e with e1 e2 _
  injection e1 with e1
  injection e1 with e1 _ _
  subst e1
  simp [World.frozen?, h3]
theorem CutR.rmem {base n cap g k : Nat} {w : World} {l : List Re} {q : Re} (h : CutR base w (.slice (some ⟨g, 0, none⟩) n cap) l) (hs : l[k]? = some q) : RMem w g (k * 4) q := by
 obtain ⟨b, o, cap', e, _, _, _, hx⟩ := row_re (h.row lrr) (by have := (List.getElem?_eq_some_iff.1 hs).1; omega)
 injection e with e _ _
 injection e with e
 injection e with e1 e2 _
 subst e1; subst e2; have := hx k q hs
 rwa [Nat.zero_add] at this
theorem CutR.put {base n cap g k i : Nat} {w : World} {l : List Re} {q q' : Re} {u : Value} (h : CutR base w (.slice (some ⟨g, 0, none⟩) n cap) l) (hs : l[k]? = some q) (hi : i < 4) (he : q.enc.set i u = q'.enc) :
  CutR base (w.setCell ⟨g, k * 4 + i, none⟩ u) (.slice (some ⟨g, 0, none⟩) n cap) (l.set k q') := by
 have hk := (List.getElem?_eq_some_iff.1 hs).1
 rcases h with ⟨e, _⟩ | ⟨g', cap', cur, e, h2, h3, h4, h5, h6, h7⟩
 ·cases e
 ·injection e with e1 e2 e3
  injection e1 with e1
  injection e1 with e1 _ _
  subst e1; subst e2; subst e3; refine .inr ⟨g, cap, _, by rw [List.length_set], h2, heap_setCell_same _ _ _ _ _ _ h3, by rw [List.length_set]; exact h4, h5, by simpa using h6, ?_⟩; rw [List.length_set, ← flat_set Re.enc_len i u q q' hi he l k hs, ← h7, Array.toList_setIfInBounds, List.take_set]
theorem CutR.put4 {base g n cap k : Nat} {w : World} {l : List Re} {p : Re} (h : CutR base w (.slice (some ⟨g, 0, none⟩) n cap) l) (hs : l[k]? = some p) (q : Re) :
  CutR base ((((w.setCell ⟨g, k * 4, none⟩ (.int .i64 q.x)).setCell ⟨g, k * 4 + 1, none⟩ (.int .i64 q.y)).setCell ⟨g, k * 4 + 2, none⟩ (.int .i64 q.wd)).setCell ⟨g, k * 4 + 3, none⟩ (.int .i64 q.ht)) (.slice (some ⟨g, 0, none⟩) n cap) (l.set k q) := by
 have hk := (List.getElem?_eq_some_iff.1 hs).1
 have at_ : ∀ r : Re, (l.set k r)[k]? = some r := fun r => by rw [List.getElem?_set_self hk]
 have h1 := h.put (i := 0) (u := .int .i64 q.x) (q' := ⟨q.x, p.y, p.wd, p.ht⟩) hs (by omega) rfl; have h2 := h1.put (i := 1) (u := .int .i64 q.y) (q' := ⟨q.x, q.y, p.wd, p.ht⟩) (at_ _) (by omega) rfl; rw [List.set_set] at h2; have h3 := h2.put (i := 2) (u := .int .i64 q.wd) (q' := ⟨q.x, q.y, q.wd, p.ht⟩) (at_ _) (by omega) rfl; rw [List.set_set] at h3; have h4 := h3.put (i := 3) (u := .int .i64 q.ht) (q' := q) (at_ _) (by omega) rfl; rw [List.set_set] at h4; exact h4
theorem CutR.but {base : Nat} {w w' : World} {v : Value} {l : List Re} {X : Nat → Prop} (h : CutR base w v l) (hk : KeptBut X w w') (hx : ∀ g, v.ownBlock = some g → ¬ X g) : CutR base w' v l := by
 rcases h with h | ⟨g, cap, cur, rfl, h2, h3, h4⟩
 ·exact .inl h
 ·exact .inr ⟨g, cap, cur, rfl, h2, (hk.same g (lt_of_block h3) (hx g rfl)).trans h3, h4⟩
theorem dmg_le (xs ys : List St) : (dmgL xs ys).length ≤ 1024 := by
 unfold dmgL
 split
 ·unfold tldL
  split
  ·unfold bothL
   split
   ·unfold madeL
    split
    ·simp
    ·omega
   ·simp
  ·simp
 ·simp
def AnyR (base : Nat) (w : World) (v : Value) (n : Nat) : Prop := ∃ zs : List Re, zs.length = n ∧ CutR base w v zs
set_option maxRecDepth 100000 in
theorem walk_DamageTwos (xs : List St) (vx : Value) (ys : List St) (vy : Value) (w : World) (hx : Row w.heap.size 15 St.enc w vx xs) (k1 : ∀ s ∈ xs, s.Wf) (hy : Row w.heap.size 15 St.enc w vy ys) (k2 : ∀ s ∈ ys, s.Wf) :
  Calls Tryz.prog 5 #[vx, vy] w fun e w' => e = .returned (.bool true) ∧ Below w.heap.size w w' := by
 obtain ⟨s1, cap1, rfl, hmax1⟩ := hx.shape; obtain ⟨s2, cap2, rfl, hmax2⟩ := hy.shape; obtain ⟨lx, ex⟩ := exx (xs.length); obtain ⟨ly, ey⟩ := exx (ys.length)
 have RS := fun W (h : Below w.heap.size w W) => (hx.below h).mono h.size
 have RT := fun W (h : Below w.heap.size w W) => (hy.below h).mono h.size
 rw [ex] at RS ⊢; rw [ey] at RT ⊢
 have MA := fun W (h : Below w.heap.size w W) => dmuch_any xs (.slice s1 lx cap1) lx W (RS W h) ex
 have MB := fun W (h : Below w.heap.size w W) => dmuch_any ys (.slice s2 ly cap2) ly W (RT W h) ey
 replace RS := hdh RS; replace RT := hdh RT; replace ex := hdh ex; replace ey := hdh ey; replace k1 := hdh k1; replace k2 := hdh k2; clear hx hy hmax1 hmax2; have AW := hdh (fun w => dalive_any w)
 cases g1 : muchB lx
 ·cases g2 : muchB ly
  ·have hlx : lx ≤ 20000 := by
    unfold muchB at g1
    simp at g1
    omega
   have hly : ly ≤ 20000 := by
    unfold muchB at g2
    simp at g2
    omega
   rw [g1] at MA; rw [g2] at MB; replace MA := hdh MA; replace MB := hdh MB; clear g1 g2
   go_enter Tryz.func5, Tryz.ntmps5
   go_upto_region 6 with (first
    | (go_at_call 19; (with_reducible refine cmm (AW.out _) fun w1 hbw1 => ?_))
    | (go_at_call 25; (with_reducible refine cmm (MA.out _ hbw1) fun w2 hb2 => ?_); have hbw2 := hbw1.trans (hb2.mono hbw1.size))
    | (go_at_call 25; (with_reducible refine cmm (MB.out _ hbw2) fun w3 hb3 => ?_); have hbw3 := hbw2.trans (hb3.mono hbw2.size)))
   clear MA MB AW hbw1 hb2 hbw2 hb3; have LN := hdh (dlent_any xs (.slice s1 lx cap1) lx w3 (RS.out w3 hbw3) (by rw [ex.out]; omega) ex.out)
   go_upto_region 7 with (go_at_call 26; (with_reducible refine LN.out.mono ?_); rintro e w4 ⟨g4, c4, rfl, O4, h4⟩)
   clear LN; have hbw4 := hbw3.trans (h4.mono hbw3.size); have LN := hdh (dlent_any ys (.slice s2 ly cap2) ly w4 (RT.out w4 hbw4) (by rw [ey.out]; omega) ey.out)
   go_upto_region 8 with (go_at_call 26; (with_reducible refine LN.out.mono ?_); rintro e w5 ⟨g5, c5, rfl, O5, h5⟩)
   clear LN; have hbw5 := hbw4.trans (h5.mono hbw4.size); replace O4 := Owns.below O4 h5 lrr; have R4 : Row w5.heap.size 15 St.enc w5 (.slice (some ⟨g4, 0, none⟩) (lx + 1) c4) (xs ++ [mkS]) := O4.row lrr; have R5 : Row w5.heap.size 15 St.enc w5 (.slice (some ⟨g5, 0, none⟩) (ly + 1) c5) (ys ++ [mkS]) := O5.row lrr; have R4c : Row w5.heap.size 15 St.enc w5 (.slice (some ⟨g4, 0, none⟩) lx c4) xs := row_cut (ys := [mkS]) (by rw [List.length_append, ex.out]; exact R4) ex.out; have R5c : Row w5.heap.size 15 St.enc w5 (.slice (some ⟨g5, 0, none⟩) ly c5) ys := row_cut (ys := [mkS]) (by rw [List.length_append, ey.out]; exact R5) ey.out
   have OFC := fun W (h : Below w5.heap.size w5 W) => dof_any xs ys (.slice (some ⟨g4, 0, none⟩) lx c4) (.slice (some ⟨g5, 0, none⟩) ly c5) W ((R4c.below h).mono h.size) ((R5c.below h).mono h.size) k1.out k2.out
   have NDC := fun W (h : Below w5.heap.size w5 W) => dnodes_any xs ys (.slice (some ⟨g4, 0, none⟩) lx c4) (.slice (some ⟨g5, 0, none⟩) ly c5) W ((R4c.below h).mono h.size) ((R5c.below h).mono h.size) k1.out k2.out
   have ROC := fun W (h : Below w.heap.size w W) => kof17_any xs ys (.slice s1 lx cap1) (.slice s2 ly cap2) W (RS.out W h) (RT.out W h) k1.out k2.out
   have RNC := fun W (h : Below w.heap.size w W) => knodes_any xs ys (.slice s1 lx cap1) (.slice s2 ly cap2) W (RS.out W h) (RT.out W h) k1.out k2.out
   have KP := fun W (h : Below w5.heap.size w5 W) => dkept_any xs g4 c4 lx (.slice s1 lx cap1) W ((R4.below h).mono h.size) (RS.out W (hbw5.trans (h.mono hbw5.size))) (by rw [ex.out]; omega) ex.out
   have KQ := fun W (h : Below w5.heap.size w5 W) => dkept_any ys g5 c5 ly (.slice s2 ly cap2) W ((R5.below h).mono h.size) (RT.out W (hbw5.trans (h.mono hbw5.size))) (by rw [ey.out]; omega) ey.out
   have hle := dmg_le xs ys; obtain ⟨E, hE⟩ := exx (dmgE xs ys); obtain ⟨R, hR⟩ := exx (dmgL xs ys); obtain ⟨N, hN⟩ := exx (nodN xs ys); rw [hE, hR] at OFC ROC; rw [hE, hN] at NDC RNC; rw [hR] at hle; clear hE hR hN R4 R5 R4c R5c O4 O5 h4 h5 hbw4 RS RT k1 k2; replace OFC := hdh OFC; replace NDC := hdh NDC; replace ROC := hdh ROC; replace RNC := hdh RNC; replace KP := hdh KP; replace KQ := hdh KQ; replace hbw5 := hdh hbw5; obtain ⟨r, er⟩ := exx (R.length)
   have hrb : r ≤ 1024 := by omega
   go_upto_region 9 with (go_at_call 11; (with_reducible refine (OFC.out _ (Below.refl _ _)).mono ?_); rintro e w6 ⟨h6, v6, rfl, C6⟩; obtain ⟨s6, c6, hv⟩ := C6.shape; rw [er] at hv; subst hv; have b6 := fun g hg => (C6.block g hg).2)
   go_upto_region 10 with (go_at_call 21; (with_reducible refine (NDC.out _ h6).mono ?_); rintro e w7 ⟨h7, v7, rfl, O7⟩)
   replace C6 := C6.below h7 lrr; have h57 := h6.trans (h7.mono h6.size)
   go_upto_region 11 with (go_at_call 11; (with_reducible refine (OFC.out _ h57).mono ?_); rintro e w8 ⟨h8, v8, rfl, C8⟩; obtain ⟨s8, c8, hv⟩ := C8.shape; rw [er] at hv; subst hv)
   clear OFC NDC; replace C6 := C6.below h8 lrr; replace O7 := OwnsI.below O7 h8 lrr; have h58 := h57.trans (h8.mono h57.size)
   go_upto_region 12 with (go_at_call 27; (with_reducible refine (ROC.out _ (hbw5.out.trans (h58.mono hbw5.out.size))).mono ?_); rintro e w9 ⟨h9, v9, rfl, C9⟩; obtain ⟨s9, c9, hv⟩ := C9.shape; rw [er] at hv; subst hv)
   replace C6 := C6.below h9 lrr; replace O7 := OwnsI.below O7 h9 lrr; replace C8 := C8.below h9 lrr; have h59 := h58.trans (h9.mono h58.size)
   go_upto_region 13 with (go_at_call 28; (with_reducible refine (RNC.out _ (hbw5.out.trans (h59.mono hbw5.out.size))).mono ?_); rintro e w10 ⟨h10, v10, rfl, O10⟩)
   clear ROC RNC; replace C6 := C6.below h10 lrr; replace O7 := OwnsI.below O7 h10 lrr; replace C8 := C8.below h10 lrr; replace C9 := C9.below h10 lrr; have h510 := h59.trans (h10.mono h59.size); have S1 := sameR_any R R (.slice s6 r c6) (.slice s9 r c9) w10 (C6.row lrr) (C9.row lrr) (by omega) (by omega); rw [eqRs_iff.2 rfl] at S1
   have N1 := fun W (h : Below w10.heap.size w10 W) => dnumsT_same N v7 v10 W (((O7.row lrr).below h).mono h.size) (((O10.row lrr).below h).mono h.size)
   replace S1 := hdh S1; replace N1 := hdh N1; obtain ⟨s7, c7, hv⟩ := own_slice O7; subst hv; obtain ⟨s10, c10, hv⟩ := own_slice O10; subst hv
   go_upto_region 14 with (first
    | (go_at_call 29; (with_reducible refine cmm S1.out fun w11 h11 => ?_))
    | (go_at_call 30; (with_reducible refine cmm (N1.out _ h11) fun w12 h12 => ?_)))
   clear S1 N1 O7 O10; have h1012 := h11.trans (h12.mono h11.size); replace C6 := C6.below h1012 lrr; replace C8 := C8.below h1012 lrr; replace C9 := C9.below h1012 lrr; have h512 := h510.trans (h1012.mono h510.size); have z12 := h512.size
   have n8 : ∀ g, (Value.slice s8 r c8).ownBlock = some g → ¬ (Value.slice s6 r c6).ownBlock = some g := fun g hg hg' => by
    have a := (C8.block g hg).1; have b := b6 g hg'; have := h7.size; omega
   have n9 : ∀ g, (Value.slice s9 r c9).ownBlock = some g → ¬ (Value.slice s6 r c6).ownBlock = some g := fun g hg hg' => by
    have a := (C9.block g hg).1; have b := b6 g hg'; have := h58.size; have := h57.size; have := h7.size; have := h8.size; omega
   have nX := hdh (fun k (h : (Value.slice s6 r c6).ownBlock = some k) => (C6.block k h).1); have hA0 : AnyR w5.heap.size w12 (.slice s6 r c6) r := ⟨R, er, C6⟩; replace hA0 := hdh hA0; replace C8 := hdh C8; replace C9 := hdh C9; replace n8 := hdh n8; replace n9 := hdh n9; replace h512 := hdh h512; replace er := hdh er; clear C6 b6 h6 h7 h8 h9 h10 h11 h12 h57 h58 h59 h510 h1012; go_wp2
   go_loopw [19] (fun iv wr => ∃ i : Nat, i ≤ r ∧ iv = .int .i64 i ∧ Hid (AnyR w5.heap.size wr (.slice s6 r c6) r) ∧ Hid (KeptBut (fun k => (Value.slice s6 r c6).ownBlock = some k) w12 wr)) (fun iv _ => r - (intOf iv).toNat)
   case atStart => exact ⟨0, Nat.zero_le _, rfl, hA0, hdh (KeptBut.refl _ _)⟩
   case round =>
    clear hA0; obtain ⟨i, hi, rfl, hA, hK⟩ := hrel; obtain ⟨W1, rfl⟩ : ∃ W1, W1 = wr := ⟨_, rfl⟩
    by_cases hin : i < r
    ·have hii : (i : Int) < r := by omega
     obtain ⟨zs, hzs, hC⟩ := hA.out; obtain ⟨g, rfl, _, hgl⟩ := hC.addr (by omega); obtain ⟨q, hq⟩ := get_at hzs hin; obtain ⟨t0, t1, t2, t3⟩ := hC.rmem hq; have hf := hC.free; have hgb : (Value.slice (some ⟨g, 0, none⟩) r c6).ownBlock = some g := rfl; have hP := hC.put4 hq ⟨999, 0, 0, 0⟩
     have hPl : (zs.set i ⟨999, 0, 0, 0⟩).length = r := by rw [List.length_set]; exact hzs
     replace hP := hdh hP; clear hC hq hA; go_wp2; go_roundw
     case rel => exact ⟨i + 1, by omega, by go_num, hdh ⟨_, hPl, hP.out⟩, hdh (by repeat (first | (with_reducible exact hK.out) | (with_reducible refine KeptBut.setCell ?_ _ _ hgb)))⟩
     case measure => simp [intOf]; omega
    ·obtain rfl : i = r := by omega
     have hii : ¬ (i : Int) < i := by omega
     have h51 : Below w5.heap.size w5 W1 := KeptBut.toBelow h512.out hK.out z12 (fun k h1 h2 => by have := nX.out k h2; omega); have D8 := C8.out.but hK.out n8.out; have D9 := C9.out.but hK.out n9.out; have SQ := sameR_any R R (.slice s8 i c8) (.slice s9 i c9) W1 (D8.row lrr) (D9.row lrr) (by omega) (by omega); rw [eqRs_iff.2 rfl] at SQ; replace SQ := hdh SQ; clear hA hK C8 C9 D8 D9 n8 n9 nX h512
     go_wp2_with (first
      | (go_at_call 29; (with_reducible refine cmm SQ.out fun w13 h13 => ?_); have h513 := h51.trans (h13.mono h51.size))
      | (go_at_call 31; (with_reducible refine cmm (KP.out _ h513) fun w14 h14 => ?_); have h514 := h513.trans (h14.mono h513.size))
      | (go_at_call 31; (with_reducible refine cmm (KQ.out _ h514) fun w15 h15 => ?_); have h515 := h514.trans (h15.mono h514.size)))
     go_ret; exact ⟨rfl, hbw5.out.trans (h515.mono hbw5.out.size)⟩
  ·rw [g1] at MA
   rw [g2] at MB; replace MA := hdh MA; replace MB := hdh MB; clear g1 g2
   go_enter Tryz.func5, Tryz.ntmps5
   go_wp2_with (first
    | (go_at_call 19; (with_reducible refine cmm (AW.out _) fun w1 hbw1 => ?_))
    | (go_at_call 25; (with_reducible refine cmm (MA.out _ hbw1) fun w2 hb2 => ?_); have hbw2 := hbw1.trans (hb2.mono hbw1.size))
    | (go_at_call 25; (with_reducible refine cmm (MB.out _ hbw2) fun w3 hb3 => ?_); have hbw3 := hbw2.trans (hb3.mono hbw2.size)))
   go_ret; exact ⟨rfl, hbw3⟩
 ·rw [g1] at MA
  replace MA := hdh MA; clear g1 MB
  go_enter Tryz.func5, Tryz.ntmps5
  go_wp2_with (first
   | (go_at_call 19; (with_reducible refine cmm (AW.out _) fun w1 hbw1 => ?_))
   | (go_at_call 25; (with_reducible refine cmm (MA.out _ hbw1) fun w2 hb2 => ?_); have hbw2 := hbw1.trans (hb2.mono hbw1.size)))
  go_ret; exact ⟨rfl, hbw2⟩
end Go.Proofs.YtfcphagmjijmkaaGreatDoor
namespace Go.Proofs.YtfcphagmjijmkaaGreatDoor.damageTwos
open Go.ChangeShapes Go.WideShapes Go.ChangeAt Go.RowKit Go.Joins
open Go.ChangeMaps (open_string shut_string)
set_option linter.unusedVariables false
theorem own : ownKnob Tryz.prog.godebug = none := by kernel_rfl
theorem laidOut : laidOutB Tryz.prog = true := by kernel_rfl
set_option maxRecDepth 100000 in
theorem lifted (os : Os) (started : os.Started) (H : Type) (enc : TypeId × Value → H) :
  ReturnsInHanded {} Tryz.checked os 5 .any (fun w args => (Rows.damageTwosSpec.pre enc Tryz.prog Tryz.f5 [] false w args ∧ laidMetH Tryz.prog Rows.damageTwosRow.laid w) ∧ sizedMet enc Tryz.prog Tryz.f5 (OpenSpec.ofChange Rows.damageTwosSpec) false w args) (Rows.damageTwosSpec.post enc Tryz.prog Tryz.f5 false true false false) := by
 refine returnsInHanded_of_change_and (C := Tryz.checked) (X := fun w _ => laidMetH Tryz.prog Rows.damageTwosRow.laid w) (fun _ _ _ hh h => h.of_heap hh) own started (by kernel_rfl) Tryz.func5
  (ChangeSpec.witness_shaped (enc := enc) (C := Tryz.checked) (os := os) (X := fun w _ => laidMetH Tryz.prog Rows.damageTwosRow.laid w) false (World.laidAll Tryz.prog os Rows.damageTwosRow.laid) #[.slice none 0 0, .slice none 0 0] 8 (World.laidAll_os _ _ _) (World.shaped_of_ZipB (by kernel_rfl) (by kernel_rfl)) (by kernel_rfl) (by kernel_rfl) (by kernel_rfl)
   (by rw [MakeChecks.laidMetH_plain _ _ _ (by kernel_rfl)]; exact laidMet_laidAll _ (by kernel_rfl) (by kernel_rfl))) ?_
 intro W base args ds gs before hval0 hW _ hsz_ hL _
 have hval : ∀ (j : Nat) t v, Tryz.f5.params[j]? = some t → args[j]? = some v → Value.okWide Tryz.prog W .any base t v := hval0; have hW' := hW; obtain ⟨p, q, hA0, hV, rfl, hfz, hnd⟩ := hW; have hA : DataW.TrodAll enc Tryz.prog W 0 (fun _ => true) true Tryz.f5.params.toList args.toList ds p := hA0; rw [Tryz.params5] at hA hval; obtain ⟨v0, vs0, d0, ds0, p0, q0, hargs, rfl, rfl, h0, r0⟩ := trodAll_cons hA; obtain ⟨v1, vs1, d1, ds1, p1, q1, rfl, rfl, rfl, h1, r1⟩ := trodAll_cons r0; obtain ⟨rfl, rfl, rfl⟩ := trodAll_nil r1
 obtain rfl : args = #[v0, v1] := by cases args; simp_all
 obtain ⟨rfl, rfl⟩ := trodVars_none hV; have k0 := h0
 have lt0 : ∀ x ∈ p0, x.block < W.heap.size := by obtain ⟨m, hm⟩ := k0; exact DataW.trod_lt m _ _ _ hm
 have k1 := h1
 have lt1 : ∀ x ∈ p1, x.block < W.heap.size := by obtain ⟨m, hm⟩ := k1; exact DataW.trod_lt m _ _ _ hm
 obtain ⟨xs, lst_xs, wf_xs⟩ := open_strokes (hval 0 22 v0 rfl rfl) h0; obtain ⟨ys, lst_ys, wf_ys⟩ := open_strokes (hval 1 22 v1 rfl rfl) h1; clear hA0 hval0; simp only [List.append_nil] at hW'
 refine (walk_DamageTwos xs v0 ys v1 W lst_xs wf_xs lst_ys wf_ys).mono fun e W' ⟨he, bel⟩ => ?_
 subst he; exact ⟨_, rfl, _, _, _, [], _, [], hW', trodAll_mk1 (shut_bool Tryz.underlying4 _), (trodAll_cons_mk (Below.trod laidOut (by kernel_rfl) (of_decide_eq_true (by kernel_rfl)) k0 bel lt0) (trodAll_cons_mk (Below.trod laidOut (by kernel_rfl) (of_decide_eq_true (by kernel_rfl)) k1 bel lt1) trodAll_mk0)), rfl, bel.frame _, fun h => by cases h⟩
end Go.Proofs.YtfcphagmjijmkaaGreatDoor.damageTwos
namespace Go.Proofs.YtfcphagmjijmkaaGreatDoor.damageTwos
open Go.ChangeShapes Go.WideShapes Go.ChangeAt Go.RowKit
set_option maxRecDepth 100000
theorem fa : (Rows.damageTwosRow.inPlace == Tryz.pinned.checked.prog.inPlace 5) = true := by kernel_rfl
theorem fb : (Rows.damageTwosRow.unfollowed == Tryz.pinned.checked.prog.unfollowed 5) = true := by kernel_rfl
theorem fc : (Rows.damageTwosRow.recurses == Tryz.pinned.checked.prog.recurses 5) = true := by kernel_rfl
theorem fd : (Rows.damageTwosRow.named == Tryz.pinned.checked.prog.varsNamed 5) = true := by kernel_rfl
theorem fe : Tryz.pinned.checked.prog.mayEnter = true := by kernel_rfl
theorem ff : (Rows.damageTwosRow.lifted == Tryz.pinned.checked.prog.liftsFinal) = true := by kernel_rfl
theorem fg : (Tryz.pinned.checked.prog.make == some Rows.damageTwosRow.make) = true := by kernel_rfl
end Go.Proofs.YtfcphagmjijmkaaGreatDoor.damageTwos
