/-
  The walk of TopDamaged.
-/
import Derived.ChangeOld
import Derived.LaidMore
import Derived.Lay
import Derived.Lib.LaidU8T
import Derived.OpenShut
import Derived.ProofKit
import Derived.SevenTiedAt
import Derived.ShutString
import Derived.SizedLaws
import Derived.Stop.Joined
import Derived.Test.YtfcphagmjijmkaaGreatDoorCards
import Derived.Test.YtfcphagmjijmkaaGreatDoorChecked
import Derived.Test.YtfcphagmjijmkaaGreatDoorRows
import Derived.Test.YtfcphagmjijmkaaGreatDoorTie
import Derived.Test.YtfcphagmjijmkaaGreatDoorDd36
namespace Go.Proofs.YtfcphagmjijmkaaGreatDoor
open Go.RowKit
set_option linter.unusedVariables false
set_option linter.unusedSimpArgs false
attribute [local go_sem] vwp vUpon_value vUpon_skip vUpon_enter vUpon_row
set_option maxHeartbeats 16000000
section
attribute [local go_sem high] neq_cell neq_size
def tdM : St := ⟨1, ⟨0, 0, 2, 1⟩, ⟨0, 0, 0, 255⟩, ⟨0, 0, 0, 0⟩, ⟨#[]⟩, 0⟩
theorem td_none : dmgE [] [] = 0 ∧ dmgL [] [] = [] := ⟨by kernel_rfl, by kernel_rfl⟩
theorem td_one : dmgE [] [tdM] = 0 ∧ (dmgL [] [tdM]).length = 1 := ⟨by kernel_rfl, by kernel_rfl⟩
theorem td_wf : ∀ s ∈ [tdM], s.Wf := by
 intro s hs
 obtain rfl := List.mem_singleton.1 hs; unfold tdM St.Wf Re.Wf Co.Wf I64 U8
 simp
 exact Nat.zero_le _
theorem td_row {u : World} {g : Nat} {cs : List Value} {e : TypeId} (xs : List St) (h : Blk u g cs e) (hc : cs = xs.flatMap St.enc) (hm : xs.length ≤ 9) : Row u.heap.size 15 St.enc u (.slice (some ⟨g, 0, none⟩) xs.length xs.length) xs := by
 subst hc; exact Blk.row St.enc_len h (by rw [← flat_len St.enc_len xs, List.take_length]) lrr (by unfold maxLen; omega) h.lt
theorem td_fits {wd ht : Int} (h1 : 1 ≤ wd) (h2 : wd ≤ 64) (h3 : 1 ≤ ht) (h4 : ht ≤ 64) : fitsS wd ht = true ∧ wd * ht ≤ 4096 := by
 have : wd * ht ≤ 64 * 64 := Int.mul_le_mul h2 h4 (by omega) (by decide); exact ⟨fitsS_true.2 ⟨by omega, by omega, by omega, by omega, by omega⟩, by omega⟩
set_option maxRecDepth 100000 in
theorem walk_TopDamaged (xs : List St) (vx : Value) (ys : List St) (vy : Value) (wd ht : Int) (w : World) (hx : Row w.heap.size 15 St.enc w vx xs) (k1 : ∀ s ∈ xs, s.Wf) (hy : Row w.heap.size 15 St.enc w vy ys) (k2 : ∀ s ∈ ys, s.Wf) (h1 : I64 wd) (h2 : I64 ht) (hD : DigT w) (hE : DecT w) :
  Calls Tryz.prog 3 #[vx, vy, .agg #[.int .i64 (wd), .int .i64 (ht)]] w fun e w' => e = .returned (.bool true) ∧ Below w.heap.size w w' := by
 obtain ⟨s1, cap1, rfl, hmax1⟩ := hx.shape; obtain ⟨s2, cap2, rfl, hmax2⟩ := hy.shape; obtain ⟨n1, en1⟩ := exx (xs.length); obtain ⟨n2, en2⟩ := exx (ys.length); rw [en1] at hx hmax1 ⊢; rw [en2] at hy hmax2 ⊢
 have RX := fun W (h : Below w.heap.size w W) => (hx.below h).mono h.size
 have RY := fun W (h : Below w.heap.size w W) => (hy.below h).mono h.size
 replace RX := hdh RX; replace RY := hdh RY; replace k1 := hdh k1; replace k2 := hdh k2; replace hD := hdh hD; replace hE := hdh hE; clear hx hy hmax1 hmax2 en1 en2
 have OF1 := fun W => dof_any [] [] (.slice none 0 0) (.slice none 0 0) W (Row.empty none (by unfold maxLen; omega)) (Row.empty none (by unfold maxLen; omega)) (fun s hs => by cases hs) (fun s hs => by cases hs)
 rw [td_none.1, td_none.2] at OF1
 have OF2 := fun u W h => dof_any [] [tdM] (.slice none 0 0) u W (Row.empty none (by unfold maxLen; omega)) h (fun s hs => by cases hs) td_wf
 rw [td_one.1] at OF2; have tdl := td_one.2; obtain ⟨T, hT⟩ := exx (dmgL [] [tdM]); rw [hT] at OF2 tdl; replace OF1 := hdh OF1; replace OF2 := hdh OF2; replace tdl := hdh tdl; clear hT
 go_enter Tryz.func3, Tryz.ntmps3
 go_upto_region 1 with fail
 obtain ⟨W, hW⟩ := exx (w.alloc (.cells #[.int .i64 wd, .int .i64 ht] 24)); obtain ⟨b5, hb5⟩ := exx (w.heap.size)
 have B5 : Blk W b5 [.int .i64 wd, .int .i64 ht] 24 := by rw [← hW]; exact Blk.new' hb5.symm
 have hbW : Below w.heap.size w W := by rw [← hW]; exact belt
 rw [hW, hb5]; clear hW hb5
 go_upto_region 2 with (go_at_call 11; (with_reducible refine (OF1.out _).mono ?_); rintro e w1 ⟨hb1, v1, rfl, C1⟩; obtain ⟨s7, c7, hv⟩ := C1.shape; simp only [List.length_nil] at hv; subst hv)
 clear OF1 C1; replace B5 := B5.below hb1 B5.lt; replace hbW := hbW.trans (hb1.mono hbW.size)
 go_upto_region 3 with (go_at_call 11; (with_reducible refine Calls.mono (OF2.out _ _ ?_) ?_); (focus exact td_row [tdM] (Blk.new' rfl) rfl (by simp)); rintro e W2 ⟨hb2, v2, rfl, C2⟩; obtain ⟨s9, c9, hv⟩ := C2.shape; rw [tdl.out] at hv; subst hv)
 have hb12 : Below w1.heap.size w1 W2 := ((Below.refl _ _).alloc lrr _).trans (hb2.mono (by simp)); clear OF2 C2 hb2 hb1; replace B5 := B5.below hb12 B5.lt; replace hbW := hbW.trans (hb12.mono hbW.size); clear hb12
 have CKX := fun W (h : Below W2.heap.size W2 W) => rcheck_any xs (.slice s1 n1 cap1) W (RX.out W (hbW.trans (h.mono hbW.size))) k1.out
 have CKY := fun W (h : Below W2.heap.size W2 W) => rcheck_any ys (.slice s2 n2 cap2) W (RY.out W (hbW.trans (h.mono hbW.size))) k2.out
 obtain ⟨E1, hE1⟩ := exx (chkL xs); obtain ⟨E2, hE2⟩ := exx (chkL ys); rw [hE1] at CKX; rw [hE2] at CKY; replace CKX := hdh CKX; replace CKY := hdh CKY; replace hE1 := hdh hE1; replace hE2 := hdh hE2; have q0 := B5.cell (o := 0) rfl; have q1 := B5.cell (o := 1) rfl; have qy := B5.lt
 go_upto_region 4 with fail
 by_cases c1 : E1 = 0
 ·subst c1
  by_cases c2 : E2 = 0
  ·subst c2
   by_cases d1 : wd < 1
   ·go_wp2_with (first | (go_at_call 12; (with_reducible refine cmm (CKX.out _ (Below.refl _ _)) fun w3 hb3 => ?_); obtain ⟨hcc, hff, z3⟩ := bzz hb3; have y3 : b5 < w3.heap.size := (by omega)) | (go_at_call 12; (with_reducible refine (CKY.out _ hb3).mono ?_); rintro e w4 ⟨rfl, hb4'⟩; have hb4 := hb3.trans (hb4'.mono z3); clear hcc hff; obtain ⟨hcc, hff, z4⟩ := bzz hb4; have y4 : b5 < w4.heap.size := (by omega)))
    go_ret; exact ⟨rfl, hbW.trans (hb4.mono hbW.size)⟩
   ·by_cases d2 : ht < 1
    ·go_wp2_with (first | (go_at_call 12; (with_reducible refine cmm (CKX.out _ (Below.refl _ _)) fun w3 hb3 => ?_); obtain ⟨hcc, hff, z3⟩ := bzz hb3; have y3 : b5 < w3.heap.size := (by omega)) | (go_at_call 12; (with_reducible refine (CKY.out _ hb3).mono ?_); rintro e w4 ⟨rfl, hb4'⟩; have hb4 := hb3.trans (hb4'.mono z3); clear hcc hff; obtain ⟨hcc, hff, z4⟩ := bzz hb4; have y4 : b5 < w4.heap.size := (by omega)))
     go_ret; exact ⟨rfl, hbW.trans (hb4.mono hbW.size)⟩
    ·by_cases d3 : 64 < wd
     ·go_wp2_with (first | (go_at_call 12; (with_reducible refine cmm (CKX.out _ (Below.refl _ _)) fun w3 hb3 => ?_); obtain ⟨hcc, hff, z3⟩ := bzz hb3; have y3 : b5 < w3.heap.size := (by omega)) | (go_at_call 12; (with_reducible refine (CKY.out _ hb3).mono ?_); rintro e w4 ⟨rfl, hb4'⟩; have hb4 := hb3.trans (hb4'.mono z3); clear hcc hff; obtain ⟨hcc, hff, z4⟩ := bzz hb4; have y4 : b5 < w4.heap.size := (by omega)))
      go_ret; exact ⟨rfl, hbW.trans (hb4.mono hbW.size)⟩
     ·by_cases d4 : 64 < ht
      ·go_wp2_with (first | (go_at_call 12; (with_reducible refine cmm (CKX.out _ (Below.refl _ _)) fun w3 hb3 => ?_); obtain ⟨hcc, hff, z3⟩ := bzz hb3; have y3 : b5 < w3.heap.size := (by omega)) | (go_at_call 12; (with_reducible refine (CKY.out _ hb3).mono ?_); rintro e w4 ⟨rfl, hb4'⟩; have hb4 := hb3.trans (hb4'.mono z3); clear hcc hff; obtain ⟨hcc, hff, z4⟩ := bzz hb4; have y4 : b5 < w4.heap.size := (by omega)))
       go_ret; exact ⟨rfl, hbW.trans (hb4.mono hbW.size)⟩
      ·go_upto_region 6 with (first | (go_at_call 12; (with_reducible refine cmm (CKX.out _ (Below.refl _ _)) fun w3 hb3 => ?_); obtain ⟨hcc, hff, z3⟩ := bzz hb3; have y3 : b5 < w3.heap.size := (by omega)) | (go_at_call 12; (with_reducible refine (CKY.out _ hb3).mono ?_); rintro e w4 ⟨rfl, hb4'⟩; have hb4 := hb3.trans (hb4'.mono z3); clear hcc hff; obtain ⟨hcc, hff, z4⟩ := bzz hb4; have y4 : b5 < w4.heap.size := (by omega)))
       clear q0 q1 qy hcc hff CKX CKY hb3 hb4' z3 y3 y4; replace B5 := B5.below hb4 B5.lt; have hw4 := hbW.trans (hb4.mono hbW.size); clear hb4 hbW; obtain ⟨N, rfl⟩ : ∃ N : Nat, wd = N := ⟨wd.toNat, by omega⟩; obtain ⟨hf, hpr⟩ := td_fits (wd := N) (ht := ht) (by omega) (by omega) (by omega) (by omega); have i1 : I64 (N : Int) := ⟨by omega, by omega⟩; have i2 : I64 ht := ⟨by omega, by omega⟩
       have hd : dmgE xs ys = 0 := by unfold dmgE; rw [if_pos hE1.out, hE2.out]
       have hd2 : dmgE xs xs = 0 := by unfold dmgE; rw [if_pos hE1.out, hE1.out]
       obtain ⟨m1, m2⟩ := mend_now hf hd k1.out k2.out; obtain ⟨rm1, rm2⟩ := dmg_may (xs := xs) (ys := ys) k1.out k2.out; have d1 := now_ok hf hE1.out; have d2 := now_ok hf hE2.out; have l1 : (nowC N ht xs).length = (blankC N ht Co.none).length := draw_len d1; have l2 : (nowC N ht ys).length = (blankC N ht Co.none).length := draw_len d2; have lb := blank_len Co.none hf; have bwf := blank_wf N ht; have a1 : chkS N ht (nowC N ht xs) = 0 := draw_chk d1; have a2 : chkS N ht (nowC N ht ys) = 0 := draw_chk d2; have a3 : CeL (nowC N ht ys) := drawC_wf bwf k2.out
       have hout : ∀ k : Nat, hasL (dmgL xs ys) ((k % N : Nat) : Int) ((k / N : Nat) : Int) = false → (nowC N ht xs)[k]? = (nowC N ht ys)[k]? := fun k h => draw_out d1 d2 k1.out k2.out (by rw [Int.toNat_natCast]; exact h)
       have BL := fun W => (show Calls Tryz.prog 13 #[.agg #[.int .i64 (N), .int .i64 (ht)], .agg #[.int .u8 (0), .int .u8 (0), .int .u8 (0), .int .u8 (0)]] W (OutS W.heap.size (blankE N ht) (blankZ N N ht) (blankZ ht N ht) (blankC N ht Co.none) W) from cblank_any N ht Co.none W i1 i2)
       have eb1 : blankE N ht = 0 := if_pos hf
       have eb2 : ∀ z, blankZ z N ht = z := fun z => if_pos hf
       have ed1 : ∀ z, drawZ z N ht (blankC N ht Co.none) xs = z := fun z => if_pos d1
       have ed2 : ∀ z, drawZ z N ht (blankC N ht Co.none) ys = z := fun z => if_pos d2
       have em : ∀ z, mndZ z N ht (nowC N ht xs) ys (dmgL xs ys) = z := fun z => if_pos m1
       have D1 := fun v W hl => cdraw_any glyS glyphs_any N ht (blankC N ht Co.none) v xs (.slice s1 n1 cap1) W i1 i2 hl bwf
       have D2 := fun v W hl => cdraw_any glyS glyphs_any N ht (blankC N ht Co.none) v ys (.slice s2 n2 cap2) W i1 i2 hl bwf
       rw [d1, ed1, ed1] at D1; rw [d2, ed2, ed2] at D2; rw [eb1, eb2, eb2] at BL
       have OFC := fun W h1 h2 => dof_any xs ys (.slice s1 n1 cap1) (.slice s2 n2 cap2) W h1 h2 k1.out k2.out
       rw [hd] at OFC
       have OFS := fun W h1 h2 => dof_any xs xs (.slice s1 n1 cap1) (.slice s1 n1 cap1) W h1 h2 k1.out k1.out
       rw [hd2, dmg_self] at OFS
       have MDC := fun v vq W hl hx hq => dmend_any N ht (nowC N ht xs) v ys (.slice s2 n2 cap2) (dmgL xs ys) vq W i1 i2 hl hx k2.out hq (wf_of_may rm1)
       rw [m1, em, em, m2] at MDC
       have SMC := fun v u W hl hu => csame_any N ht N ht (nowC N ht ys) (nowC N ht ys) v u W hl hu
       rw [samS_iff.2 ⟨rfl, rfl, rfl⟩] at SMC
       have LIC := fun v x y W hl => lie_any (dmgL xs ys) v x y W hl rm1
       have SEC := fun v u W hl hm hD hE => sent_any N ht (nowC N ht xs) (nowC N ht ys) v u W i1 i2 hl hm a1 a2 a3 (by
        have : ((nowC N ht xs).length : Int) = N * ht := by rw [l1]; exact lb
        omega) hD hE
       obtain ⟨B, hB⟩ := exx (blankC N ht Co.none); rw [hB] at BL D1 D2 l1 l2 lb
       have eA : drawC glyS N ht B xs = nowC N ht xs := by rw [← hB]; rfl
       have eN : drawC glyS N ht B ys = nowC N ht ys := by rw [← hB]; rfl
       rw [eA] at D1; rw [eN] at D2; obtain ⟨A, hA⟩ := exx (nowC N ht xs); obtain ⟨M, hM⟩ := exx (nowC N ht ys); rw [hA] at D1 MDC SEC l1 hout; rw [hM] at D2 MDC SMC SEC l2 hout; obtain ⟨R, hR⟩ := exx (dmgL xs ys); rw [hR] at OFC MDC LIC hout; obtain ⟨NB, hNB⟩ := exx (B.length); rw [hNB] at l1 l2 lb
       have hNB4 : NB ≤ 4096 := by omega
       replace BL := hdh BL; replace D1 := hdh D1; replace D2 := hdh D2; replace OFC := hdh OFC; replace OFS := hdh OFS; replace MDC := hdh MDC; replace SMC := hdh SMC; replace LIC := hdh LIC; replace SEC := hdh SEC; replace hout := hdh hout; replace hNB := hdh hNB; replace l1 := hdh l1; replace l2 := hdh l2; replace hw4 := hdh hw4; have lb2 := hdh lb; clear hf hd hd2 m1 m2 rm1 rm2 d1 d2 bwf a1 a2 a3 eb1 eb2 ed1 ed2 em hB eA eN hA hM hR hE1 hE2 lb; have q0a := B5.cell (o := 0) rfl; have q1a := B5.cell (o := 1) rfl; have qya := B5.lt
       go_upto_region 7 with (go_at_call 13; (with_reducible refine (BL.out _).mono ?_); rintro e u6 ⟨hk, v6, rfl, OS⟩; obtain ⟨s10, c10, hv⟩ := own_slice OS; rw [hNB.out] at hv; subst hv)
       clear q0a q1a qya; clear BL; obtain ⟨W6, hW6⟩ := exx (u6.alloc (.cells #[.int .i64 (N : Int), .int .i64 ht, .slice s10 NB c10] 40)); obtain ⟨b12, hb12⟩ := exx (u6.heap.size)
       have B12 : Blk W6 b12 [.int .i64 (N : Int), .int .i64 ht, .slice s10 NB c10] 40 := by rw [← hW6]; exact Blk.new' hb12.symm
       have O12 : OwnsC w4.heap.size W6 (.slice s10 NB c10) B := by rw [← hW6]; exact OS.alloc _
       have h6 : Below w4.heap.size w4 W6 := by rw [← hW6]; exact hk.alloc hk.size _
       rw [hW6, hb12]; clear hW6 hb12 OS hk; have z6 := h6.size; replace B5 := B5.below h6 B5.lt; have hw6 := hdh (hw4.out.trans (h6.mono hw4.out.size)); clear hw4; have DC := hdh (D1.out (.slice s10 NB c10) W6 (O12.row lrr) (RX.out W6 hw6.out) k1.out); have k0a := B12.cell (o := 0) rfl; have k1a := B12.cell (o := 1) rfl; have k2a := B12.cell (o := 2) rfl; have kya := B12.lt
       go_upto_region 8 with (go_at_call 14; (with_reducible refine DC.out.mono ?_); rintro e u7 ⟨hk, v7, rfl, OS⟩; obtain ⟨s12, c12, hv⟩ := own_slice OS; rw [l1.out] at hv; subst hv)
       clear k0a k1a k2a kya; clear DC D1; obtain ⟨W7, hW7⟩ := exx (u7.alloc (.cells #[.int .i64 (N : Int), .int .i64 ht, .slice s12 NB c12] 40)); obtain ⟨b13, hb13⟩ := exx (u7.heap.size)
       have B13 : Blk W7 b13 [.int .i64 (N : Int), .int .i64 ht, .slice s12 NB c12] 40 := by rw [← hW7]; exact Blk.new' hb13.symm
       have O13 : OwnsC W6.heap.size W7 (.slice s12 NB c12) A := by rw [← hW7]; exact OS.alloc _
       have h7 : Below W6.heap.size W6 W7 := by rw [← hW7]; exact hk.alloc hk.size _
       rw [hW7, hb13]; clear hW7 hb13 OS hk; have z7 := h7.size; replace B5 := B5.below h7 B5.lt; replace B12 := B12.below h7 B12.lt; replace O12 := O12.below h7 lrr; have hw7 := hdh (hw6.out.trans (h7.mono hw6.out.size)); clear hw6; have DC := hdh (D2.out (.slice s10 NB c10) W7 (O12.row lrr) (RY.out W7 hw7.out) k2.out); have k0a := B12.cell (o := 0) rfl; have k1a := B12.cell (o := 1) rfl; have k2a := B12.cell (o := 2) rfl; have kya := B12.lt
       go_upto_region 9 with (go_at_call 14; (with_reducible refine DC.out.mono ?_); rintro e u8 ⟨hk, v8, rfl, OS⟩; obtain ⟨s14, c14, hv⟩ := own_slice OS; rw [l2.out] at hv; subst hv)
       clear k0a k1a k2a kya; clear DC D2 O12 B12; obtain ⟨W8, hW8⟩ := exx (u8.alloc (.cells #[.int .i64 (N : Int), .int .i64 ht, .slice s14 NB c14] 40)); obtain ⟨b15, hb15⟩ := exx (u8.heap.size)
       have B15 : Blk W8 b15 [.int .i64 (N : Int), .int .i64 ht, .slice s14 NB c14] 40 := by rw [← hW8]; exact Blk.new' hb15.symm
       have O15 : OwnsC W7.heap.size W8 (.slice s14 NB c14) M := by rw [← hW8]; exact OS.alloc _
       have h8 : Below W7.heap.size W7 W8 := by rw [← hW8]; exact hk.alloc hk.size _
       rw [hW8, hb15]; clear hW8 hb15 OS hk; have z8 := h8.size; replace B5 := B5.below h8 B5.lt; replace B13 := B13.below h8 B13.lt; replace O13 := O13.below h8 lrr; have hw8 := hdh (hw7.out.trans (h8.mono hw7.out.size)); clear hw7; have DC := hdh (OFC.out W8 (RX.out W8 hw8.out) (RY.out W8 hw8.out))
       go_upto_region 10 with (go_at_call 11; (with_reducible refine DC.out.mono ?_); rintro e W9 ⟨h9, v16, rfl, R16⟩)
       clear DC OFC; have z9 := h9.size; replace B5 := B5.below h9 B5.lt; replace B13 := B13.below h9 B13.lt; replace O13 := O13.below h9 lrr; replace B15 := B15.below h9 B15.lt; replace O15 := O15.below h9 lrr; have hw9 := hdh (hw8.out.trans (h9.mono hw8.out.size)); clear hw8; have DC := hdh (MDC.out (.slice s12 NB c12) v16 W9 (O13.row lrr) (RY.out W9 hw9.out) (R16.row lrr)); have k0a := B13.cell (o := 0) rfl; have k1a := B13.cell (o := 1) rfl; have k2a := B13.cell (o := 2) rfl; have kya := B13.lt
       go_upto_region 13 with (go_at_call 15; (with_reducible refine DC.out.mono ?_); rintro e u12 ⟨hk, v12, rfl, OS⟩; obtain ⟨s18, c18, hv⟩ := own_slice OS; rw [l2.out] at hv; subst hv)
       clear k0a k1a k2a kya; clear DC MDC; obtain ⟨W12, hW12⟩ := exx (u12.alloc (.cells #[.int .i64 (N : Int), .int .i64 ht, .slice s18 NB c18] 40)); obtain ⟨b18, hb18⟩ := exx (u12.heap.size)
       have B18 : Blk W12 b18 [.int .i64 (N : Int), .int .i64 ht, .slice s18 NB c18] 40 := by rw [← hW12]; exact Blk.new' hb18.symm
       have O18 : OwnsC W9.heap.size W12 (.slice s18 NB c18) M := by rw [← hW12]; exact OS.alloc _
       have h12 : Below W9.heap.size W9 W12 := by rw [← hW12]; exact hk.alloc hk.size _
       rw [hW12, hb18]; clear hW12 hb18 OS hk; have z12 := h12.size; replace B5 := B5.below h12 B5.lt; replace B13 := B13.below h12 B13.lt; replace O13 := O13.below h12 lrr; replace B15 := B15.below h12 B15.lt; replace O15 := O15.below h12 lrr; replace R16 := R16.below h12 lrr; have hw12 := hdh (hw9.out.trans (h12.mono hw9.out.size)); clear hw9; have DC := hdh (SMC.out (.slice s18 NB c18) (.slice s14 NB c14) W12 (O18.row lrr) (O15.row lrr)); have k0a := B18.cell (o := 0) rfl; have k1a := B18.cell (o := 1) rfl; have k2a := B18.cell (o := 2) rfl; have kya := B18.lt; have k0b := B15.cell (o := 0) rfl; have k1b := B15.cell (o := 1) rfl
       have k2b := B15.cell (o := 2) rfl; have kyb := B15.lt
       go_upto_region 15 with (go_at_call 16; (with_reducible refine cmm DC.out fun W13 h13 => ?_))
       clear k0a k1a k2a kya; clear k0b k1b k2b kyb; clear DC SMC O18 B18; have z13 := h13.size; replace B5 := B5.below h13 B5.lt; replace B13 := B13.below h13 B13.lt; replace O13 := O13.below h13 lrr; replace B15 := B15.below h13 B15.lt; replace O15 := O15.below h13 lrr; replace R16 := R16.below h13 lrr; have hw13 := hdh (hw12.out.trans (h13.mono hw12.out.size)); clear hw12; have DC := hdh (OFS.out W13 (RX.out W13 hw13.out) (RX.out W13 hw13.out))
       go_upto_region 16 with (go_at_call 11; (with_reducible refine DC.out.mono ?_); rintro e W15 ⟨h15, v19, rfl, R19⟩; obtain ⟨s19, c19, hv⟩ := R19.shape; simp only [List.length_nil] at hv; subst hv)
       clear DC OFS R19; have z15 := h15.size; replace B5 := B5.below h15 B5.lt; replace B13 := B13.below h15 B13.lt; replace O13 := O13.below h15 lrr; replace B15 := B15.below h15 B15.lt; replace O15 := O15.below h15 lrr; replace R16 := R16.below h15 lrr; have hw15 := hdh (hw13.out.trans (h15.mono hw13.out.size)); clear hw13; obtain ⟨W0, rfl⟩ : ∃ x, x = W15 := ⟨_, rfl⟩; have k0a := B13.cell (o := 0) rfl; have k1a := B13.cell (o := 1) rfl; have k2a := B13.cell (o := 2) rfl; have kya := B13.lt; have k0b := B15.cell (o := 0) rfl; have k1b := B15.cell (o := 1) rfl; have k2b := B15.cell (o := 2) rfl; have kyb := B15.lt
       have q0c := B5.cell (o := 0) rfl; have q1c := B5.cell (o := 1) rfl; have qyc := B5.lt; have lb3 : (N : Int) * ht = NB := lb2.out.symm
       have hprw : (N : Int) * ht ≤ 4096 := by omega
       go_upto_region 18 with fail
       clear k0a k1a k2a kya; clear k0b k1b k2b kyb; clear q0c q1c qyc; clear lb3 hprw; have RA := hdh (O13.row lrr); have RN := hdh (O15.row lrr); have RR := hdh (R16.row lrr); have SE2 := hdh (fun W (h : Below W0.heap.size W0 W) => SEC.out (.slice s12 NB c12) (.slice s14 NB c14) W ((RA.out.below h).mono h.size) ((RN.out.below h).mono h.size) (hD.out.below (hw15.out.trans (h.mono hw15.out.size)) lrr) (hE.out.below (hw15.out.trans (h.mono hw15.out.size)) lrr)); have hopA := hdh (fun h0 => row_ce RA.out h0); have hopN := hdh (fun h0 => row_ce RN.out h0); rw [l1.out] at hopA; rw [l2.out] at hopN; clear O13 O15 R16 SEC z6 z7 z8 z9 z12 z13 z15 h6 h7 h8 h9 h12 h13 h15
       go_wp2
       go_loopw [20] (fun iv wr => ∃ i : Nat, i ≤ NB ∧ iv = .int .i64 i ∧ Below W0.heap.size W0 wr) (fun iv _ => NB - (intOf iv).toNat)
       case atStart => exact ⟨0, Nat.zero_le _, rfl, Below.refl _ _⟩
       case round =>
        obtain ⟨i, hi, rfl, hbr⟩ := hrel; obtain ⟨wv, rfl⟩ : ∃ x, x = wr := ⟨_, rfl⟩; have zr := hbr.size; have F5 := B5.below hbr B5.lt; have F13 := B13.below hbr B13.lt; have F15 := B15.below hbr B15.lt; have k0a := F13.cell (o := 0) rfl; have k1a := F13.cell (o := 1) rfl; have k2a := F13.cell (o := 2) rfl; have kya := F13.lt; have k0b := F15.cell (o := 0) rfl; have k1b := F15.cell (o := 1) rfl; have k2b := F15.cell (o := 2) rfl; have kyb := F15.lt; have q0c := F5.cell (o := 0) rfl; have q1c := F5.cell (o := 1) rfl; have qyc := F5.lt
        by_cases him : i < NB
        ·have hii : (i : Int) < NB := by omega
         obtain ⟨ga, oa, d1, e1, hga, hca, _, hela⟩ := hopA.out (by omega); obtain ⟨gb, ob, d2, e2, hgb, hcb, _, helb⟩ := hopN.out (by omega); simp only [Value.slice.injEq] at e1 e2; obtain ⟨rfl, _, rfl⟩ := e1; obtain ⟨rfl, _, rfl⟩ := e2; obtain ⟨a, ha1⟩ := get_at l1.out him; obtain ⟨b, hb1⟩ := get_at l2.out him; have Ma := (hela i a ha1).below hbr hga; have Mb := (helb i b hb1).below hbr hgb
         have yga : ga < wv.heap.size := by omega
         have ygb : gb < wv.heap.size := by omega
         have hdf : a.eqb b = false → hasL R ((i : Int) % (N : Int)) ((i : Int) / (N : Int)) = true := fun h => by
          cases hh : hasL R ((i : Int) % (N : Int)) ((i : Int) / (N : Int)) with
          | true => rfl
          | false =>
           have := hout.out i (by rw [Int.natCast_emod, Int.natCast_ediv]; exact hh); rw [ha1, hb1] at this; obtain rfl := Option.some.inj this; rw [Ce.eqb_iff.2 rfl] at h
           cases h
         clear hela helb ha1 hb1
         have hNi : (0 : Int) < N := by omega
         have hNn : ¬ N = 0 := by omega
         have hq0 : 0 ≤ (i : Int) / (N : Int) := Int.ediv_nonneg (by omega) (by omega); have hq1 : (i : Int) / (N : Int) ≤ i := Int.ediv_le_self _ (by omega)
         have LI := fun W (h : Below wv.heap.size wv W) => LIC.out v16 ((i : Int) % (N : Int)) ((i : Int) / (N : Int)) W (((RR.out.below (hbr.trans (h.mono zr)))).mono (Nat.le_trans zr h.size))
         obtain ⟨ra, ⟨a0, a1, a2, a3⟩, ⟨a4, a5, a6, a7⟩, a8, a9⟩ := a; obtain ⟨rb, ⟨b0, b1, b2', b3⟩, ⟨b4, b5', b6, b7⟩, b8, b9⟩ := b; obtain ⟨j0, j1, j2, j3, j4, j5, j6, j7, j8, j9, j10⟩ := Ma; obtain ⟨i0, i1', i2', i3, i4, i5, i6, i7, i8, i9, i10⟩ := Mb; dsimp only at j0 j1 j2 j3 j4 j5 j6 j7 j8 j9 j10 i0 i1' i2' i3 i4 i5 i6 i7 i8 i9 i10
         go_upto_region 21 with fail
         cases heq : Ce.eqb ⟨ra, ⟨a0, a1, a2, a3⟩, ⟨a4, a5, a6, a7⟩, a8, a9⟩ ⟨rb, ⟨b0, b1, b2', b3⟩, ⟨b4, b5', b6, b7⟩, b8, b9⟩
         ·rw [hdf heq] at LI
          replace LI := hdh LI; clear hdf; refine rst (Held wv 0 []) ?_
          repeat (first | (refine' wpSteady_do _ _ _; rotate_left; (focus rfl); (focus (intro w1 hS R hR; have hc := hS.cells; simp only [Cells] at hc; obtain ⟨hco, hfo⟩ := bcell hS.old; go_simp; (try go_bits); first | exact hR _ hS | (go_at_call 17; (with_reducible refine cmm (LI.out _ hS.old) fun w2 hb2 => ?_); exact ⟨_, rfl, hR _ (hS.below hb2)⟩))); simp only [pu]) | (refine spa ?_; simp only [pu]))
          refine wpSteady_nil (fun uA hSA => ?_); obtain ⟨hcA, hbA, hzA, hcoA, hfoA⟩ := hall hSA; clear hSA; simp only [Cells] at hcA; have hbn := hbr.trans (hbA.mono zr); clear hcoA hfoA; go_wp2; go_roundw
          case rel => exact ⟨i + 1, by omega, by go_num, hbn⟩
          case measure => simp [intOf]; omega
         ·clear hdf LI
          refine rst (Held wv 0 []) ?_
          repeat (first | (refine' sdo ?_; simp only [pu]) | (refine spa ?_; simp only [pu]))
          refine wpSteady_nil (fun uA hSA => ?_); obtain ⟨hcA, hbA, hzA, hcoA, hfoA⟩ := hall hSA; clear hSA; simp only [Cells] at hcA; have hbn := hbr.trans (hbA.mono zr); clear hcoA hfoA; go_wp2; go_roundw
          case rel => exact ⟨i + 1, by omega, by go_num, hbn⟩
          case measure => simp [intOf]; omega
        ·obtain rfl : i = NB := by omega
         have hii : ¬ (i : Int) < i := by omega
         have SE3 := hdh (SE2.out wv hbr); clear SE2
         go_wp2_with (go_at_call 18; (with_reducible refine cmm SE3.out fun w9 hb9 => ?_))
         go_ret; have h9 := hw15.out.trans (hbr.mono hw15.out.size); exact ⟨rfl, h9.trans (hb9.mono h9.size)⟩
  ·have c2i : (E2 != 0) = true := by simpa using c2
   go_wp2_with (first | (go_at_call 12; (with_reducible refine cmm (CKX.out _ (Below.refl _ _)) fun w3 hb3 => ?_); obtain ⟨hcc, hff, z3⟩ := bzz hb3; have y3 : b5 < w3.heap.size := (by omega)) | (go_at_call 12; (with_reducible refine (CKY.out _ hb3).mono ?_); rintro e w4 ⟨rfl, hb4'⟩; have hb4 := hb3.trans (hb4'.mono z3); clear hcc hff; obtain ⟨hcc, hff, z4⟩ := bzz hb4; have y4 : b5 < w4.heap.size := (by omega)))
   go_ret; exact ⟨rfl, hbW.trans (hb4.mono hbW.size)⟩
 ·have c1i : (E1 != 0) = true := by simpa using c1
  go_wp2_with (first | (go_at_call 12; (with_reducible refine cmm (CKX.out _ (Below.refl _ _)) fun w3 hb3 => ?_); obtain ⟨hcc, hff, z3⟩ := bzz hb3; have y3 : b5 < w3.heap.size := (by omega)))
  go_ret; exact ⟨rfl, hbW.trans (hb3.mono hbW.size)⟩
end
section
open Go Go.RowKit Go.ChangeShapes Go.WideShapes Go.Deep Go.Joins
section
variable {H : Type} {enc : TypeId × Value → H} {w : World} {base : Nat} {spare : Nat → Bool} {held : Bool}
theorem dec_of_laid {L : List (String × DataW Unit)} {W : World} {D1 D2 : DataW Unit} (h : laidMet Tryz.prog L W) (h3 : ("unicode/utf8.first", D1) ∈ L) (e3 : D1 = Lib.firstData) (h4 : ("unicode/utf8.acceptRanges", D2) ∈ L) (e4 : D2 = Lib.acceptData) : DecT W := by
 subst e3 e4; exact utf8Tabs_of_readsT (ρ := Tryz.lays197_ren) ⟨Tryz.underlying5, by kernel_rfl, by kernel_rfl, by kernel_rfl⟩ ⟨by kernel_rfl, by kernel_rfl, by kernel_rfl, by kernel_rfl, by kernel_rfl, by kernel_rfl, by kernel_rfl⟩ (Lib.laidMet.reads h h3) (Lib.laidMet.reads h h4)
theorem dig_of_laid {L : List (String × DataW Unit)} {W : World} {D : DataW Unit} (h : laidMet Tryz.prog L W) (hm : ("internal/strconv.uint64pow10", D) ∈ L) (hd' : D = Lib.tabData .u64 Lib.pow10Tab) : DigT W := by
 obtain ⟨g, t, cs, fuel, p, hg, ht, hv, hd⟩ := Lib.laidMet.reads h hm
 have hT : (Tryz.prog.globalNamed "internal/strconv.uint64pow10").bind (fun g => (Tryz.prog.globals[g]?).map (·.type)) = some 298 := by kernel_rfl
 rw [hg] at hT; simp only [Option.bind_some] at hT; rw [ht] at hT; obtain rfl := Option.some.inj hT; rw [hd'] at hd; unfold DigT Lib.TabIs; rw [hv, ← Lib.cells_of_tab (n := 20) Tryz.underlying298 Tryz.underlying187 (by kernel_rfl) (by kernel_rfl) hd]
end
end
end Go.Proofs.YtfcphagmjijmkaaGreatDoor
namespace Go.Proofs.YtfcphagmjijmkaaGreatDoor.topDamaged
open Go.ChangeShapes Go.WideShapes Go.ChangeAt Go.RowKit Go.Joins
open Go.ChangeMaps (open_string shut_string)
set_option linter.unusedVariables false
theorem own : ownKnob Tryz.prog.godebug = none := by kernel_rfl
theorem laidOut : laidOutB Tryz.prog = true := by kernel_rfl
set_option maxRecDepth 100000 in
theorem lifted (os : Os) (started : os.Started) (H : Type) (enc : TypeId × Value → H) :
  ReturnsInHanded {} Tryz.checked os 3 .any (fun w args => (Rows.topDamagedSpec.pre enc Tryz.prog Tryz.f3 [] false w args ∧ laidMetH Tryz.prog Rows.topDamagedRow.laid w) ∧ sizedMet enc Tryz.prog Tryz.f3 (OpenSpec.ofChange Rows.topDamagedSpec) false w args) (Rows.topDamagedSpec.post enc Tryz.prog Tryz.f3 false true false false) := by
 refine returnsInHanded_of_change_and (C := Tryz.checked) (X := fun w _ => laidMetH Tryz.prog Rows.topDamagedRow.laid w) (fun _ _ _ hh h => h.of_heap hh) own started (by kernel_rfl) Tryz.func3
  (ChangeSpec.witness_shaped (enc := enc) (C := Tryz.checked) (os := os) (X := fun w _ => laidMetH Tryz.prog Rows.topDamagedRow.laid w) false (World.laidAll Tryz.prog os Rows.topDamagedRow.laid) #[.slice none 0 0, .slice none 0 0, .agg #[.int .i64 0, .int .i64 0]] 8 (World.laidAll_os _ _ _) (World.shaped_of_ZipB (by kernel_rfl) (by kernel_rfl)) (by kernel_rfl) (by kernel_rfl) (by kernel_rfl)
   (by rw [MakeChecks.laidMetH_plain _ _ _ (by kernel_rfl)]; exact laidMet_laidAll _ (by kernel_rfl) (by kernel_rfl))) ?_
 intro W base args ds gs before hval0 hW _ hsz_ hL _
 have hval : ∀ (j : Nat) t v, Tryz.f3.params[j]? = some t → args[j]? = some v → Value.okWide Tryz.prog W .any base t v := hval0; have hW' := hW; obtain ⟨p, q, hA0, hV, rfl, hfz, hnd⟩ := hW; have hA : DataW.TrodAll enc Tryz.prog W 0 (fun _ => true) true Tryz.f3.params.toList args.toList ds p := hA0; rw [Tryz.params3] at hA hval; obtain ⟨v0, vs0, d0, ds0, p0, q0, hargs, rfl, rfl, h0, r0⟩ := trodAll_cons hA; obtain ⟨v1, vs1, d1, ds1, p1, q1, rfl, rfl, rfl, h1, r1⟩ := trodAll_cons r0; obtain ⟨v2, vs2, d2, ds2, p2, q2, rfl, rfl, rfl, h2, r2⟩ := trodAll_cons r1; obtain ⟨rfl, rfl, rfl⟩ := trodAll_nil r2
 obtain rfl : args = #[v0, v1, v2] := by cases args; simp_all
 obtain ⟨rfl, rfl⟩ := trodVars_none hV; have k0 := h0
 have lt0 : ∀ x ∈ p0, x.block < W.heap.size := by obtain ⟨m, hm⟩ := k0; exact DataW.trod_lt m _ _ _ hm
 have k1 := h1
 have lt1 : ∀ x ∈ p1, x.block < W.heap.size := by obtain ⟨m, hm⟩ := k1; exact DataW.trod_lt m _ _ _ hm
 have k2 := h2
 have lt2 : ∀ x ∈ p2, x.block < W.heap.size := by obtain ⟨m, hm⟩ := k2; exact DataW.trod_lt m _ _ _ hm
 obtain ⟨xs, lst_xs, wf_xs⟩ := open_strokes (hval 0 22 v0 rfl rfl) h0; obtain ⟨ys, lst_ys, wf_ys⟩ := open_strokes (hval 1 22 v1 rfl rfl) h1; obtain ⟨c0, c1, y0, y1, n2, rfl, rfl, rfl, hy0, hy1⟩ := open_agg2 Tryz.underlying24 (by kernel_rfl) (by kernel_rfl) (hval 2 24 v2 rfl rfl) h2; obtain ⟨sW, esW, zsW, wf_sW⟩ := DataW.trod_int Tryz.underlying3 hy0; simp at esW; subst esW; obtain ⟨sH, esH, zsH, wf_sH⟩ := DataW.trod_int Tryz.underlying3 hy1; simp at esH; subst esH; clear hy0 hy1; clear hA0 hval0; simp only [List.append_nil] at hW'; have hL2 : laidMet Tryz.prog Rows.topDamagedRow.laid W := hL; have hD : DigT W := dig_of_laid (D := (Rows.laid_internal_strconv_uint64pow10 : DataW Unit)) hL2 (.tail _ (.tail _ (.head _))) (by kernel_rfl)
 have hE : DecT W := dec_of_laid (D1 := (Rows.laid_unicode_utf8_first : DataW Unit)) (D2 := (Rows.laid_unicode_utf8_acceptRanges : DataW Unit)) hL2 (.tail _ (.tail _ (.tail _ (.tail _ (.head _))))) (by kernel_rfl) (.tail _ (.tail _ (.tail _ (.head _)))) (by kernel_rfl)
 refine (walk_TopDamaged xs v0 ys v1 sW sH W lst_xs wf_xs lst_ys wf_ys (i64_of wf_sW) (i64_of wf_sH) hD hE).mono fun e W' ⟨he, bel⟩ => ?_
 subst he; exact ⟨_, rfl, _, _, _, [], _, [], hW', trodAll_mk1 (shut_bool Tryz.underlying4 _), (trodAll_cons_mk (Below.trod laidOut (by kernel_rfl) (of_decide_eq_true (by kernel_rfl)) k0 bel lt0) (trodAll_cons_mk (Below.trod laidOut (by kernel_rfl) (of_decide_eq_true (by kernel_rfl)) k1 bel lt1) (trodAll_cons_mk (Below.trod laidOut (by kernel_rfl) (of_decide_eq_true (by kernel_rfl)) k2 bel lt2) trodAll_mk0))), rfl, bel.frame _, fun h => by cases h⟩
end Go.Proofs.YtfcphagmjijmkaaGreatDoor.topDamaged
namespace Go.Proofs.YtfcphagmjijmkaaGreatDoor.topDamaged
open Go.ChangeShapes Go.WideShapes Go.ChangeAt Go.RowKit
set_option maxRecDepth 100000
theorem fa : (Rows.topDamagedRow.inPlace == Tryz.pinned.checked.prog.inPlace 3) = true := by kernel_rfl
theorem fb : (Rows.topDamagedRow.unfollowed == Tryz.pinned.checked.prog.unfollowed 3) = true := by kernel_rfl
theorem fc : (Rows.topDamagedRow.recurses == Tryz.pinned.checked.prog.recurses 3) = true := by kernel_rfl
theorem fd : (Rows.topDamagedRow.named == Tryz.pinned.checked.prog.varsNamed 3) = true := by kernel_rfl
theorem fe : Tryz.pinned.checked.prog.mayEnter = true := by kernel_rfl
theorem ff : (Rows.topDamagedRow.lifted == Tryz.pinned.checked.prog.liftsFinal) = true := by kernel_rfl
theorem fg : (Tryz.pinned.checked.prog.make == some Rows.topDamagedRow.make) = true := by kernel_rfl
end Go.Proofs.YtfcphagmjijmkaaGreatDoor.topDamaged
