/-
  The walk of the law DamageMended.
-/
import Derived.Test.YtfcphagmjijmkaaGreatDoorProg
import Derived.Test.YtfcphagmjijmkaaGreatDoorDq33
namespace Go.Proofs.YtfcphagmjijmkaaGreatDoor
open Go.RowKit
set_option linter.unusedVariables false
attribute [local go_sem] vwp vUpon_value vUpon_skip vUpon_enter vUpon_row
set_option linter.unusedSimpArgs false
set_option linter.unusedVariables false
theorem size_bd (p m : Int) (h0 : 0 < m) (hm : m ≤ 100) : 0 ≤ (wrap64 (p.tmod m + m)).tmod m ∧ (wrap64 (p.tmod m + m)).tmod m < m := by
  have a := Int.tmod_lt_of_pos p h0
  have b := Int.tmod_lt_of_pos (-p) h0
  rw [Int.neg_tmod] at b
  have e : wrap64 (p.tmod m + m) = p.tmod m + m := by unfold wrap64; omega
  rw [e]
  exact ⟨Int.tmod_nonneg _ (by omega), Int.tmod_lt_of_pos _ h0⟩
theorem abt_may : ∀ (l : List Re) (o : Re), mayR o = true → MayL l → mayR (l.foldl joinR o) = true
  | [], o, h, _ => h
  | q :: l, o, h, hl => abt_may l _ (joinR_may h (hl q (List.mem_cons_self ..))) (fun x hx => hl x (List.mem_cons_of_mem _ hx))
theorem chgL_may {wa ha wb hb : Int} {xs ys : List Ce} : MayL (chgL wa ha xs wb hb ys) := by
  obtain ⟨h1, _⟩ := chgF_ok (wa := wa) (ha := ha) (xs := xs) (wb := wb) (hb := hb) (ys := ys)
  unfold chgL
  split
  · intro q hq
    rw [List.mem_singleton.1 hq]
    exact abt_may _ _ rfl h1
  · exact h1
theorem wfL_may {l : List Re} (h : MayL l) : WfL l := fun q hq => may_wf (h q hq)
theorem fits_small {wd ht : Int} (h1 : 0 ≤ wd) (h2 : wd ≤ 40) (h3 : 0 ≤ ht) (h4 : ht ≤ 30) : fitsS wd ht = true := by
  refine fitsS_true.2 ⟨h1, h3, by omega, by omega, ?_⟩
  have : wd * ht ≤ 40 * 30 := Int.mul_le_mul h2 h4 h3 (by decide)
  omega
set_option maxHeartbeats 16000000 in
set_option maxRecDepth 100000 in
theorem walk_DamageMended (xs : List St) (vx : Value) (ys : List St) (vy : Value) (p q : Int) (w : World) (hx : Row w.heap.size 15 St.enc w vx xs) (k1 : ∀ s ∈ xs, s.Wf) (hy : Row w.heap.size 15 St.enc w vy ys) (k2 : ∀ s ∈ ys, s.Wf) (hp : I64 p) (hq : I64 q) :
  Calls Tryz.prog 9 #[vx, vy, .int .i64 p, .int .i64 q] w fun e w' => e = .returned (.bool true) ∧ Below w.heap.size w w' := by
 obtain ⟨s1, cap1, rfl, hmax1⟩ := hx.shape
 obtain ⟨s2, cap2, rfl, hmax2⟩ := hy.shape
 obtain ⟨n1, en1⟩ : ∃ n, xs.length = n := ⟨_, rfl⟩
 obtain ⟨n2, en2⟩ : ∃ n, ys.length = n := ⟨_, rfl⟩
 rw [en1] at hx hmax1 ⊢
 rw [en2] at hy hmax2 ⊢
 unfold maxLen at hmax1 hmax2
 have RX := fun W (h : Below w.heap.size w W) => (hx.below h).mono h.size
 have RY := fun W (h : Below w.heap.size w W) => (hy.below h).mono h.size
 have CKX := fun W (h : Below w.heap.size w W) => lcheck_any xs (.slice s1 n1 cap1) W (RX W h) k1
 have CKY := fun W (h : Below w.heap.size w W) => lcheck_any ys (.slice s2 n2 cap2) W (RY W h) k2
 replace RX := Lib.hid RX
 replace RY := Lib.hid RY
 replace k1 := Lib.hid k1
 replace k2 := Lib.hid k2
 clear hx hy
 obtain ⟨E1, hE1⟩ : ∃ E, chkL xs = E := ⟨_, rfl⟩
 obtain ⟨E2, hE2⟩ : ∃ E, chkL ys = E := ⟨_, rfl⟩
 rw [hE1] at CKX
 rw [hE2] at CKY
 replace CKX := Lib.hid CKX
 replace CKY := Lib.hid CKY
 replace hE1 := Lib.hid hE1
 replace hE2 := Lib.hid hE2
 have AW := Lib.hid (dalive_any w)
 go_enter Tryz.func9, Tryz.ntmps9
 go_upto_region 4 with (go_at_call 19; (with_reducible refine AW.out.mono ?_); rintro e w1 ⟨rfl, hb1⟩)
 clear AW
 by_cases g1 : 100 < n1
 ·have g1i : (100 : Int) < n1 := by omega
  go_wp2
  go_ret
  exact ⟨rfl, hb1⟩
 ·have g1i : ¬ (100 : Int) < n1 := by omega
  by_cases g2 : 100 < n2
  ·have g2i : (100 : Int) < n2 := by omega
   go_wp2
   go_ret
   exact ⟨rfl, hb1⟩
  ·have g2i : ¬ (100 : Int) < n2 := by omega
   by_cases c1 : E1 = 0
   ·by_cases c2 : E2 = 0
    ·subst c1 c2
     go_upto_region 6 with (first
      | (go_at_call 38; (with_reducible refine (CKX.out _ hb1).mono ?_); rintro e w2 ⟨rfl, hb2⟩; have hb02 := hb1.trans (hb2.mono hb1.size))
      | (go_at_call 38; (with_reducible refine (CKY.out _ hb02).mono ?_); rintro e w3 ⟨rfl, hb3⟩; have hb03 := hb02.trans (hb3.mono hb02.size)))
     clear CKX CKY hb1 hb2 hb3 hb02 g1 g2 g1i g2i
     obtain ⟨a1, a2⟩ := size_bd p 41 (by decide) (by decide)
     obtain ⟨a3, a4⟩ := size_bd q 31 (by decide) (by decide)
     obtain ⟨wd, hwd⟩ : ∃ d, (wrap64 (p.tmod 41 + 41)).tmod 41 = d := ⟨_, rfl⟩
     obtain ⟨ht, hht⟩ : ∃ d, (wrap64 (q.tmod 31 + 31)).tmod 31 = d := ⟨_, rfl⟩
     rw [hwd] at a1 a2
     rw [hht] at a3 a4
     have i1 : I64 wd := ⟨by omega, by omega⟩
     have i2 : I64 ht := ⟨by omega, by omega⟩
     have hf := fits_small a1 (by omega) a3 (by omega)
     have hd : dmgE xs ys = 0 := by unfold dmgE; rw [if_pos hE1.out, hE2.out]
     obtain ⟨m1, m2⟩ := mend_now hf hd k1.out k2.out
     obtain ⟨t1, t2, t3⟩ := chg_in hf (by omega) (by omega) hd k1.out k2.out
     obtain ⟨rm1, rm2⟩ := dmg_may (xs := xs) (ys := ys) k1.out k2.out
     have cm := chgL_may (wa := wd) (ha := ht) (xs := nowC wd ht xs) (wb := wd) (hb := ht) (ys := nowC wd ht ys)
     have d1 := now_ok hf hE1.out
     have d2 := now_ok hf hE2.out
     have l1 : (nowC wd ht xs).length = (blankC wd ht Co.none).length := draw_len d1
     have l2 : (nowC wd ht ys).length = (blankC wd ht Co.none).length := draw_len d2
     have bwf := blank_wf wd ht
     have BL := fun W => (show Calls Tryz.prog 13 #[.agg #[.int .i64 (wd), .int .i64 (ht)], .agg #[.int .u8 (0), .int .u8 (0), .int .u8 (0), .int .u8 (0)]] W (OutS W.heap.size (blankE wd ht) (blankZ wd wd ht) (blankZ ht wd ht) (blankC wd ht Co.none) W) from cblank_any wd ht Co.none W i1 i2)
     have eb1 : blankE wd ht = 0 := if_pos hf
     have eb2 : ∀ z, blankZ z wd ht = z := fun z => if_pos hf
     have ed1 : ∀ z, drawZ z wd ht (blankC wd ht Co.none) xs = z := fun z => if_pos d1
     have ed2 : ∀ z, drawZ z wd ht (blankC wd ht Co.none) ys = z := fun z => if_pos d2
     have em : ∀ z, mndZ z wd ht (nowC wd ht xs) ys (dmgL xs ys) = z := fun z => if_pos m1
     have D1 := fun v W hl => cdraw_any glyS glyphs_any wd ht (blankC wd ht Co.none) v xs (.slice s1 n1 cap1) W i1 i2 hl bwf
     have D2 := fun v W hl => cdraw_any glyS glyphs_any wd ht (blankC wd ht Co.none) v ys (.slice s2 n2 cap2) W i1 i2 hl bwf
     rw [d1, ed1, ed1] at D1
     rw [d2, ed2, ed2] at D2
     rw [eb1, eb2, eb2] at BL
     have OFC := fun W h1 h2 => dof_any xs ys (.slice s1 n1 cap1) (.slice s2 n2 cap2) W h1 h2 k1.out k2.out
     rw [hd] at OFC
     have MDC := fun v vq W hl hx hq => dmend_any wd ht (nowC wd ht xs) v ys (.slice s2 n2 cap2) (dmgL xs ys) vq W i1 i2 hl hx k2.out hq (wfL_may rm1)
     rw [m1, em, em, m2] at MDC
     have CHC := fun v u W hl hu => changed_any wd ht (nowC wd ht xs) v wd ht (nowC wd ht ys) u W i1 i2 i1 i2 hl hu
     rw [t1] at CHC
     have LSC := fun v u W hl hu => less_any (chgL wd ht (nowC wd ht xs) wd ht (nowC wd ht ys)) (dmgL xs ys) v u W hl hu (wfL_may cm) (wfL_may rm1)
     rw [t2, t3] at LSC
     have SMC := fun v u W hl hu => csame_any wd ht wd ht (nowC wd ht ys) (nowC wd ht ys) v u W hl hu
     rw [samS_iff.2 ⟨rfl, rfl, rfl⟩] at SMC
     obtain ⟨B, hB⟩ : ∃ c, blankC wd ht Co.none = c := ⟨_, rfl⟩
     rw [hB] at BL D1 D2 l1 l2
     have eA : drawC glyS wd ht B xs = nowC wd ht xs := by rw [← hB]; rfl
     have eN : drawC glyS wd ht B ys = nowC wd ht ys := by rw [← hB]; rfl
     rw [eA] at D1
     rw [eN] at D2
     obtain ⟨A, hA⟩ : ∃ c, nowC wd ht xs = c := ⟨_, rfl⟩
     obtain ⟨N, hN⟩ : ∃ c, nowC wd ht ys = c := ⟨_, rfl⟩
     rw [hA] at D1 MDC CHC LSC l1
     rw [hN] at D2 MDC CHC LSC SMC l2
     obtain ⟨R, hR⟩ : ∃ c, dmgL xs ys = c := ⟨_, rfl⟩
     rw [hR] at OFC MDC LSC
     obtain ⟨C, hC⟩ : ∃ c, chgL wd ht A wd ht N = c := ⟨_, rfl⟩
     rw [hC] at CHC LSC
     obtain ⟨NB, hNB⟩ : ∃ n, B.length = n := ⟨_, rfl⟩
     rw [hNB] at l1 l2
     replace BL := Lib.hid BL
     replace D1 := Lib.hid D1
     replace D2 := Lib.hid D2
     replace OFC := Lib.hid OFC
     replace MDC := Lib.hid MDC
     replace CHC := Lib.hid CHC
     replace LSC := Lib.hid LSC
     replace SMC := Lib.hid SMC
     replace hNB := Lib.hid hNB
     replace l1 := Lib.hid l1
     replace l2 := Lib.hid l2
     replace hb03 := Lib.hid hb03
     clear a1 a2 a3 a4 i1 i2 hf hd m1 m2 t1 t2 t3 rm1 rm2 cm d1 d2 bwf eb1 eb2 ed1 ed2 em hB eA eN hA hN hR hC hE1 hE2
     go_upto_region 7 with (go_at_call 13; (with_reducible refine (BL.out _).mono ?_); rintro e u6 ⟨hk, v6, rfl, OS⟩; obtain ⟨s10, c10, hv⟩ := own_slice OS; rw [hNB.out] at hv; subst hv)
     clear BL
     obtain ⟨W6, hW6⟩ : ∃ W, u6.alloc (.cells #[.int .i64 wd, .int .i64 ht, .slice s10 NB c10] 40) = W := ⟨_, rfl⟩
     obtain ⟨b10, hb10⟩ : ∃ b, u6.heap.size = b := ⟨_, rfl⟩
     have B10 : Blk W6 b10 [.int .i64 wd, .int .i64 ht, .slice s10 NB c10] 40 := by rw [← hW6]; exact Blk.new' hb10.symm
     have O10 : OwnsC w3.heap.size W6 (.slice s10 NB c10) B := by rw [← hW6]; exact OS.alloc _
     have h6 : Below w3.heap.size w3 W6 := by rw [← hW6]; exact hk.alloc hk.size _
     rw [hW6, hb10]
     clear hW6 hb10 OS hk
     have z6 := h6.size
     have hw6 := Lib.hid (hb03.out.trans (h6.mono hb03.out.size))
     clear hwd hht
     have DC := Lib.hid (D1.out (.slice s10 NB c10) W6 (O10.row (Nat.le_refl _)) (RX.out W6 hw6.out) k1.out)
     have k0a := B10.cell (o := 0) rfl
     have k1a := B10.cell (o := 1) rfl
     have k2a := B10.cell (o := 2) rfl
     have kya := B10.lt
     go_upto_region 8 with (go_at_call 14; (with_reducible refine DC.out.mono ?_); rintro e u7 ⟨hk, v7, rfl, OS⟩; obtain ⟨s12, c12, hv⟩ := own_slice OS; rw [l1.out] at hv; subst hv)
     clear k0a k1a k2a kya
     clear DC D1
     obtain ⟨W7, hW7⟩ : ∃ W, u7.alloc (.cells #[.int .i64 wd, .int .i64 ht, .slice s12 NB c12] 40) = W := ⟨_, rfl⟩
     obtain ⟨b12, hb12⟩ : ∃ b, u7.heap.size = b := ⟨_, rfl⟩
     have B12 : Blk W7 b12 [.int .i64 wd, .int .i64 ht, .slice s12 NB c12] 40 := by rw [← hW7]; exact Blk.new' hb12.symm
     have O12 : OwnsC W6.heap.size W7 (.slice s12 NB c12) A := by rw [← hW7]; exact OS.alloc _
     have h7 : Below W6.heap.size W6 W7 := by rw [← hW7]; exact hk.alloc hk.size _
     rw [hW7, hb12]
     clear hW7 hb12 OS hk
     have z7 := h7.size
     replace B10 := B10.below h7 B10.lt
     replace O10 := O10.below h7 (Nat.le_refl _)
     have hw7 := Lib.hid (hw6.out.trans (h7.mono hw6.out.size))
     clear hw6
     have DC := Lib.hid (D2.out (.slice s10 NB c10) W7 (O10.row (Nat.le_refl _)) (RY.out W7 hw7.out) k2.out)
     have k0a := B10.cell (o := 0) rfl
     have k1a := B10.cell (o := 1) rfl
     have k2a := B10.cell (o := 2) rfl
     have kya := B10.lt
     go_upto_region 9 with (go_at_call 14; (with_reducible refine DC.out.mono ?_); rintro e u8 ⟨hk, v8, rfl, OS⟩; obtain ⟨s14, c14, hv⟩ := own_slice OS; rw [l2.out] at hv; subst hv)
     clear k0a k1a k2a kya
     clear DC D2 O10 B10
     obtain ⟨W8, hW8⟩ : ∃ W, u8.alloc (.cells #[.int .i64 wd, .int .i64 ht, .slice s14 NB c14] 40) = W := ⟨_, rfl⟩
     obtain ⟨b14, hb14⟩ : ∃ b, u8.heap.size = b := ⟨_, rfl⟩
     have B14 : Blk W8 b14 [.int .i64 wd, .int .i64 ht, .slice s14 NB c14] 40 := by rw [← hW8]; exact Blk.new' hb14.symm
     have O14 : OwnsC W7.heap.size W8 (.slice s14 NB c14) N := by rw [← hW8]; exact OS.alloc _
     have h8 : Below W7.heap.size W7 W8 := by rw [← hW8]; exact hk.alloc hk.size _
     rw [hW8, hb14]
     clear hW8 hb14 OS hk
     have z8 := h8.size
     replace B12 := B12.below h8 B12.lt
     replace O12 := O12.below h8 (Nat.le_refl _)
     have hw8 := Lib.hid (hw7.out.trans (h8.mono hw7.out.size))
     clear hw7
     have DC := Lib.hid (OFC.out W8 (RX.out W8 hw8.out) (RY.out W8 hw8.out))
     go_upto_region 12 with (go_at_call 11; (with_reducible refine DC.out.mono ?_); rintro e W9 ⟨h9, v16, rfl, R16⟩)
     clear DC OFC
     have z9 := h9.size
     replace B12 := B12.below h9 B12.lt
     replace O12 := O12.below h9 (Nat.le_refl _)
     replace B14 := B14.below h9 B14.lt
     replace O14 := O14.below h9 (Nat.le_refl _)
     have hw9 := Lib.hid (hw8.out.trans (h9.mono hw8.out.size))
     clear hw8
     have DC := Lib.hid (MDC.out (.slice s12 NB c12) v16 W9 (O12.row (Nat.le_refl _)) (RY.out W9 hw9.out) (R16.row (Nat.le_refl _)))
     have k0a := B12.cell (o := 0) rfl
     have k1a := B12.cell (o := 1) rfl
     have k2a := B12.cell (o := 2) rfl
     have kya := B12.lt
     go_upto_region 13 with (go_at_call 15; (with_reducible refine DC.out.mono ?_); rintro e u12 ⟨hk, v12, rfl, OS⟩; obtain ⟨s18, c18, hv⟩ := own_slice OS; rw [l2.out] at hv; subst hv)
     clear k0a k1a k2a kya
     clear DC MDC
     obtain ⟨W12, hW12⟩ : ∃ W, u12.alloc (.cells #[.int .i64 wd, .int .i64 ht, .slice s18 NB c18] 40) = W := ⟨_, rfl⟩
     obtain ⟨b18, hb18⟩ : ∃ b, u12.heap.size = b := ⟨_, rfl⟩
     have B18 : Blk W12 b18 [.int .i64 wd, .int .i64 ht, .slice s18 NB c18] 40 := by rw [← hW12]; exact Blk.new' hb18.symm
     have O18 : OwnsC W9.heap.size W12 (.slice s18 NB c18) N := by rw [← hW12]; exact OS.alloc _
     have h12 : Below W9.heap.size W9 W12 := by rw [← hW12]; exact hk.alloc hk.size _
     rw [hW12, hb18]
     clear hW12 hb18 OS hk
     have z12 := h12.size
     replace B12 := B12.below h12 B12.lt
     replace O12 := O12.below h12 (Nat.le_refl _)
     replace B14 := B14.below h12 B14.lt
     replace O14 := O14.below h12 (Nat.le_refl _)
     replace R16 := R16.below h12 (Nat.le_refl _)
     have hw12 := Lib.hid (hw9.out.trans (h12.mono hw9.out.size))
     clear hw9
     have DC := Lib.hid (SMC.out (.slice s18 NB c18) (.slice s14 NB c14) W12 (O18.row (Nat.le_refl _)) (O14.row (Nat.le_refl _)))
     have k0a := B18.cell (o := 0) rfl
     have k1a := B18.cell (o := 1) rfl
     have k2a := B18.cell (o := 2) rfl
     have kya := B18.lt
     have k0b := B14.cell (o := 0) rfl
     have k1b := B14.cell (o := 1) rfl
     have k2b := B14.cell (o := 2) rfl
     have kyb := B14.lt
     go_upto_region 15 with (go_at_call 16; (with_reducible refine DC.out.mono ?_); rintro e W13 ⟨rfl, h13⟩)
     clear k0a k1a k2a kya
     clear k0b k1b k2b kyb
     clear DC SMC O18 B18
     have z13 := h13.size
     replace B12 := B12.below h13 B12.lt
     replace O12 := O12.below h13 (Nat.le_refl _)
     replace B14 := B14.below h13 B14.lt
     replace O14 := O14.below h13 (Nat.le_refl _)
     replace R16 := R16.below h13 (Nat.le_refl _)
     have hw13 := Lib.hid (hw12.out.trans (h13.mono hw12.out.size))
     clear hw12
     have DC := Lib.hid (CHC.out (.slice s12 NB c12) (.slice s14 NB c14) W13 (O12.row (Nat.le_refl _)) (O14.row (Nat.le_refl _)))
     have k0a := B12.cell (o := 0) rfl
     have k1a := B12.cell (o := 1) rfl
     have k2a := B12.cell (o := 2) rfl
     have kya := B12.lt
     have k0b := B14.cell (o := 0) rfl
     have k1b := B14.cell (o := 1) rfl
     have k2b := B14.cell (o := 2) rfl
     have kyb := B14.lt
     go_upto_region 18 with (go_at_call 23; (with_reducible refine DC.out.mono ?_); rintro e W15 ⟨h15, v20, rfl, R20⟩)
     clear k0a k1a k2a kya
     clear k0b k1b k2b kyb
     clear DC CHC O12 B12 O14 B14
     have z15 := h15.size
     replace R16 := R16.below h15 (Nat.le_refl _)
     have hw15 := Lib.hid (hw13.out.trans (h15.mono hw13.out.size))
     clear hw13
     have DC := Lib.hid (LSC.out v20 v16 W15 (R20.row (Nat.le_refl _)) (R16.row (Nat.le_refl _)))
     go_upto_region 19 with (go_at_call 39; (with_reducible refine DC.out.mono ?_); rintro e W18 ⟨h18, v22, rfl, R22⟩; obtain ⟨s22, c22, hv⟩ := R22.shape; subst hv)
     clear DC LSC R20 R16 R22
     have hw18 := hw15.out.trans (h18.mono hw15.out.size)
     go_wp2
     go_ret
     exact ⟨rfl, hw18⟩
    ·have c2i : (E2 != 0) = true := by simpa using c2
     subst c1
     go_wp2_with (first
      | (go_at_call 38; (with_reducible refine (CKX.out _ hb1).mono ?_); rintro e w2 ⟨rfl, hb2⟩; have hb02 := hb1.trans (hb2.mono hb1.size))
      | (go_at_call 38; (with_reducible refine (CKY.out _ hb02).mono ?_); rintro e w3 ⟨rfl, hb3⟩; have hb03 := hb02.trans (hb3.mono hb02.size)))
     go_ret
     exact ⟨rfl, hb03⟩
   ·have c1i : (E1 != 0) = true := by simpa using c1
    go_wp2_with (first
     | (go_at_call 38; (with_reducible refine (CKX.out _ hb1).mono ?_); rintro e w2 ⟨rfl, hb2⟩; have hb02 := hb1.trans (hb2.mono hb1.size)))
    go_ret
    exact ⟨rfl, hb02⟩
end Go.Proofs.YtfcphagmjijmkaaGreatDoor
