/-
  Cells: the runs between two screens, by the program.
-/
import Derived.Test.YtfcphagmjijmkaaGreatDoorDd22
namespace Go.Proofs.YtfcphagmjijmkaaGreatDoor
open Go.RowKit
set_option linter.unusedVariables false
set_option linter.unusedSimpArgs false
attribute [local go_sem] vwp vUpon_value vUpon_skip vUpon_enter vUpon_row
set_option maxHeartbeats 16000000
section
attribute [local go_sem high] neq_cell neq_size
set_option maxRecDepth 100000 in
theorem cruns_any (wa ha : Int) (xs : List Ce) (va : Value) (wb hb : Int) (ys : List Ce) (vb : Value) (w : World) (h1 : I64 wa) (h2 : I64 ha) (h3 : I64 wb) (h4 : I64 hb) (hl : Row w.heap.size 11 Ce.enc w va xs) (hl2 : Row w.heap.size 11 Ce.enc w vb ys) :
  Calls Tryz.prog 57 #[.agg #[.int .i64 (wa), .int .i64 (ha), va], .agg #[.int .i64 (wb), .int .i64 (hb), vb]] w (OutR w.heap.size (runsE wa ha xs wb hb ys) (runsL wa ha xs wb hb ys) w) := by
 have C1 := fun w1 (hb : Below w.heap.size w w1) => ccheck_any wa ha xs va w1 h1 h2 ((hl.below hb).mono hb.size)
 have C2 := fun w1 (hb' : Below w.heap.size w w1) => ccheck_any wb hb ys vb w1 h3 h4 ((hl2.below hb').mono hb'.size)
 obtain ⟨iN, ni0, nz0, nz1, nz2⟩ := info_parts infoRn; obtain ⟨s0, cap, rfl, hmax⟩ := hl.shape; obtain ⟨s1, cap1, rfl, hmax1⟩ := hl2.shape; obtain ⟨E, hE⟩ := exx (runsE wa ha xs wb hb ys); obtain ⟨RC, hRC⟩ := exx (runsL wa ha xs wb hb ys); rw [hE, hRC]; unfold runsE at hE; unfold runsL at hRC; obtain ⟨ok, hok⟩ := exx (runsOk wa ha xs wb hb ys); rw [hok] at hE hRC; unfold runsOk at hok; have CS1 := chkS_cases wa ha xs
 have CZ1 : chkS wa ha xs = 0 → _ := fun h => chkS_zero h
 have CS2 := chkS_cases wb hb ys
 have CZ2 : chkS wb hb ys = 0 → _ := fun h => chkS_zero h
 obtain ⟨E1, hE1⟩ := exx (chkS wa ha xs); obtain ⟨E2, hE2⟩ := exx (chkS wb hb ys); rw [hE1] at C1 CS1 CZ1 hok; rw [hE2] at C2 CS2 CZ2 hok; clear hE1 hE2
 have hop := fun h0 => row_ce hl h0
 obtain ⟨n, en⟩ := exx (xs.length); obtain ⟨m, em⟩ := exx (ys.length); have hl2' := hdh hl2; rw [en] at hop C1 hmax ⊢; rw [em] at C2 hl2' hmax1 ⊢; replace hop := hdh hop; clear hl hl2
 go_enter Tryz.func57, Tryz.ntmps57
 go_upto_region 1 with fail
 obtain ⟨W, hW⟩ := exx ((w.alloc (.cells #[.int .i64 wa, .int .i64 ha, .slice s0 n cap] 40)).alloc (.cells #[.int .i64 wb, .int .i64 hb, .slice s1 m cap1] 40))
 have B2 : Blk W w.heap.size [.int .i64 wa, .int .i64 ha, .slice s0 n cap] 40 := by rw [← hW]; exact (Blk.new' rfl).alloc _
 have B3 : Blk W (w.heap.size + 1) [.int .i64 wb, .int .i64 hb, .slice s1 m cap1] 40 := by rw [← hW]; exact Blk.new' (by simp)
 have hbw : Below w.heap.size w W := by rw [← hW]; exact belt
 rw [hW]; clear hW; have yB2 := B2.lt; have yB3 := B3.lt; have q0 := B2.cell (o := 0) rfl; have q1 := B2.cell (o := 1) rfl; have q2 := B2.cell (o := 2) rfl; have p0 := B3.cell (o := 0) rfl; have p1 := B3.cell (o := 1) rfl; have p2 := B3.cell (o := 2) rfl
 have C2' := fun w1 (hb : Below W.heap.size W w1) => C2 w1 (hbw.trans (hb.mono hbw.size))
 replace C1 := hdh (C1 W hbw); replace C2' := hdh C2'; clear C2
 rcases CS1 with e1 | e1
 ·rcases CS2 with e2 | e2
  ·subst e1 e2
   by_cases hsz : wa = wb ∧ ha = hb
   ·obtain ⟨rfl, rfl⟩ := hsz
    have hokT : ok = true := by rw [← hok]; simp
    subst hokT; simp only [if_true] at hE hRC; subst hE; obtain ⟨hfit, hlen, hall⟩ := CZ1 rfl; obtain ⟨_, hlen2, _⟩ := CZ2 rfl; clear CZ1 CZ2 hok; obtain ⟨z0, z1, z2, z3, z4⟩ := fitsS_true.1 hfit; obtain ⟨N, rfl⟩ : ∃ N : Nat, wa = N := ⟨wa.toNat, by omega⟩; obtain ⟨M, rfl⟩ : ∃ M : Nat, ha = M := ⟨ha.toNat, by omega⟩; rw [Int.toNat_natCast, Int.toNat_natCast] at hRC
    have hnm : n = N * M := by
     have h : ((xs.length : Nat) : Int) = ((N * M : Nat) : Int) := by rw [hlen, Int.natCast_mul]
     rw [← en]; exact Int.ofNat.inj h
    have hmn : m = n := by
     have h : ((ys.length : Nat) : Int) = ((xs.length : Nat) : Int) := by rw [hlen, hlen2]
     rw [← en, ← em]; exact Int.ofNat.inj h
    subst hmn
    have hnb : m ≤ 262144 := by
     have h : (m : Int) ≤ 262144 := by rw [← en, hlen]; exact z4
     omega
    have hN16 : N ≤ 16384 := by omega
    have hM16 : M ≤ 16384 := by omega
    replace hnm := hdh hnm; replace en := hdh en; replace em := hdh em; clear hfit hlen hlen2 hall z0 z1 z2 z3 z4 h1 h2 h3 h4
    go_upto_region 4 with (first
     | (go_at_call 49; (with_reducible refine cmm C1.out fun w1 hb1 => ?_); obtain ⟨hc1, hf1⟩ := bcell hb1; clear C1)
     | (go_at_call 49; (with_reducible refine cmm (C2'.out _ hb1) fun w2 hb2 => ?_); have hb12 := hb1.trans (hb2.mono hb1.size); clear hc1 hf1; obtain ⟨hc1, hf1⟩ := bcell hb12))
    have hW1 := hbw.trans (hb12.mono hbw.size); have D2 := B2.below hb12 yB2; have D3 := B3.below hb12 yB3; have z12 := hb12.size; clear hc1 hf1 hb1 hb2 B2 B3 q0 q1 q2 p0 p1 p2 C2'; obtain ⟨W0, rfl⟩ : ∃ W0, W0 = w2 := ⟨_, rfl⟩; have q0 := D2.cell (o := 0) rfl; have q1 := D2.cell (o := 1) rfl; have yD2 := D2.lt; have yD3 := D3.lt; have hrB := hdh (hl2'.out.below (hW1.trans (Below.refl _ _))); have hgo := hdh (show [] ++ runsGo xs ys N (M - 0) 0 = RC from hRC); clear hRC hb12; go_wp2
    go_loopw [6, 32] (fun ov yv wr => ∃ (y : Nat) (l : List Rn), y ≤ M ∧ yv = .int .i64 y ∧ Hid (RunRows W0.heap.size wr ov l) ∧ Hid (l ++ runsGo xs ys N (M - y) y = RC) ∧ Below W0.heap.size W0 wr ∧ l.length ≤ y * (N + 1)) (fun _ yv _ => M - (intOf yv).toNat)
    case atStart => exact ⟨0, [], Nat.zero_le _, rfl, hdh (RunRows.nil _ _), hgo, Below.refl _ _, Nat.zero_le _⟩
    case round =>
     clear hgo q0 q1; obtain ⟨y, l, hy, rfl, hro, hgo, hbr, hll⟩ := hrel
     by_cases hyM : y < M
     ·have hyi : (y : Int) < M := by omega
      obtain ⟨P, hP⟩ := exx (y * N)
      have hPn : P + N ≤ m := by
       have h := hnm.out; have : (y + 1) * N ≤ M * N := Nat.mul_le_mul_right N (by omega); rw [Nat.add_mul, hP, Nat.one_mul, Nat.mul_comm M] at this; omega
      have e1 : (y : Int) * (N : Int) = (P : Int) := by rw [← hP, Int.natCast_mul]
      obtain ⟨Z, hZ⟩ := exx (runsGo xs ys N (M - (y + 1)) (y + 1))
      have hgo2 := hdh (show l ++ (runRow xs ys P N y 0 ++ Z) = RC by
       have h := hgo.out; rw [show M - y = (M - (y + 1)) + 1 by omega, runsGo, hP, hZ] at h
       exact h)
      replace hP := hdh hP; replace hZ := hdh hZ; obtain ⟨W2, rfl⟩ : ∃ W2, W2 = wr := ⟨_, rfl⟩; clear hgo; have hll0 := hll; obtain ⟨l0, hl0⟩ := exx (y * (N + 1)); rw [hl0] at hll
      have hl0b : l0 ≤ 300000 := by
       rw [← hl0, Nat.mul_add, Nat.mul_one]; have := hP.out; omega
      replace hl0 := hdh hl0; go_wp2
      go_loopw [6, 9] (fun ov xv wr => ∃ (x : Nat) (l : List Rn), x ≤ N + 1 ∧ xv = .int .i64 x ∧ Hid (RunRows W0.heap.size wr ov l) ∧ Hid (l ++ (runRow xs ys P N y x ++ Z) = RC) ∧ Below W0.heap.size W0 wr ∧ l.length ≤ l0 + x) (fun _ xv _ => N + 1 - (intOf xv).toNat)
      case atStart => exact ⟨0, l, Nat.zero_le _, rfl, hro, hgo2, hbr, hll⟩
      case round =>
       clear hro hgo2 hbr hll hll0; obtain ⟨x, l, hx, rfl, hro, hgo, hbr, hll⟩ := hrel; obtain ⟨W3, rfl⟩ : ∃ W3, W3 = wr := ⟨_, rfl⟩
       by_cases hxN : x < N
       ·have hxi : (x : Int) < N := by omega
        obtain ⟨sv, cv, hsv⟩ : ∃ sv cv, u6 = .slice sv l.length cv := by
         obtain ⟨vs, _, hr, _⟩ := hro.out; exact own_slice hr
        subst hsv; have hst := runRow_step (ls := xs) (ms := ys) (P := P) (y := y) hxN; obtain ⟨e, he⟩ := exx (runTo xs ys P N x); have hebd := rEnd_bd xs ys P N (N - x) x; have hee : rEnd xs ys P N (N - x) x = e := he; rw [hee] at hebd; rw [he] at hst; have he2 := hebd.2 (by omega); have he1 := hebd.1; clear hebd hee; have hgo2 := hgo.out; rw [hst] at hgo2; have hgo2 := hdh hgo2; have he0 := hdh he; clear hst hgo he; obtain ⟨ga, oa, cap', ea, hga, _, _, hela⟩ := hop.out (by omega); simp only [Value.slice.injEq] at ea; obtain ⟨rfl, _, rfl⟩ := ea; obtain ⟨gb, ob, capb, eb, hgb, hcpb, _, helb⟩ := row_ce hl2'.out (by have := em.out; omega)
        rw [em.out] at eb hcpb; simp only [Value.slice.injEq] at eb; obtain ⟨rfl, _, rfl⟩ := eb; replace hela := hdh hela; replace helb := hdh helb
        go_upto_region 12 with fail
        go_loopw [9] (fun xv wr => ∃ k : Nat, x ≤ k ∧ k ≤ N ∧ xv = .int .i64 k ∧ Hid (runTo xs ys P N k = e) ∧ Below W3.heap.size W3 wr) (fun xv _ => N - (intOf xv).toNat)
        case atStart => exact ⟨x, Nat.le_refl _, by omega, rfl, he0, Below.refl _ _⟩
        case round =>
         clear he0; obtain ⟨k, hk1, hk2, rfl, hke, hb3⟩ := hrel; obtain ⟨W4, rfl⟩ : ∃ W4, W4 = wr := ⟨_, rfl⟩; have hbr4 := hbr.trans (hb3.mono hbr.size); have hw4 := hW1.trans (hbr4.mono hW1.size); have z4 := hw4.size; have F2 := D2.below hbr4 yD2; have F3 := D3.below hbr4 yD3; have q2 := F2.cell (o := 2) rfl; have p2 := F3.cell (o := 2) rfl; have yF2 := F2.lt; have yF3 := F3.lt
         have yga : ga < W4.heap.size := by omega
         have ygb : gb < W4.heap.size := by omega
         by_cases hkN : k < N
         ·have hki : (k : Int) < N := by omega
          have hPk : (P : Int) + (k : Int) < m := by omega
          obtain ⟨a, hca⟩ := get_at en.out (show P + k < m by omega); obtain ⟨b, hcb⟩ := get_at em.out (show P + k < m by omega); have hdf := dif_at hca hcb; have Ma := (hela.out (P + k) a hca).below hw4 hga; have Mb := (helb.out (P + k) b hcb).below hw4 hgb; obtain ⟨ra, ⟨a0, a1, a2, a3⟩, ⟨a4, a5, a6, a7⟩, a8, a9⟩ := a; obtain ⟨rb, ⟨b0, b1, b2, b3⟩, ⟨b4, b5, b6, b7⟩, b8, b9⟩ := b; obtain ⟨j0, j1, j2, j3, j4, j5, j6, j7, j8, j9, j10⟩ := Ma; obtain ⟨i0, i1, i2, i3, i4, i5, i6, i7, i8, i9, i10⟩ := Mb; dsimp only at j0 j1 j2 j3 j4 j5 j6 j7 j8 j9 j10 i0 i1 i2 i3 i4 i5 i6 i7 i8 i9 i10
          cases heq : Ce.eqb ⟨ra, ⟨a0, a1, a2, a3⟩, ⟨a4, a5, a6, a7⟩, a8, a9⟩ ⟨rb, ⟨b0, b1, b2, b3⟩, ⟨b4, b5, b6, b7⟩, b8, b9⟩
          ·rw [heq] at hdf
           replace hdf := hdh hdf; replace hca := hdh hca; replace hcb := hdh hcb
           go_upto_region 12 with fail
           refine rst (Held W4 0 []) ?_
           repeat (first | (refine' sdo ?_; simp only [pu]) | (refine spa ?_; simp only [pu]))
           refine wpSteady_nil (fun uA hSA => ?_); obtain ⟨hcA, hbA, hzA, hcoA, hfoA⟩ := hall hSA; clear hSA; simp only [Cells] at hcA; go_wp2; go_roundw
           case rel => exact ⟨k + 1, by omega, by omega, by go_num, hdh (by rw [← runTo_step hkN hdf.out]; exact hke.out), hb3.trans (hbA.mono hb3.size)⟩
           case measure => simp [intOf]; omega
          ·rw [heq] at hdf
           go_upto_region 12 with fail
           refine rst (Held W4 0 []) ?_
           repeat (first | (refine' sdo ?_; simp only [pu]) | (refine spa ?_; simp only [pu]))
           refine wpSteady_nil (fun uA hSA => ?_); obtain ⟨hcA, hbA, hzA, hcoA, hfoA⟩ := hall hSA; clear hSA; simp only [Cells] at hcA
           go_upto_region 14 with fail
           replace hbr4 := hbr4.trans (hbA.mono hbr4.size); replace hw4 := hw4.trans (hbA.mono hw4.size); replace hb3 := hb3.trans (hbA.mono hb3.size); have z5 := hbA.size; have z8 := hbr4.size; have z3 := hb3.size
           obtain rfl : k = e := by rw [← hke.out, runTo_stop (fun h => by rw [hdf] at h; cases h.2)]
           replace hke := hdh trivial
           by_cases hxe : x < k
           ·have hxei : (x : Int) < k := by omega
            obtain ⟨q, hq⟩ := exx (P + x); obtain ⟨r, hr⟩ := exx (P + k)
            have eq1 : (P : Int) + (x : Int) = (q : Int) := by omega
            have eq2 : (P : Int) + (k : Int) = (r : Int) := by omega
            have hqr : q < r := by omega
            have hrm : r ≤ m := by omega
            replace hq := hdh hq; replace hr := hdh hr; have CL := cclone_any _ _ uA (Row.piece (B := uA.heap.size) (sz := 11) (enc := Ce.enc) (w := uA) Ce.enc_len ((hl2'.out.below hw4).mono hw4.size) em.out q (r - q) (by omega)) (by rw [List.length_take, List.length_drop, em.out]; omega); obtain ⟨L2, hL2⟩ := exx ((ys.drop q).take (r - q)); rw [hL2] at CL; replace hL2 := hdh hL2; have hro4 := hdh (hro.out.below hb3 lrr)
            have hqi : (q : Int) < (r : Int) := by omega
            have hri : (r : Int) ≤ (cap1 : Int) := by omega
            obtain ⟨vs, hvl, hrun4, hj, hdd⟩ := hro4.out; have hlo := own_block_lt hrun4; replace hlo := hdh (fun g hg => (hlo g hg).1); replace hvl := hdh hvl; replace hj := hdh hj; replace hdd := hdh hdd; replace hrun4 := hdh hrun4
            go_wp2_with (first
             | (go_at_call 50; (with_reducible refine CL.mono ?_); rintro e w5 ⟨u, rfl, hou, hb5⟩; obtain ⟨su, cu, hu⟩ := own_slice hou; subst hu; obtain ⟨hc5, hf5⟩ := bcell hb5; have hrun := hdh (ownsRow_below hrun4.out hb5 lrr); have z7 := hb5.size; replace hb5 := hdh hb5; replace hou := hdh hou)
             | (at_builtin; refine wpList_append_own _ rfl _ _ _ rfl W0.heap.size 112 iN _ 3 40 Tryz.underlying99 ni0 nz0 nz1 nz2 rfl (by omega) _ l.length _ (by rfl) (hrun.out.alloc _) ⟨w5.heap.size, 0, none⟩ 1 1 [.int .i64 x, .int .i64 y, .slice su L2.length cu] (by rfl) rfl (cells_new w5 [.int .i64 x, .int .i64 y, .slice su L2.length cu] 112) (by intro u hu; simp only [List.mem_cons, List.not_mem_nil, or_false] at hu; rcases hu with rfl | rfl | rfl <;> rfl) (by unfold maxLen; omega) (by omega) (by simp; omega) ?_; intro v6 w6 hown6 hgr6 _; replace hown6 := hdh hown6; replace hgr6 := hdh hgr6))
            have z6 := hgr6.out.size; rw [World.size_alloc] at z6; have hb5' := hb5.out
            have R6 : RunRows W0.heap.size w6 v6 (l ++ [⟨x, y, L2⟩]) := by
             refine RunRows.snoc (vs := vs) (W := w5.alloc (.cells #[.int .i64 x, .int .i64 y, .slice su L2.length cu] 112)) (u := .slice su L2.length cu) hvl.out (fun j u r h1 h2 => ((hj.out j u r h1 h2).below hb5' lrr).alloc _) hdd.out (hrun.out.alloc _) ((own_low hou.out (by omega)).alloc _) (fun i u' h1 g hg hg2 => ?_) hown6.out hgr6.out
             obtain ⟨ri, hri⟩ : ∃ r, l[i]? = some r := by
              have := (List.getElem?_eq_some_iff.1 h1).1; exact ⟨_, List.getElem?_eq_getElem (by rw [← hvl.out]; exact this)⟩
             have g1 := (own_block_lt (hj.out i u' ri h1 hri) g hg).2; have g2 := (own_block_lt hou.out g hg2).1; omega
            have hb6 := ((hbr4.trans (hb5'.mono (by omega))).alloc (by omega) (.cells #[.int .i64 x, .int .i64 y, .slice su L2.length cu] 112)).grown hgr6.out (by simp; omega) (fun g hg => hlo.out g hg)
            have hg : l ++ [⟨x, y, L2⟩] ++ (runRow xs ys P N y (k + 1) ++ Z) = RC := by
             have h := hgo2.out; rw [show runOne ys P y x k = [⟨x, y, (ys.drop (P + x)).take (k - x)⟩] from if_pos hxe] at h; rw [← h, ← hL2.out, hq.out, show r - q = k - x by have := hq.out; have := hr.out; omega]
             simp
            go_roundw
            case rel => exact ⟨k + 1, l ++ [⟨x, y, L2⟩], by omega, by go_num, hdh R6, hdh hg, hb6, by simp; omega⟩
            case measure => simp [intOf]; omega
           ·have hxei : ¬ (x : Int) < k := by omega
            have hg : l ++ (runRow xs ys P N y (k + 1) ++ Z) = RC := by
             have h := hgo2.out
             rwa [show runOne ys P y x k = [] from if_neg hxe, List.nil_append] at h
            go_wp2; go_roundw
            case rel => exact ⟨k + 1, l, by omega, by go_num, hdh (hro.out.below hb3 lrr), hdh hg, hbr4, by omega⟩
            case measure => simp [intOf]; omega
         ·have hki : ¬ (k : Int) < N := by omega
          go_upto_region 12 with fail
          refine rst (Held W4 0 []) ?_
          repeat (first | (refine' sdo ?_; simp only [pu]) | (refine spa ?_; simp only [pu]))
          refine wpSteady_nil (fun uB hSB => ?_); obtain ⟨hcB, hbB, hzB, hcoB, hfoB⟩ := hall hSB; clear hSB; simp only [Cells] at hcB
          go_upto_region 14 with fail
          replace hbr4 := hbr4.trans (hbB.mono hbr4.size); replace hw4 := hw4.trans (hbB.mono hw4.size); replace hb3 := hb3.trans (hbB.mono hb3.size); have z5 := hbB.size; have z8 := hbr4.size; have z3 := hb3.size
          obtain rfl : k = e := by rw [← hke.out, runTo_stop (fun h => hkN h.1)]
          replace hke := hdh trivial
          by_cases hxe : x < k
          ·have hxei : (x : Int) < k := by omega
           obtain ⟨q, hq⟩ := exx (P + x); obtain ⟨r, hr⟩ := exx (P + k)
           have eq1 : (P : Int) + (x : Int) = (q : Int) := by omega
           have eq2 : (P : Int) + (k : Int) = (r : Int) := by omega
           have hqr : q < r := by omega
           have hrm : r ≤ m := by omega
           replace hq := hdh hq; replace hr := hdh hr; have CL := cclone_any _ _ uB (Row.piece (B := uB.heap.size) (sz := 11) (enc := Ce.enc) (w := uB) Ce.enc_len ((hl2'.out.below hw4).mono hw4.size) em.out q (r - q) (by omega)) (by rw [List.length_take, List.length_drop, em.out]; omega); obtain ⟨L2, hL2⟩ := exx ((ys.drop q).take (r - q)); rw [hL2] at CL; replace hL2 := hdh hL2; have hro4 := hdh (hro.out.below hb3 lrr)
           have hqi : (q : Int) < (r : Int) := by omega
           have hri : (r : Int) ≤ (cap1 : Int) := by omega
           obtain ⟨vs, hvl, hrun4, hj, hdd⟩ := hro4.out; have hlo := own_block_lt hrun4; replace hlo := hdh (fun g hg => (hlo g hg).1); replace hvl := hdh hvl; replace hj := hdh hj; replace hdd := hdh hdd; replace hrun4 := hdh hrun4
           go_wp2_with (first
            | (go_at_call 50; (with_reducible refine CL.mono ?_); rintro e w5 ⟨u, rfl, hou, hb5⟩; obtain ⟨su, cu, hu⟩ := own_slice hou; subst hu; obtain ⟨hc5, hf5⟩ := bcell hb5; have hrun := hdh (ownsRow_below hrun4.out hb5 lrr); have z7 := hb5.size; replace hb5 := hdh hb5; replace hou := hdh hou)
            | (at_builtin; refine wpList_append_own _ rfl _ _ _ rfl W0.heap.size 112 iN _ 3 40 Tryz.underlying99 ni0 nz0 nz1 nz2 rfl (by omega) _ l.length _ (by rfl) (hrun.out.alloc _) ⟨w5.heap.size, 0, none⟩ 1 1 [.int .i64 x, .int .i64 y, .slice su L2.length cu] (by rfl) rfl (cells_new w5 [.int .i64 x, .int .i64 y, .slice su L2.length cu] 112) (by intro u hu; simp only [List.mem_cons, List.not_mem_nil, or_false] at hu; rcases hu with rfl | rfl | rfl <;> rfl) (by unfold maxLen; omega) (by omega) (by simp; omega) ?_; intro v6 w6 hown6 hgr6 _; replace hown6 := hdh hown6; replace hgr6 := hdh hgr6))
           have z6 := hgr6.out.size; rw [World.size_alloc] at z6; have hb5' := hb5.out
           have R6 : RunRows W0.heap.size w6 v6 (l ++ [⟨x, y, L2⟩]) := by
            refine RunRows.snoc (vs := vs) (W := w5.alloc (.cells #[.int .i64 x, .int .i64 y, .slice su L2.length cu] 112)) (u := .slice su L2.length cu) hvl.out (fun j u r h1 h2 => ((hj.out j u r h1 h2).below hb5' lrr).alloc _) hdd.out (hrun.out.alloc _) ((own_low hou.out (by omega)).alloc _) (fun i u' h1 g hg hg2 => ?_) hown6.out hgr6.out
            obtain ⟨ri, hri⟩ : ∃ r, l[i]? = some r := by
             have := (List.getElem?_eq_some_iff.1 h1).1; exact ⟨_, List.getElem?_eq_getElem (by rw [← hvl.out]; exact this)⟩
            have g1 := (own_block_lt (hj.out i u' ri h1 hri) g hg).2; have g2 := (own_block_lt hou.out g hg2).1; omega
           have hb6 := ((hbr4.trans (hb5'.mono (by omega))).alloc (by omega) (.cells #[.int .i64 x, .int .i64 y, .slice su L2.length cu] 112)).grown hgr6.out (by simp; omega) (fun g hg => hlo.out g hg)
           have hg : l ++ [⟨x, y, L2⟩] ++ (runRow xs ys P N y (k + 1) ++ Z) = RC := by
            have h := hgo2.out; rw [show runOne ys P y x k = [⟨x, y, (ys.drop (P + x)).take (k - x)⟩] from if_pos hxe] at h; rw [← h, ← hL2.out, hq.out, show r - q = k - x by have := hq.out; have := hr.out; omega]
            simp
           go_roundw
           case rel => exact ⟨k + 1, l ++ [⟨x, y, L2⟩], by omega, by go_num, hdh R6, hdh hg, hb6, by simp; omega⟩
           case measure => simp [intOf]; omega
          ·have hxei : ¬ (x : Int) < k := by omega
           have hg : l ++ (runRow xs ys P N y (k + 1) ++ Z) = RC := by
            have h := hgo2.out
            rwa [show runOne ys P y x k = [] from if_neg hxe, List.nil_append] at h
           go_wp2; go_roundw
           case rel => exact ⟨k + 1, l, by omega, by go_num, hdh (hro.out.below hb3 lrr), hdh hg, hbr4, by omega⟩
           case measure => simp [intOf]; omega
       ·have hxi : ¬ (x : Int) < N := by omega
        have hg : l ++ Z = RC := by have h := hgo.out; rwa [runRow_end hxN, List.nil_append] at h
        go_wp2; go_roundw
        case rel => exact ⟨y + 1, l, by omega, by go_num, hro, hdh (by rw [hZ.out]; exact hg), hbr, by rw [Nat.add_mul, hl0.out]; omega⟩
        case measure => simp [intOf]; omega
     ·obtain rfl : y = M := by omega
      have hyi : ¬ (y : Int) < y := by omega
      have hg : l = RC := by have h := hgo.out; rw [Nat.sub_self] at h; simpa [runsGo] using h
      subst hg; go_wp2; go_ret2; exact ⟨hW1.trans (hbr.mono hW1.size), _, rfl, hro.out.low hW1.size⟩
   ·have hokF : ok = false := by
     rw [← hok]
     by_cases c : wa = wb
     ·have : ¬ ha = hb := fun h => hsz ⟨c, h⟩
      simp [this]
     ·simp [c]
    subst hokF; simp only [Bool.false_eq_true, if_false] at hE hRC; subst hE hRC; obtain ⟨b1, hb1'⟩ := exx ((wa == wb)); obtain ⟨b2, hb2'⟩ := exx ((ha == hb))
    have hbb : (b1 && b2) = false := by
     rw [← hb1', ← hb2']
     by_cases c : wa = wb
     ·have : ¬ ha = hb := fun h => hsz ⟨c, h⟩
      simp [this]
     ·simp [c]
    clear hok CZ1 CZ2; replace hsz := hdh hsz
    go_wp2_with (first
     | (go_at_call 49; (with_reducible refine cmm C1.out fun w1 hb1 => ?_); obtain ⟨hc1, hf1⟩ := bcell hb1; clear C1)
     | (go_at_call 49; (with_reducible refine cmm (C2'.out _ hb1) fun w2 hb2 => ?_); have hb12 := hb1.trans (hb2.mono hb1.size); clear hc1 hf1; obtain ⟨hc1, hf1⟩ := bcell hb12))
    go_ret2; exact ⟨hbw.trans (hb12.mono hbw.size), _, rfl, RunRows.nil _ _⟩
  ·subst e1 e2
   have hokF : ok = false := by rw [← hok]; rfl
   subst hokF; simp only [Bool.false_eq_true, if_false] at hE hRC; subst hE hRC; clear hok CZ1 CZ2
   go_wp2_with (first
    | (go_at_call 49; (with_reducible refine cmm C1.out fun w1 hb1 => ?_); obtain ⟨hc1, hf1⟩ := bcell hb1; clear C1)
    | (go_at_call 49; (with_reducible refine cmm (C2'.out _ hb1) fun w2 hb2 => ?_); have hb12 := hb1.trans (hb2.mono hb1.size); clear hc1 hf1; obtain ⟨hc1, hf1⟩ := bcell hb12))
   go_ret2; exact ⟨hbw.trans (hb12.mono hbw.size), _, rfl, RunRows.nil _ _⟩
 ·subst e1
  have hokF : ok = false := by rw [← hok]; rfl
  subst hokF; simp only [Bool.false_eq_true, if_false] at hE hRC; subst hE hRC; clear hok CZ1 CZ2
  go_wp2_with (go_at_call 49; (with_reducible refine cmm C1.out fun w1 hb1 => ?_))
  go_ret2; exact ⟨hbw.trans (hb1.mono hbw.size), _, rfl, RunRows.nil _ _⟩
end
end Go.Proofs.YtfcphagmjijmkaaGreatDoor
