/-
  The law RegionTwos, walked.
-/
import Derived.Test.YtlklmncjicgbgaaRegCj
import Derived.Test.YtlklmncjicgbgaaRegBj
namespace Go.Proofs.Ytlklmncjicgbgaa
open Go.RowKit
set_option linter.unusedVariables false
attribute [local go_sem] vwp vUpon_value vUpon_skip vUpon_enter vUpon_row
set_option linter.unusedSimpArgs false
set_option linter.unusedVariables false
theorem bothL_len (a b : List Re) (k : Int) : (bothL a b k).length ≤ 1024 := by
  unfold bothL
  split
  · unfold madeL
    split
    · simp
    · omega
  · simp
theorem CutR.keep {base : Nat} {w w' : World} {v : Value} {l : List Re} {ob : Option Nat} (h : CutR base w v l) (hg : w.grownBy w' ob) (hr : ∀ g, v.ownBlock = some g → ob ≠ some g) : CutR base w' v l := by
  rcases h with h | ⟨g, cap, cur, rfl, h2, h3, h4⟩
  · exact .inl h
  · exact .inr ⟨g, cap, cur, rfl, h2, (hg.block g (lt_of_block h3) (fun e => hr g rfl e.symm)).trans h3, h4⟩
theorem OwnsR.keep {base : Nat} {w w' : World} {v : Value} {l : List Re} {ob : Option Nat} (h : OwnsR base w v l) (hg : w.grownBy w' ob) (hr : ∀ g, v.ownBlock = some g → ob ≠ some g) : OwnsR base w' v l := own_keep h hg hr
set_option maxHeartbeats 8000000 in
set_option maxRecDepth 100000 in
theorem walk_RegionTwos (a b : List Re) (va vb : Value) (w : World) (ha : Row w.heap.size 4 Re.enc w va a) (hb : Row w.heap.size 4 Re.enc w vb b) (wa : WfL a) (wb : WfL b) :
    Calls Try.prog 3 #[va, vb] w fun e w' => e = .returned (.bool true) ∧ Below w.heap.size w w' := by
  have RA := fun W (h : Below w.heap.size w W) => (ha.below h).mono h.size
  have RB := fun W (h : Below w.heap.size w W) => (hb.below h).mono h.size
  have WA := fun W (h : Below w.heap.size w W) => work_any a va W (RA W h)
  have WB := fun W (h : Below w.heap.size w W) => work_any b vb W (RB W h)
  obtain ⟨ta, hta⟩ : ∃ t, workB a = t := ⟨_, rfl⟩
  obtain ⟨tb, htb⟩ : ∃ t, workB b = t := ⟨_, rfl⟩
  simp only [hta] at WA
  simp only [htb] at WB
  obtain ⟨s1, c1, rfl, hm1⟩ := ha.shape
  obtain ⟨s2, c2, rfl, hm2⟩ := hb.shape
  by_cases hw : (ta || tb) = true
  · clear ha hb RA RB hta htb
    cases ta <;> cases tb
    · simp at hw
    all_goals
      replace WA := Lib.hid WA
      replace WB := Lib.hid WB
      clear hw
      go_enter Try.func3, Try.ntmps3
      go_wp2_with (first
        | (go_at_call 8; (with_reducible refine (alive_any _).mono ?_); rintro e w0 ⟨rfl, hb0⟩; have hw0 : Below w.heap.size w w0 := hb0; have z0 := hw0.size)
        | (go_at_call 9; (with_reducible refine (WA.out _ hw0).mono ?_); rintro e w1 ⟨rfl, hb1⟩; have hw1 := hw0.trans (hb1.mono hw0.size); have z1 := hb1.size)
        | (go_at_call 9; (with_reducible refine (WB.out _ hw1).mono ?_); rintro e w2 ⟨rfl, hb2⟩; have hw2 := hw1.trans (hb2.mono hw1.size); have z2 := hb2.size)
        | go_in)
      go_ret
      exact ⟨rfl, hw2⟩
  obtain rfl : ta = false := by cases ta; rfl; simp at hw
  obtain rfl : tb = false := by cases tb; rfl; simp at hw
  have la : a.length ≤ 3000 := by unfold workB at hta; simp at hta; omega
  have lb : b.length ≤ 3000 := by unfold workB at htb; simp at htb; omega
  obtain ⟨n, ena⟩ : ∃ n, a.length = n := ⟨_, rfl⟩
  obtain ⟨m, enb⟩ : ∃ n, b.length = n := ⟨_, rfl⟩
  have LA := fun W (h : Below w.heap.size w W) => lent_any a _ n W (RA W h) (by omega) ena
  have LB := fun W (h : Below w.heap.size w W) => lent_any b _ m W (RB W h) (by omega) enb
  have PJ := fun v1 v2 W h1 h2 => join_any a b v1 v2 W h1 h2 wa wb
  have PM := fun v1 v2 W h1 h2 => meet_any a b v1 v2 W h1 h2 wa wb
  have PL := fun v1 v2 W h1 h2 => less_any a b v1 v2 W h1 h2 wa wb
  have PS := fun v1 v2 W h1 h2 => same_any a b v1 v2 W h1 h2 wa wb
  have RJ := fun W (h : Below w.heap.size w W) => kjoin_any a b _ _ W (RA W h) (RB W h) wa wb
  have RM := fun W (h : Below w.heap.size w W) => kmeet_any a b _ _ W (RA W h) (RB W h) wa wb
  have RL := fun W (h : Below w.heap.size w W) => kless_any a b _ _ W (RA W h) (RB W h) wa wb
  have RS := fun W (h : Below w.heap.size w W) => ksame_any a b _ _ W (RA W h) (RB W h) wa wb
  have lJ := bothL_len a b 1
  have lM := bothL_len a b 2
  have lL := bothL_len a b 3
  obtain ⟨E1, hE1⟩ : ∃ E, bothE a b 1 = E := ⟨_, rfl⟩
  obtain ⟨E2, hE2⟩ : ∃ E, bothE a b 2 = E := ⟨_, rfl⟩
  obtain ⟨E3, hE3⟩ : ∃ E, bothE a b 3 = E := ⟨_, rfl⟩
  obtain ⟨E4, hE4⟩ : ∃ E, askR a b = E := ⟨_, rfl⟩
  obtain ⟨sm, hsm⟩ : ∃ E, samE a b = E := ⟨_, rfl⟩
  obtain ⟨J, hJ⟩ : ∃ J, bothL a b 1 = J := ⟨_, rfl⟩
  obtain ⟨M, hM⟩ : ∃ J, bothL a b 2 = J := ⟨_, rfl⟩
  obtain ⟨L, hL⟩ : ∃ J, bothL a b 3 = J := ⟨_, rfl⟩
  simp only [hE1, hJ] at PJ RJ
  simp only [hE2, hM] at PM RM
  simp only [hE3, hL] at PL RL
  simp only [hE4, hsm] at PS RS
  rw [hJ] at lJ
  rw [hM] at lM
  rw [hL] at lL
  have SJ := fun v1 v2 W h1 h2 => same2_any J J v1 v2 W h1 h2 (by omega) (by omega)
  have SM := fun v1 v2 W h1 h2 => same2_any M M v1 v2 W h1 h2 (by omega) (by omega)
  have SL := fun v1 v2 W h1 h2 => same2_any L L v1 v2 W h1 h2 (by omega) (by omega)
  simp only [eqRs_refl] at SJ SM SL
  have lJ := Lib.hid (show J.length ≤ 20000 by omega)
  have lM := Lib.hid (show M.length ≤ 20000 by omega)
  have lL := Lib.hid (show L.length ≤ 20000 by omega)
  have la := Lib.hid (show a.length ≤ 20000 by omega)
  have lb := Lib.hid (show b.length ≤ 20000 by omega)
  clear ha hb hE1 hE2 hE3 hE4 hsm hJ hM hL hta htb hw
  replace RA := Lib.hid RA
  replace RB := Lib.hid RB
  replace ena := Lib.hid ena
  replace enb := Lib.hid enb
  replace WA := Lib.hid WA
  replace WB := Lib.hid WB
  replace LA := Lib.hid LA
  replace LB := Lib.hid LB
  replace PJ := Lib.hid PJ
  replace PM := Lib.hid PM
  replace PL := Lib.hid PL
  replace PS := Lib.hid PS
  replace RJ := Lib.hid RJ
  replace RM := Lib.hid RM
  replace RL := Lib.hid RL
  replace RS := Lib.hid RS
  replace SJ := Lib.hid SJ
  replace SM := Lib.hid SM
  replace SL := Lib.hid SL
  go_enter Try.func3, Try.ntmps3
  go_wp2_with (first
    | (go_at_call 8; (with_reducible refine (alive_any _).mono ?_); rintro e w0 ⟨rfl, hb0⟩; have hw0 : Below w.heap.size w w0 := hb0; have z0 := hw0.size)
    | (go_at_call 9; (with_reducible refine (WA.out _ hw0).mono ?_); rintro e w1 ⟨rfl, hb1⟩; have hw1 := hw0.trans (hb1.mono hw0.size); have z1 := hb1.size)
    | (go_at_call 9; (with_reducible refine (WB.out _ hw1).mono ?_); rintro e w2 ⟨rfl, hb2⟩; have hw2 := hw1.trans (hb2.mono hw1.size); have z2 := hb2.size)
    | (go_at_call 10; (with_reducible refine (LA.out _ hw2).mono ?_); rintro e w3 ⟨gx, cx, rfl, ox, hb3⟩; have hw3 := hw2.trans (hb3.mono hw2.size); have z3 := hb3.size; have b_ox := Lib.hid (own_in ox); have ox := Lib.hid ox; clear hb3)
    | (go_at_call 10; (with_reducible refine (LB.out _ hw3).mono ?_); rintro e w4 ⟨gy, cy, rfl, oy, hb4⟩; have hw4 := hw3.trans (hb4.mono hw3.size); have z4 := hb4.size; have ox := Lib.hid (ox.out.below hb4 (Nat.le_refl _)); have b_oy := Lib.hid (own_in oy); have oy := Lib.hid oy; clear hb4)
    | (go_at_call 11; (with_reducible refine (PJ.out _ _ _ (row_cutR (ox.out.row (Nat.le_refl _)) ena.out) (row_cutR (oy.out.row (Nat.le_refl _)) enb.out)).mono ?_); rintro e w5 ⟨hb5, vj, rfl, hj⟩; have hw5 := hw4.trans (hb5.mono hw4.size); have z5 := hb5.size; have ox := Lib.hid (ox.out.below hb5 (Nat.le_refl _)); have oy := Lib.hid (oy.out.below hb5 (Nat.le_refl _)); have b_cj := Lib.hid (CutR.block hj); have cj := Lib.hid hj; clear hb5)
    | (go_at_call 12; (with_reducible refine (PM.out _ _ _ (row_cutR (ox.out.row (Nat.le_refl _)) ena.out) (row_cutR (oy.out.row (Nat.le_refl _)) enb.out)).mono ?_); rintro e w6 ⟨hb6, vm, rfl, hm⟩; have hw6 := hw5.trans (hb6.mono hw5.size); have z6 := hb6.size; have ox := Lib.hid (ox.out.below hb6 (Nat.le_refl _)); have oy := Lib.hid (oy.out.below hb6 (Nat.le_refl _)); have cj := Lib.hid (cj.out.below hb6 (Nat.le_refl _)); have b_cm := Lib.hid (CutR.block hm); have cm := Lib.hid hm; clear hb6)
    | (go_at_call 13; (with_reducible refine (PL.out _ _ _ (row_cutR (ox.out.row (Nat.le_refl _)) ena.out) (row_cutR (oy.out.row (Nat.le_refl _)) enb.out)).mono ?_); rintro e w7 ⟨hb7, vl, rfl, hl⟩; have hw7 := hw6.trans (hb7.mono hw6.size); have z7 := hb7.size; have ox := Lib.hid (ox.out.below hb7 (Nat.le_refl _)); have oy := Lib.hid (oy.out.below hb7 (Nat.le_refl _)); have cj := Lib.hid (cj.out.below hb7 (Nat.le_refl _)); have cm := Lib.hid (cm.out.below hb7 (Nat.le_refl _)); have b_cl := Lib.hid (CutR.block hl); have cl := Lib.hid hl; clear hb7)
    | (go_at_call 14; (with_reducible refine (PS.out _ _ _ (row_cutR (ox.out.row (Nat.le_refl _)) ena.out) (row_cutR (oy.out.row (Nat.le_refl _)) enb.out)).mono ?_); rintro e w8 ⟨rfl, hb8⟩; have hw8 := hw7.trans (hb8.mono hw7.size); have z8 := hb8.size; have ox := Lib.hid (ox.out.below hb8 (Nat.le_refl _)); have oy := Lib.hid (oy.out.below hb8 (Nat.le_refl _)); have cj := Lib.hid (cj.out.below hb8 (Nat.le_refl _)); have cm := Lib.hid (cm.out.below hb8 (Nat.le_refl _)); have cl := Lib.hid (cl.out.below hb8 (Nat.le_refl _)); clear hb8)
    | (go_at_call 11; (with_reducible refine (PJ.out _ _ _ (row_cutR (ox.out.row (Nat.le_refl _)) ena.out) (row_cutR (oy.out.row (Nat.le_refl _)) enb.out)).mono ?_); rintro e w9 ⟨hb9, vk, rfl, hk⟩; have hw9 := hw8.trans (hb9.mono hw8.size); have z9 := hb9.size; have ox := Lib.hid (ox.out.below hb9 (Nat.le_refl _)); have oy := Lib.hid (oy.out.below hb9 (Nat.le_refl _)); have cj := Lib.hid (cj.out.below hb9 (Nat.le_refl _)); have cm := Lib.hid (cm.out.below hb9 (Nat.le_refl _)); have cl := Lib.hid (cl.out.below hb9 (Nat.le_refl _)); have b_ck := Lib.hid (CutR.block hk); have ck := Lib.hid hk; clear hb9)
    | (go_at_call 15; (with_reducible refine (RJ.out _ hw9).mono ?_); rintro e w10 ⟨hb10, vp, rfl, hp⟩; have hw10 := hw9.trans (hb10.mono hw9.size); have z10 := hb10.size; have ox := Lib.hid (ox.out.below hb10 (Nat.le_refl _)); have oy := Lib.hid (oy.out.below hb10 (Nat.le_refl _)); have cj := Lib.hid (cj.out.below hb10 (Nat.le_refl _)); have cm := Lib.hid (cm.out.below hb10 (Nat.le_refl _)); have cl := Lib.hid (cl.out.below hb10 (Nat.le_refl _)); have ck := Lib.hid (ck.out.below hb10 (Nat.le_refl _)); have b_cp := Lib.hid (CutR.block (CutR.own hp)); have cp := Lib.hid (CutR.own hp); clear hb10)
    | (go_at_call 16; (with_reducible refine (RM.out _ hw10).mono ?_); rintro e w11 ⟨hb11, vq, rfl, hq⟩; have hw11 := hw10.trans (hb11.mono hw10.size); have z11 := hb11.size; have ox := Lib.hid (ox.out.below hb11 (Nat.le_refl _)); have oy := Lib.hid (oy.out.below hb11 (Nat.le_refl _)); have cj := Lib.hid (cj.out.below hb11 (Nat.le_refl _)); have cm := Lib.hid (cm.out.below hb11 (Nat.le_refl _)); have cl := Lib.hid (cl.out.below hb11 (Nat.le_refl _)); have ck := Lib.hid (ck.out.below hb11 (Nat.le_refl _)); have cp := Lib.hid (cp.out.below hb11 (Nat.le_refl _)); have b_cq := Lib.hid (CutR.block (CutR.own hq)); have cq := Lib.hid (CutR.own hq); clear hb11)
    | (go_at_call 17; (with_reducible refine (RL.out _ hw11).mono ?_); rintro e w12 ⟨hb12, vr, rfl, hr⟩; have hw12 := hw11.trans (hb12.mono hw11.size); have z12 := hb12.size; have ox := Lib.hid (ox.out.below hb12 (Nat.le_refl _)); have oy := Lib.hid (oy.out.below hb12 (Nat.le_refl _)); have cj := Lib.hid (cj.out.below hb12 (Nat.le_refl _)); have cm := Lib.hid (cm.out.below hb12 (Nat.le_refl _)); have cl := Lib.hid (cl.out.below hb12 (Nat.le_refl _)); have ck := Lib.hid (ck.out.below hb12 (Nat.le_refl _)); have cp := Lib.hid (cp.out.below hb12 (Nat.le_refl _)); have cq := Lib.hid (cq.out.below hb12 (Nat.le_refl _)); have b_cr := Lib.hid (CutR.block (CutR.own hr)); have cr := Lib.hid (CutR.own hr); clear hb12)
    | (go_at_call 18; (with_reducible refine (RS.out _ hw12).mono ?_); rintro e w13 ⟨rfl, hb13⟩; have hw13 := hw12.trans (hb13.mono hw12.size); have z13 := hb13.size; have ox := Lib.hid (ox.out.below hb13 (Nat.le_refl _)); have oy := Lib.hid (oy.out.below hb13 (Nat.le_refl _)); have cj := Lib.hid (cj.out.below hb13 (Nat.le_refl _)); have cm := Lib.hid (cm.out.below hb13 (Nat.le_refl _)); have cl := Lib.hid (cl.out.below hb13 (Nat.le_refl _)); have ck := Lib.hid (ck.out.below hb13 (Nat.le_refl _)); have cp := Lib.hid (cp.out.below hb13 (Nat.le_refl _)); have cq := Lib.hid (cq.out.below hb13 (Nat.le_refl _)); have cr := Lib.hid (cr.out.below hb13 (Nat.le_refl _)); clear hb13)
    | (go_at_call 19; (with_reducible refine (SJ.out _ _ _ (cj.out.row (Nat.le_refl _)) (cp.out.row (Nat.le_refl _))).mono ?_); rintro e w14 ⟨rfl, hb14⟩; have hw14 := hw13.trans (hb14.mono hw13.size); have z14 := hb14.size; have ox := Lib.hid (ox.out.below hb14 (Nat.le_refl _)); have oy := Lib.hid (oy.out.below hb14 (Nat.le_refl _)); have cj := Lib.hid (cj.out.below hb14 (Nat.le_refl _)); have cm := Lib.hid (cm.out.below hb14 (Nat.le_refl _)); have cl := Lib.hid (cl.out.below hb14 (Nat.le_refl _)); have ck := Lib.hid (ck.out.below hb14 (Nat.le_refl _)); have cp := Lib.hid (cp.out.below hb14 (Nat.le_refl _)); have cq := Lib.hid (cq.out.below hb14 (Nat.le_refl _)); have cr := Lib.hid (cr.out.below hb14 (Nat.le_refl _)); clear hb14)
    | (go_at_call 19; (with_reducible refine (SM.out _ _ _ (cm.out.row (Nat.le_refl _)) (cq.out.row (Nat.le_refl _))).mono ?_); rintro e w15 ⟨rfl, hb15⟩; have hw15 := hw14.trans (hb15.mono hw14.size); have z15 := hb15.size; have ox := Lib.hid (ox.out.below hb15 (Nat.le_refl _)); have oy := Lib.hid (oy.out.below hb15 (Nat.le_refl _)); have cj := Lib.hid (cj.out.below hb15 (Nat.le_refl _)); have cm := Lib.hid (cm.out.below hb15 (Nat.le_refl _)); have cl := Lib.hid (cl.out.below hb15 (Nat.le_refl _)); have ck := Lib.hid (ck.out.below hb15 (Nat.le_refl _)); have cp := Lib.hid (cp.out.below hb15 (Nat.le_refl _)); have cq := Lib.hid (cq.out.below hb15 (Nat.le_refl _)); have cr := Lib.hid (cr.out.below hb15 (Nat.le_refl _)); clear hb15)
    | (go_at_call 19; (with_reducible refine (SL.out _ _ _ (cl.out.row (Nat.le_refl _)) (cr.out.row (Nat.le_refl _))).mono ?_); rintro e w16 ⟨rfl, hb16⟩; have hw16 := hw15.trans (hb16.mono hw15.size); have z16 := hb16.size; have ox := Lib.hid (ox.out.below hb16 (Nat.le_refl _)); have oy := Lib.hid (oy.out.below hb16 (Nat.le_refl _)); have cj := Lib.hid (cj.out.below hb16 (Nat.le_refl _)); have cm := Lib.hid (cm.out.below hb16 (Nat.le_refl _)); have cl := Lib.hid (cl.out.below hb16 (Nat.le_refl _)); have ck := Lib.hid (ck.out.below hb16 (Nat.le_refl _)); have cp := Lib.hid (cp.out.below hb16 (Nat.le_refl _)); have cq := Lib.hid (cq.out.below hb16 (Nat.le_refl _)); have cr := Lib.hid (cr.out.below hb16 (Nat.le_refl _)); clear hb16)
    | (go_at_call 20; (with_reducible refine (over_any _ J _ _ cj.out lJ.out).mono ?_); rintro e w17 ⟨rfl, hg17⟩; have hw17 := hw16.grown hg17 hw16.size (fun g h => by have := b_cj.out g h; omega); have z17 := hg17.size; have cm := Lib.hid (CutR.keep cm.out hg17 (fun g h1 h2 => by have := b_cm.out g h1; have := b_cj.out g h2; omega)); have cl := Lib.hid (CutR.keep cl.out hg17 (fun g h1 h2 => by have := b_cl.out g h1; have := b_cj.out g h2; omega)); have ck := Lib.hid (CutR.keep ck.out hg17 (fun g h1 h2 => by have := b_ck.out g h1; have := b_cj.out g h2; omega)); have cp := Lib.hid (CutR.keep cp.out hg17 (fun g h1 h2 => by have := b_cp.out g h1; have := b_cj.out g h2; omega)); have ox := Lib.hid (OwnsR.keep ox.out hg17 (fun g h1 h2 => by have := b_ox.out g h1; have := b_cj.out g h2; omega)); have oy := Lib.hid (OwnsR.keep oy.out hg17 (fun g h1 h2 => by have := b_oy.out g h1; have := b_cj.out g h2; omega)); clear hg17)
    | (go_at_call 20; (with_reducible refine (over_any _ M _ _ cm.out lM.out).mono ?_); rintro e w18 ⟨rfl, hg18⟩; have hw18 := hw17.grown hg18 hw17.size (fun g h => by have := b_cm.out g h; omega); have z18 := hg18.size; have cl := Lib.hid (CutR.keep cl.out hg18 (fun g h1 h2 => by have := b_cl.out g h1; have := b_cm.out g h2; omega)); have ck := Lib.hid (CutR.keep ck.out hg18 (fun g h1 h2 => by have := b_ck.out g h1; have := b_cm.out g h2; omega)); have cp := Lib.hid (CutR.keep cp.out hg18 (fun g h1 h2 => by have := b_cp.out g h1; have := b_cm.out g h2; omega)); have ox := Lib.hid (OwnsR.keep ox.out hg18 (fun g h1 h2 => by have := b_ox.out g h1; have := b_cm.out g h2; omega)); have oy := Lib.hid (OwnsR.keep oy.out hg18 (fun g h1 h2 => by have := b_oy.out g h1; have := b_cm.out g h2; omega)); clear hg18)
    | (go_at_call 20; (with_reducible refine (over_any _ L _ _ cl.out lL.out).mono ?_); rintro e w19 ⟨rfl, hg19⟩; have hw19 := hw18.grown hg19 hw18.size (fun g h => by have := b_cl.out g h; omega); have z19 := hg19.size; have ck := Lib.hid (CutR.keep ck.out hg19 (fun g h1 h2 => by have := b_ck.out g h1; have := b_cl.out g h2; omega)); have cp := Lib.hid (CutR.keep cp.out hg19 (fun g h1 h2 => by have := b_cp.out g h1; have := b_cl.out g h2; omega)); have ox := Lib.hid (OwnsR.keep ox.out hg19 (fun g h1 h2 => by have := b_ox.out g h1; have := b_cl.out g h2; omega)); have oy := Lib.hid (OwnsR.keep oy.out hg19 (fun g h1 h2 => by have := b_oy.out g h1; have := b_cl.out g h2; omega)); clear hg19)
    | (go_at_call 19; (with_reducible refine (SJ.out _ _ _ (ck.out.row (Nat.le_refl _)) (cp.out.row (Nat.le_refl _))).mono ?_); rintro e w20 ⟨rfl, hb20⟩; have hw20 := hw19.trans (hb20.mono hw19.size); have z20 := hb20.size; have ck := Lib.hid (ck.out.below hb20 (Nat.le_refl _)); have cp := Lib.hid (cp.out.below hb20 (Nat.le_refl _)); have ox := Lib.hid (ox.out.below hb20 (Nat.le_refl _)); have oy := Lib.hid (oy.out.below hb20 (Nat.le_refl _)); clear hb20)
    | (go_at_call 21; (with_reducible refine (kepts_any a gx cx n _ _ _ ox.out (RA.out _ hw20) la.out ena.out).mono ?_); rintro e w21 ⟨rfl, hb21⟩; have hw21 := hw20.trans (hb21.mono hw20.size); have z21 := hb21.size; have ck := Lib.hid (ck.out.below hb21 (Nat.le_refl _)); have cp := Lib.hid (cp.out.below hb21 (Nat.le_refl _)); have ox := Lib.hid (ox.out.below hb21 (Nat.le_refl _)); have oy := Lib.hid (oy.out.below hb21 (Nat.le_refl _)); clear hb21)
    | (go_at_call 21; (with_reducible refine (kepts_any b gy cy m _ _ _ oy.out (RB.out _ hw21) lb.out enb.out).mono ?_); rintro e w22 ⟨rfl, hb22⟩; have hw22 := hw21.trans (hb22.mono hw21.size); have z22 := hb22.size; have ck := Lib.hid (ck.out.below hb22 (Nat.le_refl _)); have cp := Lib.hid (cp.out.below hb22 (Nat.le_refl _)); have ox := Lib.hid (ox.out.below hb22 (Nat.le_refl _)); have oy := Lib.hid (oy.out.below hb22 (Nat.le_refl _)); clear hb22)
    | go_in)
  go_ret
  exact ⟨rfl, hw22⟩
end Go.Proofs.Ytlklmncjicgbgaa
