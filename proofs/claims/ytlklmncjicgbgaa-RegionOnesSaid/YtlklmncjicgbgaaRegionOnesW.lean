/-
  The law RegionOnes, walked.
-/
import Derived.Test.YtlklmncjicgbgaaRegionTwosW
namespace Go.Proofs.Ytlklmncjicgbgaa
open Go.RowKit
set_option linter.unusedVariables false
attribute [local go_sem] vwp vUpon_value vUpon_skip vUpon_enter vUpon_row
set_option linter.unusedSimpArgs false
set_option linter.unusedVariables false
attribute [local go_sem high] eql_rect
theorem wf_bothL (a : List Re) : WfL (bothL a [] 1) := by
  unfold bothL
  split
  · rename_i h
    have hca : chkR a = 0 := by unfold askR at h; by_cases h' : chkR a = 0; exact h'; rw [if_neg h'] at h; exact h
    obtain ⟨ma, _⟩ := chkR_may hca
    unfold madeL
    split
    · exact wf_nil
    · exact wf_may (form_may ma mayL_nil 1)
  · exact wf_nil
theorem movL_len (px py : Int) (a : List Re) : (movL px py a).length ≤ 1024 := by
  unfold movL
  split
  · rw [List.length_map]
    unfold madeL
    split
    · simp
    · omega
  · simp
theorem eq4_refl (x y a b : Int) : eq4 x y a b x y a b = true := by simp [eq4]
theorem two_cells (w : World) (a b c d : Value) (t : TypeId) : ((w.alloc (.cells #[a, b] t)).alloc (.cells #[c, d] t)).cell? ⟨w.heap.size, 0, none⟩ = some a ∧ ((w.alloc (.cells #[a, b] t)).alloc (.cells #[c, d] t)).cell? ⟨w.heap.size, 1, none⟩ = some b ∧ ((w.alloc (.cells #[a, b] t)).alloc (.cells #[c, d] t)).cell? ⟨w.heap.size + 1, 0, none⟩ = some c ∧ ((w.alloc (.cells #[a, b] t)).alloc (.cells #[c, d] t)).cell? ⟨w.heap.size + 1, 1, none⟩ = some d := by
  have hb : Below (w.alloc (.cells #[a, b] t)).heap.size (w.alloc (.cells #[a, b] t)) ((w.alloc (.cells #[a, b] t)).alloc (.cells #[c, d] t)) := (Below.refl _ _).alloc (Nat.le_refl _) _
  have hs : (w.alloc (.cells #[a, b] t)).heap.size = w.heap.size + 1 := by simp
  refine ⟨(hb.cell (p := ⟨w.heap.size, 0, none⟩) (by simp)).trans (World.cell?_alloc_at _ _ _ _ rfl), (hb.cell (p := ⟨w.heap.size, 1, none⟩) (by simp)).trans (World.cell?_alloc_at _ _ _ _ rfl), ?_, ?_⟩
  · rw [World.cell?_alloc_at _ _ _ _ hs.symm]; rfl
  · rw [World.cell?_alloc_at _ _ _ _ hs.symm]; rfl
set_option maxHeartbeats 8000000 in
set_option maxRecDepth 100000 in
theorem walk_RegionOnes (l : List Re) (va : Value) (px py bx bY : Int) (w : World) (hl : Row w.heap.size 4 Re.enc w va l) (wl : WfL l) (h1 : I64 px) (h2 : I64 py) (h3 : I64 bx) (h4 : I64 bY) :
    Calls Try.prog 6 #[va, .agg #[.int .i64 px, .int .i64 py], .agg #[.int .i64 bx, .int .i64 bY]] w fun e w' => e = .returned (.bool true) ∧ Below w.heap.size w w' := by
  obtain ⟨q0, q1⟩ := two_cells w (.int .i64 px) (.int .i64 py) (.int .i64 bx) (.int .i64 bY) 34
  obtain ⟨q1, q2, q3⟩ := q1
  obtain ⟨wi, hwi⟩ : ∃ wi, (w.alloc (.cells #[.int .i64 px, .int .i64 py] 34)).alloc (.cells #[.int .i64 bx, .int .i64 bY] 34) = wi := ⟨_, rfl⟩
  have hi : Below w.heap.size w wi := by rw [← hwi]; exact ((Below.refl _ _).alloc (Nat.le_refl _) _).alloc (by simp) _
  have l0 : w.heap.size < wi.heap.size := by rw [← hwi]; simp; omega
  have l1 : w.heap.size + 1 < wi.heap.size := by rw [← hwi]; simp
  rw [hwi] at q0 q1 q2 q3
  have RA := fun W (h : Below wi.heap.size wi W) => ((hl.below hi).mono hi.size |>.below h).mono h.size
  have WA := fun W (h : Below wi.heap.size wi W) => work_any l va W (RA W h)
  obtain ⟨ta, hta⟩ : ∃ t, workB l = t := ⟨_, rfl⟩
  simp only [hta] at WA
  obtain ⟨s1, c1, rfl, hm1⟩ := hl.shape
  cases ta
  rotate_left
  · clear hl RA hta q0 q1 q2 q3
    replace WA := Lib.hid WA
    go_enter Try.func6, Try.ntmps6
    go_upto_region 1 with fail
    clear hwi
    go_wp2_with (first
      | (go_at_call 8; (with_reducible refine (alive_any _).mono ?_); rintro e w0 ⟨rfl, hb0⟩; have hw0 : Below wi.heap.size wi w0 := hb0; have z0 := hw0.size; obtain ⟨hcc, hff⟩ := bcell hw0)
      | (go_at_call 9; (with_reducible refine (WA.out _ hw0).mono ?_); rintro e w1 ⟨rfl, hb1⟩; have hw1 := hw0.trans (hb1.mono hw0.size); have z1 := hb1.size; clear hcc hff; obtain ⟨hcc, hff⟩ := bcell hw1)
      | go_in)
    go_ret
    exact ⟨rfl, hi.trans (hw1.mono hi.size)⟩
  have la : l.length ≤ 3000 := by unfold workB at hta; simp at hta; omega
  obtain ⟨n, ena⟩ : ∃ n, l.length = n := ⟨_, rfl⟩
  have LA := fun W (h : Below wi.heap.size wi W) => lent_any l _ n W (RA W h) (by omega) ena
  have PO := fun v1 W h => of_any l v1 W h wl
  have PM := fun v1 W h => rmoved_any l v1 bx bY W h wl h3 h4
  have PA := fun v1 W h => rarea_any l v1 W h wl
  have PH := fun v1 W h => rhas_any l v1 px py W h wl h1 h2
  have PB := fun v1 W h => rbound_any l v1 W h wl
  have PC := fun v1 W h => rgcheck_any l v1 W h wl
  have PC2 := fun v1 W h => rgcheck_any (bothL l [] 1) v1 W h (wf_bothL l)
  have RO := fun W (h : Below wi.heap.size wi W) => kof_any l _ W (RA W h) wl
  have RM := fun W (h : Below wi.heap.size wi W) => kmoved_any l _ bx bY W (RA W h) wl h3 h4
  have RR := fun W (h : Below wi.heap.size wi W) => karea_any l _ W (RA W h) wl
  have RH := fun W (h : Below wi.heap.size wi W) => kHas_any l _ px py W (RA W h) wl
  have RB := fun W (h : Below wi.heap.size wi W) => kbound_any l _ W (RA W h) wl
  have RC := fun W (h : Below wi.heap.size wi W) => kcheck_any l _ W (RA W h) wl
  have RC2 := fun v1 W h => kcheck_any (bothL l [] 1) v1 W h (wf_bothL l)
  have lF := bothL_len l [] 1
  have lM := movL_len bx bY l
  obtain ⟨E1, hE1⟩ : ∃ E, bothE l [] 1 = E := ⟨_, rfl⟩
  obtain ⟨F, hF⟩ : ∃ E, bothL l [] 1 = E := ⟨_, rfl⟩
  obtain ⟨E2, hE2⟩ : ∃ E, movE bx bY l = E := ⟨_, rfl⟩
  obtain ⟨M, hM⟩ : ∃ E, movL bx bY l = E := ⟨_, rfl⟩
  obtain ⟨A3, hA3⟩ : ∃ E, areaE l = E := ⟨_, rfl⟩
  obtain ⟨E4, hE4⟩ : ∃ E, chkR l = E := ⟨_, rfl⟩
  obtain ⟨B5, hB5⟩ : ∃ E, hasE l px py = E := ⟨_, rfl⟩
  obtain ⟨Q, hQ⟩ : ∃ E, bndE l = E := ⟨_, rfl⟩
  obtain ⟨E6, hE6⟩ : ∃ E, isFormE l = E := ⟨_, rfl⟩
  obtain ⟨E7, hE7⟩ : ∃ E, isFormE F = E := ⟨_, rfl⟩
  simp only [hE1, hF] at PO RO
  simp only [hE2, hM] at PM RM
  simp only [hA3, hE4] at PA RR
  simp only [hB5, hE4] at PH RH
  simp only [hQ, hE4] at PB RB
  simp only [hE6] at PC RC
  simp only [hF, hE7] at PC2 RC2
  rw [hF] at lF
  rw [hM] at lM
  have SF := fun v1 v2 W h1 h2 => same2_any F F v1 v2 W h1 h2 (by omega) (by omega)
  have SM := fun v1 v2 W h1 h2 => same2_any M M v1 v2 W h1 h2 (by omega) (by omega)
  simp only [eqRs_refl] at SF SM
  have lF := Lib.hid (show F.length ≤ 20000 by omega)
  have lM := Lib.hid (show M.length ≤ 20000 by omega)
  have la := Lib.hid (show l.length ≤ 20000 by omega)
  have hqq := eq4_refl Q.x Q.y Q.wd Q.ht
  clear hl hE1 hF hE2 hM hA3 hE4 hB5 hQ hE6 hE7 hta h1 h2 h3 h4
  replace RA := Lib.hid RA
  replace ena := Lib.hid ena
  replace WA := Lib.hid WA
  replace LA := Lib.hid LA
  replace PO := Lib.hid PO
  replace PM := Lib.hid PM
  replace PA := Lib.hid PA
  replace PH := Lib.hid PH
  replace PB := Lib.hid PB
  replace PC := Lib.hid PC
  replace PC2 := Lib.hid PC2
  replace RO := Lib.hid RO
  replace RM := Lib.hid RM
  replace RR := Lib.hid RR
  replace RH := Lib.hid RH
  replace RB := Lib.hid RB
  replace RC := Lib.hid RC
  replace RC2 := Lib.hid RC2
  replace SF := Lib.hid SF
  replace SM := Lib.hid SM
  go_enter Try.func6, Try.ntmps6
  go_upto_region 1 with fail
  clear hwi
  go_upto_region 13 with (first
    | (go_at_call 8; (with_reducible refine (alive_any _).mono ?_); rintro e w0 ⟨rfl, hb0⟩; have hw0 : Below wi.heap.size wi w0 := hb0; have z0 := hw0.size; obtain ⟨hcc, hff⟩ := bcell hw0)
    | (go_at_call 9; (with_reducible refine (WA.out _ hw0).mono ?_); rintro e w1 ⟨rfl, hb1⟩; have hw1 := hw0.trans (hb1.mono hw0.size); have z1 := hb1.size; clear hcc hff; obtain ⟨hcc, hff⟩ := bcell hw1)
    | (go_at_call 10; (with_reducible refine (LA.out _ hw1).mono ?_); rintro e w2 ⟨gx, cx, rfl, ox, hb2⟩; (try clear hcc hff); have hw2 := hw1.trans (hb2.mono hw1.size); have z2 := hb2.size; obtain ⟨hcc, hff⟩ := bcell hw2; have b_ox := Lib.hid (own_in ox); have ox := Lib.hid ox; clear hb2)
    | (go_at_call 22; (with_reducible refine (PO.out _ _ (row_cutR (ox.out.row (Nat.le_refl _)) ena.out)).mono ?_); rintro e w3 ⟨hb3, vf, rfl, hf⟩; (try clear hcc hff); have hw3 := hw2.trans (hb3.mono hw2.size); have z3 := hb3.size; have ox := Lib.hid (ox.out.below hb3 (Nat.le_refl _)); obtain ⟨hcc, hff⟩ := bcell hw3; have b_cf := Lib.hid (CutR.block hf); have cf := Lib.hid hf; clear hb3)
    | (go_at_call 29; (with_reducible refine (PM.out _ _ (row_cutR (ox.out.row (Nat.le_refl _)) ena.out)).mono ?_); rintro e w4 ⟨hb4, vm, rfl, hm⟩; (try clear hcc hff); have hw4 := hw3.trans (hb4.mono hw3.size); have z4 := hb4.size; have ox := Lib.hid (ox.out.below hb4 (Nat.le_refl _)); have cf := Lib.hid (cf.out.below hb4 (Nat.le_refl _)); obtain ⟨hcc, hff⟩ := bcell hw4; have b_cm := Lib.hid (CutR.block hm); have cm := Lib.hid hm; clear hb4)
    | (go_at_call 28; (with_reducible refine (PA.out _ _ (row_cutR (ox.out.row (Nat.le_refl _)) ena.out)).mono ?_); rintro e w5 ⟨rfl, hb5⟩; (try clear hcc hff); have hw5 := hw4.trans (hb5.mono hw4.size); have z5 := hb5.size; have ox := Lib.hid (ox.out.below hb5 (Nat.le_refl _)); have cf := Lib.hid (cf.out.below hb5 (Nat.le_refl _)); have cm := Lib.hid (cm.out.below hb5 (Nat.le_refl _)); obtain ⟨hcc, hff⟩ := bcell hw5; clear hb5)
    | (go_at_call 26; (with_reducible refine (PH.out _ _ (row_cutR (ox.out.row (Nat.le_refl _)) ena.out)).mono ?_); rintro e w6 ⟨rfl, hb6⟩; (try clear hcc hff); have hw6 := hw5.trans (hb6.mono hw5.size); have z6 := hb6.size; have ox := Lib.hid (ox.out.below hb6 (Nat.le_refl _)); have cf := Lib.hid (cf.out.below hb6 (Nat.le_refl _)); have cm := Lib.hid (cm.out.below hb6 (Nat.le_refl _)); obtain ⟨hcc, hff⟩ := bcell hw6; clear hb6)
    | (go_at_call 30; (with_reducible refine (PB.out _ _ (row_cutR (ox.out.row (Nat.le_refl _)) ena.out)).mono ?_); rintro e w7 ⟨rfl, hb7⟩; (try clear hcc hff); have hw7 := hw6.trans (hb7.mono hw6.size); have z7 := hb7.size; have ox := Lib.hid (ox.out.below hb7 (Nat.le_refl _)); have cf := Lib.hid (cf.out.below hb7 (Nat.le_refl _)); have cm := Lib.hid (cm.out.below hb7 (Nat.le_refl _)); obtain ⟨hcc, hff⟩ := bcell hw7; clear hb7)
    | go_in)
  have hb8 : Below w7.heap.size w7 (w7.alloc (.cells #[.int .i64 Q.x, .int .i64 Q.y, .int .i64 Q.wd, .int .i64 Q.ht] 49)) := (Below.refl _ _).alloc (Nat.le_refl _) _
  have kb : Blk (w7.alloc (.cells #[.int .i64 Q.x, .int .i64 Q.y, .int .i64 Q.wd, .int .i64 Q.ht] 49)) w7.heap.size Q.enc 49 := Blk.new' rfl
  generalize w7.alloc (.cells #[.int .i64 Q.x, .int .i64 Q.y, .int .i64 Q.wd, .int .i64 Q.ht] 49) = w8 at hb8 kb ⊢
  have hw8 := hw7.trans (hb8.mono hw7.size)
  have z8 := hb8.size
  have kb := Lib.hid kb
  have ox := Lib.hid (ox.out.below hb8 (Nat.le_refl _))
  have cf := Lib.hid (cf.out.below hb8 (Nat.le_refl _))
  have cm := Lib.hid (cm.out.below hb8 (Nat.le_refl _))
  clear hb8 hcc hff
  obtain ⟨hcc, hff⟩ := bcell hw8
  go_upto_region 19 with (first
    | (go_at_call 22; (with_reducible refine (PO.out _ _ (row_cutR (ox.out.row (Nat.le_refl _)) ena.out)).mono ?_); rintro e w9 ⟨hb9, vg, rfl, hg⟩; (try clear hcc hff); have hw9 := hw8.trans (hb9.mono hw8.size); have z9 := hb9.size; have ox := Lib.hid (ox.out.below hb9 (Nat.le_refl _)); have cf := Lib.hid (cf.out.below hb9 (Nat.le_refl _)); have cm := Lib.hid (cm.out.below hb9 (Nat.le_refl _)); have kb := Lib.hid (kb.out.below hb9 kb.out.lt); obtain ⟨hcc, hff⟩ := bcell hw9; have b_cg := Lib.hid (CutR.block hg); have cg := Lib.hid hg; clear hb9)
    | (go_at_call 31; (with_reducible refine (RO.out _ hw9).mono ?_); rintro e w10 ⟨hb10, vp, rfl, hp⟩; (try clear hcc hff); have hw10 := hw9.trans (hb10.mono hw9.size); have z10 := hb10.size; have ox := Lib.hid (ox.out.below hb10 (Nat.le_refl _)); have cf := Lib.hid (cf.out.below hb10 (Nat.le_refl _)); have cm := Lib.hid (cm.out.below hb10 (Nat.le_refl _)); have kb := Lib.hid (kb.out.below hb10 kb.out.lt); have cg := Lib.hid (cg.out.below hb10 (Nat.le_refl _)); obtain ⟨hcc, hff⟩ := bcell hw10; have b_cp := Lib.hid (CutR.block (CutR.own hp)); have cp := Lib.hid (CutR.own hp); clear hb10)
    | (go_at_call 32; (with_reducible refine (RM.out _ hw10).mono ?_); rintro e w11 ⟨hb11, vq, rfl, hq⟩; (try clear hcc hff); have hw11 := hw10.trans (hb11.mono hw10.size); have z11 := hb11.size; have ox := Lib.hid (ox.out.below hb11 (Nat.le_refl _)); have cf := Lib.hid (cf.out.below hb11 (Nat.le_refl _)); have cm := Lib.hid (cm.out.below hb11 (Nat.le_refl _)); have kb := Lib.hid (kb.out.below hb11 kb.out.lt); have cg := Lib.hid (cg.out.below hb11 (Nat.le_refl _)); have cp := Lib.hid (cp.out.below hb11 (Nat.le_refl _)); obtain ⟨hcc, hff⟩ := bcell hw11; have b_cq := Lib.hid (CutR.block hq); have cq := Lib.hid hq; clear hb11)
    | (go_at_call 33; (with_reducible refine (RR.out _ hw11).mono ?_); rintro e w12 ⟨rfl, hb12⟩; (try clear hcc hff); have hw12 := hw11.trans (hb12.mono hw11.size); have z12 := hb12.size; have ox := Lib.hid (ox.out.below hb12 (Nat.le_refl _)); have cf := Lib.hid (cf.out.below hb12 (Nat.le_refl _)); have cm := Lib.hid (cm.out.below hb12 (Nat.le_refl _)); have kb := Lib.hid (kb.out.below hb12 kb.out.lt); have cg := Lib.hid (cg.out.below hb12 (Nat.le_refl _)); have cp := Lib.hid (cp.out.below hb12 (Nat.le_refl _)); have cq := Lib.hid (cq.out.below hb12 (Nat.le_refl _)); obtain ⟨hcc, hff⟩ := bcell hw12; clear hb12)
    | (go_at_call 34; (with_reducible refine (RH.out _ hw12).mono ?_); rintro e w13 ⟨rfl, hb13⟩; (try clear hcc hff); have hw13 := hw12.trans (hb13.mono hw12.size); have z13 := hb13.size; have ox := Lib.hid (ox.out.below hb13 (Nat.le_refl _)); have cf := Lib.hid (cf.out.below hb13 (Nat.le_refl _)); have cm := Lib.hid (cm.out.below hb13 (Nat.le_refl _)); have kb := Lib.hid (kb.out.below hb13 kb.out.lt); have cg := Lib.hid (cg.out.below hb13 (Nat.le_refl _)); have cp := Lib.hid (cp.out.below hb13 (Nat.le_refl _)); have cq := Lib.hid (cq.out.below hb13 (Nat.le_refl _)); obtain ⟨hcc, hff⟩ := bcell hw13; clear hb13)
    | (go_at_call 35; (with_reducible refine (RB.out _ hw13).mono ?_); rintro e w14 ⟨rfl, hb14⟩; (try clear hcc hff); have hw14 := hw13.trans (hb14.mono hw13.size); have z14 := hb14.size; have ox := Lib.hid (ox.out.below hb14 (Nat.le_refl _)); have cf := Lib.hid (cf.out.below hb14 (Nat.le_refl _)); have cm := Lib.hid (cm.out.below hb14 (Nat.le_refl _)); have kb := Lib.hid (kb.out.below hb14 kb.out.lt); have cg := Lib.hid (cg.out.below hb14 (Nat.le_refl _)); have cp := Lib.hid (cp.out.below hb14 (Nat.le_refl _)); have cq := Lib.hid (cq.out.below hb14 (Nat.le_refl _)); obtain ⟨hcc, hff⟩ := bcell hw14; clear hb14)
    | go_in)
  have hb15 : Below w14.heap.size w14 (w14.alloc (.cells #[.int .i64 Q.x, .int .i64 Q.y, .int .i64 Q.wd, .int .i64 Q.ht] 49)) := (Below.refl _ _).alloc (Nat.le_refl _) _
  have kd : Blk (w14.alloc (.cells #[.int .i64 Q.x, .int .i64 Q.y, .int .i64 Q.wd, .int .i64 Q.ht] 49)) w14.heap.size Q.enc 49 := Blk.new' rfl
  generalize w14.alloc (.cells #[.int .i64 Q.x, .int .i64 Q.y, .int .i64 Q.wd, .int .i64 Q.ht] 49) = w15 at hb15 kd ⊢
  have hw15 := hw14.trans (hb15.mono hw14.size)
  have z15 := hb15.size
  have kd := Lib.hid kd
  have ox := Lib.hid (ox.out.below hb15 (Nat.le_refl _))
  have cf := Lib.hid (cf.out.below hb15 (Nat.le_refl _))
  have kb := Lib.hid (kb.out.below hb15 kb.out.lt)
  have cg := Lib.hid (cg.out.below hb15 (Nat.le_refl _))
  have cp := Lib.hid (cp.out.below hb15 (Nat.le_refl _))
  have cq := Lib.hid (cq.out.below hb15 (Nat.le_refl _))
  have cm := Lib.hid (cm.out.below hb15 (Nat.le_refl _))
  clear hb15 hcc hff
  obtain ⟨hcc, hff⟩ := bcell hw15
  go_wp2_with (first
    | (go_at_call 19; (with_reducible refine (SF.out _ _ _ (cf.out.row (Nat.le_refl _)) (cp.out.row (Nat.le_refl _))).mono ?_); rintro e w16 ⟨rfl, hb16⟩; (try clear hcc hff); have hw16 := hw15.trans (hb16.mono hw15.size); have z16 := hb16.size; have ox := Lib.hid (ox.out.below hb16 (Nat.le_refl _)); have cf := Lib.hid (cf.out.below hb16 (Nat.le_refl _)); have cm := Lib.hid (cm.out.below hb16 (Nat.le_refl _)); have kb := Lib.hid (kb.out.below hb16 kb.out.lt); have cg := Lib.hid (cg.out.below hb16 (Nat.le_refl _)); have cp := Lib.hid (cp.out.below hb16 (Nat.le_refl _)); have cq := Lib.hid (cq.out.below hb16 (Nat.le_refl _)); have kd := Lib.hid (kd.out.below hb16 kd.out.lt); obtain ⟨hcc, hff⟩ := bcell hw16; clear hb16)
    | (go_at_call 19; (with_reducible refine (SM.out _ _ _ (cm.out.row (Nat.le_refl _)) (cq.out.row (Nat.le_refl _))).mono ?_); rintro e w17 ⟨rfl, hb17⟩; (try clear hcc hff); have hw17 := hw16.trans (hb17.mono hw16.size); have z17 := hb17.size; have ox := Lib.hid (ox.out.below hb17 (Nat.le_refl _)); have cf := Lib.hid (cf.out.below hb17 (Nat.le_refl _)); have cm := Lib.hid (cm.out.below hb17 (Nat.le_refl _)); have kb := Lib.hid (kb.out.below hb17 kb.out.lt); have cg := Lib.hid (cg.out.below hb17 (Nat.le_refl _)); have cp := Lib.hid (cp.out.below hb17 (Nat.le_refl _)); have cq := Lib.hid (cq.out.below hb17 (Nat.le_refl _)); have kd := Lib.hid (kd.out.below hb17 kd.out.lt); obtain ⟨hcc, hff⟩ := bcell hw17; obtain ⟨i0, i1, i2, i3⟩ := blk_re kb.out; obtain ⟨j0, j1, j2, j3⟩ := blk_re kd.out; clear hb17)
    | (go_at_call 23; (with_reducible refine (PC.out _ _ (row_cutR (ox.out.row (Nat.le_refl _)) ena.out)).mono ?_); rintro e w18 ⟨rfl, hb18⟩; (try clear hcc hff); have hw18 := hw17.trans (hb18.mono hw17.size); have z18 := hb18.size; have ox := Lib.hid (ox.out.below hb18 (Nat.le_refl _)); have cf := Lib.hid (cf.out.below hb18 (Nat.le_refl _)); have cm := Lib.hid (cm.out.below hb18 (Nat.le_refl _)); have kb := Lib.hid (kb.out.below hb18 kb.out.lt); have cg := Lib.hid (cg.out.below hb18 (Nat.le_refl _)); have cp := Lib.hid (cp.out.below hb18 (Nat.le_refl _)); have cq := Lib.hid (cq.out.below hb18 (Nat.le_refl _)); have kd := Lib.hid (kd.out.below hb18 kd.out.lt); obtain ⟨hcc, hff⟩ := bcell hw18; clear hb18)
    | (go_at_call 36; (with_reducible refine (RC.out _ hw18).mono ?_); rintro e w19 ⟨rfl, hb19⟩; (try clear hcc hff); have hw19 := hw18.trans (hb19.mono hw18.size); have z19 := hb19.size; have ox := Lib.hid (ox.out.below hb19 (Nat.le_refl _)); have cf := Lib.hid (cf.out.below hb19 (Nat.le_refl _)); have cm := Lib.hid (cm.out.below hb19 (Nat.le_refl _)); have kb := Lib.hid (kb.out.below hb19 kb.out.lt); have cg := Lib.hid (cg.out.below hb19 (Nat.le_refl _)); have cp := Lib.hid (cp.out.below hb19 (Nat.le_refl _)); have cq := Lib.hid (cq.out.below hb19 (Nat.le_refl _)); have kd := Lib.hid (kd.out.below hb19 kd.out.lt); obtain ⟨hcc, hff⟩ := bcell hw19; clear hb19)
    | (go_at_call 23; (with_reducible refine (PC2.out _ _ (cp.out.row (Nat.le_refl _))).mono ?_); rintro e w20 ⟨rfl, hb20⟩; (try clear hcc hff); have hw20 := hw19.trans (hb20.mono hw19.size); have z20 := hb20.size; have ox := Lib.hid (ox.out.below hb20 (Nat.le_refl _)); have cf := Lib.hid (cf.out.below hb20 (Nat.le_refl _)); have cm := Lib.hid (cm.out.below hb20 (Nat.le_refl _)); have kb := Lib.hid (kb.out.below hb20 kb.out.lt); have cg := Lib.hid (cg.out.below hb20 (Nat.le_refl _)); have cp := Lib.hid (cp.out.below hb20 (Nat.le_refl _)); have cq := Lib.hid (cq.out.below hb20 (Nat.le_refl _)); have kd := Lib.hid (kd.out.below hb20 kd.out.lt); obtain ⟨hcc, hff⟩ := bcell hw20; clear hb20)
    | (go_at_call 36; (with_reducible refine (RC2.out _ _ (cp.out.row (Nat.le_refl _))).mono ?_); rintro e w21 ⟨rfl, hb21⟩; (try clear hcc hff); have hw21 := hw20.trans (hb21.mono hw20.size); have z21 := hb21.size; have ox := Lib.hid (ox.out.below hb21 (Nat.le_refl _)); have cf := Lib.hid (cf.out.below hb21 (Nat.le_refl _)); have cm := Lib.hid (cm.out.below hb21 (Nat.le_refl _)); have kb := Lib.hid (kb.out.below hb21 kb.out.lt); have cg := Lib.hid (cg.out.below hb21 (Nat.le_refl _)); have cp := Lib.hid (cp.out.below hb21 (Nat.le_refl _)); have cq := Lib.hid (cq.out.below hb21 (Nat.le_refl _)); have kd := Lib.hid (kd.out.below hb21 kd.out.lt); obtain ⟨hcc, hff⟩ := bcell hw21; clear hb21)
    | (go_at_call 20; (with_reducible refine (over_any _ F _ _ cf.out lF.out).mono ?_); rintro e w22 ⟨rfl, hg22⟩; (try clear hcc hff); have hw22 := hw21.grown hg22 hw21.size (fun g h => by have := b_cf.out g h; omega); have z22 := hg22.size; have cm := Lib.hid (CutR.keep cm.out hg22 (fun g h1 h2 => by have := b_cm.out g h1; have := b_cf.out g h2; omega)); have cg := Lib.hid (CutR.keep cg.out hg22 (fun g h1 h2 => by have := b_cg.out g h1; have := b_cf.out g h2; omega)); have cp := Lib.hid (CutR.keep cp.out hg22 (fun g h1 h2 => by have := b_cp.out g h1; have := b_cf.out g h2; omega)); have ox := Lib.hid (OwnsR.keep ox.out hg22 (fun g h1 h2 => by have := b_ox.out g h1; have := b_cf.out g h2; omega)); clear hg22)
    | (go_at_call 20; (with_reducible refine (over_any _ M _ _ cm.out lM.out).mono ?_); rintro e w23 ⟨rfl, hg23⟩; (try clear hcc hff); have hw23 := hw22.grown hg23 hw22.size (fun g h => by have := b_cm.out g h; omega); have z23 := hg23.size; have cg := Lib.hid (CutR.keep cg.out hg23 (fun g h1 h2 => by have := b_cg.out g h1; have := b_cm.out g h2; omega)); have cp := Lib.hid (CutR.keep cp.out hg23 (fun g h1 h2 => by have := b_cp.out g h1; have := b_cm.out g h2; omega)); have ox := Lib.hid (OwnsR.keep ox.out hg23 (fun g h1 h2 => by have := b_ox.out g h1; have := b_cm.out g h2; omega)); clear hg23)
    | (go_at_call 19; (with_reducible refine (SF.out _ _ _ (cg.out.row (Nat.le_refl _)) (cp.out.row (Nat.le_refl _))).mono ?_); rintro e w24 ⟨rfl, hb24⟩; (try clear hcc hff); have hw24 := hw23.trans (hb24.mono hw23.size); have z24 := hb24.size; have cg := Lib.hid (cg.out.below hb24 (Nat.le_refl _)); have cp := Lib.hid (cp.out.below hb24 (Nat.le_refl _)); have ox := Lib.hid (ox.out.below hb24 (Nat.le_refl _)); obtain ⟨hcc, hff⟩ := bcell hw24; clear hb24)
    | (go_at_call 21; (with_reducible refine (kepts_any l gx cx n _ _ _ ox.out (RA.out _ hw24) la.out ena.out).mono ?_); rintro e w25 ⟨rfl, hb25⟩; (try clear hcc hff); have hw25 := hw24.trans (hb25.mono hw24.size); have z25 := hb25.size; have cg := Lib.hid (cg.out.below hb25 (Nat.le_refl _)); have cp := Lib.hid (cp.out.below hb25 (Nat.le_refl _)); have ox := Lib.hid (ox.out.below hb25 (Nat.le_refl _)); obtain ⟨hcc, hff⟩ := bcell hw25; clear hb25)
    | go_in)
  go_ret
  exact ⟨rfl, hi.trans (hw25.mono hi.size)⟩
end Go.Proofs.Ytlklmncjicgbgaa
