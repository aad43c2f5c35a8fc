/-
  Cells: two equal lists of runs are the same.
-/
import Derived.Test.YtfcphagmjijmkaaGreatDoorDd23
import Derived.Test.YtfcphagmjijmkaaGreatDoorDd24
import Derived.Test.YtfcphagmjijmkaaGreatDoorDd28
import Derived.Test.YtfcphagmjijmkaaGreatDoorDd29
namespace Go.Proofs.YtfcphagmjijmkaaGreatDoor
open Go.RowKit
set_option linter.unusedVariables false
set_option linter.unusedSimpArgs false
attribute [local go_sem] vwp vUpon_value vUpon_skip vUpon_enter vUpon_row
set_option maxHeartbeats 16000000
section
theorem neq_point (w : World) (a b a' b' : Int) : (binOp .neq 30 (.agg #[.int .i64 a, .int .i64 b]) (.agg #[.int .i64 a', .int .i64 b'])).run Tryz.prog w = .ok (.bool (!((a == a') && (b == b')))) w := by
 rw [run_neq_struct]; have h := eq_point 9998 w a b a' b'; rw [h]
 rfl
attribute [local go_sem high] neq_point
theorem RunRows.at {base B : Nat} {w : World} {v : Value} {l : List Rn} (h : RunRows base w v l) (hB : w.heap.size ≤ B) : RunsAt B w v l := by
 obtain ⟨vs, hl, hr, hj, _⟩ := h
 have e1 : (l.zip vs).map Prod.fst = l := by rw [List.map_fst_zip (by omega)]
 have e2 : (l.zip vs).length = l.length := by rw [List.length_zip, hl, Nat.min_self]
 refine ⟨l.zip vs, e1, ?_, fun p hp => ?_⟩
 ·rw [← e2] at hr
  exact Row.own encRn_len hr hB (by omega)
 ·obtain ⟨j, hjl, hj2⟩ := List.getElem_of_mem hp
  have hj3 : (l.zip vs)[j]? = some p := by rw [List.getElem?_eq_getElem hjl, hj2]
  rw [List.getElem?_zip_eq_some] at hj3; exact (hj j _ _ hj3.2 hj3.1).row hB
end
section
section
attribute [local go_sem high] eql_rect neq_rect
theorem meet_em (p q : Re) : emptyR (meetR p q) = (meetR p q).eqb Re.none := by
 unfold meetR
 split
 ·decide
 ·rename_i h
  simp only [Bool.or_eq_true, not_or, Bool.not_eq_true] at h; obtain ⟨m1, a1, a2⟩ := full_bd h.1; obtain ⟨m2, b1, b2⟩ := full_bd h.2; have c1 := may_bd m1; have c2 := may_bd m2; have c3 := may_sum m1; have c4 := may_sum m2; unfold fromR
  split
  ·decide
  ·rename_i hn
   have hm : mayR ⟨max p.x q.x, max p.y q.y, min (p.x + p.wd) (q.x + q.wd) - max p.x q.x, min (p.y + p.ht) (q.y + q.ht) - max p.y q.y⟩ = true := may_of (by simp only; omega); rw [empty_none hm]
   have e1 : noneR ⟨max p.x q.x, max p.y q.y, min (p.x + p.wd) (q.x + q.wd) - max p.x q.x, min (p.y + p.ht) (q.y + q.ht) - max p.y q.y⟩ = false := by
    unfold noneR; simp only [Bool.or_eq_false_iff, decide_eq_false_iff_not]; omega
   rw [e1]
   symm
   unfold Re.eqb eq4 Re.none; simp only [Bool.and_eq_false_iff, beq_eq_false_iff_ne]; omega
end
end
set_option maxRecDepth 100000 in
theorem khas1_any (q : Re) (x y : Int) (w : World) (hm : mayR q = true) : Calls Tryz.prog 56 #[.agg #[.int .i64 (q).x, .int .i64 (q).y, .int .i64 (q).wd, .int .i64 (q).ht], .agg #[.int .i64 (x), .int .i64 (y)]] w fun e w' => e = .returned (.bool (hasR q x y)) ∧ Below w.heap.size w w' := by
 obtain ⟨R, hR⟩ := exx (hasR q x y); rw [hR]; have hbd := may_bd hm
 have EM := fun w => kempty1_any q w (may_wf hm)
 have RT := fun w => kright_any q w hm
 have BL := fun w => kbelow_any q w hm
 have hex : emptyR q = true → R = false := fun h => by rw [← hR]; exact has_of_empty hm h
 unfold hasR at hR; obtain ⟨qx, qy, qw, qh⟩ := q; dsimp only at hR EM RT BL hbd ⊢; obtain ⟨eb, heb⟩ := exx (emptyR ⟨qx, qy, qw, qh⟩); rw [heb] at EM hex; obtain ⟨RX, hRX⟩ := exx (qx + qw); obtain ⟨RY, hRY⟩ := exx (qy + qh); rw [hRX] at hR RT; rw [hRY] at hR BL; clear hRX hRY heb hm; replace EM := hdh EM; replace RT := hdh RT; replace BL := hdh BL
 go_enter Tryz.func56, Tryz.ntmps56
 go_upto_region 1 with fail
 obtain ⟨W1, hW1⟩ := exx ((w.alloc (.cells #[.int .i64 qx, .int .i64 qy, .int .i64 qw, .int .i64 qh] 32)).alloc (.cells #[.int .i64 x, .int .i64 y] 30))
 have B0 : Blk W1 w.heap.size [.int .i64 qx, .int .i64 qy, .int .i64 qw, .int .i64 qh] 32 := by rw [← hW1]; exact (Blk.new' rfl).alloc _
 have B1 : Blk W1 (w.heap.size + 1) [.int .i64 x, .int .i64 y] 30 := by rw [← hW1]; exact Blk.new' (by simp)
 have hbw : Below w.heap.size w W1 := by rw [← hW1]; exact belt
 rw [hW1]; clear hW1; have y0 := B0.lt; have y1 := B1.lt; have c0 := B0.cell (o := 0) rfl; have c1 := B0.cell (o := 1) rfl; have c2 := B0.cell (o := 2) rfl; have c3 := B0.cell (o := 3) rfl; have c4 := B1.cell (o := 0) rfl; have c5 := B1.cell (o := 1) rfl
 cases eb
 ·by_cases a1 : qx ≤ x
  ·by_cases a2 : x < RX
   ·by_cases a3 : qy ≤ y
    ·by_cases a4 : y < RY
     ·have : R = true := by rw [← hR]; simp [a1, a2, a3, a4]
      subst this; clear hR hex; refine rst (Held W1 0 []) ?_
      repeat (first | (refine' wpSteady_do _ _ _; rotate_left; (focus rfl); (focus (intro w1 hS R hR; have hc := hS.cells; simp only [Cells] at hc; obtain ⟨hco, hfo⟩ := bcell hS.old; go_simp; (try go_bits); first | exact hR _ hS | ((go_at_call 106; (with_reducible refine cmm (RT.out _) fun w2 hb2 => ?_); exact ⟨_, rfl, hR _ (hS.below hb2)⟩)) | ((go_at_call 107; (with_reducible refine cmm (BL.out _) fun w2 hb2 => ?_); exact ⟨_, rfl, hR _ (hS.below hb2)⟩)) | ((go_at_call 105; (with_reducible refine cmm (EM.out _) fun w2 hb2 => ?_); exact ⟨_, rfl, hR _ (hS.below hb2)⟩)))); simp only [pu]) | (refine spa ?_; simp only [pu]))
      refine wpSteady_nil (fun uA hSA => ?_); obtain ⟨hcA, hbA, hzA, hcoA, hfoA⟩ := hall hSA; clear hSA; simp only [Cells] at hcA; go_wp2; go_ret; exact ⟨rfl, hbw.trans (hbA.mono hbw.size)⟩
     ·have : R = false := by rw [← hR]; simp [a4]
      subst this; clear hR hex; refine rst (Held W1 0 []) ?_
      repeat (first | (refine' wpSteady_do _ _ _; rotate_left; (focus rfl); (focus (intro w1 hS R hR; have hc := hS.cells; simp only [Cells] at hc; obtain ⟨hco, hfo⟩ := bcell hS.old; go_simp; (try go_bits); first | exact hR _ hS | ((go_at_call 106; (with_reducible refine cmm (RT.out _) fun w2 hb2 => ?_); exact ⟨_, rfl, hR _ (hS.below hb2)⟩)) | ((go_at_call 107; (with_reducible refine cmm (BL.out _) fun w2 hb2 => ?_); exact ⟨_, rfl, hR _ (hS.below hb2)⟩)) | ((go_at_call 105; (with_reducible refine cmm (EM.out _) fun w2 hb2 => ?_); exact ⟨_, rfl, hR _ (hS.below hb2)⟩)))); simp only [pu]) | (refine spa ?_; simp only [pu]))
      refine wpSteady_nil (fun uA hSA => ?_); obtain ⟨hcA, hbA, hzA, hcoA, hfoA⟩ := hall hSA; clear hSA; simp only [Cells] at hcA; go_wp2; go_ret; exact ⟨rfl, hbw.trans (hbA.mono hbw.size)⟩
    ·have : R = false := by rw [← hR]; simp [a3]
     subst this; clear hR hex; refine rst (Held W1 0 []) ?_
     repeat (first | (refine' wpSteady_do _ _ _; rotate_left; (focus rfl); (focus (intro w1 hS R hR; have hc := hS.cells; simp only [Cells] at hc; obtain ⟨hco, hfo⟩ := bcell hS.old; go_simp; (try go_bits); first | exact hR _ hS | ((go_at_call 106; (with_reducible refine cmm (RT.out _) fun w2 hb2 => ?_); exact ⟨_, rfl, hR _ (hS.below hb2)⟩)) | ((go_at_call 107; (with_reducible refine cmm (BL.out _) fun w2 hb2 => ?_); exact ⟨_, rfl, hR _ (hS.below hb2)⟩)) | ((go_at_call 105; (with_reducible refine cmm (EM.out _) fun w2 hb2 => ?_); exact ⟨_, rfl, hR _ (hS.below hb2)⟩)))); simp only [pu]) | (refine spa ?_; simp only [pu]))
     refine wpSteady_nil (fun uA hSA => ?_); obtain ⟨hcA, hbA, hzA, hcoA, hfoA⟩ := hall hSA; clear hSA; simp only [Cells] at hcA; go_wp2; go_ret; exact ⟨rfl, hbw.trans (hbA.mono hbw.size)⟩
   ·have : R = false := by rw [← hR]; simp [a2]
    subst this; clear hR hex; refine rst (Held W1 0 []) ?_
    repeat (first | (refine' wpSteady_do _ _ _; rotate_left; (focus rfl); (focus (intro w1 hS R hR; have hc := hS.cells; simp only [Cells] at hc; obtain ⟨hco, hfo⟩ := bcell hS.old; go_simp; (try go_bits); first | exact hR _ hS | ((go_at_call 106; (with_reducible refine cmm (RT.out _) fun w2 hb2 => ?_); exact ⟨_, rfl, hR _ (hS.below hb2)⟩)) | ((go_at_call 107; (with_reducible refine cmm (BL.out _) fun w2 hb2 => ?_); exact ⟨_, rfl, hR _ (hS.below hb2)⟩)) | ((go_at_call 105; (with_reducible refine cmm (EM.out _) fun w2 hb2 => ?_); exact ⟨_, rfl, hR _ (hS.below hb2)⟩)))); simp only [pu]) | (refine spa ?_; simp only [pu]))
    refine wpSteady_nil (fun uA hSA => ?_); obtain ⟨hcA, hbA, hzA, hcoA, hfoA⟩ := hall hSA; clear hSA; simp only [Cells] at hcA; go_wp2; go_ret; exact ⟨rfl, hbw.trans (hbA.mono hbw.size)⟩
  ·have : R = false := by rw [← hR]; simp [a1]
   subst this; clear hR hex; refine rst (Held W1 0 []) ?_
   repeat (first | (refine' wpSteady_do _ _ _; rotate_left; (focus rfl); (focus (intro w1 hS R hR; have hc := hS.cells; simp only [Cells] at hc; obtain ⟨hco, hfo⟩ := bcell hS.old; go_simp; (try go_bits); first | exact hR _ hS | ((go_at_call 106; (with_reducible refine cmm (RT.out _) fun w2 hb2 => ?_); exact ⟨_, rfl, hR _ (hS.below hb2)⟩)) | ((go_at_call 107; (with_reducible refine cmm (BL.out _) fun w2 hb2 => ?_); exact ⟨_, rfl, hR _ (hS.below hb2)⟩)) | ((go_at_call 105; (with_reducible refine cmm (EM.out _) fun w2 hb2 => ?_); exact ⟨_, rfl, hR _ (hS.below hb2)⟩)))); simp only [pu]) | (refine spa ?_; simp only [pu]))
   refine wpSteady_nil (fun uA hSA => ?_); obtain ⟨hcA, hbA, hzA, hcoA, hfoA⟩ := hall hSA; clear hSA; simp only [Cells] at hcA; go_wp2; go_ret; exact ⟨rfl, hbw.trans (hbA.mono hbw.size)⟩
 ·have : R = false := hex rfl
  subst this; clear hR hex; refine rst (Held W1 0 []) ?_
  repeat (first | (refine' wpSteady_do _ _ _; rotate_left; (focus rfl); (focus (intro w1 hS R hR; have hc := hS.cells; simp only [Cells] at hc; obtain ⟨hco, hfo⟩ := bcell hS.old; go_simp; (try go_bits); first | exact hR _ hS | ((go_at_call 106; (with_reducible refine cmm (RT.out _) fun w2 hb2 => ?_); exact ⟨_, rfl, hR _ (hS.below hb2)⟩)) | ((go_at_call 107; (with_reducible refine cmm (BL.out _) fun w2 hb2 => ?_); exact ⟨_, rfl, hR _ (hS.below hb2)⟩)) | ((go_at_call 105; (with_reducible refine cmm (EM.out _) fun w2 hb2 => ?_); exact ⟨_, rfl, hR _ (hS.below hb2)⟩)))); simp only [pu]) | (refine spa ?_; simp only [pu]))
  refine wpSteady_nil (fun uA hSA => ?_); obtain ⟨hcA, hbA, hzA, hcoA, hfoA⟩ := hall hSA; clear hSA; simp only [Cells] at hcA; go_wp2; go_ret; exact ⟨rfl, hbw.trans (hbA.mono hbw.size)⟩
theorem hasL_step {l : List Re} {k : Nat} {q : Re} (h : l[k]? = some q) (x y : Int) : hasL (l.drop k) x y = (hasR q x y || hasL (l.drop (k + 1)) x y) := by
 rw [drop_get h]
 simp [hasL]
set_option maxRecDepth 100000 in
theorem lie_any (l : List Re) (v : Value) (x y : Int) (w : World) (hl : Row w.heap.size 4 Re.enc w v l) (hm : MayL l) : Calls Tryz.prog 17 #[v, .agg #[.int .i64 (x), .int .i64 (y)]] w fun e w' => e = .returned (.bool (hasL l x y)) ∧ Below w.heap.size w w' := by
 obtain ⟨s0, cap, rfl, hmax⟩ := hl.shape
 have hop := fun h0 => row_re hl h0
 obtain ⟨n, hn⟩ := exx (l.length); rw [hn] at hop hmax ⊢; unfold maxLen at hmax; obtain ⟨T, hT⟩ := exx (hasL l x y); rw [hT]
 have h0 : hasL (l.drop 0) x y = T := by rw [List.drop_zero]; exact hT
 replace hop := hdh hop; replace hn := hdh hn; replace hm := hdh hm; replace h0 := hdh h0; clear hl hT
 go_enter Tryz.func17, Tryz.ntmps17
 go_upto_region 1 with fail
 obtain ⟨W, hW⟩ := exx (w.alloc (.cells #[.int .i64 x, .int .i64 y] 30)); obtain ⟨b3, hb3⟩ := exx (w.heap.size)
 have B3 : Blk W b3 [.int .i64 x, .int .i64 y] 30 := by rw [← hW]; exact Blk.new' hb3.symm
 have hbW : Below w.heap.size w W := by rw [← hW]; exact belt
 rw [hW, hb3]; clear hW hb3; go_wp2
 go_loopw [5] (fun iv wr => ∃ k : Nat, k ≤ n ∧ iv = .int .i64 k ∧ Hid (hasL (l.drop k) x y = T) ∧ Below W.heap.size W wr) (fun iv _ => n - (intOf iv).toNat)
 case atStart => exact ⟨0, Nat.zero_le _, rfl, h0, Below.refl _ _⟩
 case round =>
  clear h0; obtain ⟨k, hk, rfl, hgo, hbr⟩ := hrel; obtain ⟨wv, rfl⟩ : ∃ u, u = wr := ⟨_, rfl⟩; have hbw := hbW.trans (hbr.mono hbW.size); have zr := hbw.size
  by_cases hkn : k < n
  ·obtain ⟨b, o, c', e, hb, _, _, hel⟩ := hop.out (by omega)
   simp only [Value.slice.injEq] at e; obtain ⟨rfl, _, rfl⟩ := e; obtain ⟨q, hq⟩ := get_at hn.out hkn; obtain ⟨a0, a1, a2, a3⟩ := hel k q hq
   have H := fun w => khas1_any q x y w (hm.out q (List.mem_of_getElem? hq))
   have hst := hgo.out; rw [hasL_step hq] at hst
   have hkk : (k : Int) < n := by omega
   have a0 := (hbw.cell (p := ⟨b, o + k * 4, none⟩) hb).trans a0; have a1 := (hbw.cell (p := ⟨b, o + k * 4 + 1, none⟩) hb).trans a1; have a2 := (hbw.cell (p := ⟨b, o + k * 4 + 2, none⟩) hb).trans a2; have a3 := (hbw.cell (p := ⟨b, o + k * 4 + 3, none⟩) hb).trans a3; have B3r := B3.below hbr B3.lt; have p0 := B3r.cell (o := 0) rfl; have p1 := B3r.cell (o := 1) rfl; have y3 := B3r.lt
   have yb : b < wv.heap.size := by omega
   obtain ⟨C, hC⟩ := exx (hasR q x y); rw [hC] at H hst; replace H := hdh H; clear hel hq hC B3r
   go_upto_region 4 with fail
   refine rst (Held wv 0 []) ?_
   repeat (first | (refine' wpSteady_do _ _ _; rotate_left; (focus rfl); (focus (intro w1 hS R hR; have hc := hS.cells; simp only [Cells] at hc; obtain ⟨hco, hfo⟩ := bcell hS.old; go_simp; (try go_bits); first | exact hR _ hS | (go_at_call 56; (with_reducible refine cmm (H.out _) fun w2 hb2 => ?_); exact ⟨_, rfl, hR _ (hS.below hb2)⟩))); simp only [pu]) | (refine spa ?_; simp only [pu]))
   refine wpSteady_nil (fun uZ hSZ => ?_); obtain ⟨hcZ, hbZ, hzZ, hcoZ, hfoZ⟩ := hall hSZ; clear hSZ; simp only [Cells] at hcZ; have hbz := hbr.trans (hbZ.mono hbr.size); have hbwz := hbW.trans (hbz.mono hbW.size); clear hcoZ hfoZ a0 a1 a2 a3 p0 p1
   cases C
   ·rw [Bool.false_or] at hst
    replace hst := hdh hst; go_wp2; go_roundw
    case rel => exact ⟨k + 1, by omega, by go_num, hst, hbz⟩
    case measure => simp [intOf]; omega
   ·rw [Bool.true_or] at hst
    obtain rfl := hst; go_wp2; go_ret; exact ⟨rfl, hbwz⟩
  ·obtain rfl : k = n := by omega
   have e1 : T = false := by have h := hgo.out; rw [List.drop_of_length_le (by rw [hn.out]; exact Nat.le_refl _)] at h; rw [← h]; rfl
   subst e1
   have hkk : ¬ (k : Int) < k := by omega
   go_wp2; go_ret; exact ⟨rfl, hbw⟩
/-! ### sent -/
theorem runrows_slice {base : Nat} {W : World} {v : Value} {l : List Rn} (h : RunRows base W v l) : ∃ s cap, v = .slice s l.length cap := by
 obtain ⟨vs, hl, hr, hj, _⟩ := h; exact own_slice hr
set_option maxRecDepth 100000 in
theorem sent_any (wd ht : Int) (ls ms : List Ce) (v u : Value) (w : World) (h1 : I64 wd) (h2 : I64 ht) (hl : Row w.heap.size 11 Ce.enc w v ls) (hm : Row w.heap.size 11 Ce.enc w u ms) (c1 : chkS wd ht ls = 0) (c2 : chkS wd ht ms = 0) (hw : CeL ms) (hs : ls.length ≤ 4096) (hD : DigT w) (hE : DecT w) :
  Calls Tryz.prog 18 #[.agg #[.int .i64 (wd), .int .i64 (ht), v], .agg #[.int .i64 (wd), .int .i64 (ht), u]] w fun e w' => e = .returned (.bool true) ∧ Below w.heap.size w w' := by
 obtain ⟨q1, q2, q3, q4⟩ := sent_law c1 c2 hw hs
 have RUN := fun W (h : Below w.heap.size w W) => cruns_any wd ht ls v wd ht ms u W h1 h2 h1 h2 ((hl.below h).mono h.size) ((hm.below h).mono h.size)
 obtain ⟨RL, hRL⟩ := exx (runsL wd ht ls wd ht ms); rw [hRL] at q2 q3 q4; rw [q1, hRL] at RUN; obtain ⟨s0, cap0, rfl, hmax0⟩ := hl.shape; obtain ⟨s1, cap1, rfl, hmax1⟩ := hm.shape; obtain ⟨n0, en0⟩ := exx (ls.length); obtain ⟨n1, en1⟩ := exx (ms.length); rw [en0] at hl RUN ⊢; rw [en1] at hm RUN ⊢; obtain ⟨NR, hNR⟩ := exx (RL.length); rw [hNR] at q3; replace RUN := hdh RUN; replace hl := hdh hl; replace hm := hdh hm; replace hD := hdh hD; replace hE := hdh hE; replace q2 := hdh q2; replace hNR := hdh hNR; replace en1 := hdh en1; clear hmax0 hmax1 hRL q1 hs en0
 go_enter Tryz.func18, Tryz.ntmps18
 go_upto_region 1 with fail
 obtain ⟨W0, hW0⟩ := exx ((w.alloc (.cells #[.int .i64 wd, .int .i64 ht, .slice s0 n0 cap0] 40)).alloc (.cells #[.int .i64 wd, .int .i64 ht, .slice s1 n1 cap1] 40)); obtain ⟨b2, hb2⟩ := exx (w.heap.size)
 have B2 : Blk W0 b2 [.int .i64 wd, .int .i64 ht, .slice s0 n0 cap0] 40 := by rw [← hW0]; exact (Blk.new' hb2.symm).alloc _
 have B3 : Blk W0 (b2 + 1) [.int .i64 wd, .int .i64 ht, .slice s1 n1 cap1] 40 := by rw [← hW0]; exact Blk.new' (by simp; omega)
 have hb0 : Below w.heap.size w W0 := by rw [← hW0]; exact belt
 rw [hW0, hb2]; clear hW0 hb2; have RUN2 := hdh (RUN.out W0 hb0); clear RUN; have k0a := B2.cell (o := 0) rfl; have k1a := B2.cell (o := 1) rfl; have k2a := B2.cell (o := 2) rfl; have ya := B2.lt; have k0b := B3.cell (o := 0) rfl; have k1b := B3.cell (o := 1) rfl; have k2b := B3.cell (o := 2) rfl; have yb := B3.lt
 go_upto_region 2 with (go_at_call 57; (with_reducible refine RUN2.out.mono ?_); rintro e w3 ⟨hb3, vr, rfl, OR⟩; obtain ⟨sr, cr, hvr⟩ := runrows_slice OR; rw [hNR.out] at hvr; subst hvr)
 clear k0a k1a k2a ya; clear k0b k1b k2b yb; clear RUN2; have hb03 := hb0.trans (hb3.mono hb0.size); replace B2 := B2.below hb3 B2.lt; replace B3 := B3.below hb3 B3.lt; have ES := cescapes_any RL (.slice sr NR cr) w3 (RunRows.at OR lrr) q2.out (hD.out.below hb03 lrr); clear hb0 hb3 OR hD q2 hNR
 rcases q4 with e4 | ⟨o, e0, eT, hol, hrd⟩
 ·rw [e4] at ES
  obtain ⟨TX, hTX⟩ := exx (escT RL); rw [hTX] at ES; replace ES := hdh ES; clear hTX
  go_wp2_with (first
   | (go_at_call 58; (with_reducible refine cmm ES.out fun w9 hb9 => ?_))
   | go_in)
  go_ret; exact ⟨rfl, hb03.trans (hb9.mono hb03.size)⟩
 ·rw [eT, e0] at ES
  have RDC := fun W (h : Below w.heap.size w W) => cread_any wd ht ls (.slice s0 n0 cap0) o W h1 h2 ((hl.out.below h).mono h.size) (by omega) (hE.out.below h lrr)
  rw [hrd] at RDC; have RDC : ∀ W, Below w.heap.size w W → Calls Tryz.prog 59 #[.agg #[.int .i64 (wd), .int .i64 (ht), .slice s0 n0 cap0], .string (strL o)] W (fun e w' => Below W.heap.size W w' ∧ ∃ v, e = .returned (.tuple #[.agg #[.int .i64 (wd), .int .i64 (ht), v], .int .i64 0, .int .i64 0]) ∧ OwnsC W.heap.size w' v ms) := RDC; obtain ⟨SO, hSO⟩ := exx (strL o); rw [hSO] at RDC ES; clear hSO hol hrd eT; replace ES := hdh ES; replace RDC := hdh RDC
  go_upto_region 5 with (first
   | (go_at_call 58; (with_reducible refine cmm ES.out fun w9 hb9 => ?_))
   | go_in)
  clear ES; have hb09 := hb03.trans (hb9.mono hb03.size); replace B2 := B2.below hb9 B2.lt; replace B3 := B3.below hb9 B3.lt; have RD2 := hdh (RDC.out w9 hb09); clear RDC; have k0a := B2.cell (o := 0) rfl; have k1a := B2.cell (o := 1) rfl; have k2a := B2.cell (o := 2) rfl; have ya := B2.lt
  go_upto_region 8 with (first
   | (go_at_call 59; (with_reducible refine RD2.out.mono ?_); rintro e w10 ⟨hb10, vd, rfl, OE⟩; obtain ⟨sd, cd, hvd⟩ := own_slice OE; rw [en1.out] at hvd; subst hvd)
   | go_in)
  obtain ⟨W11, hW11⟩ := exx (w10.alloc (.cells #[.int .i64 wd, .int .i64 ht, .slice sd n1 cd] 40)); obtain ⟨b14, hb14⟩ := exx (w10.heap.size)
  have B14 : Blk W11 b14 [.int .i64 wd, .int .i64 ht, .slice sd n1 cd] 40 := by rw [← hW11]; exact Blk.new' hb14.symm
  have OE11 : OwnsC w9.heap.size W11 (.slice sd n1 cd) ms := by rw [← hW11]; exact OE.alloc _
  have hb11 : Below w9.heap.size w9 W11 := by rw [← hW11]; exact hb10.alloc hb10.size _
  rw [hW11, hb14]; clear hW11 hb14 OE hb10; clear k0a k1a k2a ya; replace B3 := B3.below hb11 B3.lt; have hb011 := hb09.trans (hb11.mono hb09.size); have SM := csame_any wd ht wd ht ms ms (.slice sd n1 cd) (.slice s1 n1 cap1) W11 (OE11.row lrr) ((hm.out.below hb011).mono hb011.size); rw [samS_iff.2 ⟨rfl, rfl, rfl⟩] at SM; replace SM := hdh SM; clear OE11; have k0a := B14.cell (o := 0) rfl; have k1a := B14.cell (o := 1) rfl; have k2a := B14.cell (o := 2) rfl; have ya := B14.lt; have k0b := B3.cell (o := 0) rfl; have k1b := B3.cell (o := 1) rfl; have k2b := B3.cell (o := 2) rfl; have yb := B3.lt
  go_wp2_with (first
   | (go_at_call 16; (with_reducible refine cmm SM.out fun w13 hb13 => ?_))
   | go_in)
  go_ret; exact ⟨rfl, hb011.trans (hb13.mono hb011.size)⟩
/-! ### what is drawn may be -/
def mayG (g : Gl) : Bool := validR g.rune && (if widR g.rune = 1 then !g.wide && !g.tail else if widR g.rune = 2 then g.wide != g.tail else false)
theorem glyR_may {r : Int} (hv : validR r = true) : ∀ g ∈ glyR r (widR r), mayG g = true := by
 intro g hg
 unfold glyR at hg
 split at hg
 ·rename_i h
  simp only [List.mem_singleton] at hg; subst hg
  simp [mayG, hv, h]
 ·split at hg
  ·rename_i h1 h
   simp only [List.mem_cons, List.not_mem_nil, or_false] at hg
   rcases hg with rfl | rfl <;> simp [mayG, hv, h]
  ·cases hg
theorem runesF_valid (s : ByteArray) : ∀ (n p : Nat), ∀ r ∈ runesF n s p, validR r = true
 | 0, p, r, h => by cases h
 | n + 1, p, r, h => by
  rw [runesF] at h
  split at h
  ·rcases List.mem_cons.1 h with rfl | h
   ·exact dec_valid s p
   ·exact runesF_valid s n _ r h
  ·cases h
theorem lineG_may (l : ByteArray) : ∀ g ∈ lineG l, mayG g = true := by
 intro g hg
 unfold lineG rowG at hg; obtain ⟨r, hr, hg⟩ := List.mem_flatMap.1 hg; exact glyR_may (runesF_valid l _ _ r hr) g hg
theorem glyAt_may {s : ByteArray} {X Y : Nat} {g : Gl} (h : glyAt (glyS s) X Y = some g) : mayG g = true := by
 unfold glyAt at h
 cases hr : (glyS s)[Y]? with
 | none => rw [hr] at h; cases h
 | some row =>
  rw [hr] at h; have h2 : row[X]? = some g := h; have hm := List.mem_of_getElem? hr; unfold glyS at hm; obtain ⟨l, _, rfl⟩ := List.mem_map.1 hm; exact lineG_may l g (List.mem_of_getElem? h2)
theorem frm_may (l r a b w h : Bool) : frmV l r a b w h = 0 ∨ mayG ⟨frmV l r a b w h, false, false⟩ = true := by
 cases l <;> cases r <;> cases a <;> cases b <;> cases w <;> cases h <;> first | (left; decide) | (right; kernel_rfl)
theorem mayC_of {g : Gl} (h : mayG g = true) (c b : Co) : mayC ⟨g.rune, c, b, g.wide, g.tail⟩ = true := h
theorem may_blank : mayG ⟨32, false, false⟩ = true := by kernel_rfl
theorem madeC_may {c : Ce} (hc : mayC c = true) (s : St) (x y : Int) : mayC (madeC c s (glyS s.text) x y) = true := by
 unfold madeC
 split
 ·split
  ·exact hc
  ·rename_i k hk
   exact mayC_of (glyAt_may hk) _ _
 ·split
  ·exact hc
  ·split
   ·unfold fillC
    split
    ·exact mayC_of may_blank _ _
    ·exact hc
   ·split
    ·exact hc
    ·rename_i h0
     unfold frmP at h0 ⊢; exact mayC_of ((frm_may _ _ _ _ _ _).resolve_left h0) _ _
theorem strokeD_may {W : Nat} {s : St} {q : Re} {cs : List Ce} (h : cs.all mayC = true) : (strokeD W s (glyS s.text) q cs).all mayC = true := by
 rw [List.all_eq_true] at h ⊢
 intro c hc
 obtain ⟨k, hk⟩ := List.getElem?_of_mem hc; unfold strokeD at hk; rw [updP_get] at hk
 cases hd : cs[k]? with
 | none => rw [hd] at hk; cases hk
 | some d =>
  rw [hd] at hk; have hd2 := h d (List.mem_of_getElem? hd); simp only [Option.map_some, Option.some.injEq] at hk; rw [← hk]
  split
  ·exact madeC_may hd2 s _ _
  ·exact hd2
theorem drwGo_nil (W : Nat) (gf : ByteArray → List (List Gl)) (cs : List Ce) (rs : List Re) : drwGo W gf cs [] rs = cs := by rw [drwGo]; simp
theorem drwGo_nil2 (W : Nat) (gf : ByteArray → List (List Gl)) (cs : List Ce) (ss : List St) : drwGo W gf cs ss [] = cs := by rw [drwGo]; simp
theorem drwGo_may (W : Nat) : ∀ (ss : List St) (rs : List Re) (cs : List Ce), cs.all mayC = true → (drwGo W glyS cs ss rs).all mayC = true
 | [], rs, cs, h => by rw [drwGo_nil]; exact h
 | s :: ss, [], cs, h => by rw [drwGo_nil2]; exact h
 | s :: ss, r :: rs, cs, h => by
  rw [drwGo]; exact drwGo_may W ss rs _ (strokeD_may h)
theorem drwGo_wf (W : Nat) (gf : ByteArray → List (List Gl)) : ∀ (ss : List St) (rs : List Re) (cs : List Ce), (∀ s ∈ ss, s.Wf) → CeL cs → CeL (drwGo W gf cs ss rs)
 | [], rs, cs, _, h => by rw [drwGo_nil]; exact h
 | s :: ss, [], cs, _, h => by rw [drwGo_nil2]; exact h
 | s :: ss, r :: rs, cs, hs, h => by
  rw [drwGo]; exact drwGo_wf W gf ss rs _ (fun t ht => hs t (List.mem_cons_of_mem _ ht)) (strokeD_wf (hs s List.mem_cons_self) h)
/-! ### clips close -/
theorem drawC_wf {wd ht : Int} {cs : List Ce} {l : List St} (hc : CeL cs) (hw : ∀ s ∈ l, s.Wf) : CeL (drawC glyS wd ht cs l) := by
 unfold drawC
 split
 ·refine drwGo_wf _ _ _ _ _ (fun s hs => ?_) hc
  unfold flS at hs
  split at hs
  ·exact hw s (List.mem_filter.1 hs).1
  ·cases hs
 ·intro c h; cases h
def flagN (x y : Int) : List Re → Bool
 | [] => true
 | t :: _ => hasR t x y
def clN (x y : Int) : List Re → List Bool
 | [] => []
 | t :: N => flagN x y N :: clN x y N
theorem has_shR {N : List Re} {s : St} {x y : Int} (hN : ∀ q ∈ N, mayR q = true) (hs : mayR s.rect = true) : hasR (shR N.reverse s) x y = (flagN x y N && hasR s.rect x y) := by
 have hq : mayR (shQ N.reverse s) = true := shQ_may (fun q hq => hN q (List.mem_reverse.1 hq)) hs
 have e : hasR (shQ N.reverse s) x y = (flagN x y N && hasR s.rect x y) := by
  unfold shQ
  cases N with
  | nil => simp [flagN]
  | cons t N =>
   have hl : (t :: N).reverse.getLast? = some t := by simp
   rw [hl]; simp only [flagN]; rw [has_meet hs (hN t (by simp)), Bool.and_comm]
 unfold shR
 split
 ·rename_i h
  rw [show hasR Re.none x y = false from has_none (by decide) (by decide), ← e, has_of_empty hq h]
 ·exact e
theorem at_shGo (x y : Int) : ∀ (xs : List St) (N : List Re) (out : List St), (∀ q ∈ N, mayR q = true) → (∀ s ∈ xs, mayR s.rect = true) → (∀ s ∈ xs, s.kind = 4 ∨ s.kind = 5 ∨ s.kind ≤ 3) → chkGo N.length xs = 0 → atGo x y xs (flagN x y N) (clN x y N) out = atSh x y xs (shGo N.reverse xs) out
 | [], N, out, _, _, _, _ => by simp [atGo, shGo, atSh]
 | s :: xs, N, out, hN, hx, hk, hc => by
  have hs := hx s (by simp); have hsh := has_shR (x := x) (y := y) hN hs
  have hmr : mayR (shR N.reverse s) = true := by
   unfold shR
   split
   ·decide
   ·exact shQ_may (fun q hq => hN q (List.mem_reverse.1 hq)) hs
  unfold chkGo at hc
  have he : errS s = 0 := by
   by_cases h : errS s = 0
   ·exact h
   ·rw [if_pos h] at hc; exact absurd hc h
  rw [if_neg (by simpa using he)] at hc
  have ho : ¬ opn N.length s < 0 := by intro h; rw [if_pos h] at hc; omega
  rw [if_neg ho] at hc; rw [at_cons, shGo, atSh]
  by_cases h4 : s.kind = 4
  ·rw [if_pos h4]
   have hd : drB s = false := by unfold drB; simp; omega
   have e : shN N.reverse s = (shR N.reverse s :: N).reverse := by unfold shN; rw [if_pos h4]; simp
   rw [hd, e]; have := at_shGo x y xs (shR N.reverse s :: N) out (by intro q hq; rcases List.mem_cons.1 hq with rfl | hq; exact hmr; exact hN q hq) (fun t ht => hx t (List.mem_cons_of_mem _ ht)) (fun t ht => hk t (List.mem_cons_of_mem _ ht)) (by rw [List.length_cons]; unfold opn at hc; simp [h4] at hc; simpa using hc); have this : atGo x y xs (hasR (shR N.reverse s) x y) (flagN x y N :: clN x y N) out = atSh x y xs (shGo (shR N.reverse s :: N).reverse xs) out := this; rw [hsh] at this; rw [Bool.false_and]; exact this
  ·rw [if_neg h4]
   by_cases h5 : s.kind = 5
   ·rw [if_pos h5]
    have hd : drB s = false := by unfold drB; simp; omega
    cases N with
    | nil => unfold opn at ho; simp [h4, h5] at ho
    | cons t N =>
     have e : shN (t :: N).reverse s = N.reverse := by unfold shN; rw [if_neg h4, if_pos h5]; simp
     rw [hd, e]; have := at_shGo x y xs N out (fun q hq => hN q (List.mem_cons_of_mem _ hq)) (fun t ht => hx t (List.mem_cons_of_mem _ ht)) (fun t ht => hk t (List.mem_cons_of_mem _ ht)) (by unfold opn at hc; simp [h4, h5] at hc; simpa using hc)
     simpa [clN] using this
   ·rw [if_neg h5]
    have h3 : s.kind ≤ 3 := by rcases hk s (by simp) with h | h | h <;> omega
    have hd : drB s = true := by unfold drB; simpa using h3
    have e : shN N.reverse s = N.reverse := by unfold shN; rw [if_neg h4, if_neg h5]
    rw [hd, e, hsh, Bool.true_and]; exact at_shGo x y xs N _ hN (fun t ht => hx t (List.mem_cons_of_mem _ ht)) (fun t ht => hk t (List.mem_cons_of_mem _ ht)) (by unfold opn at hc; simp [h4, h5] at hc; simpa using hc)
theorem chk_go0 {xs : List St} (h : chkL xs = 0) : chkGo 0 xs = 0 := by
 unfold chkL at h
 split at h
 ·omega
 ·exact h
theorem at_sh {xs : List St} (h : chkL xs = 0) (hk : ∀ s ∈ xs, s.kind = 4 ∨ s.kind = 5 ∨ s.kind ≤ 3) (x y : Int) : atL xs x y = atSh x y xs (shL xs) [] :=
 at_shGo x y xs [] [] (by simp) (fun s hs => err_may (chk_mem h s hs)) hk (chk_go0 h)
section
theorem wf_of_may {l : List Re} (h : MayL l) : WfL l := fun q hq => may_wf (h q hq)
end
theorem kinds_of {xs : List St} (h : chkL xs = 0) : ∀ s ∈ xs, s.kind = 4 ∨ s.kind = 5 ∨ s.kind ≤ 3 := by
 intro s hs
 have he := chk_mem h s hs; unfold errS at he
 split at he
 ·cases he
 ·rename_i hh
  have h1 : mis1 s = false := by
   cases hm : mis1 s
   ·rfl
   ·exact absurd (by rw [hm, Bool.true_or]) hh
  unfold mis1 at h1; simp only [Bool.or_eq_false_iff, decide_eq_false_iff_not] at h1; omega
theorem both_may {a : List Re} (ha : MayL a) : MayL (bothL a [] 1) ∧ (bothL a [] 1).length ≤ 1024 := by
 unfold bothL
 split
 ·unfold madeL
  split
  ·exact ⟨mayL_nil, by simp⟩
  ·exact ⟨form_may ha mayL_nil 1, by omega⟩
 ·exact ⟨mayL_nil, by simp⟩
def pntC (x y : Int) (c : Ce) (l : List St) : Ce := l.foldl (fun c s => madeC c s (glyS s.text) x y) c
theorem pnt_snoc (x y : Int) (c : Ce) (l : List St) (s : St) : pntC x y c (l ++ [s]) = madeC (pntC x y c l) s (glyS s.text) x y := by
 unfold pntC; rw [List.foldl_append]; rfl
theorem text_nil {s : ByteArray} (h : s.toList = []) : s = ⟨#[]⟩ := by
 rw [Lib.toList_data] at h
 apply ByteArray.ext
 apply Array.ext'
 exact h
theorem gly_none (X Y : Nat) : glyAt (glyS ⟨#[]⟩) X Y = none := by
 have e : glyS ⟨#[]⟩ = [[]] := by rfl
 rw [e]; unfold glyAt
 cases Y with
 | zero => rfl
 | succ Y => rfl
theorem frm_edge (q : Re) (x y : Int) : frmP q x y = 0 ↔ edgeP q x y = false := by
 have h : ∀ l r a b w h : Bool, frmV l r a b w h = 0 ↔ (l || a || r || b) = false := by decide
 unfold frmP edgeP; rw [h]
 have e1 : (x - q.x == 0) = (x == q.x) := by rw [Bool.eq_iff_iff]; simp; omega
 have e2 : (y - q.y == 0) = (y == q.y) := by rw [Bool.eq_iff_iff]; simp; omega
 have e3 : (x - q.x == q.wd - 1) = (x == q.x + q.wd - 1) := by rw [Bool.eq_iff_iff]; simp; omega
 have e4 : (y - q.y == q.ht - 1) = (y == q.y + q.ht - 1) := by rw [Bool.eq_iff_iff]; simp; omega
 rw [e1, e2, e3, e4]
theorem pnt_paint {s : St} (hw : s.Wf) (hk : s.kind = 1 ∨ s.kind = 2 ∨ s.kind = 3) (x y : Int) (c : Ce) (out : List St) : pntC x y c (paintP s x y out) = madeC (pntC x y c out) s (glyS s.text) x y := by
 have ha : 0 ≤ s.col.a := hw.2.2.1.2.2.2.1; unfold paintP
 rcases hk with hk | hk | hk
 ·rw [if_pos hk]
  by_cases h1 : s.col.a = 255
  ·rw [if_pos h1]
   show madeC c s (glyS s.text) x y = _
   unfold madeC; rw [if_neg (by omega), if_neg (by omega), if_pos hk, if_neg (by omega), if_neg (by omega), if_pos hk]; unfold fillC; rw [if_pos h1, if_pos h1]
  ·rw [if_neg h1]
   by_cases h2 : 0 < s.col.a
   ·rw [if_pos h2, pnt_snoc]
   ·rw [if_neg h2]
    unfold madeC; rw [if_neg (by omega), if_pos (by omega)]
 ·rw [if_neg (by omega), if_pos hk]
  by_cases h : (edgeP s.rect x y && decide (0 < s.col.a)) = true
  ·rw [if_pos h, pnt_snoc]
  ·rw [if_neg h]
   unfold madeC; rw [if_neg (by omega)]
   by_cases h2 : s.col.a = 0
   ·rw [if_pos h2]
   ·rw [if_neg h2, if_neg (by omega), if_pos]
    rw [frm_edge]
    cases he : edgeP s.rect x y
    ·rfl
    ·exact absurd (by rw [he]; simp; omega) h
 ·rw [if_neg (by omega), if_neg (by omega)]
  by_cases h : s.text.toList = []
  ·rw [if_pos h]
   unfold madeC; rw [if_pos hk, text_nil h, gly_none]
  ·rw [if_neg h, pnt_snoc]
theorem flt_cons (s : St) (xs : List St) (q : Re) (rs : List Re) : fltS (s :: xs) = (if drB s then s :: fltS xs else fltS xs) ∧ fltR (s :: xs) (q :: rs) = (if drB s then q :: fltR xs rs else fltR xs rs) := by
 unfold fltS fltR; rw [List.filter_cons, List.zip_cons_cons, List.filter_cons]
 cases drB s <;> simp
theorem drw_at (W : Nat) (c : Ce) (k : Nat) : ∀ (xs : List St) (rs : List Re) (cs : List Ce) (out : List St), (∀ s ∈ xs, s.Wf ∧ (drB s = true → s.kind = 1 ∨ s.kind = 2 ∨ s.kind = 3)) → rs.length = xs.length → cs[k]? = some (pntC ((k % W : Nat) : Int) ((k / W : Nat) : Int) c out) →
  (drwGo W glyS cs (fltS xs) (fltR xs rs))[k]? = some (pntC ((k % W : Nat) : Int) ((k / W : Nat) : Int) c (atSh ((k % W : Nat) : Int) ((k / W : Nat) : Int) xs rs out))
 | [], [], cs, out, _, _, h => by
  have e : fltR [] [] = [] := rfl; rw [show fltS [] = [] from rfl, drwGo_nil]; exact h
 | [], _ :: _, _, _, _, h, _ => by cases h
 | _ :: _, [], _, _, _, h, _ => by cases h
 | s :: xs, q :: rs, cs, out, hx, hl, h => by
  obtain ⟨e1, e2⟩ := flt_cons s xs q rs; obtain ⟨hw, hk⟩ := hx s (by simp); rw [e1, e2, atSh]
  cases hd : drB s
  ·simp only [Bool.false_and, Bool.false_eq_true, if_false]
   exact drw_at W c k xs rs cs out (fun t ht => hx t (by simp [ht])) (by simpa using hl) h
  ·simp only [if_true, Bool.true_and]
   rw [drwGo]; refine drw_at W c k xs rs _ _ (fun t ht => hx t (by simp [ht])) (by simpa using hl) ?_; unfold strokeD; rw [updP_get, h]; simp only [Option.map_some]
   cases hq : hasR q ((k % W : Nat) : Int) ((k / W : Nat) : Int)
   ·simp
   ·simp only [if_true]
    rw [pnt_paint hw (hk hd)]
theorem draw_at {wd ht : Int} {cs : List Ce} {xs : List St} (h : drawE wd ht cs xs = 0) (hw : ∀ s ∈ xs, s.Wf) {k : Nat} {c : Ce} (hc : cs[k]? = some c) :
  (drawC glyS wd ht cs xs)[k]? = some (pntC ((k % wd.toNat : Nat) : Int) ((k / wd.toNat : Nat) : Int) c (atL xs ((k % wd.toNat : Nat) : Int) ((k / wd.toNat : Nat) : Int))) := by
 have h0 := h; unfold drawE at h
 split at h
 ·have e : drawC glyS wd ht cs xs = drwGo wd.toNat glyS cs (flS xs) (flR xs) := if_pos h0
  have e1 : flS xs = fltS xs := if_pos h; have e2 : flR xs = fltR xs (shL xs) := if_pos h; rw [e, e1, e2, at_sh h (kinds_of h)]; exact drw_at wd.toNat c k xs (shL xs) cs [] (fun s hs => ⟨hw s hs, kind_of h hs⟩) (shL_len xs) hc
 ·cases h
theorem draw_len {wd ht : Int} {cs : List Ce} {xs : List St} (h : drawE wd ht cs xs = 0) : (drawC glyS wd ht cs xs).length = cs.length := by
 have e : drawC glyS wd ht cs xs = drwGo wd.toNat glyS cs (flS xs) (flR xs) := if_pos h; rw [e, drwGo_len]
theorem draw_chk {wd ht : Int} {cs : List Ce} {xs : List St} (h : drawE wd ht cs xs = 0) : chkS wd ht (drawC glyS wd ht cs xs) = 0 := by
 have h0 := h; unfold drawE at h
 split at h
 ·rename_i hk
  obtain ⟨hfit, hlen, hall⟩ := chkS_zero hk; have e : drawC glyS wd ht cs xs = drwGo wd.toNat glyS cs (flS xs) (flR xs) := if_pos h0; unfold chkS; rw [e, hfit, drwGo_len, hlen, drwGo_may _ _ _ _ hall]
  simp
 ·cases h
/-! ### within -/
theorem both_is {qs : List Re} (hf : bothE qs [] 1 = 0) : bothL qs [] 1 = formR qs [] 1 ∧ askR qs [] = 0 := by
 unfold bothE at hf
 split at hf
 ·rename_i h
  unfold madeE at hf
  split at hf
  ·cases hf
  ·rename_i h2
   unfold bothL madeL; rw [if_pos h, if_neg h2]; exact ⟨rfl, h⟩
 ·rename_i h
  exact absurd hf h
theorem ask_may {qs : List Re} (h : askR qs [] = 0) : MayL qs := by
 unfold askR at h
 split at h
 ·rename_i h2; exact (chkR_may h2).1
 ·rename_i h2; exact absurd h h2
theorem bothL_has {qs : List Re} (hf : bothE qs [] 1 = 0) (x y : Int) : hasL (bothL qs [] 1) x y = hasL qs x y := by
 have hq := ask_may (both_is hf).2; rw [(both_is hf).1, form_places hq.sane mayL_nil.sane, want1, has_nil, Bool.or_false]
end Go.Proofs.YtfcphagmjijmkaaGreatDoor
