/-
  Cells: what a stroke makes of a cell at a place, by the program.
-/
import Derived.Test.YtfcphagmjijmkaaGreatDoorDd10
namespace Go.Proofs.YtfcphagmjijmkaaGreatDoor
open Go.RowKit
set_option linter.unusedVariables false
set_option linter.unusedSimpArgs false
attribute [local go_sem] vwp vUpon_value vUpon_skip vUpon_enter vUpon_row
set_option maxHeartbeats 16000000
def glyAt (g : List (List Gl)) (X Y : Nat) : Option Gl := (g[Y]?).bind (fun r => r[X]?)
def madeC (c : Ce) (s : St) (g : List (List Gl)) (x y : Int) : Ce :=
 if s.kind = 3 then
  match glyAt g (x - s.rect.x).toNat (y - s.rect.y).toNat with
  | none => c
  | some k => ⟨k.rune, ovC s.col (ovC s.back c.back), ovC s.back c.back, k.wide, k.tail⟩
 else if s.col.a = 0 then c
 else if s.kind = 1 then fillC c s.col
 else if frmP s.rect x y = 0 then c else ⟨frmP s.rect x y, ovC s.col c.back, c.back, false, false⟩
set_option maxRecDepth 100000 in
theorem con_any (s : St) (g : List (List Gl)) (tv : Value) (c : Ce) (x y : Int) (w : World) (hg : Grid w.heap.size w tv g) (hs : s.Wf) (hc : c.Wf) (hm : mayR s.rect = true) (hk : s.kind = 1 ∨ s.kind = 2 ∨ s.kind = 3)
  (i1 : s.rect.x ≤ x) (i2 : x < s.rect.x + s.rect.wd) (i3 : s.rect.y ≤ y) (i4 : y < s.rect.y + s.rect.ht) :
  Calls Tryz.prog 54 #[.agg #[.int .u8 (s).kind, .int .i64 (s).rect.x, .int .i64 (s).rect.y, .int .i64 (s).rect.wd, .int .i64 (s).rect.ht, .int .u8 (s).col.r, .int .u8 (s).col.g, .int .u8 (s).col.b, .int .u8 (s).col.a, .int .u8 (s).back.r, .int .u8 (s).back.g, .int .u8 (s).back.b, .int .u8 (s).back.a, .string (s).text, .int .i64 (s).node, tv], .agg #[.int .i32 (c).rune, .int .u8 (c).col.r, .int .u8 (c).col.g, .int .u8 (c).col.b, .int .u8 (c).col.a, .int .u8 (c).back.r, .int .u8 (c).back.g, .int .u8 (c).back.b, .int .u8 (c).back.a, .bool (c).wide, .bool (c).tail], .agg #[.int .i64 (x), .int .i64 (y)]] w fun e w' => e = .returned (.agg #[.int .i32 ((madeC c s g x y)).rune, .int .u8 ((madeC c s g x y)).col.r, .int .u8 ((madeC c s g x y)).col.g, .int .u8 ((madeC c s g x y)).col.b, .int .u8 ((madeC c s g x y)).col.a, .int .u8 ((madeC c s g x y)).back.r, .int .u8 ((madeC c s g x y)).back.g, .int .u8 ((madeC c s g x y)).back.b, .int .u8 ((madeC c s g x y)).back.a, .bool ((madeC c s g x y)).wide, .bool ((madeC c s g x y)).tail]) ∧ Below w.heap.size w w' := by
 obtain ⟨R, hR⟩ := exx (madeC c s g x y); rw [hR]
 have FL := fun w => cfill_any c s.col w hc hs.2.2.1
 have FR := fun w => cframed_any s.rect x y w hm i1 i2 i3 i4
 have O1 := fun w => covr_any s.back c.back w hs.2.2.2.1 hc.2.2
 have O2 := fun w => covr_any s.col (ovC s.back c.back) w hs.2.2.1 (ovC_wf hs.2.2.2.1 hc.2.2)
 have O3 := fun w => covr_any s.col c.back w hs.2.2.1 hc.2.2
 have hbd := may_bd hm; obtain ⟨ts, tc, rfl, hmax⟩ := hg.shape; unfold madeC at hR; obtain ⟨X, hX⟩ : ∃ X : Nat, x - s.rect.x = (X : Int) := ⟨(x - s.rect.x).toNat, by omega⟩; obtain ⟨Y, hY⟩ : ∃ Y : Nat, y - s.rect.y = (Y : Int) := ⟨(y - s.rect.y).toNat, by omega⟩; rw [hX, hY, Int.toNat_natCast, Int.toNat_natCast] at hR; obtain ⟨fc, hfc⟩ := exx (fillC c s.col); obtain ⟨ob, hob⟩ := exx (ovC s.back c.back); rw [hfc] at FL hR; rw [hob] at O1 O2 hR; obtain ⟨oc, hoc⟩ := exx (ovC s.col ob); rw [hoc] at O2 hR; obtain ⟨od, hod⟩ := exx (ovC s.col c.back); rw [hod] at O3 hR; obtain ⟨fr, hfr⟩ := exx (frmP s.rect x y)
 rw [hfr] at FR hR; clear hfc hob hoc hod hfr
 have bX : X ≤ 20000000 := by omega
 have bY : Y ≤ 20000000 := by omega
 unfold maxLen at hmax; replace hg := hdh hg; obtain ⟨kd, ⟨qx, qy, qw, qh⟩, ⟨s0, s1, s2, s3⟩, ⟨t0, t1, t2, t3⟩, tx, nd⟩ := s; obtain ⟨ru, ⟨c0, c1, c2, c3⟩, ⟨d0, d1, d2, d3⟩, wi, ta⟩ := c; obtain ⟨G, hG⟩ := exx (g.length); dsimp only at hR FL FR O1 O2 O3 hbd hX hY hk ⊢; rw [hG] at hg hmax ⊢; replace FL := hdh FL; replace FR := hdh FR; replace O1 := hdh O1; replace O2 := hdh O2; replace O3 := hdh O3; replace hG := hdh hG; clear hm i1 i2 i3 i4 hs hc
 go_enter Tryz.func54, Tryz.ntmps54
 go_upto_region 1 with fail
 obtain ⟨W, hW⟩ := exx ((((w.alloc (.cells #[.int .u8 kd, .int .i64 qx, .int .i64 qy, .int .i64 qw, .int .i64 qh, .int .u8 s0, .int .u8 s1, .int .u8 s2, .int .u8 s3, .int .u8 t0, .int .u8 t1, .int .u8 t2, .int .u8 t3, .string tx, .int .i64 nd, .slice ts G tc] 94)).alloc (.cells #[.int .i32 ru, .int .u8 c0, .int .u8 c1, .int .u8 c2, .int .u8 c3, .int .u8 d0, .int .u8 d1, .int .u8 d2, .int .u8 d3, .bool wi, .bool ta] 47)).alloc (.cells #[.int .i64 x, .int .i64 y] 30)).alloc (.cells #[.int .i32 0, .int .u8 0, .int .u8 0, .int .u8 0, .int .u8 0, .int .u8 0, .int .u8 0, .int .u8 0, .int .u8 0, .bool false, .bool false] 47))
 have B3 : Blk W w.heap.size [.int .u8 kd, .int .i64 qx, .int .i64 qy, .int .i64 qw, .int .i64 qh, .int .u8 s0, .int .u8 s1, .int .u8 s2, .int .u8 s3, .int .u8 t0, .int .u8 t1, .int .u8 t2, .int .u8 t3, .string tx, .int .i64 nd, .slice ts G tc] 94 := by rw [← hW]; exact (((Blk.new' rfl).alloc _).alloc _).alloc _
 have B4 : Blk W (w.heap.size + 1) [.int .i32 ru, .int .u8 c0, .int .u8 c1, .int .u8 c2, .int .u8 c3, .int .u8 d0, .int .u8 d1, .int .u8 d2, .int .u8 d3, .bool wi, .bool ta] 47 := by rw [← hW]; exact ((Blk.new' (by simp)).alloc _).alloc _
 have B5 : Blk W (w.heap.size + 1 + 1) [.int .i64 x, .int .i64 y] 30 := by rw [← hW]; exact (Blk.new' (by simp)).alloc _
 have B6 : Blk W (w.heap.size + 1 + 1 + 1) [.int .i32 0, .int .u8 0, .int .u8 0, .int .u8 0, .int .u8 0, .int .u8 0, .int .u8 0, .int .u8 0, .int .u8 0, .bool false, .bool false] 47 := by rw [← hW]; exact Blk.new' (by simp)
 have hbw : Below w.heap.size w W := by rw [← hW]; exact belt
 rw [hW]; clear hW; have y3 := B3.lt; have y4 := B4.lt; have y5 := B5.lt; have y6 := B6.lt; have p0 := B3.cell (o := 0) rfl; have p1 := B3.cell (o := 1) rfl; have p2 := B3.cell (o := 2) rfl; have p3 := B3.cell (o := 3) rfl; have p4 := B3.cell (o := 4) rfl; have p5 := B3.cell (o := 5) rfl; have p6 := B3.cell (o := 6) rfl; have p7 := B3.cell (o := 7) rfl; have p8 := B3.cell (o := 8) rfl; have p9 := B3.cell (o := 9) rfl; have p10 := B3.cell (o := 10) rfl; have p11 := B3.cell (o := 11) rfl; have p12 := B3.cell (o := 12) rfl; have p13 := B3.cell (o := 13) rfl; have p14 := B3.cell (o := 14) rfl; have p15 := B3.cell (o := 15) rfl
 obtain ⟨m0, m1, m2, m3, m4, m5, m6, m7, m8, m9, m10⟩ := B4.c11; have n0 := B5.cell (o := 0) rfl; have n1 := B5.cell (o := 1) rfl
 rcases hk with rfl | rfl | rfl
 ·-- a fill
  simp only [if_neg (show ¬ (1 : Int) = 3 by omega), if_true] at hR
  by_cases ka : s3 = 0
  ·rw [if_pos ka] at hR
   subst hR
   have kb : (s3 == 0) = true := by simp [ka]
   clear ka; have jr0 := (B6).cell (o := 0) rfl; have jr1 := (B6).cell (o := 1) rfl; have jr2 := (B6).cell (o := 2) rfl; have jr3 := (B6).cell (o := 3) rfl; have jr4 := (B6).cell (o := 4) rfl; have jr5 := (B6).cell (o := 5) rfl; have jr6 := (B6).cell (o := 6) rfl; have jr7 := (B6).cell (o := 7) rfl; have jr8 := (B6).cell (o := 8) rfl; have jr9 := (B6).cell (o := 9) rfl; have jr10 := (B6).cell (o := 10) rfl; have jrf := (B6).free; go_wp2; clear jr0 jr1 jr2 jr3 jr4 jr5 jr6 jr7 jr8 jr9 jr10 jrf; have HZ := Blk.put11 B6 rfl (.int .i32 ru) (.int .u8 c0) (.int .u8 c1) (.int .u8 c2) (.int .u8 c3) (.int .u8 d0) (.int .u8 d1) (.int .u8 d2) (.int .u8 d3) (.bool wi) (.bool ta)
   have hbZ := put11_below hbw (b := (w.heap.size + 1 + 1 + 1)) (by omega) (.int .i32 ru) (.int .u8 c0) (.int .u8 c1) (.int .u8 c2) (.int .u8 c3) (.int .u8 d0) (.int .u8 d1) (.int .u8 d2) (.int .u8 d3) (.bool wi) (.bool ta); generalize (((((((((((W).setCell ⟨(w.heap.size + 1 + 1 + 1), 0, none⟩ (.int .i32 ru)).setCell ⟨(w.heap.size + 1 + 1 + 1), 1, none⟩ (.int .u8 c0)).setCell ⟨(w.heap.size + 1 + 1 + 1), 2, none⟩ (.int .u8 c1)).setCell ⟨(w.heap.size + 1 + 1 + 1), 3, none⟩ (.int .u8 c2)).setCell ⟨(w.heap.size + 1 + 1 + 1), 4, none⟩ (.int .u8 c3)).setCell ⟨(w.heap.size + 1 + 1 + 1), 5, none⟩ (.int .u8 d0)).setCell ⟨(w.heap.size + 1 + 1 + 1), 6, none⟩ (.int .u8 d1)).setCell ⟨(w.heap.size + 1 + 1 + 1), 7, none⟩ (.int .u8 d2)).setCell ⟨(w.heap.size + 1 + 1 + 1), 8, none⟩ (.int .u8 d3)).setCell ⟨(w.heap.size + 1 + 1 + 1), 9, none⟩ (.bool wi)).setCell ⟨(w.heap.size + 1 + 1 + 1), 10, none⟩ (.bool ta) = wZ at HZ hbZ ⊢
   obtain ⟨jz0, jz1, jz2, jz3, jz4, jz5, jz6, jz7, jz8, jz9, jz10⟩ := HZ.c11; refine bodyPost_ret (v := .agg #[(.int .i32 ru), (.int .u8 c0), (.int .u8 c1), (.int .u8 c2), (.int .u8 c3), (.int .u8 d0), (.int .u8 d1), (.int .u8 d2), (.int .u8 d3), (.bool wi), (.bool ta)]) (by simp [results, Tryz.results54, go_sem, jz0, jz1, jz2, jz3, jz4, jz5, jz6, jz7, jz8, jz9, jz10]) rfl ⟨rfl, hbZ⟩
  ·rw [if_neg ka] at hR
   subst hR
   have kb : (s3 == 0) = false := by simp [ka]
   clear ka
   go_upto_region 5 with fail
   go_wp2_with (go_at_call 100; (with_reducible refine cmm (FL.out _) fun w2 hb2 => ?_); have B6 := B6.below hb2 y6; have hbw2 := hbw.trans (hb2.mono hbw.size); have y62 := B6.lt; have jr0 := (B6).cell (o := 0) rfl; have jr1 := (B6).cell (o := 1) rfl; have jr2 := (B6).cell (o := 2) rfl; have jr3 := (B6).cell (o := 3) rfl; have jr4 := (B6).cell (o := 4) rfl; have jr5 := (B6).cell (o := 5) rfl; have jr6 := (B6).cell (o := 6) rfl; have jr7 := (B6).cell (o := 7) rfl; have jr8 := (B6).cell (o := 8) rfl; have jr9 := (B6).cell (o := 9) rfl; have jr10 := (B6).cell (o := 10) rfl; have jrf := (B6).free)
   clear jr0 jr1 jr2 jr3 jr4 jr5 jr6 jr7 jr8 jr9 jr10 jrf; have HZ := Blk.put11 B6 rfl (.int .i32 fc.rune) (.int .u8 fc.col.r) (.int .u8 fc.col.g) (.int .u8 fc.col.b) (.int .u8 fc.col.a) (.int .u8 fc.back.r) (.int .u8 fc.back.g) (.int .u8 fc.back.b) (.int .u8 fc.back.a) (.bool fc.wide) (.bool fc.tail); have hbZ := put11_below hbw2 (b := (w.heap.size + 1 + 1 + 1)) (by omega) (.int .i32 fc.rune) (.int .u8 fc.col.r) (.int .u8 fc.col.g) (.int .u8 fc.col.b) (.int .u8 fc.col.a) (.int .u8 fc.back.r) (.int .u8 fc.back.g) (.int .u8 fc.back.b) (.int .u8 fc.back.a) (.bool fc.wide) (.bool fc.tail); generalize (((((((((((w2).setCell ⟨(w.heap.size + 1 + 1 + 1), 0, none⟩ (.int .i32 fc.rune)).setCell ⟨(w.heap.size + 1 + 1 + 1), 1, none⟩ (.int .u8 fc.col.r)).setCell ⟨(w.heap.size + 1 + 1 + 1), 2, none⟩ (.int .u8 fc.col.g)).setCell ⟨(w.heap.size + 1 + 1 + 1), 3, none⟩ (.int .u8 fc.col.b)).setCell ⟨(w.heap.size + 1 + 1 + 1), 4, none⟩ (.int .u8 fc.col.a)).setCell ⟨(w.heap.size + 1 + 1 + 1), 5, none⟩ (.int .u8 fc.back.r)).setCell ⟨(w.heap.size + 1 + 1 + 1), 6, none⟩ (.int .u8 fc.back.g)).setCell ⟨(w.heap.size + 1 + 1 + 1), 7, none⟩ (.int .u8 fc.back.b)).setCell ⟨(w.heap.size + 1 + 1 + 1), 8, none⟩ (.int .u8 fc.back.a)).setCell ⟨(w.heap.size + 1 + 1 + 1), 9, none⟩ (.bool fc.wide)).setCell ⟨(w.heap.size + 1 + 1 + 1), 10, none⟩ (.bool fc.tail) = wZ at HZ hbZ ⊢
   obtain ⟨jz0, jz1, jz2, jz3, jz4, jz5, jz6, jz7, jz8, jz9, jz10⟩ := HZ.c11; refine bodyPost_ret (v := .agg #[(.int .i32 fc.rune), (.int .u8 fc.col.r), (.int .u8 fc.col.g), (.int .u8 fc.col.b), (.int .u8 fc.col.a), (.int .u8 fc.back.r), (.int .u8 fc.back.g), (.int .u8 fc.back.b), (.int .u8 fc.back.a), (.bool fc.wide), (.bool fc.tail)]) (by simp [results, Tryz.results54, go_sem, jz0, jz1, jz2, jz3, jz4, jz5, jz6, jz7, jz8, jz9, jz10]) rfl ⟨rfl, hbZ⟩
 ·-- a frame
  simp only [if_neg (show ¬ (2 : Int) = 3 by omega), if_neg (show ¬ (2 : Int) = 1 by omega)] at hR
  by_cases ka : s3 = 0
  ·rw [if_pos ka] at hR
   subst hR
   have kb : (s3 == 0) = true := by simp [ka]
   clear ka; have jr0 := (B6).cell (o := 0) rfl; have jr1 := (B6).cell (o := 1) rfl; have jr2 := (B6).cell (o := 2) rfl; have jr3 := (B6).cell (o := 3) rfl; have jr4 := (B6).cell (o := 4) rfl; have jr5 := (B6).cell (o := 5) rfl; have jr6 := (B6).cell (o := 6) rfl; have jr7 := (B6).cell (o := 7) rfl; have jr8 := (B6).cell (o := 8) rfl; have jr9 := (B6).cell (o := 9) rfl; have jr10 := (B6).cell (o := 10) rfl; have jrf := (B6).free; go_wp2; clear jr0 jr1 jr2 jr3 jr4 jr5 jr6 jr7 jr8 jr9 jr10 jrf; have HZ := Blk.put11 B6 rfl (.int .i32 ru) (.int .u8 c0) (.int .u8 c1) (.int .u8 c2) (.int .u8 c3) (.int .u8 d0) (.int .u8 d1) (.int .u8 d2) (.int .u8 d3) (.bool wi) (.bool ta)
   have hbZ := put11_below hbw (b := (w.heap.size + 1 + 1 + 1)) (by omega) (.int .i32 ru) (.int .u8 c0) (.int .u8 c1) (.int .u8 c2) (.int .u8 c3) (.int .u8 d0) (.int .u8 d1) (.int .u8 d2) (.int .u8 d3) (.bool wi) (.bool ta); generalize (((((((((((W).setCell ⟨(w.heap.size + 1 + 1 + 1), 0, none⟩ (.int .i32 ru)).setCell ⟨(w.heap.size + 1 + 1 + 1), 1, none⟩ (.int .u8 c0)).setCell ⟨(w.heap.size + 1 + 1 + 1), 2, none⟩ (.int .u8 c1)).setCell ⟨(w.heap.size + 1 + 1 + 1), 3, none⟩ (.int .u8 c2)).setCell ⟨(w.heap.size + 1 + 1 + 1), 4, none⟩ (.int .u8 c3)).setCell ⟨(w.heap.size + 1 + 1 + 1), 5, none⟩ (.int .u8 d0)).setCell ⟨(w.heap.size + 1 + 1 + 1), 6, none⟩ (.int .u8 d1)).setCell ⟨(w.heap.size + 1 + 1 + 1), 7, none⟩ (.int .u8 d2)).setCell ⟨(w.heap.size + 1 + 1 + 1), 8, none⟩ (.int .u8 d3)).setCell ⟨(w.heap.size + 1 + 1 + 1), 9, none⟩ (.bool wi)).setCell ⟨(w.heap.size + 1 + 1 + 1), 10, none⟩ (.bool ta) = wZ at HZ hbZ ⊢
   obtain ⟨jz0, jz1, jz2, jz3, jz4, jz5, jz6, jz7, jz8, jz9, jz10⟩ := HZ.c11; refine bodyPost_ret (v := .agg #[(.int .i32 ru), (.int .u8 c0), (.int .u8 c1), (.int .u8 c2), (.int .u8 c3), (.int .u8 d0), (.int .u8 d1), (.int .u8 d2), (.int .u8 d3), (.bool wi), (.bool ta)]) (by simp [results, Tryz.results54, go_sem, jz0, jz1, jz2, jz3, jz4, jz5, jz6, jz7, jz8, jz9, jz10]) rfl ⟨rfl, hbZ⟩
  ·rw [if_neg ka] at hR
   have kb : (s3 == 0) = false := by simp [ka]
   clear ka
   go_upto_region 7 with (go_at_call 101; (with_reducible refine cmm (FR.out _) fun w2 hb2 => ?_))
   replace B4 := B4.below hb2 y4; replace B3 := B3.below hb2 y3; replace B6 := B6.below hb2 y6; replace hbw := hbw.trans (hb2.mono hbw.size); clear p0 p1 p2 p3 p4 p5 p6 p7 p8 p9 p10 p11 p12 p13 p14 p15 m0 m1 m2 m3 m4 m5 m6 m7 m8 m9 m10 n0 n1; have y3 := B3.lt; have y4 := B4.lt; have y6 := B6.lt; have p5 := B3.cell (o := 5) rfl; have p6 := B3.cell (o := 6) rfl; have p7 := B3.cell (o := 7) rfl; have p8 := B3.cell (o := 8) rfl; obtain ⟨m0, m1, m2, m3, m4, m5, m6, m7, m8, m9, m10⟩ := B4.c11
   by_cases kf : fr = 0
   ·rw [if_pos kf] at hR
    subst hR
    have kg : (fr == 0) = true := by simp [kf]
    have kh : (fr != 0) = false := by simp [kf]
    clear kf; have jr0 := (B6).cell (o := 0) rfl; have jr1 := (B6).cell (o := 1) rfl; have jr2 := (B6).cell (o := 2) rfl; have jr3 := (B6).cell (o := 3) rfl; have jr4 := (B6).cell (o := 4) rfl; have jr5 := (B6).cell (o := 5) rfl; have jr6 := (B6).cell (o := 6) rfl; have jr7 := (B6).cell (o := 7) rfl; have jr8 := (B6).cell (o := 8) rfl; have jr9 := (B6).cell (o := 9) rfl; have jr10 := (B6).cell (o := 10) rfl; have jrf := (B6).free; go_wp2; clear jr0 jr1 jr2 jr3 jr4 jr5 jr6 jr7 jr8 jr9 jr10 jrf; have HZ := Blk.put11 B6 rfl (.int .i32 ru) (.int .u8 c0) (.int .u8 c1) (.int .u8 c2) (.int .u8 c3) (.int .u8 d0) (.int .u8 d1) (.int .u8 d2) (.int .u8 d3) (.bool wi) (.bool ta)
    have hbZ := put11_below hbw (b := (w.heap.size + 1 + 1 + 1)) (by omega) (.int .i32 ru) (.int .u8 c0) (.int .u8 c1) (.int .u8 c2) (.int .u8 c3) (.int .u8 d0) (.int .u8 d1) (.int .u8 d2) (.int .u8 d3) (.bool wi) (.bool ta); generalize (((((((((((w2).setCell ⟨(w.heap.size + 1 + 1 + 1), 0, none⟩ (.int .i32 ru)).setCell ⟨(w.heap.size + 1 + 1 + 1), 1, none⟩ (.int .u8 c0)).setCell ⟨(w.heap.size + 1 + 1 + 1), 2, none⟩ (.int .u8 c1)).setCell ⟨(w.heap.size + 1 + 1 + 1), 3, none⟩ (.int .u8 c2)).setCell ⟨(w.heap.size + 1 + 1 + 1), 4, none⟩ (.int .u8 c3)).setCell ⟨(w.heap.size + 1 + 1 + 1), 5, none⟩ (.int .u8 d0)).setCell ⟨(w.heap.size + 1 + 1 + 1), 6, none⟩ (.int .u8 d1)).setCell ⟨(w.heap.size + 1 + 1 + 1), 7, none⟩ (.int .u8 d2)).setCell ⟨(w.heap.size + 1 + 1 + 1), 8, none⟩ (.int .u8 d3)).setCell ⟨(w.heap.size + 1 + 1 + 1), 9, none⟩ (.bool wi)).setCell ⟨(w.heap.size + 1 + 1 + 1), 10, none⟩ (.bool ta) = wZ at HZ hbZ ⊢
    obtain ⟨jz0, jz1, jz2, jz3, jz4, jz5, jz6, jz7, jz8, jz9, jz10⟩ := HZ.c11; refine bodyPost_ret (v := .agg #[(.int .i32 ru), (.int .u8 c0), (.int .u8 c1), (.int .u8 c2), (.int .u8 c3), (.int .u8 d0), (.int .u8 d1), (.int .u8 d2), (.int .u8 d3), (.bool wi), (.bool ta)]) (by simp [results, Tryz.results54, go_sem, jz0, jz1, jz2, jz3, jz4, jz5, jz6, jz7, jz8, jz9, jz10]) rfl ⟨rfl, hbZ⟩
   ·rw [if_neg kf] at hR
    subst hR
    have kg : (fr == 0) = false := by simp [kf]
    have kh : (fr != 0) = true := by simp [kf]
    clear kf
    go_upto_region 8 with fail
    refine wp_region_steady_then (Held w2 0 []) 10 (by kernel_rfl) (by kernel_rfl) (by decide) (by kernel_rfl) (by kernel_rfl) ⟨belt, (by (try simp) <;> omega), (by first | exact trivial | (simp only [Cells]; go_simp))⟩ ?_; simp only [List.take_succ_cons, List.take_zero]
    repeat (first | (refine' wpSteady_do _ _ _; rotate_left; (focus rfl); (focus (intro w1 hS R hR; have hc := hS.cells; simp only [Cells] at hc; obtain ⟨hco, hfo⟩ := bcell hS.old; go_simp; (try go_bits); first | exact hR _ hS | (go_at_call 102; (with_reducible refine cmm (O3.out _) fun w2 hb2 => ?_); exact ⟨_, rfl, hR _ (hS.below hb2)⟩))); simp only [pu]) | (refine spa ?_; simp only [pu]))
    refine wpSteady_nil (fun uA hSA => ?_); obtain ⟨hcA, hbA, hzA, hcoA, hfoA⟩ := hall hSA; clear hSA; simp only [Cells] at hcA; simp only [List.drop_succ_cons, List.drop_zero, List.drop_nil]; replace B6 := B6.below hbA y6; replace hbw := hbw.trans (hbA.mono hbw.size); have yA := B6.lt; clear hcA hcoA hfoA hbA; have jr0 := (B6).cell (o := 0) rfl; have jr1 := (B6).cell (o := 1) rfl; have jr2 := (B6).cell (o := 2) rfl; have jr3 := (B6).cell (o := 3) rfl; have jr4 := (B6).cell (o := 4) rfl; have jr5 := (B6).cell (o := 5) rfl; have jr6 := (B6).cell (o := 6) rfl; have jr7 := (B6).cell (o := 7) rfl; have jr8 := (B6).cell (o := 8) rfl
    have jr9 := (B6).cell (o := 9) rfl; have jr10 := (B6).cell (o := 10) rfl; have jrf := (B6).free; go_wp2; clear jr0 jr1 jr2 jr3 jr4 jr5 jr6 jr7 jr8 jr9 jr10 jrf; have HZ := Blk.put11 B6 rfl (.int .i32 fr) (.int .u8 od.r) (.int .u8 od.g) (.int .u8 od.b) (.int .u8 od.a) (.int .u8 d0) (.int .u8 d1) (.int .u8 d2) (.int .u8 d3) (.bool false) (.bool false); have hbZ := put11_below hbw (b := (w.heap.size + 1 + 1 + 1)) (by omega) (.int .i32 fr) (.int .u8 od.r) (.int .u8 od.g) (.int .u8 od.b) (.int .u8 od.a) (.int .u8 d0) (.int .u8 d1) (.int .u8 d2) (.int .u8 d3) (.bool false) (.bool false); generalize (((((((((((uA).setCell ⟨(w.heap.size + 1 + 1 + 1), 0, none⟩ (.int .i32 fr)).setCell ⟨(w.heap.size + 1 + 1 + 1), 1, none⟩ (.int .u8 od.r)).setCell ⟨(w.heap.size + 1 + 1 + 1), 2, none⟩ (.int .u8 od.g)).setCell ⟨(w.heap.size + 1 + 1 + 1), 3, none⟩ (.int .u8 od.b)).setCell ⟨(w.heap.size + 1 + 1 + 1), 4, none⟩ (.int .u8 od.a)).setCell ⟨(w.heap.size + 1 + 1 + 1), 5, none⟩ (.int .u8 d0)).setCell ⟨(w.heap.size + 1 + 1 + 1), 6, none⟩ (.int .u8 d1)).setCell ⟨(w.heap.size + 1 + 1 + 1), 7, none⟩ (.int .u8 d2)).setCell ⟨(w.heap.size + 1 + 1 + 1), 8, none⟩ (.int .u8 d3)).setCell ⟨(w.heap.size + 1 + 1 + 1), 9, none⟩ (.bool false)).setCell ⟨(w.heap.size + 1 + 1 + 1), 10, none⟩ (.bool false) = wZ at HZ hbZ ⊢
    obtain ⟨jz0, jz1, jz2, jz3, jz4, jz5, jz6, jz7, jz8, jz9, jz10⟩ := HZ.c11; refine bodyPost_ret (v := .agg #[(.int .i32 fr), (.int .u8 od.r), (.int .u8 od.g), (.int .u8 od.b), (.int .u8 od.a), (.int .u8 d0), (.int .u8 d1), (.int .u8 d2), (.int .u8 d3), (.bool false), (.bool false)]) (by simp [results, Tryz.results54, go_sem, jz0, jz1, jz2, jz3, jz4, jz5, jz6, jz7, jz8, jz9, jz10]) rfl ⟨rfl, hbZ⟩
 ·-- a text
  simp only [if_true] at hR
  go_upto_region 10 with fail
  refine rst (Held W 0 []) ?_
  repeat (first | (refine' sdo ?_; simp only [pu]) | (refine spa ?_; simp only [pu]))
  refine wpSteady_nil (fun uA hSA => ?_); obtain ⟨hcA, hbA, hzA, hcoA, hfoA⟩ := hall hSA; clear hSA; simp only [Cells] at hcA; replace B3 := B3.below hbA y3; replace B4 := B4.below hbA y4; replace B6 := B6.below hbA y6; replace hbw := hbw.trans (hbA.mono hbw.size); have hgA := hdh (hg.out.below hbw); clear p0 p1 p2 p3 p4 p5 p6 p7 p8 p9 p10 p11 p12 p13 p14 p15 m0 m1 m2 m3 m4 m5 m6 m7 m8 m9 m10 n0 n1 hcA hcoA hfoA hbA B5 y5; have y3 := B3.lt; have y4 := B4.lt; have y6 := B6.lt; have p5 := B3.cell (o := 5) rfl; have p6 := B3.cell (o := 6) rfl; have p7 := B3.cell (o := 7) rfl; have p8 := B3.cell (o := 8) rfl
  have p9 := B3.cell (o := 9) rfl; have p10 := B3.cell (o := 10) rfl; have p11 := B3.cell (o := 11) rfl; have p12 := B3.cell (o := 12) rfl; have p15 := B3.cell (o := 15) rfl; obtain ⟨m0, m1, m2, m3, m4, m5, m6, m7, m8, m9, m10⟩ := B4.c11
  by_cases gY : Y < G
  ·obtain ⟨r, hr⟩ := get_at hG.out gY
   obtain ⟨b, off, cap, sv, sc, e, hbB, hrl, hcell, hrow⟩ := hgA.out.at_ hr; simp only [Value.slice.injEq] at e; obtain ⟨rfl, _, rfl⟩ := e
   have yb : b < uA.heap.size := by have := hbw.size; omega
   have gYi : ¬ (Y : Int) ≥ (G : Int) := by omega
   have gYj : (Y : Int) < (G : Int) := by omega
   have e1 : glyAt g X Y = r[X]? := by unfold glyAt; rw [hr]; rfl
   rw [e1] at hR; clear e1; obtain ⟨Rl, hRl⟩ := exx (r.length); rw [hRl] at hcell hrl; unfold maxLen at hrl
   by_cases gX : X < Rl
   ·obtain ⟨k, hk⟩ := get_at hRl gX
    rw [hk] at hR; subst hR; obtain ⟨b', off', cap', e, hbB', k0, k1, k2⟩ := Gl.at_ hrow hk; rw [hRl] at e; simp only [Value.slice.injEq] at e; obtain ⟨rfl, _, rfl⟩ := e
    have yb' : b' < uA.heap.size := by have := hbw.size; omega
    have gXi : ¬ (X : Int) ≥ (Rl : Int) := by omega
    have gXj : (X : Int) < (Rl : Int) := by omega
    replace hk := hdh hk; replace hr := hdh hr; replace hRl := hdh hRl; clear hrow hgA hg; obtain ⟨gr, gw, gt⟩ := k; simp only at k0 k1 k2 ⊢
    go_upto_region 13 with fail
    go_cut [10, 11] (fun v10 v11 wx => ∃ b14 b15, v10 = .pointer (some ⟨b14, 0, none⟩) ∧ v11 = .pointer (some ⟨b15, 0, none⟩) ∧ Blk wx b14 [.int .i32 gr, .bool gw, .bool gt] 150 ∧ Blk wx b15 [.int .u8 ob.r, .int .u8 ob.g, .int .u8 ob.b, .int .u8 ob.a] 34 ∧ Below uA.heap.size uA wx)
    case first =>
     refine held_begin (Held uA 0 []) (by kernel_rfl) ⟨Below.drew (Below.refl _ _), Nat.le_refl _, trivial⟩ (fun hS => ?_); generalize uA.drew = u0 at hS ⊢
     (refine' hdo 0 hS ?_; simp only [pu])
     (refine' hdo 1 hS ?_; simp only [pu])
     (refine' hdo 2 hS ?_; simp only [pu])
     (refine' hdo 3 hS ?_; simp only [pu])
     (refine' hdo 4 hS ?_; simp only [pu])
     (refine' hdo 5 hS ?_; simp only [pu])
     (refine' hdo 6 hS ?_; simp only [pu])
     (refine' hdo 7 hS ?_; simp only [pu])
     (refine' hdo 8 hS ?_; simp only [pu])
     (refine' hdo 9 hS ?_; simp only [pu])
     (refine' hdo 10 hS ?_; simp only [pu])
     (refine' hdo 11 hS ?_; simp only [pu])
     (refine' hdo 12 hS ?_; simp only [pu])
     (refine' held_three (i := 13) (j := 14) (k := 15) rfl rfl rfl (by kernel_rfl) _ _ _ _ _ _; (focus rfl); (focus rfl); (focus rfl))
     ·intro K hK
      go_simp
      refine (O1.out _).mono ?_
      rintro e v1 ⟨rfl, hbq⟩
      have hT : Held uA 0 [] v1 := hS.below hbq; refine hK _ _ hT ?_; clear hK hS hbq
      (try simp only [pu])
      have hS := hT; clear hT
      (refine' held_two (i := 14) (j := 15) rfl rfl (by kernel_rfl) _ _ _ _; (focus rfl); (focus rfl))
      ·intro K hK
       go_simp
       obtain ⟨v2, hv⟩ := exx (v1.alloc (.cells #[.int .i32 0, .bool false, .bool false] 150)); have hT := held_alloc hS hv; have Bb14 := Blk.new_eq hv; have gb14 := held_size hS; rw [hv]; clear hv; generalize v1.heap.size = b14 at Bb14 gb14 ⊢; refine hK _ _ hT ?_; clear hK hS
       (try simp only [pu])
       have hS := hT; clear hT
       (refine honn 15 fun K hK => ?_; go_simp)
       obtain ⟨v3, hv⟩ := exx (v2.alloc (.cells #[.int .u8 0, .int .u8 0, .int .u8 0, .int .u8 0] 34)); have hT := held_alloc hS hv; have nb14b15 : b14 ≠ v2.heap.size := Nat.ne_of_lt Bb14.lt; replace Bb14 := Bb14.alloc_eq hv; have Bb15 := Blk.new_eq hv; have gb15 := held_size hS; rw [hv]; clear hv; generalize v2.heap.size = b15 at Bb15 gb15 nb14b15 ⊢; refine hK _ _ hT ?_; clear hK hS
       (try simp only [pu])
       have hS := hT; clear hT
       (refine' held_one (i := 16) _ (by kernel_rfl) _ _; rotate_left; (focus exact geti); (focus rfl); intro K hK)
       have f0 := Bb14.cell (o := 0) rfl; have f1 := Bb14.cell (o := 1) rfl; have f2 := Bb14.cell (o := 2) rfl; have ff := Bb14.free; have yb := Bb14.lt
       go_simp
       obtain ⟨v4, hv⟩ := exx ((((v3).setCell ⟨b14, 0, none⟩ (.int .i32 gr)).setCell ⟨b14, 1, none⟩ (.bool gw)).setCell ⟨b14, 2, none⟩ (.bool gt))
       have hk : KeptBut (· = b14) v3 v4 := by rw [← hv]; repeat (first | refine KeptBut.setCell ?_ _ _ rfl | exact KeptBut.refl _ _)
       have hT := held_kept hS hk gb14; replace Bb15 := Bb15.but hk (by omega); replace Bb14 := (((Bb14).set 0 (.int .i32 gr)).set 1 (.bool gw)).set 2 (.bool gt); rw [hv] at Bb14 ⊢; clear hv hk ff yb f0 f1 f2; refine hK _ _ hT ?_; clear hK hS
       (try simp only [pu])
       have hS := hT; clear hT
       (refine' held_one (i := 17) _ (by kernel_rfl) _ _; rotate_left; (focus exact geti); (focus rfl); intro K hK)
       have f0 := Bb15.cell (o := 0) rfl; have f1 := Bb15.cell (o := 1) rfl; have f2 := Bb15.cell (o := 2) rfl; have f3 := Bb15.cell (o := 3) rfl; have ff := Bb15.free; have yb := Bb15.lt
       go_simp
       obtain ⟨v5, hv⟩ := exx (((((v4).setCell ⟨b15, 0, none⟩ (.int .u8 ob.r)).setCell ⟨b15, 1, none⟩ (.int .u8 ob.g)).setCell ⟨b15, 2, none⟩ (.int .u8 ob.b)).setCell ⟨b15, 3, none⟩ (.int .u8 ob.a))
       have hk : KeptBut (· = b15) v4 v5 := by rw [← hv]; repeat (first | refine KeptBut.setCell ?_ _ _ rfl | exact KeptBut.refl _ _)
       have hT := held_kept hS hk gb15; replace Bb14 := Bb14.but hk (by omega); replace Bb15 := ((((Bb15).set 0 (.int .u8 ob.r)).set 1 (.int .u8 ob.g)).set 2 (.int .u8 ob.b)).set 3 (.int .u8 ob.a); rw [hv] at Bb15 ⊢; clear hv hk ff yb f0 f1 f2 f3; refine hK _ _ hT ?_; clear hK hS
       (try simp only [pu])
       have hS := hT; clear hT; refine wpAnyH_done (by kernel_rfl) ?_ _; go_wp2; go_meet
       case rel => exact ⟨b14, b15, rfl, rfl, Bb14, Bb15, hS.1⟩
      ·intro K hK
       go_simp
       obtain ⟨v6, hv⟩ := exx (v1.alloc (.cells #[.int .u8 0, .int .u8 0, .int .u8 0, .int .u8 0] 34)); have hT := held_alloc hS hv; have Bb15 := Blk.new_eq hv; have gb15 := held_size hS; rw [hv]; clear hv; generalize v1.heap.size = b15 at Bb15 gb15 ⊢; refine hK _ _ hT ?_; clear hK hS
       (try simp only [pu])
       have hS := hT; clear hT
       (refine honn 14 fun K hK => ?_; go_simp)
       obtain ⟨v7, hv⟩ := exx (v6.alloc (.cells #[.int .i32 0, .bool false, .bool false] 150)); have hT := held_alloc hS hv; have nb15b14 : b15 ≠ v6.heap.size := Nat.ne_of_lt Bb15.lt; replace Bb15 := Bb15.alloc_eq hv; have Bb14 := Blk.new_eq hv; have gb14 := held_size hS; rw [hv]; clear hv; generalize v6.heap.size = b14 at Bb14 gb14 nb15b14 ⊢; refine hK _ _ hT ?_; clear hK hS
       (try simp only [pu])
       have hS := hT; clear hT
       (refine' held_one (i := 16) _ (by kernel_rfl) _ _; rotate_left; (focus exact geti); (focus rfl); intro K hK)
       have f0 := Bb14.cell (o := 0) rfl; have f1 := Bb14.cell (o := 1) rfl; have f2 := Bb14.cell (o := 2) rfl; have ff := Bb14.free; have yb := Bb14.lt
       go_simp
       obtain ⟨v8, hv⟩ := exx ((((v7).setCell ⟨b14, 0, none⟩ (.int .i32 gr)).setCell ⟨b14, 1, none⟩ (.bool gw)).setCell ⟨b14, 2, none⟩ (.bool gt))
       have hk : KeptBut (· = b14) v7 v8 := by rw [← hv]; repeat (first | refine KeptBut.setCell ?_ _ _ rfl | exact KeptBut.refl _ _)
       have hT := held_kept hS hk gb14; replace Bb15 := Bb15.but hk (by omega); replace Bb14 := (((Bb14).set 0 (.int .i32 gr)).set 1 (.bool gw)).set 2 (.bool gt); rw [hv] at Bb14 ⊢; clear hv hk ff yb f0 f1 f2; refine hK _ _ hT ?_; clear hK hS
       (try simp only [pu])
       have hS := hT; clear hT
       (refine' held_one (i := 17) _ (by kernel_rfl) _ _; rotate_left; (focus exact geti); (focus rfl); intro K hK)
       have f0 := Bb15.cell (o := 0) rfl; have f1 := Bb15.cell (o := 1) rfl; have f2 := Bb15.cell (o := 2) rfl; have f3 := Bb15.cell (o := 3) rfl; have ff := Bb15.free; have yb := Bb15.lt
       go_simp
       obtain ⟨v9, hv⟩ := exx (((((v8).setCell ⟨b15, 0, none⟩ (.int .u8 ob.r)).setCell ⟨b15, 1, none⟩ (.int .u8 ob.g)).setCell ⟨b15, 2, none⟩ (.int .u8 ob.b)).setCell ⟨b15, 3, none⟩ (.int .u8 ob.a))
       have hk : KeptBut (· = b15) v8 v9 := by rw [← hv]; repeat (first | refine KeptBut.setCell ?_ _ _ rfl | exact KeptBut.refl _ _)
       have hT := held_kept hS hk gb15; replace Bb14 := Bb14.but hk (by omega); replace Bb15 := ((((Bb15).set 0 (.int .u8 ob.r)).set 1 (.int .u8 ob.g)).set 2 (.int .u8 ob.b)).set 3 (.int .u8 ob.a); rw [hv] at Bb15 ⊢; clear hv hk ff yb f0 f1 f2 f3; refine hK _ _ hT ?_; clear hK hS
       (try simp only [pu])
       have hS := hT; clear hT; refine wpAnyH_done (by kernel_rfl) ?_ _; go_wp2; go_meet
       case rel => exact ⟨b14, b15, rfl, rfl, Bb14, Bb15, hS.1⟩
     ·intro K hK
      go_simp
      obtain ⟨v10, hv⟩ := exx (u0.alloc (.cells #[.int .i32 0, .bool false, .bool false] 150)); have hT := held_alloc hS hv; have Bb14 := Blk.new_eq hv; have gb14 := held_size hS; rw [hv]; clear hv; generalize u0.heap.size = b14 at Bb14 gb14 ⊢; refine hK _ _ hT ?_; clear hK hS
      (try simp only [pu])
      have hS := hT; clear hT
      (refine' held_two (i := 13) (j := 15) rfl rfl (by kernel_rfl) _ _ _ _; (focus rfl); (focus rfl))
      ·intro K hK
       go_simp
       refine (O1.out _).mono ?_
       rintro e v11 ⟨rfl, hbq⟩
       have hT : Held uA 0 [] v11 := hS.below hbq; have Bb14 := Bb14.below hbq Bb14.lt; refine hK _ _ hT ?_; clear hK hS hbq
       (try simp only [pu])
       have hS := hT; clear hT
       (refine honn 15 fun K hK => ?_; go_simp)
       obtain ⟨v12, hv⟩ := exx (v11.alloc (.cells #[.int .u8 0, .int .u8 0, .int .u8 0, .int .u8 0] 34)); have hT := held_alloc hS hv; have nb14b15 : b14 ≠ v11.heap.size := Nat.ne_of_lt Bb14.lt; replace Bb14 := Bb14.alloc_eq hv; have Bb15 := Blk.new_eq hv; have gb15 := held_size hS; rw [hv]; clear hv; generalize v11.heap.size = b15 at Bb15 gb15 nb14b15 ⊢; refine hK _ _ hT ?_; clear hK hS
       (try simp only [pu])
       have hS := hT; clear hT
       (refine' held_one (i := 16) _ (by kernel_rfl) _ _; rotate_left; (focus exact geti); (focus rfl); intro K hK)
       have f0 := Bb14.cell (o := 0) rfl; have f1 := Bb14.cell (o := 1) rfl; have f2 := Bb14.cell (o := 2) rfl; have ff := Bb14.free; have yb := Bb14.lt
       go_simp
       obtain ⟨v13, hv⟩ := exx ((((v12).setCell ⟨b14, 0, none⟩ (.int .i32 gr)).setCell ⟨b14, 1, none⟩ (.bool gw)).setCell ⟨b14, 2, none⟩ (.bool gt))
       have hk : KeptBut (· = b14) v12 v13 := by rw [← hv]; repeat (first | refine KeptBut.setCell ?_ _ _ rfl | exact KeptBut.refl _ _)
       have hT := held_kept hS hk gb14; replace Bb15 := Bb15.but hk (by omega); replace Bb14 := (((Bb14).set 0 (.int .i32 gr)).set 1 (.bool gw)).set 2 (.bool gt); rw [hv] at Bb14 ⊢; clear hv hk ff yb f0 f1 f2; refine hK _ _ hT ?_; clear hK hS
       (try simp only [pu])
       have hS := hT; clear hT
       (refine' held_one (i := 17) _ (by kernel_rfl) _ _; rotate_left; (focus exact geti); (focus rfl); intro K hK)
       have f0 := Bb15.cell (o := 0) rfl; have f1 := Bb15.cell (o := 1) rfl; have f2 := Bb15.cell (o := 2) rfl; have f3 := Bb15.cell (o := 3) rfl; have ff := Bb15.free; have yb := Bb15.lt
       go_simp
       obtain ⟨v14, hv⟩ := exx (((((v13).setCell ⟨b15, 0, none⟩ (.int .u8 ob.r)).setCell ⟨b15, 1, none⟩ (.int .u8 ob.g)).setCell ⟨b15, 2, none⟩ (.int .u8 ob.b)).setCell ⟨b15, 3, none⟩ (.int .u8 ob.a))
       have hk : KeptBut (· = b15) v13 v14 := by rw [← hv]; repeat (first | refine KeptBut.setCell ?_ _ _ rfl | exact KeptBut.refl _ _)
       have hT := held_kept hS hk gb15; replace Bb14 := Bb14.but hk (by omega); replace Bb15 := ((((Bb15).set 0 (.int .u8 ob.r)).set 1 (.int .u8 ob.g)).set 2 (.int .u8 ob.b)).set 3 (.int .u8 ob.a); rw [hv] at Bb15 ⊢; clear hv hk ff yb f0 f1 f2 f3; refine hK _ _ hT ?_; clear hK hS
       (try simp only [pu])
       have hS := hT; clear hT; refine wpAnyH_done (by kernel_rfl) ?_ _; go_wp2; go_meet
       case rel => exact ⟨b14, b15, rfl, rfl, Bb14, Bb15, hS.1⟩
      ·intro K hK
       go_simp
       obtain ⟨v15, hv⟩ := exx (v10.alloc (.cells #[.int .u8 0, .int .u8 0, .int .u8 0, .int .u8 0] 34)); have hT := held_alloc hS hv; have nb14b15 : b14 ≠ v10.heap.size := Nat.ne_of_lt Bb14.lt; replace Bb14 := Bb14.alloc_eq hv; have Bb15 := Blk.new_eq hv; have gb15 := held_size hS; rw [hv]; clear hv; generalize v10.heap.size = b15 at Bb15 gb15 nb14b15 ⊢; refine hK _ _ hT ?_; clear hK hS
       (try simp only [pu])
       have hS := hT; clear hT
       (refine honn 13 fun K hK => ?_; go_simp)
       refine (O1.out _).mono ?_
       rintro e v16 ⟨rfl, hbq⟩
       have hT : Held uA 0 [] v16 := hS.below hbq; have Bb14 := Bb14.below hbq Bb14.lt; have Bb15 := Bb15.below hbq Bb15.lt; refine hK _ _ hT ?_; clear hK hS hbq
       (try simp only [pu])
       have hS := hT; clear hT
       (refine' held_one (i := 16) _ (by kernel_rfl) _ _; rotate_left; (focus exact geti); (focus rfl); intro K hK)
       have f0 := Bb14.cell (o := 0) rfl; have f1 := Bb14.cell (o := 1) rfl; have f2 := Bb14.cell (o := 2) rfl; have ff := Bb14.free; have yb := Bb14.lt
       go_simp
       obtain ⟨v17, hv⟩ := exx ((((v16).setCell ⟨b14, 0, none⟩ (.int .i32 gr)).setCell ⟨b14, 1, none⟩ (.bool gw)).setCell ⟨b14, 2, none⟩ (.bool gt))
       have hk : KeptBut (· = b14) v16 v17 := by rw [← hv]; repeat (first | refine KeptBut.setCell ?_ _ _ rfl | exact KeptBut.refl _ _)
       have hT := held_kept hS hk gb14; replace Bb15 := Bb15.but hk (by omega); replace Bb14 := (((Bb14).set 0 (.int .i32 gr)).set 1 (.bool gw)).set 2 (.bool gt); rw [hv] at Bb14 ⊢; clear hv hk ff yb f0 f1 f2; refine hK _ _ hT ?_; clear hK hS
       (try simp only [pu])
       have hS := hT; clear hT
       (refine' held_one (i := 17) _ (by kernel_rfl) _ _; rotate_left; (focus exact geti); (focus rfl); intro K hK)
       have f0 := Bb15.cell (o := 0) rfl; have f1 := Bb15.cell (o := 1) rfl; have f2 := Bb15.cell (o := 2) rfl; have f3 := Bb15.cell (o := 3) rfl; have ff := Bb15.free; have yb := Bb15.lt
       go_simp
       obtain ⟨v18, hv⟩ := exx (((((v17).setCell ⟨b15, 0, none⟩ (.int .u8 ob.r)).setCell ⟨b15, 1, none⟩ (.int .u8 ob.g)).setCell ⟨b15, 2, none⟩ (.int .u8 ob.b)).setCell ⟨b15, 3, none⟩ (.int .u8 ob.a))
       have hk : KeptBut (· = b15) v17 v18 := by rw [← hv]; repeat (first | refine KeptBut.setCell ?_ _ _ rfl | exact KeptBut.refl _ _)
       have hT := held_kept hS hk gb15; replace Bb14 := Bb14.but hk (by omega); replace Bb15 := ((((Bb15).set 0 (.int .u8 ob.r)).set 1 (.int .u8 ob.g)).set 2 (.int .u8 ob.b)).set 3 (.int .u8 ob.a); rw [hv] at Bb15 ⊢; clear hv hk ff yb f0 f1 f2 f3; refine hK _ _ hT ?_; clear hK hS
       (try simp only [pu])
       have hS := hT; clear hT; refine wpAnyH_done (by kernel_rfl) ?_ _; go_wp2; go_meet
       case rel => exact ⟨b14, b15, rfl, rfl, Bb14, Bb15, hS.1⟩
     ·intro K hK
      go_simp
      obtain ⟨v19, hv⟩ := exx (u0.alloc (.cells #[.int .u8 0, .int .u8 0, .int .u8 0, .int .u8 0] 34)); have hT := held_alloc hS hv; have Bb15 := Blk.new_eq hv; have gb15 := held_size hS; rw [hv]; clear hv; generalize u0.heap.size = b15 at Bb15 gb15 ⊢; refine hK _ _ hT ?_; clear hK hS
      (try simp only [pu])
      have hS := hT; clear hT
      (refine' held_two (i := 13) (j := 14) rfl rfl (by kernel_rfl) _ _ _ _; (focus rfl); (focus rfl))
      ·intro K hK
       go_simp
       refine (O1.out _).mono ?_
       rintro e v20 ⟨rfl, hbq⟩
       have hT : Held uA 0 [] v20 := hS.below hbq; have Bb15 := Bb15.below hbq Bb15.lt; refine hK _ _ hT ?_; clear hK hS hbq
       (try simp only [pu])
       have hS := hT; clear hT
       (refine honn 14 fun K hK => ?_; go_simp)
       obtain ⟨v21, hv⟩ := exx (v20.alloc (.cells #[.int .i32 0, .bool false, .bool false] 150)); have hT := held_alloc hS hv; have nb15b14 : b15 ≠ v20.heap.size := Nat.ne_of_lt Bb15.lt; replace Bb15 := Bb15.alloc_eq hv; have Bb14 := Blk.new_eq hv; have gb14 := held_size hS; rw [hv]; clear hv; generalize v20.heap.size = b14 at Bb14 gb14 nb15b14 ⊢; refine hK _ _ hT ?_; clear hK hS
       (try simp only [pu])
       have hS := hT; clear hT
       (refine' held_one (i := 16) _ (by kernel_rfl) _ _; rotate_left; (focus exact geti); (focus rfl); intro K hK)
       have f0 := Bb14.cell (o := 0) rfl; have f1 := Bb14.cell (o := 1) rfl; have f2 := Bb14.cell (o := 2) rfl; have ff := Bb14.free; have yb := Bb14.lt
       go_simp
       obtain ⟨v22, hv⟩ := exx ((((v21).setCell ⟨b14, 0, none⟩ (.int .i32 gr)).setCell ⟨b14, 1, none⟩ (.bool gw)).setCell ⟨b14, 2, none⟩ (.bool gt))
       have hk : KeptBut (· = b14) v21 v22 := by rw [← hv]; repeat (first | refine KeptBut.setCell ?_ _ _ rfl | exact KeptBut.refl _ _)
       have hT := held_kept hS hk gb14; replace Bb15 := Bb15.but hk (by omega); replace Bb14 := (((Bb14).set 0 (.int .i32 gr)).set 1 (.bool gw)).set 2 (.bool gt); rw [hv] at Bb14 ⊢; clear hv hk ff yb f0 f1 f2; refine hK _ _ hT ?_; clear hK hS
       (try simp only [pu])
       have hS := hT; clear hT
       (refine' held_one (i := 17) _ (by kernel_rfl) _ _; rotate_left; (focus exact geti); (focus rfl); intro K hK)
       have f0 := Bb15.cell (o := 0) rfl; have f1 := Bb15.cell (o := 1) rfl; have f2 := Bb15.cell (o := 2) rfl; have f3 := Bb15.cell (o := 3) rfl; have ff := Bb15.free; have yb := Bb15.lt
       go_simp
       obtain ⟨v23, hv⟩ := exx (((((v22).setCell ⟨b15, 0, none⟩ (.int .u8 ob.r)).setCell ⟨b15, 1, none⟩ (.int .u8 ob.g)).setCell ⟨b15, 2, none⟩ (.int .u8 ob.b)).setCell ⟨b15, 3, none⟩ (.int .u8 ob.a))
       have hk : KeptBut (· = b15) v22 v23 := by rw [← hv]; repeat (first | refine KeptBut.setCell ?_ _ _ rfl | exact KeptBut.refl _ _)
       have hT := held_kept hS hk gb15; replace Bb14 := Bb14.but hk (by omega); replace Bb15 := ((((Bb15).set 0 (.int .u8 ob.r)).set 1 (.int .u8 ob.g)).set 2 (.int .u8 ob.b)).set 3 (.int .u8 ob.a); rw [hv] at Bb15 ⊢; clear hv hk ff yb f0 f1 f2 f3; refine hK _ _ hT ?_; clear hK hS
       (try simp only [pu])
       have hS := hT; clear hT; refine wpAnyH_done (by kernel_rfl) ?_ _; go_wp2; go_meet
       case rel => exact ⟨b14, b15, rfl, rfl, Bb14, Bb15, hS.1⟩
      ·intro K hK
       go_simp
       obtain ⟨v24, hv⟩ := exx (v19.alloc (.cells #[.int .i32 0, .bool false, .bool false] 150)); have hT := held_alloc hS hv; have nb15b14 : b15 ≠ v19.heap.size := Nat.ne_of_lt Bb15.lt; replace Bb15 := Bb15.alloc_eq hv; have Bb14 := Blk.new_eq hv; have gb14 := held_size hS; rw [hv]; clear hv; generalize v19.heap.size = b14 at Bb14 gb14 nb15b14 ⊢; refine hK _ _ hT ?_; clear hK hS
       (try simp only [pu])
       have hS := hT; clear hT
       (refine honn 13 fun K hK => ?_; go_simp)
       refine (O1.out _).mono ?_
       rintro e v25 ⟨rfl, hbq⟩
       have hT : Held uA 0 [] v25 := hS.below hbq; have Bb15 := Bb15.below hbq Bb15.lt; have Bb14 := Bb14.below hbq Bb14.lt; refine hK _ _ hT ?_; clear hK hS hbq
       (try simp only [pu])
       have hS := hT; clear hT
       (refine' held_one (i := 16) _ (by kernel_rfl) _ _; rotate_left; (focus exact geti); (focus rfl); intro K hK)
       have f0 := Bb14.cell (o := 0) rfl; have f1 := Bb14.cell (o := 1) rfl; have f2 := Bb14.cell (o := 2) rfl; have ff := Bb14.free; have yb := Bb14.lt
       go_simp
       obtain ⟨v26, hv⟩ := exx ((((v25).setCell ⟨b14, 0, none⟩ (.int .i32 gr)).setCell ⟨b14, 1, none⟩ (.bool gw)).setCell ⟨b14, 2, none⟩ (.bool gt))
       have hk : KeptBut (· = b14) v25 v26 := by rw [← hv]; repeat (first | refine KeptBut.setCell ?_ _ _ rfl | exact KeptBut.refl _ _)
       have hT := held_kept hS hk gb14; replace Bb15 := Bb15.but hk (by omega); replace Bb14 := (((Bb14).set 0 (.int .i32 gr)).set 1 (.bool gw)).set 2 (.bool gt); rw [hv] at Bb14 ⊢; clear hv hk ff yb f0 f1 f2; refine hK _ _ hT ?_; clear hK hS
       (try simp only [pu])
       have hS := hT; clear hT
       (refine' held_one (i := 17) _ (by kernel_rfl) _ _; rotate_left; (focus exact geti); (focus rfl); intro K hK)
       have f0 := Bb15.cell (o := 0) rfl; have f1 := Bb15.cell (o := 1) rfl; have f2 := Bb15.cell (o := 2) rfl; have f3 := Bb15.cell (o := 3) rfl; have ff := Bb15.free; have yb := Bb15.lt
       go_simp
       obtain ⟨v27, hv⟩ := exx (((((v26).setCell ⟨b15, 0, none⟩ (.int .u8 ob.r)).setCell ⟨b15, 1, none⟩ (.int .u8 ob.g)).setCell ⟨b15, 2, none⟩ (.int .u8 ob.b)).setCell ⟨b15, 3, none⟩ (.int .u8 ob.a))
       have hk : KeptBut (· = b15) v26 v27 := by rw [← hv]; repeat (first | refine KeptBut.setCell ?_ _ _ rfl | exact KeptBut.refl _ _)
       have hT := held_kept hS hk gb15; replace Bb14 := Bb14.but hk (by omega); replace Bb15 := ((((Bb15).set 0 (.int .u8 ob.r)).set 1 (.int .u8 ob.g)).set 2 (.int .u8 ob.b)).set 3 (.int .u8 ob.a); rw [hv] at Bb15 ⊢; clear hv hk ff yb f0 f1 f2 f3; refine hK _ _ hT ?_; clear hK hS
       (try simp only [pu])
       have hS := hT; clear hT; refine wpAnyH_done (by kernel_rfl) ?_ _; go_wp2; go_meet
       case rel => exact ⟨b14, b15, rfl, rfl, Bb14, Bb15, hS.1⟩
    case rest =>
     obtain ⟨b14, b15, rfl, rfl, G14, G15, hbc⟩ := hcut; replace B3 := B3.below hbc y3; replace B4 := B4.below hbc y4; replace B6 := B6.below hbc y6; replace hbw := hbw.trans (hbc.mono hbw.size); clear p5 p6 p7 p8 p9 p10 p11 p12 p15 m0 m1 m2 m3 m4 m5 m6 m7 m8 m9 m10 k0 k1 k2 hcell yb yb' hbc; have y3 := B3.lt; have y6 := B6.lt; have y14 := G14.lt; have y15 := G15.lt; have p5 := B3.cell (o := 5) rfl; have p6 := B3.cell (o := 6) rfl; have p7 := B3.cell (o := 7) rfl; have p8 := B3.cell (o := 8) rfl; have q0 := G14.cell (o := 0) rfl; have q1 := G14.cell (o := 1) rfl; have q2 := G14.cell (o := 2) rfl; have r0 := G15.cell (o := 0) rfl
     have r1 := G15.cell (o := 1) rfl; have r2 := G15.cell (o := 2) rfl; have r3 := G15.cell (o := 3) rfl
     go_upto_region 14 with fail
     refine wp_region_steady_then (Held wc 0 []) 13 (by kernel_rfl) (by kernel_rfl) (by decide) (by kernel_rfl) (by kernel_rfl) ⟨belt, (by (try simp) <;> omega), (by first | exact trivial | (simp only [Cells]; go_simp))⟩ ?_; simp only [List.take_succ_cons, List.take_zero]
     repeat (first | (refine' wpSteady_do _ _ _; rotate_left; (focus rfl); (focus (intro w1 hS R hR; have hc := hS.cells; simp only [Cells] at hc; obtain ⟨hco, hfo⟩ := bcell hS.old; go_simp; (try go_bits); first | exact hR _ hS | (go_at_call 102; (with_reducible refine cmm (O2.out _) fun w2 hb2 => ?_); exact ⟨_, rfl, hR _ (hS.below hb2)⟩))); simp only [pu]) | (refine spa ?_; simp only [pu]))
     refine wpSteady_nil (fun uC hSC => ?_); obtain ⟨hcC, hbC, hzC, hcoC, hfoC⟩ := hall hSC; clear hSC; simp only [Cells] at hcC; simp only [List.drop_succ_cons, List.drop_zero, List.drop_nil]; replace B6 := B6.below hbC y6; replace hbw := hbw.trans (hbC.mono hbw.size); have yC := B6.lt; clear hcC hcoC hfoC hbC p5 p6 p7 p8 q0 q1 q2 r0 r1 r2 r3; have jr0 := (B6).cell (o := 0) rfl; have jr1 := (B6).cell (o := 1) rfl; have jr2 := (B6).cell (o := 2) rfl; have jr3 := (B6).cell (o := 3) rfl; have jr4 := (B6).cell (o := 4) rfl; have jr5 := (B6).cell (o := 5) rfl; have jr6 := (B6).cell (o := 6) rfl; have jr7 := (B6).cell (o := 7) rfl
     have jr8 := (B6).cell (o := 8) rfl; have jr9 := (B6).cell (o := 9) rfl; have jr10 := (B6).cell (o := 10) rfl; have jrf := (B6).free; go_wp2; clear jr0 jr1 jr2 jr3 jr4 jr5 jr6 jr7 jr8 jr9 jr10 jrf; have HZ := Blk.put11 B6 rfl (.int .i32 gr) (.int .u8 oc.r) (.int .u8 oc.g) (.int .u8 oc.b) (.int .u8 oc.a) (.int .u8 ob.r) (.int .u8 ob.g) (.int .u8 ob.b) (.int .u8 ob.a) (.bool gw) (.bool gt); have hbZ := put11_below hbw (b := (w.heap.size + 1 + 1 + 1)) (by omega) (.int .i32 gr) (.int .u8 oc.r) (.int .u8 oc.g) (.int .u8 oc.b) (.int .u8 oc.a) (.int .u8 ob.r) (.int .u8 ob.g) (.int .u8 ob.b) (.int .u8 ob.a) (.bool gw) (.bool gt)
     generalize (((((((((((uC).setCell ⟨(w.heap.size + 1 + 1 + 1), 0, none⟩ (.int .i32 gr)).setCell ⟨(w.heap.size + 1 + 1 + 1), 1, none⟩ (.int .u8 oc.r)).setCell ⟨(w.heap.size + 1 + 1 + 1), 2, none⟩ (.int .u8 oc.g)).setCell ⟨(w.heap.size + 1 + 1 + 1), 3, none⟩ (.int .u8 oc.b)).setCell ⟨(w.heap.size + 1 + 1 + 1), 4, none⟩ (.int .u8 oc.a)).setCell ⟨(w.heap.size + 1 + 1 + 1), 5, none⟩ (.int .u8 ob.r)).setCell ⟨(w.heap.size + 1 + 1 + 1), 6, none⟩ (.int .u8 ob.g)).setCell ⟨(w.heap.size + 1 + 1 + 1), 7, none⟩ (.int .u8 ob.b)).setCell ⟨(w.heap.size + 1 + 1 + 1), 8, none⟩ (.int .u8 ob.a)).setCell ⟨(w.heap.size + 1 + 1 + 1), 9, none⟩ (.bool gw)).setCell ⟨(w.heap.size + 1 + 1 + 1), 10, none⟩ (.bool gt) = wZ at HZ hbZ ⊢
     obtain ⟨jz0, jz1, jz2, jz3, jz4, jz5, jz6, jz7, jz8, jz9, jz10⟩ := HZ.c11; refine bodyPost_ret (v := .agg #[(.int .i32 gr), (.int .u8 oc.r), (.int .u8 oc.g), (.int .u8 oc.b), (.int .u8 oc.a), (.int .u8 ob.r), (.int .u8 ob.g), (.int .u8 ob.b), (.int .u8 ob.a), (.bool gw), (.bool gt)]) (by simp [results, Tryz.results54, go_sem, jz0, jz1, jz2, jz3, jz4, jz5, jz6, jz7, jz8, jz9, jz10]) rfl ⟨rfl, hbZ⟩
   ·rw [List.getElem?_eq_none (by omega)] at hR
    subst hR
    have gXi : (X : Int) ≥ (Rl : Int) := by omega
    have gXj : ¬ (X : Int) < (Rl : Int) := by omega
    replace hr := hdh hr; replace hRl := hdh hRl; clear hrow hgA hg gX; have jr0 := (B6).cell (o := 0) rfl; have jr1 := (B6).cell (o := 1) rfl; have jr2 := (B6).cell (o := 2) rfl; have jr3 := (B6).cell (o := 3) rfl; have jr4 := (B6).cell (o := 4) rfl; have jr5 := (B6).cell (o := 5) rfl; have jr6 := (B6).cell (o := 6) rfl; have jr7 := (B6).cell (o := 7) rfl; have jr8 := (B6).cell (o := 8) rfl; have jr9 := (B6).cell (o := 9) rfl; have jr10 := (B6).cell (o := 10) rfl; have jrf := (B6).free; go_wp2; clear jr0 jr1 jr2 jr3 jr4 jr5 jr6 jr7 jr8 jr9 jr10 jrf; have HZ := Blk.put11 B6 rfl (.int .i32 ru) (.int .u8 c0) (.int .u8 c1) (.int .u8 c2) (.int .u8 c3) (.int .u8 d0) (.int .u8 d1) (.int .u8 d2) (.int .u8 d3) (.bool wi) (.bool ta)
    have hbZ := put11_below hbw (b := (w.heap.size + 1 + 1 + 1)) (by omega) (.int .i32 ru) (.int .u8 c0) (.int .u8 c1) (.int .u8 c2) (.int .u8 c3) (.int .u8 d0) (.int .u8 d1) (.int .u8 d2) (.int .u8 d3) (.bool wi) (.bool ta); generalize (((((((((((uA).setCell ⟨(w.heap.size + 1 + 1 + 1), 0, none⟩ (.int .i32 ru)).setCell ⟨(w.heap.size + 1 + 1 + 1), 1, none⟩ (.int .u8 c0)).setCell ⟨(w.heap.size + 1 + 1 + 1), 2, none⟩ (.int .u8 c1)).setCell ⟨(w.heap.size + 1 + 1 + 1), 3, none⟩ (.int .u8 c2)).setCell ⟨(w.heap.size + 1 + 1 + 1), 4, none⟩ (.int .u8 c3)).setCell ⟨(w.heap.size + 1 + 1 + 1), 5, none⟩ (.int .u8 d0)).setCell ⟨(w.heap.size + 1 + 1 + 1), 6, none⟩ (.int .u8 d1)).setCell ⟨(w.heap.size + 1 + 1 + 1), 7, none⟩ (.int .u8 d2)).setCell ⟨(w.heap.size + 1 + 1 + 1), 8, none⟩ (.int .u8 d3)).setCell ⟨(w.heap.size + 1 + 1 + 1), 9, none⟩ (.bool wi)).setCell ⟨(w.heap.size + 1 + 1 + 1), 10, none⟩ (.bool ta) = wZ at HZ hbZ ⊢
    obtain ⟨jz0, jz1, jz2, jz3, jz4, jz5, jz6, jz7, jz8, jz9, jz10⟩ := HZ.c11; refine bodyPost_ret (v := .agg #[(.int .i32 ru), (.int .u8 c0), (.int .u8 c1), (.int .u8 c2), (.int .u8 c3), (.int .u8 d0), (.int .u8 d1), (.int .u8 d2), (.int .u8 d3), (.bool wi), (.bool ta)]) (by simp [results, Tryz.results54, go_sem, jz0, jz1, jz2, jz3, jz4, jz5, jz6, jz7, jz8, jz9, jz10]) rfl ⟨rfl, hbZ⟩
  ·have e1 : glyAt g X Y = none := by unfold glyAt; rw [List.getElem?_eq_none (by have := hG.out; omega)]; rfl
   rw [e1] at hR; subst hR
   have gYi : (Y : Int) ≥ (G : Int) := by omega
   have gYj : ¬ (Y : Int) < (G : Int) := by omega
   clear e1 hg hgA gY; have jr0 := (B6).cell (o := 0) rfl; have jr1 := (B6).cell (o := 1) rfl; have jr2 := (B6).cell (o := 2) rfl; have jr3 := (B6).cell (o := 3) rfl; have jr4 := (B6).cell (o := 4) rfl; have jr5 := (B6).cell (o := 5) rfl; have jr6 := (B6).cell (o := 6) rfl; have jr7 := (B6).cell (o := 7) rfl; have jr8 := (B6).cell (o := 8) rfl; have jr9 := (B6).cell (o := 9) rfl; have jr10 := (B6).cell (o := 10) rfl; have jrf := (B6).free; go_wp2; clear jr0 jr1 jr2 jr3 jr4 jr5 jr6 jr7 jr8 jr9 jr10 jrf; have HZ := Blk.put11 B6 rfl (.int .i32 ru) (.int .u8 c0) (.int .u8 c1) (.int .u8 c2) (.int .u8 c3) (.int .u8 d0) (.int .u8 d1) (.int .u8 d2) (.int .u8 d3) (.bool wi) (.bool ta)
   have hbZ := put11_below hbw (b := (w.heap.size + 1 + 1 + 1)) (by omega) (.int .i32 ru) (.int .u8 c0) (.int .u8 c1) (.int .u8 c2) (.int .u8 c3) (.int .u8 d0) (.int .u8 d1) (.int .u8 d2) (.int .u8 d3) (.bool wi) (.bool ta); generalize (((((((((((uA).setCell ⟨(w.heap.size + 1 + 1 + 1), 0, none⟩ (.int .i32 ru)).setCell ⟨(w.heap.size + 1 + 1 + 1), 1, none⟩ (.int .u8 c0)).setCell ⟨(w.heap.size + 1 + 1 + 1), 2, none⟩ (.int .u8 c1)).setCell ⟨(w.heap.size + 1 + 1 + 1), 3, none⟩ (.int .u8 c2)).setCell ⟨(w.heap.size + 1 + 1 + 1), 4, none⟩ (.int .u8 c3)).setCell ⟨(w.heap.size + 1 + 1 + 1), 5, none⟩ (.int .u8 d0)).setCell ⟨(w.heap.size + 1 + 1 + 1), 6, none⟩ (.int .u8 d1)).setCell ⟨(w.heap.size + 1 + 1 + 1), 7, none⟩ (.int .u8 d2)).setCell ⟨(w.heap.size + 1 + 1 + 1), 8, none⟩ (.int .u8 d3)).setCell ⟨(w.heap.size + 1 + 1 + 1), 9, none⟩ (.bool wi)).setCell ⟨(w.heap.size + 1 + 1 + 1), 10, none⟩ (.bool ta) = wZ at HZ hbZ ⊢
   obtain ⟨jz0, jz1, jz2, jz3, jz4, jz5, jz6, jz7, jz8, jz9, jz10⟩ := HZ.c11; refine bodyPost_ret (v := .agg #[(.int .i32 ru), (.int .u8 c0), (.int .u8 c1), (.int .u8 c2), (.int .u8 c3), (.int .u8 d0), (.int .u8 d1), (.int .u8 d2), (.int .u8 d3), (.bool wi), (.bool ta)]) (by simp [results, Tryz.results54, go_sem, jz0, jz1, jz2, jz3, jz4, jz5, jz6, jz7, jz8, jz9, jz10]) rfl ⟨rfl, hbZ⟩
end Go.Proofs.YtfcphagmjijmkaaGreatDoor
