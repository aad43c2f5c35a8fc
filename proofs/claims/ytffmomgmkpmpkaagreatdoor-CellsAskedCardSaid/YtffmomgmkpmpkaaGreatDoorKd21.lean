/-
  Cells: what a stroke makes of a cell at a place, by the document's answer.
-/
import Derived.Shelf.SlSortCmp.WholeK
import Derived.Shelf.Slices.CompactI
import Derived.Shelf.Slices.In.SortNone
import Derived.Shelf.Sort.Plain
import Derived.Sort.OwnSortedInts
import Derived.Test.YtffmomgmkpmpkaaGreatDoorProg
import Derived.Test.YtffmomgmkpmpkaaGreatDoorKd20
namespace Go.Proofs.YtffmomgmkpmpkaaGreatDoor
open Go.RowKit
set_option linter.unusedVariables false
attribute [local go_sem] vwp vUpon_value vUpon_skip vUpon_enter vUpon_row
set_option linter.unusedSimpArgs false
set_option linter.unusedVariables false
set_option maxHeartbeats 16000000 in
set_option maxRecDepth 100000 in
theorem cmade_any (s : St) (g : List (List Gl)) (tv : Value) (c : Ce) (x y : Int) (w : World) (hg : s.kind = 3 → Grid w.heap.size w tv g) (hs : s.Wf) (hc : c.Wf) (hm : mayR s.rect = true) (hk : s.kind = 1 ∨ s.kind = 2 ∨ s.kind = 3)
  (i1 : s.rect.x ≤ x) (i2 : x < s.rect.x + s.rect.wd) (i3 : s.rect.y ≤ y) (i4 : y < s.rect.y + s.rect.ht) :
  Calls Tryz.prog 49 #[.agg #[.int .i32 (c).rune, .int .u8 (c).col.r, .int .u8 (c).col.g, .int .u8 (c).col.b, .int .u8 (c).col.a, .int .u8 (c).back.r, .int .u8 (c).back.g, .int .u8 (c).back.b, .int .u8 (c).back.a, .bool (c).wide, .bool (c).tail], .agg #[.int .u8 s.kind, .int .i64 s.rect.x, .int .i64 s.rect.y, .int .i64 s.rect.wd, .int .i64 s.rect.ht, .int .u8 s.col.r, .int .u8 s.col.g, .int .u8 s.col.b, .int .u8 s.col.a, .int .u8 s.back.r, .int .u8 s.back.g, .int .u8 s.back.b, .int .u8 s.back.a, .string s.text, .int .i64 s.node], tv, .agg #[.int .i64 (x), .int .i64 (y)]] w fun e w' => e = .returned (.agg #[.int .i32 ((madeC c s g x y)).rune, .int .u8 ((madeC c s g x y)).col.r, .int .u8 ((madeC c s g x y)).col.g, .int .u8 ((madeC c s g x y)).col.b, .int .u8 ((madeC c s g x y)).col.a, .int .u8 ((madeC c s g x y)).back.r, .int .u8 ((madeC c s g x y)).back.g, .int .u8 ((madeC c s g x y)).back.b, .int .u8 ((madeC c s g x y)).back.a, .bool ((madeC c s g x y)).wide, .bool ((madeC c s g x y)).tail]) ∧ Below w.heap.size w w' := by
 obtain ⟨R, hR⟩ : ∃ R, madeC c s g x y = R := ⟨_, rfl⟩
 rw [hR]
 have FR := fun w => crframe_any s.rect x y w hm i1 i2 i3 i4
 have O1 := fun w => crovr_any s.back c.back w hs.2.2.2.1 hc.2.2
 have O2 := fun w => crovr_any s.col (ovC s.back c.back) w hs.2.2.1 (ovC_wf hs.2.2.2.1 hc.2.2)
 have O3 := fun w => crovr_any s.col c.back w hs.2.2.1 hc.2.2
 have O4 := fun w => crovr_any s.col c.col w hs.2.2.1 hc.2.1
 have hbd := may_bd hm
 have hs3 := hs.2.2.1.2.2.2
 unfold madeC at hR
 obtain ⟨X, hX⟩ : ∃ X : Nat, x - s.rect.x = (X : Int) := ⟨(x - s.rect.x).toNat, by omega⟩
 obtain ⟨Y, hY⟩ : ∃ Y : Nat, y - s.rect.y = (Y : Int) := ⟨(y - s.rect.y).toNat, by omega⟩
 rw [hX, hY, Int.toNat_natCast, Int.toNat_natCast] at hR
 have bX : X ≤ 20000000 := by omega
 have bY : Y ≤ 20000000 := by omega
 obtain ⟨ob, hob⟩ : ∃ z, ovC s.back c.back = z := ⟨_, rfl⟩
 rw [hob] at O1 O2 hR
 obtain ⟨oc, hoc⟩ : ∃ z, ovC s.col ob = z := ⟨_, rfl⟩
 rw [hoc] at O2 hR
 obtain ⟨fr, hfr⟩ : ∃ z, frmP s.rect x y = z := ⟨_, rfl⟩
 rw [hfr] at FR hR
 unfold fillC at hR
 obtain ⟨od, hod⟩ : ∃ z, ovC s.col c.back = z := ⟨_, rfl⟩
 rw [hod] at O3 hR
 obtain ⟨oe, hoe⟩ : ∃ z, ovC s.col c.col = z := ⟨_, rfl⟩
 rw [hoe] at O4 hR
 clear hob hoc hfr hod hoe
 obtain ⟨kd, ⟨qx, qy, qw, qh⟩, ⟨s0, s1, s2, s3⟩, ⟨t0, t1, t2, t3⟩, tx, nd⟩ := s
 obtain ⟨ru, ⟨c0, c1, c2, c3⟩, ⟨d0, d1, d2, d3⟩, wi, ta⟩ := c
 dsimp only at hR FR O1 O2 O3 O4 hbd hX hY hk hs3 hg ⊢
 obtain ⟨s3a, s3b⟩ := hs3
 replace hg := Lib.hid hg
 replace FR := Lib.hid FR
 replace O1 := Lib.hid O1
 replace O2 := Lib.hid O2
 replace O3 := Lib.hid O3
 replace O4 := Lib.hid O4
 clear hm i1 i2 i3 i4 hs hc
 go_enter Tryz.func49, Tryz.ntmps49
 go_upto_region 1 with fail
 obtain ⟨W, hW⟩ : ∃ W, (((w.alloc (.cells #[.int .i32 ru, .int .u8 c0, .int .u8 c1, .int .u8 c2, .int .u8 c3, .int .u8 d0, .int .u8 d1, .int .u8 d2, .int .u8 d3, .bool wi, .bool ta] 52)).alloc (.cells #[.int .u8 kd, .int .i64 qx, .int .i64 qy, .int .i64 qw, .int .i64 qh, .int .u8 s0, .int .u8 s1, .int .u8 s2, .int .u8 s3, .int .u8 t0, .int .u8 t1, .int .u8 t2, .int .u8 t3, .string tx, .int .i64 nd] 46)).alloc (.cells #[.int .i64 x, .int .i64 y] 40)).alloc (.cells #[.int .i32 0, .int .u8 0, .int .u8 0, .int .u8 0, .int .u8 0, .int .u8 0, .int .u8 0, .int .u8 0, .int .u8 0, .bool false, .bool false] 52) = W := ⟨_, rfl⟩
 have B4 : Blk W w.heap.size [.int .i32 ru, .int .u8 c0, .int .u8 c1, .int .u8 c2, .int .u8 c3, .int .u8 d0, .int .u8 d1, .int .u8 d2, .int .u8 d3, .bool wi, .bool ta] 52 := by rw [← hW]; exact (((Blk.new' rfl).alloc _).alloc _).alloc _
 have B5 : Blk W (w.heap.size + 1) [.int .u8 kd, .int .i64 qx, .int .i64 qy, .int .i64 qw, .int .i64 qh, .int .u8 s0, .int .u8 s1, .int .u8 s2, .int .u8 s3, .int .u8 t0, .int .u8 t1, .int .u8 t2, .int .u8 t3, .string tx, .int .i64 nd] 46 := by rw [← hW]; exact ((Blk.new' (by simp)).alloc _).alloc _
 have B7 : Blk W (w.heap.size + 1 + 1) [.int .i64 x, .int .i64 y] 40 := by rw [← hW]; exact (Blk.new' (by simp)).alloc _
 have B8 : Blk W (w.heap.size + 1 + 1 + 1) [.int .i32 0, .int .u8 0, .int .u8 0, .int .u8 0, .int .u8 0, .int .u8 0, .int .u8 0, .int .u8 0, .int .u8 0, .bool false, .bool false] 52 := by rw [← hW]; exact Blk.new' (by simp)
 have hbw : Below w.heap.size w W := by rw [← hW]; exact belt
 rw [hW]
 clear hW
 have yB4 := B4.lt
 have yB5 := B5.lt
 have yB7 := B7.lt
 have yB8 := B8.lt
 rcases hk with rfl | rfl | rfl
 ·simp only [if_neg (show ¬ (1 : Int) = 3 by omega), if_true] at hR
  by_cases ka : s3 = 0
  ·rw [if_pos ka] at hR
   subst hR
   have kb : (s3 == 0) = true := by simp [ka]
   clear ka
   have p0 := B5.cell (o := 0) rfl
   have p8 := B5.cell (o := 8) rfl
   have jl0 := B4.cell (o := 0) rfl
   have jl1 := B4.cell (o := 1) rfl
   have jl2 := B4.cell (o := 2) rfl
   have jl3 := B4.cell (o := 3) rfl
   have jl4 := B4.cell (o := 4) rfl
   have jl5 := B4.cell (o := 5) rfl
   have jl6 := B4.cell (o := 6) rfl
   have jl7 := B4.cell (o := 7) rfl
   have jl8 := B4.cell (o := 8) rfl
   have jl9 := B4.cell (o := 9) rfl
   have jl10 := B4.cell (o := 10) rfl
   have jr0 := (B8).cell (o := 0) rfl
   have jr1 := (B8).cell (o := 1) rfl
   have jr2 := (B8).cell (o := 2) rfl
   have jr3 := (B8).cell (o := 3) rfl
   have jr4 := (B8).cell (o := 4) rfl
   have jr5 := (B8).cell (o := 5) rfl
   have jr6 := (B8).cell (o := 6) rfl
   have jr7 := (B8).cell (o := 7) rfl
   have jr8 := (B8).cell (o := 8) rfl
   have jr9 := (B8).cell (o := 9) rfl
   have jr10 := (B8).cell (o := 10) rfl
   have jrf := (B8).free
   go_wp2
   clear jr0 jr1 jr2 jr3 jr4 jr5 jr6 jr7 jr8 jr9 jr10 jrf
   have HZ := Blk.put11 B8 rfl (.int .i32 ru) (.int .u8 c0) (.int .u8 c1) (.int .u8 c2) (.int .u8 c3) (.int .u8 d0) (.int .u8 d1) (.int .u8 d2) (.int .u8 d3) (.bool wi) (.bool ta)
   have hbZ := put11_below hbw (b := (w.heap.size + 1 + 1 + 1)) (by omega) (.int .i32 ru) (.int .u8 c0) (.int .u8 c1) (.int .u8 c2) (.int .u8 c3) (.int .u8 d0) (.int .u8 d1) (.int .u8 d2) (.int .u8 d3) (.bool wi) (.bool ta)
   generalize (((((((((((W).setCell ⟨(w.heap.size + 1 + 1 + 1), 0, none⟩ (.int .i32 ru)).setCell ⟨(w.heap.size + 1 + 1 + 1), 1, none⟩ (.int .u8 c0)).setCell ⟨(w.heap.size + 1 + 1 + 1), 2, none⟩ (.int .u8 c1)).setCell ⟨(w.heap.size + 1 + 1 + 1), 3, none⟩ (.int .u8 c2)).setCell ⟨(w.heap.size + 1 + 1 + 1), 4, none⟩ (.int .u8 c3)).setCell ⟨(w.heap.size + 1 + 1 + 1), 5, none⟩ (.int .u8 d0)).setCell ⟨(w.heap.size + 1 + 1 + 1), 6, none⟩ (.int .u8 d1)).setCell ⟨(w.heap.size + 1 + 1 + 1), 7, none⟩ (.int .u8 d2)).setCell ⟨(w.heap.size + 1 + 1 + 1), 8, none⟩ (.int .u8 d3)).setCell ⟨(w.heap.size + 1 + 1 + 1), 9, none⟩ (.bool wi)).setCell ⟨(w.heap.size + 1 + 1 + 1), 10, none⟩ (.bool ta) = wZ at HZ hbZ ⊢
   have jz0 := HZ.cell (o := 0) rfl
   have jz1 := HZ.cell (o := 1) rfl
   have jz2 := HZ.cell (o := 2) rfl
   have jz3 := HZ.cell (o := 3) rfl
   have jz4 := HZ.cell (o := 4) rfl
   have jz5 := HZ.cell (o := 5) rfl
   have jz6 := HZ.cell (o := 6) rfl
   have jz7 := HZ.cell (o := 7) rfl
   have jz8 := HZ.cell (o := 8) rfl
   have jz9 := HZ.cell (o := 9) rfl
   have jz10 := HZ.cell (o := 10) rfl
   refine bodyPost_ret (v := .agg #[(.int .i32 ru), (.int .u8 c0), (.int .u8 c1), (.int .u8 c2), (.int .u8 c3), (.int .u8 d0), (.int .u8 d1), (.int .u8 d2), (.int .u8 d3), (.bool wi), (.bool ta)]) (by simp [results, Tryz.results49, go_sem, jz0, jz1, jz2, jz3, jz4, jz5, jz6, jz7, jz8, jz9, jz10]) rfl ⟨rfl, hbZ⟩
  ·rw [if_neg ka] at hR
   have kb : (s3 == 0) = false := by simp [ka]
   clear ka
   by_cases kc : s3 = 255
   ·rw [if_pos kc] at hR
    subst hR
    subst kc
    clear kb
    have p0 := B5.cell (o := 0) rfl
    have p1 := B5.cell (o := 1) rfl
    have p2 := B5.cell (o := 2) rfl
    have p3 := B5.cell (o := 3) rfl
    have p4 := B5.cell (o := 4) rfl
    have p5 := B5.cell (o := 5) rfl
    have p6 := B5.cell (o := 6) rfl
    have p7 := B5.cell (o := 7) rfl
    have p8 := B5.cell (o := 8) rfl
    have p9 := B5.cell (o := 9) rfl
    have p10 := B5.cell (o := 10) rfl
    have p11 := B5.cell (o := 11) rfl
    have p12 := B5.cell (o := 12) rfl
    have p13 := B5.cell (o := 13) rfl
    have p14 := B5.cell (o := 14) rfl
    have m0 := B4.cell (o := 0) rfl
    have m1 := B4.cell (o := 1) rfl
    have m2 := B4.cell (o := 2) rfl
    have m3 := B4.cell (o := 3) rfl
    have m4 := B4.cell (o := 4) rfl
    have m5 := B4.cell (o := 5) rfl
    have m6 := B4.cell (o := 6) rfl
    have m7 := B4.cell (o := 7) rfl
    have m8 := B4.cell (o := 8) rfl
    have m9 := B4.cell (o := 9) rfl
    have m10 := B4.cell (o := 10) rfl
    have n0 := B7.cell (o := 0) rfl
    have n1 := B7.cell (o := 1) rfl
    have ff := B4.free
    go_upto_region 20 with fail
    clear ff p0 p1 p2 p3 p4 p5 p6 p7 p8 p9 p10 p11 p12 p13 p14 m0 m1 m2 m3 m4 m5 m6 m7 m8 m9 m10 n0 n1
    have hbT : Below w.heap.size w ((((((((((((W).setCell ⟨w.heap.size, 0, none⟩ (.int .i32 32)).setCell ⟨w.heap.size, 1, none⟩ (.int .u8 0)).setCell ⟨w.heap.size, 2, none⟩ (.int .u8 0)).setCell ⟨w.heap.size, 3, none⟩ (.int .u8 0)).setCell ⟨w.heap.size, 4, none⟩ (.int .u8 0)).setCell ⟨w.heap.size, 5, none⟩ (.int .u8 s0)).setCell ⟨w.heap.size, 6, none⟩ (.int .u8 s1)).setCell ⟨w.heap.size, 7, none⟩ (.int .u8 s2)).setCell ⟨w.heap.size, 8, none⟩ (.int .u8 255)).setCell ⟨w.heap.size, 9, none⟩ (.bool false)).setCell ⟨w.heap.size, 10, none⟩ (.bool false)) := (((((((((((hbw).setCell (p := ⟨w.heap.size, 0, none⟩) (by show w.heap.size ≤ w.heap.size; omega) (.int .i32 32)).setCell (p := ⟨w.heap.size, 1, none⟩) (by show w.heap.size ≤ w.heap.size; omega) (.int .u8 0)).setCell (p := ⟨w.heap.size, 2, none⟩) (by show w.heap.size ≤ w.heap.size; omega) (.int .u8 0)).setCell (p := ⟨w.heap.size, 3, none⟩) (by show w.heap.size ≤ w.heap.size; omega) (.int .u8 0)).setCell (p := ⟨w.heap.size, 4, none⟩) (by show w.heap.size ≤ w.heap.size; omega) (.int .u8 0)).setCell (p := ⟨w.heap.size, 5, none⟩) (by show w.heap.size ≤ w.heap.size; omega) (.int .u8 s0)).setCell (p := ⟨w.heap.size, 6, none⟩) (by show w.heap.size ≤ w.heap.size; omega) (.int .u8 s1)).setCell (p := ⟨w.heap.size, 7, none⟩) (by show w.heap.size ≤ w.heap.size; omega) (.int .u8 s2)).setCell (p := ⟨w.heap.size, 8, none⟩) (by show w.heap.size ≤ w.heap.size; omega) (.int .u8 255)).setCell (p := ⟨w.heap.size, 9, none⟩) (by show w.heap.size ≤ w.heap.size; omega) (.bool false)).setCell (p := ⟨w.heap.size, 10, none⟩) (by show w.heap.size ≤ w.heap.size; omega) (.bool false)
    have B8T := (((((((((((B8).set_ne (a := ⟨w.heap.size, 0, none⟩) (by show (w.heap.size + 1 + 1 + 1) ≠ w.heap.size; omega) (.int .i32 32)).set_ne (a := ⟨w.heap.size, 1, none⟩) (by show (w.heap.size + 1 + 1 + 1) ≠ w.heap.size; omega) (.int .u8 0)).set_ne (a := ⟨w.heap.size, 2, none⟩) (by show (w.heap.size + 1 + 1 + 1) ≠ w.heap.size; omega) (.int .u8 0)).set_ne (a := ⟨w.heap.size, 3, none⟩) (by show (w.heap.size + 1 + 1 + 1) ≠ w.heap.size; omega) (.int .u8 0)).set_ne (a := ⟨w.heap.size, 4, none⟩) (by show (w.heap.size + 1 + 1 + 1) ≠ w.heap.size; omega) (.int .u8 0)).set_ne (a := ⟨w.heap.size, 5, none⟩) (by show (w.heap.size + 1 + 1 + 1) ≠ w.heap.size; omega) (.int .u8 s0)).set_ne (a := ⟨w.heap.size, 6, none⟩) (by show (w.heap.size + 1 + 1 + 1) ≠ w.heap.size; omega) (.int .u8 s1)).set_ne (a := ⟨w.heap.size, 7, none⟩) (by show (w.heap.size + 1 + 1 + 1) ≠ w.heap.size; omega) (.int .u8 s2)).set_ne (a := ⟨w.heap.size, 8, none⟩) (by show (w.heap.size + 1 + 1 + 1) ≠ w.heap.size; omega) (.int .u8 255)).set_ne (a := ⟨w.heap.size, 9, none⟩) (by show (w.heap.size + 1 + 1 + 1) ≠ w.heap.size; omega) (.bool false)).set_ne (a := ⟨w.heap.size, 10, none⟩) (by show (w.heap.size + 1 + 1 + 1) ≠ w.heap.size; omega) (.bool false)
    have B4T : Blk ((((((((((((W).setCell ⟨w.heap.size, 0, none⟩ (.int .i32 32)).setCell ⟨w.heap.size, 1, none⟩ (.int .u8 0)).setCell ⟨w.heap.size, 2, none⟩ (.int .u8 0)).setCell ⟨w.heap.size, 3, none⟩ (.int .u8 0)).setCell ⟨w.heap.size, 4, none⟩ (.int .u8 0)).setCell ⟨w.heap.size, 5, none⟩ (.int .u8 s0)).setCell ⟨w.heap.size, 6, none⟩ (.int .u8 s1)).setCell ⟨w.heap.size, 7, none⟩ (.int .u8 s2)).setCell ⟨w.heap.size, 8, none⟩ (.int .u8 255)).setCell ⟨w.heap.size, 9, none⟩ (.bool false)).setCell ⟨w.heap.size, 10, none⟩ (.bool false)) w.heap.size [.int .i32 32, .int .u8 0, .int .u8 0, .int .u8 0, .int .u8 0, .int .u8 s0, .int .u8 s1, .int .u8 s2, .int .u8 255, .bool false, .bool false] _ := (((((((((((B4).set 0 (.int .i32 32)).set 1 (.int .u8 0)).set 2 (.int .u8 0)).set 3 (.int .u8 0)).set 4 (.int .u8 0)).set 5 (.int .u8 s0)).set 6 (.int .u8 s1)).set 7 (.int .u8 s2)).set 8 (.int .u8 255)).set 9 (.bool false)).set 10 (.bool false)
    generalize (((((((((((W).setCell ⟨w.heap.size, 0, none⟩ (.int .i32 32)).setCell ⟨w.heap.size, 1, none⟩ (.int .u8 0)).setCell ⟨w.heap.size, 2, none⟩ (.int .u8 0)).setCell ⟨w.heap.size, 3, none⟩ (.int .u8 0)).setCell ⟨w.heap.size, 4, none⟩ (.int .u8 0)).setCell ⟨w.heap.size, 5, none⟩ (.int .u8 s0)).setCell ⟨w.heap.size, 6, none⟩ (.int .u8 s1)).setCell ⟨w.heap.size, 7, none⟩ (.int .u8 s2)).setCell ⟨w.heap.size, 8, none⟩ (.int .u8 255)).setCell ⟨w.heap.size, 9, none⟩ (.bool false)).setCell ⟨w.heap.size, 10, none⟩ (.bool false) = wB at hbT B4T B8T ⊢
    clear B4
    have B4 := B4T
    clear B4T
    clear B8
    have B8 := B8T
    clear B8T
    clear hbw
    have hbw := hbT
    clear hbT
    have yB4 := B4.lt
    have yB8 := B8.lt
    have jl0 := B4.cell (o := 0) rfl
    have jl1 := B4.cell (o := 1) rfl
    have jl2 := B4.cell (o := 2) rfl
    have jl3 := B4.cell (o := 3) rfl
    have jl4 := B4.cell (o := 4) rfl
    have jl5 := B4.cell (o := 5) rfl
    have jl6 := B4.cell (o := 6) rfl
    have jl7 := B4.cell (o := 7) rfl
    have jl8 := B4.cell (o := 8) rfl
    have jl9 := B4.cell (o := 9) rfl
    have jl10 := B4.cell (o := 10) rfl
    have jr0 := (B8).cell (o := 0) rfl
    have jr1 := (B8).cell (o := 1) rfl
    have jr2 := (B8).cell (o := 2) rfl
    have jr3 := (B8).cell (o := 3) rfl
    have jr4 := (B8).cell (o := 4) rfl
    have jr5 := (B8).cell (o := 5) rfl
    have jr6 := (B8).cell (o := 6) rfl
    have jr7 := (B8).cell (o := 7) rfl
    have jr8 := (B8).cell (o := 8) rfl
    have jr9 := (B8).cell (o := 9) rfl
    have jr10 := (B8).cell (o := 10) rfl
    have jrf := (B8).free
    go_wp2
    clear jr0 jr1 jr2 jr3 jr4 jr5 jr6 jr7 jr8 jr9 jr10 jrf
    have HZ := Blk.put11 B8 rfl (.int .i32 32) (.int .u8 0) (.int .u8 0) (.int .u8 0) (.int .u8 0) (.int .u8 s0) (.int .u8 s1) (.int .u8 s2) (.int .u8 255) (.bool false) (.bool false)
    have hbZ := put11_below hbw (b := (w.heap.size + 1 + 1 + 1)) (by omega) (.int .i32 32) (.int .u8 0) (.int .u8 0) (.int .u8 0) (.int .u8 0) (.int .u8 s0) (.int .u8 s1) (.int .u8 s2) (.int .u8 255) (.bool false) (.bool false)
    generalize (((((((((((wB).setCell ⟨(w.heap.size + 1 + 1 + 1), 0, none⟩ (.int .i32 32)).setCell ⟨(w.heap.size + 1 + 1 + 1), 1, none⟩ (.int .u8 0)).setCell ⟨(w.heap.size + 1 + 1 + 1), 2, none⟩ (.int .u8 0)).setCell ⟨(w.heap.size + 1 + 1 + 1), 3, none⟩ (.int .u8 0)).setCell ⟨(w.heap.size + 1 + 1 + 1), 4, none⟩ (.int .u8 0)).setCell ⟨(w.heap.size + 1 + 1 + 1), 5, none⟩ (.int .u8 s0)).setCell ⟨(w.heap.size + 1 + 1 + 1), 6, none⟩ (.int .u8 s1)).setCell ⟨(w.heap.size + 1 + 1 + 1), 7, none⟩ (.int .u8 s2)).setCell ⟨(w.heap.size + 1 + 1 + 1), 8, none⟩ (.int .u8 255)).setCell ⟨(w.heap.size + 1 + 1 + 1), 9, none⟩ (.bool false)).setCell ⟨(w.heap.size + 1 + 1 + 1), 10, none⟩ (.bool false) = wZ at HZ hbZ ⊢
    have jz0 := HZ.cell (o := 0) rfl
    have jz1 := HZ.cell (o := 1) rfl
    have jz2 := HZ.cell (o := 2) rfl
    have jz3 := HZ.cell (o := 3) rfl
    have jz4 := HZ.cell (o := 4) rfl
    have jz5 := HZ.cell (o := 5) rfl
    have jz6 := HZ.cell (o := 6) rfl
    have jz7 := HZ.cell (o := 7) rfl
    have jz8 := HZ.cell (o := 8) rfl
    have jz9 := HZ.cell (o := 9) rfl
    have jz10 := HZ.cell (o := 10) rfl
    refine bodyPost_ret (v := .agg #[(.int .i32 32), (.int .u8 0), (.int .u8 0), (.int .u8 0), (.int .u8 0), (.int .u8 s0), (.int .u8 s1), (.int .u8 s2), (.int .u8 255), (.bool false), (.bool false)]) (by simp [results, Tryz.results49, go_sem, jz0, jz1, jz2, jz3, jz4, jz5, jz6, jz7, jz8, jz9, jz10]) rfl ⟨rfl, hbZ⟩
   ·rw [if_neg kc] at hR
    have kd : (s3 == 255) = false := by simp [kc]
    clear kc
    subst hR
    have p0 := B5.cell (o := 0) rfl
    have p1 := B5.cell (o := 1) rfl
    have p2 := B5.cell (o := 2) rfl
    have p3 := B5.cell (o := 3) rfl
    have p4 := B5.cell (o := 4) rfl
    have p5 := B5.cell (o := 5) rfl
    have p6 := B5.cell (o := 6) rfl
    have p7 := B5.cell (o := 7) rfl
    have p8 := B5.cell (o := 8) rfl
    have p9 := B5.cell (o := 9) rfl
    have p10 := B5.cell (o := 10) rfl
    have p11 := B5.cell (o := 11) rfl
    have p12 := B5.cell (o := 12) rfl
    have p13 := B5.cell (o := 13) rfl
    have p14 := B5.cell (o := 14) rfl
    have m0 := B4.cell (o := 0) rfl
    have m1 := B4.cell (o := 1) rfl
    have m2 := B4.cell (o := 2) rfl
    have m3 := B4.cell (o := 3) rfl
    have m4 := B4.cell (o := 4) rfl
    have m5 := B4.cell (o := 5) rfl
    have m6 := B4.cell (o := 6) rfl
    have m7 := B4.cell (o := 7) rfl
    have m8 := B4.cell (o := 8) rfl
    have m9 := B4.cell (o := 9) rfl
    have m10 := B4.cell (o := 10) rfl
    have n0 := B7.cell (o := 0) rfl
    have n1 := B7.cell (o := 1) rfl
    have ff := B4.free
    go_upto_region 4 with fail
    go_upto_region 5 with (go_at_call 103; (with_reducible refine (O4.out _).mono ?_); rintro e w2 ⟨rfl, hb2⟩; replace B4 := B4.below hb2 yB4; replace B5 := B5.below hb2 yB5; replace B8 := B8.below hb2 yB8; replace hbw := hbw.trans (hb2.mono hbw.size); have k0 := B4.cell (o := 1) rfl; have k1 := B4.cell (o := 2) rfl; have k2 := B4.cell (o := 3) rfl; have k3 := B4.cell (o := 4) rfl; have ff2 := B4.free)
    clear k0 k1 k2 k3 ff ff2 hb2 p0 p1 p2 p3 p4 p5 p6 p7 p8 p9 p10 p11 p12 p13 p14 m0 m1 m2 m3 m4 m5 m6 m7 m8 m9 m10 n0 n1
    have hbT : Below w.heap.size w (((((w2).setCell ⟨w.heap.size, 1, none⟩ (.int .u8 oe.r)).setCell ⟨w.heap.size, 2, none⟩ (.int .u8 oe.g)).setCell ⟨w.heap.size, 3, none⟩ (.int .u8 oe.b)).setCell ⟨w.heap.size, 4, none⟩ (.int .u8 oe.a)) := ((((hbw).setCell (p := ⟨w.heap.size, 1, none⟩) (by show w.heap.size ≤ w.heap.size; omega) (.int .u8 oe.r)).setCell (p := ⟨w.heap.size, 2, none⟩) (by show w.heap.size ≤ w.heap.size; omega) (.int .u8 oe.g)).setCell (p := ⟨w.heap.size, 3, none⟩) (by show w.heap.size ≤ w.heap.size; omega) (.int .u8 oe.b)).setCell (p := ⟨w.heap.size, 4, none⟩) (by show w.heap.size ≤ w.heap.size; omega) (.int .u8 oe.a)
    have B5T := ((((B5).set_ne (a := ⟨w.heap.size, 1, none⟩) (by show (w.heap.size + 1) ≠ w.heap.size; omega) (.int .u8 oe.r)).set_ne (a := ⟨w.heap.size, 2, none⟩) (by show (w.heap.size + 1) ≠ w.heap.size; omega) (.int .u8 oe.g)).set_ne (a := ⟨w.heap.size, 3, none⟩) (by show (w.heap.size + 1) ≠ w.heap.size; omega) (.int .u8 oe.b)).set_ne (a := ⟨w.heap.size, 4, none⟩) (by show (w.heap.size + 1) ≠ w.heap.size; omega) (.int .u8 oe.a)
    have B8T := ((((B8).set_ne (a := ⟨w.heap.size, 1, none⟩) (by show (w.heap.size + 1 + 1 + 1) ≠ w.heap.size; omega) (.int .u8 oe.r)).set_ne (a := ⟨w.heap.size, 2, none⟩) (by show (w.heap.size + 1 + 1 + 1) ≠ w.heap.size; omega) (.int .u8 oe.g)).set_ne (a := ⟨w.heap.size, 3, none⟩) (by show (w.heap.size + 1 + 1 + 1) ≠ w.heap.size; omega) (.int .u8 oe.b)).set_ne (a := ⟨w.heap.size, 4, none⟩) (by show (w.heap.size + 1 + 1 + 1) ≠ w.heap.size; omega) (.int .u8 oe.a)
    have B4T : Blk (((((w2).setCell ⟨w.heap.size, 1, none⟩ (.int .u8 oe.r)).setCell ⟨w.heap.size, 2, none⟩ (.int .u8 oe.g)).setCell ⟨w.heap.size, 3, none⟩ (.int .u8 oe.b)).setCell ⟨w.heap.size, 4, none⟩ (.int .u8 oe.a)) w.heap.size [.int .i32 ru, .int .u8 oe.r, .int .u8 oe.g, .int .u8 oe.b, .int .u8 oe.a, .int .u8 d0, .int .u8 d1, .int .u8 d2, .int .u8 d3, .bool wi, .bool ta] _ := ((((B4).set 1 (.int .u8 oe.r)).set 2 (.int .u8 oe.g)).set 3 (.int .u8 oe.b)).set 4 (.int .u8 oe.a)
    generalize ((((w2).setCell ⟨w.heap.size, 1, none⟩ (.int .u8 oe.r)).setCell ⟨w.heap.size, 2, none⟩ (.int .u8 oe.g)).setCell ⟨w.heap.size, 3, none⟩ (.int .u8 oe.b)).setCell ⟨w.heap.size, 4, none⟩ (.int .u8 oe.a) = wB at hbT B4T B5T B8T ⊢
    clear B4
    have B4 := B4T
    clear B4T
    clear B5
    have B5 := B5T
    clear B5T
    clear B8
    have B8 := B8T
    clear B8T
    clear hbw
    have hbw := hbT
    clear hbT
    have yB4 := B4.lt
    have yB5 := B5.lt
    have yB8 := B8.lt
    have p5 := B5.cell (o := 5) rfl
    have p6 := B5.cell (o := 6) rfl
    have p7 := B5.cell (o := 7) rfl
    have p8 := B5.cell (o := 8) rfl
    have m0 := B4.cell (o := 0) rfl
    have m1 := B4.cell (o := 1) rfl
    have m2 := B4.cell (o := 2) rfl
    have m3 := B4.cell (o := 3) rfl
    have m4 := B4.cell (o := 4) rfl
    have m5 := B4.cell (o := 5) rfl
    have m6 := B4.cell (o := 6) rfl
    have m7 := B4.cell (o := 7) rfl
    have m8 := B4.cell (o := 8) rfl
    have m9 := B4.cell (o := 9) rfl
    have m10 := B4.cell (o := 10) rfl
    go_upto_region 20 with (go_at_call 103; (with_reducible refine (O3.out _).mono ?_); rintro e w3 ⟨rfl, hb3⟩; replace B4 := B4.below hb3 yB4; replace B8 := B8.below hb3 yB8; replace hbw := hbw.trans (hb3.mono hbw.size); have k0 := B4.cell (o := 5) rfl; have k1 := B4.cell (o := 6) rfl; have k2 := B4.cell (o := 7) rfl; have k3 := B4.cell (o := 8) rfl; have ff2 := B4.free)
    clear k0 k1 k2 k3 ff2 hb3 p5 p6 p7 p8 m0 m1 m2 m3 m4 m5 m6 m7 m8 m9 m10
    have hbT : Below w.heap.size w (((((w3).setCell ⟨w.heap.size, 5, none⟩ (.int .u8 od.r)).setCell ⟨w.heap.size, 6, none⟩ (.int .u8 od.g)).setCell ⟨w.heap.size, 7, none⟩ (.int .u8 od.b)).setCell ⟨w.heap.size, 8, none⟩ (.int .u8 od.a)) := ((((hbw).setCell (p := ⟨w.heap.size, 5, none⟩) (by show w.heap.size ≤ w.heap.size; omega) (.int .u8 od.r)).setCell (p := ⟨w.heap.size, 6, none⟩) (by show w.heap.size ≤ w.heap.size; omega) (.int .u8 od.g)).setCell (p := ⟨w.heap.size, 7, none⟩) (by show w.heap.size ≤ w.heap.size; omega) (.int .u8 od.b)).setCell (p := ⟨w.heap.size, 8, none⟩) (by show w.heap.size ≤ w.heap.size; omega) (.int .u8 od.a)
    have B8T := ((((B8).set_ne (a := ⟨w.heap.size, 5, none⟩) (by show (w.heap.size + 1 + 1 + 1) ≠ w.heap.size; omega) (.int .u8 od.r)).set_ne (a := ⟨w.heap.size, 6, none⟩) (by show (w.heap.size + 1 + 1 + 1) ≠ w.heap.size; omega) (.int .u8 od.g)).set_ne (a := ⟨w.heap.size, 7, none⟩) (by show (w.heap.size + 1 + 1 + 1) ≠ w.heap.size; omega) (.int .u8 od.b)).set_ne (a := ⟨w.heap.size, 8, none⟩) (by show (w.heap.size + 1 + 1 + 1) ≠ w.heap.size; omega) (.int .u8 od.a)
    have B4T : Blk (((((w3).setCell ⟨w.heap.size, 5, none⟩ (.int .u8 od.r)).setCell ⟨w.heap.size, 6, none⟩ (.int .u8 od.g)).setCell ⟨w.heap.size, 7, none⟩ (.int .u8 od.b)).setCell ⟨w.heap.size, 8, none⟩ (.int .u8 od.a)) w.heap.size [.int .i32 ru, .int .u8 oe.r, .int .u8 oe.g, .int .u8 oe.b, .int .u8 oe.a, .int .u8 od.r, .int .u8 od.g, .int .u8 od.b, .int .u8 od.a, .bool wi, .bool ta] _ := ((((B4).set 5 (.int .u8 od.r)).set 6 (.int .u8 od.g)).set 7 (.int .u8 od.b)).set 8 (.int .u8 od.a)
    generalize ((((w3).setCell ⟨w.heap.size, 5, none⟩ (.int .u8 od.r)).setCell ⟨w.heap.size, 6, none⟩ (.int .u8 od.g)).setCell ⟨w.heap.size, 7, none⟩ (.int .u8 od.b)).setCell ⟨w.heap.size, 8, none⟩ (.int .u8 od.a) = wC at hbT B4T B8T ⊢
    clear B4
    have B4 := B4T
    clear B4T
    clear B8
    have B8 := B8T
    clear B8T
    clear hbw
    have hbw := hbT
    clear hbT
    have yB4 := B4.lt
    have yB8 := B8.lt
    have jl0 := B4.cell (o := 0) rfl
    have jl1 := B4.cell (o := 1) rfl
    have jl2 := B4.cell (o := 2) rfl
    have jl3 := B4.cell (o := 3) rfl
    have jl4 := B4.cell (o := 4) rfl
    have jl5 := B4.cell (o := 5) rfl
    have jl6 := B4.cell (o := 6) rfl
    have jl7 := B4.cell (o := 7) rfl
    have jl8 := B4.cell (o := 8) rfl
    have jl9 := B4.cell (o := 9) rfl
    have jl10 := B4.cell (o := 10) rfl
    have jr0 := (B8).cell (o := 0) rfl
    have jr1 := (B8).cell (o := 1) rfl
    have jr2 := (B8).cell (o := 2) rfl
    have jr3 := (B8).cell (o := 3) rfl
    have jr4 := (B8).cell (o := 4) rfl
    have jr5 := (B8).cell (o := 5) rfl
    have jr6 := (B8).cell (o := 6) rfl
    have jr7 := (B8).cell (o := 7) rfl
    have jr8 := (B8).cell (o := 8) rfl
    have jr9 := (B8).cell (o := 9) rfl
    have jr10 := (B8).cell (o := 10) rfl
    have jrf := (B8).free
    go_wp2
    clear jr0 jr1 jr2 jr3 jr4 jr5 jr6 jr7 jr8 jr9 jr10 jrf
    have HZ := Blk.put11 B8 rfl (.int .i32 ru) (.int .u8 oe.r) (.int .u8 oe.g) (.int .u8 oe.b) (.int .u8 oe.a) (.int .u8 od.r) (.int .u8 od.g) (.int .u8 od.b) (.int .u8 od.a) (.bool wi) (.bool ta)
    have hbZ := put11_below hbw (b := (w.heap.size + 1 + 1 + 1)) (by omega) (.int .i32 ru) (.int .u8 oe.r) (.int .u8 oe.g) (.int .u8 oe.b) (.int .u8 oe.a) (.int .u8 od.r) (.int .u8 od.g) (.int .u8 od.b) (.int .u8 od.a) (.bool wi) (.bool ta)
    generalize (((((((((((wC).setCell ⟨(w.heap.size + 1 + 1 + 1), 0, none⟩ (.int .i32 ru)).setCell ⟨(w.heap.size + 1 + 1 + 1), 1, none⟩ (.int .u8 oe.r)).setCell ⟨(w.heap.size + 1 + 1 + 1), 2, none⟩ (.int .u8 oe.g)).setCell ⟨(w.heap.size + 1 + 1 + 1), 3, none⟩ (.int .u8 oe.b)).setCell ⟨(w.heap.size + 1 + 1 + 1), 4, none⟩ (.int .u8 oe.a)).setCell ⟨(w.heap.size + 1 + 1 + 1), 5, none⟩ (.int .u8 od.r)).setCell ⟨(w.heap.size + 1 + 1 + 1), 6, none⟩ (.int .u8 od.g)).setCell ⟨(w.heap.size + 1 + 1 + 1), 7, none⟩ (.int .u8 od.b)).setCell ⟨(w.heap.size + 1 + 1 + 1), 8, none⟩ (.int .u8 od.a)).setCell ⟨(w.heap.size + 1 + 1 + 1), 9, none⟩ (.bool wi)).setCell ⟨(w.heap.size + 1 + 1 + 1), 10, none⟩ (.bool ta) = wZ at HZ hbZ ⊢
    have jz0 := HZ.cell (o := 0) rfl
    have jz1 := HZ.cell (o := 1) rfl
    have jz2 := HZ.cell (o := 2) rfl
    have jz3 := HZ.cell (o := 3) rfl
    have jz4 := HZ.cell (o := 4) rfl
    have jz5 := HZ.cell (o := 5) rfl
    have jz6 := HZ.cell (o := 6) rfl
    have jz7 := HZ.cell (o := 7) rfl
    have jz8 := HZ.cell (o := 8) rfl
    have jz9 := HZ.cell (o := 9) rfl
    have jz10 := HZ.cell (o := 10) rfl
    refine bodyPost_ret (v := .agg #[(.int .i32 ru), (.int .u8 oe.r), (.int .u8 oe.g), (.int .u8 oe.b), (.int .u8 oe.a), (.int .u8 od.r), (.int .u8 od.g), (.int .u8 od.b), (.int .u8 od.a), (.bool wi), (.bool ta)]) (by simp [results, Tryz.results49, go_sem, jz0, jz1, jz2, jz3, jz4, jz5, jz6, jz7, jz8, jz9, jz10]) rfl ⟨rfl, hbZ⟩
 ·simp only [if_neg (show ¬ (2 : Int) = 3 by omega), if_neg (show ¬ (2 : Int) = 1 by omega)] at hR
  have p0 := B5.cell (o := 0) rfl
  have p1 := B5.cell (o := 1) rfl
  have p2 := B5.cell (o := 2) rfl
  have p3 := B5.cell (o := 3) rfl
  have p4 := B5.cell (o := 4) rfl
  have p5 := B5.cell (o := 5) rfl
  have p6 := B5.cell (o := 6) rfl
  have p7 := B5.cell (o := 7) rfl
  have p8 := B5.cell (o := 8) rfl
  have p9 := B5.cell (o := 9) rfl
  have p10 := B5.cell (o := 10) rfl
  have p11 := B5.cell (o := 11) rfl
  have p12 := B5.cell (o := 12) rfl
  have p13 := B5.cell (o := 13) rfl
  have p14 := B5.cell (o := 14) rfl
  have m0 := B4.cell (o := 0) rfl
  have m1 := B4.cell (o := 1) rfl
  have m2 := B4.cell (o := 2) rfl
  have m3 := B4.cell (o := 3) rfl
  have m4 := B4.cell (o := 4) rfl
  have m5 := B4.cell (o := 5) rfl
  have m6 := B4.cell (o := 6) rfl
  have m7 := B4.cell (o := 7) rfl
  have m8 := B4.cell (o := 8) rfl
  have m9 := B4.cell (o := 9) rfl
  have m10 := B4.cell (o := 10) rfl
  have n0 := B7.cell (o := 0) rfl
  have n1 := B7.cell (o := 1) rfl
  go_upto_region 11 with (go_at_call 104; (with_reducible refine (FR.out _).mono ?_); rintro e w2 ⟨rfl, hb2⟩)
  replace B4 := B4.below hb2 yB4
  replace B5 := B5.below hb2 yB5
  replace B8 := B8.below hb2 yB8
  replace hbw := hbw.trans (hb2.mono hbw.size)
  clear hb2 p0 p1 p2 p3 p4 p5 p6 p7 p8 p9 p10 p11 p12 p13 p14 m0 m1 m2 m3 m4 m5 m6 m7 m8 m9 m10 n0 n1
  have yB4 := B4.lt
  have yB5 := B5.lt
  have yB8 := B8.lt
  have p5 := B5.cell (o := 5) rfl
  have p6 := B5.cell (o := 6) rfl
  have p7 := B5.cell (o := 7) rfl
  have p8 := B5.cell (o := 8) rfl
  by_cases kf : fr = 0
  ·have kg : (fr == 0) = true := by simp [kf]
   have kh : (fr != 0) = false := by simp [kf]
   rw [if_pos kf] at hR
   have hR : (⟨ru, ⟨c0, c1, c2, c3⟩, ⟨d0, d1, d2, d3⟩, wi, ta⟩ : Ce) = R := by rw [← hR]; split <;> rfl
   subst hR
   clear kf
   have jl0 := B4.cell (o := 0) rfl
   have jl1 := B4.cell (o := 1) rfl
   have jl2 := B4.cell (o := 2) rfl
   have jl3 := B4.cell (o := 3) rfl
   have jl4 := B4.cell (o := 4) rfl
   have jl5 := B4.cell (o := 5) rfl
   have jl6 := B4.cell (o := 6) rfl
   have jl7 := B4.cell (o := 7) rfl
   have jl8 := B4.cell (o := 8) rfl
   have jl9 := B4.cell (o := 9) rfl
   have jl10 := B4.cell (o := 10) rfl
   have jr0 := (B8).cell (o := 0) rfl
   have jr1 := (B8).cell (o := 1) rfl
   have jr2 := (B8).cell (o := 2) rfl
   have jr3 := (B8).cell (o := 3) rfl
   have jr4 := (B8).cell (o := 4) rfl
   have jr5 := (B8).cell (o := 5) rfl
   have jr6 := (B8).cell (o := 6) rfl
   have jr7 := (B8).cell (o := 7) rfl
   have jr8 := (B8).cell (o := 8) rfl
   have jr9 := (B8).cell (o := 9) rfl
   have jr10 := (B8).cell (o := 10) rfl
   have jrf := (B8).free
   go_wp2
   clear jr0 jr1 jr2 jr3 jr4 jr5 jr6 jr7 jr8 jr9 jr10 jrf
   have HZ := Blk.put11 B8 rfl (.int .i32 ru) (.int .u8 c0) (.int .u8 c1) (.int .u8 c2) (.int .u8 c3) (.int .u8 d0) (.int .u8 d1) (.int .u8 d2) (.int .u8 d3) (.bool wi) (.bool ta)
   have hbZ := put11_below hbw (b := (w.heap.size + 1 + 1 + 1)) (by omega) (.int .i32 ru) (.int .u8 c0) (.int .u8 c1) (.int .u8 c2) (.int .u8 c3) (.int .u8 d0) (.int .u8 d1) (.int .u8 d2) (.int .u8 d3) (.bool wi) (.bool ta)
   generalize (((((((((((w2).setCell ⟨(w.heap.size + 1 + 1 + 1), 0, none⟩ (.int .i32 ru)).setCell ⟨(w.heap.size + 1 + 1 + 1), 1, none⟩ (.int .u8 c0)).setCell ⟨(w.heap.size + 1 + 1 + 1), 2, none⟩ (.int .u8 c1)).setCell ⟨(w.heap.size + 1 + 1 + 1), 3, none⟩ (.int .u8 c2)).setCell ⟨(w.heap.size + 1 + 1 + 1), 4, none⟩ (.int .u8 c3)).setCell ⟨(w.heap.size + 1 + 1 + 1), 5, none⟩ (.int .u8 d0)).setCell ⟨(w.heap.size + 1 + 1 + 1), 6, none⟩ (.int .u8 d1)).setCell ⟨(w.heap.size + 1 + 1 + 1), 7, none⟩ (.int .u8 d2)).setCell ⟨(w.heap.size + 1 + 1 + 1), 8, none⟩ (.int .u8 d3)).setCell ⟨(w.heap.size + 1 + 1 + 1), 9, none⟩ (.bool wi)).setCell ⟨(w.heap.size + 1 + 1 + 1), 10, none⟩ (.bool ta) = wZ at HZ hbZ ⊢
   have jz0 := HZ.cell (o := 0) rfl
   have jz1 := HZ.cell (o := 1) rfl
   have jz2 := HZ.cell (o := 2) rfl
   have jz3 := HZ.cell (o := 3) rfl
   have jz4 := HZ.cell (o := 4) rfl
   have jz5 := HZ.cell (o := 5) rfl
   have jz6 := HZ.cell (o := 6) rfl
   have jz7 := HZ.cell (o := 7) rfl
   have jz8 := HZ.cell (o := 8) rfl
   have jz9 := HZ.cell (o := 9) rfl
   have jz10 := HZ.cell (o := 10) rfl
   refine bodyPost_ret (v := .agg #[(.int .i32 ru), (.int .u8 c0), (.int .u8 c1), (.int .u8 c2), (.int .u8 c3), (.int .u8 d0), (.int .u8 d1), (.int .u8 d2), (.int .u8 d3), (.bool wi), (.bool ta)]) (by simp [results, Tryz.results49, go_sem, jz0, jz1, jz2, jz3, jz4, jz5, jz6, jz7, jz8, jz9, jz10]) rfl ⟨rfl, hbZ⟩
  ·have kg : (fr == 0) = false := by simp [kf]
   have kh : (fr != 0) = true := by simp [kf]
   rw [if_neg kf] at hR
   clear kf
   by_cases ka : s3 = 0
   ·rw [if_pos ka] at hR
    have kb : decide (0 < s3) = false := decide_eq_false (by omega)
    have kb2 : ¬ 0 < s3 := by omega
    clear ka
    subst hR
    have jl0 := B4.cell (o := 0) rfl
    have jl1 := B4.cell (o := 1) rfl
    have jl2 := B4.cell (o := 2) rfl
    have jl3 := B4.cell (o := 3) rfl
    have jl4 := B4.cell (o := 4) rfl
    have jl5 := B4.cell (o := 5) rfl
    have jl6 := B4.cell (o := 6) rfl
    have jl7 := B4.cell (o := 7) rfl
    have jl8 := B4.cell (o := 8) rfl
    have jl9 := B4.cell (o := 9) rfl
    have jl10 := B4.cell (o := 10) rfl
    have jr0 := (B8).cell (o := 0) rfl
    have jr1 := (B8).cell (o := 1) rfl
    have jr2 := (B8).cell (o := 2) rfl
    have jr3 := (B8).cell (o := 3) rfl
    have jr4 := (B8).cell (o := 4) rfl
    have jr5 := (B8).cell (o := 5) rfl
    have jr6 := (B8).cell (o := 6) rfl
    have jr7 := (B8).cell (o := 7) rfl
    have jr8 := (B8).cell (o := 8) rfl
    have jr9 := (B8).cell (o := 9) rfl
    have jr10 := (B8).cell (o := 10) rfl
    have jrf := (B8).free
    go_wp2
    clear jr0 jr1 jr2 jr3 jr4 jr5 jr6 jr7 jr8 jr9 jr10 jrf
    have HZ := Blk.put11 B8 rfl (.int .i32 ru) (.int .u8 c0) (.int .u8 c1) (.int .u8 c2) (.int .u8 c3) (.int .u8 d0) (.int .u8 d1) (.int .u8 d2) (.int .u8 d3) (.bool wi) (.bool ta)
    have hbZ := put11_below hbw (b := (w.heap.size + 1 + 1 + 1)) (by omega) (.int .i32 ru) (.int .u8 c0) (.int .u8 c1) (.int .u8 c2) (.int .u8 c3) (.int .u8 d0) (.int .u8 d1) (.int .u8 d2) (.int .u8 d3) (.bool wi) (.bool ta)
    generalize (((((((((((w2).setCell ⟨(w.heap.size + 1 + 1 + 1), 0, none⟩ (.int .i32 ru)).setCell ⟨(w.heap.size + 1 + 1 + 1), 1, none⟩ (.int .u8 c0)).setCell ⟨(w.heap.size + 1 + 1 + 1), 2, none⟩ (.int .u8 c1)).setCell ⟨(w.heap.size + 1 + 1 + 1), 3, none⟩ (.int .u8 c2)).setCell ⟨(w.heap.size + 1 + 1 + 1), 4, none⟩ (.int .u8 c3)).setCell ⟨(w.heap.size + 1 + 1 + 1), 5, none⟩ (.int .u8 d0)).setCell ⟨(w.heap.size + 1 + 1 + 1), 6, none⟩ (.int .u8 d1)).setCell ⟨(w.heap.size + 1 + 1 + 1), 7, none⟩ (.int .u8 d2)).setCell ⟨(w.heap.size + 1 + 1 + 1), 8, none⟩ (.int .u8 d3)).setCell ⟨(w.heap.size + 1 + 1 + 1), 9, none⟩ (.bool wi)).setCell ⟨(w.heap.size + 1 + 1 + 1), 10, none⟩ (.bool ta) = wZ at HZ hbZ ⊢
    have jz0 := HZ.cell (o := 0) rfl
    have jz1 := HZ.cell (o := 1) rfl
    have jz2 := HZ.cell (o := 2) rfl
    have jz3 := HZ.cell (o := 3) rfl
    have jz4 := HZ.cell (o := 4) rfl
    have jz5 := HZ.cell (o := 5) rfl
    have jz6 := HZ.cell (o := 6) rfl
    have jz7 := HZ.cell (o := 7) rfl
    have jz8 := HZ.cell (o := 8) rfl
    have jz9 := HZ.cell (o := 9) rfl
    have jz10 := HZ.cell (o := 10) rfl
    refine bodyPost_ret (v := .agg #[(.int .i32 ru), (.int .u8 c0), (.int .u8 c1), (.int .u8 c2), (.int .u8 c3), (.int .u8 d0), (.int .u8 d1), (.int .u8 d2), (.int .u8 d3), (.bool wi), (.bool ta)]) (by simp [results, Tryz.results49, go_sem, jz0, jz1, jz2, jz3, jz4, jz5, jz6, jz7, jz8, jz9, jz10]) rfl ⟨rfl, hbZ⟩
   ·rw [if_neg ka] at hR
    have kb : decide (0 < s3) = true := decide_eq_true (by omega)
    have kb2 : 0 < s3 := by omega
    clear ka
    subst hR
    have m0 := B4.cell (o := 0) rfl
    have m1 := B4.cell (o := 1) rfl
    have m2 := B4.cell (o := 2) rfl
    have m3 := B4.cell (o := 3) rfl
    have m4 := B4.cell (o := 4) rfl
    have m5 := B4.cell (o := 5) rfl
    have m6 := B4.cell (o := 6) rfl
    have m7 := B4.cell (o := 7) rfl
    have m8 := B4.cell (o := 8) rfl
    have m9 := B4.cell (o := 9) rfl
    have m10 := B4.cell (o := 10) rfl
    go_upto_region 12 with fail
    refine wp_region_steady_then (Held w2 0 []) 9 (by kernel_rfl) (by kernel_rfl) (by decide) (by kernel_rfl) (by kernel_rfl) ⟨belt, (by (try simp) <;> omega), (by first | exact trivial | (simp only [Cells]; go_simp))⟩ ?_
    simp only [List.take_succ_cons, List.take_zero]
    repeat (first | (refine' wpSteady_do _ _ _; rotate_left; (focus rfl); (focus (intro w1 hS R hR; have hc := hS.cells; simp only [Cells] at hc; obtain ⟨hco, hfo⟩ := bcell hS.old; go_simp; (try go_bits); first | exact hR _ hS | (go_at_call 103; (with_reducible refine (O3.out _).mono ?_); rintro e w2 ⟨rfl, hb2⟩; exact ⟨_, rfl, hR _ (hS.below hb2)⟩))); simp only [pu]) | (refine wpSteady_pass ?_ ?_; (focus rfl); simp only [pu]))
    refine wpSteady_nil (fun uA hSA => ?_)
    have hcA := hSA.cells; have hbA := hSA.old; have hzA := hSA.size; clear hSA; simp only [Cells] at hcA; obtain ⟨hcoA, hfoA⟩ := bcell hbA
    simp only [List.drop_succ_cons, List.drop_zero, List.drop_nil]
    replace B4 := B4.below hbA yB4
    replace B8 := B8.below hbA yB8
    replace hbw := hbw.trans (hbA.mono hbw.size)
    clear hcA hcoA hfoA hbA p5 p6 p7 p8 m0 m1 m2 m3 m4 m5 m6 m7 m8 m9 m10
    have yB4 := B4.lt
    have yB8 := B8.lt
    have m0 := B4.cell (o := 0) rfl
    have m1 := B4.cell (o := 1) rfl
    have m2 := B4.cell (o := 2) rfl
    have m3 := B4.cell (o := 3) rfl
    have m4 := B4.cell (o := 4) rfl
    have m5 := B4.cell (o := 5) rfl
    have m6 := B4.cell (o := 6) rfl
    have m7 := B4.cell (o := 7) rfl
    have m8 := B4.cell (o := 8) rfl
    have m9 := B4.cell (o := 9) rfl
    have m10 := B4.cell (o := 10) rfl
    have ff := B4.free
    go_upto_region 20 with fail
    clear ff m0 m1 m2 m3 m4 m5 m6 m7 m8 m9 m10
    have hbT : Below w.heap.size w ((((((((((((uA).setCell ⟨w.heap.size, 0, none⟩ (.int .i32 fr)).setCell ⟨w.heap.size, 1, none⟩ (.int .u8 od.r)).setCell ⟨w.heap.size, 2, none⟩ (.int .u8 od.g)).setCell ⟨w.heap.size, 3, none⟩ (.int .u8 od.b)).setCell ⟨w.heap.size, 4, none⟩ (.int .u8 od.a)).setCell ⟨w.heap.size, 5, none⟩ (.int .u8 d0)).setCell ⟨w.heap.size, 6, none⟩ (.int .u8 d1)).setCell ⟨w.heap.size, 7, none⟩ (.int .u8 d2)).setCell ⟨w.heap.size, 8, none⟩ (.int .u8 d3)).setCell ⟨w.heap.size, 9, none⟩ (.bool false)).setCell ⟨w.heap.size, 10, none⟩ (.bool false)) := (((((((((((hbw).setCell (p := ⟨w.heap.size, 0, none⟩) (by show w.heap.size ≤ w.heap.size; omega) (.int .i32 fr)).setCell (p := ⟨w.heap.size, 1, none⟩) (by show w.heap.size ≤ w.heap.size; omega) (.int .u8 od.r)).setCell (p := ⟨w.heap.size, 2, none⟩) (by show w.heap.size ≤ w.heap.size; omega) (.int .u8 od.g)).setCell (p := ⟨w.heap.size, 3, none⟩) (by show w.heap.size ≤ w.heap.size; omega) (.int .u8 od.b)).setCell (p := ⟨w.heap.size, 4, none⟩) (by show w.heap.size ≤ w.heap.size; omega) (.int .u8 od.a)).setCell (p := ⟨w.heap.size, 5, none⟩) (by show w.heap.size ≤ w.heap.size; omega) (.int .u8 d0)).setCell (p := ⟨w.heap.size, 6, none⟩) (by show w.heap.size ≤ w.heap.size; omega) (.int .u8 d1)).setCell (p := ⟨w.heap.size, 7, none⟩) (by show w.heap.size ≤ w.heap.size; omega) (.int .u8 d2)).setCell (p := ⟨w.heap.size, 8, none⟩) (by show w.heap.size ≤ w.heap.size; omega) (.int .u8 d3)).setCell (p := ⟨w.heap.size, 9, none⟩) (by show w.heap.size ≤ w.heap.size; omega) (.bool false)).setCell (p := ⟨w.heap.size, 10, none⟩) (by show w.heap.size ≤ w.heap.size; omega) (.bool false)
    have B8T := (((((((((((B8).set_ne (a := ⟨w.heap.size, 0, none⟩) (by show (w.heap.size + 1 + 1 + 1) ≠ w.heap.size; omega) (.int .i32 fr)).set_ne (a := ⟨w.heap.size, 1, none⟩) (by show (w.heap.size + 1 + 1 + 1) ≠ w.heap.size; omega) (.int .u8 od.r)).set_ne (a := ⟨w.heap.size, 2, none⟩) (by show (w.heap.size + 1 + 1 + 1) ≠ w.heap.size; omega) (.int .u8 od.g)).set_ne (a := ⟨w.heap.size, 3, none⟩) (by show (w.heap.size + 1 + 1 + 1) ≠ w.heap.size; omega) (.int .u8 od.b)).set_ne (a := ⟨w.heap.size, 4, none⟩) (by show (w.heap.size + 1 + 1 + 1) ≠ w.heap.size; omega) (.int .u8 od.a)).set_ne (a := ⟨w.heap.size, 5, none⟩) (by show (w.heap.size + 1 + 1 + 1) ≠ w.heap.size; omega) (.int .u8 d0)).set_ne (a := ⟨w.heap.size, 6, none⟩) (by show (w.heap.size + 1 + 1 + 1) ≠ w.heap.size; omega) (.int .u8 d1)).set_ne (a := ⟨w.heap.size, 7, none⟩) (by show (w.heap.size + 1 + 1 + 1) ≠ w.heap.size; omega) (.int .u8 d2)).set_ne (a := ⟨w.heap.size, 8, none⟩) (by show (w.heap.size + 1 + 1 + 1) ≠ w.heap.size; omega) (.int .u8 d3)).set_ne (a := ⟨w.heap.size, 9, none⟩) (by show (w.heap.size + 1 + 1 + 1) ≠ w.heap.size; omega) (.bool false)).set_ne (a := ⟨w.heap.size, 10, none⟩) (by show (w.heap.size + 1 + 1 + 1) ≠ w.heap.size; omega) (.bool false)
    have B4T : Blk ((((((((((((uA).setCell ⟨w.heap.size, 0, none⟩ (.int .i32 fr)).setCell ⟨w.heap.size, 1, none⟩ (.int .u8 od.r)).setCell ⟨w.heap.size, 2, none⟩ (.int .u8 od.g)).setCell ⟨w.heap.size, 3, none⟩ (.int .u8 od.b)).setCell ⟨w.heap.size, 4, none⟩ (.int .u8 od.a)).setCell ⟨w.heap.size, 5, none⟩ (.int .u8 d0)).setCell ⟨w.heap.size, 6, none⟩ (.int .u8 d1)).setCell ⟨w.heap.size, 7, none⟩ (.int .u8 d2)).setCell ⟨w.heap.size, 8, none⟩ (.int .u8 d3)).setCell ⟨w.heap.size, 9, none⟩ (.bool false)).setCell ⟨w.heap.size, 10, none⟩ (.bool false)) w.heap.size [.int .i32 fr, .int .u8 od.r, .int .u8 od.g, .int .u8 od.b, .int .u8 od.a, .int .u8 d0, .int .u8 d1, .int .u8 d2, .int .u8 d3, .bool false, .bool false] _ := (((((((((((B4).set 0 (.int .i32 fr)).set 1 (.int .u8 od.r)).set 2 (.int .u8 od.g)).set 3 (.int .u8 od.b)).set 4 (.int .u8 od.a)).set 5 (.int .u8 d0)).set 6 (.int .u8 d1)).set 7 (.int .u8 d2)).set 8 (.int .u8 d3)).set 9 (.bool false)).set 10 (.bool false)
    generalize (((((((((((uA).setCell ⟨w.heap.size, 0, none⟩ (.int .i32 fr)).setCell ⟨w.heap.size, 1, none⟩ (.int .u8 od.r)).setCell ⟨w.heap.size, 2, none⟩ (.int .u8 od.g)).setCell ⟨w.heap.size, 3, none⟩ (.int .u8 od.b)).setCell ⟨w.heap.size, 4, none⟩ (.int .u8 od.a)).setCell ⟨w.heap.size, 5, none⟩ (.int .u8 d0)).setCell ⟨w.heap.size, 6, none⟩ (.int .u8 d1)).setCell ⟨w.heap.size, 7, none⟩ (.int .u8 d2)).setCell ⟨w.heap.size, 8, none⟩ (.int .u8 d3)).setCell ⟨w.heap.size, 9, none⟩ (.bool false)).setCell ⟨w.heap.size, 10, none⟩ (.bool false) = wB at hbT B4T B8T ⊢
    clear B4
    have B4 := B4T
    clear B4T
    clear B8
    have B8 := B8T
    clear B8T
    clear hbw
    have hbw := hbT
    clear hbT
    have yB4 := B4.lt
    have yB8 := B8.lt
    have jl0 := B4.cell (o := 0) rfl
    have jl1 := B4.cell (o := 1) rfl
    have jl2 := B4.cell (o := 2) rfl
    have jl3 := B4.cell (o := 3) rfl
    have jl4 := B4.cell (o := 4) rfl
    have jl5 := B4.cell (o := 5) rfl
    have jl6 := B4.cell (o := 6) rfl
    have jl7 := B4.cell (o := 7) rfl
    have jl8 := B4.cell (o := 8) rfl
    have jl9 := B4.cell (o := 9) rfl
    have jl10 := B4.cell (o := 10) rfl
    have jr0 := (B8).cell (o := 0) rfl
    have jr1 := (B8).cell (o := 1) rfl
    have jr2 := (B8).cell (o := 2) rfl
    have jr3 := (B8).cell (o := 3) rfl
    have jr4 := (B8).cell (o := 4) rfl
    have jr5 := (B8).cell (o := 5) rfl
    have jr6 := (B8).cell (o := 6) rfl
    have jr7 := (B8).cell (o := 7) rfl
    have jr8 := (B8).cell (o := 8) rfl
    have jr9 := (B8).cell (o := 9) rfl
    have jr10 := (B8).cell (o := 10) rfl
    have jrf := (B8).free
    go_wp2
    clear jr0 jr1 jr2 jr3 jr4 jr5 jr6 jr7 jr8 jr9 jr10 jrf
    have HZ := Blk.put11 B8 rfl (.int .i32 fr) (.int .u8 od.r) (.int .u8 od.g) (.int .u8 od.b) (.int .u8 od.a) (.int .u8 d0) (.int .u8 d1) (.int .u8 d2) (.int .u8 d3) (.bool false) (.bool false)
    have hbZ := put11_below hbw (b := (w.heap.size + 1 + 1 + 1)) (by omega) (.int .i32 fr) (.int .u8 od.r) (.int .u8 od.g) (.int .u8 od.b) (.int .u8 od.a) (.int .u8 d0) (.int .u8 d1) (.int .u8 d2) (.int .u8 d3) (.bool false) (.bool false)
    generalize (((((((((((wB).setCell ⟨(w.heap.size + 1 + 1 + 1), 0, none⟩ (.int .i32 fr)).setCell ⟨(w.heap.size + 1 + 1 + 1), 1, none⟩ (.int .u8 od.r)).setCell ⟨(w.heap.size + 1 + 1 + 1), 2, none⟩ (.int .u8 od.g)).setCell ⟨(w.heap.size + 1 + 1 + 1), 3, none⟩ (.int .u8 od.b)).setCell ⟨(w.heap.size + 1 + 1 + 1), 4, none⟩ (.int .u8 od.a)).setCell ⟨(w.heap.size + 1 + 1 + 1), 5, none⟩ (.int .u8 d0)).setCell ⟨(w.heap.size + 1 + 1 + 1), 6, none⟩ (.int .u8 d1)).setCell ⟨(w.heap.size + 1 + 1 + 1), 7, none⟩ (.int .u8 d2)).setCell ⟨(w.heap.size + 1 + 1 + 1), 8, none⟩ (.int .u8 d3)).setCell ⟨(w.heap.size + 1 + 1 + 1), 9, none⟩ (.bool false)).setCell ⟨(w.heap.size + 1 + 1 + 1), 10, none⟩ (.bool false) = wZ at HZ hbZ ⊢
    have jz0 := HZ.cell (o := 0) rfl
    have jz1 := HZ.cell (o := 1) rfl
    have jz2 := HZ.cell (o := 2) rfl
    have jz3 := HZ.cell (o := 3) rfl
    have jz4 := HZ.cell (o := 4) rfl
    have jz5 := HZ.cell (o := 5) rfl
    have jz6 := HZ.cell (o := 6) rfl
    have jz7 := HZ.cell (o := 7) rfl
    have jz8 := HZ.cell (o := 8) rfl
    have jz9 := HZ.cell (o := 9) rfl
    have jz10 := HZ.cell (o := 10) rfl
    refine bodyPost_ret (v := .agg #[(.int .i32 fr), (.int .u8 od.r), (.int .u8 od.g), (.int .u8 od.b), (.int .u8 od.a), (.int .u8 d0), (.int .u8 d1), (.int .u8 d2), (.int .u8 d3), (.bool false), (.bool false)]) (by simp [results, Tryz.results49, go_sem, jz0, jz1, jz2, jz3, jz4, jz5, jz6, jz7, jz8, jz9, jz10]) rfl ⟨rfl, hbZ⟩
 ·simp only [if_true] at hR
  have hg := hg.out rfl
  obtain ⟨ts, tc, rfl, hmax⟩ := hg.shape
  obtain ⟨G, hG⟩ : ∃ G, g.length = G := ⟨_, rfl⟩
  rw [hG] at hg hmax ⊢
  unfold maxLen at hmax
  have hgA := Lib.hid (hg.below hbw)
  replace hG := Lib.hid hG
  clear hg
  have p0 := B5.cell (o := 0) rfl
  have p1 := B5.cell (o := 1) rfl
  have p2 := B5.cell (o := 2) rfl
  have p3 := B5.cell (o := 3) rfl
  have p4 := B5.cell (o := 4) rfl
  have p5 := B5.cell (o := 5) rfl
  have p6 := B5.cell (o := 6) rfl
  have p7 := B5.cell (o := 7) rfl
  have p8 := B5.cell (o := 8) rfl
  have p9 := B5.cell (o := 9) rfl
  have p10 := B5.cell (o := 10) rfl
  have p11 := B5.cell (o := 11) rfl
  have p12 := B5.cell (o := 12) rfl
  have p13 := B5.cell (o := 13) rfl
  have p14 := B5.cell (o := 14) rfl
  have m0 := B4.cell (o := 0) rfl
  have m1 := B4.cell (o := 1) rfl
  have m2 := B4.cell (o := 2) rfl
  have m3 := B4.cell (o := 3) rfl
  have m4 := B4.cell (o := 4) rfl
  have m5 := B4.cell (o := 5) rfl
  have m6 := B4.cell (o := 6) rfl
  have m7 := B4.cell (o := 7) rfl
  have m8 := B4.cell (o := 8) rfl
  have m9 := B4.cell (o := 9) rfl
  have m10 := B4.cell (o := 10) rfl
  have n0 := B7.cell (o := 0) rfl
  have n1 := B7.cell (o := 1) rfl
  go_upto_region 16 with fail
  by_cases gY : Y < G
  ·obtain ⟨r, hr⟩ := get_at hG.out gY
   obtain ⟨b, off, cap, sv, sc, e, hbB, hrl, hcell, hrow⟩ := hgA.out.at_ hr
   simp only [Value.slice.injEq] at e
   obtain ⟨rfl, _, rfl⟩ := e
   have yb : b < W.heap.size := by have := hbw.size; omega
   have gYi : ¬ (Y : Int) ≥ (G : Int) := by omega
   have gYj : (Y : Int) < (G : Int) := by omega
   have e1 : glyAt g X Y = r[X]? := by unfold glyAt; rw [hr]; rfl
   rw [e1] at hR
   clear e1
   obtain ⟨Rl, hRl⟩ : ∃ Rl, r.length = Rl := ⟨_, rfl⟩
   rw [hRl] at hcell hrl
   unfold maxLen at hrl
   by_cases gX : X < Rl
   ·obtain ⟨k, hk⟩ := get_at hRl gX
    rw [hk] at hR
    subst hR
    obtain ⟨b', off', cap', e, hbB', k0, k1, k2⟩ := Gl.at_ hrow hk
    rw [hRl] at e
    simp only [Value.slice.injEq] at e
    obtain ⟨rfl, _, rfl⟩ := e
    have yb' : b' < W.heap.size := by have := hbw.size; omega
    have gXi : ¬ (X : Int) ≥ (Rl : Int) := by omega
    have gXj : (X : Int) < (Rl : Int) := by omega
    replace hk := Lib.hid hk
    replace hr := Lib.hid hr
    replace hRl := Lib.hid hRl
    clear hrow hgA
    obtain ⟨gr, gw, gt⟩ := k
    simp only at k0 k1 k2 ⊢
    go_upto_region 18 with fail
    obtain ⟨Wg, hWg⟩ : ∃ Wg, W.alloc (.cells #[.int .i32 gr, .bool gw, .bool gt] 157) = Wg := ⟨_, rfl⟩
    have G12 : Blk Wg W.heap.size [.int .i32 gr, .bool gw, .bool gt] 157 := by rw [← hWg]; exact Blk.new' rfl
    replace B4 : Blk Wg w.heap.size [.int .i32 ru, .int .u8 c0, .int .u8 c1, .int .u8 c2, .int .u8 c3, .int .u8 d0, .int .u8 d1, .int .u8 d2, .int .u8 d3, .bool wi, .bool ta] 52 := by rw [← hWg]; exact B4.alloc _
    replace B5 : Blk Wg (w.heap.size + 1) [.int .u8 3, .int .i64 qx, .int .i64 qy, .int .i64 qw, .int .i64 qh, .int .u8 s0, .int .u8 s1, .int .u8 s2, .int .u8 s3, .int .u8 t0, .int .u8 t1, .int .u8 t2, .int .u8 t3, .string tx, .int .i64 nd] 46 := by rw [← hWg]; exact B5.alloc _
    replace B8 : Blk Wg (w.heap.size + 1 + 1 + 1) [.int .i32 0, .int .u8 0, .int .u8 0, .int .u8 0, .int .u8 0, .int .u8 0, .int .u8 0, .int .u8 0, .int .u8 0, .bool false, .bool false] 52 := by rw [← hWg]; exact B8.alloc _
    replace hbw : Below w.heap.size w Wg := by rw [← hWg]; exact hbw.alloc hbw.size _
    rw [hWg]
    obtain ⟨b12, hb12⟩ : ∃ b, W.heap.size = b := ⟨_, rfl⟩
    rw [hb12] at G12 ⊢
    have l8 : w.heap.size + 1 + 1 + 1 < b12 := by omega
    clear hWg hb12 k0 k1 k2 hcell yb yb' p0 p1 p2 p3 p4 p5 p6 p7 p8 p9 p10 p11 p12 p13 p14 m0 m1 m2 m3 m4 m5 m6 m7 m8 m9 m10 n0 n1
    have yB4 := B4.lt
    have yB5 := B5.lt
    have yB8 := B8.lt
    have yG12 := G12.lt
    have p5 := B5.cell (o := 5) rfl
    have p6 := B5.cell (o := 6) rfl
    have p7 := B5.cell (o := 7) rfl
    have p8 := B5.cell (o := 8) rfl
    have p9 := B5.cell (o := 9) rfl
    have p10 := B5.cell (o := 10) rfl
    have p11 := B5.cell (o := 11) rfl
    have p12 := B5.cell (o := 12) rfl
    have m5 := B4.cell (o := 5) rfl
    have m6 := B4.cell (o := 6) rfl
    have m7 := B4.cell (o := 7) rfl
    have m8 := B4.cell (o := 8) rfl
    go_upto_region 19 with (go_at_call 103; (with_reducible refine (O1.out _).mono ?_); rintro e w3 ⟨rfl, hb3⟩)
    obtain ⟨Wh, hWh⟩ : ∃ Wh, w3.alloc (.cells #[.int .u8 ob.r, .int .u8 ob.g, .int .u8 ob.b, .int .u8 ob.a] 44) = Wh := ⟨_, rfl⟩
    have G13 : Blk Wh w3.heap.size [.int .u8 ob.r, .int .u8 ob.g, .int .u8 ob.b, .int .u8 ob.a] 44 := by rw [← hWh]; exact Blk.new' rfl
    have z3 := hb3.size
    replace B4 : Blk Wh w.heap.size [.int .i32 ru, .int .u8 c0, .int .u8 c1, .int .u8 c2, .int .u8 c3, .int .u8 d0, .int .u8 d1, .int .u8 d2, .int .u8 d3, .bool wi, .bool ta] 52 := by rw [← hWh]; exact (B4.below hb3 yB4).alloc _
    replace B5 : Blk Wh (w.heap.size + 1) [.int .u8 3, .int .i64 qx, .int .i64 qy, .int .i64 qw, .int .i64 qh, .int .u8 s0, .int .u8 s1, .int .u8 s2, .int .u8 s3, .int .u8 t0, .int .u8 t1, .int .u8 t2, .int .u8 t3, .string tx, .int .i64 nd] 46 := by rw [← hWh]; exact (B5.below hb3 yB5).alloc _
    replace B8 : Blk Wh (w.heap.size + 1 + 1 + 1) [.int .i32 0, .int .u8 0, .int .u8 0, .int .u8 0, .int .u8 0, .int .u8 0, .int .u8 0, .int .u8 0, .int .u8 0, .bool false, .bool false] 52 := by rw [← hWh]; exact (B8.below hb3 yB8).alloc _
    replace G12 : Blk Wh b12 [.int .i32 gr, .bool gw, .bool gt] 157 := by rw [← hWh]; exact (G12.below hb3 yG12).alloc _
    replace hbw : Below w.heap.size w Wh := by rw [← hWh]; exact (hbw.trans (hb3.mono hbw.size)).alloc (by have := hbw.size; omega) _
    rw [hWh]
    obtain ⟨b13, hb13⟩ : ∃ b, w3.heap.size = b := ⟨_, rfl⟩
    rw [hb13] at G13 ⊢
    clear hWh hb13 hb3 p5 p6 p7 p8 p9 p10 p11 p12 m5 m6 m7 m8
    have yB4 := B4.lt
    have yB5 := B5.lt
    have yB8 := B8.lt
    have yG12 := G12.lt
    have yG13 := G13.lt
    have p5 := B5.cell (o := 5) rfl
    have p6 := B5.cell (o := 6) rfl
    have p7 := B5.cell (o := 7) rfl
    have p8 := B5.cell (o := 8) rfl
    have q0 := G12.cell (o := 0) rfl
    have q1 := G12.cell (o := 1) rfl
    have q2 := G12.cell (o := 2) rfl
    have r0 := G13.cell (o := 0) rfl
    have r1 := G13.cell (o := 1) rfl
    have r2 := G13.cell (o := 2) rfl
    have r3 := G13.cell (o := 3) rfl
    refine wp_region_steady_then (Held Wh 0 []) 12 (by kernel_rfl) (by kernel_rfl) (by decide) (by kernel_rfl) (by kernel_rfl) ⟨belt, (by (try simp) <;> omega), (by first | exact trivial | (simp only [Cells]; go_simp))⟩ ?_
    simp only [List.take_succ_cons, List.take_zero]
    repeat (first | (refine' wpSteady_do _ _ _; rotate_left; (focus rfl); (focus (intro w1 hS R hR; have hc := hS.cells; simp only [Cells] at hc; obtain ⟨hco, hfo⟩ := bcell hS.old; go_simp; (try go_bits); first | exact hR _ hS | (go_at_call 103; (with_reducible refine (O2.out _).mono ?_); rintro e w2 ⟨rfl, hb2⟩; exact ⟨_, rfl, hR _ (hS.below hb2)⟩))); simp only [pu]) | (refine wpSteady_pass ?_ ?_; (focus rfl); simp only [pu]))
    refine wpSteady_nil (fun uA hSA => ?_)
    have hcA := hSA.cells; have hbA := hSA.old; have hzA := hSA.size; clear hSA; simp only [Cells] at hcA; obtain ⟨hcoA, hfoA⟩ := bcell hbA
    simp only [List.drop_succ_cons, List.drop_zero, List.drop_nil]
    replace B4 := B4.below hbA yB4
    replace B8 := B8.below hbA yB8
    replace hbw := hbw.trans (hbA.mono hbw.size)
    clear hcA hcoA hfoA hbA p5 p6 p7 p8 q0 q1 q2 r0 r1 r2 r3
    have yB4 := B4.lt
    have yB8 := B8.lt
    have m0 := B4.cell (o := 0) rfl
    have m1 := B4.cell (o := 1) rfl
    have m2 := B4.cell (o := 2) rfl
    have m3 := B4.cell (o := 3) rfl
    have m4 := B4.cell (o := 4) rfl
    have m5 := B4.cell (o := 5) rfl
    have m6 := B4.cell (o := 6) rfl
    have m7 := B4.cell (o := 7) rfl
    have m8 := B4.cell (o := 8) rfl
    have m9 := B4.cell (o := 9) rfl
    have m10 := B4.cell (o := 10) rfl
    have ff := B4.free
    go_upto_region 20 with fail
    clear ff m0 m1 m2 m3 m4 m5 m6 m7 m8 m9 m10
    have hbT : Below w.heap.size w ((((((((((((uA).setCell ⟨w.heap.size, 0, none⟩ (.int .i32 gr)).setCell ⟨w.heap.size, 1, none⟩ (.int .u8 oc.r)).setCell ⟨w.heap.size, 2, none⟩ (.int .u8 oc.g)).setCell ⟨w.heap.size, 3, none⟩ (.int .u8 oc.b)).setCell ⟨w.heap.size, 4, none⟩ (.int .u8 oc.a)).setCell ⟨w.heap.size, 5, none⟩ (.int .u8 ob.r)).setCell ⟨w.heap.size, 6, none⟩ (.int .u8 ob.g)).setCell ⟨w.heap.size, 7, none⟩ (.int .u8 ob.b)).setCell ⟨w.heap.size, 8, none⟩ (.int .u8 ob.a)).setCell ⟨w.heap.size, 9, none⟩ (.bool gw)).setCell ⟨w.heap.size, 10, none⟩ (.bool gt)) := (((((((((((hbw).setCell (p := ⟨w.heap.size, 0, none⟩) (by show w.heap.size ≤ w.heap.size; omega) (.int .i32 gr)).setCell (p := ⟨w.heap.size, 1, none⟩) (by show w.heap.size ≤ w.heap.size; omega) (.int .u8 oc.r)).setCell (p := ⟨w.heap.size, 2, none⟩) (by show w.heap.size ≤ w.heap.size; omega) (.int .u8 oc.g)).setCell (p := ⟨w.heap.size, 3, none⟩) (by show w.heap.size ≤ w.heap.size; omega) (.int .u8 oc.b)).setCell (p := ⟨w.heap.size, 4, none⟩) (by show w.heap.size ≤ w.heap.size; omega) (.int .u8 oc.a)).setCell (p := ⟨w.heap.size, 5, none⟩) (by show w.heap.size ≤ w.heap.size; omega) (.int .u8 ob.r)).setCell (p := ⟨w.heap.size, 6, none⟩) (by show w.heap.size ≤ w.heap.size; omega) (.int .u8 ob.g)).setCell (p := ⟨w.heap.size, 7, none⟩) (by show w.heap.size ≤ w.heap.size; omega) (.int .u8 ob.b)).setCell (p := ⟨w.heap.size, 8, none⟩) (by show w.heap.size ≤ w.heap.size; omega) (.int .u8 ob.a)).setCell (p := ⟨w.heap.size, 9, none⟩) (by show w.heap.size ≤ w.heap.size; omega) (.bool gw)).setCell (p := ⟨w.heap.size, 10, none⟩) (by show w.heap.size ≤ w.heap.size; omega) (.bool gt)
    have B8T := (((((((((((B8).set_ne (a := ⟨w.heap.size, 0, none⟩) (by show (w.heap.size + 1 + 1 + 1) ≠ w.heap.size; omega) (.int .i32 gr)).set_ne (a := ⟨w.heap.size, 1, none⟩) (by show (w.heap.size + 1 + 1 + 1) ≠ w.heap.size; omega) (.int .u8 oc.r)).set_ne (a := ⟨w.heap.size, 2, none⟩) (by show (w.heap.size + 1 + 1 + 1) ≠ w.heap.size; omega) (.int .u8 oc.g)).set_ne (a := ⟨w.heap.size, 3, none⟩) (by show (w.heap.size + 1 + 1 + 1) ≠ w.heap.size; omega) (.int .u8 oc.b)).set_ne (a := ⟨w.heap.size, 4, none⟩) (by show (w.heap.size + 1 + 1 + 1) ≠ w.heap.size; omega) (.int .u8 oc.a)).set_ne (a := ⟨w.heap.size, 5, none⟩) (by show (w.heap.size + 1 + 1 + 1) ≠ w.heap.size; omega) (.int .u8 ob.r)).set_ne (a := ⟨w.heap.size, 6, none⟩) (by show (w.heap.size + 1 + 1 + 1) ≠ w.heap.size; omega) (.int .u8 ob.g)).set_ne (a := ⟨w.heap.size, 7, none⟩) (by show (w.heap.size + 1 + 1 + 1) ≠ w.heap.size; omega) (.int .u8 ob.b)).set_ne (a := ⟨w.heap.size, 8, none⟩) (by show (w.heap.size + 1 + 1 + 1) ≠ w.heap.size; omega) (.int .u8 ob.a)).set_ne (a := ⟨w.heap.size, 9, none⟩) (by show (w.heap.size + 1 + 1 + 1) ≠ w.heap.size; omega) (.bool gw)).set_ne (a := ⟨w.heap.size, 10, none⟩) (by show (w.heap.size + 1 + 1 + 1) ≠ w.heap.size; omega) (.bool gt)
    have B4T : Blk ((((((((((((uA).setCell ⟨w.heap.size, 0, none⟩ (.int .i32 gr)).setCell ⟨w.heap.size, 1, none⟩ (.int .u8 oc.r)).setCell ⟨w.heap.size, 2, none⟩ (.int .u8 oc.g)).setCell ⟨w.heap.size, 3, none⟩ (.int .u8 oc.b)).setCell ⟨w.heap.size, 4, none⟩ (.int .u8 oc.a)).setCell ⟨w.heap.size, 5, none⟩ (.int .u8 ob.r)).setCell ⟨w.heap.size, 6, none⟩ (.int .u8 ob.g)).setCell ⟨w.heap.size, 7, none⟩ (.int .u8 ob.b)).setCell ⟨w.heap.size, 8, none⟩ (.int .u8 ob.a)).setCell ⟨w.heap.size, 9, none⟩ (.bool gw)).setCell ⟨w.heap.size, 10, none⟩ (.bool gt)) w.heap.size [.int .i32 gr, .int .u8 oc.r, .int .u8 oc.g, .int .u8 oc.b, .int .u8 oc.a, .int .u8 ob.r, .int .u8 ob.g, .int .u8 ob.b, .int .u8 ob.a, .bool gw, .bool gt] _ := (((((((((((B4).set 0 (.int .i32 gr)).set 1 (.int .u8 oc.r)).set 2 (.int .u8 oc.g)).set 3 (.int .u8 oc.b)).set 4 (.int .u8 oc.a)).set 5 (.int .u8 ob.r)).set 6 (.int .u8 ob.g)).set 7 (.int .u8 ob.b)).set 8 (.int .u8 ob.a)).set 9 (.bool gw)).set 10 (.bool gt)
    generalize (((((((((((uA).setCell ⟨w.heap.size, 0, none⟩ (.int .i32 gr)).setCell ⟨w.heap.size, 1, none⟩ (.int .u8 oc.r)).setCell ⟨w.heap.size, 2, none⟩ (.int .u8 oc.g)).setCell ⟨w.heap.size, 3, none⟩ (.int .u8 oc.b)).setCell ⟨w.heap.size, 4, none⟩ (.int .u8 oc.a)).setCell ⟨w.heap.size, 5, none⟩ (.int .u8 ob.r)).setCell ⟨w.heap.size, 6, none⟩ (.int .u8 ob.g)).setCell ⟨w.heap.size, 7, none⟩ (.int .u8 ob.b)).setCell ⟨w.heap.size, 8, none⟩ (.int .u8 ob.a)).setCell ⟨w.heap.size, 9, none⟩ (.bool gw)).setCell ⟨w.heap.size, 10, none⟩ (.bool gt) = wB at hbT B4T B8T ⊢
    clear B4
    have B4 := B4T
    clear B4T
    clear B8
    have B8 := B8T
    clear B8T
    clear hbw
    have hbw := hbT
    clear hbT
    have yB4 := B4.lt
    have yB8 := B8.lt
    have jl0 := B4.cell (o := 0) rfl
    have jl1 := B4.cell (o := 1) rfl
    have jl2 := B4.cell (o := 2) rfl
    have jl3 := B4.cell (o := 3) rfl
    have jl4 := B4.cell (o := 4) rfl
    have jl5 := B4.cell (o := 5) rfl
    have jl6 := B4.cell (o := 6) rfl
    have jl7 := B4.cell (o := 7) rfl
    have jl8 := B4.cell (o := 8) rfl
    have jl9 := B4.cell (o := 9) rfl
    have jl10 := B4.cell (o := 10) rfl
    have jr0 := (B8).cell (o := 0) rfl
    have jr1 := (B8).cell (o := 1) rfl
    have jr2 := (B8).cell (o := 2) rfl
    have jr3 := (B8).cell (o := 3) rfl
    have jr4 := (B8).cell (o := 4) rfl
    have jr5 := (B8).cell (o := 5) rfl
    have jr6 := (B8).cell (o := 6) rfl
    have jr7 := (B8).cell (o := 7) rfl
    have jr8 := (B8).cell (o := 8) rfl
    have jr9 := (B8).cell (o := 9) rfl
    have jr10 := (B8).cell (o := 10) rfl
    have jrf := (B8).free
    go_wp2
    clear jr0 jr1 jr2 jr3 jr4 jr5 jr6 jr7 jr8 jr9 jr10 jrf
    have HZ := Blk.put11 B8 rfl (.int .i32 gr) (.int .u8 oc.r) (.int .u8 oc.g) (.int .u8 oc.b) (.int .u8 oc.a) (.int .u8 ob.r) (.int .u8 ob.g) (.int .u8 ob.b) (.int .u8 ob.a) (.bool gw) (.bool gt)
    have hbZ := put11_below hbw (b := (w.heap.size + 1 + 1 + 1)) (by omega) (.int .i32 gr) (.int .u8 oc.r) (.int .u8 oc.g) (.int .u8 oc.b) (.int .u8 oc.a) (.int .u8 ob.r) (.int .u8 ob.g) (.int .u8 ob.b) (.int .u8 ob.a) (.bool gw) (.bool gt)
    generalize (((((((((((wB).setCell ⟨(w.heap.size + 1 + 1 + 1), 0, none⟩ (.int .i32 gr)).setCell ⟨(w.heap.size + 1 + 1 + 1), 1, none⟩ (.int .u8 oc.r)).setCell ⟨(w.heap.size + 1 + 1 + 1), 2, none⟩ (.int .u8 oc.g)).setCell ⟨(w.heap.size + 1 + 1 + 1), 3, none⟩ (.int .u8 oc.b)).setCell ⟨(w.heap.size + 1 + 1 + 1), 4, none⟩ (.int .u8 oc.a)).setCell ⟨(w.heap.size + 1 + 1 + 1), 5, none⟩ (.int .u8 ob.r)).setCell ⟨(w.heap.size + 1 + 1 + 1), 6, none⟩ (.int .u8 ob.g)).setCell ⟨(w.heap.size + 1 + 1 + 1), 7, none⟩ (.int .u8 ob.b)).setCell ⟨(w.heap.size + 1 + 1 + 1), 8, none⟩ (.int .u8 ob.a)).setCell ⟨(w.heap.size + 1 + 1 + 1), 9, none⟩ (.bool gw)).setCell ⟨(w.heap.size + 1 + 1 + 1), 10, none⟩ (.bool gt) = wZ at HZ hbZ ⊢
    have jz0 := HZ.cell (o := 0) rfl
    have jz1 := HZ.cell (o := 1) rfl
    have jz2 := HZ.cell (o := 2) rfl
    have jz3 := HZ.cell (o := 3) rfl
    have jz4 := HZ.cell (o := 4) rfl
    have jz5 := HZ.cell (o := 5) rfl
    have jz6 := HZ.cell (o := 6) rfl
    have jz7 := HZ.cell (o := 7) rfl
    have jz8 := HZ.cell (o := 8) rfl
    have jz9 := HZ.cell (o := 9) rfl
    have jz10 := HZ.cell (o := 10) rfl
    refine bodyPost_ret (v := .agg #[(.int .i32 gr), (.int .u8 oc.r), (.int .u8 oc.g), (.int .u8 oc.b), (.int .u8 oc.a), (.int .u8 ob.r), (.int .u8 ob.g), (.int .u8 ob.b), (.int .u8 ob.a), (.bool gw), (.bool gt)]) (by simp [results, Tryz.results49, go_sem, jz0, jz1, jz2, jz3, jz4, jz5, jz6, jz7, jz8, jz9, jz10]) rfl ⟨rfl, hbZ⟩
   ·rw [List.getElem?_eq_none (by omega)] at hR
    subst hR
    have gXi : (X : Int) ≥ (Rl : Int) := by omega
    have gXj : ¬ (X : Int) < (Rl : Int) := by omega
    replace hr := Lib.hid hr
    replace hRl := Lib.hid hRl
    clear hrow hgA gX
    have jl0 := B4.cell (o := 0) rfl
    have jl1 := B4.cell (o := 1) rfl
    have jl2 := B4.cell (o := 2) rfl
    have jl3 := B4.cell (o := 3) rfl
    have jl4 := B4.cell (o := 4) rfl
    have jl5 := B4.cell (o := 5) rfl
    have jl6 := B4.cell (o := 6) rfl
    have jl7 := B4.cell (o := 7) rfl
    have jl8 := B4.cell (o := 8) rfl
    have jl9 := B4.cell (o := 9) rfl
    have jl10 := B4.cell (o := 10) rfl
    have jr0 := (B8).cell (o := 0) rfl
    have jr1 := (B8).cell (o := 1) rfl
    have jr2 := (B8).cell (o := 2) rfl
    have jr3 := (B8).cell (o := 3) rfl
    have jr4 := (B8).cell (o := 4) rfl
    have jr5 := (B8).cell (o := 5) rfl
    have jr6 := (B8).cell (o := 6) rfl
    have jr7 := (B8).cell (o := 7) rfl
    have jr8 := (B8).cell (o := 8) rfl
    have jr9 := (B8).cell (o := 9) rfl
    have jr10 := (B8).cell (o := 10) rfl
    have jrf := (B8).free
    go_wp2
    clear jr0 jr1 jr2 jr3 jr4 jr5 jr6 jr7 jr8 jr9 jr10 jrf
    have HZ := Blk.put11 B8 rfl (.int .i32 ru) (.int .u8 c0) (.int .u8 c1) (.int .u8 c2) (.int .u8 c3) (.int .u8 d0) (.int .u8 d1) (.int .u8 d2) (.int .u8 d3) (.bool wi) (.bool ta)
    have hbZ := put11_below hbw (b := (w.heap.size + 1 + 1 + 1)) (by omega) (.int .i32 ru) (.int .u8 c0) (.int .u8 c1) (.int .u8 c2) (.int .u8 c3) (.int .u8 d0) (.int .u8 d1) (.int .u8 d2) (.int .u8 d3) (.bool wi) (.bool ta)
    generalize (((((((((((W).setCell ⟨(w.heap.size + 1 + 1 + 1), 0, none⟩ (.int .i32 ru)).setCell ⟨(w.heap.size + 1 + 1 + 1), 1, none⟩ (.int .u8 c0)).setCell ⟨(w.heap.size + 1 + 1 + 1), 2, none⟩ (.int .u8 c1)).setCell ⟨(w.heap.size + 1 + 1 + 1), 3, none⟩ (.int .u8 c2)).setCell ⟨(w.heap.size + 1 + 1 + 1), 4, none⟩ (.int .u8 c3)).setCell ⟨(w.heap.size + 1 + 1 + 1), 5, none⟩ (.int .u8 d0)).setCell ⟨(w.heap.size + 1 + 1 + 1), 6, none⟩ (.int .u8 d1)).setCell ⟨(w.heap.size + 1 + 1 + 1), 7, none⟩ (.int .u8 d2)).setCell ⟨(w.heap.size + 1 + 1 + 1), 8, none⟩ (.int .u8 d3)).setCell ⟨(w.heap.size + 1 + 1 + 1), 9, none⟩ (.bool wi)).setCell ⟨(w.heap.size + 1 + 1 + 1), 10, none⟩ (.bool ta) = wZ at HZ hbZ ⊢
    have jz0 := HZ.cell (o := 0) rfl
    have jz1 := HZ.cell (o := 1) rfl
    have jz2 := HZ.cell (o := 2) rfl
    have jz3 := HZ.cell (o := 3) rfl
    have jz4 := HZ.cell (o := 4) rfl
    have jz5 := HZ.cell (o := 5) rfl
    have jz6 := HZ.cell (o := 6) rfl
    have jz7 := HZ.cell (o := 7) rfl
    have jz8 := HZ.cell (o := 8) rfl
    have jz9 := HZ.cell (o := 9) rfl
    have jz10 := HZ.cell (o := 10) rfl
    refine bodyPost_ret (v := .agg #[(.int .i32 ru), (.int .u8 c0), (.int .u8 c1), (.int .u8 c2), (.int .u8 c3), (.int .u8 d0), (.int .u8 d1), (.int .u8 d2), (.int .u8 d3), (.bool wi), (.bool ta)]) (by simp [results, Tryz.results49, go_sem, jz0, jz1, jz2, jz3, jz4, jz5, jz6, jz7, jz8, jz9, jz10]) rfl ⟨rfl, hbZ⟩
  ·have e1 : glyAt g X Y = none := by unfold glyAt; rw [List.getElem?_eq_none (by have := hG.out; omega)]; rfl
   rw [e1] at hR
   subst hR
   have gYi : (Y : Int) ≥ (G : Int) := by omega
   have gYj : ¬ (Y : Int) < (G : Int) := by omega
   clear e1 hgA gY
   have jl0 := B4.cell (o := 0) rfl
   have jl1 := B4.cell (o := 1) rfl
   have jl2 := B4.cell (o := 2) rfl
   have jl3 := B4.cell (o := 3) rfl
   have jl4 := B4.cell (o := 4) rfl
   have jl5 := B4.cell (o := 5) rfl
   have jl6 := B4.cell (o := 6) rfl
   have jl7 := B4.cell (o := 7) rfl
   have jl8 := B4.cell (o := 8) rfl
   have jl9 := B4.cell (o := 9) rfl
   have jl10 := B4.cell (o := 10) rfl
   have jr0 := (B8).cell (o := 0) rfl
   have jr1 := (B8).cell (o := 1) rfl
   have jr2 := (B8).cell (o := 2) rfl
   have jr3 := (B8).cell (o := 3) rfl
   have jr4 := (B8).cell (o := 4) rfl
   have jr5 := (B8).cell (o := 5) rfl
   have jr6 := (B8).cell (o := 6) rfl
   have jr7 := (B8).cell (o := 7) rfl
   have jr8 := (B8).cell (o := 8) rfl
   have jr9 := (B8).cell (o := 9) rfl
   have jr10 := (B8).cell (o := 10) rfl
   have jrf := (B8).free
   go_wp2
   clear jr0 jr1 jr2 jr3 jr4 jr5 jr6 jr7 jr8 jr9 jr10 jrf
   have HZ := Blk.put11 B8 rfl (.int .i32 ru) (.int .u8 c0) (.int .u8 c1) (.int .u8 c2) (.int .u8 c3) (.int .u8 d0) (.int .u8 d1) (.int .u8 d2) (.int .u8 d3) (.bool wi) (.bool ta)
   have hbZ := put11_below hbw (b := (w.heap.size + 1 + 1 + 1)) (by omega) (.int .i32 ru) (.int .u8 c0) (.int .u8 c1) (.int .u8 c2) (.int .u8 c3) (.int .u8 d0) (.int .u8 d1) (.int .u8 d2) (.int .u8 d3) (.bool wi) (.bool ta)
   generalize (((((((((((W).setCell ⟨(w.heap.size + 1 + 1 + 1), 0, none⟩ (.int .i32 ru)).setCell ⟨(w.heap.size + 1 + 1 + 1), 1, none⟩ (.int .u8 c0)).setCell ⟨(w.heap.size + 1 + 1 + 1), 2, none⟩ (.int .u8 c1)).setCell ⟨(w.heap.size + 1 + 1 + 1), 3, none⟩ (.int .u8 c2)).setCell ⟨(w.heap.size + 1 + 1 + 1), 4, none⟩ (.int .u8 c3)).setCell ⟨(w.heap.size + 1 + 1 + 1), 5, none⟩ (.int .u8 d0)).setCell ⟨(w.heap.size + 1 + 1 + 1), 6, none⟩ (.int .u8 d1)).setCell ⟨(w.heap.size + 1 + 1 + 1), 7, none⟩ (.int .u8 d2)).setCell ⟨(w.heap.size + 1 + 1 + 1), 8, none⟩ (.int .u8 d3)).setCell ⟨(w.heap.size + 1 + 1 + 1), 9, none⟩ (.bool wi)).setCell ⟨(w.heap.size + 1 + 1 + 1), 10, none⟩ (.bool ta) = wZ at HZ hbZ ⊢
   have jz0 := HZ.cell (o := 0) rfl
   have jz1 := HZ.cell (o := 1) rfl
   have jz2 := HZ.cell (o := 2) rfl
   have jz3 := HZ.cell (o := 3) rfl
   have jz4 := HZ.cell (o := 4) rfl
   have jz5 := HZ.cell (o := 5) rfl
   have jz6 := HZ.cell (o := 6) rfl
   have jz7 := HZ.cell (o := 7) rfl
   have jz8 := HZ.cell (o := 8) rfl
   have jz9 := HZ.cell (o := 9) rfl
   have jz10 := HZ.cell (o := 10) rfl
   refine bodyPost_ret (v := .agg #[(.int .i32 ru), (.int .u8 c0), (.int .u8 c1), (.int .u8 c2), (.int .u8 c3), (.int .u8 d0), (.int .u8 d1), (.int .u8 d2), (.int .u8 d3), (.bool wi), (.bool ta)]) (by simp [results, Tryz.results49, go_sem, jz0, jz1, jz2, jz3, jz4, jz5, jz6, jz7, jz8, jz9, jz10]) rfl ⟨rfl, hbZ⟩
end Go.Proofs.YtffmomgmkpmpkaaGreatDoor
