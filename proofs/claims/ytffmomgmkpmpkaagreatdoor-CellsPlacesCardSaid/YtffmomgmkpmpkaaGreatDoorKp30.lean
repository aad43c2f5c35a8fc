/-
  Cells: the document's examples hold (law15.awake).
-/
import Derived.Test.YtffmomgmkpmpkaaGreatDoorProg
import Derived.Test.YtffmomgmkpmpkaaGreatDoorKp29
namespace Go.Proofs.YtffmomgmkpmpkaaGreatDoor
open Go.RowKit
set_option linter.unusedVariables false
attribute [local go_sem] vwp vUpon_value vUpon_skip vUpon_enter vUpon_row
set_option linter.unusedSimpArgs false
set_option linter.unusedVariables false
set_option maxHeartbeats 16000000 in
set_option maxRecDepth 100000 in
theorem awake_any (w : World) (hD : DigT w) (hE : DecT w) : Calls Tryz.prog 8 #[] w fun e w' => e = .returned (.bool true) ∧ Below w.heap.size w w' := by
 have I4 : I64 4 := by unfold I64; omega
 have I2 : I64 2 := by unfold I64; omega
 have BL := fun w => (show Calls Tryz.prog 25 #[.agg #[.int .i64 (4), .int .i64 (2)], .agg #[.int .u8 (0), .int .u8 (0), .int .u8 (0), .int .u8 (0)]] w (OutS w.heap.size 0 4 2 awC0 w) from by
  have h := cblank_any 4 2 coZ w I4 I2
  simp only [aw_blank.1, aw_blank.2.1, aw_blank.2.2] at h
  exact h)
 replace BL := Lib.hid BL
 have e8 : awC0.length = 8 := by kernel_rfl
 have eA : awCA.length = 8 := by kernel_rfl
 have eC : awCC.length = 8 := aw_c.1
 go_enter Tryz.func8, Tryz.ntmps8
 go_upto_region 2 with fail
 obtain ⟨W1, hW1⟩ : ∃ W1, w.alloc (.cells #[.int .u8 255, .int .u8 255, .int .u8 255, .int .u8 255] 44) = W1 := ⟨_, rfl⟩
 have B1 : Blk W1 w.heap.size [.int .u8 255, .int .u8 255, .int .u8 255, .int .u8 255] 44 := by rw [← hW1]; exact Blk.new' rfl
 have hb1 : Below w.heap.size w W1 := by rw [← hW1]; exact belt
 rw [hW1]
 clear hW1
 have y1 := B1.lt
 go_upto_region 3 with (go_at_call 25; (with_reducible refine (BL.out _).mono ?_); rintro e w2 ⟨hb2, v0, rfl, ho⟩; obtain ⟨sv0, cv0, hv0⟩ := own_slice ho; rw [e8] at hv0; subst hv0)
 obtain ⟨W3, hW3⟩ : ∃ W3, w2.alloc (.cells #[.int .i64 4, .int .i64 2, .slice sv0 8 cv0] 26) = W3 := ⟨_, rfl⟩
 have B2 : Blk W3 w2.heap.size [.int .i64 4, .int .i64 2, .slice sv0 8 cv0] 26 := by rw [← hW3]; exact Blk.new' rfl
 have B1 : Blk W3 w.heap.size [.int .u8 255, .int .u8 255, .int .u8 255, .int .u8 255] 44 := by rw [← hW3]; exact (B1.below hb2 y1).alloc _
 have O0 : OwnsC W1.heap.size W3 (.slice sv0 8 cv0) awC0 := by rw [← hW3]; exact ho.alloc _
 have hb3 : Below w.heap.size w W3 := by rw [← hW3]; exact (hb1.trans (hb2.mono hb1.size)).alloc (by have := hb1.size; have := hb2.size; omega) _
 obtain ⟨b2, hb2e⟩ : ∃ b2, w2.heap.size = b2 := ⟨_, rfl⟩
 obtain ⟨b1, hb1e⟩ : ∃ b1, w.heap.size = b1 := ⟨_, rfl⟩
 have hwb : w.heap.size ≤ b2 := by rw [← hb2e]; have := hb1.size; have := hb2.size; omega
 rw [hb2e] at B2
 rw [hb1e] at B1
 rw [hW3, hb2e, hb1e]
 replace hb1e := Lib.hid hb1e
 clear hW3 hb2e hb1 hb2 ho y1 BL
 have k0a := B2.cell (o := 0) rfl
 have k1a := B2.cell (o := 1) rfl
 have k2a := B2.cell (o := 2) rfl
 have ya := B2.lt
 have c0 := B1.cell (o := 0) rfl
 have c1 := B1.cell (o := 1) rfl
 have c2 := B1.cell (o := 2) rfl
 have c3 := B1.cell (o := 3) rfl
 have yb1 := B1.lt
 have DR1 := fun u (hu : Below W3.heap.size W3 u) g (hg : Blk u g awS1.enc 46) => draw_lit 4 2 awC0 awS1 _ W3 u g W1.heap.size I4 I2 O0 aw_wf0 aw_wf1 hu hg
 simp only [aw_d1.1, aw_d1.2.1, aw_d1.2.2] at DR1
 replace DR1 := Lib.hid DR1
 replace O0 := Lib.hid O0
 replace B1 := Lib.hid B1
 replace B2 := Lib.hid B2
 replace hb3 := Lib.hid hb3
 go_cut [4, 5] (fun v4 v5 wx => ∃ (b4 : Nat) (va : Value), v4 = .pointer (some ⟨b4, 0, none⟩) ∧ v5 = .int .i64 0 ∧ Blk wx b4 [.int .i64 4, .int .i64 2, va] 26 ∧ OwnsC W3.heap.size wx va awCA ∧ W3.heap.size ≤ b4 ∧ Below W3.heap.size W3 wx)
 case first =>
  refine held_begin (Held W3 0 []) (by kernel_rfl) ⟨Below.drew (Below.refl _ _), Nat.le_refl _, trivial⟩ (fun hS => ?_)
  generalize W3.drew = u0 at hS ⊢
  (refine' hdo 0 hS ?_; simp only [pu])
  (refine' hdo 2 hS ?_; simp only [pu])
  (refine' held_two (i := 1) (j := 9) rfl rfl (by kernel_rfl) _ _ _ _; (focus rfl); (focus rfl))
  ·intro K hK
   go_simp
   refine (lrect_any 1 0 2 2 u0).mono ?_
   rintro e v1 ⟨rfl, hbq⟩
   have hT : Held W3 0 [] v1 := hS.below hbq
   clear hbq
   refine hK _ _ hT ?_
   clear hK hS
   (try simp only [pu])
   have hS := hT
   clear hT
   (refine' hdo 3 hS ?_; simp only [pu])
   (refine' held_two (i := 4) (j := 9) rfl rfl (by kernel_rfl) _ _ _ _; (focus rfl); (focus rfl))
   ·intro K hK
    go_simp
    obtain ⟨v2, hv⟩ : ∃ v, v1.alloc (.cells #[.int .u8 3, .int .i64 1, .int .i64 0, .int .i64 2, .int .i64 2, .int .u8 255, .int .u8 255, .int .u8 255, .int .u8 255, .int .u8 0, .int .u8 0, .int .u8 0, .int .u8 0, .string ⟨#[97, 98, 10, 99]⟩, .int .i64 0] 46) = v := ⟨_, rfl⟩
    have hT := held_alloc hS hv
    have Bg := Blk.new_eq hv
    have gg := held_size hS
    rw [hv]
    clear hv
    generalize v1.heap.size = g at Bg gg ⊢
    refine hK _ _ hT ?_
    clear hK hS
    (try simp only [pu])
    have hS := hT
    clear hT
    (refine' held_two (i := 5) (j := 9) rfl rfl (by kernel_rfl) _ _ _ _; (focus rfl); (focus rfl))
    ·intro K hK
     go_simp
     refine (DR1.out v2 hS.1 _ Bg).mono ?_
     rintro e v3 ⟨hbq, va, rfl, Ova⟩
     have hT : Held W3 0 [] v3 := hS.below hbq
     have Bg := Bg.below hbq Bg.lt
     have hzu := hS.1.size
     replace Ova : OwnsC W3.heap.size v3 va awCA := own_less Ova hzu
     clear hzu
     obtain ⟨sva, cva, hva⟩ := own_slice Ova
     rw [eA] at hva
     subst hva
     clear hbq
     refine hK _ _ hT ?_
     clear hK hS
     (try simp only [pu])
     have hS := hT
     clear hT
     (refine' hdo 6 hS ?_; simp only [pu])
     (refine' hdo 7 hS ?_; simp only [pu])
     (refine' hdo 8 hS ?_; simp only [pu])
     (refine' held_one (i := 9) _ (by kernel_rfl) _ _; rotate_left; (focus exact geti); (focus rfl); intro K hK; go_simp)
     obtain ⟨v4, hv⟩ : ∃ v, v3.alloc (.cells #[.int .i64 0, .int .i64 0, .slice none 0 0] 26) = v := ⟨_, rfl⟩
     have hT := held_alloc hS hv
     have ngb9 := Nat.ne_of_lt Bg.lt
     replace Bg := Bg.alloc_eq hv
     replace Ova := OwnsC.alloc_eq Ova hv
     have Bb9 := Blk.new_eq hv
     have gb9 := held_size hS
     rw [hv]
     clear hv
     generalize v3.heap.size = b9 at Bb9 gb9 ngb9 ⊢
     refine hK _ _ hT ?_
     clear hK hS
     (try simp only [pu])
     have hS := hT
     clear hT
     (refine' held_one (i := 10) _ (by kernel_rfl) _ _; rotate_left; (focus exact geti); (focus rfl); intro K hK)
     have f0 := Bb9.cell (o := 0) rfl; have f1 := Bb9.cell (o := 1) rfl; have f2 := Bb9.cell (o := 2) rfl
     have ff := Bb9.free
     have yb := Bb9.lt
     go_simp
     obtain ⟨v5, hv⟩ : ∃ v, (((v4).setCell ⟨b9, 0, none⟩ (.int .i64 4)).setCell ⟨b9, 1, none⟩ (.int .i64 2)).setCell ⟨b9, 2, none⟩ (.slice sva 8 cva) = v := ⟨_, rfl⟩
     have hk : KeptBut (· = b9) v4 v5 := by rw [← hv]; repeat (first | exact KeptBut.refl _ _ | refine KeptBut.setCell ?_ _ _ rfl)
     have hT := held_kept hS hk gb9
     replace Bg := Bg.but hk (by omega)
     have neva := ownsC_ne Ova Bb9 (by decide)
     replace Ova := own_kept2 Ova hk (fun g hg he => neva (by rw [hg, he]))
     clear neva
     replace Bb9 := (((Bb9).set 0 (.int .i64 4)).set 1 (.int .i64 2)).set 2 (.slice sva 8 cva)
     rw [hv] at Bb9 ⊢
     clear hv hk ff yb f0 f1 f2
     refine hK _ _ hT ?_
     clear hK hS
     (try simp only [pu])
     have hS := hT
     clear hT
     (refine' hdo 11 hS ?_; simp only [pu])
     refine wpAnyH_done (by kernel_rfl) ?_ _
     go_wp2
     go_meet
     case rel => exact ⟨b9, _, rfl, rfl, Bb9, Ova, gb9, hS.1⟩
    ·intro K hK
     go_simp
     obtain ⟨v6, hv⟩ : ∃ v, v2.alloc (.cells #[.int .i64 0, .int .i64 0, .slice none 0 0] 26) = v := ⟨_, rfl⟩
     have hT := held_alloc hS hv
     have ngb9 := Nat.ne_of_lt Bg.lt
     replace Bg := Bg.alloc_eq hv
     have Bb9 := Blk.new_eq hv
     have gb9 := held_size hS
     rw [hv]
     clear hv
     generalize v2.heap.size = b9 at Bb9 gb9 ngb9 ⊢
     refine hK _ _ hT ?_
     clear hK hS
     (try simp only [pu])
     have hS := hT
     clear hT
     (refine' held_one (i := 5) _ (by kernel_rfl) _ _; rotate_left; (focus exact geti); (focus rfl); intro K hK; go_simp)
     refine (DR1.out v6 hS.1 _ Bg).mono ?_
     rintro e v7 ⟨hbq, va, rfl, Ova⟩
     have hT : Held W3 0 [] v7 := hS.below hbq
     have Bg := Bg.below hbq Bg.lt
     have Bb9 := Bb9.below hbq Bb9.lt
     have hzu := hS.1.size
     replace Ova : OwnsC W3.heap.size v7 va awCA := own_less Ova hzu
     clear hzu
     obtain ⟨sva, cva, hva⟩ := own_slice Ova
     rw [eA] at hva
     subst hva
     clear hbq
     refine hK _ _ hT ?_
     clear hK hS
     (try simp only [pu])
     have hS := hT
     clear hT
     (refine' hdo 6 hS ?_; simp only [pu])
     (refine' hdo 7 hS ?_; simp only [pu])
     (refine' hdo 8 hS ?_; simp only [pu])
     (refine' held_one (i := 10) _ (by kernel_rfl) _ _; rotate_left; (focus exact geti); (focus rfl); intro K hK)
     have f0 := Bb9.cell (o := 0) rfl; have f1 := Bb9.cell (o := 1) rfl; have f2 := Bb9.cell (o := 2) rfl
     have ff := Bb9.free
     have yb := Bb9.lt
     go_simp
     obtain ⟨v8, hv⟩ : ∃ v, (((v7).setCell ⟨b9, 0, none⟩ (.int .i64 4)).setCell ⟨b9, 1, none⟩ (.int .i64 2)).setCell ⟨b9, 2, none⟩ (.slice sva 8 cva) = v := ⟨_, rfl⟩
     have hk : KeptBut (· = b9) v7 v8 := by rw [← hv]; repeat (first | exact KeptBut.refl _ _ | refine KeptBut.setCell ?_ _ _ rfl)
     have hT := held_kept hS hk gb9
     replace Bg := Bg.but hk (by omega)
     have neva := ownsC_ne Ova Bb9 (by decide)
     replace Ova := own_kept2 Ova hk (fun g hg he => neva (by rw [hg, he]))
     clear neva
     replace Bb9 := (((Bb9).set 0 (.int .i64 4)).set 1 (.int .i64 2)).set 2 (.slice sva 8 cva)
     rw [hv] at Bb9 ⊢
     clear hv hk ff yb f0 f1 f2
     refine hK _ _ hT ?_
     clear hK hS
     (try simp only [pu])
     have hS := hT
     clear hT
     (refine' hdo 11 hS ?_; simp only [pu])
     refine wpAnyH_done (by kernel_rfl) ?_ _
     go_wp2
     go_meet
     case rel => exact ⟨b9, _, rfl, rfl, Bb9, Ova, gb9, hS.1⟩
   ·intro K hK
    go_simp
    obtain ⟨v9, hv⟩ : ∃ v, v1.alloc (.cells #[.int .i64 0, .int .i64 0, .slice none 0 0] 26) = v := ⟨_, rfl⟩
    have hT := held_alloc hS hv
    have Bb9 := Blk.new_eq hv
    have gb9 := held_size hS
    rw [hv]
    clear hv
    generalize v1.heap.size = b9 at Bb9 gb9 ⊢
    refine hK _ _ hT ?_
    clear hK hS
    (try simp only [pu])
    have hS := hT
    clear hT
    (refine' held_one (i := 4) _ (by kernel_rfl) _ _; rotate_left; (focus exact geti); (focus rfl); intro K hK; go_simp)
    obtain ⟨v10, hv⟩ : ∃ v, v9.alloc (.cells #[.int .u8 3, .int .i64 1, .int .i64 0, .int .i64 2, .int .i64 2, .int .u8 255, .int .u8 255, .int .u8 255, .int .u8 255, .int .u8 0, .int .u8 0, .int .u8 0, .int .u8 0, .string ⟨#[97, 98, 10, 99]⟩, .int .i64 0] 46) = v := ⟨_, rfl⟩
    have hT := held_alloc hS hv
    have nb9g := Nat.ne_of_lt Bb9.lt
    replace Bb9 := Bb9.alloc_eq hv
    have Bg := Blk.new_eq hv
    have gg := held_size hS
    rw [hv]
    clear hv
    generalize v9.heap.size = g at Bg gg nb9g ⊢
    refine hK _ _ hT ?_
    clear hK hS
    (try simp only [pu])
    have hS := hT
    clear hT
    (refine' held_one (i := 5) _ (by kernel_rfl) _ _; rotate_left; (focus exact geti); (focus rfl); intro K hK; go_simp)
    refine (DR1.out v10 hS.1 _ Bg).mono ?_
    rintro e v11 ⟨hbq, va, rfl, Ova⟩
    have hT : Held W3 0 [] v11 := hS.below hbq
    have Bb9 := Bb9.below hbq Bb9.lt
    have Bg := Bg.below hbq Bg.lt
    have hzu := hS.1.size
    replace Ova : OwnsC W3.heap.size v11 va awCA := own_less Ova hzu
    clear hzu
    obtain ⟨sva, cva, hva⟩ := own_slice Ova
    rw [eA] at hva
    subst hva
    clear hbq
    refine hK _ _ hT ?_
    clear hK hS
    (try simp only [pu])
    have hS := hT
    clear hT
    (refine' hdo 6 hS ?_; simp only [pu])
    (refine' hdo 7 hS ?_; simp only [pu])
    (refine' hdo 8 hS ?_; simp only [pu])
    (refine' held_one (i := 10) _ (by kernel_rfl) _ _; rotate_left; (focus exact geti); (focus rfl); intro K hK)
    have f0 := Bb9.cell (o := 0) rfl; have f1 := Bb9.cell (o := 1) rfl; have f2 := Bb9.cell (o := 2) rfl
    have ff := Bb9.free
    have yb := Bb9.lt
    go_simp
    obtain ⟨v12, hv⟩ : ∃ v, (((v11).setCell ⟨b9, 0, none⟩ (.int .i64 4)).setCell ⟨b9, 1, none⟩ (.int .i64 2)).setCell ⟨b9, 2, none⟩ (.slice sva 8 cva) = v := ⟨_, rfl⟩
    have hk : KeptBut (· = b9) v11 v12 := by rw [← hv]; repeat (first | exact KeptBut.refl _ _ | refine KeptBut.setCell ?_ _ _ rfl)
    have hT := held_kept hS hk gb9
    replace Bg := Bg.but hk (by omega)
    have neva := ownsC_ne Ova Bb9 (by decide)
    replace Ova := own_kept2 Ova hk (fun g hg he => neva (by rw [hg, he]))
    clear neva
    replace Bb9 := (((Bb9).set 0 (.int .i64 4)).set 1 (.int .i64 2)).set 2 (.slice sva 8 cva)
    rw [hv] at Bb9 ⊢
    clear hv hk ff yb f0 f1 f2
    refine hK _ _ hT ?_
    clear hK hS
    (try simp only [pu])
    have hS := hT
    clear hT
    (refine' hdo 11 hS ?_; simp only [pu])
    refine wpAnyH_done (by kernel_rfl) ?_ _
    go_wp2
    go_meet
    case rel => exact ⟨b9, _, rfl, rfl, Bb9, Ova, gb9, hS.1⟩
  ·intro K hK
   go_simp
   obtain ⟨v13, hv⟩ : ∃ v, u0.alloc (.cells #[.int .i64 0, .int .i64 0, .slice none 0 0] 26) = v := ⟨_, rfl⟩
   have hT := held_alloc hS hv
   have Bb9 := Blk.new_eq hv
   have gb9 := held_size hS
   rw [hv]
   clear hv
   generalize u0.heap.size = b9 at Bb9 gb9 ⊢
   refine hK _ _ hT ?_
   clear hK hS
   (try simp only [pu])
   have hS := hT
   clear hT
   (refine' held_one (i := 1) _ (by kernel_rfl) _ _; rotate_left; (focus exact geti); (focus rfl); intro K hK; go_simp)
   refine (lrect_any 1 0 2 2 v13).mono ?_
   rintro e v14 ⟨rfl, hbq⟩
   have hT : Held W3 0 [] v14 := hS.below hbq
   have Bb9 := Bb9.below hbq Bb9.lt
   clear hbq
   refine hK _ _ hT ?_
   clear hK hS
   (try simp only [pu])
   have hS := hT
   clear hT
   (refine' hdo 3 hS ?_; simp only [pu])
   (refine' held_one (i := 4) _ (by kernel_rfl) _ _; rotate_left; (focus exact geti); (focus rfl); intro K hK; go_simp)
   obtain ⟨v15, hv⟩ : ∃ v, v14.alloc (.cells #[.int .u8 3, .int .i64 1, .int .i64 0, .int .i64 2, .int .i64 2, .int .u8 255, .int .u8 255, .int .u8 255, .int .u8 255, .int .u8 0, .int .u8 0, .int .u8 0, .int .u8 0, .string ⟨#[97, 98, 10, 99]⟩, .int .i64 0] 46) = v := ⟨_, rfl⟩
   have hT := held_alloc hS hv
   have nb9g := Nat.ne_of_lt Bb9.lt
   replace Bb9 := Bb9.alloc_eq hv
   have Bg := Blk.new_eq hv
   have gg := held_size hS
   rw [hv]
   clear hv
   generalize v14.heap.size = g at Bg gg nb9g ⊢
   refine hK _ _ hT ?_
   clear hK hS
   (try simp only [pu])
   have hS := hT
   clear hT
   (refine' held_one (i := 5) _ (by kernel_rfl) _ _; rotate_left; (focus exact geti); (focus rfl); intro K hK; go_simp)
   refine (DR1.out v15 hS.1 _ Bg).mono ?_
   rintro e v16 ⟨hbq, va, rfl, Ova⟩
   have hT : Held W3 0 [] v16 := hS.below hbq
   have Bb9 := Bb9.below hbq Bb9.lt
   have Bg := Bg.below hbq Bg.lt
   have hzu := hS.1.size
   replace Ova : OwnsC W3.heap.size v16 va awCA := own_less Ova hzu
   clear hzu
   obtain ⟨sva, cva, hva⟩ := own_slice Ova
   rw [eA] at hva
   subst hva
   clear hbq
   refine hK _ _ hT ?_
   clear hK hS
   (try simp only [pu])
   have hS := hT
   clear hT
   (refine' hdo 6 hS ?_; simp only [pu])
   (refine' hdo 7 hS ?_; simp only [pu])
   (refine' hdo 8 hS ?_; simp only [pu])
   (refine' held_one (i := 10) _ (by kernel_rfl) _ _; rotate_left; (focus exact geti); (focus rfl); intro K hK)
   have f0 := Bb9.cell (o := 0) rfl; have f1 := Bb9.cell (o := 1) rfl; have f2 := Bb9.cell (o := 2) rfl
   have ff := Bb9.free
   have yb := Bb9.lt
   go_simp
   obtain ⟨v17, hv⟩ : ∃ v, (((v16).setCell ⟨b9, 0, none⟩ (.int .i64 4)).setCell ⟨b9, 1, none⟩ (.int .i64 2)).setCell ⟨b9, 2, none⟩ (.slice sva 8 cva) = v := ⟨_, rfl⟩
   have hk : KeptBut (· = b9) v16 v17 := by rw [← hv]; repeat (first | exact KeptBut.refl _ _ | refine KeptBut.setCell ?_ _ _ rfl)
   have hT := held_kept hS hk gb9
   replace Bg := Bg.but hk (by omega)
   have neva := ownsC_ne Ova Bb9 (by decide)
   replace Ova := own_kept2 Ova hk (fun g hg he => neva (by rw [hg, he]))
   clear neva
   replace Bb9 := (((Bb9).set 0 (.int .i64 4)).set 1 (.int .i64 2)).set 2 (.slice sva 8 cva)
   rw [hv] at Bb9 ⊢
   clear hv hk ff yb f0 f1 f2
   refine hK _ _ hT ?_
   clear hK hS
   (try simp only [pu])
   have hS := hT
   clear hT
   (refine' hdo 11 hS ?_; simp only [pu])
   refine wpAnyH_done (by kernel_rfl) ?_ _
   go_wp2
   go_meet
   case rel => exact ⟨b9, _, rfl, rfl, Bb9, Ova, gb9, hS.1⟩
 case rest =>
  obtain ⟨b4, va, rfl, rfl, B4, OA, gb4, hbc⟩ := hcut
  obtain ⟨sva, cva, hva⟩ := own_slice OA
  rw [eA] at hva
  subst hva
  replace B1 := B1.out.below hbc yb1
  replace B2 := B2.out.below hbc ya
  replace O0 := O0.out.below hbc (Nat.le_refl _)
  have hbW := hb3.out.trans (hbc.mono hb3.out.size)
  clear hb3 k0a k1a k2a ya c0 c1 c2 c3 yb1 DR1
  have TX := Lib.hid (show Calls Tryz.prog 23 #[.agg #[.int .i64 (4), .int .i64 (2), .slice sva 8 cva]] wc (fun e w' => e = .returned (.tuple #[.string ⟨#[32, 97, 98, 32, 10, 32, 99, 32, 32, 10]⟩, .int .i64 0]) ∧ Below wc.heap.size wc w') from by
   have h := ctext_any 4 2 awCA (.slice sva 8 cva) wc I4 I2 (OA.row (Nat.le_refl _))
   have ht : txtS 4 2 awCA = ⟨#[32, 97, 98, 32, 10, 32, 99, 32, 32, 10]⟩ := by unfold txtS; rw [if_pos aw_t.1, aw_t.2]
   rw [ht, aw_t.1] at h
   exact h)
  have hbW := Lib.hid hbW
  have k0b := B4.cell (o := 0) rfl
  have k1b := B4.cell (o := 1) rfl
  have k2b := B4.cell (o := 2) rfl
  have yb := B4.lt
  go_upto_region 5 with (go_at_call 23; (with_reducible refine TX.out.mono ?_); rintro e w5 ⟨rfl, hb5⟩)
  replace hbW := hbW.out
  clear TX k0b k1b k2b yb
  replace B1 := B1.below hb5 B1.lt
  replace B2 := B2.below hb5 B2.lt
  replace B4 := B4.below hb5 B4.lt
  replace O0 := O0.below hb5 (Nat.le_refl _)
  replace OA := OA.below hb5 (Nat.le_refl _)
  replace hbW := hbW.trans (hb5.mono hbW.size)
  clear hb5
  have RU := Lib.hid (show Calls Tryz.prog 28 #[.agg #[.int .i64 (4), .int .i64 (2), .slice sv0 8 cv0], .agg #[.int .i64 (4), .int .i64 (2), .slice sva 8 cva]] w5 (OutR w5.heap.size 0 awL w5) from by
   have h := cruns_any 4 2 awC0 (.slice sv0 8 cv0) 4 2 awCA (.slice sva 8 cva) w5 I4 I2 I4 I2 (O0.row (Nat.le_refl _)) (OA.row (Nat.le_refl _))
   rw [aw_l.1] at h
   exact h)
  have k0a := B2.cell (o := 0) rfl
  have k1a := B2.cell (o := 1) rfl
  have k2a := B2.cell (o := 2) rfl
  have ya := B2.lt
  have k0b := B4.cell (o := 0) rfl
  have k1b := B4.cell (o := 1) rfl
  have k2b := B4.cell (o := 2) rfl
  have yb := B4.lt
  replace hbW := Lib.hid hbW
  go_upto_region 6 with (go_at_call 28; (with_reducible refine RU.out.mono ?_); rintro e w6 ⟨hb6, vl, rfl, RL⟩; obtain ⟨sl, cl, hvl⟩ := RL.slice; rw [aw_l.2.1] at hvl; subst hvl)
  replace hbW := hbW.out
  clear k0a k1a k2a ya k0b k1b k2b yb
  replace B1 := B1.below hb6 B1.lt
  replace B2 := B2.below hb6 B2.lt
  replace B4 := B4.below hb6 B4.lt
  replace O0 := O0.below hb6 (Nat.le_refl _)
  replace OA := OA.below hb6 (Nat.le_refl _)
  replace hbW := hbW.trans (hb6.mono hbW.size)
  clear hb6 RU
  have eL : awL.length = 2 := aw_l.2.1
  have ES := Lib.hid (show Calls Tryz.prog 32 #[.slice sl 2 cl] w6 (fun e w' => e = .returned (.tuple #[.string (strL (escT awL).data.toList), .int .i64 0]) ∧ Below w6.heap.size w6 w') from by
   have h := cescapes_any awL (.slice sl 2 cl) w6 (RL.at_ (Nat.le_refl _)) aw_wfL (hD.below hbW (Nat.le_refl _))
   have es : strL (escT awL).data.toList = escT awL := by unfold strL; simp
   rw [aw_x] at h
   rw [es]
   exact h)
  replace hbW := Lib.hid hbW
  replace RL := Lib.hid RL
  obtain ⟨X, hX⟩ : ∃ X, (escT awL).data.toList = X := ⟨_, rfl⟩
  have hXr := aw_r1
  rw [hX] at ES hXr
  obtain ⟨SX, hSX⟩ : ∃ s, strL X = s := ⟨_, rfl⟩
  rw [hSX] at ES
  have hXl : X.length ≤ 9223372036854775807 := by rw [← hX]; exact Nat.le_of_ble_eq_true (by kernel_rfl)
  go_upto_region 7 with (go_at_call 32; (with_reducible refine ES.out.mono ?_); rintro e w7 ⟨rfl, hb7⟩)
  replace hbW := hbW.out
  replace RL := RL.out.below hb7 (Nat.le_refl _)
  replace B1 := B1.below hb7 B1.lt
  replace B2 := B2.below hb7 B2.lt
  replace B4 := B4.below hb7 B4.lt
  replace O0 := O0.below hb7 (Nat.le_refl _)
  replace OA := OA.below hb7 (Nat.le_refl _)
  replace hbW := hbW.trans (hb7.mono hbW.size)
  clear hb7 ES
  have RD := Lib.hid (show Calls Tryz.prog 19 #[.agg #[.int .i64 (4), .int .i64 (2), .slice sv0 8 cv0], .string SX] w7 (OutRd w7.heap.size (0, 0, 4, 2, awCA) w7) from by
   have h := cread_any 4 2 awC0 (.slice sv0 8 cv0) X w7 I4 I2 (O0.row (Nat.le_refl _)) hXl (hE.below hbW (Nat.le_refl _))
   rw [hXr, hSX] at h
   exact h)
  have k0a := B2.cell (o := 0) rfl
  have k1a := B2.cell (o := 1) rfl
  have k2a := B2.cell (o := 2) rfl
  have ya := B2.lt
  replace hbW := Lib.hid hbW
  replace RL := Lib.hid RL
  go_upto_region 8 with (go_at_call 19; (with_reducible refine RD.out.mono ?_); rintro e w8 ⟨hb8, vr, rfl, OR⟩; obtain ⟨svr, cvr, hvr⟩ := own_slice OR; rw [show ((0 : Int), (0 : Int), (4 : Int), (2 : Int), awCA).2.2.2.2.length = 8 from eA] at hvr; subst hvr)
  replace hbW := hbW.out
  clear k0a k1a k2a ya
  obtain ⟨W9, hW9⟩ : ∃ W9, w8.alloc (.cells #[.int .i64 4, .int .i64 2, .slice svr 8 cvr] 26) = W9 := ⟨_, rfl⟩
  obtain ⟨b12, hb12⟩ : ∃ b, w8.heap.size = b := ⟨_, rfl⟩
  have B12 : Blk W9 b12 [.int .i64 4, .int .i64 2, .slice svr 8 cvr] 26 := by rw [← hW9]; exact Blk.new' hb12.symm
  have hb9 : Below w7.heap.size w7 W9 := by rw [← hW9]; exact hb8.alloc hb8.size _
  have OR9 : OwnsC w7.heap.size W9 (.slice svr 8 cvr) awCA := by rw [← hW9]; exact OR.alloc _
  rw [hW9, hb12]
  clear hW9 hb12 OR hb8 RD
  replace RL := RL.out.below hb9 (Nat.le_refl _)
  replace B1 := B1.below hb9 B1.lt
  replace B2 := B2.below hb9 B2.lt
  replace B4 := B4.below hb9 B4.lt
  replace O0 := O0.below hb9 (Nat.le_refl _)
  replace OA := OA.below hb9 (Nat.le_refl _)
  replace hbW := hbW.trans (hb9.mono hbW.size)
  clear hb9
  have RD := Lib.hid (show Calls Tryz.prog 19 #[.agg #[.int .i64 (4), .int .i64 (2), .slice sv0 8 cv0], .string ⟨#[27, 91, 49, 59, 52, 72, 97, 98]⟩] W9 (OutRd W9.heap.size (150, 7, 0, 0, []) W9) from by
   have h := cread_any 4 2 awC0 (.slice sv0 8 cv0) awX W9 I4 I2 (O0.row (Nat.le_refl _)) (by decide) (hE.below hbW (Nat.le_refl _))
   rw [aw_r2] at h
   exact h)
  have k0a := B2.cell (o := 0) rfl
  have k1a := B2.cell (o := 1) rfl
  have k2a := B2.cell (o := 2) rfl
  have ya := B2.lt
  replace hbW := Lib.hid hbW
  replace RL := Lib.hid RL
  go_upto_region 9 with (go_at_call 19; (with_reducible refine RD.out.mono ?_); rintro e w10 ⟨hb10, vr2, rfl, OR2⟩; obtain ⟨sv2, cv2, hv2⟩ := own_slice OR2; rw [show ((150 : Int), (7 : Int), (0 : Int), (0 : Int), ([] : List Ce)).2.2.2.2.length = 0 from rfl] at hv2; subst hv2)
  replace hbW := hbW.out
  clear k0a k1a k2a ya
  obtain ⟨W11, hW11⟩ : ∃ W11, w10.alloc (.cells #[.int .i64 0, .int .i64 0, .slice sv2 0 cv2] 26) = W11 := ⟨_, rfl⟩
  obtain ⟨b15, hb15⟩ : ∃ b, w10.heap.size = b := ⟨_, rfl⟩
  have hb11 : Below W9.heap.size W9 W11 := by rw [← hW11]; exact hb10.alloc hb10.size _
  rw [hW11, hb15]
  clear hW11 hb15 OR2 hb10 RD
  replace RL := RL.out.below hb11 (Nat.le_refl _)
  replace B1 := B1.below hb11 B1.lt
  replace B2 := B2.below hb11 B2.lt
  replace B4 := B4.below hb11 B4.lt
  replace B12 := B12.below hb11 B12.lt
  replace O0 := O0.below hb11 (Nat.le_refl _)
  replace OA := OA.below hb11 (Nat.le_refl _)
  replace OR9 := OR9.below hb11 (Nat.le_refl _)
  replace hbW := hbW.trans (hb11.mono hbW.size)
  clear hb11
  have DR2 := fun u (hu : Below W11.heap.size W11 u) g (hg : Blk u g awS2.enc 46) => draw_lit 4 2 awC0 awS2 _ W11 u g W1.heap.size I4 I2 O0 aw_wf0 aw_wf2 hu hg
  simp only [aw_d2.1, aw_d2.2.1, aw_d2.2.2] at DR2
  replace DR2 := Lib.hid DR2
  have k0a := B2.cell (o := 0) rfl
  have k1a := B2.cell (o := 1) rfl
  have k2a := B2.cell (o := 2) rfl
  have ya := B2.lt
  have c0 := B1.cell (o := 0) rfl
  have c1 := B1.cell (o := 1) rfl
  have c2 := B1.cell (o := 2) rfl
  have c3 := B1.cell (o := 3) rfl
  have yb1 := B1.lt
  replace hbW := Lib.hid hbW
  replace RL := Lib.hid RL
  replace B1 := Lib.hid B1
  replace B2 := Lib.hid B2
  replace B4 := Lib.hid B4
  replace B12 := Lib.hid B12
  replace O0 := Lib.hid O0
  replace OA := Lib.hid OA
  replace OR9 := Lib.hid OR9
  go_cut [18, 19] (fun v18 v19 wx => ∃ (b4 : Nat) (va : Value), v18 = .pointer (some ⟨b4, 0, none⟩) ∧ v19 = .int .i64 0 ∧ Blk wx b4 [.int .i64 4, .int .i64 2, va] 26 ∧ OwnsC W11.heap.size wx va awCC ∧ W11.heap.size ≤ b4 ∧ Below W11.heap.size W11 wx)
  case first =>
   refine held_begin (Held W11 0 []) (by kernel_rfl) ⟨Below.drew (Below.refl _ _), Nat.le_refl _, trivial⟩ (fun hS => ?_)
   generalize W11.drew = u0 at hS ⊢
   (refine' hdo 0 hS ?_; simp only [pu])
   (refine' hdo 2 hS ?_; simp only [pu])
   (refine' held_two (i := 1) (j := 9) rfl rfl (by kernel_rfl) _ _ _ _; (focus rfl); (focus rfl))
   ·intro K hK
    go_simp
    refine (lrect_any 3 0 1 1 u0).mono ?_
    rintro e v1 ⟨rfl, hbq⟩
    have hT : Held W11 0 [] v1 := hS.below hbq
    clear hbq
    refine hK _ _ hT ?_
    clear hK hS
    (try simp only [pu])
    have hS := hT
    clear hT
    (refine' hdo 3 hS ?_; simp only [pu])
    (refine' held_two (i := 4) (j := 9) rfl rfl (by kernel_rfl) _ _ _ _; (focus rfl); (focus rfl))
    ·intro K hK
     go_simp
     obtain ⟨v2, hv⟩ : ∃ v, v1.alloc (.cells #[.int .u8 3, .int .i64 3, .int .i64 0, .int .i64 1, .int .i64 1, .int .u8 255, .int .u8 255, .int .u8 255, .int .u8 255, .int .u8 0, .int .u8 0, .int .u8 0, .int .u8 0, .string ⟨#[228, 184, 128, 120]⟩, .int .i64 0] 46) = v := ⟨_, rfl⟩
     have hT := held_alloc hS hv
     have Bg := Blk.new_eq hv
     have gg := held_size hS
     rw [hv]
     clear hv
     generalize v1.heap.size = g at Bg gg ⊢
     refine hK _ _ hT ?_
     clear hK hS
     (try simp only [pu])
     have hS := hT
     clear hT
     (refine' held_two (i := 5) (j := 9) rfl rfl (by kernel_rfl) _ _ _ _; (focus rfl); (focus rfl))
     ·intro K hK
      go_simp
      refine (DR2.out v2 hS.1 _ Bg).mono ?_
      rintro e v3 ⟨hbq, va, rfl, Ova⟩
      have hT : Held W11 0 [] v3 := hS.below hbq
      have Bg := Bg.below hbq Bg.lt
      have hzu := hS.1.size
      replace Ova : OwnsC W11.heap.size v3 va awCC := own_less Ova hzu
      clear hzu
      obtain ⟨sva, cva, hva⟩ := own_slice Ova
      rw [eC] at hva
      subst hva
      clear hbq
      refine hK _ _ hT ?_
      clear hK hS
      (try simp only [pu])
      have hS := hT
      clear hT
      (refine' hdo 6 hS ?_; simp only [pu])
      (refine' hdo 7 hS ?_; simp only [pu])
      (refine' hdo 8 hS ?_; simp only [pu])
      (refine' held_one (i := 9) _ (by kernel_rfl) _ _; rotate_left; (focus exact geti); (focus rfl); intro K hK; go_simp)
      obtain ⟨v4, hv⟩ : ∃ v, v3.alloc (.cells #[.int .i64 0, .int .i64 0, .slice none 0 0] 26) = v := ⟨_, rfl⟩
      have hT := held_alloc hS hv
      have ngb9 := Nat.ne_of_lt Bg.lt
      replace Bg := Bg.alloc_eq hv
      replace Ova := OwnsC.alloc_eq Ova hv
      have Bb9 := Blk.new_eq hv
      have gb9 := held_size hS
      rw [hv]
      clear hv
      generalize v3.heap.size = b9 at Bb9 gb9 ngb9 ⊢
      refine hK _ _ hT ?_
      clear hK hS
      (try simp only [pu])
      have hS := hT
      clear hT
      (refine' held_one (i := 10) _ (by kernel_rfl) _ _; rotate_left; (focus exact geti); (focus rfl); intro K hK)
      have f0 := Bb9.cell (o := 0) rfl; have f1 := Bb9.cell (o := 1) rfl; have f2 := Bb9.cell (o := 2) rfl
      have ff := Bb9.free
      have yb := Bb9.lt
      go_simp
      obtain ⟨v5, hv⟩ : ∃ v, (((v4).setCell ⟨b9, 0, none⟩ (.int .i64 4)).setCell ⟨b9, 1, none⟩ (.int .i64 2)).setCell ⟨b9, 2, none⟩ (.slice sva 8 cva) = v := ⟨_, rfl⟩
      have hk : KeptBut (· = b9) v4 v5 := by rw [← hv]; repeat (first | exact KeptBut.refl _ _ | refine KeptBut.setCell ?_ _ _ rfl)
      have hT := held_kept hS hk gb9
      replace Bg := Bg.but hk (by omega)
      have neva := ownsC_ne Ova Bb9 (by decide)
      replace Ova := own_kept2 Ova hk (fun g hg he => neva (by rw [hg, he]))
      clear neva
      replace Bb9 := (((Bb9).set 0 (.int .i64 4)).set 1 (.int .i64 2)).set 2 (.slice sva 8 cva)
      rw [hv] at Bb9 ⊢
      clear hv hk ff yb f0 f1 f2
      refine hK _ _ hT ?_
      clear hK hS
      (try simp only [pu])
      have hS := hT
      clear hT
      (refine' hdo 11 hS ?_; simp only [pu])
      refine wpAnyH_done (by kernel_rfl) ?_ _
      go_wp2
      go_meet
      case rel => exact ⟨b9, _, rfl, rfl, Bb9, Ova, gb9, hS.1⟩
     ·intro K hK
      go_simp
      obtain ⟨v6, hv⟩ : ∃ v, v2.alloc (.cells #[.int .i64 0, .int .i64 0, .slice none 0 0] 26) = v := ⟨_, rfl⟩
      have hT := held_alloc hS hv
      have ngb9 := Nat.ne_of_lt Bg.lt
      replace Bg := Bg.alloc_eq hv
      have Bb9 := Blk.new_eq hv
      have gb9 := held_size hS
      rw [hv]
      clear hv
      generalize v2.heap.size = b9 at Bb9 gb9 ngb9 ⊢
      refine hK _ _ hT ?_
      clear hK hS
      (try simp only [pu])
      have hS := hT
      clear hT
      (refine' held_one (i := 5) _ (by kernel_rfl) _ _; rotate_left; (focus exact geti); (focus rfl); intro K hK; go_simp)
      refine (DR2.out v6 hS.1 _ Bg).mono ?_
      rintro e v7 ⟨hbq, va, rfl, Ova⟩
      have hT : Held W11 0 [] v7 := hS.below hbq
      have Bg := Bg.below hbq Bg.lt
      have Bb9 := Bb9.below hbq Bb9.lt
      have hzu := hS.1.size
      replace Ova : OwnsC W11.heap.size v7 va awCC := own_less Ova hzu
      clear hzu
      obtain ⟨sva, cva, hva⟩ := own_slice Ova
      rw [eC] at hva
      subst hva
      clear hbq
      refine hK _ _ hT ?_
      clear hK hS
      (try simp only [pu])
      have hS := hT
      clear hT
      (refine' hdo 6 hS ?_; simp only [pu])
      (refine' hdo 7 hS ?_; simp only [pu])
      (refine' hdo 8 hS ?_; simp only [pu])
      (refine' held_one (i := 10) _ (by kernel_rfl) _ _; rotate_left; (focus exact geti); (focus rfl); intro K hK)
      have f0 := Bb9.cell (o := 0) rfl; have f1 := Bb9.cell (o := 1) rfl; have f2 := Bb9.cell (o := 2) rfl
      have ff := Bb9.free
      have yb := Bb9.lt
      go_simp
      obtain ⟨v8, hv⟩ : ∃ v, (((v7).setCell ⟨b9, 0, none⟩ (.int .i64 4)).setCell ⟨b9, 1, none⟩ (.int .i64 2)).setCell ⟨b9, 2, none⟩ (.slice sva 8 cva) = v := ⟨_, rfl⟩
      have hk : KeptBut (· = b9) v7 v8 := by rw [← hv]; repeat (first | exact KeptBut.refl _ _ | refine KeptBut.setCell ?_ _ _ rfl)
      have hT := held_kept hS hk gb9
      replace Bg := Bg.but hk (by omega)
      have neva := ownsC_ne Ova Bb9 (by decide)
      replace Ova := own_kept2 Ova hk (fun g hg he => neva (by rw [hg, he]))
      clear neva
      replace Bb9 := (((Bb9).set 0 (.int .i64 4)).set 1 (.int .i64 2)).set 2 (.slice sva 8 cva)
      rw [hv] at Bb9 ⊢
      clear hv hk ff yb f0 f1 f2
      refine hK _ _ hT ?_
      clear hK hS
      (try simp only [pu])
      have hS := hT
      clear hT
      (refine' hdo 11 hS ?_; simp only [pu])
      refine wpAnyH_done (by kernel_rfl) ?_ _
      go_wp2
      go_meet
      case rel => exact ⟨b9, _, rfl, rfl, Bb9, Ova, gb9, hS.1⟩
    ·intro K hK
     go_simp
     obtain ⟨v9, hv⟩ : ∃ v, v1.alloc (.cells #[.int .i64 0, .int .i64 0, .slice none 0 0] 26) = v := ⟨_, rfl⟩
     have hT := held_alloc hS hv
     have Bb9 := Blk.new_eq hv
     have gb9 := held_size hS
     rw [hv]
     clear hv
     generalize v1.heap.size = b9 at Bb9 gb9 ⊢
     refine hK _ _ hT ?_
     clear hK hS
     (try simp only [pu])
     have hS := hT
     clear hT
     (refine' held_one (i := 4) _ (by kernel_rfl) _ _; rotate_left; (focus exact geti); (focus rfl); intro K hK; go_simp)
     obtain ⟨v10, hv⟩ : ∃ v, v9.alloc (.cells #[.int .u8 3, .int .i64 3, .int .i64 0, .int .i64 1, .int .i64 1, .int .u8 255, .int .u8 255, .int .u8 255, .int .u8 255, .int .u8 0, .int .u8 0, .int .u8 0, .int .u8 0, .string ⟨#[228, 184, 128, 120]⟩, .int .i64 0] 46) = v := ⟨_, rfl⟩
     have hT := held_alloc hS hv
     have nb9g := Nat.ne_of_lt Bb9.lt
     replace Bb9 := Bb9.alloc_eq hv
     have Bg := Blk.new_eq hv
     have gg := held_size hS
     rw [hv]
     clear hv
     generalize v9.heap.size = g at Bg gg nb9g ⊢
     refine hK _ _ hT ?_
     clear hK hS
     (try simp only [pu])
     have hS := hT
     clear hT
     (refine' held_one (i := 5) _ (by kernel_rfl) _ _; rotate_left; (focus exact geti); (focus rfl); intro K hK; go_simp)
     refine (DR2.out v10 hS.1 _ Bg).mono ?_
     rintro e v11 ⟨hbq, va, rfl, Ova⟩
     have hT : Held W11 0 [] v11 := hS.below hbq
     have Bb9 := Bb9.below hbq Bb9.lt
     have Bg := Bg.below hbq Bg.lt
     have hzu := hS.1.size
     replace Ova : OwnsC W11.heap.size v11 va awCC := own_less Ova hzu
     clear hzu
     obtain ⟨sva, cva, hva⟩ := own_slice Ova
     rw [eC] at hva
     subst hva
     clear hbq
     refine hK _ _ hT ?_
     clear hK hS
     (try simp only [pu])
     have hS := hT
     clear hT
     (refine' hdo 6 hS ?_; simp only [pu])
     (refine' hdo 7 hS ?_; simp only [pu])
     (refine' hdo 8 hS ?_; simp only [pu])
     (refine' held_one (i := 10) _ (by kernel_rfl) _ _; rotate_left; (focus exact geti); (focus rfl); intro K hK)
     have f0 := Bb9.cell (o := 0) rfl; have f1 := Bb9.cell (o := 1) rfl; have f2 := Bb9.cell (o := 2) rfl
     have ff := Bb9.free
     have yb := Bb9.lt
     go_simp
     obtain ⟨v12, hv⟩ : ∃ v, (((v11).setCell ⟨b9, 0, none⟩ (.int .i64 4)).setCell ⟨b9, 1, none⟩ (.int .i64 2)).setCell ⟨b9, 2, none⟩ (.slice sva 8 cva) = v := ⟨_, rfl⟩
     have hk : KeptBut (· = b9) v11 v12 := by rw [← hv]; repeat (first | exact KeptBut.refl _ _ | refine KeptBut.setCell ?_ _ _ rfl)
     have hT := held_kept hS hk gb9
     replace Bg := Bg.but hk (by omega)
     have neva := ownsC_ne Ova Bb9 (by decide)
     replace Ova := own_kept2 Ova hk (fun g hg he => neva (by rw [hg, he]))
     clear neva
     replace Bb9 := (((Bb9).set 0 (.int .i64 4)).set 1 (.int .i64 2)).set 2 (.slice sva 8 cva)
     rw [hv] at Bb9 ⊢
     clear hv hk ff yb f0 f1 f2
     refine hK _ _ hT ?_
     clear hK hS
     (try simp only [pu])
     have hS := hT
     clear hT
     (refine' hdo 11 hS ?_; simp only [pu])
     refine wpAnyH_done (by kernel_rfl) ?_ _
     go_wp2
     go_meet
     case rel => exact ⟨b9, _, rfl, rfl, Bb9, Ova, gb9, hS.1⟩
   ·intro K hK
    go_simp
    obtain ⟨v13, hv⟩ : ∃ v, u0.alloc (.cells #[.int .i64 0, .int .i64 0, .slice none 0 0] 26) = v := ⟨_, rfl⟩
    have hT := held_alloc hS hv
    have Bb9 := Blk.new_eq hv
    have gb9 := held_size hS
    rw [hv]
    clear hv
    generalize u0.heap.size = b9 at Bb9 gb9 ⊢
    refine hK _ _ hT ?_
    clear hK hS
    (try simp only [pu])
    have hS := hT
    clear hT
    (refine' held_one (i := 1) _ (by kernel_rfl) _ _; rotate_left; (focus exact geti); (focus rfl); intro K hK; go_simp)
    refine (lrect_any 3 0 1 1 v13).mono ?_
    rintro e v14 ⟨rfl, hbq⟩
    have hT : Held W11 0 [] v14 := hS.below hbq
    have Bb9 := Bb9.below hbq Bb9.lt
    clear hbq
    refine hK _ _ hT ?_
    clear hK hS
    (try simp only [pu])
    have hS := hT
    clear hT
    (refine' hdo 3 hS ?_; simp only [pu])
    (refine' held_one (i := 4) _ (by kernel_rfl) _ _; rotate_left; (focus exact geti); (focus rfl); intro K hK; go_simp)
    obtain ⟨v15, hv⟩ : ∃ v, v14.alloc (.cells #[.int .u8 3, .int .i64 3, .int .i64 0, .int .i64 1, .int .i64 1, .int .u8 255, .int .u8 255, .int .u8 255, .int .u8 255, .int .u8 0, .int .u8 0, .int .u8 0, .int .u8 0, .string ⟨#[228, 184, 128, 120]⟩, .int .i64 0] 46) = v := ⟨_, rfl⟩
    have hT := held_alloc hS hv
    have nb9g := Nat.ne_of_lt Bb9.lt
    replace Bb9 := Bb9.alloc_eq hv
    have Bg := Blk.new_eq hv
    have gg := held_size hS
    rw [hv]
    clear hv
    generalize v14.heap.size = g at Bg gg nb9g ⊢
    refine hK _ _ hT ?_
    clear hK hS
    (try simp only [pu])
    have hS := hT
    clear hT
    (refine' held_one (i := 5) _ (by kernel_rfl) _ _; rotate_left; (focus exact geti); (focus rfl); intro K hK; go_simp)
    refine (DR2.out v15 hS.1 _ Bg).mono ?_
    rintro e v16 ⟨hbq, va, rfl, Ova⟩
    have hT : Held W11 0 [] v16 := hS.below hbq
    have Bb9 := Bb9.below hbq Bb9.lt
    have Bg := Bg.below hbq Bg.lt
    have hzu := hS.1.size
    replace Ova : OwnsC W11.heap.size v16 va awCC := own_less Ova hzu
    clear hzu
    obtain ⟨sva, cva, hva⟩ := own_slice Ova
    rw [eC] at hva
    subst hva
    clear hbq
    refine hK _ _ hT ?_
    clear hK hS
    (try simp only [pu])
    have hS := hT
    clear hT
    (refine' hdo 6 hS ?_; simp only [pu])
    (refine' hdo 7 hS ?_; simp only [pu])
    (refine' hdo 8 hS ?_; simp only [pu])
    (refine' held_one (i := 10) _ (by kernel_rfl) _ _; rotate_left; (focus exact geti); (focus rfl); intro K hK)
    have f0 := Bb9.cell (o := 0) rfl; have f1 := Bb9.cell (o := 1) rfl; have f2 := Bb9.cell (o := 2) rfl
    have ff := Bb9.free
    have yb := Bb9.lt
    go_simp
    obtain ⟨v17, hv⟩ : ∃ v, (((v16).setCell ⟨b9, 0, none⟩ (.int .i64 4)).setCell ⟨b9, 1, none⟩ (.int .i64 2)).setCell ⟨b9, 2, none⟩ (.slice sva 8 cva) = v := ⟨_, rfl⟩
    have hk : KeptBut (· = b9) v16 v17 := by rw [← hv]; repeat (first | exact KeptBut.refl _ _ | refine KeptBut.setCell ?_ _ _ rfl)
    have hT := held_kept hS hk gb9
    replace Bg := Bg.but hk (by omega)
    have neva := ownsC_ne Ova Bb9 (by decide)
    replace Ova := own_kept2 Ova hk (fun g hg he => neva (by rw [hg, he]))
    clear neva
    replace Bb9 := (((Bb9).set 0 (.int .i64 4)).set 1 (.int .i64 2)).set 2 (.slice sva 8 cva)
    rw [hv] at Bb9 ⊢
    clear hv hk ff yb f0 f1 f2
    refine hK _ _ hT ?_
    clear hK hS
    (try simp only [pu])
    have hS := hT
    clear hT
    (refine' hdo 11 hS ?_; simp only [pu])
    refine wpAnyH_done (by kernel_rfl) ?_ _
    go_wp2
    go_meet
    case rel => exact ⟨b9, _, rfl, rfl, Bb9, Ova, gb9, hS.1⟩
  case rest =>
   obtain ⟨b18, vc, rfl, rfl, B18, OC, gb18, hbc⟩ := hcut
   obtain ⟨svc, cvc, hvc⟩ := own_slice OC
   rw [eC] at hvc
   subst hvc
   replace B4 := B4.out.below hbc B4.out.lt
   replace B12 := B12.out.below hbc B12.out.lt
   replace OA := OA.out.below hbc (Nat.le_refl _)
   replace OR9 := OR9.out.below hbc (Nat.le_refl _)
   replace RL := RL.out.below hbc (Nat.le_refl _)
   have hbE := hbW.out.trans (hbc.mono hbW.out.size)
   clear hbW hbc k0a k1a k2a ya c0 c1 c2 c3 yb1 DR2 B1 B2 O0
   have RA := RL.at_ (Nat.le_refl wc.heap.size)
   obtain ⟨gl, ol, capl, el, hgl, hcl1, hcl2, hell⟩ := RA.open_ (by rw [eL]; decide)
   rw [eL] at el
   simp only [Value.slice.injEq] at el
   obtain ⟨rfl, _, rfl⟩ := el
   obtain ⟨r1, hr1, hx1, hy1⟩ : ∃ r, awL[1]? = some r ∧ r.x = 1 ∧ r.y = 1 := by
    have h := aw_l.2.2
    cases hr : awL[1]? with
    | none => rw [hr] at h; cases h
    | some r =>
     rw [hr] at h
     injection h with h
     obtain ⟨h1, h2⟩ := Prod.mk.inj h
     exact ⟨r, rfl, h1, h2⟩
   obtain ⟨_, _, p0, p1, _, _⟩ := hell 1 r1 hr1
   rw [hx1] at p0
   rw [hy1] at p1
   clear hell hr1 hx1 hy1
   obtain ⟨gc, oc, capc, ec, hgc, _, _, hcel⟩ := row_ce (OC.row (Nat.le_refl _)) (by rw [eC]; decide)
   rw [eC] at ec
   simp only [Value.slice.injEq] at ec
   obtain ⟨rfl, _, rfl⟩ := ec
   obtain ⟨c3, hc3, hw3, hr3⟩ : ∃ c, awCC[3]? = some c ∧ c.wide = true ∧ c.rune = 19968 := by
    have h := aw_c.2
    cases hr : awCC[3]? with
    | none => rw [hr] at h; cases h
    | some c =>
     rw [hr] at h
     injection h with h
     obtain ⟨h1, h2⟩ := Prod.mk.inj h
     exact ⟨c, rfl, h1, h2⟩
   obtain ⟨q0, _, _, _, _, _, _, _, _, q9, _⟩ := hcel 3 c3 hc3
   rw [hr3] at q0
   rw [hw3] at q9
   clear hcel hc3 hw3 hr3
   have SM := Lib.hid (show Calls Tryz.prog 14 #[.agg #[.int .i64 (4), .int .i64 (2), .slice sva 8 cva], .agg #[.int .i64 (4), .int .i64 (2), .slice svr 8 cvr]] wc (fun e w' => e = .returned (.bool true) ∧ Below wc.heap.size wc w') from by
    have h := csame_any 4 2 4 2 awCA awCA (.slice sva 8 cva) (.slice svr 8 cvr) wc (OA.row (Nat.le_refl _)) (OR9.row (Nat.le_refl _))
    rw [samS_iff.2 ⟨rfl, rfl, rfl⟩] at h
    exact h)
   have CK := Lib.hid (fun u => (show Calls Tryz.prog 15 #[.agg #[.int .i64 (1), .int .i64 (0), .slice none 0 0]] u (fun e w' => e = .returned (.int .i64 0) ∧ Below u.heap.size u w') from by
    have h := ccheck_any 1 0 [] (.slice none 0 0) u (by unfold I64; omega) (by unfold I64; omega) ((OwnsC.nil 0 u).row (Nat.le_refl _))
    rw [aw_k] at h
    exact h))
   have k0d := B18.cell (o := 0) rfl
   have k1d := B18.cell (o := 1) rfl
   have k2d := B18.cell (o := 2) rfl
   have yd := B18.lt
   have k0b := B4.cell (o := 0) rfl
   have k1b := B4.cell (o := 1) rfl
   have k2b := B4.cell (o := 2) rfl
   have yb := B4.lt
   have k0e := B12.cell (o := 0) rfl
   have k1e := B12.cell (o := 1) rfl
   have k2e := B12.cell (o := 2) rfl
   have ye := B12.lt
   clear OA OR9 OC RL RA B4 B12 B18 hcl1 hcl2 eL
   replace hbE := Lib.hid hbE
   go_upto_region 12 with fail
   go_upto_region 13 with (go_at_call 14; (with_reducible refine SM.out.mono ?_); rintro e w13 ⟨rfl, hb13⟩)
   obtain ⟨hc13, hf13⟩ := bcell hb13
   go_wp2_with (go_at_call 15; (with_reducible refine (CK.out _).mono ?_); rintro e w14 ⟨rfl, hb14⟩)
   go_ret
   exact ⟨rfl, (hbE.out.trans (hb13.mono hbE.out.size)).trans (hb14.mono (by have := hbE.out.size; have := hb13.size; omega))⟩
end Go.Proofs.YtffmomgmkpmpkaaGreatDoor
