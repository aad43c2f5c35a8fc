/-
  Damage: the nodes whose flat strokes are unlike (damage.Nodes).
-/
import Derived.IntWalk
import Derived.Test.YtfcphagmjijmkaaGreatDoorProg
import Derived.Test.YtfcphagmjijmkaaGreatDoorDq26
import Derived.Test.YtfcphagmjijmkaaGreatDoorDq31
namespace Go.Proofs.YtfcphagmjijmkaaGreatDoor
open Go.RowKit
set_option linter.unusedVariables false
attribute [local go_sem] vwp vUpon_value vUpon_skip vUpon_enter vUpon_row
set_option linter.unusedSimpArgs false
set_option linter.unusedVariables false
open Go.Maps
theorem zeroI (w : World) : (zeroValue 3).run Tryz.prog w = .ok (.int .i64 0) w := by kernel_rfl
theorem map_below {H : Type} {P : Program} {k : TypeId} {R : Value → Option (DataW H × List MemPlace)} {b n B : Nat} {D : DataW H} {w w' : World} (h : w.ownsMap P k R b n D) (hb : Below B w w') (hl : b < B) : w'.ownsMap P k R b n D := by
  obtain ⟨es, clock, hh, r⟩ := h
  exact ⟨es, clock, (hb.block b hl).trans hh, r⟩
/-- The map of the call's own, at block M, at most n entries, each flat stroke at its count. -/
def OwnsM (w : World) (M n : Nat) (c : Fl → Int) : Prop := ∃ D : DataW Unit, w.ownsMap Tryz.prog 82 (plainElem Tryz.prog 3) M n D ∧ MapIs D c
theorem OwnsM.below {w w' : World} {M n B : Nat} {c : Fl → Int} (h : OwnsM w M n c) (hb : Below B w w') (hM : M < B) : OwnsM w' M n c := by
  obtain ⟨D, h1, h2⟩ := h
  exact ⟨D, map_below h1 hb hM, h2⟩
theorem OwnsM.lt {w : World} {M n : Nat} {c : Fl → Int} (h : OwnsM w M n c) : M < w.heap.size := by
  obtain ⟨D, h1, _⟩ := h
  exact h1.lt
/-- The same, but that one flat stroke's count is nought and still laid. -/
def OwnsZ (w : World) (M n : Nat) (c : Fl → Int) (f : Fl) : Prop := ∃ D : DataW Unit, w.ownsMap Tryz.prog 82 (plainElem Tryz.prog 3) M n D ∧ MapIs (D.del (kF f)) (setC c f 0)
theorem OwnsZ.below {w w' : World} {M n B : Nat} {c : Fl → Int} {f : Fl} (h : OwnsZ w M n c f) (hb : Below B w w') (hM : M < B) : OwnsZ w' M n c f := by
  obtain ⟨D, h1, h2⟩ := h
  exact ⟨D, map_below h1 hb hM, h2⟩
theorem ranges_below {H : Type} {P : Program} {k : TypeId} {R : Value → Option (DataW H × List MemPlace)} {b r n B cnt : Nat} {D : DataW H} {left : Lit → Bool} {w w' : World} (h : w.ranges P k R b r n D left cnt) (hb : Below B w w') (hl : b < B) (hr : r < B) : w'.ranges P k R b r n D left cnt := by
  obtain ⟨es, clock, since, seen, c0, h1, h2, h3, h4, h5, h6⟩ := h
  exact ⟨es, clock, since, seen, c0, (hb.block b hl).trans h1, h2, h3, h4, (hb.block r hr).trans h5, h6⟩
set_option maxRecDepth 100000 in
/-- Every operation of 'm[k] op= v' on such a map. -/
theorem own_entry {w : World} {M n : Nat} {c : Fl → Int} {f : Fl} (h : OwnsM w M n c) (hf : f.Wf) (hn : n < maxLen) :
  ∃ (st : Nat) (w1 : World), (Instr.lookup 108 (.map (some M)) f.val false).run Tryz.prog w = .ok (.int .i64 (c f)) w ∧ (Instr.mapEntry 108 (.map (some M)) f.val).run Tryz.prog w = .ok (.tuple #[.int .i64 (c f), goInt st]) w1 ∧
   (Instr.lookup 108 (.map (some M)) f.val false).run Tryz.prog w1 = .ok (.int .i64 (c f)) w1 ∧ w.grownBy w1 (some M) ∧
   ∀ v, I64 v → ∃ w2, (Instr.entryStore 108 (.map (some M)) (goInt st) (.int .i64 v)).run Tryz.prog w1 = .ok () w2 ∧ w.grownBy w2 (some M) ∧
    (Instr.lookup 108 (.map (some M)) f.val false).run Tryz.prog w2 = .ok (.int .i64 v) w2 ∧ (v ≠ 0 → OwnsM w2 M (n + 1) (setC c f v)) ∧ OwnsZ w2 M (n + 1) c f := by
 obtain ⟨D, h1, h2⟩ := h
 obtain ⟨c0, st, w1, a1, a2, a3, a4, a5, a6⟩ := entry_all lawFK Tryz.underlying108 Tryz.underlying3 zeroI h1 hn (keyF hf)
 have ec : c0 = c f := by
  have := h2.1 f hf
  unfold numD at this
  rw [this] at a2
  injection a2 with a2
  injection a2 with _ a2
  exact a2.symm
 subst ec
 refine ⟨st, w1, a1, a3, a4, a5, fun v hv => ?_⟩
 obtain ⟨w2, b1, b2, b3⟩ := a6 v (i64_wf hv)
 obtain ⟨c1, d1, d2, _⟩ := b2.lookup_int lawF Tryz.underlying108 Tryz.underlying3 (zeroI w2) (keyF hf)
 rw [atKey_put_same h1.isMap (key_lit hf)] at d2
 injection d2 with d2
 injection d2 with _ d2
 subst d2
 exact ⟨w2, b1, b3, d1, fun hv0 => ⟨_, b2, mapIs_put h2 h1.isMap hf hv0⟩, ⟨_, b2, mapIs_del h2 hf⟩⟩
theorem wrap_in {n : Int} (h : I64 n) : IntKind.i64.wrap n = n := IntWalk.i64_in n h
attribute [local go_sem ↓ high] ldF_is stF_is
theorem infoI : (Tryz.prog.info? 3).map (fun i => (i.zero, i.size, i.bytes)) = some (some (.int .i64 0), 1, 8) := by kernel_rfl
set_option maxHeartbeats 8000000 in
set_option maxRecDepth 100000 in
theorem nodes_walk (A B : List Fl) (er : Int) (v u : Value) (w : World) (TWO : Calls Tryz.prog 41 #[v, u] w (OutTwo w.heap.size er A B w)) (hA : ∀ f ∈ A, f.Wf) (hB : ∀ f ∈ B, f.Wf) (lA : A.length ≤ 16384) (lB : B.length ≤ 16384) :
  Calls Tryz.prog 21 #[v, u] w fun e w' => Below w.heap.size w w' ∧ ∃ v', e = .returned (.tuple #[v', .int .i64 er]) ∧ OwnsI w.heap.size w' v' (if er = 0 then nodL A B else []) := by
 replace TWO := Lib.hid TWO
 by_cases he : er = 0
 ·subst he
  rw [if_pos rfl]
  obtain ⟨iI, hi0, hz0, hz1, hz2⟩ := info_parts infoI
  have hmm := @run_makeMap Tryz.prog
  obtain ⟨nA, hnA⟩ : ∃ n, A.length = n := ⟨_, rfl⟩
  obtain ⟨nB, hnB⟩ : ∃ n, B.length = n := ⟨_, rfl⟩
  rw [hnA] at lA
  rw [hnB] at lB
  replace hnA := Lib.hid hnA
  replace hnB := Lib.hid hnB
  replace hA := Lib.hid hA
  replace hB := Lib.hid hB
  go_enter Tryz.func21, Tryz.ntmps21
  go_upto_region 2 with (go_at_call 41; (with_reducible refine TWO.out.mono ?_); rintro e w1 ⟨hb1, v1, u1, rfl, O1, P1⟩; obtain ⟨s1, c1, hv1⟩ := own_slice O1; obtain ⟨s2, c2, hv2⟩ := own_slice P1; rw [hnA.out] at hv1; rw [hnB.out] at hv2; subst hv1 hv2)
  have RA := Lib.hid (O1.row (Nat.le_refl _))
  have RB := Lib.hid (P1.row (Nat.le_refl _))
  clear TWO O1 P1
  go_upto_region 5 with fail
  obtain ⟨W4, hW4⟩ : ∃ W, w1.alloc (.map #[] 0) = W := ⟨_, rfl⟩
  obtain ⟨M, hM⟩ : ∃ b, w1.heap.size = b := ⟨_, rfl⟩
  have OM0 : OwnsM W4 M 0 (upC A 0) := by rw [← hW4, ← hM]; exact ⟨_, World.ownsMap_made _ _ _ _, mapIs_ext mapIs_nil fun f _ => by simp [upC, cntF]⟩
  have hb4 : Below w1.heap.size w1 W4 := by rw [← hW4]; exact (Below.refl _ _).alloc (Nat.le_refl _) _
  rw [hW4, hM]
  clear hW4
  replace hM := Lib.hid hM
  go_wp2
  go_loopw [29] (fun iv wr => ∃ k : Nat, k ≤ nA ∧ iv = .int .i64 k ∧ OwnsM wr M k (upC A k) ∧ Below w1.heap.size w1 wr) (fun iv _ => nA - (intOf iv).toNat)
  case atStart => exact ⟨0, Nat.zero_le _, rfl, OM0, hb4⟩
  case round =>
   clear OM0 hb4
   obtain ⟨k, hk, rfl, OM, hbr⟩ := hrel
   have zr := hbr.size
   have hMl := OM.lt
   by_cases hkn : k < nA
   ·obtain ⟨f, hf⟩ := get_at hnA.out hkn
    obtain ⟨bS, oS, cS, e, hbS, _, _, hel⟩ := row_ld (RA.out.below hbr) zr (by rw [hnA.out]; omega)
    rw [hnA.out] at e
    simp at e
    obtain ⟨rfl, rfl⟩ := e
    have LD := hel k f hf wr (Below.refl _ _)
    have ST := stF_new f wr
    have hfw := hA.out f (List.mem_of_getElem? hf)
    have hst := upC_step hf
    have hbd := upC_bd A k f
    have ENT := fun W (h : Below wr.heap.size wr W) => own_entry (OM.below h hMl) hfw (by unfold maxLen; omega)
    have LN : ∀ W b, Blk W b (Fl.enc f) 82 → (ldF (.pointer (some ⟨b, 0, none⟩))).run Tryz.prog W = .ok f.val W := fun W b hB => ldF_at (o := 0) fun i u hi => hB.cell (by rw [Nat.zero_add]; exact hi)
    obtain ⟨cf, hcf⟩ : ∃ c, upC A k f = c := ⟨_, rfl⟩
    rw [hcf] at hst hbd ENT
    generalize f.val = VX at LD ST LN ENT
    have hkk : (k : Int) < nA := by omega
    have yS : bS < wr.heap.size := by omega
    clear hel OM
    replace ENT := Lib.hid ENT
    replace LN := Lib.hid LN
    replace hst := Lib.hid hst
    replace hf := Lib.hid hf
    replace hcf := Lib.hid hcf
    go_upto_region 8 with fail
    clear LD ST
    obtain ⟨W8, hW8⟩ : ∃ W, wr.alloc (.cells (Fl.enc f).toArray 82) = W := ⟨_, rfl⟩
    obtain ⟨b11, hb11⟩ : ∃ b, wr.heap.size = b := ⟨_, rfl⟩
    have B11 : Blk W8 b11 (Fl.enc f) 82 := by rw [← hW8]; exact Blk.new' hb11.symm
    have hb8 : Below wr.heap.size wr W8 := by rw [← hW8]; exact (Below.refl _ _).alloc (Nat.le_refl _) _
    rw [hW8, hb11]
    have hMb : M ≠ b11 := by rw [← hb11]; omega
    clear hW8 hb11
    have hb8d : Below wr.heap.size wr W8.drew := hb8.drew
    have B11d : Blk W8.drew b11 (Fl.enc f) 82 := B11
    obtain ⟨st, x1, LK0, ME, LK1, g1, EST⟩ := ENT.out _ hb8d
    obtain ⟨x2, ES, g2, _, OM2, _⟩ := EST (cf + 1) (by unfold I64; omega)
    have OM2 := OM2 (by omega)
    rw [hst.out] at OM2
    have ES : (Instr.entryStore 108 (.map (some M)) (.int .i64 (st : Int)) (.int .i64 (IntKind.i64.wrap (cf + 1)))).run Tryz.prog x1 = .ok () x2 := by rw [wrap_in (by unfold I64; omega)]; exact ES
    have hS0 := LN.out _ _ B11d
    have hS1 := LN.out _ _ (B11d.keep g1 (fun e => hMb (by injection e)))
    have hS2 := LN.out _ _ (B11d.keep g2 (fun e => hMb (by injection e)))
    have hb9 : Below w1.heap.size w1 x2 := (hbr.trans (hb8d.mono zr)).grown g2 (by have := hb8d.size; omega) (fun k e => by injection e with e; have := hM.out; omega)
    clear EST ENT LN g1 g2 B11 B11d hb8 hb8d
    replace hS1 := Lib.hid hS1
    replace hS2 := Lib.hid hS2
    replace OM2 := Lib.hid OM2
    replace hb9 := Lib.hid hb9
    refine held_begin (fun u => (ldF (.pointer (some ⟨b11, 0, none⟩))).run Tryz.prog u = .ok VX u) (by kernel_rfl) hS0 (fun hS => ?_)
    clear hS0
    generalize W8.drew = x0 at hS LK0 ME ⊢
    (refine' held_do (i := 0) _ (by kernel_rfl) (by kernel_rfl) (by kernel_rfl) _ _ hS _ _; rotate_left 2; (focus exact geti); (focus exact fun _ _ _ h => h); (focus rfl); (focus (intro w1 hSS R hR; go_simp; exact hR)); simp only [pu])
    (refine' held_do (i := 1) _ (by kernel_rfl) (by kernel_rfl) (by kernel_rfl) _ _ hS _ _; rotate_left 2; (focus exact geti); (focus exact fun _ _ _ h => h); (focus rfl); (focus (intro w1 hSS R hR; go_simp; exact hR)); simp only [pu])
    (refine' held_two (i := 2) (j := 4) rfl rfl (by kernel_rfl) _ _ _ _; (focus rfl); (focus rfl))
    ·intro K hK
     go_simp
     refine hK _ _ hS ?_
     clear hK
     (try simp only [pu])
     (refine' held_do (i := 3) _ (by kernel_rfl) (by kernel_rfl) (by kernel_rfl) _ _ hS _ _; rotate_left 2; (focus exact geti); (focus exact fun _ _ _ h => h); (focus rfl); (focus (intro w1 hSS R hR; go_simp; exact hR)); simp only [pu])
     (refine' held_one (i := 4) _ (by kernel_rfl) _ _; rotate_left; (focus exact geti); (focus rfl); intro K hK; go_simp)
     refine hK _ _ hS1.out ?_
     clear hK
     (try simp only [pu])
     clear hS
     have hS := hS1.out
     (refine' held_do (i := 5) _ (by kernel_rfl) (by kernel_rfl) (by kernel_rfl) _ _ hS _ _; rotate_left 2; (focus exact geti); (focus exact fun _ _ _ h => h); (focus rfl); (focus (intro w1 hSS R hR; go_simp; exact hR)); simp only [pu])
     (refine' held_one (i := 6) _ (by kernel_rfl) _ _; rotate_left; (focus exact geti); (focus rfl); intro K hK; go_simp)
     refine hK _ _ hS2.out ?_
     clear hK
     (try simp only [pu])
     clear hS
     have hS := hS2.out
     refine wpAnyH_done (by kernel_rfl) ?_ _
     clear hS hS1 hS2 LK0 LK1 ME ES
     go_wp2
     go_roundw
     case rel => exact ⟨k + 1, by omega, by go_num, OM2.out, hb9.out⟩
     case measure => simp [intOf]; omega
    ·intro K hK
     go_simp
     refine hK _ _ hS1.out ?_
     clear hK
     (try simp only [pu])
     clear hS
     have hS := hS1.out
     (refine' held_do (i := 5) _ (by kernel_rfl) (by kernel_rfl) (by kernel_rfl) _ _ hS _ _; rotate_left 2; (focus exact geti); (focus exact fun _ _ _ h => h); (focus rfl); (focus (intro w1 hSS R hR; go_simp; exact hR)); simp only [pu])
     (refine' held_one (i := 2) _ (by kernel_rfl) _ _; rotate_left; (focus exact geti); (focus rfl); intro K hK; go_simp)
     refine hK _ _ hS1.out ?_
     clear hK
     (try simp only [pu])
     clear hS
     have hS := hS1.out
     (refine' held_do (i := 3) _ (by kernel_rfl) (by kernel_rfl) (by kernel_rfl) _ _ hS _ _; rotate_left 2; (focus exact geti); (focus exact fun _ _ _ h => h); (focus rfl); (focus (intro w1 hSS R hR; go_simp; exact hR)); simp only [pu])
     (refine' held_one (i := 6) _ (by kernel_rfl) _ _; rotate_left; (focus exact geti); (focus rfl); intro K hK; go_simp)
     refine hK _ _ hS2.out ?_
     clear hK
     (try simp only [pu])
     clear hS
     have hS := hS2.out
     refine wpAnyH_done (by kernel_rfl) ?_ _
     clear hS hS1 hS2 LK0 LK1 ME ES
     go_wp2
     go_roundw
     case rel => exact ⟨k + 1, by omega, by go_num, OM2.out, hb9.out⟩
     case measure => simp [intOf]; omega
   ·obtain rfl : k = nA := by omega
    rw [← hnA.out, upC_end A B, hnA.out] at OM
    have hkk : ¬ (k : Int) < k := by omega
    clear hk hkn
    go_upto_region 10 with fail
    go_wp2
    go_loopw [42] (fun iv wr => ∃ j : Nat, j ≤ nB ∧ iv = .int .i64 j ∧ OwnsM wr M (k + j) (downC A B j) ∧ Below w1.heap.size w1 wr) (fun iv _ => nB - (intOf iv).toNat)
    case atStart => exact ⟨0, Nat.zero_le _, rfl, OM, hbr⟩
    case round =>
     clear OM hbr zr hMl
     obtain ⟨j, hj, rfl, OM, hbr⟩ := hrel
     have zr := hbr.size
     have hMl := OM.lt
     by_cases hjn : j < nB
     ·obtain ⟨f, hf⟩ := get_at hnB.out hjn
      obtain ⟨bS, oS, cS, e, hbS, _, _, hel⟩ := row_ld (RB.out.below hbr) zr (by rw [hnB.out]; omega)
      rw [hnB.out] at e
      simp at e
      obtain ⟨rfl, rfl⟩ := e
      have LD := hel j f hf wr (Below.refl _ _)
      have ST := stF_new f wr
      have hfw := hB.out f (List.mem_of_getElem? hf)
      have hst := downC_step (a := A) hf
      have hbd := downC_bd A B j f
      rw [hnA.out] at hbd
      have ENT := fun W (h : Below wr.heap.size wr W) => own_entry (OM.below h hMl) hfw (by unfold maxLen; omega)
      have LN : ∀ W b, Blk W b (Fl.enc f) 82 → (ldF (.pointer (some ⟨b, 0, none⟩))).run Tryz.prog W = .ok f.val W := fun W b hB => ldF_at (o := 0) fun i u hi => hB.cell (by rw [Nat.zero_add]; exact hi)
      obtain ⟨cf, hcf⟩ : ∃ c, downC A B j f = c := ⟨_, rfl⟩
      have hkey := keyF hfw
      rw [hcf] at hst hbd ENT
      generalize f.val = VX at LD ST LN ENT hkey
      have hjj : (j : Int) < nB := by omega
      have yS : bS < wr.heap.size := by omega
      clear hel OM
      replace ENT := Lib.hid ENT
      replace LN := Lib.hid LN
      replace hst := Lib.hid hst
      replace hf := Lib.hid hf
      replace hcf := Lib.hid hcf
      replace hkey := Lib.hid hkey
      go_upto_region 13 with fail
      clear LD ST
      obtain ⟨W8, hW8⟩ : ∃ W, wr.alloc (.cells (Fl.enc f).toArray 82) = W := ⟨_, rfl⟩
      obtain ⟨b11, hb11⟩ : ∃ b, wr.heap.size = b := ⟨_, rfl⟩
      have B11 : Blk W8 b11 (Fl.enc f) 82 := by rw [← hW8]; exact Blk.new' hb11.symm
      have hb8 : Below wr.heap.size wr W8 := by rw [← hW8]; exact (Below.refl _ _).alloc (Nat.le_refl _) _
      rw [hW8, hb11]
      have hMb : M ≠ b11 := by rw [← hb11]; omega
      clear hW8 hb11
      have hb8d : Below wr.heap.size wr W8.drew := hb8.drew
      have B11d : Blk W8.drew b11 (Fl.enc f) 82 := B11
      obtain ⟨st, x1, LK0, ME, LK1, g1, EST⟩ := ENT.out _ hb8d
      obtain ⟨x2, ES, g2, LK2, OM2, OZ2⟩ := EST (cf - 1) (by unfold I64; omega)
      rw [hst.out] at OM2
      have ES : (Instr.entryStore 108 (.map (some M)) (.int .i64 (st : Int)) (.int .i64 (IntKind.i64.wrap (cf - 1)))).run Tryz.prog x1 = .ok () x2 := by rw [wrap_in (by unfold I64; omega)]; exact ES
      have hS0 := LN.out _ _ B11d
      have hS1 := LN.out _ _ (B11d.keep g1 (fun e => hMb (by injection e)))
      have hS2 := LN.out _ _ (B11d.keep g2 (fun e => hMb (by injection e)))
      have hb9 : Below w1.heap.size w1 x2 := (hbr.trans (hb8d.mono zr)).grown g2 (by have := hb8d.size; omega) (fun k e => by injection e with e; have := hM.out; omega)
      clear EST ENT LN g1 g2 B11 B11d hb8 hb8d
      replace hS1 := Lib.hid hS1
      replace hS2 := Lib.hid hS2
      replace OM2 := Lib.hid OM2
      replace OZ2 := Lib.hid OZ2
      replace hb9 := Lib.hid hb9
      replace LK2 := Lib.hid LK2
      refine held_begin (fun u => (ldF (.pointer (some ⟨b11, 0, none⟩))).run Tryz.prog u = .ok VX u) (by kernel_rfl) hS0 (fun hS => ?_)
      clear hS0
      generalize W8.drew = x0 at hS LK0 ME ⊢
      (refine' held_do (i := 0) _ (by kernel_rfl) (by kernel_rfl) (by kernel_rfl) _ _ hS _ _; rotate_left 2; (focus exact geti); (focus exact fun _ _ _ h => h); (focus rfl); (focus (intro w1 hSS R hR; go_simp; exact hR)); simp only [pu])
      (refine' held_do (i := 1) _ (by kernel_rfl) (by kernel_rfl) (by kernel_rfl) _ _ hS _ _; rotate_left 2; (focus exact geti); (focus exact fun _ _ _ h => h); (focus rfl); (focus (intro w1 hSS R hR; go_simp; exact hR)); simp only [pu])
      (refine' held_two (i := 2) (j := 4) rfl rfl (by kernel_rfl) _ _ _ _; (focus rfl); (focus rfl))
      ·intro K hK
       go_simp
       refine hK _ _ hS ?_
       clear hK
       (try simp only [pu])
       (refine' held_do (i := 3) _ (by kernel_rfl) (by kernel_rfl) (by kernel_rfl) _ _ hS _ _; rotate_left 2; (focus exact geti); (focus exact fun _ _ _ h => h); (focus rfl); (focus (intro w1 hSS R hR; go_simp; exact hR)); simp only [pu])
       (refine' held_one (i := 4) _ (by kernel_rfl) _ _; rotate_left; (focus exact geti); (focus rfl); intro K hK; go_simp)
       refine hK _ _ hS1.out ?_
       clear hK
       (try simp only [pu])
       clear hS
       have hS := hS1.out
       (refine' held_do (i := 5) _ (by kernel_rfl) (by kernel_rfl) (by kernel_rfl) _ _ hS _ _; rotate_left 2; (focus exact geti); (focus exact fun _ _ _ h => h); (focus rfl); (focus (intro w1 hSS R hR; go_simp; exact hR)); simp only [pu])
       (refine' held_one (i := 6) _ (by kernel_rfl) _ _; rotate_left; (focus exact geti); (focus rfl); intro K hK; go_simp)
       refine hK _ _ hS2.out ?_
       clear hK
       (try simp only [pu])
       clear hS
       have hS := hS2.out
       refine wpAnyH_done (by kernel_rfl) ?_ _
       have LK3 := LK2.out
       clear hS1 hS2 LK0 LK1 ME ES LK2
       by_cases hv0 : cf - 1 = 0
       ·rw [hv0] at LK3 hst
        obtain ⟨D2, OZ3, OZ4⟩ := OZ2.out
        have hMI := mapIs_ext OZ4 (c' := downC A B (j + 1)) (fun g _ => by rw [← hst.out])
        replace OZ3 := Lib.hid OZ3
        clear OZ4 OZ2 OM2
        replace hMI := Lib.hid hMI
        go_wp2_with (first
         | (at_delete; refine wpList_delete_own _ rfl _ _ 108 82 rfl 3 lawF Tryz.underlying108 _ M (k + j + 1) D2 rfl OZ3.out _ _ rfl hkey.out ?_; intro w3 hown3 hturn3)
         | go_in)
        have hb10 : Below w1.heap.size w1 w3 := hb9.out.grown hturn3.grown hb9.out.size (fun k e => by injection e with e; have := hM.out; omega)
        have OM3 : OwnsM w3 M (k + (j + 1)) (downC A B (j + 1)) := ⟨_, hown3, hMI.out⟩
        clear hown3 hturn3
        replace OM3 := Lib.hid OM3
        go_wp2
        go_roundw
        case rel => exact ⟨j + 1, by omega, by go_num, OM3.out, hb10⟩
        case measure => simp [intOf]; omega
       ·have hv1 : (cf - 1 == 0) = false := by simpa using hv0
        have OM3 := OM2.out hv0
        clear OM2 OZ2
        replace OM3 := Lib.hid OM3
        go_wp2
        go_roundw
        case rel => exact ⟨j + 1, by omega, by go_num, OM3.out, hb9.out⟩
        case measure => simp [intOf]; omega
      ·intro K hK
       go_simp
       refine hK _ _ hS1.out ?_
       clear hK
       (try simp only [pu])
       clear hS
       have hS := hS1.out
       (refine' held_do (i := 5) _ (by kernel_rfl) (by kernel_rfl) (by kernel_rfl) _ _ hS _ _; rotate_left 2; (focus exact geti); (focus exact fun _ _ _ h => h); (focus rfl); (focus (intro w1 hSS R hR; go_simp; exact hR)); simp only [pu])
       (refine' held_one (i := 2) _ (by kernel_rfl) _ _; rotate_left; (focus exact geti); (focus rfl); intro K hK; go_simp)
       refine hK _ _ hS1.out ?_
       clear hK
       (try simp only [pu])
       clear hS
       have hS := hS1.out
       (refine' held_do (i := 3) _ (by kernel_rfl) (by kernel_rfl) (by kernel_rfl) _ _ hS _ _; rotate_left 2; (focus exact geti); (focus exact fun _ _ _ h => h); (focus rfl); (focus (intro w1 hSS R hR; go_simp; exact hR)); simp only [pu])
       (refine' held_one (i := 6) _ (by kernel_rfl) _ _; rotate_left; (focus exact geti); (focus rfl); intro K hK; go_simp)
       refine hK _ _ hS2.out ?_
       clear hK
       (try simp only [pu])
       clear hS
       have hS := hS2.out
       refine wpAnyH_done (by kernel_rfl) ?_ _
       have LK3 := LK2.out
       clear hS1 hS2 LK0 LK1 ME ES LK2
       by_cases hv0 : cf - 1 = 0
       ·rw [hv0] at LK3 hst
        obtain ⟨D2, OZ3, OZ4⟩ := OZ2.out
        have hMI := mapIs_ext OZ4 (c' := downC A B (j + 1)) (fun g _ => by rw [← hst.out])
        replace OZ3 := Lib.hid OZ3
        clear OZ4 OZ2 OM2
        replace hMI := Lib.hid hMI
        go_wp2_with (first
         | (at_delete; refine wpList_delete_own _ rfl _ _ 108 82 rfl 3 lawF Tryz.underlying108 _ M (k + j + 1) D2 rfl OZ3.out _ _ rfl hkey.out ?_; intro w3 hown3 hturn3)
         | go_in)
        have hb10 : Below w1.heap.size w1 w3 := hb9.out.grown hturn3.grown hb9.out.size (fun k e => by injection e with e; have := hM.out; omega)
        have OM3 : OwnsM w3 M (k + (j + 1)) (downC A B (j + 1)) := ⟨_, hown3, hMI.out⟩
        clear hown3 hturn3
        replace OM3 := Lib.hid OM3
        go_wp2
        go_roundw
        case rel => exact ⟨j + 1, by omega, by go_num, OM3.out, hb10⟩
        case measure => simp [intOf]; omega
       ·have hv1 : (cf - 1 == 0) = false := by simpa using hv0
        have OM3 := OM2.out hv0
        clear OM2 OZ2
        replace OM3 := Lib.hid OM3
        go_wp2
        go_roundw
        case rel => exact ⟨j + 1, by omega, by go_num, OM3.out, hb9.out⟩
        case measure => simp [intOf]; omega
     ·obtain rfl : j = nB := by omega
      have hjj : ¬ (j : Int) < j := by omega
      clear hj hjn
      go_upto_region 18 with fail
      obtain ⟨D, OD, MI⟩ := OM
      have hsz := OD.size_le
      have hkj : k + j ≤ 32768 := by omega
      replace MI := Lib.hid MI
      replace OD := Lib.hid OD
      go_wp2_with (first
       | (at_range; refine wpList_range_own _ rfl _ 108 rfl 82 3 lawF Tryz.underlying108 _ M _ _ rfl OD.out ?_; intro w0 hrg0 hg0 hs0)
       | go_in)
      (try go_frame)
      have hb0 : Below w1.heap.size w1 w0 := hbr.grown hg0 zr (by simp)
      obtain ⟨rb, hrb⟩ : ∃ b, wr.heap.size = b := ⟨_, rfl⟩
      rw [hrb] at hrg0 hs0 hMl
      rw [hrb]
      have hrb1 : w1.heap.size ≤ rb := by omega
      obtain ⟨w0s, hw0s⟩ : ∃ b, w0.heap.size = b := ⟨_, rfl⟩
      have hcol0 := colF_start MI.out
      clear hg0 OD hrb hbr zr
      go_loopw [14] (fun sv wr => ∃ (left : Lit → Bool) (cnt : Nat) (ns : List Int), wr.ranges Tryz.prog 82 (plainElem Tryz.prog 3) M rb (k + j) D left cnt ∧ Hid (ColF (downC A B j) left ns) ∧ OwnsI w0.heap.size wr sv ns ∧ Below w1.heap.size w1 wr ∧ w0.heap.size ≤ wr.heap.size ∧ ns.length + cnt ≤ k + j) (fun _ wr => wr.rangeLeft M rb)
      case atStart => exact ⟨_, _, [], hrg0, Lib.hid hcol0, OwnsI.nil _ _, hb0, Nat.le_refl _, by simpa using hsz⟩
      case round =>
       clear hrg0 hcol0 hb0
       obtain ⟨left, cnt, ns, hrg, hcol, hown, hbr, hzr, hln⟩ := hrel
       have zr := hbr.size
       obtain ⟨s14, c14, rfl⟩ := own_slice hown
       go_wp2_with (first
        | (at_next; refine wpList_next_ranges _ rfl _ rfl 82 lawF (plainElem Tryz.prog 3) (fun v => v) (Value.int .i64) (fun key kl h => ⟨key, rfl⟩) (fun v y hv => by obtain ⟨c, e, _⟩ := plainElem_int_inv Tryz.underlying3 hv; exact ⟨c, e⟩) M rb (k + j) _ _ _ rfl hrg ?_ ?_)
        | go_in)
       ·intro _ hl0
        have hend := fun l h1 h2 => colF_end (l := l) (a := A) (b := B) (by rw [hnB.out]; exact hcol.out) hl0 hA.out hB.out h1 h2
        replace hend := Lib.hid hend
        obtain ⟨m, hm⟩ : ∃ m, ns.length = m := ⟨_, rfl⟩
        obtain ⟨o1, o2⟩ := onceI_spec ns
        have SRT := isort_any ns (.slice s14 ns.length c14) wr w0.heap.size hown (by omega) hzr
        have eL := hend.out (onceI ns) o1 o2
        have hbW := hb1.trans (hbr.mono hb1.size)
        have zW := hbW.size
        have l0 : (srtI ns).length ≤ 1048576 := by rw [srtI_len]; omega
        rw [hm] at SRT hown ⊢
        replace SRT := Lib.hid SRT
        replace eL := Lib.hid eL
        replace hm := Lib.hid hm
        replace hbW := Lib.hid hbW
        replace l0 := Lib.hid l0
        clear hl0 hcol hrg hend MI hown hbr o1 o2
        go_upto_region 23 with (go_at_call 62; (with_reducible refine SRT.out.mono ?_); rintro e w5 ⟨rfl, O5, g5⟩)
        have hb5 := hbW.out.grown g5 hbW.out.size (fun g hg => by have := (own_in O5 g hg).1; have := hb1.size; omega)
        have z5 := g5.size
        have CMP := icompact_any (srtI ns) (.slice s14 m c14) w5 w0.heap.size O5 l0.out (by omega)
        rw [show Lib.compact (srtI ns) = onceI ns from rfl, eL.out] at CMP
        replace CMP := Lib.hid CMP
        have lo5 := Lib.hid (fun g hg => (own_in O5 g hg).1)
        replace hb5 := Lib.hid hb5
        clear SRT O5 g5
        go_wp2_with (go_at_call 63; (with_reducible refine CMP.out.mono ?_); rintro e w6 ⟨v6, rfl, O6, g6⟩)
        go_ret2
        exact ⟨hb5.out.grown g6 hb5.out.size (fun g hg => by have := lo5.out g hg; have := hb1.size; omega), _, rfl, own_less O6 (by have := hb1.size; omega)⟩
       ·intro key cc kl y1 y2 wn cnt1 hkey hlk hv hat hrg1 hlt hg1 hs1 hen
        have hhas := has_true_of_atKey hat
        obtain ⟨f, hfw, rfl⟩ := MI.out.2.2 kl hhas
        obtain rfl := lawF.inj hkey (keyF hfw)
        have hc0 := (MI.out.2.1 f hfw).1 hhas
        have hcol2 := Lib.hid (colF_step hcol.out hfw hc0 hlk)
        have ST := stF_new f wn
        have hown1 := own_keep hown hg1 (fun g h1 h2 => by have := (own_in hown g h1).1; injection h2 with h2; omega)
        have hb2 : Below w1.heap.size w1 wn := hbr.grown hg1 zr (fun g h => by injection h with h; omega)
        have hle := Lib.hid hrg.left_eq
        generalize f.val = VX at ST hen
        clear hat hs1 hown hrg hcol hkey hv hc0 hhas hfw hlk
        replace hrg1 := Lib.hid hrg1
        replace hown1 := Lib.hid hown1
        have z1 := hg1.size
        go_upto_region 21 with fail
        obtain ⟨W20, hW20⟩ : ∃ W, wn.alloc (.cells (Fl.enc f).toArray 82) = W := ⟨_, rfl⟩
        obtain ⟨b15, hb15⟩ : ∃ b, wn.heap.size = b := ⟨_, rfl⟩
        have B15 : Blk W20 b15 (Fl.enc f) 82 := by rw [← hW20]; exact Blk.new' hb15.symm
        have hb20 : Below wn.heap.size wn W20 := by rw [← hW20]; exact (Below.refl _ _).alloc (Nat.le_refl _) _
        rw [hW20, hb15]
        clear hW20 hb15 ST hen
        have z20 := hb20.size
        have c14 := B15.cell (o := 14) (v := .int .i64 f.s.node) rfl
        have O20 := ownsRow_below hown1.out hb20 (Nat.le_refl _)
        have zz20 : w0.heap.size ≤ W20.heap.size := by omega
        go_wp2_with (first
         | (at_builtin; refine wpList_append_new rfl _ _ _ rfl w0.heap.size 3 iI _ 1 8 Tryz.underlying52 hi0 hz0 hz1 hz2 rfl (by omega) W20 1 _ _ _ _ (by rfl) O20 (by rfl) rfl (by simp [Value.oneCell']) (by omega) (by unfold maxLen; omega) zz20 ?_; intro v14 w14 hown14 hb14)
         | go_in)
        replace hown14 := Lib.hid hown14
        have hb30 := (hb2.trans (hb20.mono (by omega))).trans (hb14.mono (by omega))
        have z14 := hb14.size
        have hrg3 := ranges_below (ranges_below hrg1.out hb20 (by omega) (by omega)) hb14 (by omega) (by omega)
        clear c14 B15 O20
        go_wp2
        go_roundw
        case rel =>
         refine ⟨_, cnt1, ns ++ [f.s.node], hrg3, hcol2, ?_, hb30, by omega, by simp; omega⟩
         unfold OwnsI
         rw [List.length_append, List.flatMap_append]
         exact hown14.out
        case measure =>
         rw [hrg3.left_eq, hle.out]; exact hlt
 ·rw [if_neg he]
  have e1 : (er == 0) = false := by simpa using he
  have e2 : (er != 0) = true := by simpa using he
  go_enter Tryz.func21, Tryz.ntmps21
  go_upto_region 2 with (go_at_call 41; (with_reducible refine TWO.out.mono ?_); rintro e w1 ⟨hb1, v1, u1, rfl, O1, P1⟩)
  clear TWO
  go_wp2
  go_ret2
  exact ⟨hb1, _, rfl, OwnsI.nil _ _⟩
theorem fl_wf {f : Fl} (h : f.Ok) : f.Wf := ⟨h.1, may_wf h.2.2.2.1⟩
def OutNd (base : Nat) (er : Int) (l : List Int) (w : World) (e : Ending) (w' : World) : Prop := Below base w w' ∧ ∃ v, e = .returned (.tuple #[v, .int .i64 er]) ∧ OwnsI base w' v l
def nodN (xs ys : List St) : List Int := if dmgE xs ys = 0 then nodL (flts xs) (flts ys) else []
theorem dnodes_any (xs ys : List St) (v u : Value) (w : World) (hx : Row w.heap.size 15 St.enc w v xs) (hy : Row w.heap.size 15 St.enc w u ys) (k1 : ∀ s ∈ xs, s.Wf) (k2 : ∀ s ∈ ys, s.Wf) : Calls Tryz.prog 21 #[v, u] w (OutNd w.heap.size (dmgE xs ys) (nodN xs ys) w) := by
  have TWO := two_any xs ys v u w hx hy k1 k2
  unfold OutNd nodN
  by_cases he : dmgE xs ys = 0
  · obtain ⟨e1, e2⟩ := dmgE_zero he
    have hX := flts_ok e1 k1
    have hY := flts_ok e2 k2
    have h := nodes_walk (twoL xs ys (flts xs)) (twoL xs ys (flts ys)) (dmgE xs ys) v u w TWO (fun f hf => ?_) (fun f hf => ?_) ?_ ?_
    · have t1 : ∀ l, twoL xs ys l = l := fun l => if_pos he
      simp only [t1] at h
      rw [if_pos he] at h ⊢
      exact h
    · rw [show twoL xs ys (flts xs) = flts xs from if_pos he] at hf
      exact fl_wf (hX f hf)
    · rw [show twoL xs ys (flts ys) = flts ys from if_pos he] at hf
      exact fl_wf (hY f hf)
    · rw [show twoL xs ys (flts xs) = flts xs from if_pos he]; exact flts_le e1
    · rw [show twoL xs ys (flts ys) = flts ys from if_pos he]; exact flts_le e2
  · have h := nodes_walk (twoL xs ys (flts xs)) (twoL xs ys (flts ys)) (dmgE xs ys) v u w TWO (fun f hf => ?_) (fun f hf => ?_) ?_ ?_
    · rw [if_neg he] at h ⊢
      exact h
    all_goals (try (rw [show ∀ l, twoL xs ys l = [] from fun l => if_neg he] at hf; cases hf))
    all_goals (rw [show ∀ l, twoL xs ys l = [] from fun l => if_neg he]; exact Nat.zero_le _)
end Go.Proofs.YtfcphagmjijmkaaGreatDoor
