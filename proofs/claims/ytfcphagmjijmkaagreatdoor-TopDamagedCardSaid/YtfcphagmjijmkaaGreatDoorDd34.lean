/-
  Damage: two rows of flat strokes, one behind the other.
-/
import Derived.Deep.WholeRow
import Derived.Shelf.Spec.SlicesGrow
import Derived.Shelf.Spec.SlicesInsert
import Derived.Test.YtfcphagmjijmkaaGreatDoorDd33
namespace Go.Proofs
open Go.Shelf
def YtfcphagmjijmkaaGreatDoor.growRenF : Go.Shelf.Ren := ⟨fun | 4 => 90 | n => n, fun | 22 => 75 | 25 => 82 | n => n, fun n => n⟩
theorem YtfcphagmjijmkaaGreatDoor.growLaysF : Lays8.n4 Tryz.prog YtfcphagmjijmkaaGreatDoor.growRenF := {
 mixed := by kernel_rfl
 f4 := ⟨Tryz.f90.name, by decide, Tryz.func90.trans (congrArg some (by kernel_rfl))⟩
 t0 := Tryz.underlying0
 a0 := Tryz.isAgg0
 z0 := Tryz.sizeOf0
 v0 := Tryz.zeroValue0
 t3 := Tryz.underlying3
 a3 := Tryz.isAgg3
 z3 := Tryz.sizeOf3
 v3 := Tryz.zeroValue3
 t4 := Tryz.underlying4
 a4 := Tryz.isAgg4
 z4 := Tryz.sizeOf4
 v4 := Tryz.zeroValue4
 t9 := Tryz.underlying9
 a9 := Tryz.isAgg9
 z9 := Tryz.sizeOf9
 v9 := Tryz.zeroValue9
 t20 := Tryz.underlying20
 a20 := Tryz.isAgg20
 z20 := Tryz.sizeOf20
 v20 := Tryz.zeroValue20
 t22 := Tryz.underlying75
 a22 := Tryz.isAgg75
 z22 := Tryz.sizeOf75
 v22 := Tryz.zeroValue75 }
end Go.Proofs
namespace Go.Proofs.YtfcphagmjijmkaaGreatDoor
open Go.RowKit
set_option linter.unusedVariables false
set_option linter.unusedSimpArgs false
attribute [local go_sem] vwp vUpon_value vUpon_skip vUpon_enter vUpon_row
set_option maxHeartbeats 16000000
theorem growF_any (n : Nat) (w : World) (hn : n ≤ 65536) : Calls Tryz.prog 90 #[.slice none 0 0, .int .i64 n] w fun e w' => ∃ v, e = .returned v ∧ w'.ownsRow w.heap.size 82 19 v 0 [] ∧ Below w.heap.size w w' := by
 obtain ⟨iM, hi0, hm0, hm1, hm2⟩ := info_parts infoFl
 rcases Nat.eq_zero_or_pos n with rfl | h0
 ·refine (Any8.slices_Grow_room YtfcphagmjijmkaaGreatDoor.growLaysF none 0 0 0 w lrr (by omega) (by omega) (by omega)).mono ?_
  rintro e w' ⟨rfl, rfl⟩
  exact ⟨_, rfl, World.ownsRow_nil _ _ _ _, Below.refl _ _⟩
 ·refine (Any8.slices_Grow_grow YtfcphagmjijmkaaGreatDoor.growLaysF iM _ hi0 hm0 (by omega) none 0 0 n [] w lrr (by omega) (by rw [hm2]; omega) (by omega) (by simp) (fun _ => rfl) (fun a h => by cases h)).mono ?_
  rintro e w' ⟨rfl, rfl⟩
  have hge := grownCap_ge w (0 + n) 0 (YtfcphagmjijmkaaGreatDoor.growRenF.t 25); have hle := grownCap_le_maxLen w (0 + n) 0 (YtfcphagmjijmkaaGreatDoor.growRenF.t 25) (by unfold maxLen; omega); refine ⟨_, rfl, ⟨by simp, .inr ⟨w.heap.size, _, _, rfl, Nat.le_refl _, heap_alloc_new w.drew _, Nat.zero_le _, hle, ?_, by simp⟩⟩, (Below.refl _ _).drew.alloc lrr _⟩; simp only [Array.size_append, List.size_toArray, size_zeroCells, List.length_nil]; rw [show (Value.agg #[.int .u8 0, .int .i64 0, .int .i64 0, .int .i64 0, .int .i64 0, .int .u8 0, .int .u8 0, .int .u8 0, .int .u8 0, .int .u8 0, .int .u8 0, .int .u8 0, .int .u8 0, .string ⟨#[]⟩, .int .i64 0, .int .i64 0, .int .i64 0, .int .i64 0, .int .i64 0]).cells.size = 19 from rfl]
  omega
set_option maxRecDepth 100000 in
theorem concatF_any (xs ys : List Fl) (v1 v2 : Value) (b : Nat) (w : World) (h1 : Row w.heap.size 19 Fl.enc w v1 xs) (h2 : Row w.heap.size 19 Fl.enc w v2 ys) (hn : xs.length ≤ 20000) (hm : ys.length ≤ 20000)
  (hb : b < w.heap.size) (g0 : w.cell? ⟨b, 0, none⟩ = some v1) (g1 : w.cell? ⟨b, 1, none⟩ = some v2) : Calls Tryz.prog 43 #[.slice (some ⟨b, 0, none⟩) 2 2] w fun e w' => ∃ v', e = .returned v' ∧ OwnsF w.heap.size w' v' (xs ++ ys) ∧ Below w.heap.size w w' := by
 obtain ⟨iM, hi0, hm0, hm1, hm2⟩ := info_parts infoFl; obtain ⟨s1, c1, rfl, hmax1⟩ := h1.shape; obtain ⟨s2, c2, rfl, hmax2⟩ := h2.shape; replace h1 := hdh h1; replace h2 := hdh h2; obtain ⟨n, en⟩ := exx (xs.length); obtain ⟨m, em⟩ := exx (ys.length); rw [en] at g0 hn hmax1; rw [em] at g1 hm hmax2; replace en := hdh en; replace em := hdh em
 have GA := fun w => growF_any (n + m) w (by omega)
 rw [show ((n + m : Nat) : Int) = (n : Int) + m by omega] at GA; replace GA := hdh GA
 go_enter Tryz.func43, Tryz.ntmps43
 go_wp2
 go_loopw [3, 11] (fun z i wr => ((i = .int .i64 0 ∧ z = .int .i64 0) ∨ (i = .int .i64 1 ∧ z = .int .i64 n) ∨ (i = .int .i64 2 ∧ z = .int .i64 ((n : Int) + m))) ∧ Below w.heap.size w wr) (fun _ i _ => 2 - (intOf i).toNat)
 case atStart => exact ⟨.inl ⟨rfl, rfl⟩, belt⟩
 case round =>
  obtain ⟨hk, hbr⟩ := hrel; have zr := hbr.size; obtain ⟨hcr, hfr⟩ := bcell hbr
  have yb : b < wr.heap.size := by omega
  rcases hk with ⟨rfl, rfl⟩ | ⟨rfl, rfl⟩ | ⟨rfl, rfl⟩
  ·go_wp2
   go_roundw
   case rel => exact ⟨.inr (.inl ⟨rfl, rfl⟩), hbr⟩
   case measure => simp [intOf]
  ·go_wp2
   go_roundw
   case rel => exact ⟨.inr (.inr ⟨rfl, rfl⟩), hbr⟩
   case measure => simp [intOf]
  ·go_wp2_with (first
    | (go_at_call 90; (with_reducible refine (GA.out _).mono ?_); rintro e w3 ⟨v3, rfl, hown3, hb3⟩)
    | go_in)
   have hb03 : Below w.heap.size w w3 := hbr.trans (hb3.mono zr); have z3 := hb03.size; have hown03 : w3.ownsRow w.heap.size 82 19 v3 0 [] := ⟨hown3.1, hown3.2.imp id (fun ⟨g, cap, cur, e, hg, r⟩ => ⟨g, cap, cur, e, Nat.le_trans zr hg, r⟩)⟩; clear hown3 hb3 hcr hfr hbr zr yb; go_wp2
   go_loopw [6, 27] (fun v i wr => ((i = .int .i64 0 ∧ wr.ownsRow w.heap.size 82 19 v 0 []) ∨ (i = .int .i64 1 ∧ wr.ownsRow w.heap.size 82 19 v n (xs.flatMap Fl.enc)) ∨ (i = .int .i64 2 ∧ wr.ownsRow w.heap.size 82 19 v (n + m) (xs.flatMap Fl.enc ++ ys.flatMap Fl.enc))) ∧ Below w.heap.size w wr) (fun _ i _ => 2 - (intOf i).toNat)
   case atStart => exact ⟨.inl ⟨rfl, hown03⟩, hb03⟩
   case round =>
    obtain ⟨hk, hbr⟩ := hrel; have zr := hbr.size; obtain ⟨hcr, hfr⟩ := bcell hbr
    have yb : b < wr.heap.size := by omega
    rcases hk with ⟨rfl, hown⟩ | ⟨rfl, hown⟩ | ⟨rfl, hown⟩
    ·have hrow : Row w.heap.size 19 Fl.enc wr (.slice s1 n c1) xs := by have := h1.out.below hbr; rw [en.out] at this; exact this
     have en' := en.out
     go_wp2_with (first
      | (at_builtin; refine wpList_append_row rfl _ _ _ rfl w.heap.size 82 iM _ 19 104 Tryz.underlying75 hi0 hm0 hm1 hm2 rfl (by omega) wr _ _ _ (by rfl) hown Fl.enc_len Fl.enc_one w.heap.size _ xs hrow (by rfl) (by unfold maxLen; omega) (by omega) zr ?_; intro v4 w4 hown4 hgr4)
      | go_in)
     have hb4 : Below w.heap.size w w4 := hbr.grown hgr4 zr (fun g hg => (hown.lt g hg).1); rw [Nat.zero_add, List.nil_append, en'] at hown4; replace hown4 := hdh hown4; go_wp2; go_roundw
     case rel => exact ⟨.inr (.inl ⟨rfl, hown4.out⟩), hb4⟩
     case measure => simp [intOf]
    ·have hrow : Row w.heap.size 19 Fl.enc wr (.slice s2 m c2) ys := by have := h2.out.below hbr; rw [em.out] at this; exact this
     have em' := em.out
     go_wp2_with (first
      | (at_builtin; refine wpList_append_row rfl _ _ _ rfl w.heap.size 82 iM _ 19 104 Tryz.underlying75 hi0 hm0 hm1 hm2 rfl (by omega) wr _ _ _ (by rfl) hown Fl.enc_len Fl.enc_one w.heap.size _ ys hrow (by rfl) (by unfold maxLen; omega) (by omega) zr ?_; intro v4 w4 hown4 hgr4)
      | go_in)
     have hb4 : Below w.heap.size w w4 := hbr.grown hgr4 zr (fun g hg => (hown.lt g hg).1); rw [em'] at hown4; replace hown4 := hdh hown4; go_wp2; go_roundw
     case rel => exact ⟨.inr (.inr ⟨rfl, hown4.out⟩), hb4⟩
     case measure => simp [intOf]
    ·replace hown := hdh hown
     go_wp2; go_ret; refine ⟨_, rfl, ?_, hbr⟩; have := hown.out; unfold OwnsF; rw [List.length_append, List.flatMap_append, en.out, em.out]; exact this
section
def OutDm (base : Nat) (er : Int) (l : List Re) (w : World) (e : Ending) (w' : World) : Prop := Below base w w' ∧ ∃ v, e = .returned (.tuple #[v, .int .i64 er]) ∧ CutR base w' v l
theorem pie_le {f : Fl} : (pieL f).length ≤ 4 := by
 unfold pieL plcL
 split
 ·simp
 ·split
  ·split <;> simp
  ·split
   ·simp
   ·split
    ·simp
    ·exact Nat.le_trans (meets_le _ _) (by show 4 ≤ 4; omega)
theorem pies_le : ∀ (l : List Fl), (l.flatMap pieL).length ≤ 4 * l.length
 | [] => by simp
 | f :: l => by
  have := pies_le l; have := pie_le (f := f); rw [List.flatMap_cons, List.length_append, List.length_cons]; omega
theorem flts_le {xs : List St} (h : chkL xs = 0) : (flts xs).length ≤ 16384 := by
 rw [flts_len]; have h1 : flS xs = fltS xs := if_pos h; rw [h1]; exact Nat.le_trans (fltS_le xs) (chk_len h)
theorem mid_le (a b : List Fl) : (midP a b).1.length ≤ a.length ∧ (midP a b).2.length ≤ b.length := by
 obtain ⟨p, q, h1, h2⟩ := mid_spec a b; have e1 := congrArg List.length h1; have e2 := congrArg List.length h2; simp only [List.length_append] at e1 e2; omega
theorem pies_snoc {l : List Fl} {k : Nat} {f : Fl} (h : l[k]? = some f) : (l.take (k + 1)).flatMap pieL = (l.take k).flatMap pieL ++ pieL f := by
 rw [List.take_add_one, h, List.flatMap_append]
 simp
/-! ### a flat stroke stored whole into a new variable -/
noncomputable def stF (p v : Value) : Sem Unit := Instr.storeAt 82 p v
theorem stF_is (p v : Value) : Instr.storeAt 82 p v = stF p v := rfl
theorem stF_new (f : Fl) (w : World) : (stF (.pointer (some ⟨w.heap.size, 0, none⟩)) f.val).run Tryz.prog (w.alloc (.cells #[.int .u8 0, .int .i64 0, .int .i64 0, .int .i64 0, .int .i64 0, .int .u8 0, .int .u8 0, .int .u8 0, .int .u8 0, .int .u8 0, .int .u8 0, .int .u8 0, .int .u8 0, .string ⟨#[]⟩, .int .i64 0, .int .i64 0, .int .i64 0, .int .i64 0, .int .i64 0] 82)) = .ok () (w.alloc (.cells f.enc.toArray 82)) :=
 run_storeAt_new w _ #[.int .u8 0, .int .i64 0, .int .i64 0, .int .i64 0, .int .i64 0, .int .u8 0, .int .u8 0, .int .u8 0, .int .u8 0, .int .u8 0, .int .u8 0, .int .u8 0, .int .u8 0, .string ⟨#[]⟩, .int .i64 0, .int .i64 0, .int .i64 0, .int .i64 0, .int .i64 0] f.enc.toArray (by kernel_rfl) rfl (all_oneCell_toArray (Fl.enc_one f))
attribute [local go_sem ↓ high] ldF_is stF_is
set_option maxRecDepth 100000 in
theorem dof_any (xs ys : List St) (v u : Value) (w : World) (hx : Row w.heap.size 15 St.enc w v xs) (hy : Row w.heap.size 15 St.enc w u ys) (k1 : ∀ s ∈ xs, s.Wf) (k2 : ∀ s ∈ ys, s.Wf) : Calls Tryz.prog 11 #[v, u] w (OutDm w.heap.size (dmgE xs ys) (dmgL xs ys) w) := by
 obtain ⟨iR, hr0, hr1, hr2, hr3⟩ := info_parts infoRe; have TWO := two_any xs ys v u w hx hy k1 k2; obtain ⟨s1, c1, rfl, m1⟩ := hx.shape; obtain ⟨s2, c2, rfl, m2⟩ := hy.shape
 by_cases hd : dmgE xs ys = 0
 ·obtain ⟨e1, e2⟩ := dmgE_zero hd
  have hX := flts_ok e1 k1; have hY := flts_ok e2 k2; have eL : dmgL xs ys = tldL (pieA (flts xs) (flts ys)) := if_pos hd
  have t1 : ∀ l, twoL xs ys l = l := fun l => if_pos hd
  have lX := flts_le e1; have lY := flts_le e2; rw [hd, t1, t1] at TWO; rw [hd, eL]; obtain ⟨X, hXe⟩ := exx (flts xs); obtain ⟨Y, hYe⟩ := exx (flts ys); rw [hXe] at TWO hX lX ⊢; rw [hYe] at TWO hY lY ⊢; obtain ⟨ml1, ml2⟩ := mid_le X Y
  have hA : pieA X Y = ((midP X Y).1 ++ (midP X Y).2).flatMap pieL := by unfold pieA; rw [List.flatMap_append]
  have hok : ∀ f ∈ (midP X Y).1 ++ (midP X Y).2, f.Ok := by
   obtain ⟨p, q, h1, h2⟩ := mid_spec X Y
   intro f hf
   rcases List.mem_append.1 hf with hf | hf
   ·exact hX f (by rw [h1]; simp [hf])
   ·exact hY f (by rw [h2]; simp [hf])
  have MID := fun W v u h1 h2 => middles_any X Y v u W h1 h2
  rw [hA]; obtain ⟨M, hM⟩ := exx ((midP X Y).1); obtain ⟨N, hN⟩ := exx ((midP X Y).2); rw [hM, hN] at MID; rw [hM, hN] at hok ⊢; rw [hM] at ml1; rw [hN] at ml2; have hmay := pies_may hok; have hful := pies_full hok; have hpl := pies_le (M ++ N)
  have TLD := fun W v h => told_any ((M ++ N).flatMap pieL) v W h hmay hful
  obtain ⟨D, hD⟩ := exx (M ++ N)
  have CAT := fun W v u b h1 h2 hb g0 g1 => concatF_any M N v u b W h1 h2 (by omega) (by omega) hb g0 g1
  rw [hD] at hok hpl TLD CAT ⊢; obtain ⟨n, hn⟩ := exx (D.length); rw [hn] at hpl
  have hnb : n ≤ 32768 := by rw [← hn, ← hD, List.length_append]; omega
  obtain ⟨T, hT⟩ := exx (tldL (D.flatMap pieL)); rw [hT] at TLD ⊢; replace TWO := hdh TWO; replace MID := hdh MID; replace CAT := hdh CAT; replace TLD := hdh TLD; replace hok := hdh hok; replace hn := hdh hn; clear hx hy k1 k2 hd e1 e2 hX hY eL t1 hXe hYe hA hM hN hmay hful hD hT ml1 ml2 lX lY
  go_enter Tryz.func11, Tryz.ntmps11
  go_upto_region 4 with (go_at_call 41; (with_reducible refine TWO.out.mono ?_); rintro e w3 ⟨hb3, v3, u3, rfl, O3, P3⟩)
  have z3 := hb3.size
  go_upto_region 5 with (go_at_call 42; (with_reducible refine (MID.out _ _ _ (O3.row lrr) (P3.row lrr)).mono ?_); rintro e w4 ⟨hb4, v4, u4, rfl, R4, S4⟩)
  have hb4w := hb3.trans (hb4.mono z3); have z4 := hb4.size; have z4w := hb4w.size; obtain ⟨sv, cv, rfl, _⟩ := R4.shape; obtain ⟨su, cu, rfl, _⟩ := S4.shape; obtain ⟨nm, hnm⟩ := exx (M.length); obtain ⟨nn, hnn⟩ := exx (N.length)
  have R5 := fun W (h : Below w4.heap.size w4 W) => ((R4.below (hb4.trans (h.mono z4))).mono (Nat.le_trans z4 h.size))
  have S5 := fun W (h : Below w4.heap.size w4 W) => ((S4.below (hb4.trans (h.mono z4))).mono (Nat.le_trans z4 h.size))
  rw [hnm] at R5 ⊢; rw [hnn] at S5 ⊢; replace R5 := hdh R5; replace S5 := hdh S5; clear TWO MID O3 P3 R4 S4 hb3 hb4 z3 z4 hnm hnn
  go_wp2_with (go_at_call 43; (with_reducible refine (CAT.out _ _ _ _ (R5.out _ ((Below.refl _ _).alloc lrr _)) (S5.out _ ((Below.refl _ _).alloc lrr _)) (by simp) (by go_simp) (by go_simp)).mono ?_); rintro e w5 ⟨v5, rfl, O5, hb5⟩; obtain ⟨s5, c5, hv5⟩ := own_slice O5; rw [hn.out] at hv5; subst hv5)
  have hb4a : Below w4.heap.size w4 (w4.alloc (.cells #[.slice sv nm cv, .slice su nn cu] 75)) := (Below.refl _ _).alloc lrr _; have hb5w : Below w.heap.size w w5 := (hb4w.trans (hb4a.mono z4w)).trans (hb5.mono (by simp; omega)); have z5w := hb5w.size; have R6 := hdh (O5.row lrr); clear O5 hb5 hb4a hb4w z4w R5 S5 CAT
  go_loopw [9, 33] (fun v i wr => ∃ k : Nat, k ≤ n ∧ i = .int .i64 k ∧ OwnsR w5.heap.size wr v ((D.take k).flatMap pieL) ∧ Below w5.heap.size w5 wr) (fun _ i _ => n - (intOf i).toNat)
  case atStart => exact ⟨0, Nat.zero_le _, rfl, World.ownsRow_nil _ _ _ _, Below.refl _ _⟩
  case round =>
   obtain ⟨k, hk, rfl, hown, hbr⟩ := hrel; have zr := hbr.size
   by_cases hkn : k < n
   ·obtain ⟨f, hf⟩ := get_at hn.out hkn
    obtain ⟨bS, oS, cS, e, hbS, _, _, hel⟩ := row_ld (R6.out.below hbr) zr (by rw [hn.out]; omega); rw [hn.out] at e
    simp at e
    obtain ⟨rfl, rfl⟩ := e; have LD := hel k f hf wr (Below.refl _ _)
    have PIE := fun W => pieces_any f W (hok.out f (List.mem_of_getElem? hf))
    have ST := stF_new f wr
    have LN : ∀ W b, Blk W b (Fl.enc f) 82 → (ldF (.pointer (some ⟨b, 0, none⟩))).run Tryz.prog W = .ok f.val W := fun W b hB => ldF_at (o := 0) fun i u hi => hB.cell (by rw [Nat.zero_add]; exact hi)
    generalize f.val = VX at LD PIE ST LN; replace PIE := hdh PIE; replace LN := hdh LN; have hsn := hdh (pies_snoc hf)
    have hkk : (k : Int) < n := by omega
    have yS : bS < wr.heap.size := by omega
    have l1 := pies_le (D.take k); have l2 := pie_le (f := f); have l2b := pie_le (f := f)
    have l3 : ((D.take k).flatMap pieL).length ≤ 131072 := by rw [List.length_take] at l1; omega
    obtain ⟨ln, hln⟩ := exx (((D.take k).flatMap pieL).length); obtain ⟨lm, hlm⟩ := exx ((pieL f).length); unfold OwnsR at hown; rw [hln] at hown l3; rw [hlm] at l2; obtain ⟨s9, c9, rfl⟩ := own_slice hown; replace hown := hdh hown; replace hln := hdh hln; replace hlm := hdh hlm; clear hel hf l1
    go_upto_region 9 with fail
    clear LD ST; obtain ⟨W8, hW8⟩ := exx (wr.alloc (.cells (Fl.enc f).toArray 82)); obtain ⟨b11, hb11⟩ := exx (wr.heap.size)
    have B11 : Blk W8 b11 (Fl.enc f) 82 := by rw [← hW8]; exact Blk.new' hb11.symm
    have hb8 : Below wr.heap.size wr W8 := by rw [← hW8]; exact (Below.refl _ _).alloc lrr _
    rw [hW8, hb11]; clear hW8 hb11; have z8 := hb8.size; have LD := LN.out _ _ B11; clear B11 LN
    go_upto_region 10 with (first
     | (go_at_call 44; (with_reducible refine (PIE.out _).mono ?_); rintro e w9 ⟨hb9, v9, rfl, O9⟩; obtain ⟨s10, c10, hv10⟩ := own_slice O9; have R9 := O9.row lrr; rw [hlm.out] at hv10; subst hv10; have hb89 := hb8.trans (hb9.mono z8); have z89 := hb89.size)
     | (at_builtin; refine wpList_append_row rfl _ _ _ rfl w5.heap.size 32 iR _ 4 32 Tryz.underlying25 hr0 hr1 hr2 hr3 rfl (by omega) w9 _ _ _ (by rfl) (ownsRow_below hown.out hb89 lrr) Re.enc_len Re.enc_one w9.heap.size _ (pieL f) R9 (by rfl) (by unfold maxLen; omega) (by omega) (by omega) ?_; intro v6 w6 hown6 hgr6)
     | go_in)
    have hb06 : Below w5.heap.size w5 w6 := (hbr.trans (hb89.mono zr)).grown hgr6 (by omega) (fun g hg => ((ownsRow_below hown.out hb89 lrr).lt g hg).1)
    have hown6' : OwnsR w5.heap.size w6 v6 ((D.take (k + 1)).flatMap pieL) := by
     unfold OwnsR; rw [hsn.out, List.flatMap_append, List.length_append, hln.out]; exact hown6
    replace hown6 := hdh hown6'; clear hown6'; clear PIE LD; go_wp2; go_roundw
    case rel => exact ⟨k + 1, by omega, by go_num, hown6.out, hb06⟩
    case measure => simp [intOf]; omega
   ·obtain rfl : k = n := by omega
    rw [List.take_of_length_le (by rw [hn.out]; exact Nat.le_refl _)] at hown; obtain ⟨s9, c9, hv9⟩ := own_slice hown; subst hv9; have TL := hdh (TLD.out _ _ (hown.row lrr)); have hbw := hb5w.trans (hbr.mono z5w); clear hown TLD; generalize (D.flatMap pieL).length = ln at TL ⊢
    go_wp2_with (first
     | (go_at_call 45; (with_reducible refine TL.out.mono ?_); rintro e w7 ⟨hb7, v7, rfl, C7⟩)
     | go_in)
    go_ret2; exact ⟨hbw.trans (hb7.mono hbw.size), _, rfl, C7.less hbw.size⟩
 ·have eL : dmgL xs ys = [] := if_neg hd
  have t1 : ∀ l, twoL xs ys l = [] := fun l => if_neg hd
  rw [t1, t1] at TWO; rw [eL]; obtain ⟨E, hE⟩ := exx (dmgE xs ys); rw [hE] at TWO hd ⊢
  have e1 : (E != 0) = true := by simpa using hd
  replace TWO := hdh TWO; clear hx hy k1 k2 eL t1 hE
  go_enter Tryz.func11, Tryz.ntmps11
  go_wp2_with (first
   | (go_at_call 41; (with_reducible refine TWO.out.mono ?_); rintro e w3 ⟨hb3, v3, u3, rfl, O3, P3⟩; clear O3 P3)
   | go_in)
  go_ret2; exact ⟨hb3, _, rfl, CutR.nil _ _⟩
end
theorem run_copy_big {P : Program} (w : World) (dT sT ty elem : TypeId) (sz g o dLen dCap : Nat) (a : Addr) (sLen sCap : Nat) (cur : Array Value) (t : TypeId) (cs : List Value)
  (hu : P.underlying dT = some (.slice elem)) (hs : (P.info? elem).map (·.size) = some sz)
  (hg : w.heap[g]? = some (.cells cur t (0, 0))) (hn : cs.length = Nat.min sLen dLen * sz)
  (hsrc : ∀ j v, cs[j]? = some v → w.cell? (a.add j) = some v) (hfit : o + cs.length ≤ cur.size) (h1 : ∀ v ∈ cs, v.oneCell' = true) :
  (Builtin.copy_ #[dT, sT] ty #[.slice (some ⟨g, o, none⟩) dLen dCap, .slice (some a) sLen sCap]).run P w =
   .ok (goInt (Nat.min sLen dLen : Nat)) (w.setRow g (cur.toList.take o ++ cs ++ cur.toList.drop (o + cs.length)).toArray) := by
 have hl := run_loadCells_list (P := P) w a cs hsrc; have hst := run_storeCells_at P g o t cs 0 cur w hg (by simpa using hfit) h1; rw [hn] at hl
 cases hq : P.info? elem with
 | none => simp [hq] at hs
 | some i =>
  have hi : i.size = sz := by simpa [hq] using hs
  simp [Builtin.copy_, run_underlying hu, Builtin.lenOf, Builtin.firstCells, sizeOf, typeInfo, hq, hi, hl, hst]
def Ce.zero : Ce := ⟨0, ⟨0, 0, 0, 0⟩, ⟨0, 0, 0, 0⟩, false, false⟩
def repL (c : Ce) (k N : Nat) : List Ce := List.replicate k c ++ List.replicate (N - k) Ce.zero
theorem repL_len (c : Ce) {k N : Nat} (h : k ≤ N) : (repL c k N).length = N := by simp [repL]; omega
theorem repL_full (c : Ce) (N : Nat) : repL c N N = List.replicate N c := by simp [repL]
theorem repL_step (c : Ce) {k m N : Nat} (h : k + m ≤ N) : ((repL c k N).flatMap Ce.enc).take (k * 11) ++ (List.replicate m c).flatMap Ce.enc ++ ((repL c k N).flatMap Ce.enc).drop (k * 11 + ((List.replicate m c).flatMap Ce.enc).length) = (repL c (k + m) N).flatMap Ce.enc := by
 have e1 : repL c k N = List.replicate k c ++ (List.replicate m Ce.zero ++ List.replicate (N - (k + m)) Ce.zero) := by
  unfold repL; rw [List.replicate_append_replicate, show N - k = m + (N - (k + m)) by omega]
 have l1 : ((List.replicate k c).flatMap Ce.enc).length = k * 11 := by rw [flat_len Ce.enc_len, List.length_replicate]
 have l2 : ((List.replicate m c).flatMap Ce.enc).length = m * 11 := by rw [flat_len Ce.enc_len, List.length_replicate]
 have l3 : ((List.replicate m Ce.zero).flatMap Ce.enc).length = m * 11 := by rw [flat_len Ce.enc_len, List.length_replicate]
 rw [e1, List.flatMap_append, List.flatMap_append, l2]; rw [List.take_append_of_le_length (by omega), List.take_of_length_le (by omega)]
 have e2 : ((List.replicate k c).flatMap Ce.enc ++ ((List.replicate m Ce.zero).flatMap Ce.enc ++ (List.replicate (N - (k + m)) Ce.zero).flatMap Ce.enc)).drop (k * 11 + m * 11) = (List.replicate (N - (k + m)) Ce.zero).flatMap Ce.enc := by
  rw [← List.append_assoc]; exact List.drop_left' (by rw [List.length_append, l1, l3])
 rw [e2]; unfold repL; rw [← List.replicate_append_replicate, List.flatMap_append, List.flatMap_append]
theorem flat_one' {α : Type} {enc : α → List Value} {xs : List α} (h : ∀ y, ∀ u ∈ enc y, u.oneCell' = true) : ∀ u ∈ xs.flatMap enc, u.oneCell' = true := by
 intro u hu
 obtain ⟨y, _, hy⟩ := List.mem_flatMap.1 hu; exact h y u hy
theorem madeCells_ce (n : Nat) : madeCells (.agg #[.int .i32 0, .int .u8 0, .int .u8 0, .int .u8 0, .int .u8 0, .int .u8 0, .int .u8 0, .int .u8 0, .int .u8 0, .bool false, .bool false] : Value).cells (n * 11) = ((List.replicate n Ce.zero).flatMap Ce.enc).toArray := by
 apply Array.ext'
 simp only
 apply List.ext_getElem?
 intro p
 have hz : ∀ i, i < 11 → (Ce.zero.enc)[i]? = some ((.agg #[.int .i32 0, .int .u8 0, .int .u8 0, .int .u8 0, .int .u8 0, .int .u8 0, .int .u8 0, .int .u8 0, .int .u8 0, .bool false, .bool false] : Value).cells)[i]! := by
  intro i hi
  match i, hi with
  | 0, _ => rfl
  | 1, _ => rfl
  | 2, _ => rfl
  | 3, _ => rfl
  | 4, _ => rfl
  | 5, _ => rfl
  | 6, _ => rfl
  | 7, _ => rfl
  | 8, _ => rfl
  | 9, _ => rfl
  | 10, _ => rfl
 have hsz : (.agg #[.int .i32 0, .int .u8 0, .int .u8 0, .int .u8 0, .int .u8 0, .int .u8 0, .int .u8 0, .int .u8 0, .int .u8 0, .bool false, .bool false] : Value).cells.size = 11 := rfl; rw [flat_get Ce.enc_len (by omega)]
 by_cases hp : p < n * 11
 ·have h1 : p / 11 < n := by omega
  rw [List.getElem?_replicate, if_pos h1]; simp only [Option.bind_some]; rw [hz _ (by omega)]
  have : (madeCells (.agg #[.int .i32 0, .int .u8 0, .int .u8 0, .int .u8 0, .int .u8 0, .int .u8 0, .int .u8 0, .int .u8 0, .int .u8 0, .bool false, .bool false] : Value).cells (n * 11))[p]? = some ((.agg #[.int .i32 0, .int .u8 0, .int .u8 0, .int .u8 0, .int .u8 0, .int .u8 0, .int .u8 0, .int .u8 0, .int .u8 0, .bool false, .bool false] : Value).cells)[p % 11]! := by
   unfold madeCells; rw [Array.getElem?_map, Array.getElem?_range, if_pos hp]; simp only [Option.map_some]; rw [hsz]
  simpa using this
 ·have h1 : ¬ p / 11 < n := by omega
  rw [List.getElem?_replicate, if_neg h1]
  have : (madeCells (.agg #[.int .i32 0, .int .u8 0, .int .u8 0, .int .u8 0, .int .u8 0, .int .u8 0, .int .u8 0, .int .u8 0, .int .u8 0, .bool false, .bool false] : Value).cells (n * 11))[p]? = none := by
   rw [Array.getElem?_eq_none]; rw [size_madeCells]; omega
  simpa using this
theorem make_cells (c : Ce) (n : Nat) (hn : n ≤ 300000) (w : World) : (Instr.makeSlice 38 (.int .i64 n) (.int .i64 n)).run Tryz.prog w = .ok (.slice (some ⟨w.heap.size, 0, none⟩) n n) (w.alloc (.cells ((repL c 0 n).flatMap Ce.enc).toArray 47)) := by
 obtain ⟨i0, hi, hz0, hz1, hz2⟩ := info_parts infoCe; have h := run_make (P := Tryz.prog) w 38 47 i0 _ Tryz.underlying38 hi hz0 .i64 .i64 n n (by omega) (Int.le_refl _) (by rw [hz2]; omega) (by omega); rw [h, hz1, Int.toNat_natCast, madeCells_ce]
 rfl
theorem sizeCe : (Tryz.prog.info? 47).map (·.size) = some 11 := by kernel_rfl
set_option maxRecDepth 100000 in
theorem repeat_any (c : Ce) (N : Nat) (bx : Nat) (w : World) (hB : Blk w bx c.enc 47) (hN : N ≤ 300000) : Calls Tryz.prog 48 #[.slice (some ⟨bx, 0, none⟩) 1 1, .int .i64 N] w fun e w' => ∃ v, e = .returned v ∧ OwnsC w.heap.size w' v (List.replicate N c) ∧ Below w.heap.size w w' := by
 obtain ⟨iM, hi0, hm0, hm1, hm2⟩ := info_parts infoCe
 have MU : ∀ w, Calls Tryz.prog 93 #[.int .u64 1, .int .u64 N] w fun e w' => e = .returned (.tuple #[.int .u64 0, .int .u64 N]) ∧ w' = w := fun w => by
  have := YtfcphagmjijmkaaGreatDoor.mulX 1 N (by omega) (by omega) w; rw [show (1 * N / 18446744073709551616 : Nat) = 0 by omega, show (1 * N % 18446744073709551616 : Nat) = N by omega] at this; exact this
 have hN0 : ¬ (N : Int) < 0 := by omega
 have hN1 : ¬ (N : Int) > 9223372036854775807 := by omega
 have hxs := fun j v h => hB.cell (o := j) (v := v) h
 have ybx := hB.lt; replace MU := hdh MU; replace hxs := hdh hxs
 go_enter Tryz.func48, Tryz.ntmps48
 go_upto_region 6 with (go_at_call 93; (with_reducible refine (MU.out _).mono ?_); rintro e w1 ⟨rfl, rfl⟩)
 have hmk := fun w => make_cells c N hN w
 go_upto_region 7 with fail
 clear hmk; obtain ⟨b, hb⟩ := exx (w1.heap.size); obtain ⟨w2, hw2⟩ := exx (w1.alloc (.cells ((repL c 0 N).flatMap Ce.enc).toArray 47))
 have B2 : Blk w2 b ((repL c 0 N).flatMap Ce.enc) 47 := by rw [← hw2, ← hb]; exact Blk.new' rfl
 have hb2 : Below w1.heap.size w1 w2 := by rw [← hw2]; exact (Below.refl _ _).alloc lrr _
 rw [hw2, hb]; clear hw2
 have hsrc0 : ∀ j v, c.enc[j]? = some v → w2.cell? ⟨bx, j, none⟩ = some v := fun j v h => (hb2.cell (p := ⟨bx, j, none⟩) ybx).trans (hxs.out j v h)
 have y2 := B2.lt; obtain ⟨k0, hk0⟩ := exx (Nat.min 1 N)
 have hk1 : k0 ≤ N := by rw [← hk0]; exact Nat.min_le_right 1 N
 have hk2 : 1 ≤ N → k0 = 1 := fun h => by rw [← hk0]; exact Nat.min_eq_left h
 have hk3 : k0 ≤ 1 := by rw [← hk0]; exact Nat.min_le_left 1 N
 have hr0 := run_copy_big (P := Tryz.prog) w2 38 38 3 47 11 b 0 N N ⟨bx, 0, none⟩ 1 1 _ 47 ((List.replicate k0 c).flatMap Ce.enc) Tryz.underlying38 sizeCe B2
  (by rw [flat_len Ce.enc_len, List.length_replicate, hk0]) (fun j v h => by
   rcases (show k0 = 0 ∨ k0 = 1 by omega) with e | e
   ·rw [e] at h; simp at h
   ·rw [e] at h
    have := hsrc0 j v (by simpa using h)
    cases j <;> simpa [Addr.add] using this)
  (by rw [flat_len Ce.enc_len, List.length_replicate, List.size_toArray, flat_len Ce.enc_len, repL_len c (Nat.zero_le _)]; omega) (flat_one' Ce.enc_one)
 rw [hk0] at hr0; have e0 := repL_step c (k := 0) (m := k0) (N := N) (by omega); rw [Nat.zero_mul, Nat.zero_add] at e0; rw [List.toList_toArray, Nat.zero_add, e0, Nat.zero_add] at hr0; obtain ⟨w3, hw3⟩ := exx (w2.setRow b ((repL c k0 N).flatMap Ce.enc).toArray); rw [hw3] at hr0
 have B3 : Blk w3 b ((repL c k0 N).flatMap Ce.enc) 47 := by rw [← hw3]; exact setRow_heap w2 b _ _ _ _ B2
 have hb3 : Below w1.heap.size w1 w3 := by rw [← hw3]; exact below_setRow hb2 (by omega) _
 clear hw3 e0 B2 hb2 hsrc0 y2 hxs; replace hk0 := hdh hk0
 go_upto_region 8 with (refine wpList_copy_runI w2 rfl _ _ _ _ rfl _ _ (by rfl) (by rfl) hr0 ?_)
 clear hr0
 go_loopw [8] (fun nv wr => ∃ k : Nat, k0 ≤ k ∧ k ≤ N ∧ nv = .int .i64 k ∧ Hid (Blk wr b ((repL c k N).flatMap Ce.enc) 47) ∧ Below w1.heap.size w1 wr) (fun nv _ => N - (intOf nv).toNat)
 case atStart => exact ⟨k0, Nat.le_refl _, hk1, rfl, hdh B3, hb3⟩
 case round =>
  clear B3 hb3; obtain ⟨k, h1, h2, rfl, hB, hbr⟩ := hrel
  by_cases hk : k < N
  ·have hki : (k : Int) < N := by omega
   have hkN : (k : Int) ≤ N := by omega
   have hkn : ¬ N = k := by omega
   have hk4 := hk2 (by omega)
   go_upto_region 9 with fail
   obtain ⟨m, hm⟩ := exx (Nat.min k (N - k))
   have m1 : m ≤ k := by rw [← hm]; exact Nat.min_le_left _ _
   have m2 : m ≤ N - k := by rw [← hm]; exact Nat.min_le_right _ _
   have m3 : 1 ≤ m := by rw [← hm]; exact Nat.le_min.2 ⟨by omega, by omega⟩
   have hBB := hB.out
   have hr9 := run_copy_big (P := Tryz.prog) wr.drew 38 38 3 47 11 b (k * 11) (N - k) (N - k) ⟨b, 0, none⟩ k N _ 47 ((List.replicate m c).flatMap Ce.enc) Tryz.underlying38 sizeCe hBB
    (by rw [flat_len Ce.enc_len, List.length_replicate, hm]) (fun j v h => by
     have hjl := (List.getElem?_eq_some_iff.1 h).1; rw [flat_len Ce.enc_len, List.length_replicate] at hjl
     have h2 : ((repL c k N).flatMap Ce.enc)[j]? = some v := by
      unfold repL; rw [← h, show k = m + (k - m) by omega, ← List.replicate_append_replicate, List.append_assoc, List.flatMap_append, List.getElem?_append_left (by rw [flat_len Ce.enc_len, List.length_replicate]; omega)]
     have := hBB.cell h2
     cases j <;> simpa [Addr.add] using this)
    (by rw [flat_len Ce.enc_len, List.length_replicate, List.size_toArray, flat_len Ce.enc_len, repL_len c h2]; omega) (flat_one' Ce.enc_one)
   have e0 := repL_step c (k := k) (m := m) (N := N) (by omega); rw [List.toList_toArray, e0, hm] at hr9; obtain ⟨w4, hw4⟩ := exx (wr.drew.setRow b ((repL c (k + m) N).flatMap Ce.enc).toArray); rw [hw4] at hr9
   have B4 : Blk w4 b ((repL c (k + m) N).flatMap Ce.enc) 47 := by rw [← hw4]; exact setRow_heap wr.drew b _ _ _ _ hBB
   have hb4 : Below w1.heap.size w1 w4 := by rw [← hw4]; exact below_setRow (Below.drew hbr) (by omega) _
   replace B4 := hdh B4; clear hw4 e0 hBB; replace hr9 := hdh hr9
   have km1 : IntKind.i64.wrap ((k : Int) + (m : Int)) = (k : Int) + (m : Int) := by rw [IntKind.wrap_i64]; omega
   refine held_begin (fun _ => True) (by kernel_rfl) trivial (fun hS => ?_)
   (refine' held_do (i := 0) _ (by kernel_rfl) (by kernel_rfl) (by kernel_rfl) _ _ trivial _ _; rotate_left 2; (focus exact geti); (focus exact fun _ _ _ h => h); (focus rfl); (focus (intro w1 hSS R hR; go_simp; (try go_bits); exact hR)); simp only [pu])
   (refine' held_do (i := 1) _ (by kernel_rfl) (by kernel_rfl) (by kernel_rfl) _ _ trivial _ _; rotate_left 2; (focus exact geti); (focus exact fun _ _ _ h => h); (focus rfl); (focus (intro w1 hSS R hR; go_simp; (try go_bits); exact hR)); simp only [pu])
   (refine' held_do (i := 2) _ (by kernel_rfl) (by kernel_rfl) (by kernel_rfl) _ _ trivial _ _; rotate_left 2; (focus exact geti); (focus exact fun _ _ _ h => h); (focus rfl); (focus (intro w1 hSS R hR; go_simp; (try go_bits); exact hR)); simp only [pu])
   (refine' held_do (i := 3) _ (by kernel_rfl) (by kernel_rfl) (by kernel_rfl) _ _ trivial _ _; rotate_left 2; (focus exact geti); (focus exact fun _ _ _ h => h); (focus rfl); (focus (intro w1 hSS R hR; go_simp; (try go_bits); exact hR)); simp only [pu])
   (refine' held_do (i := 4) _ (by kernel_rfl) (by kernel_rfl) (by kernel_rfl) _ _ trivial _ _; rotate_left 2; (focus exact geti); (focus exact fun _ _ _ h => h); (focus rfl); (focus (intro w1 hSS R hR; go_simp; (try go_bits); exact hR)); simp only [pu])
   (refine' held_do (i := 5) _ (by kernel_rfl) (by kernel_rfl) (by kernel_rfl) _ _ trivial _ _; rotate_left 2; (focus exact geti); (focus exact fun _ _ _ h => h); (focus rfl); (focus (intro w1 hSS R hR; go_simp; (try go_bits); exact hR)); simp only [pu])
   (refine' held_do (i := 6) _ (by kernel_rfl) (by kernel_rfl) (by kernel_rfl) _ _ trivial _ _; rotate_left 2; (focus exact geti); (focus exact fun _ _ _ h => h); (focus rfl); (focus (intro w1 hSS R hR; go_simp; (try go_bits); exact hR)); simp only [pu])
   (refine' held_one (i := 7) _ (by kernel_rfl) _ _; rotate_left; (focus exact geti); (focus rfl); intro K hK)
   refine wp_copy_runI wr.drew _ _ _ _ rfl _ _ (by rfl) (by rfl) hr9.out ?_; refine hK _ _ trivial ?_; clear hK; simp only [goInt]
   (try simp only [pu])
   (refine' held_do (i := 8) _ (by kernel_rfl) (by kernel_rfl) (by kernel_rfl) _ _ trivial _ _; rotate_left 2; (focus exact geti); (focus exact fun _ _ _ h => h); (focus rfl); (focus (intro w1 hSS R hR; go_simp; (try go_bits); exact hR)); simp only [pu])
   (refine' held_do (i := 9) _ (by kernel_rfl) (by kernel_rfl) (by kernel_rfl) _ _ trivial _ _; rotate_left 2; (focus exact geti); (focus exact fun _ _ _ h => h); (focus rfl); (focus (intro w1 hSS R hR; go_simp; (try go_bits); exact hR)); simp only [pu])
   refine wpAnyH_done (by kernel_rfl) ?_ _; go_wp2; go_roundw
   case rel => exact ⟨k + m, by omega, by omega, by go_num, B4, hb4⟩
   case measure => simp [intOf]; omega
  ·obtain rfl : k = N := by omega
   have hki : ¬ (k : Int) < k := by omega
   have hB := hB.out; rw [repL_full] at hB
   have ho : OwnsC b wr (.slice (some ⟨b, 0, none⟩) k k) (List.replicate k c) := by
    unfold OwnsC; refine ⟨by rw [flat_len Ce.enc_len], .inr ⟨b, k, _, by rw [List.length_replicate], Nat.le_refl _, hB, by rw [List.length_replicate]; exact Nat.le_refl _, by unfold maxLen; omega, by rw [List.size_toArray, flat_len Ce.enc_len, List.length_replicate], ?_⟩⟩; rw [List.toList_toArray, List.take_of_length_le]; rw [flat_len Ce.enc_len]; exact Nat.le_refl _
   replace ho := hdh ho; go_wp2; go_ret; exact ⟨_, rfl, ho.out, hb ▸ hbr⟩
def blkCe (back : Co) : Ce := ⟨32, ⟨0, 0, 0, 0⟩, back, false, false⟩
def blankE (wd ht : Int) : Int := if fitsS wd ht then 0 else 150
def blankZ (z wd ht : Int) : Int := if fitsS wd ht then z else 0
def blankC (wd ht : Int) (back : Co) : List Ce := if fitsS wd ht then List.replicate (wd * ht).toNat (blkCe back) else []
set_option maxRecDepth 100000 in
theorem cblank_any (wd ht : Int) (back : Co) (w : World) (h1 : I64 wd) (h2 : I64 ht) : Calls Tryz.prog 13 #[.agg #[.int .i64 (wd), .int .i64 (ht)], .agg #[.int .u8 (back.r), .int .u8 (back.g), .int .u8 (back.b), .int .u8 (back.a)]] w (OutS w.heap.size (blankE wd ht) (blankZ wd wd ht) (blankZ ht wd ht) (blankC wd ht back) w) := by
 have X := cfits_any wd ht; obtain ⟨E, hE⟩ := exx (blankE wd ht); obtain ⟨Z1, hZ1⟩ := exx (blankZ wd wd ht); obtain ⟨Z2, hZ2⟩ := exx (blankZ ht wd ht); obtain ⟨RC, hRC⟩ := exx (blankC wd ht back); rw [hE, hZ1, hZ2, hRC]; unfold blankE at hE; unfold blankZ at hZ1 hZ2; unfold blankC at hRC; obtain ⟨b0, b1, b2, b3⟩ := back; dsimp only
 go_enter Tryz.func13, Tryz.ntmps13
 go_upto_region 1 with fail
 obtain ⟨W, hW⟩ := exx (((w.alloc (.cells #[.int .i64 wd, .int .i64 ht] 24)).alloc (.cells #[.int .u8 b0, .int .u8 b1, .int .u8 b2, .int .u8 b3] 34)).alloc (.cells #[.int .i64 0, .int .i64 0, .slice none 0 0] 40))
 have B2 : Blk W w.heap.size [.int .i64 wd, .int .i64 ht] 24 := by rw [← hW]; exact ((Blk.new' rfl).alloc _).alloc _
 have B3 : Blk W (w.heap.size + 1) [.int .u8 b0, .int .u8 b1, .int .u8 b2, .int .u8 b3] 34 := by rw [← hW]; exact (Blk.new' (by simp)).alloc _
 have B4 : Blk W (w.heap.size + 1 + 1) [.int .i64 0, .int .i64 0, .slice none 0 0] 40 := by rw [← hW]; exact Blk.new' (by simp)
 have hbw : Below w.heap.size w W := by rw [← hW]; exact belt
 rw [hW]; clear hW; have yB2 := B2.lt; have yB3 := B3.lt; have yB4 := B4.lt; have q0 := B2.cell (o := 0) rfl; have q1 := B2.cell (o := 1) rfl
 cases hf : fitsS wd ht
 ·rw [hf] at X hE hZ1 hZ2 hRC
  simp only [Bool.false_eq_true, if_false] at hE hZ1 hZ2 hRC; subst hE hZ1 hZ2 hRC; replace X := hdh X
  go_wp2_with (go_at_call 47; (with_reducible refine cmm (X.out _ ‹_› ‹_›) fun w2 hb2 => ?_); replace B4 := B4.below hb2 yB4; replace hbw := hbw.trans (hb2.mono hbw.size); have k0 := B4.cell (o := 0) rfl; have k1 := B4.cell (o := 1) rfl; have k2 := B4.cell (o := 2) rfl; have kf := B4.free)
  clear k0 k1 k2 kf; have HZ := Blk.put3 B4 rfl (.int .i64 0) (.int .i64 0) (.slice none 0 0); have hbZ : Below w.heap.size w (((w2.setCell ⟨(w.heap.size + 1 + 1), 0, none⟩ (.int .i64 0)).setCell ⟨(w.heap.size + 1 + 1), 1, none⟩ (.int .i64 0)).setCell ⟨(w.heap.size + 1 + 1), 2, none⟩ (.slice none 0 0)) := ((hbw.setCell (p := ⟨(w.heap.size + 1 + 1), 0, none⟩) (by show w.heap.size ≤ (w.heap.size + 1 + 1); omega) _).setCell (p := ⟨(w.heap.size + 1 + 1), 1, none⟩) (by show w.heap.size ≤ (w.heap.size + 1 + 1); omega) _).setCell (p := ⟨(w.heap.size + 1 + 1), 2, none⟩) (by show w.heap.size ≤ (w.heap.size + 1 + 1); omega) _
  generalize ((w2.setCell ⟨(w.heap.size + 1 + 1), 0, none⟩ (.int .i64 0)).setCell ⟨(w.heap.size + 1 + 1), 1, none⟩ (.int .i64 0)).setCell ⟨(w.heap.size + 1 + 1), 2, none⟩ (.slice none 0 0) = wZ at HZ hbZ ⊢; have jz0 := HZ.cell (o := 0) rfl; have jz1 := HZ.cell (o := 1) rfl; have jz2 := HZ.cell (o := 2) rfl; refine bodyPost_ret (v := .tuple #[.agg #[.int .i64 0, .int .i64 0, .slice none 0 0], .int .i64 150]) (by simp [results, Tryz.results13, go_sem, jz0, jz1, jz2]) rfl ⟨hbZ, _, rfl, OwnsC.nil _ _⟩
 ·rw [hf] at X hE hZ1 hZ2 hRC
  simp only [if_true] at hE hZ1 hZ2 hRC; subst hE hZ1 hZ2; obtain ⟨a1, a2, a3, a4, a5⟩ := fitsS_true.1 hf; obtain ⟨N, hN⟩ : ∃ N : Nat, wd * ht = N := ⟨(wd * ht).toNat, by have := Int.mul_nonneg a1 a2; omega⟩; rw [hN, Int.toNat_natCast] at hRC; rw [hN] at a5; subst hRC; replace X := hdh X
  go_upto_region 3 with (go_at_call 47; (with_reducible refine cmm (X.out _ ‹_› ‹_›) fun w1 hb1 => ?_))
  replace B2 := B2.below hb1 yB2; replace B3 := B3.below hb1 yB3; replace B4 := B4.below hb1 yB4; replace hbw := hbw.trans (hb1.mono hbw.size); clear q0 q1 hb1 yB2 yB3 yB4 X; have yB2 := B2.lt; have yB3 := B3.lt; have yB4 := B4.lt; have q0 := B2.cell (o := 0) rfl; have q1 := B2.cell (o := 1) rfl; have p0 := B3.cell (o := 0) rfl; have p1 := B3.cell (o := 1) rfl; have p2 := B3.cell (o := 2) rfl; have p3 := B3.cell (o := 3) rfl; have hCL : Held w 3 [(⟨w.heap.size, 0, none⟩, .int .i64 wd), (⟨w.heap.size, 1, none⟩, .int .i64 ht), (⟨w.heap.size + 1, 0, none⟩, .int .u8 (b0)), (⟨w.heap.size + 1, 1, none⟩, .int .u8 (b1)), (⟨w.heap.size + 1, 2, none⟩, .int .u8 (b2)), (⟨w.heap.size + 1, 3, none⟩, .int .u8 (b3))] w1.drew := ⟨Below.drew hbw, (show w.heap.size + 3 ≤ w1.heap.size by omega), ⟨q0, B2.free 0, q1, B2.free 1, p0, B3.free 0, p1, B3.free 1, p2, B3.free 2, p3, B3.free 3, trivial⟩⟩
  refine held_begin (Held w 3 [(⟨w.heap.size, 0, none⟩, .int .i64 wd), (⟨w.heap.size, 1, none⟩, .int .i64 ht), (⟨w.heap.size + 1, 0, none⟩, .int .u8 (b0)), (⟨w.heap.size + 1, 1, none⟩, .int .u8 (b1)), (⟨w.heap.size + 1, 2, none⟩, .int .u8 (b2)), (⟨w.heap.size + 1, 3, none⟩, .int .u8 (b3))]) (by kernel_rfl) hCL (fun hS => ?_); have B5 : Blk w1.drew (w.heap.size + 1 + 1) [.int .i64 0, .int .i64 0, .slice none 0 0] 40 := B4; clear q0 q1 p0 p1 p2 p3 B2 B3 B4 yB2 yB3 yB4 hCL hbw; generalize w1.drew = u0 at hS B5 ⊢
  (refine' hdo 0 hS ?_; simp only [pu])
  (refine' hdo 1 hS ?_; simp only [pu])
  (refine' hdo 2 hS ?_; simp only [pu])
  (refine' hdo 4 hS ?_; simp only [pu])
  (refine' hdo 5 hS ?_; simp only [pu])
  (refine' hdo 6 hS ?_; simp only [pu])
  (refine' hdo 7 hS ?_; simp only [pu])
  (refine' hdo 8 hS ?_; simp only [pu])
  (refine honn 3 fun K hK => ?_; go_simp)
  have hT := hS.below ((Below.refl u0.heap.size u0).alloc lrr (.cells #[.int .i32 32, .int .u8 0, .int .u8 0, .int .u8 0, .int .u8 0, .int .u8 b0, .int .u8 b1, .int .u8 b2, .int .u8 b3, .bool false, .bool false] 47)); have B6 := B5.alloc (.cells #[.int .i32 32, .int .u8 0, .int .u8 0, .int .u8 0, .int .u8 0, .int .u8 b0, .int .u8 b1, .int .u8 b2, .int .u8 b3, .bool false, .bool false] 47); have Bx : Blk (u0.alloc (.cells #[.int .i32 32, .int .u8 0, .int .u8 0, .int .u8 0, .int .u8 0, .int .u8 b0, .int .u8 b1, .int .u8 b2, .int .u8 b3, .bool false, .bool false] 47)) u0.heap.size (blkCe ⟨b0, b1, b2, b3⟩).enc 47 := Blk.new' rfl
  generalize u0.alloc (.cells #[.int .i32 32, .int .u8 0, .int .u8 0, .int .u8 0, .int .u8 0, .int .u8 b0, .int .u8 b1, .int .u8 b2, .int .u8 b3, .bool false, .bool false] 47) = v2 at hT Bx B6 ⊢; generalize u0.heap.size = bx at Bx ⊢; have RP := hdh (repeat_any (blkCe ⟨b0, b1, b2, b3⟩) N bx v2 Bx (by omega)); have yB6 := B6.lt; refine hK _ _ hT ?_; clear hK hS B5
  (try simp only [pu])
  have hS := hT; clear hT
  (refine honn 9 fun K hK => ?_; go_simp)
  refine RP.out.mono ?_
  rintro e v3 ⟨vr, rfl, hown, hb3⟩
  have hT := hS.below hb3; have zv := hS.2.1; have B7 := B6.below hb3 yB6; obtain ⟨sr, cr, hsr⟩ := own_slice hown; rw [List.length_replicate] at hsr; subst hsr; refine hK _ _ hT ?_; clear hK hS hb3 RP B6 yB6
  (try simp only [pu])
  have hS := hT; clear hT
  (refine' hdo 10 hS ?_; simp only [pu])
  replace hown := hdh hown
  (refine' held_one (i := 11) _ (by kernel_rfl) _ _; rotate_left; (focus exact geti); (focus rfl); intro K hK)
  have k0 := B7.cell (o := 0) rfl; have k1 := B7.cell (o := 1) rfl; have k2 := B7.cell (o := 2) rfl; have kf := B7.free; have yB7 := B7.lt
  go_simp
  clear k0 k1 k2 kf
  have hT : Held w 3 [(⟨w.heap.size, 0, none⟩, .int .i64 wd), (⟨w.heap.size, 1, none⟩, .int .i64 ht), (⟨w.heap.size + 1, 0, none⟩, .int .u8 (b0)), (⟨w.heap.size + 1, 1, none⟩, .int .u8 (b1)), (⟨w.heap.size + 1, 2, none⟩, .int .u8 (b2)), (⟨w.heap.size + 1, 3, none⟩, .int .u8 (b3))] (((v3.setCell ⟨w.heap.size + 1 + 1, 0, none⟩ (.int .i64 wd)).setCell ⟨w.heap.size + 1 + 1, 1, none⟩ (.int .i64 ht)).setCell ⟨w.heap.size + 1 + 1, 2, none⟩ (.slice sr N cr)) := by
   refine ⟨((hS.1.setCell (p := ⟨w.heap.size + 1 + 1, 0, none⟩) (by show w.heap.size ≤ w.heap.size + 1 + 1; omega) _).setCell (p := ⟨w.heap.size + 1 + 1, 1, none⟩) (by show w.heap.size ≤ w.heap.size + 1 + 1; omega) _).setCell (p := ⟨w.heap.size + 1 + 1, 2, none⟩) (by show w.heap.size ≤ w.heap.size + 1 + 1; omega) _, by have := hS.2.1; simpa using this, ?_⟩; have hc := hS.2.2; simp only [Cells] at hc ⊢; obtain ⟨c0, f0, c1, f1, c2, f2, c3, f3, c4, f4, c5, f5, _⟩ := hc
   have hne : ∀ (b o o' : Nat), b ≠ w.heap.size + 1 + 1 → (⟨b, o, none⟩ : Addr) ≠ ⟨w.heap.size + 1 + 1, o', none⟩ := fun b o o' hb e => by injection e with e; exact hb e
   refine ⟨?_, by simpa using f0, ?_, by simpa using f1, ?_, by simpa using f2, ?_, by simpa using f3, ?_, by simpa using f4, ?_, by simpa using f5, trivial⟩ <;> (rw [World.cell?_setCell_other _ _ _ _ (hne _ _ _ (by omega)).symm, World.cell?_setCell_other _ _ _ _ (hne _ _ _ (by omega)).symm, World.cell?_setCell_other _ _ _ _ (hne _ _ _ (by omega)).symm]; assumption)
  have hoZ := OwnsC.set_ne (OwnsC.set_ne (OwnsC.set_ne hown.out (b := w.heap.size + 1 + 1) (o := 0) (by omega) (.int .i64 wd)) (b := w.heap.size + 1 + 1) (o := 1) (by omega) (.int .i64 ht)) (b := w.heap.size + 1 + 1) (o := 2) (by omega) (.slice sr N cr); have HZ := Blk.put3 B7 rfl (.int .i64 wd) (.int .i64 ht) (.slice sr N cr); generalize ((v3.setCell ⟨w.heap.size + 1 + 1, 0, none⟩ (.int .i64 wd)).setCell ⟨w.heap.size + 1 + 1, 1, none⟩ (.int .i64 ht)).setCell ⟨w.heap.size + 1 + 1, 2, none⟩ (.slice sr N cr) = wZ at HZ hT hoZ ⊢; refine hK _ _ hT ?_; clear hK hS B7 yB7 hown
  (try simp only [pu])
  have hS := hT; clear hT
  (refine' hdo 12 hS ?_; simp only [pu])
  refine wpAnyH_done (by kernel_rfl) ?_ _; have jz0 := HZ.cell (o := 0) rfl; have jz1 := HZ.cell (o := 1) rfl; have jz2 := HZ.cell (o := 2) rfl; go_wp2; refine bodyPost_ret (v := .tuple #[.agg #[.int .i64 wd, .int .i64 ht, .slice sr N cr], .int .i64 0]) (by simp [results, Tryz.results13, go_sem, jz0, jz1, jz2]) rfl ⟨hS.1, _, rfl, own_less hoZ (by omega)⟩
/-! ### mending -/
def mndE (wd ht : Int) (cs : List Ce) (xs : List St) (qs : List Re) : Int := if chkS wd ht cs = 0 then (if chkL xs = 0 then chkR qs else chkL xs) else chkS wd ht cs
def putN (wd : Int) (now cs : List Ce) (qs : List Re) : List Ce := updP (fun k => hasL qs ((k % wd.toNat : Nat) : Int) ((k / wd.toNat : Nat) : Int)) (fun k c => (now[k]?).getD c) cs
def nowC (wd ht : Int) (xs : List St) : List Ce := drawC glyS wd ht (blankC wd ht Co.none) xs
def mndC (wd ht : Int) (cs : List Ce) (xs : List St) (qs : List Re) : List Ce := if mndE wd ht cs xs qs = 0 then putN wd (nowC wd ht xs) cs qs else []
theorem blank_len {wd ht : Int} (c : Co) (h : fitsS wd ht = true) : ((blankC wd ht c).length : Int) = wd * ht := by
 unfold blankC; rw [if_pos h, List.length_replicate]; unfold fitsS at h; simp only [Bool.and_eq_true, decide_eq_true_eq] at h; have := Int.mul_nonneg h.1.1.1.1 h.1.1.1.2; omega
theorem blank_chk {wd ht : Int} (h : fitsS wd ht = true) : chkS wd ht (blankC wd ht Co.none) = 0 := by
 unfold chkS; rw [h, blank_len _ h]
 have : (blankC wd ht Co.none).all mayC = true := by
  rw [List.all_eq_true]
  intro c hc
  unfold blankC at hc; rw [if_pos h] at hc; rw [(List.mem_replicate.1 hc).2]
  decide
 rw [this]
 simp
theorem now_ok {wd ht : Int} {xs : List St} (hf : fitsS wd ht = true) (hx : chkL xs = 0) : drawE wd ht (blankC wd ht Co.none) xs = 0 := by
 unfold drawE; rw [if_pos (blank_chk hf), hx]
theorem now_len {wd ht : Int} {xs : List St} (hf : fitsS wd ht = true) (hx : chkL xs = 0) : ((nowC wd ht xs).length : Int) = wd * ht := by
 unfold nowC; rw [draw_len (now_ok hf hx)]; exact blank_len _ hf
theorem mend_now {wd ht : Int} {xs ys : List St} (hf : fitsS wd ht = true) (hd : dmgE xs ys = 0) (hx : ∀ s ∈ xs, s.Wf) (hy : ∀ s ∈ ys, s.Wf) :
  mndE wd ht (nowC wd ht xs) ys (dmgL xs ys) = 0 ∧ mndC wd ht (nowC wd ht xs) ys (dmgL xs ys) = nowC wd ht ys := by
 obtain ⟨c1, c2⟩ := dmgE_zero hd; obtain ⟨m1, m2⟩ := dmg_may hx hy
 have e0 : mndE wd ht (nowC wd ht xs) ys (dmgL xs ys) = 0 := by
  unfold mndE; rw [if_pos (show chkS wd ht (nowC wd ht xs) = 0 from draw_chk (now_ok hf c1)), if_pos c2]; exact chk_of m1 m2
 refine ⟨e0, ?_⟩; unfold mndC; rw [if_pos e0]
 apply List.ext_getElem?
 intro k
 unfold putN; rw [updP_get]
 have hl : (nowC wd ht xs).length = (nowC wd ht ys).length := by
  have h1 := now_len hf c1; have h2 := now_len hf c2; omega
 cases hk : (nowC wd ht xs)[k]? with
 | none =>
  have h1 : (nowC wd ht xs).length ≤ k := by simpa using hk
  rw [List.getElem?_eq_none (by omega)]
  rfl
 | some c =>
  have hk1 := (List.getElem?_eq_some_iff.1 hk).1; obtain ⟨d, hd'⟩ := get_at (l := nowC wd ht ys) rfl (show k < _ by omega); simp only [Option.map_some]; rw [hd']
  cases hh : hasL (dmgL xs ys) ((k % wd.toNat : Nat) : Int) ((k / wd.toNat : Nat) : Int)
  ·have := draw_out (now_ok hf c1) (now_ok hf c2) hx hy hh
   have e1 : (nowC wd ht xs)[k]? = (nowC wd ht ys)[k]? := this; rw [hk, hd'] at e1
   simpa using e1
  ·simp
/-! ### what changed -/
end Go.Proofs.YtfcphagmjijmkaaGreatDoor
