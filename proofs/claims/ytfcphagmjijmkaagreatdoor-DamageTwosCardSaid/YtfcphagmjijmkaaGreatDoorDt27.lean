/-
  Damage: two rows of flat strokes, one behind the other.
-/
import Derived.Deep.WholeRow
import Derived.Shelf.Spec.SlicesGrow
import Derived.Test.YtfcphagmjijmkaaGreatDoorDt26
namespace Go.Proofs
open Go.Shelf
def YtfcphagmjijmkaaGreatDoor.growRenF : Go.Shelf.Ren := ⟨fun | 4 => 90 | n => n, fun | 22 => 75 | 25 => 82 | n => n, fun n => n⟩
theorem YtfcphagmjijmkaaGreatDoor.growLaysF : Lays8.n4 Tryz.prog YtfcphagmjijmkaaGreatDoor.growRenF := {
 mixed := by kernel_rfl
 f4 := ⟨Tryz.f90.name, by decide, Tryz.func90.trans (congrArg some (by kernel_rfl))⟩
 t0 := Tryz.underlying0
 a0 := Tryz.isAgg0
 z0 := Tryz.sizeOf0
 v0 := Tryz.zeroValue0
 t3 := Tryz.underlying3
 a3 := Tryz.isAgg3
 z3 := Tryz.sizeOf3
 v3 := Tryz.zeroValue3
 t4 := Tryz.underlying4
 a4 := Tryz.isAgg4
 z4 := Tryz.sizeOf4
 v4 := Tryz.zeroValue4
 t9 := Tryz.underlying9
 a9 := Tryz.isAgg9
 z9 := Tryz.sizeOf9
 v9 := Tryz.zeroValue9
 t20 := Tryz.underlying20
 a20 := Tryz.isAgg20
 z20 := Tryz.sizeOf20
 v20 := Tryz.zeroValue20
 t22 := Tryz.underlying75
 a22 := Tryz.isAgg75
 z22 := Tryz.sizeOf75
 v22 := Tryz.zeroValue75 }
end Go.Proofs
namespace Go.Proofs.YtfcphagmjijmkaaGreatDoor
open Go.RowKit
set_option linter.unusedVariables false
set_option linter.unusedSimpArgs false
attribute [local go_sem] vwp vUpon_value vUpon_skip vUpon_enter vUpon_row
set_option maxHeartbeats 16000000
theorem growF_any (n : Nat) (w : World) (hn : n ≤ 65536) : Calls Tryz.prog 90 #[.slice none 0 0, .int .i64 n] w fun e w' => ∃ v, e = .returned v ∧ w'.ownsRow w.heap.size 82 19 v 0 [] ∧ Below w.heap.size w w' := by
 obtain ⟨iM, hi0, hm0, hm1, hm2⟩ := info_parts infoFl
 rcases Nat.eq_zero_or_pos n with rfl | h0
 ·refine (Any8.slices_Grow_room YtfcphagmjijmkaaGreatDoor.growLaysF none 0 0 0 w lrr (by omega) (by omega) (by omega)).mono ?_
  rintro e w' ⟨rfl, rfl⟩
  exact ⟨_, rfl, World.ownsRow_nil _ _ _ _, Below.refl _ _⟩
 ·refine (Any8.slices_Grow_grow YtfcphagmjijmkaaGreatDoor.growLaysF iM _ hi0 hm0 (by omega) none 0 0 n [] w lrr (by omega) (by rw [hm2]; omega) (by omega) (by simp) (fun _ => rfl) (fun a h => by cases h)).mono ?_
  rintro e w' ⟨rfl, rfl⟩
  have hge := grownCap_ge w (0 + n) 0 (YtfcphagmjijmkaaGreatDoor.growRenF.t 25); have hle := grownCap_le_maxLen w (0 + n) 0 (YtfcphagmjijmkaaGreatDoor.growRenF.t 25) (by unfold maxLen; omega); refine ⟨_, rfl, ⟨by simp, .inr ⟨w.heap.size, _, _, rfl, Nat.le_refl _, heap_alloc_new w.drew _, Nat.zero_le _, hle, ?_, by simp⟩⟩, (Below.refl _ _).drew.alloc lrr _⟩; simp only [Array.size_append, List.size_toArray, size_zeroCells, List.length_nil]; rw [show (Value.agg #[.int .u8 0, .int .i64 0, .int .i64 0, .int .i64 0, .int .i64 0, .int .u8 0, .int .u8 0, .int .u8 0, .int .u8 0, .int .u8 0, .int .u8 0, .int .u8 0, .int .u8 0, .string ⟨#[]⟩, .int .i64 0, .int .i64 0, .int .i64 0, .int .i64 0, .int .i64 0]).cells.size = 19 from rfl]
  omega
set_option maxRecDepth 100000 in
theorem concatF_any (xs ys : List Fl) (v1 v2 : Value) (b : Nat) (w : World) (h1 : Row w.heap.size 19 Fl.enc w v1 xs) (h2 : Row w.heap.size 19 Fl.enc w v2 ys) (hn : xs.length ≤ 20000) (hm : ys.length ≤ 20000)
  (hb : b < w.heap.size) (g0 : w.cell? ⟨b, 0, none⟩ = some v1) (g1 : w.cell? ⟨b, 1, none⟩ = some v2) : Calls Tryz.prog 43 #[.slice (some ⟨b, 0, none⟩) 2 2] w fun e w' => ∃ v', e = .returned v' ∧ OwnsF w.heap.size w' v' (xs ++ ys) ∧ Below w.heap.size w w' := by
 obtain ⟨iM, hi0, hm0, hm1, hm2⟩ := info_parts infoFl; obtain ⟨s1, c1, rfl, hmax1⟩ := h1.shape; obtain ⟨s2, c2, rfl, hmax2⟩ := h2.shape; replace h1 := hdh h1; replace h2 := hdh h2; obtain ⟨n, en⟩ := exx (xs.length); obtain ⟨m, em⟩ := exx (ys.length); rw [en] at g0 hn hmax1; rw [em] at g1 hm hmax2; replace en := hdh en; replace em := hdh em
 have GA := fun w => growF_any (n + m) w (by omega)
 rw [show ((n + m : Nat) : Int) = (n : Int) + m by omega] at GA; replace GA := hdh GA
 go_enter Tryz.func43, Tryz.ntmps43
 go_wp2
 go_loopw [3, 11] (fun z i wr => ((i = .int .i64 0 ∧ z = .int .i64 0) ∨ (i = .int .i64 1 ∧ z = .int .i64 n) ∨ (i = .int .i64 2 ∧ z = .int .i64 ((n : Int) + m))) ∧ Below w.heap.size w wr) (fun _ i _ => 2 - (intOf i).toNat)
 case atStart => exact ⟨.inl ⟨rfl, rfl⟩, belt⟩
 case round =>
  obtain ⟨hk, hbr⟩ := hrel; have zr := hbr.size; obtain ⟨hcr, hfr⟩ := bcell hbr
  have yb : b < wr.heap.size := by omega
  rcases hk with ⟨rfl, rfl⟩ | ⟨rfl, rfl⟩ | ⟨rfl, rfl⟩
  ·go_wp2
   go_roundw
   case rel => exact ⟨.inr (.inl ⟨rfl, rfl⟩), hbr⟩
   case measure => simp [intOf]
  ·go_wp2
   go_roundw
   case rel => exact ⟨.inr (.inr ⟨rfl, rfl⟩), hbr⟩
   case measure => simp [intOf]
  ·go_wp2_with (first
    | (go_at_call 90; (with_reducible refine (GA.out _).mono ?_); rintro e w3 ⟨v3, rfl, hown3, hb3⟩)
    | go_in)
   have hb03 : Below w.heap.size w w3 := hbr.trans (hb3.mono zr); have z3 := hb03.size; have hown03 : w3.ownsRow w.heap.size 82 19 v3 0 [] := ⟨hown3.1, hown3.2.imp id (fun ⟨g, cap, cur, e, hg, r⟩ => ⟨g, cap, cur, e, Nat.le_trans zr hg, r⟩)⟩; clear hown3 hb3 hcr hfr hbr zr yb; go_wp2
   go_loopw [6, 27] (fun v i wr => ((i = .int .i64 0 ∧ wr.ownsRow w.heap.size 82 19 v 0 []) ∨ (i = .int .i64 1 ∧ wr.ownsRow w.heap.size 82 19 v n (xs.flatMap Fl.enc)) ∨ (i = .int .i64 2 ∧ wr.ownsRow w.heap.size 82 19 v (n + m) (xs.flatMap Fl.enc ++ ys.flatMap Fl.enc))) ∧ Below w.heap.size w wr) (fun _ i _ => 2 - (intOf i).toNat)
   case atStart => exact ⟨.inl ⟨rfl, hown03⟩, hb03⟩
   case round =>
    obtain ⟨hk, hbr⟩ := hrel; have zr := hbr.size; obtain ⟨hcr, hfr⟩ := bcell hbr
    have yb : b < wr.heap.size := by omega
    rcases hk with ⟨rfl, hown⟩ | ⟨rfl, hown⟩ | ⟨rfl, hown⟩
    ·have hrow : Row w.heap.size 19 Fl.enc wr (.slice s1 n c1) xs := by have := h1.out.below hbr; rw [en.out] at this; exact this
     have en' := en.out
     go_wp2_with (first
      | (at_builtin; refine wpList_append_row rfl _ _ _ rfl w.heap.size 82 iM _ 19 104 Tryz.underlying75 hi0 hm0 hm1 hm2 rfl (by omega) wr _ _ _ (by rfl) hown Fl.enc_len Fl.enc_one w.heap.size _ xs hrow (by rfl) (by unfold maxLen; omega) (by omega) zr ?_; intro v4 w4 hown4 hgr4)
      | go_in)
     have hb4 : Below w.heap.size w w4 := hbr.grown hgr4 zr (fun g hg => (hown.lt g hg).1); rw [Nat.zero_add, List.nil_append, en'] at hown4; replace hown4 := hdh hown4; go_wp2; go_roundw
     case rel => exact ⟨.inr (.inl ⟨rfl, hown4.out⟩), hb4⟩
     case measure => simp [intOf]
    ·have hrow : Row w.heap.size 19 Fl.enc wr (.slice s2 m c2) ys := by have := h2.out.below hbr; rw [em.out] at this; exact this
     have em' := em.out
     go_wp2_with (first
      | (at_builtin; refine wpList_append_row rfl _ _ _ rfl w.heap.size 82 iM _ 19 104 Tryz.underlying75 hi0 hm0 hm1 hm2 rfl (by omega) wr _ _ _ (by rfl) hown Fl.enc_len Fl.enc_one w.heap.size _ ys hrow (by rfl) (by unfold maxLen; omega) (by omega) zr ?_; intro v4 w4 hown4 hgr4)
      | go_in)
     have hb4 : Below w.heap.size w w4 := hbr.grown hgr4 zr (fun g hg => (hown.lt g hg).1); rw [em'] at hown4; replace hown4 := hdh hown4; go_wp2; go_roundw
     case rel => exact ⟨.inr (.inr ⟨rfl, hown4.out⟩), hb4⟩
     case measure => simp [intOf]
    ·replace hown := hdh hown
     go_wp2; go_ret; refine ⟨_, rfl, ?_, hbr⟩; have := hown.out; unfold OwnsF; rw [List.length_append, List.flatMap_append, en.out, em.out]; exact this
section
def OutDm (base : Nat) (er : Int) (l : List Re) (w : World) (e : Ending) (w' : World) : Prop := Below base w w' ∧ ∃ v, e = .returned (.tuple #[v, .int .i64 er]) ∧ CutR base w' v l
theorem pie_le {f : Fl} : (pieL f).length ≤ 4 := by
 unfold pieL plcL
 split
 ·simp
 ·split
  ·split <;> simp
  ·split
   ·simp
   ·split
    ·simp
    ·exact Nat.le_trans (meets_le _ _) (by show 4 ≤ 4; omega)
theorem pies_le : ∀ (l : List Fl), (l.flatMap pieL).length ≤ 4 * l.length
 | [] => by simp
 | f :: l => by
  have := pies_le l; have := pie_le (f := f); rw [List.flatMap_cons, List.length_append, List.length_cons]; omega
theorem flts_le {xs : List St} (h : chkL xs = 0) : (flts xs).length ≤ 16384 := by
 rw [flts_len]; have h1 : flS xs = fltS xs := if_pos h; rw [h1]; exact Nat.le_trans (fltS_le xs) (chk_len h)
theorem mid_le (a b : List Fl) : (midP a b).1.length ≤ a.length ∧ (midP a b).2.length ≤ b.length := by
 obtain ⟨p, q, h1, h2⟩ := mid_spec a b; have e1 := congrArg List.length h1; have e2 := congrArg List.length h2; simp only [List.length_append] at e1 e2; omega
theorem pies_snoc {l : List Fl} {k : Nat} {f : Fl} (h : l[k]? = some f) : (l.take (k + 1)).flatMap pieL = (l.take k).flatMap pieL ++ pieL f := by
 rw [List.take_add_one, h, List.flatMap_append]
 simp
/-! ### a flat stroke stored whole into a new variable -/
noncomputable def stF (p v : Value) : Sem Unit := Instr.storeAt 82 p v
theorem stF_is (p v : Value) : Instr.storeAt 82 p v = stF p v := rfl
theorem stF_new (f : Fl) (w : World) : (stF (.pointer (some ⟨w.heap.size, 0, none⟩)) f.val).run Tryz.prog (w.alloc (.cells #[.int .u8 0, .int .i64 0, .int .i64 0, .int .i64 0, .int .i64 0, .int .u8 0, .int .u8 0, .int .u8 0, .int .u8 0, .int .u8 0, .int .u8 0, .int .u8 0, .int .u8 0, .string ⟨#[]⟩, .int .i64 0, .int .i64 0, .int .i64 0, .int .i64 0, .int .i64 0] 82)) = .ok () (w.alloc (.cells f.enc.toArray 82)) :=
 run_storeAt_new w _ #[.int .u8 0, .int .i64 0, .int .i64 0, .int .i64 0, .int .i64 0, .int .u8 0, .int .u8 0, .int .u8 0, .int .u8 0, .int .u8 0, .int .u8 0, .int .u8 0, .int .u8 0, .string ⟨#[]⟩, .int .i64 0, .int .i64 0, .int .i64 0, .int .i64 0, .int .i64 0] f.enc.toArray (by kernel_rfl) rfl (all_oneCell_toArray (Fl.enc_one f))
attribute [local go_sem ↓ high] ldF_is stF_is
set_option maxRecDepth 100000 in
theorem dof_any (xs ys : List St) (v u : Value) (w : World) (hx : Row w.heap.size 15 St.enc w v xs) (hy : Row w.heap.size 15 St.enc w u ys) (k1 : ∀ s ∈ xs, s.Wf) (k2 : ∀ s ∈ ys, s.Wf) : Calls Tryz.prog 11 #[v, u] w (OutDm w.heap.size (dmgE xs ys) (dmgL xs ys) w) := by
 obtain ⟨iR, hr0, hr1, hr2, hr3⟩ := info_parts infoRe; have TWO := two_any xs ys v u w hx hy k1 k2; obtain ⟨s1, c1, rfl, m1⟩ := hx.shape; obtain ⟨s2, c2, rfl, m2⟩ := hy.shape
 by_cases hd : dmgE xs ys = 0
 ·obtain ⟨e1, e2⟩ := dmgE_zero hd
  have hX := flts_ok e1 k1; have hY := flts_ok e2 k2; have eL : dmgL xs ys = tldL (pieA (flts xs) (flts ys)) := if_pos hd
  have t1 : ∀ l, twoL xs ys l = l := fun l => if_pos hd
  have lX := flts_le e1; have lY := flts_le e2; rw [hd, t1, t1] at TWO; rw [hd, eL]; obtain ⟨X, hXe⟩ := exx (flts xs); obtain ⟨Y, hYe⟩ := exx (flts ys); rw [hXe] at TWO hX lX ⊢; rw [hYe] at TWO hY lY ⊢; obtain ⟨ml1, ml2⟩ := mid_le X Y
  have hA : pieA X Y = ((midP X Y).1 ++ (midP X Y).2).flatMap pieL := by unfold pieA; rw [List.flatMap_append]
  have hok : ∀ f ∈ (midP X Y).1 ++ (midP X Y).2, f.Ok := by
   obtain ⟨p, q, h1, h2⟩ := mid_spec X Y
   intro f hf
   rcases List.mem_append.1 hf with hf | hf
   ·exact hX f (by rw [h1]; simp [hf])
   ·exact hY f (by rw [h2]; simp [hf])
  have MID := fun W v u h1 h2 => middles_any X Y v u W h1 h2
  rw [hA]; obtain ⟨M, hM⟩ := exx ((midP X Y).1); obtain ⟨N, hN⟩ := exx ((midP X Y).2); rw [hM, hN] at MID; rw [hM, hN] at hok ⊢; rw [hM] at ml1; rw [hN] at ml2; have hmay := pies_may hok; have hful := pies_full hok; have hpl := pies_le (M ++ N)
  have TLD := fun W v h => told_any ((M ++ N).flatMap pieL) v W h hmay hful
  obtain ⟨D, hD⟩ := exx (M ++ N)
  have CAT := fun W v u b h1 h2 hb g0 g1 => concatF_any M N v u b W h1 h2 (by omega) (by omega) hb g0 g1
  rw [hD] at hok hpl TLD CAT ⊢; obtain ⟨n, hn⟩ := exx (D.length); rw [hn] at hpl
  have hnb : n ≤ 32768 := by rw [← hn, ← hD, List.length_append]; omega
  obtain ⟨T, hT⟩ := exx (tldL (D.flatMap pieL)); rw [hT] at TLD ⊢; replace TWO := hdh TWO; replace MID := hdh MID; replace CAT := hdh CAT; replace TLD := hdh TLD; replace hok := hdh hok; replace hn := hdh hn; clear hx hy k1 k2 hd e1 e2 hX hY eL t1 hXe hYe hA hM hN hmay hful hD hT ml1 ml2 lX lY
  go_enter Tryz.func11, Tryz.ntmps11
  go_upto_region 4 with (go_at_call 41; (with_reducible refine TWO.out.mono ?_); rintro e w3 ⟨hb3, v3, u3, rfl, O3, P3⟩)
  have z3 := hb3.size
  go_upto_region 5 with (go_at_call 42; (with_reducible refine (MID.out _ _ _ (O3.row lrr) (P3.row lrr)).mono ?_); rintro e w4 ⟨hb4, v4, u4, rfl, R4, S4⟩)
  have hb4w := hb3.trans (hb4.mono z3); have z4 := hb4.size; have z4w := hb4w.size; obtain ⟨sv, cv, rfl, _⟩ := R4.shape; obtain ⟨su, cu, rfl, _⟩ := S4.shape; obtain ⟨nm, hnm⟩ := exx (M.length); obtain ⟨nn, hnn⟩ := exx (N.length)
  have R5 := fun W (h : Below w4.heap.size w4 W) => ((R4.below (hb4.trans (h.mono z4))).mono (Nat.le_trans z4 h.size))
  have S5 := fun W (h : Below w4.heap.size w4 W) => ((S4.below (hb4.trans (h.mono z4))).mono (Nat.le_trans z4 h.size))
  rw [hnm] at R5 ⊢; rw [hnn] at S5 ⊢; replace R5 := hdh R5; replace S5 := hdh S5; clear TWO MID O3 P3 R4 S4 hb3 hb4 z3 z4 hnm hnn
  go_wp2_with (go_at_call 43; (with_reducible refine (CAT.out _ _ _ _ (R5.out _ ((Below.refl _ _).alloc lrr _)) (S5.out _ ((Below.refl _ _).alloc lrr _)) (by simp) (by go_simp) (by go_simp)).mono ?_); rintro e w5 ⟨v5, rfl, O5, hb5⟩; obtain ⟨s5, c5, hv5⟩ := own_slice O5; rw [hn.out] at hv5; subst hv5)
  have hb4a : Below w4.heap.size w4 (w4.alloc (.cells #[.slice sv nm cv, .slice su nn cu] 75)) := (Below.refl _ _).alloc lrr _; have hb5w : Below w.heap.size w w5 := (hb4w.trans (hb4a.mono z4w)).trans (hb5.mono (by simp; omega)); have z5w := hb5w.size; have R6 := hdh (O5.row lrr); clear O5 hb5 hb4a hb4w z4w R5 S5 CAT
  go_loopw [9, 33] (fun v i wr => ∃ k : Nat, k ≤ n ∧ i = .int .i64 k ∧ OwnsR w5.heap.size wr v ((D.take k).flatMap pieL) ∧ Below w5.heap.size w5 wr) (fun _ i _ => n - (intOf i).toNat)
  case atStart => exact ⟨0, Nat.zero_le _, rfl, World.ownsRow_nil _ _ _ _, Below.refl _ _⟩
  case round =>
   obtain ⟨k, hk, rfl, hown, hbr⟩ := hrel; have zr := hbr.size
   by_cases hkn : k < n
   ·obtain ⟨f, hf⟩ := get_at hn.out hkn
    obtain ⟨bS, oS, cS, e, hbS, _, _, hel⟩ := row_ld (R6.out.below hbr) zr (by rw [hn.out]; omega); rw [hn.out] at e
    simp at e
    obtain ⟨rfl, rfl⟩ := e; have LD := hel k f hf wr (Below.refl _ _)
    have PIE := fun W => pieces_any f W (hok.out f (List.mem_of_getElem? hf))
    have ST := stF_new f wr
    have LN : ∀ W b, Blk W b (Fl.enc f) 82 → (ldF (.pointer (some ⟨b, 0, none⟩))).run Tryz.prog W = .ok f.val W := fun W b hB => ldF_at (o := 0) fun i u hi => hB.cell (by rw [Nat.zero_add]; exact hi)
    generalize f.val = VX at LD PIE ST LN; replace PIE := hdh PIE; replace LN := hdh LN; have hsn := hdh (pies_snoc hf)
    have hkk : (k : Int) < n := by omega
    have yS : bS < wr.heap.size := by omega
    have l1 := pies_le (D.take k); have l2 := pie_le (f := f); have l2b := pie_le (f := f)
    have l3 : ((D.take k).flatMap pieL).length ≤ 131072 := by rw [List.length_take] at l1; omega
    obtain ⟨ln, hln⟩ := exx (((D.take k).flatMap pieL).length); obtain ⟨lm, hlm⟩ := exx ((pieL f).length); unfold OwnsR at hown; rw [hln] at hown l3; rw [hlm] at l2; obtain ⟨s9, c9, rfl⟩ := own_slice hown; replace hown := hdh hown; replace hln := hdh hln; replace hlm := hdh hlm; clear hel hf l1
    go_upto_region 9 with fail
    clear LD ST; obtain ⟨W8, hW8⟩ := exx (wr.alloc (.cells (Fl.enc f).toArray 82)); obtain ⟨b11, hb11⟩ := exx (wr.heap.size)
    have B11 : Blk W8 b11 (Fl.enc f) 82 := by rw [← hW8]; exact Blk.new' hb11.symm
    have hb8 : Below wr.heap.size wr W8 := by rw [← hW8]; exact (Below.refl _ _).alloc lrr _
    rw [hW8, hb11]; clear hW8 hb11; have z8 := hb8.size; have LD := LN.out _ _ B11; clear B11 LN
    go_upto_region 10 with (first
     | (go_at_call 44; (with_reducible refine (PIE.out _).mono ?_); rintro e w9 ⟨hb9, v9, rfl, O9⟩; obtain ⟨s10, c10, hv10⟩ := own_slice O9; have R9 := O9.row lrr; rw [hlm.out] at hv10; subst hv10; have hb89 := hb8.trans (hb9.mono z8); have z89 := hb89.size)
     | (at_builtin; refine wpList_append_row rfl _ _ _ rfl w5.heap.size 32 iR _ 4 32 Tryz.underlying25 hr0 hr1 hr2 hr3 rfl (by omega) w9 _ _ _ (by rfl) (ownsRow_below hown.out hb89 lrr) Re.enc_len Re.enc_one w9.heap.size _ (pieL f) R9 (by rfl) (by unfold maxLen; omega) (by omega) (by omega) ?_; intro v6 w6 hown6 hgr6)
     | go_in)
    have hb06 : Below w5.heap.size w5 w6 := (hbr.trans (hb89.mono zr)).grown hgr6 (by omega) (fun g hg => ((ownsRow_below hown.out hb89 lrr).lt g hg).1)
    have hown6' : OwnsR w5.heap.size w6 v6 ((D.take (k + 1)).flatMap pieL) := by
     unfold OwnsR; rw [hsn.out, List.flatMap_append, List.length_append, hln.out]; exact hown6
    replace hown6 := hdh hown6'; clear hown6'; clear PIE LD; go_wp2; go_roundw
    case rel => exact ⟨k + 1, by omega, by go_num, hown6.out, hb06⟩
    case measure => simp [intOf]; omega
   ·obtain rfl : k = n := by omega
    rw [List.take_of_length_le (by rw [hn.out]; exact Nat.le_refl _)] at hown; obtain ⟨s9, c9, hv9⟩ := own_slice hown; subst hv9; have TL := hdh (TLD.out _ _ (hown.row lrr)); have hbw := hb5w.trans (hbr.mono z5w); clear hown TLD; generalize (D.flatMap pieL).length = ln at TL ⊢
    go_wp2_with (first
     | (go_at_call 45; (with_reducible refine TL.out.mono ?_); rintro e w7 ⟨hb7, v7, rfl, C7⟩)
     | go_in)
    go_ret2; exact ⟨hbw.trans (hb7.mono hbw.size), _, rfl, C7.less hbw.size⟩
 ·have eL : dmgL xs ys = [] := if_neg hd
  have t1 : ∀ l, twoL xs ys l = [] := fun l => if_neg hd
  rw [t1, t1] at TWO; rw [eL]; obtain ⟨E, hE⟩ := exx (dmgE xs ys); rw [hE] at TWO hd ⊢
  have e1 : (E != 0) = true := by simpa using hd
  replace TWO := hdh TWO; clear hx hy k1 k2 eL t1 hE
  go_enter Tryz.func11, Tryz.ntmps11
  go_wp2_with (first
   | (go_at_call 41; (with_reducible refine TWO.out.mono ?_); rintro e w3 ⟨hb3, v3, u3, rfl, O3, P3⟩; clear O3 P3)
   | go_in)
  go_ret2; exact ⟨hb3, _, rfl, CutR.nil _ _⟩
end
end Go.Proofs.YtfcphagmjijmkaaGreatDoor
