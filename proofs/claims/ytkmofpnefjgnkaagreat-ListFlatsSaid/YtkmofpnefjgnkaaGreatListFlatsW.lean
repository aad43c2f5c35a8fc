/-
  The law ListFlats walked.
-/
import Derived.Test.YtkmofpnefjgnkaaGreatGr
namespace Go.Proofs.YtkmofpnefjgnkaaGreat
open Go.RowKit
set_option linter.unusedVariables false
attribute [local go_sem] vwp vUpon_value vUpon_skip vUpon_enter vUpon_row
set_option linter.unusedSimpArgs false
set_option linter.unusedVariables false
theorem bdL_len (xs : List St) : (bdL xs).length ≤ 1024 := by
  unfold bdL bothL
  split
  · split
    · unfold madeL
      split
      · simp
      · omega
    · simp
  · simp
theorem flS_le (xs : List St) : (flS xs).length ≤ xs.length := by
  unfold flS
  split
  · exact fltS_le xs
  · simp
theorem flR_le (xs : List St) : (flR xs).length ≤ xs.length := by
  unfold flR
  split
  · rw [fltS_len _ _ (shL_len xs)]; exact fltS_le xs
  · simp
theorem own_cut {base B : Nat} {w : World} {v : Value} {xs : List St} {u : St} (h : Owns base w v (xs ++ [u])) (hB : w.heap.size ≤ B) : ∃ g f c, v = .slice (some ⟨g, f, none⟩) (xs.length + 1) c ∧ xs.length + 1 ≤ c ∧ c ≤ maxLen ∧ base ≤ g ∧ Row B 15 St.enc w (.slice (some ⟨g, f, none⟩) xs.length c) xs := by
  have rP := h.row hB
  obtain ⟨g, f, c, e, hg, hc, hm, _⟩ := rP.open_ (by simp)
  subst e
  have := (own_in h g (by simp [Value.ownBlock])).1
  exact ⟨g, f, c, by simp, by simpa using hc, hm, this, row_cut rP rfl⟩
set_option maxHeartbeats 4000000 in
set_option maxRecDepth 100000 in
theorem walk_ListFlats (xs : List St) (v : Value) (w : World) (h1 : Row w.heap.size 15 St.enc w v xs) (k1 : ∀ s ∈ xs, s.Wf) :
    Calls Tryz.prog 3 #[v] w fun e w' => e = .returned (.bool true) ∧ Below w.heap.size w w' := by
  have LG := fun W (h : Below w.heap.size w W) => long_any xs v W ((h1.below h).mono h.size)
  cases hL : longB xs.length
  case true =>
    rw [hL] at LG
    replace LG := Lib.hid LG
    clear h1 hL
    go_enter Tryz.func3, Tryz.ntmps3
    go_wp2_with (first
      | (go_at_call 5; (with_reducible refine (LG.out _ (by repeat (first | exact Below.refl _ _ | assumption | refine Below.drew ?_ | refine Below.alloc ?_ (by (try simp) <;> omega) _ | refine Below.setCell ?_ (by (try simp) <;> omega) _ | (refine Below.trans ?_ (Below.mono (by assumption) (by (try simp) <;> omega)))))).mono ?_); rintro e w1 ⟨rfl, hb1⟩)
      | go_in)
    go_ret
    exact ⟨rfl, hb1⟩
  rw [hL] at LG
  have OW := fun W (h : Below w.heap.size w W) => own_any xs v W ((h1.below h).mono h.size) (by have : longB xs.length = false := hL; unfold longB at this; simp at this; omega)
  have n17 : xs.length ≤ 17000 := by unfold longB at hL; simp at hL; omega
  have LC := fun W u h => lcheck_any xs u W h k1
  have RC := fun W (h : Below w.heap.size w W) => rcheck_any xs v W ((h1.below h).mono h.size) k1
  have LF := fun W u h => lflat_any xs u W h k1
  have KF := fun W (h : Below w.heap.size w W) => kflat_any xs v W ((h1.below h).mono h.size) k1
  have LB := fun W u h => lbound_any xs u W h k1
  have KB := fun W (h : Below w.heap.size w W) => kbound_any xs v W ((h1.below h).mono h.size) k1
  have hX := fun W (h : Below w.heap.size w W) => (h1.below h).mono h.size
  obtain ⟨s1, c1, rfl, hmax1⟩ := h1.shape
  have lS := flS_le xs
  have lR := flR_le xs
  have lB := bdL_len xs
  have RS := fun W u u' h h' => rsame_any (flS xs) (flS xs) u u' W h h' (by omega) (by omega)
  rw [sameL_refl] at RS
  have SR := fun W u u' h h' => ksameR_any (flR xs) (flR xs) u u' W h h' (by omega) (by omega)
  rw [eqRs_refl] at SR
  have SB := fun W u u' h h' => ksameR_any (bdL xs) (bdL xs) u u' W h h' (by omega) (by omega)
  rw [eqRs_refl] at SB
  have KP := fun W u h (h' : Below w.heap.size w W) => kept_any xs u (.slice s1 xs.length c1) W h (hX W h') (by omega)
  have SX := fun W u h (h' : Below w.heap.size w W) => lsame_any xs xs u (.slice s1 xs.length c1) W h (hX W h') (by omega) (by omega)
  rw [sameL_refl] at SX
  have SP := fun base u W h => spoil_any base (flS xs) u W h (by omega)
  have CU := fun (base B : Nat) (W : World) u (h : Owns base W u (xs ++ [mark])) (hB : W.heap.size ≤ B) => own_cut h hB
  obtain ⟨n, en⟩ : ∃ n, xs.length = n := ⟨_, rfl⟩
  rw [en] at n17 LG RC KF KB hX hmax1 KP SX CU OW ⊢
  obtain ⟨E, hE⟩ : ∃ E, chkL xs = E := ⟨_, rfl⟩
  obtain ⟨S, hS⟩ : ∃ E, flS xs = E := ⟨_, rfl⟩
  obtain ⟨R, hR⟩ : ∃ E, flR xs = E := ⟨_, rfl⟩
  obtain ⟨D, hD⟩ : ∃ E, bdL xs = E := ⟨_, rfl⟩
  obtain ⟨G, hG⟩ : ∃ E, bdE xs = E := ⟨_, rfl⟩
  rw [hE] at LC RC LF KF
  rw [hS, hR] at LF KF
  rw [hS] at RS SP
  rw [hR] at SR
  rw [hD] at SB LB KB
  rw [hG] at LB KB
  have eE : (E != E) = false := by simp
  have eG : (G != G) = false := by simp
  replace LG := Lib.hid LG
  replace OW := Lib.hid OW
  replace LC := Lib.hid LC
  replace RC := Lib.hid RC
  replace LF := Lib.hid LF
  replace KF := Lib.hid KF
  replace LB := Lib.hid LB
  replace KB := Lib.hid KB
  replace RS := Lib.hid RS
  replace SR := Lib.hid SR
  replace SB := Lib.hid SB
  replace KP := Lib.hid KP
  replace SX := Lib.hid SX
  replace SP := Lib.hid SP
  replace CU := Lib.hid CU
  replace hX := Lib.hid hX
  clear h1 hL lS lR lB hE hS hR hD hG en k1
  unfold maxLen at hmax1
  go_enter Tryz.func3, Tryz.ntmps3
  go_upto_region 4 with (first
    | (go_at_call 5; (with_reducible refine (LG.out _ (by repeat (first | exact Below.refl _ _ | assumption | refine Below.drew ?_ | refine Below.alloc ?_ (by (try simp) <;> omega) _ | refine Below.setCell ?_ (by (try simp) <;> omega) _ | (refine Below.trans ?_ (Below.mono (by assumption) (by (try simp) <;> omega)))))).mono ?_); rintro e w1 ⟨rfl, hb1⟩; have z1 := hb1.size)
    | (go_at_call 6; (with_reducible refine (OW.out _ hb1).mono ?_); rintro e w2 ⟨v3, rfl, o3, hb2⟩)
    | go_in)
  have hb02 : Below w.heap.size w w2 := hb1.trans (hb2.mono z1)
  have z02 := hb02.size
  obtain ⟨g, f, c, rfl, hc1, hm3, hg, rP⟩ := CU.out _ _ w2 _ o3 (Nat.le_refl _)
  have rM : Row w2.heap.size 15 St.enc w2 _ (xs ++ [mark]) := o3.row (Nat.le_refl _)
  unfold maxLen at hm3
  have i1 : (n : Int) ≤ n + 1 := by omega
  have i3 : (n : Int) ≤ c := by omega
  have rP := Lib.hid rP
  have rM := Lib.hid rM
  clear o3 hb1 hb2
  go_upto_region 7 with (first
    | (go_at_call 7; (with_reducible refine (LF.out _ _ rP.out).mono ?_); rintro e w3 ⟨hb3, v4, u4, rfl, o4, p4, ap⟩; have hb03 := hb02.trans (hb3.mono z02); have z3 := hb3.size)
    | (go_at_call 8; (with_reducible refine (KF.out _ hb03).mono ?_); rintro e w4 ⟨hb4, v5, u5, rfl, o5, p5, _⟩; have z4 := hb4.size; have hb24 := hb3.trans (hb4.mono z3); have z24 := hb24.size)
    | (go_at_call 9; (with_reducible refine (LB.out _ _ ((rP.out.below hb24).mono z24)).mono ?_); rintro e w5 ⟨hb5, v6, rfl, o6⟩; have z5 := hb5.size; have hb25 := hb24.trans (hb5.mono z24); have z25 := hb25.size)
    | go_in)
  go_upto_region 8 with (first
    | (go_at_call 10; (with_reducible refine (KB.out _ (hb02.trans (hb25.mono z02))).mono ?_); rintro e w6 ⟨hb6, v7, rfl, o7⟩; have z6 := hb6.size)
    | go_in)
  have hb26 := hb25.trans (hb6.mono z25)
  have z26 := hb26.size
  have hb06 := hb02.trans (hb26.mono z02)
  have hb36 : Below w3.heap.size w3 w6 := (hb4.trans (hb5.mono z4)).trans (hb6.mono (by omega))
  have hb46 : Below w4.heap.size w4 w6 := hb5.trans (hb6.mono z5)
  have lo4 := Lib.hid (fun g h => (own_in o4 g h))
  have lo5 := Lib.hid (fun g h => (own_in p5 g h))
  have o4 := o4.below hb36 (Nat.le_refl _)
  have p4 := p4.below hb36 (Nat.le_refl _)
  have o5 := o5.below hb46 (Nat.le_refl _)
  have p5 := p5.below hb46 (Nat.le_refl _)
  have o6 := o6.below hb6 (Nat.le_refl _)
  have r4 := o4.row (Nat.le_refl _)
  have r5 := o5.row (Nat.le_refl _)
  have q4 := p4.row (Nat.le_refl _)
  have q5 := p5.row (Nat.le_refl _)
  have r6 := o6.row (Nat.le_refl _)
  have r7 := o7.row (Nat.le_refl _)
  replace r4 := Lib.hid r4
  replace r5 := Lib.hid r5
  replace r6 := Lib.hid r6
  replace r7 := Lib.hid r7
  replace q4 := Lib.hid q4
  replace q5 := Lib.hid q5
  replace o4 := Lib.hid o4
  replace p4 := Lib.hid p4
  replace p5 := Lib.hid p5
  replace ap := Lib.hid ap
  clear o5 o6 o7 hb5 hb4 hb3 hb6 hb25 hb24 hb36 hb46 hb03
  go_upto_region 10 with (first
    | (go_at_call 11; (with_reducible refine (LC.out _ _ ((rP.out.below hb26).mono z26)).mono ?_); rintro e w7 ⟨rfl, hb7⟩; have z7 := hb7.size)
    | (go_at_call 12; (with_reducible refine (RC.out _ (hb06.trans (hb7.mono (by omega)))).mono ?_); rintro e w8 ⟨rfl, hb8⟩; have hb68 := hb7.trans (hb8.mono z7); have z68 := hb68.size)
    | (go_at_call 13; (with_reducible refine (RS.out _ _ _ ((r4.out.below hb68).mono z68) ((r5.out.below hb68).mono z68)).mono ?_); rintro e w9 ⟨rfl, hb9⟩; have hb69 := hb68.trans (hb9.mono z68); have z69 := hb69.size)
    | (go_at_call 14; (with_reducible refine (SR.out _ _ _ ((q4.out.below hb69).mono z69) ((q5.out.below hb69).mono z69)).mono ?_); rintro e w10 ⟨rfl, hb10⟩; have hb610 := hb69.trans (hb10.mono z69); have z610 := hb610.size)
    | (go_at_call 14; (with_reducible refine (SB.out _ _ _ ((r6.out.below hb610).mono z610) ((r7.out.below hb610).mono z610)).mono ?_); rintro e w11 ⟨rfl, hb11⟩)
    | go_in)
  have hb611 := hb610.trans (hb11.mono z610)
  have z611 := hb611.size
  have o4 := o4.out.below hb611 (Nat.le_refl _)
  have p4 := p4.out.below hb611 (Nat.le_refl _)
  have p5 := p5.out.below hb611 (Nat.le_refl _)
  have hb211 := hb26.trans (hb611.mono z26)
  clear hb7 hb8 hb9 hb10 hb11 hb68 hb69 hb610 r4 r5 r6 r7 q4 q5 hb26 hb611
  go_upto_region 11 with (first
    | (go_at_call 15; (with_reducible refine (SP.out _ _ _ o4).mono ?_); rintro e w12 ⟨rfl, hg12⟩)
    | go_in)
  have z12 := hg12.size
  have p4 := own_keep p4 hg12 (fun g h1 h2 => ap.out g h2 h1)
  have p5 := own_keep p5 hg12 (fun g h1 h2 => by
    have := (lo4.out g h2).2
    have := (lo5.out g h1).1
    omega)
  have hb212 : Below w2.heap.size w2 w12 := hb211.grown hg12 hb211.size (fun g hg => (lo4.out g hg).1)
  have z212 := hb212.size
  have q4 := OwnsR.row p4 (Nat.le_refl _)
  have q5 := OwnsR.row p5 (Nat.le_refl _)
  replace q4 := Lib.hid q4
  replace q5 := Lib.hid q5
  clear p4 p5 o4 hg12 hb211
  go_wp2_with (first
    | (go_at_call 16; (with_reducible refine (KP.out _ _ ((rM.out.below hb212).mono z212) (hb02.trans (hb212.mono z02))).mono ?_); rintro e w13 ⟨rfl, hb13⟩; have hb213 := hb212.trans (hb13.mono z212); have z213 := hb213.size; have z13 := hb13.size)
    | (go_at_call 17; (with_reducible refine (SX.out _ _ ((rP.out.below hb213).mono z213) (hb02.trans (hb213.mono z02))).mono ?_); rintro e w14 ⟨rfl, hb14⟩; have hb1214 := hb13.trans (hb14.mono z13); have z1214 := hb1214.size)
    | (go_at_call 14; (with_reducible refine (SR.out _ _ _ ((q4.out.below hb1214).mono z1214) ((q5.out.below hb1214).mono z1214)).mono ?_); rintro e w15 ⟨rfl, hb15⟩)
    | go_in)
  go_ret
  exact ⟨rfl, (hb02.trans (hb212.mono z02)).trans ((hb1214.trans (hb15.mono z1214)).mono (by omega))⟩
end Go.Proofs.YtkmofpnefjgnkaaGreat
