/-
  The law ListNorms walked.
-/
import Derived.Test.YtkmofpnefjgnkaaGreatGy
namespace Go.Proofs.YtkmofpnefjgnkaaGreat
open Go.RowKit
set_option linter.unusedVariables false
attribute [local go_sem] vwp vUpon_value vUpon_skip vUpon_enter vUpon_row
set_option linter.unusedSimpArgs false
set_option linter.unusedVariables false
theorem normS_le (xs : List St) : (normS xs).length ≤ xs.length := by
  unfold normS
  split
  · exact Nat.le_trans (busy_le _) (nrm_le _ _)
  · simp
theorem own_cut {base B : Nat} {w : World} {v : Value} {xs : List St} {u : St} (h : Owns base w v (xs ++ [u])) (hB : w.heap.size ≤ B) : ∃ g f c, v = .slice (some ⟨g, f, none⟩) (xs.length + 1) c ∧ xs.length + 1 ≤ c ∧ c ≤ maxLen ∧ base ≤ g ∧ Row B 15 St.enc w (.slice (some ⟨g, f, none⟩) xs.length c) xs := by
  have rP := h.row hB
  obtain ⟨g, f, c, e, hg, hc, hm, _⟩ := rP.open_ (by simp)
  subst e
  have := (own_in h g (by simp [Value.ownBlock])).1
  exact ⟨g, f, c, by simp, by simpa using hc, hm, this, row_cut rP rfl⟩
set_option maxHeartbeats 4000000 in
set_option maxRecDepth 100000 in
theorem walk_ListNorms (xs : List St) (qs : List Re) (v vq : Value) (w : World) (h1 : Row w.heap.size 15 St.enc w v xs) (k1 : ∀ s ∈ xs, s.Wf) (h2 : Row w.heap.size 4 Re.enc w vq qs) (k2 : WfL qs) :
    Calls Tryz.prog 4 #[v, vq] w fun e w' => e = .returned (.bool true) ∧ Below w.heap.size w w' := by
  have LG := fun W (h : Below w.heap.size w W) => long_any xs v W ((h1.below h).mono h.size)
  obtain ⟨sq, cq, rfl, hmaxq⟩ := h2.shape
  cases hL : longB xs.length
  case true =>
    rw [hL] at LG
    replace LG := Lib.hid LG
    clear h1 h2 hL
    generalize qs.length = m at hmaxq
    go_enter Tryz.func4, Tryz.ntmps4
    go_wp2_with (first
      | (go_at_call 5; (with_reducible refine (LG.out _ (by repeat (first | exact Below.refl _ _ | assumption | refine Below.drew ?_ | refine Below.alloc ?_ (by (try simp) <;> omega) _ | refine Below.setCell ?_ (by (try simp) <;> omega) _ | (refine Below.trans ?_ (Below.mono (by assumption) (by (try simp) <;> omega)))))).mono ?_); rintro e w1 ⟨rfl, hb1⟩)
      | go_in)
    go_ret
    exact ⟨rfl, hb1⟩
  rw [hL] at LG
  have n17 : xs.length ≤ 17000 := by unfold longB at hL; simp at hL; omega
  have OW := fun W (h : Below w.heap.size w W) => own_any xs v W ((h1.below h).mono h.size) (by omega)
  have LN := fun W u h => lnorm_any xs u W h k1
  have KN := fun W (h : Below w.heap.size w W) => knorm_any xs v W ((h1.below h).mono h.size) k1
  have LW := fun W u h (h' : Below w.heap.size w W) => lwithin_any xs qs u (.slice sq qs.length cq) W h k1 ((h2.below h').mono h'.size) k2
  have KW := fun W (h : Below w.heap.size w W) => kwithin_any xs qs v (.slice sq qs.length cq) W ((h1.below h).mono h.size) k1 ((h2.below h).mono h.size) k2
  have hX := fun W (h : Below w.heap.size w W) => (h1.below h).mono h.size
  obtain ⟨s1, c1, rfl, hmax1⟩ := h1.shape
  have lS := normS_le xs
  have lT := wiS_le xs qs
  have RS := fun W u u' h h' => rsame_any (normS xs) (normS xs) u u' W h h' (by omega) (by omega)
  rw [sameL_refl] at RS
  have RT := fun W u u' h h' => rsame_any (wiS xs qs) (wiS xs qs) u u' W h h' (by omega) (by omega)
  rw [sameL_refl] at RT
  have KP := fun W u h (h' : Below w.heap.size w W) => kept_any xs u (.slice s1 xs.length c1) W h (hX W h') (by omega)
  have SP := fun base u W h => spoil_any base (normS xs) u W h (by omega)
  have ST := fun base u W h => spoil_any base (wiS xs qs) u W h (by omega)
  have CU := fun (base B : Nat) (W : World) u (h : Owns base W u (xs ++ [mark])) (hB : W.heap.size ≤ B) => own_cut h hB
  obtain ⟨n, en⟩ : ∃ n, xs.length = n := ⟨_, rfl⟩
  obtain ⟨m, em⟩ : ∃ n, qs.length = n := ⟨_, rfl⟩
  rw [en] at n17 LG KN KW hmax1 KP CU OW ⊢
  rw [em] at LW KW hmaxq ⊢
  obtain ⟨E, hE⟩ : ∃ E, chkL xs = E := ⟨_, rfl⟩
  obtain ⟨G, hG⟩ : ∃ E, wiE xs qs = E := ⟨_, rfl⟩
  obtain ⟨S, hS⟩ : ∃ E, normS xs = E := ⟨_, rfl⟩
  obtain ⟨T, hT⟩ : ∃ E, wiS xs qs = E := ⟨_, rfl⟩
  rw [hE, hS] at LN KN
  rw [hG, hT] at LW KW
  rw [hS] at RS SP
  rw [hT] at RT ST
  have eE : (E != E) = false := by simp
  have eG : (G != G) = false := by simp
  replace LG := Lib.hid LG
  replace OW := Lib.hid OW
  replace LN := Lib.hid LN
  replace KN := Lib.hid KN
  replace LW := Lib.hid LW
  replace KW := Lib.hid KW
  replace RS := Lib.hid RS
  replace RT := Lib.hid RT
  replace KP := Lib.hid KP
  replace SP := Lib.hid SP
  replace ST := Lib.hid ST
  replace CU := Lib.hid CU
  clear h1 h2 hX hL lS lT hE hG hS hT en em k1 k2
  unfold maxLen at hmax1 hmaxq
  by_cases q3 : 2000 < m
  · have d1 : decide ((30 : Int) < m) = true := by simp; omega
    have d2 : decide ((m : Int) ≤ 1024) = false := by simp; omega
    have d3 : decide ((2000 : Int) < m) = true := by simp; omega
    go_enter Tryz.func4, Tryz.ntmps4
    go_wp2_with (first
      | (go_at_call 5; (with_reducible refine (LG.out _ (by repeat (first | exact Below.refl _ _ | assumption | refine Below.drew ?_ | refine Below.alloc ?_ (by (try simp) <;> omega) _ | refine Below.setCell ?_ (by (try simp) <;> omega) _ | (refine Below.trans ?_ (Below.mono (by assumption) (by (try simp) <;> omega)))))).mono ?_); rintro e w1 ⟨rfl, hb1⟩)
      | go_in)
    go_ret
    exact ⟨rfl, hb1⟩
  have d3 : decide ((2000 : Int) < m) = false := by simp; omega
  by_cases q4 : 30 < m ∧ m ≤ 1024
  · have d1 : decide ((30 : Int) < m) = true := by simp; omega
    have d2 : decide ((m : Int) ≤ 1024) = true := by simp; omega
    go_enter Tryz.func4, Tryz.ntmps4
    go_wp2_with (first
      | (go_at_call 5; (with_reducible refine (LG.out _ (by repeat (first | exact Below.refl _ _ | assumption | refine Below.drew ?_ | refine Below.alloc ?_ (by (try simp) <;> omega) _ | refine Below.setCell ?_ (by (try simp) <;> omega) _ | (refine Below.trans ?_ (Below.mono (by assumption) (by (try simp) <;> omega)))))).mono ?_); rintro e w1 ⟨rfl, hb1⟩)
      | go_in)
    go_ret
    exact ⟨rfl, hb1⟩
  by_cases q5 : 30 < m
  · have d1 : decide ((30 : Int) < m) = true := by simp; omega
    have d2 : decide ((m : Int) ≤ 1024) = false := by simp; omega
    clear q3 q4 q5
    go_enter Tryz.func4, Tryz.ntmps4
    go_upto_region 4 with (first
      | (go_at_call 5; (with_reducible refine (LG.out _ (by repeat (first | exact Below.refl _ _ | assumption | refine Below.drew ?_ | refine Below.alloc ?_ (by (try simp) <;> omega) _ | refine Below.setCell ?_ (by (try simp) <;> omega) _ | (refine Below.trans ?_ (Below.mono (by assumption) (by (try simp) <;> omega)))))).mono ?_); rintro e w1 ⟨rfl, hb1⟩; have z1 := hb1.size)
      | (go_at_call 6; (with_reducible refine (OW.out _ hb1).mono ?_); rintro e w2 ⟨v3, rfl, o3, hb2⟩)
      | go_in)
    have hb02 : Below w.heap.size w w2 := hb1.trans (hb2.mono z1)
    have z02 := hb02.size
    obtain ⟨g, f, c, rfl, hc1, hm3, hg, rP⟩ := CU.out _ _ w2 _ o3 (Nat.le_refl _)
    have rM : Row w2.heap.size 15 St.enc w2 _ (xs ++ [mark]) := o3.row (Nat.le_refl _)
    unfold maxLen at hm3
    have i1 : (n : Int) ≤ n + 1 := by omega
    have i3 : (n : Int) ≤ c := by omega
    have rP := Lib.hid rP
    have rM := Lib.hid rM
    clear o3 hb1 hb2
    go_upto_region 8 with (first
      | (go_at_call 18; (with_reducible refine (LN.out _ _ rP.out).mono ?_); rintro e w3 ⟨hb3, v4, rfl, o4⟩; have hb03 := hb02.trans (hb3.mono z02); have z3 := hb3.size)
      | (go_at_call 19; (with_reducible refine (KN.out _ hb03).mono ?_); rintro e w4 ⟨hb4, v5, rfl, o5⟩; have z4 := hb4.size; have hb24 := hb3.trans (hb4.mono z3); have z24 := hb24.size; have hb04 := hb02.trans (hb24.mono z02))
      | (go_at_call 20; (with_reducible refine (LW.out _ _ ((rP.out.below hb24).mono z24) hb04).mono ?_); rintro e w5 ⟨hb5, v6, rfl, o6⟩; have z5 := hb5.size; have hb25 := hb24.trans (hb5.mono z24); have z25 := hb25.size)
      | (go_at_call 21; (with_reducible refine (KW.out _ (hb02.trans (hb25.mono z02))).mono ?_); rintro e w6 ⟨hb6, v7, rfl, o7⟩; have z6 := hb6.size)
      | go_in)
    have hb26 := hb25.trans (hb6.mono z25)
    have z26 := hb26.size
    have hb06 := hb02.trans (hb26.mono z02)
    have hb36 : Below w3.heap.size w3 w6 := (hb4.trans (hb5.mono z4)).trans (hb6.mono (by omega))
    have hb46 : Below w4.heap.size w4 w6 := hb5.trans (hb6.mono z5)
    have lo4 := Lib.hid (fun g h => (own_in o4 g h))
    have o4 := o4.below hb36 (Nat.le_refl _)
    have o5 := o5.below hb46 (Nat.le_refl _)
    have o6 := o6.below hb6 (Nat.le_refl _)
    have lo6 := Lib.hid (fun g h => (own_in o6 g h))
    have r4 := Lib.hid (o4.row (Nat.le_refl _))
    have r5 := Lib.hid (o5.row (Nat.le_refl _))
    have r6 := Lib.hid (o6.row (Nat.le_refl _))
    have r7 := Lib.hid (o7.row (Nat.le_refl _))
    have z34 : w3.heap.size ≤ w4.heap.size := z4
    replace o4 := Lib.hid o4
    replace o6 := Lib.hid o6
    clear o5 o7 hb5 hb4 hb3 hb6 hb25 hb24 hb36 hb46 hb03 hb04
    go_upto_region 10 with (first
      | (go_at_call 13; (with_reducible refine (RS.out _ _ _ r4.out r5.out).mono ?_); rintro e w9 ⟨rfl, hb9⟩; have z9 := hb9.size)
      | (go_at_call 13; (with_reducible refine (RT.out _ _ _ ((r6.out.below hb9).mono z9) ((r7.out.below hb9).mono z9)).mono ?_); rintro e w11 ⟨rfl, hb11⟩)
      | go_in)
    have hb611 := hb9.trans (hb11.mono z9)
    have z611 := hb611.size
    have o4 := o4.out.below hb611 (Nat.le_refl _)
    have o6 := o6.out.below hb611 (Nat.le_refl _)
    have hb211 := hb26.trans (hb611.mono z26)
    clear hb9 hb11 r4 r5 r6 r7 hb26 hb611
    go_upto_region 11 with (first
      | (go_at_call 15; (with_reducible refine (SP.out _ _ _ o4).mono ?_); rintro e w12 ⟨rfl, hg12⟩)
      | go_in)
    have z12 := hg12.size
    have o6 : Owns w4.heap.size w12 v6 T := own_keep o6 hg12 (fun g h1 h2 => by
      have := (lo4.out g h2).2
      have := (lo6.out g h1).1
      omega)
    have hb212 : Below w2.heap.size w2 w12 := hb211.grown hg12 hb211.size (fun g hg => (lo4.out g hg).1)
    have z212 := hb212.size
    clear o4 hg12 hb211
    go_upto_region 12 with (first
      | (go_at_call 15; (with_reducible refine (ST.out _ _ _ o6).mono ?_); rintro e w13 ⟨rfl, hg13⟩)
      | go_in)
    have hb213 : Below w2.heap.size w2 w13 := hb212.grown hg13 z212 (fun g hg => by have := (lo6.out g hg).1; omega)
    have z213 := hb213.size
    clear o6 hg13 hb212
    go_wp2_with (first
      | (go_at_call 16; (with_reducible refine (KP.out _ _ ((rM.out.below hb213).mono z213) (hb02.trans (hb213.mono z02))).mono ?_); rintro e w14 ⟨rfl, hb14⟩)
      | go_in)
    go_ret
    exact ⟨rfl, (hb02.trans (hb213.mono z02)).trans (hb14.mono (by omega))⟩
  · have d1 : decide ((30 : Int) < m) = false := by simp; omega
    clear q3 q4 q5
    go_enter Tryz.func4, Tryz.ntmps4
    go_upto_region 4 with (first
      | (go_at_call 5; (with_reducible refine (LG.out _ (by repeat (first | exact Below.refl _ _ | assumption | refine Below.drew ?_ | refine Below.alloc ?_ (by (try simp) <;> omega) _ | refine Below.setCell ?_ (by (try simp) <;> omega) _ | (refine Below.trans ?_ (Below.mono (by assumption) (by (try simp) <;> omega)))))).mono ?_); rintro e w1 ⟨rfl, hb1⟩; have z1 := hb1.size)
      | (go_at_call 6; (with_reducible refine (OW.out _ hb1).mono ?_); rintro e w2 ⟨v3, rfl, o3, hb2⟩)
      | go_in)
    have hb02 : Below w.heap.size w w2 := hb1.trans (hb2.mono z1)
    have z02 := hb02.size
    obtain ⟨g, f, c, rfl, hc1, hm3, hg, rP⟩ := CU.out _ _ w2 _ o3 (Nat.le_refl _)
    have rM : Row w2.heap.size 15 St.enc w2 _ (xs ++ [mark]) := o3.row (Nat.le_refl _)
    unfold maxLen at hm3
    have i1 : (n : Int) ≤ n + 1 := by omega
    have i3 : (n : Int) ≤ c := by omega
    have rP := Lib.hid rP
    have rM := Lib.hid rM
    clear o3 hb1 hb2
    go_upto_region 8 with (first
      | (go_at_call 18; (with_reducible refine (LN.out _ _ rP.out).mono ?_); rintro e w3 ⟨hb3, v4, rfl, o4⟩; have hb03 := hb02.trans (hb3.mono z02); have z3 := hb3.size)
      | (go_at_call 19; (with_reducible refine (KN.out _ hb03).mono ?_); rintro e w4 ⟨hb4, v5, rfl, o5⟩; have z4 := hb4.size; have hb24 := hb3.trans (hb4.mono z3); have z24 := hb24.size; have hb04 := hb02.trans (hb24.mono z02))
      | (go_at_call 20; (with_reducible refine (LW.out _ _ ((rP.out.below hb24).mono z24) hb04).mono ?_); rintro e w5 ⟨hb5, v6, rfl, o6⟩; have z5 := hb5.size; have hb25 := hb24.trans (hb5.mono z24); have z25 := hb25.size)
      | (go_at_call 21; (with_reducible refine (KW.out _ (hb02.trans (hb25.mono z02))).mono ?_); rintro e w6 ⟨hb6, v7, rfl, o7⟩; have z6 := hb6.size)
      | go_in)
    have hb26 := hb25.trans (hb6.mono z25)
    have z26 := hb26.size
    have hb06 := hb02.trans (hb26.mono z02)
    have hb36 : Below w3.heap.size w3 w6 := (hb4.trans (hb5.mono z4)).trans (hb6.mono (by omega))
    have hb46 : Below w4.heap.size w4 w6 := hb5.trans (hb6.mono z5)
    have lo4 := Lib.hid (fun g h => (own_in o4 g h))
    have o4 := o4.below hb36 (Nat.le_refl _)
    have o5 := o5.below hb46 (Nat.le_refl _)
    have o6 := o6.below hb6 (Nat.le_refl _)
    have lo6 := Lib.hid (fun g h => (own_in o6 g h))
    have r4 := Lib.hid (o4.row (Nat.le_refl _))
    have r5 := Lib.hid (o5.row (Nat.le_refl _))
    have r6 := Lib.hid (o6.row (Nat.le_refl _))
    have r7 := Lib.hid (o7.row (Nat.le_refl _))
    have z34 : w3.heap.size ≤ w4.heap.size := z4
    replace o4 := Lib.hid o4
    replace o6 := Lib.hid o6
    clear o5 o7 hb5 hb4 hb3 hb6 hb25 hb24 hb36 hb46 hb03 hb04
    go_upto_region 10 with (first
      | (go_at_call 13; (with_reducible refine (RS.out _ _ _ r4.out r5.out).mono ?_); rintro e w9 ⟨rfl, hb9⟩; have z9 := hb9.size)
      | (go_at_call 13; (with_reducible refine (RT.out _ _ _ ((r6.out.below hb9).mono z9) ((r7.out.below hb9).mono z9)).mono ?_); rintro e w11 ⟨rfl, hb11⟩)
      | go_in)
    have hb611 := hb9.trans (hb11.mono z9)
    have z611 := hb611.size
    have o4 := o4.out.below hb611 (Nat.le_refl _)
    have o6 := o6.out.below hb611 (Nat.le_refl _)
    have hb211 := hb26.trans (hb611.mono z26)
    clear hb9 hb11 r4 r5 r6 r7 hb26 hb611
    go_upto_region 11 with (first
      | (go_at_call 15; (with_reducible refine (SP.out _ _ _ o4).mono ?_); rintro e w12 ⟨rfl, hg12⟩)
      | go_in)
    have z12 := hg12.size
    have o6 : Owns w4.heap.size w12 v6 T := own_keep o6 hg12 (fun g h1 h2 => by
      have := (lo4.out g h2).2
      have := (lo6.out g h1).1
      omega)
    have hb212 : Below w2.heap.size w2 w12 := hb211.grown hg12 hb211.size (fun g hg => (lo4.out g hg).1)
    have z212 := hb212.size
    clear o4 hg12 hb211
    go_upto_region 12 with (first
      | (go_at_call 15; (with_reducible refine (ST.out _ _ _ o6).mono ?_); rintro e w13 ⟨rfl, hg13⟩)
      | go_in)
    have hb213 : Below w2.heap.size w2 w13 := hb212.grown hg13 z212 (fun g hg => by have := (lo6.out g hg).1; omega)
    have z213 := hb213.size
    clear o6 hg13 hb212
    go_wp2_with (first
      | (go_at_call 16; (with_reducible refine (KP.out _ _ ((rM.out.below hb213).mono z213) (hb02.trans (hb213.mono z02))).mono ?_); rintro e w14 ⟨rfl, hb14⟩)
      | go_in)
    go_ret
    exact ⟨rfl, (hb02.trans (hb213.mono z02)).trans (hb14.mono (by omega))⟩
theorem list4 {cs : List Value} (h : cs.length = 4) : ∃ a b c d, cs = [a, b, c, d] := by
  match cs, h with
  | [a, b, c, d], _ => exact ⟨a, b, c, d, rfl⟩
section
variable {H : Type} {enc : TypeId × Value → H} {w : World} {base : Nat} {spare : Nat → Bool} {held : Bool}
set_option maxRecDepth 100000 in
theorem open_rects {r : Reach} {b0 : Nat} {v : Value} {d : DataW H} {p : List MemPlace} (hv : Value.okWide Tryz.prog w r b0 25 v) (h : DataW.Trod enc Tryz.prog w base spare held 25 v d p) :
    ∃ xs : List Re, Row w.heap.size 4 Re.enc w v xs ∧ ∀ x ∈ xs, x.Wf :=
  open_row Tryz.underlying25 (by kernel_rfl) (by omega) (fun n cs y hl ht => by
    obtain ⟨a, b, c, d, rfl⟩ := list4 hl
    exact rect_of ht) hv h
end
end Go.Proofs.YtkmofpnefjgnkaaGreat
