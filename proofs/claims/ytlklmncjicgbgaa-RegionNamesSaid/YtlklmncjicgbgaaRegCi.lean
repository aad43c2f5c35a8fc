/-
  Moved: the program's and the document's.
-/
import Derived.Test.YtlklmncjicgbgaaRegCh
namespace Go.Proofs.Ytlklmncjicgbgaa
open Go.RowKit
set_option linter.unusedVariables false
attribute [local go_sem] vwp vUpon_value vUpon_skip vUpon_enter vUpon_row
set_option linter.unusedSimpArgs false
set_option linter.unusedVariables false
theorem CutR.own {base : Nat} {w : World} {v : Value} {l : List Re} (h : OwnsR base w v l) : CutR base w v l := by
  rcases h.2 with ⟨rfl, h0⟩ | ⟨g, cap, cur, rfl, h2, h3, h4, h5, h6, h7⟩
  · exact .inl ⟨rfl, List.length_eq_zero_iff.1 h0⟩
  · exact .inr ⟨g, cap, cur, rfl, h2, h3, h4, h5, by rw [h6]; exact Nat.le_refl _, h7⟩
theorem CutR.addr {base n cap : Nat} {w : World} {s : Option Addr} {l : List Re} (h : CutR base w (.slice s n cap) l) (h0 : 0 < n) : ∃ g, s = some ⟨g, 0, none⟩ ∧ base ≤ g ∧ g < w.heap.size := by
  rcases h with ⟨e, _⟩ | ⟨g, cap', cur, e, h2, h3, _⟩
  · injection e with e1 e2 _
    omega
  · injection e with e1 e2 _
    exact ⟨g, e1, h2, lt_of_block h3⟩
theorem CutR.free {base n cap g : Nat} {w : World} {l : List Re} (h : CutR base w (.slice (some ⟨g, 0, none⟩) n cap) l) (o : Nat) : w.frozen? ⟨g, o, none⟩ = false := by
  rcases h with ⟨e, _⟩ | ⟨g', cap', cur, e, h2, h3, _⟩
  · cases e
  · injection e with e1 e2 _
    injection e1 with e1
    injection e1 with e1 _ _
    subst e1
    simp [World.frozen?, h3]
theorem CutR.rmem {base n cap g k : Nat} {w : World} {l : List Re} {q : Re} (h : CutR base w (.slice (some ⟨g, 0, none⟩) n cap) l) (hs : l[k]? = some q) : RMem w g (k * 4) q := by
  obtain ⟨b, o, cap', e, _, _, _, hx⟩ := row_re (h.row (Nat.le_refl _)) (by have := (List.getElem?_eq_some_iff.1 hs).1; omega)
  injection e with e _ _
  injection e with e
  injection e with e1 e2 _
  subst e1
  subst e2
  have := hx k q hs
  rwa [Nat.zero_add] at this
theorem CutR.put {base n cap g k i : Nat} {w : World} {l : List Re} {q q' : Re} {u : Value} (h : CutR base w (.slice (some ⟨g, 0, none⟩) n cap) l) (hs : l[k]? = some q) (hi : i < 4) (he : q.enc.set i u = q'.enc) :
    CutR base (w.setCell ⟨g, k * 4 + i, none⟩ u) (.slice (some ⟨g, 0, none⟩) n cap) (l.set k q') := by
  have hk := (List.getElem?_eq_some_iff.1 hs).1
  rcases h with ⟨e, _⟩ | ⟨g', cap', cur, e, h2, h3, h4, h5, h6, h7⟩
  · cases e
  · injection e with e1 e2 e3
    injection e1 with e1
    injection e1 with e1 _ _
    subst e1
    subst e2
    subst e3
    refine .inr ⟨g, cap, _, by rw [List.length_set], h2, heap_setCell_same _ _ _ _ _ _ h3, by rw [List.length_set]; exact h4, h5, by simpa using h6, ?_⟩
    rw [List.length_set, ← flat_set Re.enc_len i u q q' hi he l k hs, ← h7, Array.toList_setIfInBounds, List.take_set]
theorem mv_at {M : List Re} {k : Nat} {q : Re} {f : Re → Re} (h : M[k]? = some q) : ((M.take k).map f ++ M.drop k)[k]? = some q := by
  have hk := (List.getElem?_eq_some_iff.1 h).1
  rw [List.getElem?_append_right (by simp; omega)]
  simp
  rw [Nat.min_eq_left (by omega), Nat.sub_self, Nat.add_zero]
  exact h
theorem mv_set {M : List Re} {k : Nat} {q : Re} {f : Re → Re} (h : M[k]? = some q) : ((M.take k).map f ++ M.drop k).set k (f q) = (M.take (k + 1)).map f ++ M.drop (k + 1) := by
  have hk := (List.getElem?_eq_some_iff.1 h).1
  rw [List.set_append_right _ _ (by simp; omega), drop_get h]
  have e : k - ((M.take k).map f).length = 0 := by simp; omega
  rw [e, List.set_cons_zero, List.take_add_one, h]
  simp
theorem MayL.all {l : List Re} (h : MayL l) (k : Nat) (q : Re) (hq : l[k]? = some q) : mayR q = true := h q (List.mem_of_getElem? hq)
set_option maxHeartbeats 4000000 in
set_option maxRecDepth 100000 in
theorem rmoved_any (a : List Re) (va : Value) (px py : Int) (w : World) (ha : Row w.heap.size 4 Re.enc w va a) (wa : WfL a) (h1 : I64 px) (h2 : I64 py) :
    Calls Try.prog 29 #[va, .agg #[.int .i64 px, .int .i64 py]] w (FormPost (movE px py a) (movL px py a) w) := by
  obtain ⟨s1, c1, rfl, hmax⟩ := ha.shape
  obtain ⟨wb, hwb⟩ : ∃ wb, wb = w.alloc (.cells #[.int .i64 px, .int .i64 py] 34) := ⟨_, rfl⟩
  have hb0 : Below w.heap.size w wb := by rw [hwb]; exact (Below.refl _ _).alloc (Nat.le_refl _) _
  have z0 : w.heap.size < wb.heap.size := by rw [hwb]; simp
  have g0 : wb.cell? ⟨w.heap.size, 0, none⟩ = some (.int .i64 px) := by rw [hwb]; exact World.cell?_alloc_at _ _ _ _ rfl
  have g1 : wb.cell? ⟨w.heap.size, 1, none⟩ = some (.int .i64 py) := by rw [hwb]; exact World.cell?_alloc_at _ _ _ _ rfl
  have AS := asked1 a s1 c1 wb ((ha.below hb0).mono hb0.size) wa
  have hal : Below wb.heap.size wb (wb.alloc (.cells #[.slice s1 a.length c1] 22)) := (Below.refl _ _).alloc (Nat.le_refl _) _
  obtain ⟨E, hE⟩ : ∃ E, movE px py a = E := ⟨_, rfl⟩
  obtain ⟨L, hL⟩ : ∃ L, movL px py a = L := ⟨_, rfl⟩
  have hL0 : E ≠ 0 → L = [] := fun h => by rw [← hL]; unfold movL; rw [hE, if_neg h]
  rw [hE, hL]
  unfold movL at hL
  rw [hE] at hL
  unfold movE at hE
  have hwa : ∀ W, Below wb.heap.size wb W → Below w.heap.size w W := fun W h => hb0.trans (h.mono hb0.size)
  by_cases h0 : chkR a = 0
  · rw [if_pos h0] at hE
    rw [h0] at AS
    obtain ⟨ma, la⟩ := chkR_may h0
    have FX := fun w => far_any px w h1
    have FY := fun w => far_any py w h2
    by_cases hf : (farR px || farR py) = true
    · rw [if_pos hf] at hE
      subst hE
      obtain rfl := hL0 (by decide)
      cases hx : farR px
      · rw [hx] at hf FX
        have hy : farR py = true := by simpa using hf
        rw [hy] at FY
        replace AS := Lib.hid AS
        replace FX := Lib.hid FX
        replace FY := Lib.hid FY
        replace hwa := Lib.hid hwa
        clear ha hL hL0 hf hx h0
        go_enter Try.func29, Try.ntmps29
        go_upto_region 1 with fail
        rw [← hwb]
        clear hwb
        go_wp2_with (first
          | (go_at_call 43; (with_reducible refine (AS.out).mono ?_); rintro e w1 ⟨rfl, hb1⟩; have hb01 := hal.trans (hb1.mono hal.size); obtain ⟨hc01, hf01⟩ := bcell hb01; have z1 := hb01.size; have z01 : w.heap.size < w1.heap.size := (by omega))
          | (go_at_call 59; (with_reducible refine (FX.out _).mono ?_); rintro e w3 ⟨rfl, hb3⟩; obtain ⟨hc3, hf3⟩ := bcell hb3; have hb03 := hb01.trans (hb3.mono hb01.size); have z3 := hb03.size; have z03 : w.heap.size < w3.heap.size := (by omega))
          | (go_at_call 59; (with_reducible refine (FY.out _).mono ?_); rintro e w4 ⟨rfl, hb4⟩; have hb03 := hb03.trans (hb4.mono hb03.size))
          | go_in)
        go_ret2
        exact ⟨hwa.out _ hb03, _, rfl, CutR.nil _ _⟩
      · rw [hx] at FX
        replace AS := Lib.hid AS
        replace FX := Lib.hid FX
        replace FY := Lib.hid FY
        replace hwa := Lib.hid hwa
        clear ha hL hL0 hf hx h0
        go_enter Try.func29, Try.ntmps29
        go_upto_region 1 with fail
        rw [← hwb]
        clear hwb
        go_wp2_with (first
          | (go_at_call 43; (with_reducible refine (AS.out).mono ?_); rintro e w1 ⟨rfl, hb1⟩; have hb01 := hal.trans (hb1.mono hal.size); obtain ⟨hc01, hf01⟩ := bcell hb01; have z1 := hb01.size; have z01 : w.heap.size < w1.heap.size := (by omega))
          | (go_at_call 59; (with_reducible refine (FX.out _).mono ?_); rintro e w3 ⟨rfl, hb3⟩; obtain ⟨hc3, hf3⟩ := bcell hb3; have hb03 := hb01.trans (hb3.mono hb01.size); have z3 := hb03.size; have z03 : w.heap.size < w3.heap.size := (by omega))
          | (go_at_call 59; (with_reducible refine (FY.out _).mono ?_); rintro e w4 ⟨rfl, hb4⟩; have hb03 := hb03.trans (hb4.mono hb03.size))
          | go_in)
        go_ret2
        exact ⟨hwa.out _ hb03, _, rfl, CutR.nil _ _⟩
    · rw [if_neg hf] at hE
      have hx : farR px = false := by cases h : farR px; rfl; rw [h] at hf; exact absurd rfl hf
      have hy : farR py = false := by rw [hx] at hf; cases h : farR py; rfl; rw [h] at hf; exact absurd rfl hf
      have bx : -65536 ≤ px ∧ px ≤ 65536 := by unfold farR at hx; simp only [Bool.or_eq_false_iff, decide_eq_false_iff_not] at hx; omega
      have bY : -65536 ≤ py ∧ py ≤ 65536 := by unfold farR at hy; simp only [Bool.or_eq_false_iff, decide_eq_false_iff_not] at hy; omega
      obtain ⟨bx0, bx1⟩ := bx
      obtain ⟨by0, by1⟩ := bY
      rw [hx] at FX
      rw [hy] at FY
      have FM := fun w1 (h : Below wb.heap.size wb w1) => form_any a [] _ (.slice none 0 0) 1 _ w1 ((ha.below (hwa _ h)).mono (hwa _ h).size) (nilRow _ _) ma mayL_nil (by omega) (by simp) eg_either hw_either
      by_cases hm : madeE a [] 1 = 0
      · rw [if_pos hm] at hE
        obtain ⟨M, hM⟩ : ∃ M, madeL a [] 1 = M := ⟨_, rfl⟩
        have mM : MayL M := by
          rw [← hM]
          unfold madeL
          split
          · exact mayL_nil
          · exact form_may ma mayL_nil 1
        have lM : M.length ≤ 1024 := by rw [← hM]; unfold madeL; split <;> simp_all <;> omega
        rw [hm, hM] at FM
        rw [hM] at hE hL
        have out5 : (M.all fun q => mayR (mvQ px py q)) = false → E = 5 ∧ L = [] := fun h => by
          have e5 : E = 5 := by rw [← hE, h]; rfl
          exact ⟨e5, hL0 (by omega)⟩
        have out0 : (M.all fun q => mayR (mvQ px py q)) = true → E = 0 ∧ L = M.map (mvQ px py) := fun h => by
          have e0 : E = 0 := by rw [← hE, h]; rfl
          refine ⟨e0, ?_⟩
          rw [← hL, if_pos e0]
        replace AS := Lib.hid AS
        replace FX := Lib.hid FX
        replace FY := Lib.hid FY
        replace FM := Lib.hid FM
        replace out5 := Lib.hid out5
        replace out0 := Lib.hid out0
        replace mM := Lib.hid mM
        obtain ⟨n, hn⟩ : ∃ n, M.length = n := ⟨_, rfl⟩
        rw [hn] at lM
        replace hwa := Lib.hid hwa
        clear ha hE hL hL0 hM hm hx hy hf h0
        go_enter Try.func29, Try.ntmps29
        go_upto_region 1 with fail
        rw [← hwb]
        clear hwb
        go_wp2_with (first
          | (go_at_call 43; (with_reducible refine (AS.out).mono ?_); rintro e w1 ⟨rfl, hb1⟩; have hb01 := hal.trans (hb1.mono hal.size); obtain ⟨hc01, hf01⟩ := bcell hb01; have z1 := hb01.size; have z01 : w.heap.size < w1.heap.size := (by omega))
          | (go_at_call 59; (with_reducible refine (FX.out _).mono ?_); rintro e w3 ⟨rfl, hb3⟩; obtain ⟨hc3, hf3⟩ := bcell hb3; have hb03 := hb01.trans (hb3.mono hb01.size); have z3 := hb03.size; have z03 : w.heap.size < w3.heap.size := (by omega))
          | (go_at_call 59; (with_reducible refine (FY.out _).mono ?_); rintro e w4 ⟨rfl, hb4⟩; have hb04 := hb03.trans (hb4.mono hb03.size))
          | (go_at_call 52; (with_reducible refine (FM.out _ hb04).mono ?_); rintro e w2 ⟨hb2, v, rfl, hcut⟩; have hb02 := hb04.trans (hb2.mono hb04.size); have hcut := hcut.less hb04.size; obtain ⟨s, c, rfl⟩ := hcut.shape; rw [hn] at hcut; rw [hn]; have hcut := Lib.hid hcut)
          | go_in)
        replace hn := Lib.hid hn
        go_loopw [35] (fun iv wr => ∃ k : Nat, k ≤ n ∧ iv = .int .i64 k ∧ CutR wb.heap.size wr (.slice s n c) ((M.take k).map (mvQ px py) ++ M.drop k) ∧ Hid ((M.take k).all (fun q => mayR (mvQ px py q)) = true) ∧ Below wb.heap.size wb wr) (fun iv _ => n - (intOf iv).toNat)
        case atStart => exact ⟨0, Nat.zero_le _, by first | rfl | simp, by simpa using hcut.out, Lib.hid (by simp), hb02⟩
        case round =>
          obtain ⟨k, hk, rfl, hown, hall, hbr⟩ := hrel
          have zr := hbr.size
          have hwr : Below w.heap.size w wr := hb0.trans (hbr.mono hb0.size)
          have p0 := (hbr.cell (p := ⟨w.heap.size, 0, none⟩) z0).trans g0
          have p1 := (hbr.cell (p := ⟨w.heap.size, 1, none⟩) z0).trans g1
          have z0r : w.heap.size < wr.heap.size := by omega
          by_cases hkn : k < n
          · obtain ⟨q, hq⟩ := get_at hn.out hkn
            obtain ⟨g, rfl, hgB, hgl⟩ := hown.addr (by omega)
            have hat := mv_at (f := mvQ px py) hq
            obtain ⟨r0, r1, r2, r3⟩ := hown.rmem hat
            have hfz := hown.free
            have hqm := mM.out q (List.mem_of_getElem? hq)
            have hqb := may_bd hqm
            have hset := mv_set (f := mvQ px py) hq
            have hkk : (k : Int) < n := by omega
            obtain ⟨x, y, wd, ht⟩ := q
            obtain ⟨x0, x1, y0, y1, a0, a1, b0, b1⟩ := hqb
            simp only at r0 r1 r2 r3 x0 x1 y0 y1 a0 a1 b0 b1
            have hmv : mvQ px py ⟨x, y, wd, ht⟩ = ⟨x + px, y + py, wd, ht⟩ := rfl
            have hwf : (⟨x + px, y + py, wd, ht⟩ : Re).Wf := by unfold Re.Wf I64; simp only; omega
            have CK := fun w => gcheck_any ⟨x + px, y + py, wd, ht⟩ w hwf
            have hallk : (M.take (k + 1)).all (fun q => mayR (mvQ px py q)) = mayR ⟨x + px, y + py, wd, ht⟩ := by
              rw [List.take_add_one, hq, List.all_append, hall.out]
              simp [hmv]
            have hall5 : mayR ⟨x + px, y + py, wd, ht⟩ = false → E = 5 ∧ L = [] := fun h => out5.out (by
              rw [Bool.eq_false_iff]
              intro h2
              have := List.all_eq_true.1 h2 _ (List.mem_of_getElem? hq)
              rw [hmv, h] at this
              cases this)
            rw [hmv] at hset
            replace hset := Lib.hid hset
            replace hat := Lib.hid hat
            replace hown := Lib.hid hown
            clear hq hqm hwf hmv
            go_wp2
            refine wp_region_steady_then (Held wr 0 []) 12 (by kernel_rfl) (by kernel_rfl) (by decide) (by kernel_rfl) (by kernel_rfl) ⟨(by repeat (first | exact Below.refl _ _ | assumption | refine Below.drew ?_ | refine Below.alloc ?_ (by (try simp) <;> omega) _ | refine Below.setCell ?_ (by (try simp) <;> omega) _ | (refine Below.trans ?_ (Below.mono (by assumption) (by (try simp) <;> omega))))), (by (try simp) <;> omega), (by first | exact trivial | (simp only [Cells]; go_simp))⟩ ?_
            simp only [List.take_succ_cons, List.take_zero]
            repeat (first | (refine' wpSteady_do _ _ _; rotate_left; (focus rfl); (focus (intro w1 hS R hR; have hc := hS.cells; simp only [Cells] at hc; obtain ⟨hco, hfo⟩ := bcell hS.old; go_simp; (try go_bits); first | exact hR _ hS | fail)); simp only [Act.put, List.setIfInBounds_toArray, List.set_cons_zero, List.set_cons_succ]) | (refine wpSteady_pass ?_ ?_; (focus rfl); simp only [Act.put, List.setIfInBounds_toArray, List.set_cons_zero, List.set_cons_succ]))
            refine wpSteady_nil (fun uA hSA => ?_)
            have hcA := hSA.cells; have hbA := hSA.old; have hzA := hSA.size; clear hSA; simp only [Cells] at hcA; obtain ⟨hcoA, hfoA⟩ := bcell hbA
            simp only [List.drop_succ_cons, List.drop_zero, List.drop_nil]
            have yA : g < uA.heap.size := by omega
            have hfzA : ∀ o, uA.frozen? ⟨g, o, none⟩ = false := fun o => (hfoA g o hgl).trans (hfz o)
            have c1 := Lib.hid ((hown.out.below hbA (Nat.le_refl _)).put (i := 0) (u := .int .i64 (x + px)) (q' := ⟨x + px, y, wd, ht⟩) hat.out (by omega) rfl)
            have b1' : Below wb.heap.size wb (uA.setCell ⟨g, k * 4, none⟩ (.int .i64 (x + px))) := (hbr.trans (hbA.mono zr)).setCell (by simpa using hgB) _
            have hat1 : Hid ((((M.take k).map (mvQ px py) ++ M.drop k).set k ⟨x + px, y, wd, ht⟩)[k]? = some ⟨x + px, y, wd, ht⟩) := Lib.hid (by rw [List.getElem?_set_self (List.getElem?_eq_some_iff.1 hat.out).1])
            go_upto_region 13 with fail
            have c1' : CutR wb.heap.size (uA.setCell ⟨g, k * 4, none⟩ (.int .i64 (x + px))) (.slice (some ⟨g, 0, none⟩) n c) (((M.take k).map (mvQ px py) ++ M.drop k).set k ⟨x + px, y, wd, ht⟩) := c1.out
            clear c1
            generalize uA.setCell ⟨g, k * 4, none⟩ (.int .i64 (x + px)) = w8 at c1' b1' ⊢
            obtain ⟨m0, m1, m2, m3⟩ := c1'.rmem hat1.out
            simp only at m0 m1 m2 m3
            have hfz8 := c1'.free
            have z8 := b1'.size
            obtain ⟨g', eg, hgB8, hgl8⟩ := c1'.addr (by omega)
            injection eg with eg
            injection eg with eg _ _
            subst eg
            have p0' := (b1'.cell (p := ⟨w.heap.size, 0, none⟩) z0).trans g0
            have p1' := (b1'.cell (p := ⟨w.heap.size, 1, none⟩) z0).trans g1
            have z08 : w.heap.size < w8.heap.size := by omega
            replace c1' := Lib.hid c1'
            clear r0 r1 r2 r3 p0 p1 hcA hcoA hfoA hbA hzA hfzA yA hfz
            refine wp_region_steady_then (Held w8 0 []) 12 (by kernel_rfl) (by kernel_rfl) (by decide) (by kernel_rfl) (by kernel_rfl) ⟨(by repeat (first | exact Below.refl _ _ | assumption | refine Below.drew ?_ | refine Below.alloc ?_ (by (try simp) <;> omega) _ | refine Below.setCell ?_ (by (try simp) <;> omega) _ | (refine Below.trans ?_ (Below.mono (by assumption) (by (try simp) <;> omega))))), (by (try simp) <;> omega), (by first | exact trivial | (simp only [Cells]; go_simp))⟩ ?_
            simp only [List.take_succ_cons, List.take_zero]
            repeat (first | (refine' wpSteady_do _ _ _; rotate_left; (focus rfl); (focus (intro w1 hS R hR; have hc := hS.cells; simp only [Cells] at hc; obtain ⟨hco, hfo⟩ := bcell hS.old; go_simp; (try go_bits); first | exact hR _ hS | fail)); simp only [Act.put, List.setIfInBounds_toArray, List.set_cons_zero, List.set_cons_succ]) | (refine wpSteady_pass ?_ ?_; (focus rfl); simp only [Act.put, List.setIfInBounds_toArray, List.set_cons_zero, List.set_cons_succ]))
            refine wpSteady_nil (fun uB hSB => ?_)
            have hcB := hSB.cells; have hbB := hSB.old; have hzB := hSB.size; clear hSB; simp only [Cells] at hcB; obtain ⟨hcoB, hfoB⟩ := bcell hbB
            simp only [List.drop_succ_cons, List.drop_zero, List.drop_nil]
            have yB : g < uB.heap.size := by omega
            have hfzB : ∀ o, uB.frozen? ⟨g, o, none⟩ = false := fun o => (hfoB g o hgl8).trans (hfz8 o)
            have c2 : CutR wb.heap.size (uB.setCell ⟨g, k * 4 + 1, none⟩ (.int .i64 (y + py))) (.slice (some ⟨g, 0, none⟩) n c) ((((M.take k).map (mvQ px py) ++ M.drop k).set k ⟨x + px, y, wd, ht⟩).set k ⟨x + px, y + py, wd, ht⟩) := (c1'.out.below hbB (Nat.le_refl _)).put (i := 1) (u := .int .i64 (y + py)) (q' := ⟨x + px, y + py, wd, ht⟩) hat1.out (by omega) rfl
            rw [List.set_set, hset.out] at c2
            have b2 : Below wb.heap.size wb (uB.setCell ⟨g, k * 4 + 1, none⟩ (.int .i64 (y + py))) := (b1'.trans (hbB.mono z8)).setCell (by simpa using hgB) _
            have hat2 : ((M.take (k + 1)).map (mvQ px py) ++ M.drop (k + 1))[k]? = some ⟨x + px, y + py, wd, ht⟩ := by
              rw [← hset.out, List.getElem?_set_self (List.getElem?_eq_some_iff.1 hat.out).1]
            replace c2 := Lib.hid c2
            replace hat2 := Lib.hid hat2
            go_upto_region 14 with fail
            have c2' := c2.out
            clear c2
            generalize uB.setCell ⟨g, k * 4 + 1, none⟩ (.int .i64 (y + py)) = w9 at c2' b2 ⊢
            obtain ⟨n0, n1, n2, n3⟩ := c2'.rmem hat2.out
            simp only at n0 n1 n2 n3
            obtain ⟨g', eg, hgB9, hgl9⟩ := c2'.addr (by omega)
            injection eg with eg
            injection eg with eg _ _
            subst eg
            have z9 := b2.size
            replace c2' := Lib.hid c2'
            clear m0 m1 m2 m3 p0' p1' hcB hcoB hfoB hbB hzB hfzB yB hfz8 b1' c1' hat1 hat
            cases hm : mayR ⟨x + px, y + py, wd, ht⟩
            · obtain ⟨rfl, rfl⟩ := hall5 hm
              rw [hm] at CK
              replace CK := Lib.hid CK
              clear hm hall5 hallk
              go_wp2_with (first | (go_at_call 60; (with_reducible refine (CK.out _).mono ?_); rintro e wz ⟨rfl, hbz⟩; obtain ⟨hcz, hfz⟩ := bcell hbz) | go_in)
              go_ret2
              exact ⟨(hb0.trans (b2.mono hb0.size)).trans (hbz.mono (by have := hb0.size; omega)), _, rfl, CutR.nil _ _⟩
            · rw [hm] at CK hallk
              replace CK := Lib.hid CK
              replace hallk := Lib.hid hallk
              clear hm hall5
              go_wp2_with (first | (go_at_call 60; (with_reducible refine (CK.out _).mono ?_); rintro e wz ⟨rfl, hbz⟩; obtain ⟨hcz, hfz⟩ := bcell hbz) | go_in)
              go_roundw
              case rel => exact ⟨k + 1, by omega, by go_num, c2'.out.below hbz (Nat.le_refl _), hallk, b2.trans (hbz.mono z9)⟩
              case measure => simp [intOf]; omega
          · obtain rfl : k = n := by omega
            have e1 : M.take k = M := List.take_of_length_le (by have := hn.out; omega)
            have e2 : M.drop k = [] := List.drop_eq_nil_of_le (by have := hn.out; omega)
            have hall := hall.out
            rw [e1] at hall hown
            rw [e2, List.append_nil] at hown
            obtain ⟨rfl, rfl⟩ := out0.out hall
            replace hown := Lib.hid hown
            clear e1 e2 hall
            go_wp2
            go_ret2
            exact ⟨hwr, _, rfl, hown.out.less hb0.size⟩
      · rw [if_neg hm] at hE
        have hEn := hm
        rw [hE] at hEn FM
        obtain rfl := hL0 hEn
        have h0' : (E == 0) = false := by simp [hEn]
        have h0n : (E != 0) = true := by simp [hEn]
        generalize madeL a [] 1 = M at FM
        obtain ⟨n, hn⟩ : ∃ n, M.length = n := ⟨_, rfl⟩
        replace AS := Lib.hid AS
        replace FX := Lib.hid FX
        replace FY := Lib.hid FY
        replace FM := Lib.hid FM
        replace hwa := Lib.hid hwa
        clear ha hE hL hL0 hm hx hy hf h0 hEn
        go_enter Try.func29, Try.ntmps29
        go_upto_region 1 with fail
        rw [← hwb]
        clear hwb
        go_wp2_with (first
          | (go_at_call 43; (with_reducible refine (AS.out).mono ?_); rintro e w1 ⟨rfl, hb1⟩; have hb01 := hal.trans (hb1.mono hal.size); obtain ⟨hc01, hf01⟩ := bcell hb01; have z1 := hb01.size; have z01 : w.heap.size < w1.heap.size := (by omega))
          | (go_at_call 59; (with_reducible refine (FX.out _).mono ?_); rintro e w3 ⟨rfl, hb3⟩; obtain ⟨hc3, hf3⟩ := bcell hb3; have hb03 := hb01.trans (hb3.mono hb01.size); have z3 := hb03.size; have z03 : w.heap.size < w3.heap.size := (by omega))
          | (go_at_call 59; (with_reducible refine (FY.out _).mono ?_); rintro e w4 ⟨rfl, hb4⟩; have hb04 := hb03.trans (hb4.mono hb03.size))
          | (go_at_call 52; (with_reducible refine (FM.out _ hb04).mono ?_); rintro e w2 ⟨hb2, v, rfl, hcut⟩; have hb02 := hb04.trans (hb2.mono hb04.size); have hcut := hcut.less hb04.size; obtain ⟨s, c, rfl⟩ := hcut.shape; rw [hn] at hcut; rw [hn]; have hcut := Lib.hid hcut)
          | go_in)
        go_ret2
        exact ⟨hwa.out _ hb02, _, rfl, CutR.nil _ _⟩
  · rw [if_neg h0] at hE
    rw [hE] at AS h0
    obtain rfl := hL0 h0
    have h0' : (E == 0) = false := by simp [h0]
    have h0n : (E != 0) = true := by simp [h0]
    replace AS := Lib.hid AS
    replace hwa := Lib.hid hwa
    clear ha hE hL hL0 h0
    go_enter Try.func29, Try.ntmps29
    go_upto_region 1 with fail
    rw [← hwb]
    clear hwb
    go_wp2_with (first
      | (go_at_call 43; (with_reducible refine (AS.out).mono ?_); rintro e w1 ⟨rfl, hb1⟩; have hb01 := hal.trans (hb1.mono hal.size); obtain ⟨hc01, hf01⟩ := bcell hb01; have z1 := hb01.size; have z01 : w.heap.size < w1.heap.size := (by omega))
      | go_in)
    go_ret2
    exact ⟨hwa.out _ hb01, _, rfl, CutR.nil _ _⟩
set_option maxHeartbeats 4000000 in
set_option maxRecDepth 100000 in
theorem kmoved_any (a : List Re) (va : Value) (px py : Int) (w : World) (ha : Row w.heap.size 4 Re.enc w va a) (wa : WfL a) (h1 : I64 px) (h2 : I64 py) :
    Calls Try.prog 32 #[va, .agg #[.int .i64 px, .int .i64 py]] w (FormPost (movE px py a) (movL px py a) w) := by
  obtain ⟨wb, hwb⟩ : ∃ wb, wb = w.alloc (.cells #[.int .i64 px, .int .i64 py] 34) := ⟨_, rfl⟩
  have hb0 : Below w.heap.size w wb := by rw [hwb]; exact (Below.refl _ _).alloc (Nat.le_refl _) _
  have z0 : w.heap.size < wb.heap.size := by rw [hwb]; simp
  have g0 : wb.cell? ⟨w.heap.size, 0, none⟩ = some (.int .i64 px) := by rw [hwb]; exact World.cell?_alloc_at _ _ _ _ rfl
  have g1 : wb.cell? ⟨w.heap.size, 1, none⟩ = some (.int .i64 py) := by rw [hwb]; exact World.cell?_alloc_at _ _ _ _ rfl
  have AS := kasked_any a va wb ((ha.below hb0).mono hb0.size) wa
  obtain ⟨E, hE⟩ : ∃ E, movE px py a = E := ⟨_, rfl⟩
  obtain ⟨L, hL⟩ : ∃ L, movL px py a = L := ⟨_, rfl⟩
  have hL0 : E ≠ 0 → L = [] := fun h => by rw [← hL]; unfold movL; rw [hE, if_neg h]
  rw [hE, hL]
  unfold movL at hL
  rw [hE] at hL
  unfold movE at hE
  have hwa : ∀ W, Below wb.heap.size wb W → Below w.heap.size w W := fun W h => hb0.trans (h.mono hb0.size)
  by_cases h0 : chkR a = 0
  · rw [if_pos h0] at hE
    rw [h0] at AS
    obtain ⟨ma, la⟩ := chkR_may h0
    obtain ⟨hx1, hx2⟩ := h1
    obtain ⟨hy1, hy2⟩ := h2
    by_cases hf : (farR px || farR py) = true
    · rw [if_pos hf] at hE
      subst hE
      obtain rfl := hL0 (by decide)
      unfold farR at hf
      simp only [Bool.or_eq_true, decide_eq_true_eq] at hf
      by_cases q1 : 65536 < px
      · replace AS := Lib.hid AS
        replace hwa := Lib.hid hwa
        clear ha hL hL0 hf h0
        go_enter Try.func32, Try.ntmps32
        go_upto_region 1 with fail
        rw [← hwb]
        clear hwb
        go_wp2_with (first
          | (go_at_call 62; (with_reducible refine (AS.out).mono ?_); rintro e w1 ⟨rfl, hb1⟩; have hb01 := hb1; obtain ⟨hc01, hf01⟩ := bcell hb01; have z1 := hb01.size; have z01 : w.heap.size < w1.heap.size := (by omega))
          | go_in)
        go_ret2
        exact ⟨hwa.out _ hb01, _, rfl, CutR.nil _ _⟩
      by_cases q2 : px < -65536
      · replace AS := Lib.hid AS
        replace hwa := Lib.hid hwa
        clear ha hL hL0 hf h0
        go_enter Try.func32, Try.ntmps32
        go_upto_region 1 with fail
        rw [← hwb]
        clear hwb
        go_wp2_with (first
          | (go_at_call 62; (with_reducible refine (AS.out).mono ?_); rintro e w1 ⟨rfl, hb1⟩; have hb01 := hb1; obtain ⟨hc01, hf01⟩ := bcell hb01; have z1 := hb01.size; have z01 : w.heap.size < w1.heap.size := (by omega))
          | go_in)
        go_ret2
        exact ⟨hwa.out _ hb01, _, rfl, CutR.nil _ _⟩
      by_cases q3 : 65536 < py
      · replace AS := Lib.hid AS
        replace hwa := Lib.hid hwa
        clear ha hL hL0 hf h0
        go_enter Try.func32, Try.ntmps32
        go_upto_region 1 with fail
        rw [← hwb]
        clear hwb
        go_wp2_with (first
          | (go_at_call 62; (with_reducible refine (AS.out).mono ?_); rintro e w1 ⟨rfl, hb1⟩; have hb01 := hb1; obtain ⟨hc01, hf01⟩ := bcell hb01; have z1 := hb01.size; have z01 : w.heap.size < w1.heap.size := (by omega))
          | go_in)
        go_ret2
        exact ⟨hwa.out _ hb01, _, rfl, CutR.nil _ _⟩
      have q4 : py < -65536 := by omega
      replace AS := Lib.hid AS
      replace hwa := Lib.hid hwa
      clear ha hL hL0 hf h0
      go_enter Try.func32, Try.ntmps32
      go_upto_region 1 with fail
      rw [← hwb]
      clear hwb
      go_wp2_with (first
        | (go_at_call 62; (with_reducible refine (AS.out).mono ?_); rintro e w1 ⟨rfl, hb1⟩; have hb01 := hb1; obtain ⟨hc01, hf01⟩ := bcell hb01; have z1 := hb01.size; have z01 : w.heap.size < w1.heap.size := (by omega))
        | go_in)
      go_ret2
      exact ⟨hwa.out _ hb01, _, rfl, CutR.nil _ _⟩
    · rw [if_neg hf] at hE
      unfold farR at hf
      simp only [Bool.or_eq_true, decide_eq_true_eq] at hf
      have bx0 : -65536 ≤ px := by omega
      have bx1 : px ≤ 65536 := by omega
      have by0 : -65536 ≤ py := by omega
      have by1 : py ≤ 65536 := by omega
      have q1 : ¬ 65536 < px := by omega
      have q2 : ¬ px < -65536 := by omega
      have q3 : ¬ 65536 < py := by omega
      have q4 : ¬ py < -65536 := by omega
      have MD := fun w1 (h : Below wb.heap.size wb w1) => kmade_any a [] va (.slice none 0 0) 1 w1 ((ha.below (hwa _ h)).mono (hwa _ h).size) (nilRow _ _) ma mayL_nil (by omega) (by simp) (.inl rfl)
      by_cases hm : madeE a [] 1 = 0
      · rw [if_pos hm] at hE
        obtain ⟨M, hM⟩ : ∃ M, madeL a [] 1 = M := ⟨_, rfl⟩
        have mM : MayL M := by
          rw [← hM]
          unfold madeL
          split
          · exact mayL_nil
          · exact form_may ma mayL_nil 1
        have lM : M.length ≤ 1024 := by rw [← hM]; unfold madeL; split <;> simp_all <;> omega
        rw [hm, hM] at MD
        rw [hM] at hE hL
        have out5 : (M.all fun q => mayR (mvQ px py q)) = false → E = 5 ∧ L = [] := fun h => by
          have e5 : E = 5 := by rw [← hE, h]; rfl
          exact ⟨e5, hL0 (by omega)⟩
        have out0 : (M.all fun q => mayR (mvQ px py q)) = true → E = 0 ∧ L = M.map (mvQ px py) := fun h => by
          have e0 : E = 0 := by rw [← hE, h]; rfl
          refine ⟨e0, ?_⟩
          rw [← hL, if_pos e0]
        replace AS := Lib.hid AS
        replace MD := Lib.hid MD
        replace out5 := Lib.hid out5
        replace out0 := Lib.hid out0
        replace mM := Lib.hid mM
        obtain ⟨n, hn⟩ : ∃ n, M.length = n := ⟨_, rfl⟩
        rw [hn] at lM
        replace hwa := Lib.hid hwa
        clear ha hE hL hL0 hM hm hf h0
        go_enter Try.func32, Try.ntmps32
        go_upto_region 1 with fail
        rw [← hwb]
        clear hwb
        go_wp2_with (first
          | (go_at_call 62; (with_reducible refine (AS.out).mono ?_); rintro e w1 ⟨rfl, hb1⟩; have hb01 := hb1; obtain ⟨hc01, hf01⟩ := bcell hb01; have z1 := hb01.size; have z01 : w.heap.size < w1.heap.size := (by omega))
          | (go_at_call 63; (with_reducible refine (MD.out _ hb01).mono ?_); rintro e w2 ⟨hb2, v, rfl, hcut⟩; have hb02 := hb01.trans (hb2.mono hb01.size); have hcut := (CutR.own hcut).less hb01.size; obtain ⟨s, c, rfl⟩ := hcut.shape; rw [hn] at hcut; rw [hn]; have hcut := Lib.hid hcut)
          | go_in)
        replace hn := Lib.hid hn
        go_loopw [8] (fun iv wr => ∃ k : Nat, k ≤ n ∧ iv = .int .i64 k ∧ CutR wb.heap.size wr (.slice s n c) ((M.take k).map (mvQ px py) ++ M.drop k) ∧ Hid ((M.take k).all (fun q => mayR (mvQ px py q)) = true) ∧ Below wb.heap.size wb wr) (fun iv _ => n - (intOf iv).toNat)
        case atStart => exact ⟨0, Nat.zero_le _, by first | rfl | simp, by simpa using hcut.out, Lib.hid (by simp), hb02⟩
        case round =>
          obtain ⟨k, hk, rfl, hown, hall, hbr⟩ := hrel
          have zr := hbr.size
          have hwr : Below w.heap.size w wr := hb0.trans (hbr.mono hb0.size)
          have p0 := (hbr.cell (p := ⟨w.heap.size, 0, none⟩) z0).trans g0
          have p1 := (hbr.cell (p := ⟨w.heap.size, 1, none⟩) z0).trans g1
          have z0r : w.heap.size < wr.heap.size := by omega
          by_cases hkn : k < n
          · obtain ⟨q, hq⟩ := get_at hn.out hkn
            obtain ⟨g, rfl, hgB, hgl⟩ := hown.addr (by omega)
            have hat := mv_at (f := mvQ px py) hq
            obtain ⟨r0, r1, r2, r3⟩ := hown.rmem hat
            have hfz := hown.free
            have hqm := mM.out q (List.mem_of_getElem? hq)
            have hqb := may_bd hqm
            have hset := mv_set (f := mvQ px py) hq
            have hkk : (k : Int) < n := by omega
            obtain ⟨x, y, wd, ht⟩ := q
            obtain ⟨x0, x1, y0, y1, a0, a1, b0, b1⟩ := hqb
            simp only at r0 r1 r2 r3 x0 x1 y0 y1 a0 a1 b0 b1
            have hmv : mvQ px py ⟨x, y, wd, ht⟩ = ⟨x + px, y + py, wd, ht⟩ := rfl
            have hwf : (⟨x + px, y + py, wd, ht⟩ : Re).Wf := by unfold Re.Wf I64; simp only; omega
            have CK := fun w => kmay_any ⟨x + px, y + py, wd, ht⟩ w hwf
            have hallk : (M.take (k + 1)).all (fun q => mayR (mvQ px py q)) = mayR ⟨x + px, y + py, wd, ht⟩ := by
              rw [List.take_add_one, hq, List.all_append, hall.out]
              simp [hmv]
            have hall5 : mayR ⟨x + px, y + py, wd, ht⟩ = false → E = 5 ∧ L = [] := fun h => out5.out (by
              rw [Bool.eq_false_iff]
              intro h2
              have := List.all_eq_true.1 h2 _ (List.mem_of_getElem? hq)
              rw [hmv, h] at this
              cases this)
            rw [hmv] at hset
            replace hset := Lib.hid hset
            replace hat := Lib.hid hat
            replace hown := Lib.hid hown
            clear hq hqm hwf hmv
            go_wp2
            refine wp_region_steady_then (Held wr 0 []) 12 (by kernel_rfl) (by kernel_rfl) (by decide) (by kernel_rfl) (by kernel_rfl) ⟨(by repeat (first | exact Below.refl _ _ | assumption | refine Below.drew ?_ | refine Below.alloc ?_ (by (try simp) <;> omega) _ | refine Below.setCell ?_ (by (try simp) <;> omega) _ | (refine Below.trans ?_ (Below.mono (by assumption) (by (try simp) <;> omega))))), (by (try simp) <;> omega), (by first | exact trivial | (simp only [Cells]; go_simp))⟩ ?_
            simp only [List.take_succ_cons, List.take_zero]
            repeat (first | (refine' wpSteady_do _ _ _; rotate_left; (focus rfl); (focus (intro w1 hS R hR; have hc := hS.cells; simp only [Cells] at hc; obtain ⟨hco, hfo⟩ := bcell hS.old; go_simp; (try go_bits); first | exact hR _ hS | fail)); simp only [Act.put, List.setIfInBounds_toArray, List.set_cons_zero, List.set_cons_succ]) | (refine wpSteady_pass ?_ ?_; (focus rfl); simp only [Act.put, List.setIfInBounds_toArray, List.set_cons_zero, List.set_cons_succ]))
            refine wpSteady_nil (fun uA hSA => ?_)
            have hcA := hSA.cells; have hbA := hSA.old; have hzA := hSA.size; clear hSA; simp only [Cells] at hcA; obtain ⟨hcoA, hfoA⟩ := bcell hbA
            simp only [List.drop_succ_cons, List.drop_zero, List.drop_nil]
            have yA : g < uA.heap.size := by omega
            have hfzA : ∀ o, uA.frozen? ⟨g, o, none⟩ = false := fun o => (hfoA g o hgl).trans (hfz o)
            have c1 := Lib.hid ((hown.out.below hbA (Nat.le_refl _)).put (i := 0) (u := .int .i64 (x + px)) (q' := ⟨x + px, y, wd, ht⟩) hat.out (by omega) rfl)
            have b1' : Below wb.heap.size wb (uA.setCell ⟨g, k * 4, none⟩ (.int .i64 (x + px))) := (hbr.trans (hbA.mono zr)).setCell (by simpa using hgB) _
            have hat1 : Hid ((((M.take k).map (mvQ px py) ++ M.drop k).set k ⟨x + px, y, wd, ht⟩)[k]? = some ⟨x + px, y, wd, ht⟩) := Lib.hid (by rw [List.getElem?_set_self (List.getElem?_eq_some_iff.1 hat.out).1])
            go_upto_region 13 with fail
            have c1' : CutR wb.heap.size (uA.setCell ⟨g, k * 4, none⟩ (.int .i64 (x + px))) (.slice (some ⟨g, 0, none⟩) n c) (((M.take k).map (mvQ px py) ++ M.drop k).set k ⟨x + px, y, wd, ht⟩) := c1.out
            clear c1
            generalize uA.setCell ⟨g, k * 4, none⟩ (.int .i64 (x + px)) = w8 at c1' b1' ⊢
            obtain ⟨m0, m1, m2, m3⟩ := c1'.rmem hat1.out
            simp only at m0 m1 m2 m3
            have hfz8 := c1'.free
            have z8 := b1'.size
            obtain ⟨g', eg, hgB8, hgl8⟩ := c1'.addr (by omega)
            injection eg with eg
            injection eg with eg _ _
            subst eg
            have p0' := (b1'.cell (p := ⟨w.heap.size, 0, none⟩) z0).trans g0
            have p1' := (b1'.cell (p := ⟨w.heap.size, 1, none⟩) z0).trans g1
            have z08 : w.heap.size < w8.heap.size := by omega
            replace c1' := Lib.hid c1'
            clear r0 r1 r2 r3 p0 p1 hcA hcoA hfoA hbA hzA hfzA yA hfz
            refine wp_region_steady_then (Held w8 0 []) 12 (by kernel_rfl) (by kernel_rfl) (by decide) (by kernel_rfl) (by kernel_rfl) ⟨(by repeat (first | exact Below.refl _ _ | assumption | refine Below.drew ?_ | refine Below.alloc ?_ (by (try simp) <;> omega) _ | refine Below.setCell ?_ (by (try simp) <;> omega) _ | (refine Below.trans ?_ (Below.mono (by assumption) (by (try simp) <;> omega))))), (by (try simp) <;> omega), (by first | exact trivial | (simp only [Cells]; go_simp))⟩ ?_
            simp only [List.take_succ_cons, List.take_zero]
            repeat (first | (refine' wpSteady_do _ _ _; rotate_left; (focus rfl); (focus (intro w1 hS R hR; have hc := hS.cells; simp only [Cells] at hc; obtain ⟨hco, hfo⟩ := bcell hS.old; go_simp; (try go_bits); first | exact hR _ hS | fail)); simp only [Act.put, List.setIfInBounds_toArray, List.set_cons_zero, List.set_cons_succ]) | (refine wpSteady_pass ?_ ?_; (focus rfl); simp only [Act.put, List.setIfInBounds_toArray, List.set_cons_zero, List.set_cons_succ]))
            refine wpSteady_nil (fun uB hSB => ?_)
            have hcB := hSB.cells; have hbB := hSB.old; have hzB := hSB.size; clear hSB; simp only [Cells] at hcB; obtain ⟨hcoB, hfoB⟩ := bcell hbB
            simp only [List.drop_succ_cons, List.drop_zero, List.drop_nil]
            have yB : g < uB.heap.size := by omega
            have hfzB : ∀ o, uB.frozen? ⟨g, o, none⟩ = false := fun o => (hfoB g o hgl8).trans (hfz8 o)
            have c2 : CutR wb.heap.size (uB.setCell ⟨g, k * 4 + 1, none⟩ (.int .i64 (y + py))) (.slice (some ⟨g, 0, none⟩) n c) ((((M.take k).map (mvQ px py) ++ M.drop k).set k ⟨x + px, y, wd, ht⟩).set k ⟨x + px, y + py, wd, ht⟩) := (c1'.out.below hbB (Nat.le_refl _)).put (i := 1) (u := .int .i64 (y + py)) (q' := ⟨x + px, y + py, wd, ht⟩) hat1.out (by omega) rfl
            rw [List.set_set, hset.out] at c2
            have b2 : Below wb.heap.size wb (uB.setCell ⟨g, k * 4 + 1, none⟩ (.int .i64 (y + py))) := (b1'.trans (hbB.mono z8)).setCell (by simpa using hgB) _
            have hat2 : ((M.take (k + 1)).map (mvQ px py) ++ M.drop (k + 1))[k]? = some ⟨x + px, y + py, wd, ht⟩ := by
              rw [← hset.out, List.getElem?_set_self (List.getElem?_eq_some_iff.1 hat.out).1]
            replace c2 := Lib.hid c2
            replace hat2 := Lib.hid hat2
            go_upto_region 14 with fail
            have c2' := c2.out
            clear c2
            generalize uB.setCell ⟨g, k * 4 + 1, none⟩ (.int .i64 (y + py)) = w9 at c2' b2 ⊢
            obtain ⟨n0, n1, n2, n3⟩ := c2'.rmem hat2.out
            simp only at n0 n1 n2 n3
            obtain ⟨g', eg, hgB9, hgl9⟩ := c2'.addr (by omega)
            injection eg with eg
            injection eg with eg _ _
            subst eg
            have z9 := b2.size
            replace c2' := Lib.hid c2'
            clear m0 m1 m2 m3 p0' p1' hcB hcoB hfoB hbB hzB hfzB yB hfz8 b1' c1' hat1 hat
            cases hm : mayR ⟨x + px, y + py, wd, ht⟩
            · obtain ⟨rfl, rfl⟩ := hall5 hm
              rw [hm] at CK
              replace CK := Lib.hid CK
              clear hm hall5 hallk
              go_wp2_with (first | (go_at_call 64; (with_reducible refine (CK.out _).mono ?_); rintro e wz ⟨rfl, hbz⟩; obtain ⟨hcz, hfz⟩ := bcell hbz) | go_in)
              go_ret2
              exact ⟨(hb0.trans (b2.mono hb0.size)).trans (hbz.mono (by have := hb0.size; omega)), _, rfl, CutR.nil _ _⟩
            · rw [hm] at CK hallk
              replace CK := Lib.hid CK
              replace hallk := Lib.hid hallk
              clear hm hall5
              go_wp2_with (first | (go_at_call 64; (with_reducible refine (CK.out _).mono ?_); rintro e wz ⟨rfl, hbz⟩; obtain ⟨hcz, hfz⟩ := bcell hbz) | go_in)
              go_roundw
              case rel => exact ⟨k + 1, by omega, by go_num, c2'.out.below hbz (Nat.le_refl _), hallk, b2.trans (hbz.mono z9)⟩
              case measure => simp [intOf]; omega
          · obtain rfl : k = n := by omega
            have e1 : M.take k = M := List.take_of_length_le (by have := hn.out; omega)
            have e2 : M.drop k = [] := List.drop_eq_nil_of_le (by have := hn.out; omega)
            have hall := hall.out
            rw [e1] at hall hown
            rw [e2, List.append_nil] at hown
            obtain ⟨rfl, rfl⟩ := out0.out hall
            replace hown := Lib.hid hown
            clear e1 e2 hall
            go_wp2
            go_ret2
            exact ⟨hwr, _, rfl, hown.out.less hb0.size⟩
      · rw [if_neg hm] at hE
        have hEn := hm
        rw [hE] at hEn MD
        obtain rfl := hL0 hEn
        have h0' : (E == 0) = false := by simp [hEn]
        have h0n : (E != 0) = true := by simp [hEn]
        generalize madeL a [] 1 = M at MD
        obtain ⟨n, hn⟩ : ∃ n, M.length = n := ⟨_, rfl⟩
        replace AS := Lib.hid AS
        replace MD := Lib.hid MD
        replace hwa := Lib.hid hwa
        clear ha hE hL hL0 hm hf h0 hEn
        go_enter Try.func32, Try.ntmps32
        go_upto_region 1 with fail
        rw [← hwb]
        clear hwb
        go_wp2_with (first
          | (go_at_call 62; (with_reducible refine (AS.out).mono ?_); rintro e w1 ⟨rfl, hb1⟩; have hb01 := hb1; obtain ⟨hc01, hf01⟩ := bcell hb01; have z1 := hb01.size; have z01 : w.heap.size < w1.heap.size := (by omega))
          | (go_at_call 63; (with_reducible refine (MD.out _ hb01).mono ?_); rintro e w2 ⟨hb2, v, rfl, hcut⟩; have hb02 := hb01.trans (hb2.mono hb01.size); have hcut := (CutR.own hcut).less hb01.size; obtain ⟨s, c, rfl⟩ := hcut.shape; rw [hn] at hcut; rw [hn]; have hcut := Lib.hid hcut)
          | go_in)
        go_ret2
        exact ⟨hwa.out _ hb02, _, rfl, CutR.nil _ _⟩
  · rw [if_neg h0] at hE
    rw [hE] at AS h0
    obtain rfl := hL0 h0
    have h0' : (E == 0) = false := by simp [h0]
    have h0n : (E != 0) = true := by simp [h0]
    replace AS := Lib.hid AS
    replace hwa := Lib.hid hwa
    clear ha hE hL hL0 h0
    go_enter Try.func32, Try.ntmps32
    go_upto_region 1 with fail
    rw [← hwb]
    clear hwb
    go_wp2_with (first
      | (go_at_call 62; (with_reducible refine (AS.out).mono ?_); rintro e w1 ⟨rfl, hb1⟩; have hb01 := hb1; obtain ⟨hc01, hf01⟩ := bcell hb01; have z1 := hb01.size; have z01 : w.heap.size < w1.heap.size := (by omega))
      | go_in)
    go_ret2
    exact ⟨hwa.out _ hb01, _, rfl, CutR.nil _ _⟩
end Go.Proofs.Ytlklmncjicgbgaa
