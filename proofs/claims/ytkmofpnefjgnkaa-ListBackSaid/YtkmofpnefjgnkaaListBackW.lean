/-
  The law ListBack, walked: it answers true of every two lists and every way.
-/
import Derived.Test.YtkmofpnefjgnkaaLisAv
import Derived.Test.YtkmofpnefjgnkaaLisAk
import Derived.Test.YtkmofpnefjgnkaaLisBk
import Derived.Test.YtkmofpnefjgnkaaLisS
namespace Go.Proofs.Ytkmofpnefjgnkaa
open Go.RowKit
set_option linter.unusedVariables false
attribute [local go_sem] vwp vUpon_value vUpon_skip vUpon_enter vUpon_row
set_option linter.unusedSimpArgs false
set_option linter.unusedVariables false
theorem flt_get {xs : List St} {i : Nat} {s : St} (hs : xs[i]? = some s) (hd : drB s = true) : (fltS xs)[(fltS (xs.take i)).length]? = some s := by
  have e : fltS xs = fltS (xs.take i) ++ fltS (xs.drop i) := by
    unfold fltS; rw [← List.filter_append, List.take_append_drop]
  rw [e, List.getElem?_append_right (Nat.le_refl _), Nat.sub_self, drop_get hs]
  unfold fltS
  rw [List.filter_cons, if_pos hd]
  rfl
theorem fltR_get {xs : List St} {rs : List Re} {i : Nat} {s : St} {q : Re} (hs : xs[i]? = some s) (hq : rs[i]? = some q) (hd : drB s = true) (hl : rs.length = xs.length) : (fltR xs rs)[(fltS (xs.take i)).length]? = some q := by
  have h1 := (List.getElem?_eq_some_iff.1 hs).1
  have e : fltR xs rs = fltR (xs.take i) (rs.take i) ++ fltR (xs.drop i) (rs.drop i) := by
    unfold fltR
    rw [← List.map_append, ← List.filter_append, ← List.zip_append (by simp; omega), List.take_append_drop, List.take_append_drop]
  have hlen : (fltR (xs.take i) (rs.take i)).length = (fltS (xs.take i)).length := fltS_len _ _ (by simp; omega)
  rw [e, List.getElem?_append_right (by omega), hlen, Nat.sub_self, drop_get hs, drop_get hq]
  unfold fltR
  rw [List.zip_cons_cons, List.filter_cons, if_pos hd]
  rfl
theorem own_tail {base B : Nat} {w : World} {g n m cap : Nat} {xs ys : List St} (h : Owns base w (.slice (some ⟨g, 0, none⟩) (n + m) cap) (xs ++ ys)) (hn : xs.length = n) (hm : ys.length = m) (hB : w.heap.size ≤ B) :
    Row B 15 St.enc w (.slice (if cap = n then some ⟨g, 0, none⟩ else some ⟨g, n * 15, none⟩) m (cap - n)) ys := by
  have hr := h.row hB
  obtain ⟨s, cap', e, hl, hc, hx⟩ := hr
  injection e with e1 _ e2
  subst e1
  subst e2
  rw [List.length_append, hn, hm] at hl
  refine ⟨_, cap - n, by rw [hm], by rw [hm]; omega, by omega, fun h0 => ?_⟩
  rw [hm] at h0
  obtain ⟨b, o, hs, hlt, hx⟩ := hx (by rw [List.length_append, hn, hm]; omega)
  injection hs with hs
  injection hs with h1 h2 _
  subst h1
  subst h2
  refine ⟨g, n * 15, if_neg (by omega), hlt, fun j x hj i u hi => ?_⟩
  have := hx (n + j) x (by rw [List.getElem?_append_right (by omega), hn, Nat.add_sub_cancel_left]; exact hj) i u hi
  rw [show n * 15 + j * 15 + i = 0 + (n + j) * 15 + i by rw [Nat.add_mul]; omega]
  exact this
theorem own_head {base B : Nat} {w : World} {s : Option Addr} {n m cap : Nat} {xs ys : List St} (h : Owns base w (.slice s (n + m) cap) (xs ++ ys)) (hn : xs.length = n) (hm : ys.length = m) (hB : w.heap.size ≤ B) : Row B 15 St.enc w (.slice s n cap) xs :=
  row_cut (ys := ys) (by rw [List.length_append, hn, hm]; exact h.row hB) hn
theorem mvL_len (px py : Int) (xs : List St) : (mvL px py xs).length ≤ xs.length := by
  unfold mvL; split <;> simp
attribute [local go_sem high] neq_stroke
set_option maxHeartbeats 4000000 in
set_option maxRecDepth 100000 in
theorem walk_ListBack (xs ys : List St) (v1 v2 : Value) (px py : Int) (w : World) (h1 : Row w.heap.size 15 St.enc w v1 xs) (h2 : Row w.heap.size 15 St.enc w v2 ys) (k1 : ∀ s ∈ xs, s.Wf) (k2 : ∀ s ∈ ys, s.Wf) (hpx : I64 px) (hpy : I64 py) :
    Calls Try.prog 4 #[v1, v2, .agg #[.int .i64 px, .int .i64 py]] w fun e w' => e = .returned (.bool true) ∧ Below w.heap.size w w' := by
  have C1 := fun w' (hb : Below w.heap.size w w') => lcheck_any xs v1 w' ((h1.below hb).mono hb.size) k1
  have C2 := fun w' (hb : Below w.heap.size w w') => lcheck_any ys v2 w' ((h2.below hb).mono hb.size) k2
  obtain ⟨s1, cc1, rfl, hmax1⟩ := h1.shape
  obtain ⟨s2, cc2, rfl, hmax2⟩ := h2.shape
  obtain ⟨n, en⟩ : ∃ n, xs.length = n := ⟨_, rfl⟩
  obtain ⟨m, em⟩ : ∃ n, ys.length = n := ⟨_, rfl⟩
  rw [en] at C1 hmax1 ⊢
  rw [em] at C2 hmax2 ⊢
  replace C1 := Lib.hid C1
  replace C2 := Lib.hid C2
  unfold maxLen at hmax1 hmax2
  by_cases a1 : 3000 < n
  · have a1' : (3000 : Int) < n := by omega
    go_enter Try.func4, Try.ntmps4
    go_wp2_with (first | (go_at_call 16; (with_reducible refine (alive_any _).mono ?_); rintro e w2 ⟨rfl, hb2⟩; have z2 := hb2.size; (try simp at z2); have hb02 : Below w.heap.size w w2 := (by repeat (first | exact Below.refl _ _ | assumption | refine Below.drew ?_ | refine Below.alloc ?_ (by (try simp) <;> omega) _ | refine Below.setCell ?_ (by (try simp) <;> omega) _ | (refine Below.trans ?_ (Below.mono (by assumption) (by (try simp) <;> omega))))); have z02 := hb02.size) | go_in)
    go_ret
    exact ⟨rfl, hb02⟩
  have a1' : ¬ (3000 : Int) < n := by omega
  by_cases a2 : 3000 < m
  · have a2' : (3000 : Int) < m := by omega
    go_enter Try.func4, Try.ntmps4
    go_wp2_with (first | (go_at_call 16; (with_reducible refine (alive_any _).mono ?_); rintro e w2 ⟨rfl, hb2⟩; have z2 := hb2.size; (try simp at z2); have hb02 : Below w.heap.size w w2 := (by repeat (first | exact Below.refl _ _ | assumption | refine Below.drew ?_ | refine Below.alloc ?_ (by (try simp) <;> omega) _ | refine Below.setCell ?_ (by (try simp) <;> omega) _ | (refine Below.trans ?_ (Below.mono (by assumption) (by (try simp) <;> omega))))); have z02 := hb02.size) | go_in)
    go_ret
    exact ⟨rfl, hb02⟩
  have a2' : ¬ (3000 : Int) < m := by omega
  by_cases c1 : chkL xs = 0
  · by_cases c2 : chkL ys = 0
    · replace C1 := C1.out
      replace C2 := C2.out
      have hc1 := Lib.hid c1
      have hc2 := Lib.hid c2
      rw [c1] at C1
      rw [c2] at C2
      replace C1 := Lib.hid C1
      replace C2 := Lib.hid C2
      replace en := Lib.hid en
      replace em := Lib.hid em
      replace h1 := Lib.hid h1
      replace h2 := Lib.hid h2
      replace k1 := Lib.hid k1
      replace k2 := Lib.hid k2
      clear c1 c2
      obtain ⟨px0, px1⟩ := id hpx
      obtain ⟨py0, py1⟩ := id hpy
      go_enter Try.func4, Try.ntmps4
      go_upto_region 4 with (first | (go_at_call 16; (with_reducible refine (alive_any _).mono ?_); rintro e w2 ⟨rfl, hb2⟩; have z2 := hb2.size; (try simp at z2); have hb02 : Below w.heap.size w w2 := (by repeat (first | exact Below.refl _ _ | assumption | refine Below.drew ?_ | refine Below.alloc ?_ (by (try simp) <;> omega) _ | refine Below.setCell ?_ (by (try simp) <;> omega) _ | (refine Below.trans ?_ (Below.mono (by assumption) (by (try simp) <;> omega))))); have z02 := hb02.size) | (go_at_call 17; (with_reducible refine (C1.out _ hb02).mono ?_); rintro e w3 ⟨rfl, hb3⟩; have z3 := hb3.size; have hb03 := hb02.trans (hb3.mono z02)) | (go_at_call 17; (with_reducible refine (C2.out _ hb03).mono ?_); rintro e w4 ⟨rfl, hb4⟩; have z4 := hb4.size; have hb04 := hb03.trans (hb4.mono (by omega))) | go_in)
      have y0 : w.heap.size < w2.heap.size := by omega
      have hb24 : Below w2.heap.size w2 w4 := hb3.trans (hb4.mono z3)
      have p0 : w4.cell? ⟨w.heap.size, 0, none⟩ = some (.int .i64 px) := (hb24.cell (p := ⟨w.heap.size, 0, none⟩) y0).trans ((hb2.cell (p := ⟨w.heap.size, 0, none⟩) (by simp)).trans (World.cell?_alloc_at _ _ _ _ rfl))
      have p1 : w4.cell? ⟨w.heap.size, 1, none⟩ = some (.int .i64 py) := (hb24.cell (p := ⟨w.heap.size, 1, none⟩) y0).trans ((hb2.cell (p := ⟨w.heap.size, 1, none⟩) (by simp)).trans (World.cell?_alloc_at _ _ _ _ rfl))
      have y4 : w.heap.size < w4.heap.size := by omega
      have z04 := hb04.size
      have M1 := lmoved_any xs (.slice s1 n cc1) px py w4 (by have := (h1.out.below hb04).mono z04; rw [en.out] at this; exact this) k1.out hpx hpy
      obtain ⟨E, hE⟩ : ∃ E, mvE px py xs = E := ⟨_, rfl⟩
      have hE09 : E = 0 ∨ E = 9 := by
        cases hk : okL px py xs
        · exact .inr (by rw [← hE]; exact (mv_b hc1.out hk).1)
        · exact .inl (by rw [← hE]; exact (mv_c hc1.out hk).1)
      have hml := mvL_len px py xs
      rw [en.out] at hml
      rw [hE] at M1
      replace M1 := Lib.hid M1
      replace hE := Lib.hid hE
      replace hE09 := Lib.hid hE09
      clear hb2 hb3 hb4 hb24 z2 z3 z4 hb02 hb03 z02 C1 C2
      rcases hE09.out with rfl | rfl
      · go_upto_if 51 with (first
          | (go_at_call 10; (with_reducible refine (M1.out).mono ?_); rintro e w5 ⟨hb5, va, rfl, ownA⟩)
          | go_in)
        have z5 := hb5.size
        have hb05 := hb04.trans (hb5.mono z04)
        have z05 := hb05.size
        go_cut [] (fun wx => Below w5.heap.size w5 wx)
        case first =>
          by_cases n0 : 0 < n
          · have n0' : (0 : Int) < n := by omega
            have hne : xs ≠ [] := by rintro rfl; have := en.out; simp at this; omega
            obtain ⟨b1, b2⟩ := mv_back hE.out hne
            have hnf := mv_near hE.out hne
            unfold farB at hnf
            have q1 : -32768 ≤ px := by omega
            have q2 : px ≤ 32768 := by omega
            have q3 : -32768 ≤ py := by omega
            have q4 : py ≤ 32768 := by omega
            have M2 := lmoved_any (mvL px py xs) va (-px) (-py) w5 (ownA.row (Nat.le_refl _)) (mv_wf hE.out k1.out) ⟨by omega, by omega⟩ ⟨by omega, by omega⟩
            rw [b1, b2] at M2
            have P0 : w5.cell? ⟨w.heap.size, 0, none⟩ = some (.int .i64 px) := (hb5.cell (p := ⟨w.heap.size, 0, none⟩) y4).trans p0
            have P1 : w5.cell? ⟨w.heap.size, 1, none⟩ = some (.int .i64 py) := (hb5.cell (p := ⟨w.heap.size, 1, none⟩) y4).trans p1
            have y5 : w.heap.size < w5.heap.size := by omega
            have AKC := fun (w6 : World) (vb : Value) (hb : Below w5.heap.size w5 w6) (ho : Owns w5.heap.size w6 vb xs) => alike_any xs xs vb (.slice s1 n cc1) w6 (ho.row (Nat.le_refl _)) (by have := (h1.out.below (hb05.trans (hb.mono z05))).mono (Nat.le_trans z05 hb.size); rw [en.out] at this; exact this) (by rw [en.out]; omega) (by rw [en.out]; omega)
            rw [sameL_refl] at AKC
            replace M2 := Lib.hid M2
            replace AKC := Lib.hid AKC
            obtain ⟨sa, ca, rfl⟩ := own_slice ownA
            clear b1 b2 hnf hne hb5 ownA p0 p1
            go_wp2_with (first
              | (go_at_call 10; (with_reducible refine (M2.out).mono ?_); rintro e w6 ⟨hb6, vb, rfl, ownB⟩; have ownBh := Lib.hid ownB; obtain ⟨sb, cb, rfl⟩ := own_slice ownB; rw [en.out])
              | (go_at_call 18; (with_reducible refine (AKC.out _ _ hb6 (by have := ownBh.out; rw [en.out] at this; exact this)).mono ?_); rintro e w7 ⟨rfl, hb7⟩)
              | go_in)
            go_meet
            case rel => exact hb6.trans (hb7.mono hb6.size)
          · have n0' : ¬ (0 : Int) < n := by omega
            go_wp2
            go_meet
            case rel => exact Below.refl _ _
        case rest =>
          have hbz := hb05.trans (hcut.mono z05)
          obtain ⟨wz, hwz⟩ : ∃ wz : World, wz = wc := ⟨_, rfl⟩
          subst hwz
          clear hcut hb5 hb05 z5 z05 p0 p1 ownA
          have zz := hbz.size
          have hfS : flS xs = fltS xs := if_pos hc1.out
          have hfR : flR xs = fltR xs (shL xs) := if_pos hc1.out
          have hRl := shL_len xs
          have hsh : ∀ (i : Nat) (s : St) (q : Re), xs[i]? = some s → (shL xs)[i]? = some q → inR q s.rect = true := fun i s q hs hq => sh_all xs [] (by simp) (fun s hs => err_may (chk_mem hc1.out s hs)) i s q hs hq
          have hshm : ∀ q ∈ shL xs, mayR q = true := shGo_may xs [] (by simp) (fun s hs => err_may (chk_mem hc1.out s hs))
          obtain ⟨R, hR⟩ : ∃ R, shL xs = R := ⟨_, rfl⟩
          rw [hR] at hfR hRl hsh hshm
          have FL := lflat_any xs (.slice s1 n cc1) wz (by have := (h1.out.below hbz).mono zz; rw [en.out] at this; exact this) k1.out
          rw [hfS, hfR, hc1.out] at FL
          have hq2' := fltS_len xs R hRl
          obtain ⟨q, hq⟩ : ∃ q, (fltS xs).length = q := ⟨_, rfl⟩
          rw [hq] at hq2'
          have hql : q ≤ n := by have := fltS_le xs; rw [hq, en.out] at this; exact this
          have hopen := fun h0 => row_st h1.out h0
          rw [en.out] at hopen
          have hq2 := Lib.hid hq2'
          replace hq := Lib.hid hq
          replace FL := Lib.hid FL
          replace hRl := Lib.hid hRl
          replace hsh := Lib.hid hsh
          replace hshm := Lib.hid hshm
          replace hopen := Lib.hid hopen
          clear hfS hfR hR hq2'
          go_wp2_with (first
            | (go_at_call 19; (with_reducible refine (FL.out).mono ?_); rintro e w6 ⟨hb6, vf, vu, rfl, ownF, ownU, _⟩; obtain ⟨s3, c3, rfl⟩ := own_slice ownF; obtain ⟨s4, c4, rfl⟩ := own_slice ownU; rw [hq.out, hq2.out])
            | go_in)
          have hb06 := hbz.trans (hb6.mono zz)
          have z06 := hb06.size
          replace ownF := Lib.hid ownF
          replace ownU := Lib.hid ownU
          clear hb6
          go_loopw [15, 16] (fun kv iv wr => ∃ i : Nat, i ≤ n ∧ iv = .int .i64 i ∧ kv = .int .i64 ((fltS (xs.take i)).length : Nat) ∧ Below w6.heap.size w6 wr) (fun _ iv _ => n - (intOf iv).toNat)
          case atStart => exact ⟨0, Nat.zero_le _, rfl, rfl, Below.refl _ _⟩
          case round =>
            obtain ⟨i, hi, rfl, rfl, hbr⟩ := hrel
            have zr := hbr.size
            have hb0r := hb06.trans (hbr.mono z06)
            have z0r := hb0r.size
            obtain ⟨hcr, hfr⟩ := bcell hb0r
            by_cases hin : i < n
            · obtain ⟨b, p, cap', e, hb, _, _, hel⟩ := hopen.out (by omega)
              simp at e
              obtain ⟨rfl, rfl⟩ := e
              obtain ⟨s, hs⟩ : ∃ s, xs[i]? = some s := ⟨xs[i]'(by have := en.out; omega), List.getElem?_eq_getElem _⟩
              obtain ⟨r, hr⟩ : ∃ q, R[i]? = some q := ⟨R[i]'(by have := hRl.out; have := en.out; omega), List.getElem?_eq_getElem _⟩
              have hii : (i : Int) < n := by omega
              have yb : b < wr.heap.size := by omega
              have hsn := fltS_snoc hs
              have hes := chk_mem hc1.out s (List.mem_of_getElem? hs)
              have hws := (k1.out s (List.mem_of_getElem? hs))
              obtain ⟨k, hk⟩ : ∃ k, (fltS (xs.take i)).length = k := ⟨_, rfl⟩
              have hsl : (fltS (xs.take (i + 1))).length = k + (if drB s then 1 else 0) := by
                rw [hsn, List.length_append, hk]
                cases drB s <;> simp
              have hkl : k ≤ n := by have := fltS_le (xs.take i); rw [hk] at this; simp at this; omega
              rw [hk]
              cases hd : drB s
              · rw [hd] at hsl
                simp only [Bool.false_eq_true, if_false, Nat.add_zero] at hsl
                have hk45 : s.kind = 4 ∨ s.kind = 5 := by
                  rcases kind_err hes with h | h
                  · rw [hd] at h; cases h
                  · exact h
                have hsm := hel i s hs
                obtain ⟨g0, _⟩ := hsm
                replace hsl := Lib.hid hsl
                clear hs hr hsn hel hk hd
                rcases hk45 with hk4 | hk5
                · rw [hk4] at g0
                  clear hk4
                  go_wp2
                  go_roundw
                  case rel => exact ⟨i + 1, by omega, by go_num, by rw [hsl.out], hbr⟩
                  case measure => simp [intOf]; omega
                · rw [hk5] at g0
                  clear hk5
                  go_wp2
                  go_roundw
                  case rel => exact ⟨i + 1, by omega, by go_num, by rw [hsl.out], hbr⟩
                  case measure => simp [intOf]; omega
              · rw [hd] at hsl
                simp only [if_true] at hsl
                have hgS := flt_get hs hd
                have hgU := fltR_get hs hr hd (by rw [hRl.out])
                rw [hk] at hgS hgU
                have hkq : k < q := by have := (List.getElem?_eq_some_iff.1 hgS).1; have := hq.out; omega
                have hkq' : ¬ (q : Int) ≤ k := by omega
                have hkq2 : (k : Int) < q := by omega
                have hkq3 : decide ((q : Int) ≤ k) = false := by simp; omega
                have hkq4 : decide (q ≤ k) = false := by simp; omega
                have oF := ownF.out
                have oU := ownU.out
                obtain ⟨gF, rfl, _, hgF⟩ := own_addr oF (by have := hq.out; omega)
                obtain ⟨gU, rfl, _, hgU'⟩ := own_addr oU (by have := hq2.out; omega)
                have SF := (own_smem oF hgS).below hbr hgF
                have SU := (own_rmem oU hgU).below hbr hgU'
                have SX := (show SMem w b (p + i * 15) s from hel i s hs).below hb0r hb
                have IN1 := fun w => in_any r s.rect w (may_wf (hshm.out r (List.mem_of_getElem? hr))) hws.2.1
                rw [hsh.out i s r hs hr] at IN1
                have ygF : gF < wr.heap.size := by omega
                have ygU : gU < wr.heap.size := by omega
                have n4 : (s.kind == 4) = false := by unfold drB at hd; simp at hd ⊢; omega
                have n5 : (s.kind == 5) = false := by unfold drB at hd; simp at hd ⊢; omega
                replace hsl := Lib.hid hsl
                clear hs hr hsn hel hk hd hgS hgU hes hws oF oU hcr hfr
                obtain ⟨kd, ⟨x, y, wd, ht⟩, ⟨a0, a1, a2, a3⟩, ⟨b0, b1, b2, b3⟩, tx, nd⟩ := s
                obtain ⟨f0, f1, f2, f3, f4, f5, f6, f7, f8, f9, f10, f11, f12, f13, f14⟩ := SF
                obtain ⟨g0, g1, g2, g3, g4, g5, g6, g7, g8, g9, g10, g11, g12, g13, g14⟩ := SX
                obtain ⟨r0, r1, r2, r3⟩ := SU
                simp only at f0 f1 f2 f3 f4 f5 f6 f7 f8 f9 f10 f11 f12 f13 f14 g0 g1 g2 g3 g4 g5 g6 g7 g8 g9 g10 g11 g12 g13 g14 IN1 n4 n5
                have hEq : St.eqb ⟨kd, ⟨x, y, wd, ht⟩, ⟨a0, a1, a2, a3⟩, ⟨b0, b1, b2, b3⟩, tx, nd⟩ ⟨kd, ⟨x, y, wd, ht⟩, ⟨a0, a1, a2, a3⟩, ⟨b0, b1, b2, b3⟩, tx, nd⟩ = true := St.eqb_refl _
                replace IN1 := Lib.hid IN1
                go_wp2
                refine wp_region_steady (Held wr 0 []) (by kernel_rfl) (by kernel_rfl) ⟨(by repeat (first | exact Below.refl _ _ | assumption | refine Below.drew ?_ | refine Below.alloc ?_ (by (try simp) <;> omega) _ | refine Below.setCell ?_ (by (try simp) <;> omega) _ | (refine Below.trans ?_ (Below.mono (by assumption) (by (try simp) <;> omega))))), (by (try simp) <;> omega), (by first | exact trivial | (simp only [Cells]; go_simp))⟩ ?_
                repeat (first | (refine' wpSteady_do _ _ _; rotate_left; (focus rfl); (focus (intro w1 hS R hR; have hc := hS.cells; simp only [Cells] at hc; obtain ⟨hco, hfo⟩ := bcell hS.old; go_simp; (try go_bits); first | exact hR _ hS | (go_at_call 20; (with_reducible refine (IN1.out _).mono ?_); rintro e w2 ⟨rfl, hb2⟩; exact ⟨_, rfl, hR _ (hS.below hb2)⟩))); simp only [Act.put, List.setIfInBounds_toArray, List.set_cons_zero, List.set_cons_succ]) | (refine wpSteady_pass ?_ ?_; (focus rfl); simp only [Act.put, List.setIfInBounds_toArray, List.set_cons_zero, List.set_cons_succ]))
                refine wpSteady_nil (fun uZ hSZ => ?_)
                have hcZ := hSZ.cells; have hbZ := hSZ.old; have hzZ := hSZ.size; clear hSZ; simp only [Cells] at hcZ; obtain ⟨hcoZ, hfoZ⟩ := bcell hbZ
                go_wp2
                go_roundw
                case rel => exact ⟨i + 1, by omega, by go_num, by rw [hsl.out]; go_num, hbr.trans (hbZ.mono zr)⟩
                case measure => simp [intOf]; omega
            · obtain rfl : i = n := by omega
              have eq0 : (fltS (xs.take i)).length = q := by rw [List.take_of_length_le (by have := en.out; omega)]; exact hq.out
              rw [eq0]
              clear eq0
              have rX := (h1.out.below hb0r).mono z0r
              have rY := (h2.out.below hb0r).mono z0r
              rw [en.out] at rX
              rw [em.out] at rY
              have JN := ljoin_any xs ys _ _ wr rX rY k1.out k2.out
              obtain ⟨j1, j2⟩ := join_d hc1.out hc2.out (by rw [en.out, em.out]; omega)
              rw [j1, j2] at JN
              have hlen : (xs ++ ys).length = i + m := by rw [List.length_append, en.out, em.out]
              have hSM := same_back xs ys
              rw [em.out] at hSM
              replace rX := Lib.hid rX
              replace rY := Lib.hid rY
              replace JN := Lib.hid JN
              replace hlen := Lib.hid hlen
              replace hSM := Lib.hid hSM
              clear j1 j2 hcr hfr ownF ownU hopen hsh hshm FL
              go_upto_region 21 with (first
                | (go_at_call 8; (with_reducible refine (JN.out).mono ?_); rintro e w8 ⟨hb8, vj, rfl, ownJ⟩)
                | go_in)
              have z8 := hb8.size
              have hb08 := hb0r.trans (hb8.mono z0r)
              have rX8 := (rX.out.below hb8).mono z8
              have rY8 := (rY.out.below hb8).mono z8
              have hmi : ∀ b : Bool, decide (m = 0) = b → ((m : Int) == 0) = b := fun b hb => by rw [← hb, Bool.eq_iff_iff]; simp
              obtain ⟨mb, hmb⟩ : ∃ mb, decide (m = 0) = mb := ⟨_, rfl⟩
              have hmi' := hmi mb hmb
              have hSMh := hSM.out
              rw [hmb] at hSMh
              have hmm : (mb == mb) = true := by simp
              have oJ : w8.ownsRow wr.heap.size 45 15 vj (i + m) ((xs ++ ys).flatMap St.enc) := by
                have := ownJ
                unfold Owns at this
                rw [hlen.out] at this
                exact this
              rcases ownJ.2 with ⟨rfl, hn0⟩ | ⟨g, cap, cur, rfl, hg, hh, hnc, hcm, _⟩
              · have hi0 : i = 0 := by have := hlen.out; omega
                have hm0 : m = 0 := by have := hlen.out; omega
                have hx : xs = [] := List.length_eq_zero_iff.1 (en.out.trans hi0)
                have hy : ys = [] := List.length_eq_zero_iff.1 (em.out.trans hm0)
                subst hx
                subst hy
                subst hi0
                subst hm0
                have nilrow : ∀ w9 : World, Row w9.heap.size 15 St.enc w9 (.slice none 0 0) [] := fun w9 => ⟨none, 0, rfl, by simp, by unfold maxLen; omega, fun h => by simp at h⟩
                have A1 := fun (w9 : World) (hb : Below w8.heap.size w8 w9) => alike_any [] [] (.slice none 0 0) (.slice s1 0 cc1) w9 (nilrow w9) ((rX8.below hb).mono hb.size) (by simp) (by simp)
                have A2 := fun (w9 : World) (hb : Below w8.heap.size w8 w9) => alike_any [] [] (.slice none 0 0) (.slice s2 0 cc2) w9 (nilrow w9) ((rY8.below hb).mono hb.size) (by simp) (by simp)
                have A3 := fun (w9 : World) (hb : Below w8.heap.size w8 w9) => lsame_any [] [] (.slice s1 0 cc1) (.slice none 0 0) w9 ((rX8.below hb).mono hb.size) (nilrow w9) (by simp) (by simp)
                rw [sameL_refl] at A1 A2 A3
                replace A1 := Lib.hid A1
                replace A2 := Lib.hid A2
                replace A3 := Lib.hid A3
                clear oJ ownJ hmb hSMh hmi rX8 rY8 hSM hlen hmi' nilrow
                go_wp2_with (first
                  | (go_at_call 18; (with_reducible refine (A1.out _ (Below.refl _ _)).mono ?_); rintro e w9 ⟨rfl, hb9⟩)
                  | (go_at_call 18; (with_reducible refine (A2.out _ hb9).mono ?_); rintro e w10 ⟨rfl, hb10⟩; have hb810 := hb9.trans (hb10.mono hb9.size))
                  | (go_at_call 13; (with_reducible refine (A3.out _ hb810).mono ?_); rintro e w11 ⟨rfl, hb11⟩; have hb811 := hb810.trans (hb11.mono hb810.size))
                  | go_in)
                all_goals
                  go_ret
                  exact ⟨rfl, hb08.trans (hb811.mono hb08.size)⟩
              · rw [hlen.out] at hnc ⊢
                unfold maxLen at hcm
                have A1 := fun (w9 : World) (hb : Below w8.heap.size w8 w9) => alike_any xs xs (.slice (some ⟨g, 0, none⟩) i cap) (.slice s1 i cc1) w9 ((own_head (s := some ⟨g, 0, none⟩) (ys := ys) (by rw [hlen.out] at ownJ; exact ownJ) en.out em.out (Nat.le_refl _) |>.below hb).mono hb.size) ((rX8.below hb).mono hb.size) (by rw [en.out]; omega) (by rw [en.out]; omega)
                have A2 := fun (w9 : World) (hb : Below w8.heap.size w8 w9) => alike_any ys ys (.slice (if cap = i then some ⟨g, 0, none⟩ else some ⟨g, i * 15, none⟩) m (cap - i)) (.slice s2 m cc2) w9 ((own_tail (by rw [hlen.out] at ownJ; exact ownJ) en.out em.out (Nat.le_refl _) |>.below hb).mono hb.size) ((rY8.below hb).mono hb.size) (by rw [em.out]; omega) (by rw [em.out]; omega)
                have A3 := fun (w9 : World) (hb : Below w8.heap.size w8 w9) => lsame_any xs (xs ++ ys) (.slice s1 i cc1) (.slice (some ⟨g, 0, none⟩) (i + m) cap) w9 ((rX8.below hb).mono hb.size) (by have := ((ownJ.row (Nat.le_refl _)).below hb).mono hb.size; rw [hlen.out] at this; exact this) (by rw [en.out]; omega) (by rw [hlen.out]; omega)
                rw [sameL_refl] at A1 A2
                rw [hSMh] at A3
                have q1 : (i : Int) ≤ cap := by omega
                have q2 : (i : Int) ≤ (i : Int) + m := by omega
                have q3 : (i : Int) + m ≤ cap := by omega
                have q4 : (0 : Int) ≤ i := by omega
                replace A1 := Lib.hid A1
                replace A2 := Lib.hid A2
                replace A3 := Lib.hid A3
                clear oJ ownJ hh hmb hSMh hmi rX8 rY8 hSM hlen
                go_wp2_with (first
                  | (go_at_call 18; (with_reducible refine (A1.out _ (Below.refl _ _)).mono ?_); rintro e w9 ⟨rfl, hb9⟩)
                  | (go_at_call 18; (with_reducible refine (A2.out _ hb9).mono ?_); rintro e w10 ⟨rfl, hb10⟩; have hb810 := hb9.trans (hb10.mono hb9.size))
                  | (go_at_call 13; (with_reducible refine (A3.out _ hb810).mono ?_); rintro e w11 ⟨rfl, hb11⟩; have hb811 := hb810.trans (hb11.mono hb810.size))
                  | go_in)
                all_goals
                  go_ret
                  exact ⟨rfl, hb08.trans (hb811.mono hb08.size)⟩
      · go_upto_if 51 with (first
          | (go_at_call 10; (with_reducible refine (M1.out).mono ?_); rintro e wz ⟨hb5, va, rfl, ownA⟩)
          | go_in)
        have hbz := hb04.trans (hb5.mono z04)
        clear hb5 p0 p1 ownA
        go_upto_region 9 with fail
        have zz := hbz.size
        have hfS : flS xs = fltS xs := if_pos hc1.out
        have hfR : flR xs = fltR xs (shL xs) := if_pos hc1.out
        have hRl := shL_len xs
        have hsh : ∀ (i : Nat) (s : St) (q : Re), xs[i]? = some s → (shL xs)[i]? = some q → inR q s.rect = true := fun i s q hs hq => sh_all xs [] (by simp) (fun s hs => err_may (chk_mem hc1.out s hs)) i s q hs hq
        have hshm : ∀ q ∈ shL xs, mayR q = true := shGo_may xs [] (by simp) (fun s hs => err_may (chk_mem hc1.out s hs))
        obtain ⟨R, hR⟩ : ∃ R, shL xs = R := ⟨_, rfl⟩
        rw [hR] at hfR hRl hsh hshm
        have FL := lflat_any xs (.slice s1 n cc1) wz (by have := (h1.out.below hbz).mono zz; rw [en.out] at this; exact this) k1.out
        rw [hfS, hfR, hc1.out] at FL
        have hq2' := fltS_len xs R hRl
        obtain ⟨q, hq⟩ : ∃ q, (fltS xs).length = q := ⟨_, rfl⟩
        rw [hq] at hq2'
        have hql : q ≤ n := by have := fltS_le xs; rw [hq, en.out] at this; exact this
        have hopen := fun h0 => row_st h1.out h0
        rw [en.out] at hopen
        have hq2 := Lib.hid hq2'
        replace hq := Lib.hid hq
        replace FL := Lib.hid FL
        replace hRl := Lib.hid hRl
        replace hsh := Lib.hid hsh
        replace hshm := Lib.hid hshm
        replace hopen := Lib.hid hopen
        clear hfS hfR hR hq2'
        go_wp2_with (first
          | (go_at_call 19; (with_reducible refine (FL.out).mono ?_); rintro e w6 ⟨hb6, vf, vu, rfl, ownF, ownU, _⟩; obtain ⟨s3, c3, rfl⟩ := own_slice ownF; obtain ⟨s4, c4, rfl⟩ := own_slice ownU; rw [hq.out, hq2.out])
          | go_in)
        have hb06 := hbz.trans (hb6.mono zz)
        have z06 := hb06.size
        replace ownF := Lib.hid ownF
        replace ownU := Lib.hid ownU
        clear hb6
        go_loopw [15, 16] (fun kv iv wr => ∃ i : Nat, i ≤ n ∧ iv = .int .i64 i ∧ kv = .int .i64 ((fltS (xs.take i)).length : Nat) ∧ Below w6.heap.size w6 wr) (fun _ iv _ => n - (intOf iv).toNat)
        case atStart => exact ⟨0, Nat.zero_le _, rfl, rfl, Below.refl _ _⟩
        case round =>
          obtain ⟨i, hi, rfl, rfl, hbr⟩ := hrel
          have zr := hbr.size
          have hb0r := hb06.trans (hbr.mono z06)
          have z0r := hb0r.size
          obtain ⟨hcr, hfr⟩ := bcell hb0r
          by_cases hin : i < n
          · obtain ⟨b, p, cap', e, hb, _, _, hel⟩ := hopen.out (by omega)
            simp at e
            obtain ⟨rfl, rfl⟩ := e
            obtain ⟨s, hs⟩ : ∃ s, xs[i]? = some s := ⟨xs[i]'(by have := en.out; omega), List.getElem?_eq_getElem _⟩
            obtain ⟨r, hr⟩ : ∃ q, R[i]? = some q := ⟨R[i]'(by have := hRl.out; have := en.out; omega), List.getElem?_eq_getElem _⟩
            have hii : (i : Int) < n := by omega
            have yb : b < wr.heap.size := by omega
            have hsn := fltS_snoc hs
            have hes := chk_mem hc1.out s (List.mem_of_getElem? hs)
            have hws := (k1.out s (List.mem_of_getElem? hs))
            obtain ⟨k, hk⟩ : ∃ k, (fltS (xs.take i)).length = k := ⟨_, rfl⟩
            have hsl : (fltS (xs.take (i + 1))).length = k + (if drB s then 1 else 0) := by
              rw [hsn, List.length_append, hk]
              cases drB s <;> simp
            have hkl : k ≤ n := by have := fltS_le (xs.take i); rw [hk] at this; simp at this; omega
            rw [hk]
            cases hd : drB s
            · rw [hd] at hsl
              simp only [Bool.false_eq_true, if_false, Nat.add_zero] at hsl
              have hk45 : s.kind = 4 ∨ s.kind = 5 := by
                rcases kind_err hes with h | h
                · rw [hd] at h; cases h
                · exact h
              have hsm := hel i s hs
              obtain ⟨g0, _⟩ := hsm
              replace hsl := Lib.hid hsl
              clear hs hr hsn hel hk hd
              rcases hk45 with hk4 | hk5
              · rw [hk4] at g0
                clear hk4
                go_wp2
                go_roundw
                case rel => exact ⟨i + 1, by omega, by go_num, by rw [hsl.out], hbr⟩
                case measure => simp [intOf]; omega
              · rw [hk5] at g0
                clear hk5
                go_wp2
                go_roundw
                case rel => exact ⟨i + 1, by omega, by go_num, by rw [hsl.out], hbr⟩
                case measure => simp [intOf]; omega
            · rw [hd] at hsl
              simp only [if_true] at hsl
              have hgS := flt_get hs hd
              have hgU := fltR_get hs hr hd (by rw [hRl.out])
              rw [hk] at hgS hgU
              have hkq : k < q := by have := (List.getElem?_eq_some_iff.1 hgS).1; have := hq.out; omega
              have hkq' : ¬ (q : Int) ≤ k := by omega
              have hkq2 : (k : Int) < q := by omega
              have hkq3 : decide ((q : Int) ≤ k) = false := by simp; omega
              have hkq4 : decide (q ≤ k) = false := by simp; omega
              have oF := ownF.out
              have oU := ownU.out
              obtain ⟨gF, rfl, _, hgF⟩ := own_addr oF (by have := hq.out; omega)
              obtain ⟨gU, rfl, _, hgU'⟩ := own_addr oU (by have := hq2.out; omega)
              have SF := (own_smem oF hgS).below hbr hgF
              have SU := (own_rmem oU hgU).below hbr hgU'
              have SX := (show SMem w b (p + i * 15) s from hel i s hs).below hb0r hb
              have IN1 := fun w => in_any r s.rect w (may_wf (hshm.out r (List.mem_of_getElem? hr))) hws.2.1
              rw [hsh.out i s r hs hr] at IN1
              have ygF : gF < wr.heap.size := by omega
              have ygU : gU < wr.heap.size := by omega
              have n4 : (s.kind == 4) = false := by unfold drB at hd; simp at hd ⊢; omega
              have n5 : (s.kind == 5) = false := by unfold drB at hd; simp at hd ⊢; omega
              replace hsl := Lib.hid hsl
              clear hs hr hsn hel hk hd hgS hgU hes hws oF oU hcr hfr
              obtain ⟨kd, ⟨x, y, wd, ht⟩, ⟨a0, a1, a2, a3⟩, ⟨b0, b1, b2, b3⟩, tx, nd⟩ := s
              obtain ⟨f0, f1, f2, f3, f4, f5, f6, f7, f8, f9, f10, f11, f12, f13, f14⟩ := SF
              obtain ⟨g0, g1, g2, g3, g4, g5, g6, g7, g8, g9, g10, g11, g12, g13, g14⟩ := SX
              obtain ⟨r0, r1, r2, r3⟩ := SU
              simp only at f0 f1 f2 f3 f4 f5 f6 f7 f8 f9 f10 f11 f12 f13 f14 g0 g1 g2 g3 g4 g5 g6 g7 g8 g9 g10 g11 g12 g13 g14 IN1 n4 n5
              have hEq : St.eqb ⟨kd, ⟨x, y, wd, ht⟩, ⟨a0, a1, a2, a3⟩, ⟨b0, b1, b2, b3⟩, tx, nd⟩ ⟨kd, ⟨x, y, wd, ht⟩, ⟨a0, a1, a2, a3⟩, ⟨b0, b1, b2, b3⟩, tx, nd⟩ = true := St.eqb_refl _
              replace IN1 := Lib.hid IN1
              go_wp2
              refine wp_region_steady (Held wr 0 []) (by kernel_rfl) (by kernel_rfl) ⟨(by repeat (first | exact Below.refl _ _ | assumption | refine Below.drew ?_ | refine Below.alloc ?_ (by (try simp) <;> omega) _ | refine Below.setCell ?_ (by (try simp) <;> omega) _ | (refine Below.trans ?_ (Below.mono (by assumption) (by (try simp) <;> omega))))), (by (try simp) <;> omega), (by first | exact trivial | (simp only [Cells]; go_simp))⟩ ?_
              repeat (first | (refine' wpSteady_do _ _ _; rotate_left; (focus rfl); (focus (intro w1 hS R hR; have hc := hS.cells; simp only [Cells] at hc; obtain ⟨hco, hfo⟩ := bcell hS.old; go_simp; (try go_bits); first | exact hR _ hS | (go_at_call 20; (with_reducible refine (IN1.out _).mono ?_); rintro e w2 ⟨rfl, hb2⟩; exact ⟨_, rfl, hR _ (hS.below hb2)⟩))); simp only [Act.put, List.setIfInBounds_toArray, List.set_cons_zero, List.set_cons_succ]) | (refine wpSteady_pass ?_ ?_; (focus rfl); simp only [Act.put, List.setIfInBounds_toArray, List.set_cons_zero, List.set_cons_succ]))
              refine wpSteady_nil (fun uZ hSZ => ?_)
              have hcZ := hSZ.cells; have hbZ := hSZ.old; have hzZ := hSZ.size; clear hSZ; simp only [Cells] at hcZ; obtain ⟨hcoZ, hfoZ⟩ := bcell hbZ
              go_wp2
              go_roundw
              case rel => exact ⟨i + 1, by omega, by go_num, by rw [hsl.out]; go_num, hbr.trans (hbZ.mono zr)⟩
              case measure => simp [intOf]; omega
          · obtain rfl : i = n := by omega
            have eq0 : (fltS (xs.take i)).length = q := by rw [List.take_of_length_le (by have := en.out; omega)]; exact hq.out
            rw [eq0]
            clear eq0
            have rX := (h1.out.below hb0r).mono z0r
            have rY := (h2.out.below hb0r).mono z0r
            rw [en.out] at rX
            rw [em.out] at rY
            have JN := ljoin_any xs ys _ _ wr rX rY k1.out k2.out
            obtain ⟨j1, j2⟩ := join_d hc1.out hc2.out (by rw [en.out, em.out]; omega)
            rw [j1, j2] at JN
            have hlen : (xs ++ ys).length = i + m := by rw [List.length_append, en.out, em.out]
            have hSM := same_back xs ys
            rw [em.out] at hSM
            replace rX := Lib.hid rX
            replace rY := Lib.hid rY
            replace JN := Lib.hid JN
            replace hlen := Lib.hid hlen
            replace hSM := Lib.hid hSM
            clear j1 j2 hcr hfr ownF ownU hopen hsh hshm FL
            go_upto_region 21 with (first
              | (go_at_call 8; (with_reducible refine (JN.out).mono ?_); rintro e w8 ⟨hb8, vj, rfl, ownJ⟩)
              | go_in)
            have z8 := hb8.size
            have hb08 := hb0r.trans (hb8.mono z0r)
            have rX8 := (rX.out.below hb8).mono z8
            have rY8 := (rY.out.below hb8).mono z8
            have hmi : ∀ b : Bool, decide (m = 0) = b → ((m : Int) == 0) = b := fun b hb => by rw [← hb, Bool.eq_iff_iff]; simp
            obtain ⟨mb, hmb⟩ : ∃ mb, decide (m = 0) = mb := ⟨_, rfl⟩
            have hmi' := hmi mb hmb
            have hSMh := hSM.out
            rw [hmb] at hSMh
            have hmm : (mb == mb) = true := by simp
            have oJ : w8.ownsRow wr.heap.size 45 15 vj (i + m) ((xs ++ ys).flatMap St.enc) := by
              have := ownJ
              unfold Owns at this
              rw [hlen.out] at this
              exact this
            rcases ownJ.2 with ⟨rfl, hn0⟩ | ⟨g, cap, cur, rfl, hg, hh, hnc, hcm, _⟩
            · have hi0 : i = 0 := by have := hlen.out; omega
              have hm0 : m = 0 := by have := hlen.out; omega
              have hx : xs = [] := List.length_eq_zero_iff.1 (en.out.trans hi0)
              have hy : ys = [] := List.length_eq_zero_iff.1 (em.out.trans hm0)
              subst hx
              subst hy
              subst hi0
              subst hm0
              have nilrow : ∀ w9 : World, Row w9.heap.size 15 St.enc w9 (.slice none 0 0) [] := fun w9 => ⟨none, 0, rfl, by simp, by unfold maxLen; omega, fun h => by simp at h⟩
              have A1 := fun (w9 : World) (hb : Below w8.heap.size w8 w9) => alike_any [] [] (.slice none 0 0) (.slice s1 0 cc1) w9 (nilrow w9) ((rX8.below hb).mono hb.size) (by simp) (by simp)
              have A2 := fun (w9 : World) (hb : Below w8.heap.size w8 w9) => alike_any [] [] (.slice none 0 0) (.slice s2 0 cc2) w9 (nilrow w9) ((rY8.below hb).mono hb.size) (by simp) (by simp)
              have A3 := fun (w9 : World) (hb : Below w8.heap.size w8 w9) => lsame_any [] [] (.slice s1 0 cc1) (.slice none 0 0) w9 ((rX8.below hb).mono hb.size) (nilrow w9) (by simp) (by simp)
              rw [sameL_refl] at A1 A2 A3
              replace A1 := Lib.hid A1
              replace A2 := Lib.hid A2
              replace A3 := Lib.hid A3
              clear oJ ownJ hmb hSMh hmi rX8 rY8 hSM hlen hmi' nilrow
              go_wp2_with (first
                | (go_at_call 18; (with_reducible refine (A1.out _ (Below.refl _ _)).mono ?_); rintro e w9 ⟨rfl, hb9⟩)
                | (go_at_call 18; (with_reducible refine (A2.out _ hb9).mono ?_); rintro e w10 ⟨rfl, hb10⟩; have hb810 := hb9.trans (hb10.mono hb9.size))
                | (go_at_call 13; (with_reducible refine (A3.out _ hb810).mono ?_); rintro e w11 ⟨rfl, hb11⟩; have hb811 := hb810.trans (hb11.mono hb810.size))
                | go_in)
              all_goals
                go_ret
                exact ⟨rfl, hb08.trans (hb811.mono hb08.size)⟩
            · rw [hlen.out] at hnc ⊢
              unfold maxLen at hcm
              have A1 := fun (w9 : World) (hb : Below w8.heap.size w8 w9) => alike_any xs xs (.slice (some ⟨g, 0, none⟩) i cap) (.slice s1 i cc1) w9 ((own_head (s := some ⟨g, 0, none⟩) (ys := ys) (by rw [hlen.out] at ownJ; exact ownJ) en.out em.out (Nat.le_refl _) |>.below hb).mono hb.size) ((rX8.below hb).mono hb.size) (by rw [en.out]; omega) (by rw [en.out]; omega)
              have A2 := fun (w9 : World) (hb : Below w8.heap.size w8 w9) => alike_any ys ys (.slice (if cap = i then some ⟨g, 0, none⟩ else some ⟨g, i * 15, none⟩) m (cap - i)) (.slice s2 m cc2) w9 ((own_tail (by rw [hlen.out] at ownJ; exact ownJ) en.out em.out (Nat.le_refl _) |>.below hb).mono hb.size) ((rY8.below hb).mono hb.size) (by rw [em.out]; omega) (by rw [em.out]; omega)
              have A3 := fun (w9 : World) (hb : Below w8.heap.size w8 w9) => lsame_any xs (xs ++ ys) (.slice s1 i cc1) (.slice (some ⟨g, 0, none⟩) (i + m) cap) w9 ((rX8.below hb).mono hb.size) (by have := ((ownJ.row (Nat.le_refl _)).below hb).mono hb.size; rw [hlen.out] at this; exact this) (by rw [en.out]; omega) (by rw [hlen.out]; omega)
              rw [sameL_refl] at A1 A2
              rw [hSMh] at A3
              have q1 : (i : Int) ≤ cap := by omega
              have q2 : (i : Int) ≤ (i : Int) + m := by omega
              have q3 : (i : Int) + m ≤ cap := by omega
              have q4 : (0 : Int) ≤ i := by omega
              replace A1 := Lib.hid A1
              replace A2 := Lib.hid A2
              replace A3 := Lib.hid A3
              clear oJ ownJ hh hmb hSMh hmi rX8 rY8 hSM hlen
              go_wp2_with (first
                | (go_at_call 18; (with_reducible refine (A1.out _ (Below.refl _ _)).mono ?_); rintro e w9 ⟨rfl, hb9⟩)
                | (go_at_call 18; (with_reducible refine (A2.out _ hb9).mono ?_); rintro e w10 ⟨rfl, hb10⟩; have hb810 := hb9.trans (hb10.mono hb9.size))
                | (go_at_call 13; (with_reducible refine (A3.out _ hb810).mono ?_); rintro e w11 ⟨rfl, hb11⟩; have hb811 := hb810.trans (hb11.mono hb810.size))
                | go_in)
              all_goals
                go_ret
                exact ⟨rfl, hb08.trans (hb811.mono hb08.size)⟩
    · have hcb : (chkL ys == 0) = false := by simp [c2]
      have hcn : (chkL ys != 0) = true := by simp [c2]
      replace C1 := C1.out
      rw [c1] at C1
      replace C1 := Lib.hid C1
      clear c1
      go_enter Try.func4, Try.ntmps4
      go_wp2_with (first | (go_at_call 16; (with_reducible refine (alive_any _).mono ?_); rintro e w2 ⟨rfl, hb2⟩; have z2 := hb2.size; (try simp at z2); have hb02 : Below w.heap.size w w2 := (by repeat (first | exact Below.refl _ _ | assumption | refine Below.drew ?_ | refine Below.alloc ?_ (by (try simp) <;> omega) _ | refine Below.setCell ?_ (by (try simp) <;> omega) _ | (refine Below.trans ?_ (Below.mono (by assumption) (by (try simp) <;> omega))))); have z02 := hb02.size) | (go_at_call 17; (with_reducible refine (C1.out _ hb02).mono ?_); rintro e w3 ⟨rfl, hb3⟩; have z3 := hb3.size; have hb03 := hb02.trans (hb3.mono z02)) | (go_at_call 17; (with_reducible refine (C2.out _ hb03).mono ?_); rintro e w4 ⟨rfl, hb4⟩; have z4 := hb4.size; have hb04 := hb03.trans (hb4.mono (by omega))) | go_in)
      go_ret
      exact ⟨rfl, hb04⟩
  · have hcb : (chkL xs == 0) = false := by simp [c1]
    have hcn : (chkL xs != 0) = true := by simp [c1]
    go_enter Try.func4, Try.ntmps4
    go_wp2_with (first | (go_at_call 16; (with_reducible refine (alive_any _).mono ?_); rintro e w2 ⟨rfl, hb2⟩; have z2 := hb2.size; (try simp at z2); have hb02 : Below w.heap.size w w2 := (by repeat (first | exact Below.refl _ _ | assumption | refine Below.drew ?_ | refine Below.alloc ?_ (by (try simp) <;> omega) _ | refine Below.setCell ?_ (by (try simp) <;> omega) _ | (refine Below.trans ?_ (Below.mono (by assumption) (by (try simp) <;> omega))))); have z02 := hb02.size) | (go_at_call 17; (with_reducible refine (C1.out _ hb02).mono ?_); rintro e w3 ⟨rfl, hb3⟩; have z3 := hb3.size; have hb03 := hb02.trans (hb3.mono z02)) | go_in)
    go_ret
    exact ⟨rfl, hb03⟩
end Go.Proofs.Ytkmofpnefjgnkaa
