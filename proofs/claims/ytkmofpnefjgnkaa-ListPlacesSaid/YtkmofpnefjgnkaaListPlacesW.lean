/-
  The law ListPlaces, walked.
-/
import Derived.Test.YtkmofpnefjgnkaaLisAt
import Derived.Test.YtkmofpnefjgnkaaPlaM
import Derived.Test.YtkmofpnefjgnkaaHc
import Derived.Test.YtkmofpnefjgnkaaHa
import Derived.Test.YtkmofpnefjgnkaaHb
import Derived.Test.YtkmofpnefjgnkaaGy
namespace Go.Proofs.Ytkmofpnefjgnkaa
open Go.RowKit
set_option linter.unusedVariables false
attribute [local go_sem] vwp vUpon_value vUpon_skip vUpon_enter vUpon_row
set_option linter.unusedSimpArgs false
set_option linter.unusedVariables false
def badB (qs : List Re) : Bool := qs.any fun q => !mayR q
theorem bad_may {qs : List Re} (h : badB qs = false) : MayL qs := by
  unfold badB at h
  rw [List.any_eq_false] at h
  intro q hq
  simpa using h q hq
theorem bad_step {qs : List Re} {k : Nat} {q : Re} (h : qs[k]? = some q) : badB (qs.drop k) = (!mayR q || badB (qs.drop (k + 1))) := by
  rw [drop_get h]; rfl
theorem paint_len (s : St) (x y : Int) (out : List St) : (paintP s x y out).length ≤ out.length + 1 := by
  unfold paintP
  repeat' split
  all_goals simp
theorem at_len_go (x y : Int) : ∀ (l : List St) (b : Bool) (cl : List Bool) (out : List St), (atGo x y l b cl out).length ≤ out.length + l.length
  | [], b, cl, out => by simp [atGo]
  | s :: l, b, cl, out => by
    rw [at_cons]
    have hp := paint_len s x y out
    split
    · have := at_len_go x y l (b && hasR s.rect x y) (b :: cl) out
      simp; omega
    split
    · cases cl with
      | nil => simp
      | cons c cl =>
        have := at_len_go x y l c cl out
        simp; omega
    · split
      · have := at_len_go x y l b cl (paintP s x y out)
        simp; omega
      · have := at_len_go x y l b cl out
        simp; omega
theorem at_len (xs : List St) (x y : Int) : (atL xs x y).length ≤ xs.length := by
  have := at_len_go x y xs true [] []
  unfold atL
  simpa using this
theorem hasL_dr {l : List Re} {k : Nat} {q : Re} (h : l[k]? = some q) (x y : Int) : hasL (l.drop k) x y = (hasR q x y || hasL (l.drop (k + 1)) x y) := by
  rw [drop_get h]; rfl
set_option maxRecDepth 100000 in
theorem bad_any (qs : List Re) (v : Value) (w : World) (hl : Row w.heap.size 4 Re.enc w v qs) (hq : WfL qs) : Calls Try.prog 21 #[v] w fun e w' => e = .returned (.bool (badB qs)) ∧ Below w.heap.size w w' := by
  obtain ⟨s0, cap, rfl, hmax⟩ := hl.shape
  have hopen := fun h0 => row_re hl h0
  obtain ⟨n, hn⟩ : ∃ n, qs.length = n := ⟨_, rfl⟩
  rw [hn] at hopen hmax ⊢
  unfold maxLen at hmax
  clear hl
  obtain ⟨res, hres⟩ : ∃ r, badB qs = r := ⟨_, rfl⟩
  rw [hres]
  replace hopen := Lib.hid hopen
  replace hq := Lib.hid hq
  replace hn := Lib.hid hn
  replace hres := Lib.hid hres
  go_enter Try.func21, Try.ntmps21
  go_wp2
  go_loopw [3] (fun i wr => ∃ k : Nat, k ≤ n ∧ i = .int .i64 k ∧ badB (qs.drop k) = res ∧ Below w.heap.size w wr) (fun i _ => n - (intOf i).toNat)
  case atStart => exact ⟨0, Nat.zero_le _, rfl, hres.out, (by repeat (first | exact Below.refl _ _ | assumption | refine Below.drew ?_ | refine Below.alloc ?_ (by (try simp) <;> omega) _ | refine Below.setCell ?_ (by (try simp) <;> omega) _))⟩
  case round =>
    obtain ⟨k, hk, rfl, hgo, hbr⟩ := hrel
    have zr := hbr.size
    obtain ⟨hcr, hfr⟩ := bcell hbr
    by_cases hkn : k < n
    · obtain ⟨b, o, cap', e, hb, _, _, hel⟩ := hopen.out (by omega)
      simp at e
      obtain ⟨rfl, rfl⟩ := e
      obtain ⟨q, hqk⟩ : ∃ q, qs[k]? = some q := ⟨qs[k]'(by have := hn.out; omega), List.getElem?_eq_getElem _⟩
      obtain ⟨g0, g1, g2, g3⟩ := hel k q hqk
      have G := fun w => gcheck_any q w (hq.out q (List.mem_of_getElem? hqk))
      rw [bad_step hqk] at hgo
      have hkk : (k : Int) < n := by omega
      have yb : b < wr.heap.size := by omega
      clear hel hqk
      cases hm : mayR q
      · rw [hm] at G hgo
        simp only [Bool.false_eq_true, if_false] at G
        have hgo : true = res := hgo
        subst hgo
        replace G := Lib.hid G
        clear hm
        go_wp2_with (first
          | (go_at_call 38; (with_reducible refine (G.out _).mono ?_); rintro e w2 ⟨rfl, hb2⟩)
          | go_in)
        go_ret
        exact ⟨rfl, hbr.trans (hb2.mono zr)⟩
      · rw [hm] at G hgo
        simp only [if_true] at G
        have hgo : badB (qs.drop (k + 1)) = res := hgo
        replace G := Lib.hid G
        replace hgo := Lib.hid hgo
        clear hm
        go_wp2_with (first
          | (go_at_call 38; (with_reducible refine (G.out _).mono ?_); rintro e w2 ⟨rfl, hb2⟩)
          | go_in)
        go_roundw
        case rel => exact ⟨k + 1, by omega, by go_num, hgo.out, hbr.trans (hb2.mono zr)⟩
        case measure => simp [intOf]; omega
    · obtain rfl : k = n := by omega
      have e1 : qs.drop k = [] := List.drop_eq_nil_of_le (by have := hn.out; omega)
      rw [e1] at hgo
      have hgo : false = res := hgo
      subst hgo
      go_wp2
      go_ret
      exact ⟨rfl, hbr⟩
set_option maxHeartbeats 4000000 in
set_option maxRecDepth 100000 in
theorem walk_ListPlaces (xs : List St) (qs : List Re) (v0 v1 : Value) (w : World) (h1 : Row w.heap.size 15 St.enc w v0 xs) (k1 : ∀ s ∈ xs, s.Wf) (h2 : Row w.heap.size 4 Re.enc w v1 qs) (k2 : WfL qs) :
    Calls Try.prog 5 #[v0, v1] w fun e w' => e = .returned (.bool true) ∧ Below w.heap.size w w' := by
  have hX := fun W (h : Below w.heap.size w W) => (h1.below h).mono h.size
  have hQ := fun W (h : Below w.heap.size w W) => (h2.below h).mono h.size
  have C1 := fun W (h : Below w.heap.size w W) => lcheck_any xs v0 W (hX W h) k1
  have B1 := fun W (h : Below w.heap.size w W) => bad_any qs v1 W (hQ W h) k2
  have NM := fun W (h : Below w.heap.size w W) => lnorm_any xs v0 W (hX W h) k1
  have WI := fun W (h : Below w.heap.size w W) => lwithin_any xs qs v0 v1 W (hX W h) k1 (hQ W h) k2
  have BN := fun W (h : Below w.heap.size w W) => lbound_any xs v0 W (hX W h) k1
  obtain ⟨s0, c0, rfl, hmax0⟩ := h1.shape
  obtain ⟨s1, c1, rfl, hmax1⟩ := h2.shape
  obtain ⟨n, en⟩ : ∃ n, xs.length = n := ⟨_, rfl⟩
  obtain ⟨m, em⟩ : ∃ n, qs.length = n := ⟨_, rfl⟩
  rw [en] at hX C1 NM WI BN hmax0 ⊢
  rw [em] at hQ B1 WI hmax1 ⊢
  unfold maxLen at hmax0 hmax1
  clear h1 h2
  by_cases q1 : 40 < n
  · have d1 : decide ((40 : Int) < n) = true := by simp; omega
    clear hX hQ C1 B1 NM WI BN
    as_aux_lemma =>
      go_enter Try.func5, Try.ntmps5
      go_wp2_with (first
        | (go_at_call 16; (with_reducible refine (alive_any _).mono ?_); rintro e w1 ⟨rfl, hb1⟩; have z1 := hb1.size)
        | (go_at_call 17; (with_reducible refine (C1.out _ hb1).mono ?_); rintro e w2 ⟨rfl, hb2⟩; have h02 := hb1.trans (hb2.mono z1); have z02 := h02.size)
        | (go_at_call 21; (with_reducible refine (B1.out _ h02).mono ?_); rintro e w3 ⟨rfl, hb3⟩; have h03 := h02.trans (hb3.mono z02); have z03 := h03.size)
        | go_in)
      go_ret
      exact ⟨rfl, hb1⟩
  have d1 : decide ((40 : Int) < n) = false := by simp; omega
  by_cases q2 : 8 < m
  · have d2 : decide ((8 : Int) < m) = true := by simp; omega
    clear hX hQ C1 B1 NM WI BN
    as_aux_lemma =>
      go_enter Try.func5, Try.ntmps5
      go_wp2_with (first
        | (go_at_call 16; (with_reducible refine (alive_any _).mono ?_); rintro e w1 ⟨rfl, hb1⟩; have z1 := hb1.size)
        | (go_at_call 17; (with_reducible refine (C1.out _ hb1).mono ?_); rintro e w2 ⟨rfl, hb2⟩; have h02 := hb1.trans (hb2.mono z1); have z02 := h02.size)
        | (go_at_call 21; (with_reducible refine (B1.out _ h02).mono ?_); rintro e w3 ⟨rfl, hb3⟩; have h03 := h02.trans (hb3.mono z02); have z03 := h03.size)
        | go_in)
      go_ret
      exact ⟨rfl, hb1⟩
  have d2 : decide ((8 : Int) < m) = false := by simp; omega
  by_cases c1 : chkL xs = 0
  · rw [c1] at C1 NM
    cases c2 : badB qs
    · rw [c2] at B1
      have mq := bad_may c2
      obtain ⟨w1e, w2e, wat⟩ := within_law c1 k1 (kinds_of c1) (by omega) mq (by omega)
      have nat := fun x y => at_norm c1 k1 (kinds_of c1) x y
      have nn := norm_norm c1 k1
      have nck := chk_norm c1
      have nwf := norm_wf c1 k1
      have wwf := within_wf c1 k1 mq
      have nle := norm_len (xs := xs)
      have be := bound_04 c1
      have bm := bound_may c1
      have bh := fun h0 x y => bound_has c1 h0 k1 (kinds_of c1) x y
      rw [w1e] at WI
      obtain ⟨N, hN⟩ : ∃ N, normS xs = N := ⟨_, rfl⟩
      obtain ⟨T, hT⟩ : ∃ N, wiS xs qs = N := ⟨_, rfl⟩
      obtain ⟨G, hG⟩ : ∃ N, bdE xs = N := ⟨_, rfl⟩
      obtain ⟨D, hD⟩ : ∃ N, bdL xs = N := ⟨_, rfl⟩
      rw [hN] at NM nat nn nck nwf nle
      rw [hT] at WI w2e wat wwf
      rw [hG] at BN be bh
      rw [hD] at BN bm bh
      rw [en] at nle
      have CN := fun W v (h : Row W.heap.size 15 St.enc W v N) => lcheck_any N v W h nwf
      have CT := fun W v (h : Row W.heap.size 15 St.enc W v T) => lcheck_any T v W h wwf
      rw [nck] at CN
      rw [w2e] at CT
      have NN := fun W v (h : Row W.heap.size 15 St.enc W v N) => lnorm_any N v W h nwf
      rw [nn, nck] at NN
      have AX := fun x y hx hy W (h : Below w.heap.size w W) => at_any xs (.slice s0 n c0) x y W (hX W h) k1 c1 hx hy
      have AN := fun x y hx hy W v (h : Row W.heap.size 15 St.enc W v N) => at_any N v x y W h nwf nck hx hy
      have AT := fun x y hx hy W v (h : Row W.heap.size 15 St.enc W v T) => at_any T v x y W h wwf w2e hx hy
      have BH := fun x y hx hy W v (h : Row W.heap.size 4 Re.enc W v D) => rhas_any D v x y W h (wf_of_may bm.1) hx hy
      have bc := chk_of bm.1 bm.2
      rw [bc] at BH
      have bE : ∀ x y, hasE D x y = hasL D x y := fun x y => by unfold hasE; rw [if_pos bc]
      clear hN hT hG hD w1e w2e nn nck bc c2 wwf nwf
      replace C1 := Lib.hid C1
      replace B1 := Lib.hid B1
      replace NM := Lib.hid NM
      replace WI := Lib.hid WI
      replace BN := Lib.hid BN
      replace CN := Lib.hid CN
      replace CT := Lib.hid CT
      replace NN := Lib.hid NN
      replace AX := Lib.hid AX
      replace AN := Lib.hid AN
      replace AT := Lib.hid AT
      replace BH := Lib.hid BH
      replace bE := Lib.hid bE
      replace bh := Lib.hid bh
      replace wat := Lib.hid wat
      replace nat := Lib.hid nat
      replace hX := Lib.hid hX
      replace hQ := Lib.hid hQ
      replace en := Lib.hid en
      replace em := Lib.hid em
      replace c1 := Lib.hid c1
      replace k1 := Lib.hid k1
      replace k2 := Lib.hid k2
      replace mq := Lib.hid mq
      clear bm
      go_enter Try.func5, Try.ntmps5
      go_upto_region 4 with (first
        | (go_at_call 16; (with_reducible refine (alive_any _).mono ?_); rintro e w1 ⟨rfl, hb1⟩; have z1 := hb1.size)
        | (go_at_call 17; (with_reducible refine (C1.out _ hb1).mono ?_); rintro e w2 ⟨rfl, hb2⟩; have h02 := hb1.trans (hb2.mono z1); have z02 := h02.size)
        | (go_at_call 21; (with_reducible refine (B1.out _ h02).mono ?_); rintro e w3 ⟨rfl, hb3⟩; have h03 := h02.trans (hb3.mono z02); have z03 := h03.size)
        | go_in)
      clear hb1 hb2 hb3 z1 h02 z02 C1 B1
      go_upto_region 7 with (first
        | (go_at_call 22; (with_reducible refine (NM.out _ h03).mono ?_); rintro e w4 ⟨hb4, vN, rfl, oN⟩; have h04 := h03.trans (hb4.mono z03); have z04 := h04.size; have z4 := hb4.size)
        | (go_at_call 23; (with_reducible refine (WI.out _ h04).mono ?_); rintro e w5 ⟨hb5, vT, rfl, oT⟩; have h05 := h04.trans (hb5.mono z04); have z05 := h05.size; have z5 := hb5.size)
        | (go_at_call 24; (with_reducible refine (BN.out _ h05).mono ?_); rintro e w6 ⟨hb6, vD, rfl, oD⟩; have h06 := h05.trans (hb6.mono z05); have z06 := h06.size; have z6 := hb6.size)
        | go_in)
      have oN6 := (oN.below hb5 (Nat.le_refl _)).below hb6 (Nat.le_refl _)
      have oT6 := oT.below hb6 (Nat.le_refl _)
      obtain ⟨sN, cN, rfl⟩ := own_slice oN6
      obtain ⟨sT, cT, rfl⟩ := own_slice oT6
      have rN := fun W (h : Below w6.heap.size w6 W) => ((oN6.row (Nat.le_refl _)).below h).mono h.size
      have rT := fun W (h : Below w6.heap.size w6 W) => ((oT6.row (Nat.le_refl _)).below h).mono h.size
      have rD := fun W (h : Below w6.heap.size w6 W) => ((oD.row (Nat.le_refl _)).below h).mono h.size
      obtain ⟨sD, cD, rfl⟩ := oD.shape
      obtain ⟨a, ha⟩ : ∃ a, N.length = a := ⟨_, rfl⟩
      obtain ⟨d, hd⟩ : ∃ a, T.length = a := ⟨_, rfl⟩
      obtain ⟨f, hf⟩ : ∃ a, D.length = a := ⟨_, rfl⟩
      rw [ha] at rN nle ⊢
      rw [hd] at rT ⊢
      rw [hf] at rD ⊢
      replace ha := Lib.hid ha
      replace rN := Lib.hid rN
      replace rT := Lib.hid rT
      replace rD := Lib.hid rD
      clear oN oT oD oN6 oT6 hb4 hb5 hb6 z4 z5 z6 h03 z03 h04 z04 h05 z05 hd hf NM WI BN
      have hG : ((G != 0) = false) ∨ ((G != 0) = true ∧ (G != 4) = false) := by
        rcases be with e | e <;> rw [e]
        · left; rfl
        · right; exact ⟨rfl, rfl⟩
      replace be := Lib.hid be
      go_cut [80] (fun ev wx => ev = .bool false ∧ Below w6.heap.size w6 wx)
      case first =>
        as_aux_lemma =>
          rcases hG with g1 | ⟨g1, g2⟩
          · go_wp2_with (first
              | (go_at_call 17; (with_reducible refine (CN.out _ _ (rN.out _ (Below.refl _ _))).mono ?_); rintro e w7 ⟨rfl, hb7⟩; have z7 := hb7.size)
              | (go_at_call 17; (with_reducible refine (CT.out _ _ (rT.out _ hb7)).mono ?_); rintro e w8 ⟨rfl, hb8⟩)
              | go_in)
            go_meet
            case rel => exact ⟨rfl, hb7.trans (hb8.mono z7)⟩
          · go_wp2_with (first
              | (go_at_call 17; (with_reducible refine (CN.out _ _ (rN.out _ (Below.refl _ _))).mono ?_); rintro e w7 ⟨rfl, hb7⟩; have z7 := hb7.size)
              | (go_at_call 17; (with_reducible refine (CT.out _ _ (rT.out _ hb7)).mono ?_); rintro e w8 ⟨rfl, hb8⟩)
              | go_in)
            go_meet
            case rel => exact ⟨rfl, hb7.trans (hb8.mono z7)⟩
      case rest =>
        obtain ⟨rfl, h6c⟩ := hcut
        have z6c := h6c.size
        clear CN CT hG
        go_wp2
        go_loopw [12] (fun yv wr => ∃ y : Int, -3 ≤ y ∧ y ≤ 21 ∧ yv = .int .i64 y ∧ Below w6.heap.size w6 wr) (fun yv _ => (21 - intOf yv).toNat)
        case atStart => exact ⟨-3, by omega, by omega, rfl, h6c⟩
        case round =>
          obtain ⟨y, y0, y1, rfl, hy⟩ := hrel
          obtain ⟨wy, hwy⟩ : ∃ x, x = wr := ⟨wr, rfl⟩
          subst hwy
          clear h6c z6c
          have zy := hy.size
          by_cases hy21 : y < 21
          · have dy : decide (y < 21) = true := by simpa using hy21
            go_wp2
            go_loopw [13] (fun xv wr => ∃ x : Int, -3 ≤ x ∧ x ≤ 21 ∧ xv = .int .i64 x ∧ Below w6.heap.size w6 wr) (fun xv _ => (21 - intOf xv).toNat)
            case atStart => exact ⟨-3, by omega, by omega, rfl, hy⟩
            case round =>
              obtain ⟨x, x0, x1, rfl, hx⟩ := hrel
              obtain ⟨wx, hwx⟩ : ∃ x, x = wr := ⟨wr, rfl⟩
              subst hwx
              clear hy zy
              have zx := hx.size
              by_cases hx21 : x < 21
              · have dx : decide (x < 21) = true := by simpa using hx21
                go_upto_region 16 with fail
                have hbx : Blk (wx.alloc (.cells #[.int .i64 x, .int .i64 y] 24)) wx.heap.size [.int .i64 x, .int .i64 y] 24 := Blk.new' rfl
                have hp1 : Below wx.heap.size wx (wx.alloc (.cells #[.int .i64 x, .int .i64 y] 24)) := (by repeat (first | exact Below.refl _ _ | assumption | refine Below.drew ?_ | refine Below.alloc ?_ (by (try simp) <;> omega) _ | refine Below.setCell ?_ (by (try simp) <;> omega) _ | (refine Below.trans ?_ (Below.mono (by assumption) (by (try simp) <;> omega)))))
                obtain ⟨wp, hwp⟩ : ∃ u, wx.alloc (.cells #[.int .i64 x, .int .i64 y] 24) = u := ⟨_, rfl⟩
                rw [hwp] at hbx hp1 ⊢
                clear hwp
                have ybx := hbx.lt
                have hp := hx.trans (hp1.mono zx)
                have zp := hp.size
                have p0 := hbx.cell (o := 0) rfl
                have p1 := hbx.cell (o := 1) rfl
                have ix : I64 x := ⟨by omega, by omega⟩
                have iy : I64 y := ⟨by omega, by omega⟩
                have wat' := wat.out x y
                have nat' := nat.out x y
                have bh' := fun h0 => bh.out h0 x y
                have bE' := bE.out x y
                obtain ⟨A, hA⟩ : ∃ A, atL xs x y = A := ⟨_, rfl⟩
                rw [hA] at wat' nat' bh'
                have PX := fun W (h : Below w6.heap.size w6 W) => AX.out x y ix iy W (h06.trans (h.mono z06))
                have PN := fun W (h : Below w6.heap.size w6 W) => AN.out x y ix iy W _ (rN.out W h)
                have PT := fun W (h : Below w6.heap.size w6 W) => AT.out x y ix iy W _ (rT.out W h)
                have PH := fun W (h : Below w6.heap.size w6 W) => BH.out x y ix iy W _ (rD.out W h)
                rw [hA] at PX
                rw [nat'] at PN
                rw [bE'] at PH
                replace PX := Lib.hid PX
                replace PN := Lib.hid PN
                replace PT := Lib.hid PT
                replace PH := Lib.hid PH
                obtain ⟨R, hR⟩ : ∃ R, hasL qs x y = R := ⟨_, rfl⟩
                rw [hR] at wat'
                have hRR := Lib.hid hR
                clear hR
                replace wat' := Lib.hid wat'
                replace bh' := Lib.hid bh'
                replace hbx := Lib.hid hbx
                have lA : A.length ≤ 40 := by have h1 := at_len xs x y; have h2 := en.out; rw [hA] at h1; omega
                clear nat' hA bE' hp1
                go_upto_region 18 with (first
                  | (go_at_call 25; (with_reducible refine (PX.out _ hp).mono ?_); rintro e w7 ⟨v7, rfl, o7, hb7⟩)
                  | go_in)
                have z7 := hb7.size
                have h67 := hp.trans (hb7.mono zp)
                have z67 := h67.size
                have r7 := fun W (h : Below w7.heap.size w7 W) => ((o7.row (Nat.le_refl _)).below h).mono h.size
                obtain ⟨s7, c7, rfl⟩ := own_slice o7
                obtain ⟨L, hL⟩ : ∃ L, A.length = L := ⟨_, rfl⟩
                rw [hL] at r7 lA ⊢
                replace r7 := Lib.hid r7
                have p0 := ((bcell hb7).1 wx.heap.size 0 ybx).trans p0
                have p1 := ((bcell hb7).1 wx.heap.size 1 ybx).trans p1
                have yp := Nat.lt_of_lt_of_le ybx z7
                have R6 := hRR.out
                clear hbx hb7 hp o7
                clear AX AN AT BH bE bh wat nat PX zx zp
                go_wp2
                go_loopw [16, 17] (fun bv iv wr => ∃ (k : Nat) (b : Bool), k ≤ m ∧ iv = .int .i64 k ∧ bv = .bool b ∧ Hid ((b || hasL (qs.drop k) x y) = R) ∧ Below w7.heap.size w7 wr) (fun _ iv _ => m - (intOf iv).toNat)
                case atStart => exact ⟨0, false, Nat.zero_le _, rfl, rfl, Lib.hid R6, Below.refl _ _⟩
                case round =>
                  obtain ⟨k, b, hk, rfl, rfl, hgo, hbr⟩ := hrel
                  have zr := hbr.size
                  have h6r := h67.trans (hbr.mono z67)
                  have p0 := ((bcell hbr).1 wx.heap.size 0 yp).trans p0
                  have p1 := ((bcell hbr).1 wx.heap.size 1 yp).trans p1
                  have ypr := Nat.lt_of_lt_of_le yp zr
                  by_cases hkn : k < m
                  · have ho := row_re (hQ.out wr (h06.trans (h6r.mono z06)))
                    rw [em.out] at ho
                    obtain ⟨bq, oq, cap', e, hb, _, _, hel⟩ := ho (by omega)
                    simp at e
                    obtain ⟨rfl, rfl⟩ := e
                    obtain ⟨q, hq⟩ := get_at em.out hkn
                    obtain ⟨g0, g1, g2, g3⟩ := hel k q hq
                    have H := fun w => ghas_any q x y w (mq.out q (List.mem_of_getElem? hq)) ix iy
                    have hkk : (k : Int) < m := by omega
                    have hg := hgo.out
                    rw [hasL_dr hq] at hg
                    generalize hasR q x y = r at H hg
                    replace H := Lib.hid H
                    clear hel hq
                    cases b
                    · have hg' := Lib.hid (show (r || hasL (qs.drop (k + 1)) x y) = R from hg)
                      clear hg hgo
                      go_wp2
                      refine wp_region_steady (Held wr 0 []) (by kernel_rfl) (by kernel_rfl) ⟨(by repeat (first | exact Below.refl _ _ | assumption | refine Below.drew ?_ | refine Below.alloc ?_ (by (try simp) <;> omega) _ | refine Below.setCell ?_ (by (try simp) <;> omega) _ | (refine Below.trans ?_ (Below.mono (by assumption) (by (try simp) <;> omega))))), (by (try simp) <;> omega), (by first | exact trivial | (simp only [Cells]; go_simp))⟩ ?_
                      repeat (first | (refine' wpSteady_do _ _ _; rotate_left; (focus rfl); (focus (intro w1 hS R hR; have hc := hS.cells; simp only [Cells] at hc; obtain ⟨hco, hfo⟩ := bcell hS.old; go_simp; (try go_bits); first | exact hR _ hS | (go_at_call 26; (with_reducible refine (H.out _).mono ?_); rintro e w2 ⟨rfl, hb2⟩; exact ⟨_, rfl, hR _ (hS.below hb2)⟩))); simp only [Act.put, List.setIfInBounds_toArray, List.set_cons_zero, List.set_cons_succ]) | (refine wpSteady_pass ?_ ?_; (focus rfl); simp only [Act.put, List.setIfInBounds_toArray, List.set_cons_zero, List.set_cons_succ]))
                      refine wpSteady_nil (fun uA hSA => ?_)
                      have hcA := hSA.cells; have hbA := hSA.old; have hzA := hSA.size; clear hSA; simp only [Cells] at hcA; obtain ⟨hcoA, hfoA⟩ := bcell hbA
                      go_wp2
                      go_roundw
                      case rel => exact ⟨k + 1, r, by omega, by go_num, rfl, hg', hbr.trans (hbA.mono zr)⟩
                      case measure => simp [intOf]; omega
                    · have hg' := Lib.hid (show (true || hasL (qs.drop (k + 1)) x y) = R from hg)
                      clear hg hgo
                      go_wp2
                      refine wp_region_steady (Held wr 0 []) (by kernel_rfl) (by kernel_rfl) ⟨(by repeat (first | exact Below.refl _ _ | assumption | refine Below.drew ?_ | refine Below.alloc ?_ (by (try simp) <;> omega) _ | refine Below.setCell ?_ (by (try simp) <;> omega) _ | (refine Below.trans ?_ (Below.mono (by assumption) (by (try simp) <;> omega))))), (by (try simp) <;> omega), (by first | exact trivial | (simp only [Cells]; go_simp))⟩ ?_
                      repeat (first | (refine' wpSteady_do _ _ _; rotate_left; (focus rfl); (focus (intro w1 hS R hR; have hc := hS.cells; simp only [Cells] at hc; obtain ⟨hco, hfo⟩ := bcell hS.old; go_simp; (try go_bits); first | exact hR _ hS | fail)); simp only [Act.put, List.setIfInBounds_toArray, List.set_cons_zero, List.set_cons_succ]) | (refine wpSteady_pass ?_ ?_; (focus rfl); simp only [Act.put, List.setIfInBounds_toArray, List.set_cons_zero, List.set_cons_succ]))
                      refine wpSteady_nil (fun uA hSA => ?_)
                      have hcA := hSA.cells; have hbA := hSA.old; have hzA := hSA.size; clear hSA; simp only [Cells] at hcA; obtain ⟨hcoA, hfoA⟩ := bcell hbA
                      go_wp2
                      go_roundw
                      case rel => exact ⟨k + 1, true, by omega, by go_num, rfl, hg', hbr.trans (hbA.mono zr)⟩
                      case measure => simp [intOf]; omega
                  · obtain rfl : k = m := by omega
                    have hg := hgo.out
                    rw [List.drop_eq_nil_of_le (by have := em.out; omega)] at hg
                    have hg : b = R := by simpa [hasL] using hg
                    subst hg
                    have S1 := fun W v8 (h8 : Row W.heap.size 15 St.enc W v8 A) (h : Below w7.heap.size w7 W) => salike_any A A v8 _ W h8 (r7.out W h) (by rw [hL]; omega) (by rw [hL]; omega)
                    rw [sameL_refl] at S1
                    have S1 := Lib.hid S1
                    have P2 := PT.out
                    rw [wat'.out] at P2
                    have h7r := hbr
                    clear hgo hRR R6 wat' PT
                    cases b
                    · simp only [Bool.false_eq_true, if_false] at P2
                      replace P2 := Lib.hid P2
                      as_aux_lemma =>
                        go_upto_region 25 with (first
                          | (go_at_call 25; (with_reducible refine (PN.out _ h6r).mono ?_); rintro e w8 ⟨v8, rfl, o8, hb8⟩; have p0 := ((bcell hb8).1 wx.heap.size 0 ypr).trans p0; have p1 := ((bcell hb8).1 wx.heap.size 1 ypr).trans p1; have ypr := Nat.lt_of_lt_of_le ypr (hb8).size; have h6r := h6r.trans ((hb8).mono h6r.size); have h7r := h7r.trans ((hb8).mono h7r.size))
                          | (go_at_call 18; (with_reducible refine (S1.out _ _ (o8.row (Nat.le_refl _)) h7r).mono ?_); rintro e w9 ⟨rfl, hb9⟩; have p0 := ((bcell hb9).1 wx.heap.size 0 ypr).trans p0; have p1 := ((bcell hb9).1 wx.heap.size 1 ypr).trans p1; have ypr := Nat.lt_of_lt_of_le ypr (hb9).size; have h6r := h6r.trans ((hb9).mono h6r.size); have h7r := h7r.trans ((hb9).mono h7r.size))
                          | (go_at_call 25; (with_reducible refine (P2.out _ h6r).mono ?_); rintro e w10 ⟨v10, rfl, o10, hb10⟩; have p0 := ((bcell hb10).1 wx.heap.size 0 ypr).trans p0; have p1 := ((bcell hb10).1 wx.heap.size 1 ypr).trans p1; have ypr := Nat.lt_of_lt_of_le ypr (hb10).size; have h6r := h6r.trans ((hb10).mono h6r.size); have h7r := h7r.trans ((hb10).mono h7r.size); obtain ⟨s10, c10, rfl⟩ := own_slice (show w10.ownsRow _ 45 15 v10 0 [] from o10))
                          | (go_at_call 27; (with_reducible refine (PH.out _ h6r).mono ?_); rintro e w12 ⟨rfl, hb12⟩; have p0 := ((bcell hb12).1 wx.heap.size 0 ypr).trans p0; have p1 := ((bcell hb12).1 wx.heap.size 1 ypr).trans p1; have ypr := Nat.lt_of_lt_of_le ypr (hb12).size; have h6r := h6r.trans ((hb12).mono h6r.size); have h7r := h7r.trans ((hb12).mono h7r.size))
                          | go_in)
                        rcases be.out with g0 | g4
                        · have hh := bh'.out g0
                          subst g0
                          by_cases l0 : L = 0
                          · have hf : hasL D x y = false := by
                              cases hx9 : hasL D x y
                              · rfl
                              · exact absurd (List.length_eq_zero_iff.1 (hL.trans l0)) (hh.1 hx9)
                            rw [hf]
                            subst l0
                            clear hh hf
                            go_wp2
                            go_roundw
                            case rel => exact ⟨x + 1, by omega, by omega, rfl, h6r⟩
                            case measure => simp [intOf]; omega
                          · have ht : hasL D x y = true := hh.2 (fun e => l0 (by rw [← hL, e]; rfl))
                            rw [ht]
                            have l1 : decide ((0 : Int) < L) = true := by simp; omega
                            have l2 : (0 : Int) < L := by omega
                            have l3 : 0 < L := by omega
                            clear hh ht
                            go_wp2
                            go_roundw
                            case rel => exact ⟨x + 1, by omega, by omega, rfl, h6r⟩
                            case measure => simp [intOf]; omega
                        · subst g4
                          go_wp2
                          go_roundw
                          case rel => exact ⟨x + 1, by omega, by omega, rfl, h6r⟩
                          case measure => simp [intOf]; omega
                    · simp only [if_true] at P2
                      replace P2 := Lib.hid P2
                      as_aux_lemma =>
                        go_upto_region 25 with (first
                          | (go_at_call 25; (with_reducible refine (PN.out _ h6r).mono ?_); rintro e w8 ⟨v8, rfl, o8, hb8⟩; have p0 := ((bcell hb8).1 wx.heap.size 0 ypr).trans p0; have p1 := ((bcell hb8).1 wx.heap.size 1 ypr).trans p1; have ypr := Nat.lt_of_lt_of_le ypr (hb8).size; have h6r := h6r.trans ((hb8).mono h6r.size); have h7r := h7r.trans ((hb8).mono h7r.size))
                          | (go_at_call 18; (with_reducible refine (S1.out _ _ (o8.row (Nat.le_refl _)) h7r).mono ?_); rintro e w9 ⟨rfl, hb9⟩; have p0 := ((bcell hb9).1 wx.heap.size 0 ypr).trans p0; have p1 := ((bcell hb9).1 wx.heap.size 1 ypr).trans p1; have ypr := Nat.lt_of_lt_of_le ypr (hb9).size; have h6r := h6r.trans ((hb9).mono h6r.size); have h7r := h7r.trans ((hb9).mono h7r.size))
                          | (go_at_call 25; (with_reducible refine (P2.out _ h6r).mono ?_); rintro e w10 ⟨v10, rfl, o10, hb10⟩; have p0 := ((bcell hb10).1 wx.heap.size 0 ypr).trans p0; have p1 := ((bcell hb10).1 wx.heap.size 1 ypr).trans p1; have ypr := Nat.lt_of_lt_of_le ypr (hb10).size; have h6r := h6r.trans ((hb10).mono h6r.size); have h7r := h7r.trans ((hb10).mono h7r.size))
                          | (go_at_call 18; (with_reducible refine (S1.out _ _ (o10.row (Nat.le_refl _)) h7r).mono ?_); rintro e w11 ⟨rfl, hb11⟩; have p0 := ((bcell hb11).1 wx.heap.size 0 ypr).trans p0; have p1 := ((bcell hb11).1 wx.heap.size 1 ypr).trans p1; have ypr := Nat.lt_of_lt_of_le ypr (hb11).size; have h6r := h6r.trans ((hb11).mono h6r.size); have h7r := h7r.trans ((hb11).mono h7r.size))
                          | (go_at_call 27; (with_reducible refine (PH.out _ h6r).mono ?_); rintro e w12 ⟨rfl, hb12⟩; have p0 := ((bcell hb12).1 wx.heap.size 0 ypr).trans p0; have p1 := ((bcell hb12).1 wx.heap.size 1 ypr).trans p1; have ypr := Nat.lt_of_lt_of_le ypr (hb12).size; have h6r := h6r.trans ((hb12).mono h6r.size); have h7r := h7r.trans ((hb12).mono h7r.size))
                          | go_in)
                        rcases be.out with g0 | g4
                        · have hh := bh'.out g0
                          subst g0
                          by_cases l0 : L = 0
                          · have hf : hasL D x y = false := by
                              cases hx9 : hasL D x y
                              · rfl
                              · exact absurd (List.length_eq_zero_iff.1 (hL.trans l0)) (hh.1 hx9)
                            rw [hf]
                            subst l0
                            clear hh hf
                            go_wp2
                            go_roundw
                            case rel => exact ⟨x + 1, by omega, by omega, rfl, h6r⟩
                            case measure => simp [intOf]; omega
                          · have ht : hasL D x y = true := hh.2 (fun e => l0 (by rw [← hL, e]; rfl))
                            rw [ht]
                            have l1 : decide ((0 : Int) < L) = true := by simp; omega
                            have l2 : (0 : Int) < L := by omega
                            have l3 : 0 < L := by omega
                            clear hh ht
                            go_wp2
                            go_roundw
                            case rel => exact ⟨x + 1, by omega, by omega, rfl, h6r⟩
                            case measure => simp [intOf]; omega
                        · subst g4
                          go_wp2
                          go_roundw
                          case rel => exact ⟨x + 1, by omega, by omega, rfl, h6r⟩
                          case measure => simp [intOf]; omega
              · have dx : decide (x < 21) = false := by simp; omega
                go_wp2
                go_roundw
                case rel => exact ⟨y + 1, by omega, by omega, rfl, hx⟩
                case measure => simp [intOf]; omega
          · have dy : decide (y < 21) = false := by simp; omega
            have dn1 : decide ((a : Int) ≤ n) = true := by simp; omega
            have dn2 : decide (a ≤ n) = true := by simp; omega
            have dn3 : (a : Int) ≤ n := by omega
            go_wp2_with (first
              | (go_at_call 22; (with_reducible refine (NN.out _ _ (rN.out _ hy)).mono ?_); rintro e w7 ⟨hb7, v7, rfl, o7⟩; have z7 := hb7.size; have h67 := hy.trans (hb7.mono zy); have r7 := Lib.hid (o7.row (Nat.le_refl _)); obtain ⟨s7, c7, rfl⟩ := own_slice o7; have oo := Lib.hid o7; clear o7)
              | (go_at_call 18; (with_reducible refine (salike_any N N _ _ _ r7.out (rN.out _ h67) (by have := ha.out; omega) (by have := ha.out; omega)).mono ?_); rintro e w8 ⟨e8, hb8⟩; rw [sameL_refl] at e8; subst e8)
              | go_in)
            go_ret
            exact ⟨rfl, h06.trans ((h67.trans (hb8.mono h67.size)).mono z06)⟩
    · rw [c2] at B1
      replace C1 := Lib.hid C1
      replace B1 := Lib.hid B1
      clear hX hQ NM WI BN c1 c2
      as_aux_lemma =>
        go_enter Try.func5, Try.ntmps5
        go_wp2_with (first
          | (go_at_call 16; (with_reducible refine (alive_any _).mono ?_); rintro e w1 ⟨rfl, hb1⟩; have z1 := hb1.size)
          | (go_at_call 17; (with_reducible refine (C1.out _ hb1).mono ?_); rintro e w2 ⟨rfl, hb2⟩; have h02 := hb1.trans (hb2.mono z1); have z02 := h02.size)
          | (go_at_call 21; (with_reducible refine (B1.out _ h02).mono ?_); rintro e w3 ⟨rfl, hb3⟩; have h03 := h02.trans (hb3.mono z02); have z03 := h03.size)
          | go_in)
        go_ret
        exact ⟨rfl, h03⟩
  · have hcb : (chkL xs == 0) = false := by simp [c1]
    have hcn : (chkL xs != 0) = true := by simp [c1]
    replace C1 := Lib.hid C1
    clear hX hQ B1 NM WI BN
    as_aux_lemma =>
      go_enter Try.func5, Try.ntmps5
      go_wp2_with (first
        | (go_at_call 16; (with_reducible refine (alive_any _).mono ?_); rintro e w1 ⟨rfl, hb1⟩; have z1 := hb1.size)
        | (go_at_call 17; (with_reducible refine (C1.out _ hb1).mono ?_); rintro e w2 ⟨rfl, hb2⟩; have h02 := hb1.trans (hb2.mono z1); have z02 := h02.size)
        | (go_at_call 21; (with_reducible refine (B1.out _ h02).mono ?_); rintro e w3 ⟨rfl, hb3⟩; have h03 := h02.trans (hb3.mono z02); have z03 := h03.size)
        | go_in)
      go_ret
      exact ⟨rfl, h02⟩
end Go.Proofs.Ytkmofpnefjgnkaa
