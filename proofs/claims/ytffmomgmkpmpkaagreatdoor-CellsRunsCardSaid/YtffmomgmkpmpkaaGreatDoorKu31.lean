/-
  Cells: the runs between two screens, by the document.
-/
import Derived.Lib.SlicesCompact
import Derived.Test.YtffmomgmkpmpkaaGreatDoorProg
import Derived.Test.YtffmomgmkpmpkaaGreatDoorKu30
namespace Go.Proofs.YtffmomgmkpmpkaaGreatDoor
open Go.RowKit
set_option linter.unusedVariables false
attribute [local go_sem] vwp vUpon_value vUpon_skip vUpon_enter vUpon_row
set_option linter.unusedSimpArgs false
set_option linter.unusedVariables false
theorem eql_cell (w : World) (r c0 c1 c2 c3 d0 d1 d2 d3 r' c0' c1' c2' c3' d0' d1' d2' d3' : Int) (x y x' y' : Bool) :
    (binOp .eql 52 (.agg #[.int .i32 r, .int .u8 c0, .int .u8 c1, .int .u8 c2, .int .u8 c3, .int .u8 d0, .int .u8 d1, .int .u8 d2, .int .u8 d3, .bool x, .bool y]) (.agg #[.int .i32 r', .int .u8 c0', .int .u8 c1', .int .u8 c2', .int .u8 c3', .int .u8 d0', .int .u8 d1', .int .u8 d2', .int .u8 d3', .bool x', .bool y'])).run Tryz.prog w
      = .ok (.bool (Ce.eqb ⟨r, ⟨c0, c1, c2, c3⟩, ⟨d0, d1, d2, d3⟩, x, y⟩ ⟨r', ⟨c0', c1', c2', c3'⟩, ⟨d0', d1', d2', d3'⟩, x', y'⟩)) w := by
  rw [run_eql_struct]
  have h := eq_cell 9997 w ⟨r, ⟨c0, c1, c2, c3⟩, ⟨d0, d1, d2, d3⟩, x, y⟩ ⟨r', ⟨c0', c1', c2', c3'⟩, ⟨d0', d1', d2', d3'⟩, x', y'⟩
  simp only at h
  rw [h]
  rfl
attribute [local go_sem high] eql_cell neq_size
set_option maxHeartbeats 16000000 in
set_option maxRecDepth 100000 in
theorem crruns_any (wa ha : Int) (xs : List Ce) (va : Value) (wb hb : Int) (ys : List Ce) (vb : Value) (w : World) (h1 : I64 wa) (h2 : I64 ha) (h3 : I64 wb) (h4 : I64 hb) (hl : Row w.heap.size 11 Ce.enc w va xs) (hl2 : Row w.heap.size 11 Ce.enc w vb ys) :
  Calls Tryz.prog 29 #[.agg #[.int .i64 (wa), .int .i64 (ha), va], .agg #[.int .i64 (wb), .int .i64 (hb), vb]] w (OutR w.heap.size (runsE wa ha xs wb hb ys) (runsL wa ha xs wb hb ys) w) := by
 have C1 := fun w1 (hb : Below w.heap.size w w1) => crcheck_any wa ha xs va w1 h1 h2 ((hl.below hb).mono hb.size)
 have C2 := fun w1 (hb' : Below w.heap.size w w1) => crcheck_any wb hb ys vb w1 h3 h4 ((hl2.below hb').mono hb'.size)
 obtain ⟨iN, ni0, nz0, nz1, nz2⟩ := info_parts infoRn
 obtain ⟨iM, hi0, hm0, hm1, hm2⟩ := info_parts infoCe
 obtain ⟨s0, cap, rfl, hmax⟩ := hl.shape
 obtain ⟨s1, cap1, rfl, hmax1⟩ := hl2.shape
 obtain ⟨E, hE⟩ : ∃ E, runsE wa ha xs wb hb ys = E := ⟨_, rfl⟩
 obtain ⟨RC, hRC⟩ : ∃ R, runsL wa ha xs wb hb ys = R := ⟨_, rfl⟩
 rw [hE, hRC]
 unfold runsE at hE
 unfold runsL at hRC
 obtain ⟨ok, hok⟩ : ∃ b, runsOk wa ha xs wb hb ys = b := ⟨_, rfl⟩
 rw [hok] at hE hRC
 unfold runsOk at hok
 have CS1 := chkS_cases wa ha xs
 have CZ1 : chkS wa ha xs = 0 → _ := fun h => chkS_zero h
 have CS2 := chkS_cases wb hb ys
 have CZ2 : chkS wb hb ys = 0 → _ := fun h => chkS_zero h
 obtain ⟨E1, hE1⟩ : ∃ E, chkS wa ha xs = E := ⟨_, rfl⟩
 obtain ⟨E2, hE2⟩ : ∃ E, chkS wb hb ys = E := ⟨_, rfl⟩
 rw [hE1] at C1 CS1 CZ1 hok
 rw [hE2] at C2 CS2 CZ2 hok
 clear hE1 hE2
 have hop := fun h0 => row_ce hl h0
 obtain ⟨n, en⟩ : ∃ n, xs.length = n := ⟨_, rfl⟩
 obtain ⟨m, em⟩ : ∃ m, ys.length = m := ⟨_, rfl⟩
 have hl2' := Lib.hid hl2
 rw [en] at hop C1 hmax ⊢
 rw [em] at C2 hl2' hmax1 ⊢
 replace hop := Lib.hid hop
 clear hl hl2
 go_enter Tryz.func29, Tryz.ntmps29
 go_upto_region 1 with fail
 obtain ⟨W, hW⟩ : ∃ W, (w.alloc (.cells #[.int .i64 wa, .int .i64 ha, .slice s0 n cap] 26)).alloc (.cells #[.int .i64 wb, .int .i64 hb, .slice s1 m cap1] 26) = W := ⟨_, rfl⟩
 have B2 : Blk W w.heap.size [.int .i64 wa, .int .i64 ha, .slice s0 n cap] 26 := by rw [← hW]; exact (Blk.new' rfl).alloc _
 have B3 : Blk W (w.heap.size + 1) [.int .i64 wb, .int .i64 hb, .slice s1 m cap1] 26 := by rw [← hW]; exact Blk.new' (by simp)
 have hbw : Below w.heap.size w W := by rw [← hW]; exact belt
 rw [hW]
 clear hW
 have yB2 := B2.lt
 have yB3 := B3.lt
 have q0 := B2.cell (o := 0) rfl
 have q1 := B2.cell (o := 1) rfl
 have q2 := B2.cell (o := 2) rfl
 have p0 := B3.cell (o := 0) rfl
 have p1 := B3.cell (o := 1) rfl
 have p2 := B3.cell (o := 2) rfl
 have C2' := fun w1 (hb : Below W.heap.size W w1) => C2 w1 (hbw.trans (hb.mono hbw.size))
 replace C1 := Lib.hid (C1 W hbw)
 replace C2' := Lib.hid C2'
 clear C2
 rcases CS1 with e1 | e1
 ·rcases CS2 with e2 | e2
  ·subst e1 e2
   by_cases hsz : wa = wb ∧ ha = hb
   ·obtain ⟨rfl, rfl⟩ := hsz
    have hokT : ok = true := by rw [← hok]; simp
    subst hokT
    simp only [if_true] at hE hRC
    subst hE
    obtain ⟨hfit, hlen, hall⟩ := CZ1 rfl
    obtain ⟨_, hlen2, _⟩ := CZ2 rfl
    clear CZ1 CZ2 hok
    obtain ⟨z0, z1, z2, z3, z4⟩ := fitsS_true.1 hfit
    obtain ⟨N, rfl⟩ : ∃ N : Nat, wa = N := ⟨wa.toNat, by omega⟩
    obtain ⟨M, rfl⟩ : ∃ M : Nat, ha = M := ⟨ha.toNat, by omega⟩
    rw [Int.toNat_natCast, Int.toNat_natCast] at hRC
    have hnm : n = N * M := by
     have h : ((xs.length : Nat) : Int) = ((N * M : Nat) : Int) := by rw [hlen, Int.natCast_mul]
     rw [← en]
     exact Int.ofNat.inj h
    have hmn : m = n := by
     have h : ((ys.length : Nat) : Int) = ((xs.length : Nat) : Int) := by rw [hlen, hlen2]
     rw [← en, ← em]
     exact Int.ofNat.inj h
    subst hmn
    have hnb : m ≤ 262144 := by
     have h : (m : Int) ≤ 262144 := by rw [← en, hlen]; exact z4
     omega
    have hN16 : N ≤ 16384 := by omega
    have hM16 : M ≤ 16384 := by omega
    replace hnm := Lib.hid hnm
    replace en := Lib.hid en
    replace em := Lib.hid em
    clear hfit hlen hlen2 hall z0 z1 z2 z3 z4 h1 h2 h3 h4
    go_upto_region 4 with (first
     | (go_at_call 16; (with_reducible refine C1.out.mono ?_); rintro e w1 ⟨rfl, hb1⟩; obtain ⟨hc1, hf1⟩ := bcell hb1; clear C1)
     | (go_at_call 16; (with_reducible refine (C2'.out _ hb1).mono ?_); rintro e w2 ⟨rfl, hb2⟩; have hb12 := hb1.trans (hb2.mono hb1.size); clear hc1 hf1; obtain ⟨hc1, hf1⟩ := bcell hb12))
    have hW1 := hbw.trans (hb12.mono hbw.size)
    have D2 := B2.below hb12 yB2
    have D3 := B3.below hb12 yB3
    have z12 := hb12.size
    clear hc1 hf1 hb1 hb2 B2 B3 q0 q1 q2 p0 p1 p2 C2'
    obtain ⟨W0, rfl⟩ : ∃ W0, W0 = w2 := ⟨_, rfl⟩
    have q0 := D2.cell (o := 0) rfl
    have q1 := D2.cell (o := 1) rfl
    have yD2 := D2.lt
    have yD3 := D3.lt
    have hrB := Lib.hid (hl2'.out.below (hW1.trans (Below.refl _ _)))
    have hgo := Lib.hid (show rrGo xs ys N (m - 0) 0 false [] = RC by
     have h := rr_all xs ys N M 0 []
     rw [Nat.zero_mul, List.nil_append, hRC, Nat.mul_comm] at h
     rw [Nat.sub_zero, hnm.out]
     exact h)
    clear hRC hb12
    go_wp2
    go_loopw [6, 7, 8] (fun lv ov iv wr => ∃ (i : Nat) (o : Bool) (l : List Rn), i ≤ m ∧ ov = .bool o ∧ iv = .int .i64 i ∧ Hid (RunRows W0.heap.size wr lv l) ∧ Hid (rrGo xs ys N (m - i) i o l = RC) ∧ Below W0.heap.size W0 wr ∧ l.length ≤ i ∧ Hid (o = true → l ≠ []) ∧ Hid (∀ r ∈ l, r.cells.length ≤ i)) (fun _ _ iv _ => m - (intOf iv).toNat)
    case atStart => exact ⟨0, false, [], Nat.zero_le _, rfl, rfl, Lib.hid (RunRows.nil _ _), hgo, Below.refl _ _, Nat.zero_le _, Lib.hid (fun h => by cases h), Lib.hid (fun r h => by cases h)⟩
    case round =>
     clear hgo q0 q1
     obtain ⟨i, o, l, hi, rfl, rfl, hro, hgo, hbr, hll, hol, hlc⟩ := hrel
     obtain ⟨W4, rfl⟩ : ∃ W4, W4 = wr := ⟨_, rfl⟩
     have hw4 := hW1.trans (hbr.mono hW1.size)
     have z4 := hbr.size
     have z4w := hw4.size
     have F2 := D2.below hbr yD2
     have F3 := D3.below hbr yD3
     have q0 := F2.cell (o := 0) rfl
     have q2 := F2.cell (o := 2) rfl
     have p2 := F3.cell (o := 2) rfl
     have yF2 := F2.lt
     have yF3 := F3.lt
     obtain ⟨sv, cv, hsv⟩ : ∃ sv cv, u6 = .slice sv l.length cv := by
      obtain ⟨vs, _, hr, _⟩ := hro.out
      exact own_slice hr
     subst hsv
     by_cases him : i < m
     ·have hii : (i : Int) < m := by omega
      have hN0 : 0 < N := by
       have h := hnm.out
       rcases Nat.eq_zero_or_pos N with e | e
       ·rw [e, Nat.zero_mul] at h; omega
       ·exact e
      obtain ⟨x, hx⟩ : ∃ x, i % N = x := ⟨_, rfl⟩
      obtain ⟨y, hy⟩ : ∃ y, i / N = y := ⟨_, rfl⟩
      have ex : Int.tmod (i : Int) (N : Int) = (x : Int) := by rw [← hx]; exact Int.ofNat_tmod i N
      have ey : Int.tdiv (i : Int) (N : Int) = (y : Int) := by rw [← hy]; exact Int.ofNat_tdiv i N
      have hN1 : ¬ N = 0 := by omega
      have hx1 : x < N := by rw [← hx]; exact Nat.mod_lt _ hN0
      have hy1 : y ≤ 262144 := by rw [← hy]; exact Nat.le_trans (Nat.div_le_self _ _) (by omega)
      obtain ⟨a, hca⟩ := get_at en.out him
      obtain ⟨b, hcb⟩ := get_at em.out him
      have hdf := dif_at hca hcb
      obtain ⟨o1, ho1⟩ : ∃ b, (o && !(x == 0)) = b := ⟨_, rfl⟩
      have hgo2 := hgo.out
      rw [rr_step him, hx, hy, hdf, hcb, ho1] at hgo2
      obtain ⟨ga, oa, cap', ea, hga, _, _, hela⟩ := hop.out (by omega)
      simp only [Value.slice.injEq] at ea
      obtain ⟨rfl, _, rfl⟩ := ea
      obtain ⟨gb, ob, capb, eb, hgb, hcpb, _, helb⟩ := row_ce hl2'.out (by have := em.out; omega)
      rw [em.out] at eb hcpb
      simp only [Value.slice.injEq] at eb
      obtain ⟨rfl, _, rfl⟩ := eb
      have Ma := (hela i a hca).below hw4 hga
      have Mb := (helb i b hcb).below hw4 hgb
      have Mb0 := Lib.hid (helb i b hcb)
      have yga : ga < W4.heap.size := by omega
      have ygb : gb < W4.heap.size := by omega
      replace hgo2 := Lib.hid hgo2
      replace hx := Lib.hid hx
      replace hy := Lib.hid hy
      replace hcb := Lib.hid hcb
      clear hela helb hca hgo hdf
      have hol2 := Lib.hid (show o1 = true → l ≠ [] from fun h => hol.out (by rw [← ho1] at h; exact (Bool.and_eq_true _ _ ▸ h).1))
      clear hol
      go_upto_if 36 with fail
      go_cut [7] (fun ov wx => ov = .bool o1 ∧ W4 = wx)
      case first =>
       by_cases hx0 : x = 0
       ·have hxi : (x : Int) = 0 := by omega
        have e1 : o1 = false := by rw [← ho1, hx0]; simp
        subst e1
        clear ho1
        subst hx0
        go_wp2
        go_meet
        case rel => exact ⟨rfl, rfl⟩
       ·have hxi : ((x : Int) == 0) = false := by simpa using hx0
        have hxj : ¬ (x : Int) = 0 := by omega
        have e1 : o1 = o := by rw [← ho1]; simp [hx0]
        subst e1
        clear ho1
        go_wp2
        go_meet
        case rel => exact ⟨rfl, rfl⟩
      case rest =>
       obtain ⟨rfl, rfl⟩ := hcut
       clear ho1
       obtain ⟨ra, ⟨a0, a1, a2, a3⟩, ⟨a4, a5, a6, a7⟩, a8, a9⟩ := a
       obtain ⟨rb, ⟨b0, b1, b2, b3⟩, ⟨b4, b5, b6, b7⟩, b8, b9⟩ := b
       obtain ⟨j0, j1, j2, j3, j4, j5, j6, j7, j8, j9, j10⟩ := Ma
       obtain ⟨i0, i1, i2, i3, i4, i5, i6, i7, i8, i9, i10⟩ := Mb
       dsimp only at j0 j1 j2 j3 j4 j5 j6 j7 j8 j9 j10 i0 i1 i2 i3 i4 i5 i6 i7 i8 i9 i10
       cases heq : Ce.eqb ⟨ra, ⟨a0, a1, a2, a3⟩, ⟨a4, a5, a6, a7⟩, a8, a9⟩ ⟨rb, ⟨b0, b1, b2, b3⟩, ⟨b4, b5, b6, b7⟩, b8, b9⟩
       ·have hgo3 := hgo2.out
        rw [heq, if_pos (by decide)] at hgo3
        replace hgo3 := Lib.hid hgo3
        clear hgo2
        go_upto_region 10 with fail
        refine wp_region_steady (Held W4 0 []) (by kernel_rfl) (by kernel_rfl) ⟨belt, (by (try simp) <;> omega), (by first | exact trivial | (simp only [Cells]; go_simp))⟩ ?_
        repeat (first | (refine' wpSteady_do _ _ _; rotate_left; (focus rfl); (focus (intro w1 hS R hR; have hc := hS.cells; simp only [Cells] at hc; obtain ⟨hco, hfo⟩ := bcell hS.old; go_simp; (try go_bits); first | exact hR _ hS | fail)); simp only [pu]) | (refine wpSteady_pass ?_ ?_; (focus rfl); simp only [pu]))
        refine wpSteady_nil (fun uA hSA => ?_)
        have hcA := hSA.cells; have hbA := hSA.old; have hzA := hSA.size; clear hSA; simp only [Cells] at hcA; obtain ⟨hcoA, hfoA⟩ := bcell hbA
        have hro5 := Lib.hid (hro.out.below hbA (Nat.le_refl _))
        have hbr5 := hbr.trans (hbA.mono hbr.size)
        have G2 := F2.below hbA yF2
        have G3 := F3.below hbA yF3
        have Mb := CMem.below (show CMem W4 gb (ob + i * 11) ⟨rb, ⟨b0, b1, b2, b3⟩, ⟨b4, b5, b6, b7⟩, b8, b9⟩ from ⟨i0, i1, i2, i3, i4, i5, i6, i7, i8, i9, i10⟩) hbA ygb
        have z5 := hbA.size
        clear j0 j1 j2 j3 j4 j5 j6 j7 j8 j9 j10 i0 i1 i2 i3 i4 i5 i6 i7 i8 i9 i10 hcA hcoA hfoA q0 q2 p2
        obtain ⟨W5, rfl⟩ : ∃ W5, W5 = uA := ⟨_, rfl⟩
        obtain ⟨i0, i1, i2, i3, i4, i5, i6, i7, i8, i9, i10⟩ := Mb
        dsimp only at i0 i1 i2 i3 i4 i5 i6 i7 i8 i9 i10
        have q0 := G2.cell (o := 0) rfl
        have yG2 := G2.lt
        have yG3 := G3.lt
        have ygb5 : gb < W5.heap.size := by omega
        go_upto_if 49 with fail
        go_cut [6] (fun lv wx => ∃ l1 r1 W6, W6 = wx ∧ Hid (RunRows W0.heap.size wx lv (l1 ++ [r1])) ∧ Below W0.heap.size W0 wx ∧ Hid ((if o1 = true then l else l ++ [⟨x, y, []⟩]) = l1 ++ [r1]) ∧ l1.length ≤ i ∧ r1.cells.length ≤ i)
        case first =>
         by_cases hox : o1 = true
         ·subst hox
          obtain ⟨l1, r1, hl1⟩ : ∃ l1 r1, l = l1 ++ [r1] := by
           rcases List.eq_nil_or_concat l with h | ⟨a, b, h⟩
           ·exact absurd h (hol2.out rfl)
           ·exact ⟨a, b, by rw [h, List.concat_eq_append]⟩
          have hr1 := hlc.out r1 (by rw [hl1]; simp)
          have hl2 : l1.length ≤ i := by rw [hl1] at hll; simp at hll; omega
          have hR := hro5.out
          generalize hlv : Value.slice sv l.length cv = lv at hR ⊢
          subst hl1
          replace hR := Lib.hid hR
          clear hro5 hro hlv
          go_wp2
          go_meet
          case rel => exact ⟨l1, r1, _, rfl, hR, hbr5, Lib.hid (by simp), hl2, hr1⟩
         ·have e1 : o1 = false := by simpa using hox
          subst e1
          obtain ⟨vs, hvl, hrun4, hj, hdd⟩ := hro5.out
          have hlo := own_block_lt hrun4
          replace hlo := Lib.hid (fun g hg => (hlo g hg).1)
          replace hvl := Lib.hid hvl
          replace hj := Lib.hid hj
          replace hdd := Lib.hid hdd
          replace hrun4 := Lib.hid hrun4
          clear hro hro5
          go_upto_region 13 with fail
          refine held_begin (Below W0.heap.size W5) (by kernel_rfl) (Below.drew (Below.refl _ _)) (fun hS => ?_)
          have hb0 : Below W5.heap.size W5 W5.drew := Below.drew (Below.refl _ _)
          generalize W5.drew = u0 at hS hb0 ⊢
          have z0 := hb0.size
          have hrun := Lib.hid (ownsRow_below hrun4.out hb0 (Nat.le_refl _))
          (refine' held_do (i := 0) _ (by kernel_rfl) (by kernel_rfl) (by kernel_rfl) _ _ hS _ _; rotate_left 2; (focus exact geti); (focus exact fun _ _ _ h => h); (focus rfl); (focus (intro w1 hSS R hR; obtain ⟨hco, hfo⟩ := bcellB hSS; go_simp; (try go_bits); exact hR)); simp only [pu])
          (refine' held_do (i := 1) _ (by kernel_rfl) (by kernel_rfl) (by kernel_rfl) _ _ hS _ _; rotate_left 2; (focus exact geti); (focus exact fun _ _ _ h => h); (focus rfl); (focus (intro w1 hSS R hR; obtain ⟨hco, hfo⟩ := bcellB hSS; go_simp; (try go_bits); exact hR)); simp only [pu])
          (refine' held_do (i := 2) _ (by kernel_rfl) (by kernel_rfl) (by kernel_rfl) _ _ hS _ _; rotate_left 2; (focus exact geti); (focus exact fun _ _ _ h => h); (focus rfl); (focus (intro w1 hSS R hR; obtain ⟨hco, hfo⟩ := bcellB hSS; go_simp; (try go_bits); exact hR)); simp only [pu])
          (refine' held_do (i := 3) _ (by kernel_rfl) (by kernel_rfl) (by kernel_rfl) _ _ hS _ _; rotate_left 2; (focus exact geti); (focus exact fun _ _ _ h => h); (focus rfl); (focus (intro w1 hSS R hR; obtain ⟨hco, hfo⟩ := bcellB hSS; go_simp; (try go_bits); exact hR)); simp only [pu])
          (refine' held_do (i := 4) _ (by kernel_rfl) (by kernel_rfl) (by kernel_rfl) _ _ hS _ _; rotate_left 2; (focus exact geti); (focus exact fun _ _ _ h => h); (focus rfl); (focus (intro w1 hSS R hR; obtain ⟨hco, hfo⟩ := bcellB hSS; go_simp; (try go_bits); exact hR)); simp only [pu])
          (refine' held_do (i := 5) _ (by kernel_rfl) (by kernel_rfl) (by kernel_rfl) _ _ hS _ _; rotate_left 2; (focus exact geti); (focus exact fun _ _ _ h => h); (focus rfl); (focus (intro w1 hSS R hR; obtain ⟨hco, hfo⟩ := bcellB hSS; go_simp; (try go_bits); exact hR)); simp only [pu])
          (refine' held_do (i := 6) _ (by kernel_rfl) (by kernel_rfl) (by kernel_rfl) _ _ hS _ _; rotate_left 2; (focus exact geti); (focus exact fun _ _ _ h => h); (focus rfl); (focus (intro w1 hSS R hR; obtain ⟨hco, hfo⟩ := bcellB hSS; go_simp; (try go_bits); exact hR)); simp only [pu])
          (refine' held_do (i := 7) _ (by kernel_rfl) (by kernel_rfl) (by kernel_rfl) _ _ hS _ _; rotate_left 2; (focus exact geti); (focus exact fun _ _ _ h => h); (focus rfl); (focus (intro w1 hSS R hR; obtain ⟨hco, hfo⟩ := bcellB hSS; go_simp; (try go_bits); exact hR)); simp only [pu])
          (refine' held_do (i := 8) _ (by kernel_rfl) (by kernel_rfl) (by kernel_rfl) _ _ hS _ _; rotate_left 2; (focus exact geti); (focus exact fun _ _ _ h => h); (focus rfl); (focus (intro w1 hSS R hR; obtain ⟨hco, hfo⟩ := bcellB hSS; go_simp; (try go_bits); exact hR)); simp only [pu])
          (refine' held_do (i := 9) _ (by kernel_rfl) (by kernel_rfl) (by kernel_rfl) _ _ hS _ _; rotate_left 2; (focus exact geti); (focus exact fun _ _ _ h => h); (focus rfl); (focus (intro w1 hSS R hR; obtain ⟨hco, hfo⟩ := bcellB hSS; go_simp; (try go_bits); exact hR)); simp only [pu])
          (refine' held_do (i := 10) _ (by kernel_rfl) (by kernel_rfl) (by kernel_rfl) _ _ hS _ _; rotate_left 2; (focus exact geti); (focus exact fun _ _ _ h => h); (focus rfl); (focus (intro w1 hSS R hR; obtain ⟨hco, hfo⟩ := bcellB hSS; go_simp; (try go_bits); exact hR)); simp only [pu])
          (refine' held_do (i := 11) _ (by kernel_rfl) (by kernel_rfl) (by kernel_rfl) _ _ hS _ _; rotate_left 2; (focus exact geti); (focus exact fun _ _ _ h => h); (focus rfl); (focus (intro w1 hSS R hR; obtain ⟨hco, hfo⟩ := bcellB hSS; go_simp; (try go_bits); exact hR)); simp only [pu])
          (refine' held_do (i := 12) _ (by kernel_rfl) (by kernel_rfl) (by kernel_rfl) _ _ hS _ _; rotate_left 2; (focus exact geti); (focus exact fun _ _ _ h => h); (focus rfl); (focus (intro w1 hSS R hR; obtain ⟨hco, hfo⟩ := bcellB hSS; go_simp; (try go_bits); exact hR)); simp only [pu])
          (refine' held_one (i := 13) _ (by kernel_rfl) _ _; rotate_left; (focus exact geti); (focus rfl); intro K hK; go_simp)
          obtain ⟨v1, hv⟩ : ∃ v, u0.alloc (.cells #[.int .i64 x, .int .i64 y, .slice none 0 0] 67) = v := ⟨_, rfl⟩
          have BN := Blk.new_eq hv
          have hrun2 := Lib.hid (show v1.ownsRow W0.heap.size 67 3 _ l.length _ by rw [← hv]; exact hrun.out.alloc _)
          have hb1 : Below W5.heap.size W5 v1 := by rw [← hv]; exact hb0.alloc z0 _
          rw [hv]
          have hT : Below W0.heap.size W5 v1 := hb1.mono hbr5.size
          clear hv hrun
          have z1 := hb1.size
          refine hK _ _ hT ?_
          clear hK hT hS
          (try simp only [pu])
          (refine' held_one (i := 14) _ (by kernel_rfl) _ _; rotate_left; (focus exact geti); (focus rfl); intro K hK)
          refine wp_append_blk _ _ _ rfl W0.heap.size 67 iN _ 3 40 Tryz.underlying59 ni0 nz0 nz1 nz2 rfl (by omega) v1 1 _ _ _ _ l.length _ (by rfl) hrun2.out BN (by rfl) rfl (by intro u hu; simp only [List.mem_cons, List.not_mem_nil, or_false] at hu; rcases hu with rfl | rfl | rfl <;> rfl) (by omega) (by unfold maxLen; omega) (by omega) ?_
          intro v6 w6 hown6 hgr6 _ hlw6
          have hS : Below W0.heap.size W5 w6 := (hb1.mono hbr5.size).trans hlw6
          refine hK _ _ hS ?_
          clear hK
          (try simp only [pu])
          (refine' held_one (i := 15) _ (by kernel_rfl) _ _; rotate_left; (focus exact geti); (focus rfl); intro K hK; go_simp)
          refine hK _ _ hS ?_
          clear hK
          (try simp only [pu])
          refine wpAnyH_done (by kernel_rfl) ?_ _
          have R6 : RunRows W0.heap.size w6 v6 (l ++ [⟨x, y, []⟩]) :=
           RunRows.snoc (vs := vs) (W := v1) (u := .slice none 0 0) hvl.out (fun j u r h1 h2 => (hj.out j u r h1 h2).below hb1 (Nat.le_refl _)) hdd.out hrun2.out (OwnsC.nil _ _) (fun i u' h1 g hg hg2 => by cases hg2) hown6 hgr6
          have hb7 := hbr5.trans hS
          clear hlw6 hown6 hgr6 hrun2 BN hrun4 hj hdd
          replace R6 := Lib.hid R6
          replace hb7 := Lib.hid hb7
          go_wp2
          go_meet
          case rel => exact ⟨l, ⟨x, y, []⟩, _, rfl, R6, hb7.out, Lib.hid (by simp), hll, Nat.zero_le _⟩
        case rest =>
         obtain ⟨l1, r1, W6, rfl, hR, hbr6, hl1, hll1, hrc1⟩ := hcut
         have hgo4 := hgo3.out
         rw [hl1.out, show (some (⟨rb, ⟨b0, b1, b2, b3⟩, ⟨b4, b5, b6, b7⟩, b8, b9⟩ : Ce)).toList = [⟨rb, ⟨b0, b1, b2, b3⟩, ⟨b4, b5, b6, b7⟩, b8, b9⟩] from rfl, addL_snoc] at hgo4
         have hlc6 : ∀ r ∈ l1 ++ [(⟨r1.x, r1.y, r1.cells ++ [⟨rb, ⟨b0, b1, b2, b3⟩, ⟨b4, b5, b6, b7⟩, b8, b9⟩]⟩ : Rn)], r.cells.length ≤ i + 1 := by
          intro r hr
          rcases List.mem_append.1 hr with h | h
          ·have h2 : r ∈ (if o1 = true then l else l ++ [⟨x, y, []⟩]) := by rw [hl1.out]; exact List.mem_append.2 (.inl h)
           by_cases ho : o1 = true
           ·rw [if_pos ho] at h2
            exact Nat.le_succ_of_le (hlc.out r h2)
           ·rw [if_neg ho] at h2
            rcases List.mem_append.1 h2 with h3 | h3
            ·exact Nat.le_succ_of_le (hlc.out r h3)
            ·rw [List.mem_singleton.1 h3]; exact Nat.zero_le _
          ·rw [List.mem_singleton.1 h]
           show (r1.cells ++ _).length ≤ i + 1
           rw [List.length_append]
           exact Nat.succ_le_succ hrc1
         replace hgo4 := Lib.hid hgo4
         replace hlc6 := Lib.hid hlc6
         obtain ⟨vs, u, g, cl, rfl, LR⟩ := RunRows.open_ hR.out
         have z6 := hbr6.size
         have H2 := D2.below hbr6 yD2
         have H3 := D3.below hbr6 yD3
         clear i0 i1 i2 i3 i4 i5 i6 i7 i8 i9 i10 q0 G2 G3
         obtain ⟨i0, i1, i2, i3, i4, i5, i6, i7, i8, i9, i10⟩ := CMem.below Mb0.out (hW1.trans (hbr6.mono hW1.size)) hgb
         dsimp only at i0 i1 i2 i3 i4 i5 i6 i7 i8 i9 i10
         have p2 := H3.cell (o := 2) rfl
         have ygb0 : gb < W0.heap.size := by omega
         have hgb0 : W0.heap.size ≤ g := (own_block_lt LR.row g rfl).1
         obtain ⟨su, cu, rfl⟩ := own_slice LR.last
         clear hR hro hro5 H2
         go_upto_region 15 with fail
         refine held_begin (Below W0.heap.size W6) (by kernel_rfl) (Below.drew (Below.refl _ _)) (fun hS => ?_)
         have hb0 : Below W6.heap.size W6 W6.drew := Below.drew (Below.refl _ _)
         generalize W6.drew = u0 at hS hb0 ⊢
         have z0 := hb0.size
         have LR0 := LR.below hb0 (Nat.le_refl _)
         have hk0 := LR0.cell
         have hkl : (l1.length : Int) < (l1.length : Int) + 1 := by omega
         (refine' held_do (i := 0) _ (by kernel_rfl) (by kernel_rfl) (by kernel_rfl) _ _ hS _ _; rotate_left 2; (focus exact geti); (focus exact fun _ _ _ h => h); (focus rfl); (focus (intro w1 hSS R hR; obtain ⟨hco, hfo⟩ := bcellB hSS; go_simp; (try go_bits); exact hR)); simp only [pu])
         (refine' held_do (i := 1) _ (by kernel_rfl) (by kernel_rfl) (by kernel_rfl) _ _ hS _ _; rotate_left 2; (focus exact geti); (focus exact fun _ _ _ h => h); (focus rfl); (focus (intro w1 hSS R hR; obtain ⟨hco, hfo⟩ := bcellB hSS; go_simp; (try go_bits); exact hR)); simp only [pu])
         (refine' held_do (i := 2) _ (by kernel_rfl) (by kernel_rfl) (by kernel_rfl) _ _ hS _ _; rotate_left 2; (focus exact geti); (focus exact fun _ _ _ h => h); (focus rfl); (focus (intro w1 hSS R hR; obtain ⟨hco, hfo⟩ := bcellB hSS; go_simp; (try go_bits); exact hR)); simp only [pu])
         (refine' held_do (i := 3) _ (by kernel_rfl) (by kernel_rfl) (by kernel_rfl) _ _ hS _ _; rotate_left 2; (focus exact geti); (focus exact fun _ _ _ h => h); (focus rfl); (focus (intro w1 hSS R hR; obtain ⟨hco, hfo⟩ := bcellB hSS; go_simp; (try go_bits); exact hR)); simp only [pu])
         (refine' held_do (i := 4) _ (by kernel_rfl) (by kernel_rfl) (by kernel_rfl) _ _ hS _ _; rotate_left 2; (focus exact geti); (focus exact fun _ _ _ h => h); (focus rfl); (focus (intro w1 hSS R hR; obtain ⟨hco, hfo⟩ := bcellB hSS; go_simp; (try go_bits); exact hR)); simp only [pu])
         (refine' held_do (i := 5) _ (by kernel_rfl) (by kernel_rfl) (by kernel_rfl) _ _ hS _ _; rotate_left 2; (focus exact geti); (focus exact fun _ _ _ h => h); (focus rfl); (focus (intro w1 hSS R hR; obtain ⟨hco, hfo⟩ := bcellB hSS; go_simp; (try go_bits); exact hR)); simp only [pu])
         (refine' held_do (i := 6) _ (by kernel_rfl) (by kernel_rfl) (by kernel_rfl) _ _ hS _ _; rotate_left 2; (focus exact geti); (focus exact fun _ _ _ h => h); (focus rfl); (focus (intro w1 hSS R hR; obtain ⟨hco, hfo⟩ := bcellB hSS; go_simp; (try go_bits); exact hR)); simp only [pu])
         (refine' held_do (i := 7) _ (by kernel_rfl) (by kernel_rfl) (by kernel_rfl) _ _ hS _ _; rotate_left 2; (focus exact geti); (focus exact fun _ _ _ h => h); (focus rfl); (focus (intro w1 hSS R hR; obtain ⟨hco, hfo⟩ := bcellB hSS; go_simp; (try go_bits); exact hR)); simp only [pu])
         (refine' held_do (i := 8) _ (by kernel_rfl) (by kernel_rfl) (by kernel_rfl) _ _ hS _ _; rotate_left 2; (focus exact geti); (focus exact fun _ _ _ h => h); (focus rfl); (focus (intro w1 hSS R hR; obtain ⟨hco, hfo⟩ := bcellB hSS; go_simp; (try go_bits); exact hR)); simp only [pu])
         (refine' held_do (i := 9) _ (by kernel_rfl) (by kernel_rfl) (by kernel_rfl) _ _ hS _ _; rotate_left 2; (focus exact geti); (focus exact fun _ _ _ h => h); (focus rfl); (focus (intro w1 hSS R hR; obtain ⟨hco, hfo⟩ := bcellB hSS; go_simp; (try go_bits); exact hR)); simp only [pu])
         (refine' held_do (i := 11) _ (by kernel_rfl) (by kernel_rfl) (by kernel_rfl) _ _ hS _ _; rotate_left 2; (focus exact geti); (focus exact fun _ _ _ h => h); (focus rfl); (focus (intro w1 hSS R hR; obtain ⟨hco, hfo⟩ := bcellB hSS; go_simp; (try go_bits); exact hR)); simp only [pu])
         (refine' held_do (i := 12) _ (by kernel_rfl) (by kernel_rfl) (by kernel_rfl) _ _ hS _ _; rotate_left 2; (focus exact geti); (focus exact fun _ _ _ h => h); (focus rfl); (focus (intro w1 hSS R hR; obtain ⟨hco, hfo⟩ := bcellB hSS; go_simp; (try go_bits); exact hR)); simp only [pu])
         (refine' held_do (i := 13) _ (by kernel_rfl) (by kernel_rfl) (by kernel_rfl) _ _ hS _ _; rotate_left 2; (focus exact geti); (focus exact fun _ _ _ h => h); (focus rfl); (focus (intro w1 hSS R hR; obtain ⟨hco, hfo⟩ := bcellB hSS; go_simp; (try go_bits); exact hR)); simp only [pu])
         (refine' held_do (i := 14) _ (by kernel_rfl) (by kernel_rfl) (by kernel_rfl) _ _ hS _ _; rotate_left 2; (focus exact geti); (focus exact fun _ _ _ h => h); (focus rfl); (focus (intro w1 hSS R hR; obtain ⟨hco, hfo⟩ := bcellB hSS; go_simp; (try go_bits); exact hR)); simp only [pu])
         (refine' held_do (i := 15) _ (by kernel_rfl) (by kernel_rfl) (by kernel_rfl) _ _ hS _ _; rotate_left 2; (focus exact geti); (focus exact fun _ _ _ h => h); (focus rfl); (focus (intro w1 hSS R hR; obtain ⟨hco, hfo⟩ := bcellB hSS; go_simp; (try go_bits); exact hR)); simp only [pu])
         (refine' held_two (i := 10) (j := 16) rfl rfl (by kernel_rfl) _ _ _ _; (focus rfl); (focus rfl))
         ·intro K hK
          go_simp
          refine hK _ _ hS ?_
          clear hK
          (try simp only [pu])
          (refine' held_one (i := 16) _ (by kernel_rfl) _ _; rotate_left; (focus exact geti); (focus rfl); intro K hK; go_simp)
          obtain ⟨v1, hv⟩ : ∃ v, u0.alloc (.cells #[.int .i32 rb, .int .u8 b0, .int .u8 b1, .int .u8 b2, .int .u8 b3, .int .u8 b4, .int .u8 b5, .int .u8 b6, .int .u8 b7, .bool b8, .bool b9] 52) = v := ⟨_, rfl⟩
          have BN := Blk.new_eq hv
          have hb1 : Below W6.heap.size W6 v1 := by rw [← hv]; exact hb0.alloc z0 _
          rw [hv]
          have hT : Below W0.heap.size W6 v1 := hb1.mono z6
          have LR1 := LR.below hb1 (Nat.le_refl _)
          clear hv
          have z1 := hb1.size
          refine hK _ _ hT ?_
          clear hK
          (try simp only [pu])
          (refine' held_one (i := 17) _ (by kernel_rfl) _ _; rotate_left; (focus exact geti); (focus rfl); intro K hK)
          refine wp_append_blk _ _ _ rfl W0.heap.size 52 iM _ 11 16 Tryz.underlying24 hi0 hm0 hm1 hm2 rfl (by omega) v1 1 _ _ _ _ r1.cells.length _ (by rfl) LR1.last BN (by rfl) rfl (by simp [Value.oneCell']) (by omega) (by unfold maxLen; omega) (by omega) ?_
          intro v7 w7 hown7 hgr7 hat7 hlw7
          obtain ⟨s7, c7, rfl⟩ := own_slice hown7
          have hrw7 := own_keep LR1.row hgr7 (fun k hk => own_apart LR1.row LR1.last (by decide) k hk)
          have ff := hrw7.frozenAt (l1.length * 3 + 2)
          have fc : w7.cell? ⟨g, l1.length * 3 + 2, none⟩ = some (.slice su r1.cells.length cu) := by
           rw [hrw7.cellAt _ (by omega), List.getElem?_append_right (by rw [zip_len LR1.len]; omega), zip_len LR1.len, Nat.add_sub_cancel_left]
           rfl
          have hS7 : Below W0.heap.size W6 w7 := hT.trans hlw7
          refine hK _ _ hS7 ?_
          clear hK
          (try simp only [pu])
          (refine' held_one (i := 18) _ (by kernel_rfl) _ _; rotate_left; (focus exact geti); (focus rfl); intro K hK; go_simp)
          refine hK _ _ hS7 ?_
          clear hK
          (try simp only [pu])
          (refine' held_one (i := 19) _ (by kernel_rfl) _ _; rotate_left; (focus exact geti); (focus rfl); intro K hK; go_simp)
          refine hK _ _ hS7 ?_
          clear hK
          (try simp only [pu])
          (refine' held_one (i := 20) _ (by kernel_rfl) _ _; rotate_left; (focus exact geti); (focus rfl); intro K hK; go_simp)
          have R8 := LR1.grow (u' := .slice s7 (r1.cells.length + 1) c7) (W' := w7) (c := ⟨rb, ⟨b0, b1, b2, b3⟩, ⟨b4, b5, b6, b7⟩, b8, b9⟩) (by unfold OwnsC; rw [List.length_append, List.flatMap_append]; exact hown7) hgr7 hat7
          have hS8 : Below W0.heap.size W6 (w7.setCell ⟨g, l1.length * 3 + 2, none⟩ (.slice s7 (r1.cells.length + 1) c7)) := hS7.setCell (p := ⟨g, l1.length * 3 + 2, none⟩) hgb0 _
          refine hK _ _ hS8 ?_
          clear hK
          (try simp only [pu])
          refine wpAnyH_done (by kernel_rfl) ?_ _
          have hb8 := hbr6.trans hS8
          generalize w7.setCell ⟨g, l1.length * 3 + 2, none⟩ (.slice s7 (r1.cells.length + 1) c7) = w8 at R8 hb8 ⊢
          clear hS hS7 hS8 hT ff fc hrw7 hown7 hgr7 hat7 hlw7 LR1 BN LR LR0 hk0
          replace R8 := Lib.hid R8
          go_wp2
          go_roundw
          case rel => exact ⟨i + 1, true, _, by omega, rfl, by go_num, R8, hgo4, hb8, by rw [List.length_append, List.length_singleton]; omega, Lib.hid (fun _ h => by simp at h), hlc6⟩
          case measure => simp [intOf]; omega
         ·intro K hK
          go_simp
          obtain ⟨v1, hv⟩ : ∃ v, u0.alloc (.cells #[.int .i32 rb, .int .u8 b0, .int .u8 b1, .int .u8 b2, .int .u8 b3, .int .u8 b4, .int .u8 b5, .int .u8 b6, .int .u8 b7, .bool b8, .bool b9] 52) = v := ⟨_, rfl⟩
          have BN := Blk.new_eq hv
          have hb1 : Below W6.heap.size W6 v1 := by rw [← hv]; exact hb0.alloc z0 _
          rw [hv]
          have hT : Below W0.heap.size W6 v1 := hb1.mono z6
          have LR1 := LR.below hb1 (Nat.le_refl _)
          clear hv
          have z1 := hb1.size
          refine hK _ _ hT ?_
          clear hK
          (try simp only [pu])
          have hk1 := LR1.cell
          (refine' held_one (i := 10) _ (by kernel_rfl) _ _; rotate_left; (focus exact geti); (focus rfl); intro K hK; go_simp)
          refine hK _ _ hT ?_
          clear hK
          (try simp only [pu])
          clear hk1
          (refine' held_one (i := 17) _ (by kernel_rfl) _ _; rotate_left; (focus exact geti); (focus rfl); intro K hK)
          refine wp_append_blk _ _ _ rfl W0.heap.size 52 iM _ 11 16 Tryz.underlying24 hi0 hm0 hm1 hm2 rfl (by omega) v1 1 _ _ _ _ r1.cells.length _ (by rfl) LR1.last BN (by rfl) rfl (by simp [Value.oneCell']) (by omega) (by unfold maxLen; omega) (by omega) ?_
          intro v7 w7 hown7 hgr7 hat7 hlw7
          obtain ⟨s7, c7, rfl⟩ := own_slice hown7
          have hrw7 := own_keep LR1.row hgr7 (fun k hk => own_apart LR1.row LR1.last (by decide) k hk)
          have ff := hrw7.frozenAt (l1.length * 3 + 2)
          have fc : w7.cell? ⟨g, l1.length * 3 + 2, none⟩ = some (.slice su r1.cells.length cu) := by
           rw [hrw7.cellAt _ (by omega), List.getElem?_append_right (by rw [zip_len LR1.len]; omega), zip_len LR1.len, Nat.add_sub_cancel_left]
           rfl
          have hS7 : Below W0.heap.size W6 w7 := hT.trans hlw7
          refine hK _ _ hS7 ?_
          clear hK
          (try simp only [pu])
          (refine' held_one (i := 18) _ (by kernel_rfl) _ _; rotate_left; (focus exact geti); (focus rfl); intro K hK; go_simp)
          refine hK _ _ hS7 ?_
          clear hK
          (try simp only [pu])
          (refine' held_one (i := 19) _ (by kernel_rfl) _ _; rotate_left; (focus exact geti); (focus rfl); intro K hK; go_simp)
          refine hK _ _ hS7 ?_
          clear hK
          (try simp only [pu])
          (refine' held_one (i := 20) _ (by kernel_rfl) _ _; rotate_left; (focus exact geti); (focus rfl); intro K hK; go_simp)
          have R8 := LR1.grow (u' := .slice s7 (r1.cells.length + 1) c7) (W' := w7) (c := ⟨rb, ⟨b0, b1, b2, b3⟩, ⟨b4, b5, b6, b7⟩, b8, b9⟩) (by unfold OwnsC; rw [List.length_append, List.flatMap_append]; exact hown7) hgr7 hat7
          have hS8 : Below W0.heap.size W6 (w7.setCell ⟨g, l1.length * 3 + 2, none⟩ (.slice s7 (r1.cells.length + 1) c7)) := hS7.setCell (p := ⟨g, l1.length * 3 + 2, none⟩) hgb0 _
          refine hK _ _ hS8 ?_
          clear hK
          (try simp only [pu])
          refine wpAnyH_done (by kernel_rfl) ?_ _
          have hb8 := hbr6.trans hS8
          generalize w7.setCell ⟨g, l1.length * 3 + 2, none⟩ (.slice s7 (r1.cells.length + 1) c7) = w8 at R8 hb8 ⊢
          clear hS hS7 hS8 hT ff fc hrw7 hown7 hgr7 hat7 hlw7 LR1 BN LR LR0 hk0
          replace R8 := Lib.hid R8
          go_wp2
          go_roundw
          case rel => exact ⟨i + 1, true, _, by omega, rfl, by go_num, R8, hgo4, hb8, by rw [List.length_append, List.length_singleton]; omega, Lib.hid (fun _ h => by simp at h), hlc6⟩
          case measure => simp [intOf]; omega
       ·have hgo3 := hgo2.out
        rw [heq, if_neg (by decide)] at hgo3
        replace hgo3 := Lib.hid hgo3
        clear hgo2
        go_upto_region 10 with fail
        refine wp_region_steady (Held W4 0 []) (by kernel_rfl) (by kernel_rfl) ⟨belt, (by (try simp) <;> omega), (by first | exact trivial | (simp only [Cells]; go_simp))⟩ ?_
        repeat (first | (refine' wpSteady_do _ _ _; rotate_left; (focus rfl); (focus (intro w1 hS R hR; have hc := hS.cells; simp only [Cells] at hc; obtain ⟨hco, hfo⟩ := bcell hS.old; go_simp; (try go_bits); first | exact hR _ hS | fail)); simp only [pu]) | (refine wpSteady_pass ?_ ?_; (focus rfl); simp only [pu]))
        refine wpSteady_nil (fun uA hSA => ?_)
        have hcA := hSA.cells; have hbA := hSA.old; have hzA := hSA.size; clear hSA; simp only [Cells] at hcA; obtain ⟨hcoA, hfoA⟩ := bcell hbA
        have hro5 := Lib.hid (hro.out.below hbA (Nat.le_refl _))
        have hbr5 := hbr.trans (hbA.mono hbr.size)
        have hlc2 := Lib.hid (show ∀ r ∈ l, r.cells.length ≤ i + 1 from fun r h => Nat.le_succ_of_le (hlc.out r h))
        go_wp2
        go_roundw
        case rel => exact ⟨i + 1, false, l, by omega, rfl, by go_num, hro5, hgo3, hbr5, by omega, Lib.hid (fun h => by cases h), hlc2⟩
        case measure => simp [intOf]; omega
     ·obtain rfl : i = m := by omega
      have hii : ¬ (i : Int) < i := by omega
      have hg : l = RC := by have h := hgo.out; rw [Nat.sub_self] at h; simpa [rrGo] using h
      subst hg
      go_wp2
      go_ret2
      exact ⟨hW1.trans (hbr.mono hW1.size), _, rfl, hro.out.low hW1.size⟩
   ·have hokF : ok = false := by
     rw [← hok]
     by_cases c : wa = wb
     ·have : ¬ ha = hb := fun h => hsz ⟨c, h⟩
      simp [this]
     ·simp [c]
    subst hokF
    simp only [Bool.false_eq_true, if_false] at hE hRC
    subst hE hRC
    obtain ⟨b1, hb1'⟩ : ∃ b, (wa == wb) = b := ⟨_, rfl⟩
    obtain ⟨b2, hb2'⟩ : ∃ b, (ha == hb) = b := ⟨_, rfl⟩
    have hbb : (b1 && b2) = false := by
     rw [← hb1', ← hb2']
     by_cases c : wa = wb
     ·have : ¬ ha = hb := fun h => hsz ⟨c, h⟩
      simp [this]
     ·simp [c]
    clear hok CZ1 CZ2
    replace hsz := Lib.hid hsz
    go_wp2_with (first
     | (go_at_call 16; (with_reducible refine C1.out.mono ?_); rintro e w1 ⟨rfl, hb1⟩; obtain ⟨hc1, hf1⟩ := bcell hb1; clear C1)
     | (go_at_call 16; (with_reducible refine (C2'.out _ hb1).mono ?_); rintro e w2 ⟨rfl, hb2⟩; have hb12 := hb1.trans (hb2.mono hb1.size); clear hc1 hf1; obtain ⟨hc1, hf1⟩ := bcell hb12))
    go_ret2
    exact ⟨hbw.trans (hb12.mono hbw.size), _, rfl, RunRows.nil _ _⟩
  ·subst e1 e2
   have hokF : ok = false := by rw [← hok]; rfl
   subst hokF
   simp only [Bool.false_eq_true, if_false] at hE hRC
   subst hE hRC
   clear hok CZ1 CZ2
   go_wp2_with (first
    | (go_at_call 16; (with_reducible refine C1.out.mono ?_); rintro e w1 ⟨rfl, hb1⟩; obtain ⟨hc1, hf1⟩ := bcell hb1; clear C1)
    | (go_at_call 16; (with_reducible refine (C2'.out _ hb1).mono ?_); rintro e w2 ⟨rfl, hb2⟩; have hb12 := hb1.trans (hb2.mono hb1.size); clear hc1 hf1; obtain ⟨hc1, hf1⟩ := bcell hb12))
   go_ret2
   exact ⟨hbw.trans (hb12.mono hbw.size), _, rfl, RunRows.nil _ _⟩
 ·subst e1
  have hokF : ok = false := by rw [← hok]; rfl
  subst hokF
  simp only [Bool.false_eq_true, if_false] at hE hRC
  subst hE hRC
  clear hok CZ1 CZ2
  go_wp2_with (go_at_call 16; (with_reducible refine C1.out.mono ?_); rintro e w1 ⟨rfl, hb1⟩)
  go_ret2
  exact ⟨hbw.trans (hb1.mono hbw.size), _, rfl, RunRows.nil _ _⟩
end Go.Proofs.YtffmomgmkpmpkaaGreatDoor
