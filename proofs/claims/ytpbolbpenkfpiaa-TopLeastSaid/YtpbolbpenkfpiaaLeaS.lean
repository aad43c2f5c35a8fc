/-
  The check of bounds that may be; the numbers on their way up.
-/
import Derived.Test.YtpbolbpenkfpiaaLeaR
import Derived.Test.YtpbolbpenkfpiaaBlk
import Derived.Deep.DeepCutAuto
import Derived.RegionTactic
import Derived.BigRegion
namespace Go.Proofs.Ytpbolbpenkfpiaa
open Go.RowKit
set_option linter.unusedVariables false
attribute [local go_sem] vwp vUpon_value vUpon_skip vUpon_enter vUpon_row
set_option linter.unusedSimpArgs false
set_option maxHeartbeats 1000000 in
theorem check_ok (N : Nat) (bs : List Bd) (v : Value) (w : World) (hr : Row w.heap.size 3 encB w v bs) (hv : Valid N bs) :
    Calls Try.prog 9 #[.int .i64 N, v] w fun e w' => e = .returned (.int .i64 0) ∧ Below w.heap.size w w' := by
  obtain ⟨L, hL⟩ : ∃ L, bs.length = L := ⟨_, rfl⟩
  obtain ⟨s, cap, hv', hmax⟩ := hr.shape
  have g1 := hv.n1
  have g2 := hv.l1
  rw [hL] at hv' hmax g2
  have hopen := fun h0 => hr.open_ h0
  rw [hL] at hopen
  replace hopen := Lib.hid hopen
  subst hv'
  go_enter Try.func9, Try.ntmps9
  go_wp2
  go_loopw [18] (fun i wr => ∃ k : Nat, k ≤ L ∧ i = .int .i64 k ∧ Below w.heap.size w wr) (fun i _ => L - (intOf i).toNat)
  case atStart => exact ⟨0, Nat.zero_le _, rfl, (by repeat (first | exact Below.refl _ _ | assumption | refine Below.drew ?_ | refine Below.alloc ?_ (by (try simp) <;> omega) _ | refine Below.setCell ?_ (by (try simp) <;> omega) _))⟩
  case round =>
    obtain ⟨k, hk, rfl, hbe⟩ := hrel
    by_cases hlt : k < L
    · obtain ⟨x, hx⟩ : ∃ x, bs[k]? = some x := ⟨bs[k]'(by omega), by simp [hL, hlt]⟩
      obtain ⟨b, o, cap', e, hbl, _, _, hcell⟩ := hopen.out (by omega)
      simp at e
      obtain ⟨rfl, rfl⟩ := e
      obtain ⟨c0, c1, c2⟩ := enc3 (hcell k x hx)
      obtain ⟨q1, q2, q3, q4, q5, q6⟩ := hv.each k x hx
      have hkk : (k : Int) < L := by omega
      obtain ⟨hc, hf⟩ := bcell hbe
      have hzb := hbe.size
      obtain ⟨lo, hlo⟩ : ∃ lo, min x.a x.b = lo := ⟨_, rfl⟩
      obtain ⟨hi, hhi⟩ : ∃ hi, max x.a x.b = hi := ⟨_, rfl⟩
      have m1 : (if x.a < x.b then x.a else x.b) = lo := by split <;> omega
      have m2 : (if x.b < x.a then x.b else x.a) = lo := by split <;> omega
      have m3 : (if x.a < x.b then x.b else x.a) = hi := by split <;> omega
      have m4 : (if x.b < x.a then x.a else x.b) = hi := by split <;> omega
      have l0 : 0 ≤ lo := by omega
      have l2 : hi < N := by omega
      clear hlo hhi
      clear hcell hr hv hx
      go_wp2
      go_roundw
      case rel => exact ⟨k + 1, by omega, by go_num, (by repeat (first | exact Below.refl _ _ | assumption | refine Below.drew ?_ | refine Below.alloc ?_ (by (try simp) <;> omega) _ | refine Below.setCell ?_ (by (try simp) <;> omega) _ | (refine Below.trans ?_ (Below.mono (by assumption) (by (try simp) <;> omega)))))⟩
      case measure => simp [intOf]; omega
    · go_wp2
      go_ret
      exact ⟨rfl, hbe⟩
/-- How it ends. -/
def Fin (N : Nat) (bs : List Bd) (x made : List Int) (last : Int) : Prop :=
  (last = 0 ∧ Sol N bs x ∧ (∀ at_, Sol N bs at_ → ∀ v, v < N → X x v ≤ X at_ v) ∧ ∀ v, v < N → X x v ≤ 1125899906842624) ∨ (1 ≤ last ∧ Ring N bs made (last - 1).toNat)
theorem fin_rest {N L : Nat} {bs : List Bd} {x made : List Int} {tau : Nat → Nat} {c : Nat} (hI : Inv N bs x made 0 tau c L) (hL : bs.length = L) (hv : Valid N bs) (hc : c ≤ 4095 * 4096) : Fin N bs x made 0 := by
  subst hL
  have := hv.l1
  refine .inl ⟨rfl, hI.done hv.each, hI.least, fun v hv => ?_⟩
  have := (hI.x0 v hv).2
  omega
theorem fin_end {N L : Nat} {bs : List Bd} {x made : List Int} {last : Int} {tau : Nat → Nat} (hI : (N = 0 ∧ last = 0 ∧ Inv N bs x made last tau 0 0) ∨ (1 ≤ N ∧ last ≠ 0 ∧ Inv N bs x made last tau ((N - 1) * L) L)) (hL : bs.length = L) (hv : Valid N bs) : Fin N bs x made last := by
  rcases hI with ⟨rfl, rfl, h⟩ | ⟨h1, h2, h⟩
  · have hb : bs = [] := by
      cases bs with
      | nil => rfl
      | cons b bs => have h9 := hv.each 0 b rfl; have := h9.a0; have := h9.a1; omega
    subst hb
    exact fin_rest (L := 0) h rfl hv (by omega)
  · subst hL
    exact .inr (h.ring h2 hv.each)
theorem inv_len {N L : Nat} {bs : List Bd} {x made : List Int} {last : Int} {tau : Nat → Nat} (hI : (N = 0 ∧ last = 0 ∧ Inv N bs x made last tau 0 0) ∨ (1 ≤ N ∧ last ≠ 0 ∧ Inv N bs x made last tau ((N - 1) * L) L)) : x.length = N ∧ made.length = N := by
  rcases hI with ⟨_, _, h⟩ | ⟨_, _, h⟩
  · exact ⟨h.lx, h.lm⟩
  · exact ⟨h.lx, h.lm⟩
theorem infoI : (Try.prog.info? 3).map (fun i => (i.zero, i.size, i.bytes)) = some (some (.int .i64 0), 1, 8) := by kernel_rfl
theorem map_at (x : List Int) (v : Nat) (h : v < x.length) : (x.map (Value.int .i64))[v]? = some (.int .i64 (X x v)) := by
  unfold X
  rw [List.getElem?_map, List.getElem?_eq_getElem h, List.getD_eq_getElem?_getD, List.getElem?_eq_getElem h]; rfl
def zerosV (n : Nat) : List Value := (List.replicate n (0 : Int)).map (Value.int .i64)
theorem make_ints (n : Nat) (hn : n ≤ 4096) (w : World) : (Instr.makeSlice 23 (.int .i64 n) (.int .i64 n)).run Try.prog w = .ok (.slice (some ⟨w.heap.size, 0, none⟩) n n) (w.alloc (.cells (zerosV n).toArray 3)) := by
  obtain ⟨i0, hi, hz0, hz1, hz2⟩ := info_parts infoI
  have h := run_make (P := Try.prog) w 23 3 i0 _ Try.underlying23 hi hz0 .i64 .i64 n n (by omega) (Int.le_refl _) (by rw [hz2]; omega) (by omega)
  rw [h, hz1, Nat.mul_one, Int.toNat_natCast, madeCells_ints]
  rfl
set_option maxHeartbeats 2000000 in
theorem rounds_any (N : Nat) (bs : List Bd) (v : Value) (w : World) (hr : Row w.heap.size 3 encB w v bs) (hv : Valid N bs) :
    Calls Try.prog 10 #[.int .i64 N, v] w fun e w' => Below w.heap.size w w' ∧ ∃ x made last g1 g2, e = .returned (.agg #[.slice (some ⟨g1, 0, none⟩) N N, .slice (some ⟨g2, 0, none⟩) N N, .int .i64 last]) ∧
      w.heap.size ≤ g1 ∧ w.heap.size ≤ g2 ∧ x.length = N ∧ made.length = N ∧ Blk w' g1 (x.map (Value.int .i64)) 3 ∧ Blk w' g2 (made.map (Value.int .i64)) 3 ∧ Fin N bs x made last := by
  obtain ⟨L, hL⟩ : ∃ L, bs.length = L := ⟨_, rfl⟩
  obtain ⟨s, cap, hv', hmax⟩ := hr.shape
  have n1 := hv.n1
  have n2 := hv.l1
  rw [hL] at hv' hmax n2
  have hopen := fun h0 => hr.open_ h0
  rw [hL] at hopen
  replace hopen := Lib.hid hopen
  subst hv'
  have hmk := make_ints N n1
  go_enter Try.func10, Try.ntmps10
  go_upto_region 1 with fail
  go_step3
  go_upto_region 1 with fail
  go_cut [5, 10, 12] (fun s5 s10 s12 wx => ∃ g1 g2 bw : Nat, s5 = .pointer (some ⟨bw, 0, none⟩) ∧ s10 = .slice (some ⟨g1, 0, none⟩) N N ∧ s12 = .slice (some ⟨g2, 0, none⟩) N N ∧ w.heap.size ≤ g1 ∧ w.heap.size ≤ g2 ∧ w.heap.size ≤ bw ∧ g1 ≠ g2 ∧ g1 ≠ bw ∧ g2 ≠ bw ∧ g1 ≠ w.heap.size ∧ g2 ≠ w.heap.size ∧ bw ≠ w.heap.size ∧ Below w.heap.size w wx ∧
    Blk wx g1 (zerosV N) 3 ∧ Blk wx g2 (zerosV N) 3 ∧ Blk wx bw [.slice (some ⟨g1, 0, none⟩) N N, .slice (some ⟨g2, 0, none⟩) N N, .int .i64 0] 33 ∧ Blk wx w.heap.size [.slice none 0 0, .slice none 0 0, .int .i64 0] 33)
  case first =>
    go_region
    all_goals
      go_wp2_with fail
      go_meet
      exact ⟨_, _, _, rfl, rfl, rfl, by omega, by omega, by omega, by omega, by omega, by omega, by omega, by omega, by omega, (by repeat (first | exact Below.refl _ _ | assumption | refine Below.drew ?_ | refine Below.alloc ?_ (by (try simp) <;> omega) _ | refine Below.setCell ?_ (by (try simp) <;> omega) _)), (by repeat (first | (with_reducible assumption) | (with_reducible refine Blk.drew ?_) | ((with_reducible refine Blk.new' ?_); (simp; done)) | (with_reducible refine Blk.alloc ?_ _) | ((with_reducible refine Blk.set_ne ?_ ?_ _); rotate_left; (focus (first | (simp; omega) | omega))))), (by repeat (first | (with_reducible assumption) | (with_reducible refine Blk.drew ?_) | ((with_reducible refine Blk.new' ?_); (simp; done)) | (with_reducible refine Blk.alloc ?_ _) | ((with_reducible refine Blk.set_ne ?_ ?_ _); rotate_left; (focus (first | (simp; omega) | omega))))), (by repeat (first | (with_reducible assumption) | (with_reducible refine Blk.drew ?_) | ((with_reducible refine Blk.new' ?_); (simp; done)) | (with_reducible refine Blk.alloc ?_ _) | ((with_reducible refine Blk.set_ne ?_ ?_ _); rotate_left; (focus (first | (simp; omega) | omega))))), (by repeat (first | (with_reducible assumption) | (with_reducible refine Blk.drew ?_) | ((with_reducible refine Blk.new' ?_); (simp; done)) | (with_reducible refine Blk.alloc ?_ _) | ((with_reducible refine Blk.set_ne ?_ ?_ _); rotate_left; (focus (first | (simp; omega) | omega)))))⟩
  case rest =>
    obtain ⟨g1, g2, bw, rfl, rfl, rfl, l1, l2, l3, d1, d2, d3, d4, d5, d6, hbe, k1, k2, k3, k4⟩ := hcut
    have z0 := k4.lt
    go_wp2
    go_step3
    go_wp2
    go_loopw [15] (fun i wr => ∃ (k : Nat) (x made : List Int) (last : Int) (tau : Nat → Nat), k ≤ N ∧ i = .int .i64 k ∧ ((k = 0 ∧ last = 0 ∧ Inv N bs x made last tau 0 0) ∨ (1 ≤ k ∧ last ≠ 0 ∧ Inv N bs x made last tau ((k - 1) * L) L)) ∧ Below w.heap.size w wr ∧
      Blk wr g1 (x.map (Value.int .i64)) 3 ∧ Blk wr g2 (made.map (Value.int .i64)) 3 ∧ Blk wr bw [.slice (some ⟨g1, 0, none⟩) N N, .slice (some ⟨g2, 0, none⟩) N N, .int .i64 last] 33 ∧ Blk wr w.heap.size [.slice none 0 0, .slice none 0 0, .int .i64 0] 33) (fun i _ => N - (intOf i).toNat)
    case atStart => exact ⟨0, _, _, 0, _, Nat.zero_le _, rfl, .inl ⟨rfl, rfl, Inv.start N bs 0 rfl⟩, hbe, k1, k2, k3, k4⟩
    case round =>
      clear k1 k2 k3 k4 hbe z0
      obtain ⟨k, x, made, last, tau, hk, rfl, hI, hbe, k1, k2, k3, k4⟩ := hrel
      obtain ⟨wo, rfl⟩ : ∃ wo : World, wo = wr := ⟨_, rfl⟩
      have z0 := k4.lt
      have z1 := k1.lt
      have z2 := k2.lt
      have z3 := k3.lt
      have zb := hbe.size
      by_cases hkN : k < N
      · have hkk : (k : Int) < N := by omega
        have hI0 : Inv N bs x made 0 tau (k * L) 0 := by
          rcases hI with ⟨rfl, rfl, h⟩ | ⟨h1, _, h⟩
          · rw [Nat.zero_mul]; exact h
          · have := h.turn' hL
            rwa [show (k - 1) * L + L = k * L by rw [Nat.sub_mul, Nat.one_mul]; have : 1 * L ≤ k * L := Nat.mul_le_mul_right _ h1; omega] at this
        have c2 := k3.cell (o := 2) rfl
        have f2 := k3.free 2
        replace hI0 := Lib.hid hI0
        clear hI
        go_wp2
        go_loopw [20] (fun i wr => ∃ (j : Nat) (x made : List Int) (last : Int) (tau : Nat → Nat), j ≤ L ∧ i = .int .i64 j ∧ Inv N bs x made last tau (k * L) j ∧ Below w.heap.size w wr ∧
          Blk wr g1 (x.map (Value.int .i64)) 3 ∧ Blk wr g2 (made.map (Value.int .i64)) 3 ∧ Blk wr bw [.slice (some ⟨g1, 0, none⟩) N N, .slice (some ⟨g2, 0, none⟩) N N, .int .i64 last] 33 ∧ Blk wr w.heap.size [.slice none 0 0, .slice none 0 0, .int .i64 0] 33) (fun i _ => L - (intOf i).toNat)
        case atStart => exact ⟨0, x, made, 0, tau, Nat.zero_le _, rfl, hI0.out, (by repeat (first | exact Below.refl _ _ | assumption | refine Below.drew ?_ | refine Below.alloc ?_ (by (try simp) <;> omega) _ | refine Below.setCell ?_ (by (try simp) <;> omega) _ | (refine Below.trans ?_ (Below.mono (by assumption) (by (try simp) <;> omega))))), (by repeat (first | (with_reducible assumption) | (with_reducible refine Blk.drew ?_) | ((with_reducible refine Blk.new' ?_); (simp; done)) | (with_reducible refine Blk.alloc ?_ _) | ((with_reducible refine Blk.set_ne ?_ ?_ _); rotate_left; (focus (first | (simp; omega) | omega))))), (by repeat (first | (with_reducible assumption) | (with_reducible refine Blk.drew ?_) | ((with_reducible refine Blk.new' ?_); (simp; done)) | (with_reducible refine Blk.alloc ?_ _) | ((with_reducible refine Blk.set_ne ?_ ?_ _); rotate_left; (focus (first | (simp; omega) | omega))))), k3.set 2 _, (by repeat (first | (with_reducible assumption) | (with_reducible refine Blk.drew ?_) | ((with_reducible refine Blk.new' ?_); (simp; done)) | (with_reducible refine Blk.alloc ?_ _) | ((with_reducible refine Blk.set_ne ?_ ?_ _); rotate_left; (focus (first | (simp; omega) | omega)))))⟩
        case round =>
          clear k1 k2 k3 k4 hbe z0 z1 z2 z3 zb c2 f2 hI0 x made last tau
          obtain ⟨j, x, made, last, tau, hj, rfl, hI, hbe, k1, k2, k3, k4⟩ := hrel
          obtain ⟨wi, rfl⟩ : ∃ wi : World, wi = wr := ⟨_, rfl⟩
          have z0 := k4.lt
          have z1 := k1.lt
          have z2 := k2.lt
          have z3 := k3.lt
          have zb := hbe.size
          have hkL : k * L ≤ 4095 * 4096 := Nat.mul_le_mul (by omega) n2
          by_cases hjL : j < L
          · obtain ⟨y, hy⟩ : ∃ y, bs[j]? = some y := ⟨bs[j]'(by omega), by simp [hL, hjL]⟩
            obtain ⟨b, o, cap', e, hbl, _, _, hcell⟩ := hopen.out (by omega)
            simp at e
            obtain ⟨rfl, rfl⟩ := e
            obtain ⟨c0, c1, c2⟩ := enc3 (hcell j y hy)
            have hok := hv.each j y hy
            obtain ⟨q1, q2, q3, q4, q5, q6⟩ := id hok
            have hjj : (j : Int) < L := by omega
            obtain ⟨hc, hf⟩ := bcell hbe
            have haN : y.a.toNat < N := by omega
            have hbN : y.b.toNat < N := by omega
            have xa := hI.x0 _ haN
            have xb := hI.x0 _ hbN
            have e1 := k1.cell (map_at x y.a.toNat (by rw [hI.lx]; exact haN))
            have e2 := k1.cell (map_at x y.b.toNat (by rw [hI.lx]; exact hbN))
            have e3 := k3.cell (o := 0) rfl
            have e4 := k3.cell (o := 1) rfl
            have e5 := k3.cell (o := 2) rfl
            have f1 := k1.free y.b.toNat
            have f2 := k2.free y.b.toNat
            have f3 := k3.free 2
            have e6 := k2.cell (map_at made y.b.toNat (by rw [hI.lm]; exact hbN))
            obtain ⟨xa0, xa1⟩ := xa
            obtain ⟨xb0, xb1⟩ := xb
            have xa2 : X x y.a.toNat ≤ 17592186044416 := by omega
            have xb2 : X x y.b.toNat ≤ 17592186044416 := by omega
            have hstay := hI.stay hy
            have hstep := hI.step hy hok
            replace hstay := Lib.hid hstay
            replace hstep := Lib.hid hstep
            clear xa1 xb1 hI hcell hopen hr hv hmk
            generalize X x y.a.toNat = A at *
            generalize X x y.b.toNat = B at *
            by_cases hgt : B < A + y.f
            · have hgi : B < A + y.f := hgt
              go_wp2
              refine wp_region_steady (Held wi 1 [(⟨wi.heap.size, 0, none⟩, .int .i64 y.a), (⟨wi.heap.size, 1, none⟩, .int .i64 y.b), (⟨wi.heap.size, 2, none⟩, .int .i64 y.f)]) (by kernel_rfl) (by kernel_rfl) ⟨(by repeat (first | exact Below.refl _ _ | assumption | refine Below.drew ?_ | refine Below.alloc ?_ (by (try simp) <;> omega) _ | refine Below.setCell ?_ (by (try simp) <;> omega) _ | (refine Below.trans ?_ (Below.mono (by assumption) (by (try simp) <;> omega))))), (by (try simp) <;> omega), (by simp only [Cells]; go_simp)⟩ ?_
              repeat (first | (refine' wpSteady_do _ _ _; rotate_left; (focus rfl); (focus (intro w1 hS R hR; have hc := hS.cells; simp only [Cells] at hc; obtain ⟨hco, hfo⟩ := bcell hS.old; go_simp; (try go_bits); first | exact hR _ hS | fail)); simp only [Act.put, List.setIfInBounds_toArray, List.set_cons_zero, List.set_cons_succ]) | (refine wpSteady_pass ?_ ?_; (focus rfl); simp only [Act.put, List.setIfInBounds_toArray, List.set_cons_zero, List.set_cons_succ]))
              refine wpSteady_nil (fun uA hSA => ?_)
              have hcA := hSA.cells; have hbA := hSA.old; have hzA := hSA.size; clear hSA; simp only [Cells] at hcA; obtain ⟨hcoA, hfoA⟩ := bcell hbA
              go_wp2
              have k1' := k1.below hbA z1
              have k2' := k2.below hbA z2
              have k3' := k3.below hbA z3
              have k4' := k4.below hbA z0
              refine held_begin (fun w' => w'.cell? ⟨bw, 0, none⟩ = some (.slice (some ⟨g1, 0, none⟩) N N) ∧ w'.cell? ⟨bw, 1, none⟩ = some (.slice (some ⟨g2, 0, none⟩) N N) ∧ w'.cell? ⟨wi.heap.size, 1, none⟩ = some (.int .i64 y.b)) (by kernel_rfl) ⟨by go_simp, by go_simp, by go_simp⟩ (fun hS => ?_)
              (first | (refine' held_do (i := 0) _ (by kernel_rfl) (by kernel_rfl) (by kernel_rfl) _ _ hS _ _; rotate_left 2; (focus (simp only [List.getElem?_toArray, List.getElem?_cons_succ, List.getElem?_cons_zero]; rfl)); (focus exact fun _ _ _ h => h); (focus rfl); (focus (intro w1 hSS R hR; have hc := hSS; (try simp only [Held, Cells] at hc); go_simp; (try go_bits); exact hR)); simp only [Act.put, List.setIfInBounds_toArray, List.set_cons_zero, List.set_cons_succ]) | (refine' held_pass (i := 0) _ (by kernel_rfl) (by kernel_rfl) (by kernel_rfl) _ _ hS _; rotate_left; (focus (simp only [List.getElem?_toArray, List.getElem?_cons_succ, List.getElem?_cons_zero]; rfl)); (focus exact fun _ _ _ h => h); (focus rfl); simp only [Act.put, List.setIfInBounds_toArray, List.set_cons_zero, List.set_cons_succ]))
              (first | (refine' held_do (i := 1) _ (by kernel_rfl) (by kernel_rfl) (by kernel_rfl) _ _ hS _ _; rotate_left 2; (focus (simp only [List.getElem?_toArray, List.getElem?_cons_succ, List.getElem?_cons_zero]; rfl)); (focus exact fun _ _ _ h => h); (focus rfl); (focus (intro w1 hSS R hR; have hc := hSS; (try simp only [Held, Cells] at hc); go_simp; (try go_bits); exact hR)); simp only [Act.put, List.setIfInBounds_toArray, List.set_cons_zero, List.set_cons_succ]) | (refine' held_pass (i := 1) _ (by kernel_rfl) (by kernel_rfl) (by kernel_rfl) _ _ hS _; rotate_left; (focus (simp only [List.getElem?_toArray, List.getElem?_cons_succ, List.getElem?_cons_zero]; rfl)); (focus exact fun _ _ _ h => h); (focus rfl); simp only [Act.put, List.setIfInBounds_toArray, List.set_cons_zero, List.set_cons_succ]))
              (first | (refine' held_do (i := 2) _ (by kernel_rfl) (by kernel_rfl) (by kernel_rfl) _ _ hS _ _; rotate_left 2; (focus (simp only [List.getElem?_toArray, List.getElem?_cons_succ, List.getElem?_cons_zero]; rfl)); (focus exact fun _ _ _ h => h); (focus rfl); (focus (intro w1 hSS R hR; have hc := hSS; (try simp only [Held, Cells] at hc); go_simp; (try go_bits); exact hR)); simp only [Act.put, List.setIfInBounds_toArray, List.set_cons_zero, List.set_cons_succ]) | (refine' held_pass (i := 2) _ (by kernel_rfl) (by kernel_rfl) (by kernel_rfl) _ _ hS _; rotate_left; (focus (simp only [List.getElem?_toArray, List.getElem?_cons_succ, List.getElem?_cons_zero]; rfl)); (focus exact fun _ _ _ h => h); (focus rfl); simp only [Act.put, List.setIfInBounds_toArray, List.set_cons_zero, List.set_cons_succ]))
              (first | (refine' held_do (i := 3) _ (by kernel_rfl) (by kernel_rfl) (by kernel_rfl) _ _ hS _ _; rotate_left 2; (focus (simp only [List.getElem?_toArray, List.getElem?_cons_succ, List.getElem?_cons_zero]; rfl)); (focus exact fun _ _ _ h => h); (focus rfl); (focus (intro w1 hSS R hR; have hc := hSS; (try simp only [Held, Cells] at hc); go_simp; (try go_bits); exact hR)); simp only [Act.put, List.setIfInBounds_toArray, List.set_cons_zero, List.set_cons_succ]) | (refine' held_pass (i := 3) _ (by kernel_rfl) (by kernel_rfl) (by kernel_rfl) _ _ hS _; rotate_left; (focus (simp only [List.getElem?_toArray, List.getElem?_cons_succ, List.getElem?_cons_zero]; rfl)); (focus exact fun _ _ _ h => h); (focus rfl); simp only [Act.put, List.setIfInBounds_toArray, List.set_cons_zero, List.set_cons_succ]))
              (first | (refine' held_do (i := 4) _ (by kernel_rfl) (by kernel_rfl) (by kernel_rfl) _ _ hS _ _; rotate_left 2; (focus (simp only [List.getElem?_toArray, List.getElem?_cons_succ, List.getElem?_cons_zero]; rfl)); (focus exact fun _ _ _ h => h); (focus rfl); (focus (intro w1 hSS R hR; have hc := hSS; (try simp only [Held, Cells] at hc); go_simp; (try go_bits); exact hR)); simp only [Act.put, List.setIfInBounds_toArray, List.set_cons_zero, List.set_cons_succ]) | (refine' held_pass (i := 4) _ (by kernel_rfl) (by kernel_rfl) (by kernel_rfl) _ _ hS _; rotate_left; (focus (simp only [List.getElem?_toArray, List.getElem?_cons_succ, List.getElem?_cons_zero]; rfl)); (focus exact fun _ _ _ h => h); (focus rfl); simp only [Act.put, List.setIfInBounds_toArray, List.set_cons_zero, List.set_cons_succ]))
              (first | (refine' held_do (i := 5) _ (by kernel_rfl) (by kernel_rfl) (by kernel_rfl) _ _ hS _ _; rotate_left 2; (focus (simp only [List.getElem?_toArray, List.getElem?_cons_succ, List.getElem?_cons_zero]; rfl)); (focus exact fun _ _ _ h => h); (focus rfl); (focus (intro w1 hSS R hR; have hc := hSS; (try simp only [Held, Cells] at hc); go_simp; (try go_bits); exact hR)); simp only [Act.put, List.setIfInBounds_toArray, List.set_cons_zero, List.set_cons_succ]) | (refine' held_pass (i := 5) _ (by kernel_rfl) (by kernel_rfl) (by kernel_rfl) _ _ hS _; rotate_left; (focus (simp only [List.getElem?_toArray, List.getElem?_cons_succ, List.getElem?_cons_zero]; rfl)); (focus exact fun _ _ _ h => h); (focus rfl); simp only [Act.put, List.setIfInBounds_toArray, List.set_cons_zero, List.set_cons_succ]))
              (first | (refine' held_do (i := 6) _ (by kernel_rfl) (by kernel_rfl) (by kernel_rfl) _ _ hS _ _; rotate_left 2; (focus (simp only [List.getElem?_toArray, List.getElem?_cons_succ, List.getElem?_cons_zero]; rfl)); (focus exact fun _ _ _ h => h); (focus rfl); (focus (intro w1 hSS R hR; have hc := hSS; (try simp only [Held, Cells] at hc); go_simp; (try go_bits); exact hR)); simp only [Act.put, List.setIfInBounds_toArray, List.set_cons_zero, List.set_cons_succ]) | (refine' held_pass (i := 6) _ (by kernel_rfl) (by kernel_rfl) (by kernel_rfl) _ _ hS _; rotate_left; (focus (simp only [List.getElem?_toArray, List.getElem?_cons_succ, List.getElem?_cons_zero]; rfl)); (focus exact fun _ _ _ h => h); (focus rfl); simp only [Act.put, List.setIfInBounds_toArray, List.set_cons_zero, List.set_cons_succ]))
              (first | (refine' held_do (i := 7) _ (by kernel_rfl) (by kernel_rfl) (by kernel_rfl) _ _ hS _ _; rotate_left 2; (focus (simp only [List.getElem?_toArray, List.getElem?_cons_succ, List.getElem?_cons_zero]; rfl)); (focus exact fun _ _ _ h => h); (focus rfl); (focus (intro w1 hSS R hR; have hc := hSS; (try simp only [Held, Cells] at hc); go_simp; (try go_bits); exact hR)); simp only [Act.put, List.setIfInBounds_toArray, List.set_cons_zero, List.set_cons_succ]) | (refine' held_pass (i := 7) _ (by kernel_rfl) (by kernel_rfl) (by kernel_rfl) _ _ hS _; rotate_left; (focus (simp only [List.getElem?_toArray, List.getElem?_cons_succ, List.getElem?_cons_zero]; rfl)); (focus exact fun _ _ _ h => h); (focus rfl); simp only [Act.put, List.setIfInBounds_toArray, List.set_cons_zero, List.set_cons_succ]))
              (first | (refine' held_do (i := 8) _ (by kernel_rfl) (by kernel_rfl) (by kernel_rfl) _ _ hS _ _; rotate_left 2; (focus (simp only [List.getElem?_toArray, List.getElem?_cons_succ, List.getElem?_cons_zero]; rfl)); (focus exact fun _ _ _ h => h); (focus rfl); (focus (intro w1 hSS R hR; have hc := hSS; (try simp only [Held, Cells] at hc); go_simp; (try go_bits); exact hR)); simp only [Act.put, List.setIfInBounds_toArray, List.set_cons_zero, List.set_cons_succ]) | (refine' held_pass (i := 8) _ (by kernel_rfl) (by kernel_rfl) (by kernel_rfl) _ _ hS _; rotate_left; (focus (simp only [List.getElem?_toArray, List.getElem?_cons_succ, List.getElem?_cons_zero]; rfl)); (focus exact fun _ _ _ h => h); (focus rfl); simp only [Act.put, List.setIfInBounds_toArray, List.set_cons_zero, List.set_cons_succ]))
              (first | (refine' held_do (i := 9) _ (by kernel_rfl) (by kernel_rfl) (by kernel_rfl) _ _ hS _ _; rotate_left 2; (focus (simp only [List.getElem?_toArray, List.getElem?_cons_succ, List.getElem?_cons_zero]; rfl)); (focus exact fun _ _ _ h => h); (focus rfl); (focus (intro w1 hSS R hR; have hc := hSS; (try simp only [Held, Cells] at hc); go_simp; (try go_bits); exact hR)); simp only [Act.put, List.setIfInBounds_toArray, List.set_cons_zero, List.set_cons_succ]) | (refine' held_pass (i := 9) _ (by kernel_rfl) (by kernel_rfl) (by kernel_rfl) _ _ hS _; rotate_left; (focus (simp only [List.getElem?_toArray, List.getElem?_cons_succ, List.getElem?_cons_zero]; rfl)); (focus exact fun _ _ _ h => h); (focus rfl); simp only [Act.put, List.setIfInBounds_toArray, List.set_cons_zero, List.set_cons_succ]))
              (first | (refine' held_do (i := 10) _ (by kernel_rfl) (by kernel_rfl) (by kernel_rfl) _ _ hS _ _; rotate_left 2; (focus (simp only [List.getElem?_toArray, List.getElem?_cons_succ, List.getElem?_cons_zero]; rfl)); (focus exact fun _ _ _ h => h); (focus rfl); (focus (intro w1 hSS R hR; have hc := hSS; (try simp only [Held, Cells] at hc); go_simp; (try go_bits); exact hR)); simp only [Act.put, List.setIfInBounds_toArray, List.set_cons_zero, List.set_cons_succ]) | (refine' held_pass (i := 10) _ (by kernel_rfl) (by kernel_rfl) (by kernel_rfl) _ _ hS _; rotate_left; (focus (simp only [List.getElem?_toArray, List.getElem?_cons_succ, List.getElem?_cons_zero]; rfl)); (focus exact fun _ _ _ h => h); (focus rfl); simp only [Act.put, List.setIfInBounds_toArray, List.set_cons_zero, List.set_cons_succ]))
              (first | (refine' held_do (i := 11) _ (by kernel_rfl) (by kernel_rfl) (by kernel_rfl) _ _ hS _ _; rotate_left 2; (focus (simp only [List.getElem?_toArray, List.getElem?_cons_succ, List.getElem?_cons_zero]; rfl)); (focus exact fun _ _ _ h => h); (focus rfl); (focus (intro w1 hSS R hR; have hc := hSS; (try simp only [Held, Cells] at hc); go_simp; (try go_bits); exact hR)); simp only [Act.put, List.setIfInBounds_toArray, List.set_cons_zero, List.set_cons_succ]) | (refine' held_pass (i := 11) _ (by kernel_rfl) (by kernel_rfl) (by kernel_rfl) _ _ hS _; rotate_left; (focus (simp only [List.getElem?_toArray, List.getElem?_cons_succ, List.getElem?_cons_zero]; rfl)); (focus exact fun _ _ _ h => h); (focus rfl); simp only [Act.put, List.setIfInBounds_toArray, List.set_cons_zero, List.set_cons_succ]))
              (first | (refine' held_do (i := 12) _ (by kernel_rfl) (by kernel_rfl) (by kernel_rfl) _ _ hS _ _; rotate_left 2; (focus (simp only [List.getElem?_toArray, List.getElem?_cons_succ, List.getElem?_cons_zero]; rfl)); (focus exact fun _ _ _ h => h); (focus rfl); (focus (intro w1 hSS R hR; have hc := hSS; (try simp only [Held, Cells] at hc); go_simp; (try go_bits); exact hR)); simp only [Act.put, List.setIfInBounds_toArray, List.set_cons_zero, List.set_cons_succ]) | (refine' held_pass (i := 12) _ (by kernel_rfl) (by kernel_rfl) (by kernel_rfl) _ _ hS _; rotate_left; (focus (simp only [List.getElem?_toArray, List.getElem?_cons_succ, List.getElem?_cons_zero]; rfl)); (focus exact fun _ _ _ h => h); (focus rfl); simp only [Act.put, List.setIfInBounds_toArray, List.set_cons_zero, List.set_cons_succ]))
              (first | (refine' held_do (i := 13) _ (by kernel_rfl) (by kernel_rfl) (by kernel_rfl) _ _ hS _ _; rotate_left 2; (focus (simp only [List.getElem?_toArray, List.getElem?_cons_succ, List.getElem?_cons_zero]; rfl)); (focus exact fun _ _ _ h => h); (focus rfl); (focus (intro w1 hSS R hR; have hc := hSS; (try simp only [Held, Cells] at hc); go_simp; (try go_bits); exact hR)); simp only [Act.put, List.setIfInBounds_toArray, List.set_cons_zero, List.set_cons_succ]) | (refine' held_pass (i := 13) _ (by kernel_rfl) (by kernel_rfl) (by kernel_rfl) _ _ hS _; rotate_left; (focus (simp only [List.getElem?_toArray, List.getElem?_cons_succ, List.getElem?_cons_zero]; rfl)); (focus exact fun _ _ _ h => h); (focus rfl); simp only [Act.put, List.setIfInBounds_toArray, List.set_cons_zero, List.set_cons_succ]))
              (first | (refine' held_do (i := 14) _ (by kernel_rfl) (by kernel_rfl) (by kernel_rfl) _ _ hS _ _; rotate_left 2; (focus (simp only [List.getElem?_toArray, List.getElem?_cons_succ, List.getElem?_cons_zero]; rfl)); (focus exact fun _ _ _ h => h); (focus rfl); (focus (intro w1 hSS R hR; have hc := hSS; (try simp only [Held, Cells] at hc); go_simp; (try go_bits); exact hR)); simp only [Act.put, List.setIfInBounds_toArray, List.set_cons_zero, List.set_cons_succ]) | (refine' held_pass (i := 14) _ (by kernel_rfl) (by kernel_rfl) (by kernel_rfl) _ _ hS _; rotate_left; (focus (simp only [List.getElem?_toArray, List.getElem?_cons_succ, List.getElem?_cons_zero]; rfl)); (focus exact fun _ _ _ h => h); (focus rfl); simp only [Act.put, List.setIfInBounds_toArray, List.set_cons_zero, List.set_cons_succ]))
              (refine' held_one (i := 15) _ (by kernel_rfl) _ _; rotate_left; (focus (simp only [List.getElem?_toArray, List.getElem?_cons_succ, List.getElem?_cons_zero]; rfl)); (focus rfl); intro K hK; go_simp)
              refine hK _ _ ⟨by go_simp, by go_simp, by go_simp⟩ ?_
              clear hK
              (try simp only [Act.put, List.setIfInBounds_toArray, List.set_cons_zero, List.set_cons_succ])
              (refine' held_one (i := 16) _ (by kernel_rfl) _ _; rotate_left; (focus (simp only [List.getElem?_toArray, List.getElem?_cons_succ, List.getElem?_cons_zero]; rfl)); (focus rfl); intro K hK; go_simp)
              refine hK _ _ ⟨by go_simp, by go_simp, by go_simp⟩ ?_
              clear hK
              (try simp only [Act.put, List.setIfInBounds_toArray, List.set_cons_zero, List.set_cons_succ])
              (refine' held_one (i := 17) _ (by kernel_rfl) _ _; rotate_left; (focus (simp only [List.getElem?_toArray, List.getElem?_cons_succ, List.getElem?_cons_zero]; rfl)); (focus rfl); intro K hK; go_simp)
              refine hK _ _ ⟨by go_simp, by go_simp, by go_simp⟩ ?_
              clear hK
              (try simp only [Act.put, List.setIfInBounds_toArray, List.set_cons_zero, List.set_cons_succ])
              (refine' held_one (i := 18) _ (by kernel_rfl) _ _; rotate_left; (focus (simp only [List.getElem?_toArray, List.getElem?_cons_succ, List.getElem?_cons_zero]; rfl)); (focus rfl); intro K hK; go_simp)
              refine hK _ _ ⟨by go_simp, by go_simp, by go_simp⟩ ?_
              clear hK
              (try simp only [Act.put, List.setIfInBounds_toArray, List.set_cons_zero, List.set_cons_succ])
              (refine' held_one (i := 19) _ (by kernel_rfl) _ _; rotate_left; (focus (simp only [List.getElem?_toArray, List.getElem?_cons_succ, List.getElem?_cons_zero]; rfl)); (focus rfl); intro K hK; go_simp)
              refine hK _ _ ⟨by go_simp, by go_simp, by go_simp⟩ ?_
              clear hK
              (try simp only [Act.put, List.setIfInBounds_toArray, List.set_cons_zero, List.set_cons_succ])
              refine wpAnyH_done (by kernel_rfl) ?_ _
              go_wp2
              obtain ⟨tau', hI'⟩ := hstep.out hgt
              go_roundw
              case rel =>
                refine ⟨j + 1, _, _, _, tau', by omega, by go_num, hI', (by repeat (first | exact Below.refl _ _ | assumption | refine Below.drew ?_ | refine Below.alloc ?_ (by (try simp) <;> omega) _ | refine Below.setCell ?_ (by (try simp) <;> omega) _ | (refine Below.trans ?_ (Below.mono (by assumption) (by (try simp) <;> omega))))), ?_, ?_, ?_, (by repeat (first | (with_reducible assumption) | (with_reducible refine Blk.drew ?_) | ((with_reducible refine Blk.new' ?_); (simp; done)) | (with_reducible refine Blk.alloc ?_ _) | ((with_reducible refine Blk.set_ne ?_ ?_ _); rotate_left; (focus (first | (simp; omega) | omega)))))⟩
                · rw [List.map_set]; exact (((k1'.drew.set _ _).set_ne (by simpa using d1) _).set_ne (by simpa using d2) _)
                · rw [List.map_set]; exact (((k2'.drew.set_ne (by simpa using d1.symm) _).set _ _).set_ne (by simpa using d3) _)
                · exact (((k3'.drew.set_ne (by simpa using d2.symm) _).set_ne (by simpa using d3.symm) _).set 2 _)
              case measure => simp [intOf]; omega
            · go_wp2
              refine wp_region_steady (Held wi 1 [(⟨wi.heap.size, 0, none⟩, .int .i64 y.a), (⟨wi.heap.size, 1, none⟩, .int .i64 y.b), (⟨wi.heap.size, 2, none⟩, .int .i64 y.f)]) (by kernel_rfl) (by kernel_rfl) ⟨(by repeat (first | exact Below.refl _ _ | assumption | refine Below.drew ?_ | refine Below.alloc ?_ (by (try simp) <;> omega) _ | refine Below.setCell ?_ (by (try simp) <;> omega) _ | (refine Below.trans ?_ (Below.mono (by assumption) (by (try simp) <;> omega))))), (by (try simp) <;> omega), (by simp only [Cells]; go_simp)⟩ ?_
              repeat (first | (refine' wpSteady_do _ _ _; rotate_left; (focus rfl); (focus (intro w1 hS R hR; have hc := hS.cells; simp only [Cells] at hc; obtain ⟨hco, hfo⟩ := bcell hS.old; go_simp; (try go_bits); first | exact hR _ hS | fail)); simp only [Act.put, List.setIfInBounds_toArray, List.set_cons_zero, List.set_cons_succ]) | (refine wpSteady_pass ?_ ?_; (focus rfl); simp only [Act.put, List.setIfInBounds_toArray, List.set_cons_zero, List.set_cons_succ]))
              refine wpSteady_nil (fun uA hSA => ?_)
              have hcA := hSA.cells; have hbA := hSA.old; have hzA := hSA.size; clear hSA; simp only [Cells] at hcA; obtain ⟨hcoA, hfoA⟩ := bcell hbA
              go_wp2
              go_roundw
              case rel => exact ⟨j + 1, x, made, last, tau, by omega, by go_num, hstay.out (by omega), (by repeat (first | exact Below.refl _ _ | assumption | refine Below.drew ?_ | refine Below.alloc ?_ (by (try simp) <;> omega) _ | refine Below.setCell ?_ (by (try simp) <;> omega) _ | (refine Below.trans ?_ (Below.mono (by assumption) (by (try simp) <;> omega))))), k1.below hbA z1, k2.below hbA z2, k3.below hbA z3, k4.below hbA z0⟩
              case measure => simp [intOf]; omega
          · obtain rfl : j = L := by omega
            have e3 := k3.cell (o := 0) rfl
            have e4 := k3.cell (o := 1) rfl
            have e5 := k3.cell (o := 2) rfl
            have r0 := k4.cell (o := 0) rfl
            have r1 := k4.cell (o := 1) rfl
            have r2 := k4.cell (o := 2) rfl
            have s0 := k4.free 0
            have s1 := k4.free 1
            have s2 := k4.free 2
            clear hopen hmk
            by_cases hl0 : last = 0
            · subst hl0
              replace hI := Lib.hid hI
              go_wp2
              rw [Exit.noGoto_ret]
              refine bodyPost_ret (v := .agg #[.slice (some ⟨g1, 0, none⟩) N N, .slice (some ⟨g2, 0, none⟩) N N, .int .i64 0]) (by simp [results, Try.results10, go_sem, r0, r1, r2]) rfl ⟨(by repeat (first | exact Below.refl _ _ | assumption | refine Below.drew ?_ | refine Below.alloc ?_ (by (try simp) <;> omega) _ | refine Below.setCell ?_ (by (try simp) <;> omega) _ | (refine Below.trans ?_ (Below.mono (by assumption) (by (try simp) <;> omega))))), x, made, 0, g1, g2, rfl, l1, l2, hI.out.lx, hI.out.lm, (by repeat (first | (with_reducible assumption) | (with_reducible refine Blk.drew ?_) | ((with_reducible refine Blk.new' ?_); (simp; done)) | (with_reducible refine Blk.alloc ?_ _) | ((with_reducible refine Blk.set_ne ?_ ?_ _); rotate_left; (focus (first | (simp; omega) | omega))))), (by repeat (first | (with_reducible assumption) | (with_reducible refine Blk.drew ?_) | ((with_reducible refine Blk.new' ?_); (simp; done)) | (with_reducible refine Blk.alloc ?_ _) | ((with_reducible refine Blk.set_ne ?_ ?_ _); rotate_left; (focus (first | (simp; omega) | omega))))), fin_rest hI.out hL hv hkL⟩
            · have hl1 : (last == 0) = false := by simpa using hl0
              replace hI := Lib.hid hI
              replace hl0 := Lib.hid hl0
              go_wp2
              go_roundw
              case rel => exact ⟨k + 1, x, made, last, tau, by omega, by go_num, .inr ⟨by omega, hl0.out, by rw [Nat.add_sub_cancel]; exact hI.out⟩, hbe, k1, k2, k3, k4⟩
              case measure => simp [intOf]; omega
      · obtain rfl : k = N := by omega
        have e3 := k3.cell (o := 0) rfl
        have e4 := k3.cell (o := 1) rfl
        have e5 := k3.cell (o := 2) rfl
        have r0 := k4.cell (o := 0) rfl
        have r1 := k4.cell (o := 1) rfl
        have r2 := k4.cell (o := 2) rfl
        have s0 := k4.free 0
        have s1 := k4.free 1
        have s2 := k4.free 2
        have hF := fin_end hI hL hv
        have hx := inv_len hI
        clear hopen hmk hI
        replace hF := Lib.hid hF
        replace hx := Lib.hid hx
        go_wp2
        rw [Exit.noGoto_ret]
        refine bodyPost_ret (v := .agg #[.slice (some ⟨g1, 0, none⟩) k k, .slice (some ⟨g2, 0, none⟩) k k, .int .i64 last]) (by simp [results, Try.results10, go_sem, r0, r1, r2]) rfl ⟨(by repeat (first | exact Below.refl _ _ | assumption | refine Below.drew ?_ | refine Below.alloc ?_ (by (try simp) <;> omega) _ | refine Below.setCell ?_ (by (try simp) <;> omega) _ | (refine Below.trans ?_ (Below.mono (by assumption) (by (try simp) <;> omega))))), x, made, last, g1, g2, rfl, l1, l2, hx.out.1, hx.out.2, (by repeat (first | (with_reducible assumption) | (with_reducible refine Blk.drew ?_) | ((with_reducible refine Blk.new' ?_); (simp; done)) | (with_reducible refine Blk.alloc ?_ _) | ((with_reducible refine Blk.set_ne ?_ ?_ _); rotate_left; (focus (first | (simp; omega) | omega))))), (by repeat (first | (with_reducible assumption) | (with_reducible refine Blk.drew ?_) | ((with_reducible refine Blk.new' ?_); (simp; done)) | (with_reducible refine Blk.alloc ?_ _) | ((with_reducible refine Blk.set_ne ?_ ?_ _); rotate_left; (focus (first | (simp; omega) | omega))))), hF.out⟩
end Go.Proofs.Ytpbolbpenkfpiaa
