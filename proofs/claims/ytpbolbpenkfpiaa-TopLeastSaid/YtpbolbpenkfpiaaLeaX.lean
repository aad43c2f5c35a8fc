/-
  Are bounds a way round.
-/
import Derived.Test.YtpbolbpenkfpiaaLeaW
namespace Go.Proofs.Ytpbolbpenkfpiaa
open Go.RowKit
set_option linter.unusedVariables false
attribute [local go_sem] vwp vUpon_value vUpon_skip vUpon_enter vUpon_row
set_option linter.unusedSimpArgs false
theorem tot_bd (bs : List Bd) (N : Nat) (hv : Valid N bs) : ∀ l : List Int, -(l.length * 1048576 : Int) ≤ tot bs l ∧ tot bs l ≤ l.length * 1048576
  | [] => by simp [tot]
  | k :: ks => by
    have ih := tot_bd bs N hv ks
    have h : -1048576 ≤ (bs.getD k.toNat default).f ∧ (bs.getD k.toNat default).f ≤ 1048576 := by
      rw [List.getD_eq_getElem?_getD]
      cases e : bs[k.toNat]? with
      | none => exact ⟨by decide, by decide⟩
      | some b => exact ⟨(hv.each _ b e).f0, (hv.each _ b e).f1⟩
    simp only [tot, List.length_cons]
    omega
set_option maxHeartbeats 2000000 in
theorem turns_any (N : Nat) (bs : List Bd) (out : List Int) (v u : Value) (w : World) (hx : Row w.heap.size 1 encI w u out) (hr : Row w.heap.size 3 encB w v bs) (hv : Valid N bs) (ht : Turn bs out) (hN : out.length ≤ 4096) :
    Calls Try.prog 8 #[u, v] w fun e w' => e = .returned (.bool true) ∧ Below w.heap.size w w' := by
  obtain ⟨L, hL⟩ : ∃ L, bs.length = L := ⟨_, rfl⟩
  obtain ⟨Z, hZ⟩ : ∃ Z, out.length = Z := ⟨_, rfl⟩
  obtain ⟨s, cap, hv', hmax⟩ := hr.shape
  obtain ⟨s2, cap2, hu', hmax2⟩ := hx.shape
  have n2 := hv.l1
  rw [hL] at hv' hmax n2
  have hz0 := ht.pos
  rw [hZ] at hu' hmax2 hN hz0
  have hopen := fun h0 => hr.open_ h0
  have hopen2 := fun h0 => hx.open_ h0
  rw [hL] at hopen
  rw [hZ] at hopen2
  replace hopen := Lib.hid hopen
  replace hopen2 := Lib.hid hopen2
  subst hv' hu'
  clear hr hx
  replace hZ := Lib.hid hZ
  replace hL := Lib.hid hL
  go_enter Try.func8, Try.ntmps8
  go_wp2
  go_loopw [5, 6] (fun sm i wr => ∃ k : Nat, k ≤ Z ∧ i = .int .i64 k ∧ sm = .int .i64 (tot bs (out.take k)) ∧ Below w.heap.size w wr) (fun _ i _ => Z - (intOf i).toNat)
  case atStart => exact ⟨0, Nat.zero_le _, rfl, rfl, (by repeat (first | exact Below.refl _ _ | assumption | refine Below.drew ?_ | refine Below.alloc ?_ (by (try simp) <;> omega) _ | refine Below.setCell ?_ (by (try simp) <;> omega) _))⟩
  case round =>
    obtain ⟨k, hk, rfl, rfl, hbr⟩ := hrel
    obtain ⟨hcr, hfr⟩ := bcell hbr
    have zr := hbr.size
    by_cases hkZ : k < Z
    · have hT := tot_take bs out k (by have := hZ.out; omega)
      have hb1 := tot_bd bs N hv (out.take k)
      rw [List.length_take_of_le (by have := hZ.out; omega)] at hb1
      obtain ⟨b2, o2, cap2', e, hbl2, _, hcm2, hcell2⟩ := hopen2.out (by omega)
      simp at e
      obtain ⟨rfl, rfl⟩ := e
      have c1 := encI_at hcell2 k (by have := hZ.out; omega)
      have c2 := encI_at hcell2 ((k + 1) % Z) (by have := hZ.out; have := Nat.mod_lt (k + 1) hz0; omega)
      obtain ⟨j, j', b, b', e1, e2, e3, e4, e5⟩ := ht.each k (by have := hZ.out; omega)
      rw [hZ.out] at e3
      rw [e1] at c1 hT
      rw [e3] at c2
      obtain ⟨r, hrr⟩ : ∃ r, (k + 1) % Z = r := ⟨_, rfl⟩
      have hrZ : (r : Int) < Z := by have := Nat.mod_lt (k + 1) hz0; omega
      have hmod : ((k : Int) + 1) % (Z : Int) = r := by rw [← hrr]; simp
      have hmod2 : (((k + 1 : Nat)) : Int) % (Z : Int) = r := by rw [← hrr]; simp
      rw [hrr] at c2
      replace hrr := Lib.hid hrr
      have jl := (List.getElem?_eq_some_iff.1 e2).1
      have jl' := (List.getElem?_eq_some_iff.1 e4).1
      rw [hL.out] at jl jl'
      obtain ⟨bb, o, cap', e, hbl, _, hcm, hcell⟩ := hopen.out (by omega)
      simp at e
      obtain ⟨rfl, rfl⟩ := e
      obtain ⟨d0, d1, d2⟩ := enc3 (hcell j b e2)
      obtain ⟨d3, d4, d5⟩ := enc3 (hcell j' b' e4)
      rw [← e5] at d3
      obtain ⟨q1, q2, q3, q4, q5, q6⟩ := hv.each j b e2
      have hfb : (bs.getD ((j : Int)).toNat default).f = b.f := by rw [Int.toNat_natCast, List.getD_eq_getElem?_getD, e2]; rfl
      rw [hfb] at hT
      obtain ⟨T, hTT⟩ : ∃ T, tot bs (out.take k) = T := ⟨_, rfl⟩
      rw [hTT] at hT hb1 ⊢
      obtain ⟨hb0, hb2⟩ := hb1
      have j1 : (j : Int) < L := by omega
      have j2 : (j' : Int) < L := by omega
      have kz : (k : Int) < Z := by omega
      have g1 : decide (L ≤ j) = false := by simp; omega
      have g2 : decide ((L : Int) ≤ j) = false := by simp; omega
      have g3 : decide (L ≤ j') = false := by simp; omega
      have g4 : decide ((L : Int) ≤ j') = false := by simp; omega
      have y1 : bb < wr.heap.size := by omega
      have y2 : b2 < wr.heap.size := by omega
      have T0 : -4294967296 ≤ T := by omega
      have T1 : T ≤ 4294967296 := by omega
      replace hT := Lib.hid hT
      replace hTT := Lib.hid hTT
      clear hcell hcell2 e1 e2 e3 e4 e5 hfb hb0 hb2 d4 d5
      go_wp2
      refine wp_region_steady (Held wr 0 []) (by kernel_rfl) (by kernel_rfl) ⟨(by repeat (first | exact Below.refl _ _ | assumption | refine Below.drew ?_ | refine Below.alloc ?_ (by (try simp) <;> omega) _ | refine Below.setCell ?_ (by (try simp) <;> omega) _ | (refine Below.trans ?_ (Below.mono (by assumption) (by (try simp) <;> omega))))), (by (try simp) <;> omega), (by first | exact trivial | (simp only [Cells]; go_simp))⟩ ?_
      repeat (first | (refine' wpSteady_do _ _ _; rotate_left; (focus rfl); (focus (intro w1 hS R hR; have hc := hS.cells; simp only [Cells] at hc; obtain ⟨hco, hfo⟩ := bcell hS.old; go_simp; (try go_bits); first | exact hR _ hS | fail)); simp only [Act.put, List.setIfInBounds_toArray, List.set_cons_zero, List.set_cons_succ]) | (refine wpSteady_pass ?_ ?_; (focus rfl); simp only [Act.put, List.setIfInBounds_toArray, List.set_cons_zero, List.set_cons_succ]))
      refine wpSteady_nil (fun uA hSA => ?_)
      have hcA := hSA.cells; have hbA := hSA.old; have hzA := hSA.size; clear hSA; simp only [Cells] at hcA; obtain ⟨hcoA, hfoA⟩ := bcell hbA
      go_wp2
      go_roundw
      case rel => exact ⟨k + 1, by omega, by go_num, by rw [hT.out], hbr.trans (hbA.mono zr)⟩
      case measure => simp [intOf]; omega
    · obtain rfl : k = Z := by omega
      have hs := ht.sum
      have e : out.take k = out := List.take_of_length_le (by have := hZ.out; omega)
      rw [e]
      obtain ⟨T, hT⟩ : ∃ T, tot bs out = T := ⟨_, rfl⟩
      rw [hT] at hs ⊢
      go_wp2
      go_ret
      exact ⟨by simp [hs], hbr⟩
end Go.Proofs.Ytpbolbpenkfpiaa
