/-
  colour.Parse: any text.
-/
import Derived.Test.YthecbopffdpefaaDoorDooB
import Derived.Laws.BitsAllLaws
namespace Go.Proofs.YthecbopffdpefaaDoor
open Go.RowKit
set_option linter.unusedVariables false
attribute [local go_sem] vwp vUpon_value vUpon_skip vUpon_enter vUpon_row
set_option linter.unusedSimpArgs false
set_option linter.unusedVariables false
theorem pu_any (t : ByteArray) (w : World) (h1 : 1 ≤ t.size) (h8 : t.size ≤ 8) (hd : ∀ j, j < t.size → 0 ≤ dg (byt t j)) : Calls Tryd.prog 27 #[.string t, .int .i64 16, .int .i64 64] w fun e w' => e = .returned (.tuple #[.int .u64 (valN t t.size), .nilIface]) ∧ Below w.heap.size w w' := by
  have P := ipu_any t w h1 h8 hd
  replace P := Lib.hid P
  go_enter Tryd.func27, Tryd.ntmps27
  go_wp2_with (first
    | (go_at_call 38; (with_reducible refine (P.out).mono ?_); rintro e w1 ⟨rfl, hb1⟩)
    | go_in)
  go_ret2
  exact ⟨rfl, hb1⟩
def tl (s : ByteArray) : ByteArray := s.extract 1 s.size
theorem tl_size (s : ByteArray) : (tl s).size = s.size - 1 := by simp [tl]
theorem tl_byt {s : ByteArray} {j : Nat} (h : j + 1 < s.size) : byt (tl s) j = byt s (j + 1) := by
  have h2 : j < (tl s).size := by rw [tl_size]; omega
  rw [byt_getD h2, byt_getD h]
  unfold tl
  rw [Lib.extract_data, List.getD, List.getElem?_take, if_pos (by omega), List.getElem?_drop, List.getD, Nat.add_comm]
theorem hp_zero {s : ByteArray} {k : Nat} (hC : Cnt s k) (hb : hpB s = false) : k = 0 := by
  rcases Nat.eq_zero_or_pos k with h | h
  · exact h
  · have a := hC.ok 0 h
    have b := hC.le
    unfold okAt at a
    rw [if_pos rfl] at a
    unfold hpB at hb
    simp at hb
    omega
theorem hp_pos {s : ByteArray} {k : Nat} (hC : Cnt s k) (hb : hpB s = true) : 1 ≤ k := by
  unfold hpB at hb
  simp at hb
  rcases Nat.eq_zero_or_pos k with h | h
  · subst h
    exact absurd ⟨hb.1, by omega, by unfold okAt; rw [if_pos rfl]; exact hb.2⟩ hC.stop
  · exact h
theorem six_at (b : Int) (w : World) : Calls Tryd.prog 26 #[.string ⟨#[48, 49, 50, 51, 52, 53, 54, 55, 56, 57, 97, 98, 99, 100, 101, 102, 65, 66, 67, 68, 69, 70]⟩, .int .u8 b] w fun e w' => e = .returned (.int .i64 (ixD b)) ∧ w = w' := sixb_any digS b w
set_option maxHeartbeats 2000000 in
theorem lparse_bad (s : ByteArray) (k : Nat) (w : World) (hs : s.size ≤ maxLen) (hC : Cnt s k) (hbad : k < s.size ∨ (k ≠ 4 ∧ k ≠ 7 ∧ k ≠ 9)) :
    Calls Tryd.prog 9 #[.string s] w fun e w' => e = .returned (.tuple #[.agg #[.int .u8 (0), .int .u8 (0), .int .u8 (0), .int .u8 (0)], .int .i64 k, .int .i64 40]) ∧ Below w.heap.size w w' := by
  have HP := fun w => hp_any s w hs
  unfold maxLen at hs
  cases hb : hpB s
  · obtain rfl := hp_zero hC hb
    rw [hb] at HP
    replace HP := Lib.hid HP
    go_enter Tryd.func9, Tryd.ntmps9
    go_wp2_with (first | (go_at_call 25; (with_reducible refine (HP.out _).mono ?_); rintro e w1 ⟨rfl, rfl⟩) | go_in)
    refine bodyPost_ret (v := .tuple #[.agg #[.int .u8 (0), .int .u8 (0), .int .u8 (0), .int .u8 (0)], .int .i64 ((0 : Nat) : Int), .int .i64 40]) (by simp [results, Tryd.results9, go_sem]) rfl ⟨rfl, (by repeat (first | exact Below.refl _ _ | assumption | refine Below.drew ?_ | refine Below.alloc ?_ (by (try simp) <;> omega) _ | refine Below.setCell ?_ (by (try simp) <;> omega) _))⟩
  · have hpos := hp_pos hC hb
    have hnine := hC.nine
    rw [hb] at HP
    replace HP := Lib.hid HP
    replace hC := Lib.hid hC
    clear hb
    go_enter Tryd.func9, Tryd.ntmps9
    go_wp2_with (first | (go_at_call 25; (with_reducible refine (HP.out _).mono ?_); rintro e w1 ⟨rfl, rfl⟩) | go_in)
    go_loopw [5] (fun n wr => ∃ m : Nat, 1 ≤ m ∧ m ≤ k ∧ n = .int .i64 m ∧ wr = (w.alloc (.cells #[.int .u8 0, .int .u8 0, .int .u8 0, .int .u8 0] 23))) (fun n _ => k - (intOf n).toNat)
    case atStart => exact ⟨1, Nat.le_refl _, hpos, rfl, rfl⟩
    case round =>
      obtain ⟨m, hm1, hm, rfl, rfl⟩ := hrel
      by_cases hmk : m < k
      · have hlt : m < s.size := by have := hC.out.le; omega
        have h9 : m < 9 := by have := hC.out.nine; omega
        have hlt' : (m : Int) < s.size := by omega
        have hokm := hC.out.ok m hmk
        unfold okAt at hokm
        rw [if_neg (by omega)] at hokm
        have hb := byt_bd s m
        have SX := fun w => six_at (byt s m) w
        have hI0 := (ixD_iff _ hb).2 hokm
        obtain ⟨I, hI⟩ : ∃ I, ixD (byt s m) = I := ⟨_, rfl⟩
        rw [hI] at SX hI0
        rw [byt_eq hlt] at SX
        replace SX := Lib.hid SX
        clear hI hb hokm
        go_wp2_with (first | (go_at_call 26; (with_reducible refine (SX.out _).mono ?_); rintro e w1 ⟨rfl, rfl⟩) | go_in)
        go_roundw
        case rel => exact ⟨m + 1, by omega, by omega, by go_num, trivial⟩
        case measure => simp [intOf]; omega
      · obtain rfl : m = k := by omega
        by_cases hlt : m < s.size
        · have hlt' : (m : Int) < s.size := by omega
          by_cases h9 : m < 9
          · have hn : ¬ okAt s m := fun h => hC.out.stop ⟨hlt, h9, h⟩
            unfold okAt at hn
            rw [if_neg (by omega)] at hn
            have hb := byt_bd s m
            have SX := fun w => six_at (byt s m) w
            have hI0 : ¬ 0 ≤ ixD (byt s m) := fun h => hn ((ixD_iff _ hb).1 h)
            have hI1 := (ixD_bd _ hb).1
            obtain ⟨I, hI⟩ : ∃ I, ixD (byt s m) = I := ⟨_, rfl⟩
            rw [hI] at SX hI0 hI1
            rw [byt_eq hlt] at SX
            replace SX := Lib.hid SX
            clear hI hb hn
            go_wp2_with (first | (go_at_call 26; (with_reducible refine (SX.out _).mono ?_); rintro e w1 ⟨rfl, rfl⟩) | go_in)
            refine bodyPost_ret (v := .tuple #[.agg #[.int .u8 (0), .int .u8 (0), .int .u8 (0), .int .u8 (0)], .int .i64 ((m : Nat) : Int), .int .i64 40]) (by simp [results, Tryd.results9, go_sem]) rfl ⟨rfl, (by repeat (first | exact Below.refl _ _ | assumption | refine Below.drew ?_ | refine Below.alloc ?_ (by (try simp) <;> omega) _ | refine Below.setCell ?_ (by (try simp) <;> omega) _))⟩
          · go_wp2
            refine bodyPost_ret (v := .tuple #[.agg #[.int .u8 (0), .int .u8 (0), .int .u8 (0), .int .u8 (0)], .int .i64 ((m : Nat) : Int), .int .i64 40]) (by simp [results, Tryd.results9, go_sem]) rfl ⟨rfl, (by repeat (first | exact Below.refl _ _ | assumption | refine Below.drew ?_ | refine Below.alloc ?_ (by (try simp) <;> omega) _ | refine Below.setCell ?_ (by (try simp) <;> omega) _))⟩
        · have hms : m = s.size := by have := hC.out.le; omega
          have hge : ¬ (m : Int) < s.size := by omega
          have h4 : ((m : Int) == 4) = false := by simp; omega
          have h7 : ((m : Int) == 7) = false := by simp; omega
          have h9 : ((m : Int) == 9) = false := by simp; omega
          have g4 : ((m : Int) != 4) = true := by simp; omega
          have g7 : ((m : Int) != 7) = true := by simp; omega
          have g9 : ((m : Int) != 9) = true := by simp; omega
          clear hbad hms hmk hm hlt
          go_wp2
          refine bodyPost_ret (v := .tuple #[.agg #[.int .u8 (0), .int .u8 (0), .int .u8 (0), .int .u8 (0)], .int .i64 ((m : Nat) : Int), .int .i64 40]) (by simp [results, Tryd.results9, go_sem]) rfl ⟨rfl, (by repeat (first | exact Below.refl _ _ | assumption | refine Below.drew ?_ | refine Below.alloc ?_ (by (try simp) <;> omega) _ | refine Below.setCell ?_ (by (try simp) <;> omega) _))⟩
theorem and15 (x : Int) (h0 : 0 ≤ x) (h1 : x < 18446744073709551616) : bits .and .u64 x 15 = x % 16 := by
  rw [u64_and x 15 h0 h1 (by omega) (by omega)]
  have : x.toNat &&& (15 : Int).toNat = x.toNat % 16 := Nat.and_two_pow_sub_one_eq_mod x.toNat 4
  rw [this]
  omega
theorem or255 (x : Int) (h0 : 0 ≤ x) (h1 : x < 16777216) : bits .or .u64 (x * 256) 255 = x * 256 + 255 := by
  rw [u64_or (x * 256) 255 (by omega) (by omega) (by omega) (by omega)]
  obtain ⟨n, rfl⟩ := Int.eq_ofNat_of_zero_le h0
  have : (((n : Int) * 256).toNat ||| (255 : Int).toNat) = n * 256 + 255 := by
    have e := Nat.two_pow_add_eq_or_of_lt (i := 8) (b := 255) (by decide) n
    rw [show ((n : Int) * 256).toNat = 2 ^ 8 * n by omega, show (255 : Int).toNat = 255 from rfl, ← e]
    omega
  rw [this]
  omega
set_option maxHeartbeats 2000000 in
set_option maxRecDepth 100000 in
theorem lparse_good (s : ByteArray) (k : Nat) (w : World) (hC : Cnt s k) (hk : k = s.size) (hk4 : k = 4 ∨ k = 7 ∨ k = 9) :
    Calls Tryd.prog 9 #[.string s] w fun e w' => e = .returned (.tuple #[.agg #[.int .u8 (pr s k 0), .int .u8 (pr s k 1), .int .u8 (pr s k 2), .int .u8 (pr s k 3)], .int .i64 0, .int .i64 0]) ∧ Below w.heap.size w w' := by
  have HP := fun w => hp_any s w (by unfold maxLen; omega)
  have hs : s.size ≤ 9 := by omega
  have hb : hpB s = true := by
    cases h : hpB s
    · have := hp_zero hC h; omega
    · rfl
  have hpos := hp_pos hC hb
  have hnine := hC.nine
  rw [hb] at HP
  replace HP := Lib.hid HP
  replace hC := Lib.hid hC
  have H4 := Lib.hid hk4
  clear hb hk4
  go_enter Tryd.func9, Tryd.ntmps9
  go_wp2_with (first | (go_at_call 25; (with_reducible refine (HP.out _).mono ?_); rintro e w1 ⟨rfl, rfl⟩) | go_in)
  go_loopw [5] (fun n wr => ∃ m : Nat, 1 ≤ m ∧ m ≤ k ∧ n = .int .i64 m ∧ wr = (w.alloc (.cells #[.int .u8 0, .int .u8 0, .int .u8 0, .int .u8 0] 23))) (fun n _ => k - (intOf n).toNat)
  case atStart => exact ⟨1, Nat.le_refl _, hpos, rfl, rfl⟩
  case round =>
    obtain ⟨m, hm1, hm, rfl, rfl⟩ := hrel
    by_cases hmk : m < k
    · have hlt : m < s.size := by have := hC.out.le; omega
      have h9 : m < 9 := by have := hC.out.nine; omega
      have hlt' : (m : Int) < s.size := by omega
      have hokm := hC.out.ok m hmk
      unfold okAt at hokm
      rw [if_neg (by omega)] at hokm
      have hb := byt_bd s m
      have SX := fun w => six_at (byt s m) w
      have hI0 := (ixD_iff _ hb).2 hokm
      obtain ⟨I, hI⟩ : ∃ I, ixD (byt s m) = I := ⟨_, rfl⟩
      rw [hI] at SX hI0
      rw [byt_eq hlt] at SX
      replace SX := Lib.hid SX
      clear hI hb hokm
      go_wp2_with (first | (go_at_call 26; (with_reducible refine (SX.out _).mono ?_); rintro e w1 ⟨rfl, rfl⟩) | go_in)
      go_roundw
      case rel => exact ⟨m + 1, by omega, by omega, by go_num, trivial⟩
      case measure => simp [intOf]; omega
    · obtain rfl : m = k := by omega
      clear hm hmk hm1
      rcases H4.out with h4 | h4 | h4
      · have V := fun w => pu_any (tl s) w (by rw [tl_size]; omega) (by rw [tl_size]; omega) (fun j hj => by
          rw [tl_size] at hj
          rw [tl_byt (by omega)]
          have := hC.out.ok (j + 1) (by omega)
          unfold okAt at this
          rw [if_neg (by omega)] at this
          exact this)
        have hss : s.size = 4 := by omega
        rw [show valN (tl s) (tl s).size = valN (tl s) 3 by rw [tl_size, hss]] at V
        obtain ⟨v, hv⟩ : ∃ v, valN (tl s) 3 = v := ⟨_, rfl⟩
        rw [hv] at V
        unfold tl at V
        rw [hss] at V
        have PU := Lib.hid V
        clear V
        replace hv := Lib.hid hv
        subst h4
        clear hk
        go_wp2_with (first | (go_at_call 27; (with_reducible refine (PU.out _).mono ?_); rintro e w2 ⟨rfl, hb2⟩; obtain ⟨hc2, hf2⟩ := bcell hb2; have z2 := hb2.size; (try simp at z2); have lt2 : w.heap.size < w2.heap.size := (by omega)) | go_in)
        have s1 := six_dg hC.out (j := 1) (by omega) (by omega)
        have s2 := six_dg hC.out (j := 2) (by omega) (by omega)
        have s3 := six_dg hC.out (j := 3) (by omega) (by omega)
        have hvv : v = 16 * (16 * (16 * 0 + dg (byt s 1)) + dg (byt s 2)) + dg (byt s 3) := by
          rw [← hv.out]
          simp only [valN]
          rw [tl_byt (by omega), tl_byt (by omega), tl_byt (by omega)]
        have r0 : pr s 4 0 = 16 * dg (byt s 1) + dg (byt s 1) := rfl
        have r1 : pr s 4 1 = 16 * dg (byt s 2) + dg (byt s 2) := rfl
        have r2 : pr s 4 2 = 16 * dg (byt s 3) + dg (byt s 3) := rfl
        have r3 : pr s 4 3 = 255 := rfl
        generalize dg (byt s 1) = d1 at *
        generalize dg (byt s 2) = d2 at *
        generalize dg (byt s 3) = d3 at *
        obtain ⟨s10, s11⟩ := s1
        obtain ⟨s20, s21⟩ := s2
        obtain ⟨s30, s31⟩ := s3
        have q0 : v / 256 = d1 := by omega
        have q1 : v / 16 = 16 * d1 + d2 := by omega
        have q2 : d1 % 16 = d1 := by omega
        have q3 : (16 * d1 + d2) % 16 = d2 := by omega
        have q4 : v % 16 = d3 := by omega
        have e0 : bits .and .u64 (v / 256) 15 % 256 * 17 % 256 = pr s 4 0 := by rw [q0, and15 _ (by omega) (by omega), q2, r0]; omega
        have e1 : bits .and .u64 (v / 16) 15 % 256 * 17 % 256 = pr s 4 1 := by rw [q1, and15 _ (by omega) (by omega), q3, r1]; omega
        have e2 : bits .and .u64 v 15 % 256 * 17 % 256 = pr s 4 2 := by rw [and15 _ (by omega) (by omega), q4, r2]; omega
        have c0 : w2.cell? ⟨w.heap.size, 0, none⟩ = some (.int .u8 0) := (hb2.cell (p := ⟨w.heap.size, 0, none⟩) (by simp)).trans (World.cell?_alloc_at _ _ _ _ rfl)
        have c1 : w2.cell? ⟨w.heap.size, 1, none⟩ = some (.int .u8 0) := (hb2.cell (p := ⟨w.heap.size, 1, none⟩) (by simp)).trans (World.cell?_alloc_at _ _ _ _ rfl)
        have c2 : w2.cell? ⟨w.heap.size, 2, none⟩ = some (.int .u8 0) := (hb2.cell (p := ⟨w.heap.size, 2, none⟩) (by simp)).trans (World.cell?_alloc_at _ _ _ _ rfl)
        have c3 : w2.cell? ⟨w.heap.size, 3, none⟩ = some (.int .u8 0) := (hb2.cell (p := ⟨w.heap.size, 3, none⟩) (by simp)).trans (World.cell?_alloc_at _ _ _ _ rfl)
        refine bodyPost_ret (v := .tuple #[.agg #[.int .u8 (bits .and .u64 (v / 256) 15 % 256 * 17 % 256), .int .u8 (bits .and .u64 (v / 16) 15 % 256 * 17 % 256), .int .u8 (bits .and .u64 v 15 % 256 * 17 % 256), .int .u8 255], .int .i64 0, .int .i64 0]) (by simp [results, Tryd.results9, go_sem, c0, c1, c2, c3]) rfl ⟨by rw [e0, e1, e2, r3], (by repeat (first | exact Below.refl _ _ | assumption | refine Below.drew ?_ | refine Below.alloc ?_ (by (try simp) <;> omega) _ | refine Below.setCell ?_ (by (try simp) <;> omega) _ | (refine Below.trans ?_ (Below.mono (by assumption) (by (try simp) <;> omega)))))⟩
      · have V := fun w => pu_any (tl s) w (by rw [tl_size]; omega) (by rw [tl_size]; omega) (fun j hj => by
          rw [tl_size] at hj
          rw [tl_byt (by omega)]
          have := hC.out.ok (j + 1) (by omega)
          unfold okAt at this
          rw [if_neg (by omega)] at this
          exact this)
        have hss : s.size = 7 := by omega
        rw [show valN (tl s) (tl s).size = valN (tl s) 6 by rw [tl_size, hss]] at V
        obtain ⟨v, hv⟩ : ∃ v, valN (tl s) 6 = v := ⟨_, rfl⟩
        rw [hv] at V
        unfold tl at V
        rw [hss] at V
        have PU := Lib.hid V
        clear V
        replace hv := Lib.hid hv
        subst h4
        clear hk
        have hvb : 0 ≤ v ∧ v < 16777216 := by
          have := valN_bd (t := tl s) (fun j hj => by
            rw [tl_size] at hj
            rw [tl_byt (by omega)]
            have := hC.out.ok (j + 1) (by omega)
            unfold okAt at this
            rw [if_neg (by omega)] at this
            exact this) 6 (by rw [tl_size]; omega)
          rw [hv.out] at this
          exact this
        obtain ⟨v0, v1⟩ := hvb
        go_wp2_with (first | (go_at_call 27; (with_reducible refine (PU.out _).mono ?_); rintro e w2 ⟨rfl, hb2⟩; obtain ⟨hc2, hf2⟩ := bcell hb2; have z2 := hb2.size; (try simp at z2); have lt2 : w.heap.size < w2.heap.size := (by omega)) | go_in)
        have hvv : v = 16 * (16 * (16 * (16 * (16 * (16 * 0 + dg (byt s 1)) + dg (byt s 2)) + dg (byt s 3)) + dg (byt s 4)) + dg (byt s 5)) + dg (byt s 6) := by
          rw [← hv.out]
          simp only [valN]
          rw [tl_byt (by omega), tl_byt (by omega), tl_byt (by omega), tl_byt (by omega), tl_byt (by omega), tl_byt (by omega)]
        have s1 := six_dg hC.out (j := 1) (by omega) (by omega)
        have s2 := six_dg hC.out (j := 2) (by omega) (by omega)
        have s3 := six_dg hC.out (j := 3) (by omega) (by omega)
        have s4 := six_dg hC.out (j := 4) (by omega) (by omega)
        have s5 := six_dg hC.out (j := 5) (by omega) (by omega)
        have s6 := six_dg hC.out (j := 6) (by omega) (by omega)
        have r0 : pr s 7 0 = 16 * dg (byt s 1) + dg (byt s 2) := rfl
        have r1 : pr s 7 1 = 16 * dg (byt s 3) + dg (byt s 4) := rfl
        have r2 : pr s 7 2 = 16 * dg (byt s 5) + dg (byt s 6) := rfl
        have r3 : pr s 7 3 = 255 := rfl
        unfold Six at s1 s2 s3 s4 s5 s6
        obtain ⟨p1, hp1⟩ : ∃ p, 16 * dg (byt s 1) + dg (byt s 2) = p := ⟨_, rfl⟩
        obtain ⟨p2, hp2⟩ : ∃ p, 16 * dg (byt s 3) + dg (byt s 4) = p := ⟨_, rfl⟩
        obtain ⟨p3, hp3⟩ : ∃ p, 16 * dg (byt s 5) + dg (byt s 6) = p := ⟨_, rfl⟩
        have hv2 : v = 65536 * p1 + 256 * p2 + p3 := by omega
        have b1 : 0 ≤ p1 ∧ p1 ≤ 255 := by omega
        have b2 : 0 ≤ p2 ∧ p2 ≤ 255 := by omega
        have b3 : 0 ≤ p3 ∧ p3 ≤ 255 := by omega
        rw [hp1] at r0
        rw [hp2] at r1
        rw [hp3] at r2
        clear hvv hp1 hp2 hp3 s1 s2 s3 s4 s5 s6
        have o := or255 v v0 v1
        have e0 : bits .or .u64 (v * 256) 255 / 16777216 % 256 = pr s 7 0 := by rw [o, r0]; omega
        have e1 : bits .or .u64 (v * 256) 255 / 65536 % 256 = pr s 7 1 := by rw [o, r1]; omega
        have e2 : bits .or .u64 (v * 256) 255 / 256 % 256 = pr s 7 2 := by rw [o, r2]; omega
        have e3 : bits .or .u64 (v * 256) 255 % 256 = pr s 7 3 := by rw [o, r3]; omega
        clear o
        have c0 : w2.cell? ⟨w.heap.size, 0, none⟩ = some (.int .u8 0) := (hb2.cell (p := ⟨w.heap.size, 0, none⟩) (by simp)).trans (World.cell?_alloc_at _ _ _ _ rfl)
        have c1 : w2.cell? ⟨w.heap.size, 1, none⟩ = some (.int .u8 0) := (hb2.cell (p := ⟨w.heap.size, 1, none⟩) (by simp)).trans (World.cell?_alloc_at _ _ _ _ rfl)
        have c2 : w2.cell? ⟨w.heap.size, 2, none⟩ = some (.int .u8 0) := (hb2.cell (p := ⟨w.heap.size, 2, none⟩) (by simp)).trans (World.cell?_alloc_at _ _ _ _ rfl)
        have c3 : w2.cell? ⟨w.heap.size, 3, none⟩ = some (.int .u8 0) := (hb2.cell (p := ⟨w.heap.size, 3, none⟩) (by simp)).trans (World.cell?_alloc_at _ _ _ _ rfl)
        refine bodyPost_ret (v := .tuple #[.agg #[.int .u8 (bits .or .u64 (v * 256) 255 / 16777216 % 256), .int .u8 (bits .or .u64 (v * 256) 255 / 65536 % 256), .int .u8 (bits .or .u64 (v * 256) 255 / 256 % 256), .int .u8 (bits .or .u64 (v * 256) 255 % 256)], .int .i64 0, .int .i64 0]) (by simp [results, Tryd.results9, go_sem, c0, c1, c2, c3]) rfl ⟨by rw [e0, e1, e2, e3], (by repeat (first | exact Below.refl _ _ | assumption | refine Below.drew ?_ | refine Below.alloc ?_ (by (try simp) <;> omega) _ | refine Below.setCell ?_ (by (try simp) <;> omega) _ | (refine Below.trans ?_ (Below.mono (by assumption) (by (try simp) <;> omega)))))⟩
      · have V := fun w => pu_any (tl s) w (by rw [tl_size]; omega) (by rw [tl_size]; omega) (fun j hj => by
          rw [tl_size] at hj
          rw [tl_byt (by omega)]
          have := hC.out.ok (j + 1) (by omega)
          unfold okAt at this
          rw [if_neg (by omega)] at this
          exact this)
        have hss : s.size = 9 := by omega
        rw [show valN (tl s) (tl s).size = valN (tl s) 8 by rw [tl_size, hss]] at V
        obtain ⟨v, hv⟩ : ∃ v, valN (tl s) 8 = v := ⟨_, rfl⟩
        rw [hv] at V
        unfold tl at V
        rw [hss] at V
        have PU := Lib.hid V
        clear V
        replace hv := Lib.hid hv
        subst h4
        clear hk
        have hvb : 0 ≤ v ∧ v < 4294967296 := by
          have := valN_bd (t := tl s) (fun j hj => by
            rw [tl_size] at hj
            rw [tl_byt (by omega)]
            have := hC.out.ok (j + 1) (by omega)
            unfold okAt at this
            rw [if_neg (by omega)] at this
            exact this) 8 (by rw [tl_size]; omega)
          rw [hv.out] at this
          exact this
        obtain ⟨v0, v1⟩ := hvb
        go_wp2_with (first | (go_at_call 27; (with_reducible refine (PU.out _).mono ?_); rintro e w2 ⟨rfl, hb2⟩; obtain ⟨hc2, hf2⟩ := bcell hb2; have z2 := hb2.size; (try simp at z2); have lt2 : w.heap.size < w2.heap.size := (by omega)) | go_in)
        have hvv : v = 16 * (16 * (16 * (16 * (16 * (16 * (16 * (16 * 0 + dg (byt s 1)) + dg (byt s 2)) + dg (byt s 3)) + dg (byt s 4)) + dg (byt s 5)) + dg (byt s 6)) + dg (byt s 7)) + dg (byt s 8) := by
          rw [← hv.out]
          simp only [valN]
          rw [tl_byt (by omega), tl_byt (by omega), tl_byt (by omega), tl_byt (by omega), tl_byt (by omega), tl_byt (by omega), tl_byt (by omega), tl_byt (by omega)]
        have s1 := six_dg hC.out (j := 1) (by omega) (by omega)
        have s2 := six_dg hC.out (j := 2) (by omega) (by omega)
        have s3 := six_dg hC.out (j := 3) (by omega) (by omega)
        have s4 := six_dg hC.out (j := 4) (by omega) (by omega)
        have s5 := six_dg hC.out (j := 5) (by omega) (by omega)
        have s6 := six_dg hC.out (j := 6) (by omega) (by omega)
        have s7 := six_dg hC.out (j := 7) (by omega) (by omega)
        have s8 := six_dg hC.out (j := 8) (by omega) (by omega)
        have r0 : pr s 9 0 = 16 * dg (byt s 1) + dg (byt s 2) := rfl
        have r1 : pr s 9 1 = 16 * dg (byt s 3) + dg (byt s 4) := rfl
        have r2 : pr s 9 2 = 16 * dg (byt s 5) + dg (byt s 6) := rfl
        have r3 : pr s 9 3 = 16 * dg (byt s 7) + dg (byt s 8) := rfl
        unfold Six at s1 s2 s3 s4 s5 s6 s7 s8
        obtain ⟨p1, hp1⟩ : ∃ p, 16 * dg (byt s 1) + dg (byt s 2) = p := ⟨_, rfl⟩
        obtain ⟨p2, hp2⟩ : ∃ p, 16 * dg (byt s 3) + dg (byt s 4) = p := ⟨_, rfl⟩
        obtain ⟨p3, hp3⟩ : ∃ p, 16 * dg (byt s 5) + dg (byt s 6) = p := ⟨_, rfl⟩
        obtain ⟨p4, hp4⟩ : ∃ p, 16 * dg (byt s 7) + dg (byt s 8) = p := ⟨_, rfl⟩
        have hv2 : v = 16777216 * p1 + 65536 * p2 + 256 * p3 + p4 := by omega
        have b1 : 0 ≤ p1 ∧ p1 ≤ 255 := by omega
        have b2 : 0 ≤ p2 ∧ p2 ≤ 255 := by omega
        have b3 : 0 ≤ p3 ∧ p3 ≤ 255 := by omega
        have b4 : 0 ≤ p4 ∧ p4 ≤ 255 := by omega
        rw [hp1] at r0
        rw [hp2] at r1
        rw [hp3] at r2
        rw [hp4] at r3
        clear hvv hp1 hp2 hp3 hp4 s1 s2 s3 s4 s5 s6 s7 s8
        have e0 : v / 16777216 = pr s 9 0 := by rw [r0]; omega
        have e1 : v / 65536 % 256 = pr s 9 1 := by rw [r1]; omega
        have e2 : v / 256 % 256 = pr s 9 2 := by rw [r2]; omega
        have e3 : v % 256 = pr s 9 3 := by rw [r3]; omega
        have c0 : w2.cell? ⟨w.heap.size, 0, none⟩ = some (.int .u8 0) := (hb2.cell (p := ⟨w.heap.size, 0, none⟩) (by simp)).trans (World.cell?_alloc_at _ _ _ _ rfl)
        have c1 : w2.cell? ⟨w.heap.size, 1, none⟩ = some (.int .u8 0) := (hb2.cell (p := ⟨w.heap.size, 1, none⟩) (by simp)).trans (World.cell?_alloc_at _ _ _ _ rfl)
        have c2 : w2.cell? ⟨w.heap.size, 2, none⟩ = some (.int .u8 0) := (hb2.cell (p := ⟨w.heap.size, 2, none⟩) (by simp)).trans (World.cell?_alloc_at _ _ _ _ rfl)
        have c3 : w2.cell? ⟨w.heap.size, 3, none⟩ = some (.int .u8 0) := (hb2.cell (p := ⟨w.heap.size, 3, none⟩) (by simp)).trans (World.cell?_alloc_at _ _ _ _ rfl)
        refine bodyPost_ret (v := .tuple #[.agg #[.int .u8 (v / 16777216), .int .u8 (v / 65536 % 256), .int .u8 (v / 256 % 256), .int .u8 (v % 256)], .int .i64 0, .int .i64 0]) (by simp [results, Tryd.results9, go_sem, c0, c1, c2, c3]) rfl ⟨by rw [e0, e1, e2, e3], (by repeat (first | exact Below.refl _ _ | assumption | refine Below.drew ?_ | refine Below.alloc ?_ (by (try simp) <;> omega) _ | refine Below.setCell ?_ (by (try simp) <;> omega) _ | (refine Below.trans ?_ (Below.mono (by assumption) (by (try simp) <;> omega)))))⟩
end Go.Proofs.YthecbopffdpefaaDoor
