/-
  vector.Plain.
-/
import Derived.Test.YtpbolbpenkfpiaaDoorVecG
namespace Go.Proofs.YtpbolbpenkfpiaaDoor
open Go.RowKit
set_option linter.unusedVariables false
attribute [local go_sem] vwp vUpon_value vUpon_skip vUpon_enter vUpon_row
set_option linter.unusedSimpArgs false
set_option linter.unusedVariables false
theorem ix_hex (a : Int) (h : U8 a) : Lib.indexByte [48, 49, 50, 51, 52, 53, 54, 55, 56, 57, 97, 98, 99, 100, 101, 102] a.toNat.toUInt8 = smlI a := by
  obtain ⟨n, rfl⟩ := Int.eq_ofNat_of_zero_le h.1
  have hn : n < 256 := by have := h.2; omega
  have key : (List.range 256).all (fun n => Lib.indexByte [48, 49, 50, 51, 52, 53, 54, 55, 56, 57, 97, 98, 99, 100, 101, 102] (n : Int).toNat.toUInt8 == smlI (n : Int)) = true := by decide +kernel
  have := List.all_eq_true.1 key n (List.mem_range.2 hn)
  simpa using this
theorem hexix_any (a : Int) (w : World) (h : U8 a) : Calls Tryd.prog 24 #[.string ⟨#[48, 49, 50, 51, 52, 53, 54, 55, 56, 57, 97, 98, 99, 100, 101, 102]⟩, .int .u8 a] w fun e w' => e = .returned (.int .i64 (smlI a)) ∧ w = w' :=
  (Tryd.strings_IndexByte _ a w).mono fun e w' ⟨he, hw⟩ => ⟨by rw [he, ← ix_hex a h], hw.symm⟩
theorem or_nib (x y : Int) (h1 : 0 ≤ x) (h2 : x < 16) (h3 : 0 ≤ y) (h4 : y < 16) : bits .or .i64 (wrap64 (x * 16)) y = 16 * x + y := by
  rw [IntWalk.wrap64_in _ (by omega)]
  obtain ⟨X, rfl⟩ := Int.eq_ofNat_of_zero_le h1
  obtain ⟨Y, rfl⟩ := Int.eq_ofNat_of_zero_le h3
  have key : (List.range 16).all (fun x => (List.range 16).all fun y => bits .or .i64 ((x : Int) * 16) (y : Int) == 16 * (x : Int) + (y : Int)) = true := by decide +kernel
  have := List.all_eq_true.1 (List.all_eq_true.1 key X (List.mem_range.2 (by omega))) Y (List.mem_range.2 (by omega))
  simpa using this
set_option maxHeartbeats 1000000 in
set_option maxRecDepth 100000 in
theorem vplains_any (s : ByteArray) (w : World) (hs : s.size ≤ 100000) : Calls Tryd.prog 6 #[.string s] w (PlPost (plS s) w) := by
  obtain ⟨iB, hi0, hz0, hz1, hz2⟩ := info_parts infoB
  obtain ⟨R, hR⟩ : ∃ R, plS s = R := ⟨_, rfl⟩
  rw [hR]
  replace hR := Lib.hid hR
  go_enter Tryd.func6, Tryd.ntmps6
  go_wp2
  go_loopw [5, 6] (fun ov iv wr => ∃ (k : Nat) (out : List UInt8), k ≤ s.size ∧ iv = .int .i64 k ∧ PlRel w s R k out ov wr) (fun _ iv _ => s.size - (intOf iv).toNat)
  case atStart => exact ⟨0, [], Nat.zero_le _, rfl, World.ownsRow_nil _ _ _ _, Nat.le_refl _, hR.out, (by repeat (first | exact Below.refl _ _ | assumption | refine Below.drew ?_ | refine Below.alloc ?_ (by (try simp) <;> omega) _ | refine Below.setCell ?_ (by (try simp) <;> omega) _))⟩
  case round =>
    obtain ⟨k, out, hk, rfl, hown, hol, hgo, hbr⟩ := hrel
    have zr := hbr.size
    obtain ⟨N, hN⟩ : ∃ N, out.length = N := ⟨_, rfl⟩
    unfold OwnsY at hown
    rw [hN] at hown hol
    by_cases hkn : k < s.size
    · have hu : U8 (s[k].toNat : Int) := ⟨by omega, by have := s[k].toNat_lt; omega⟩
      have P := fun w => vplain_any (s[k].toNat : Int) w hu
      obtain ⟨bb, hbb⟩ : ∃ bb, stB (s[k].toNat : Int) = bb := ⟨_, rfl⟩
      rw [hbb] at P
      replace P := Lib.hid P
      replace hown := Lib.hid hown
      replace hN := Lib.hid hN
      cases bb
      · by_cases h4 : s.size < k + 4
        · rw [pl_short s k k out hkn hbb h4] at hgo
          have f1 : decide ((s.size : Int) ≤ (k : Int) + 3) = true := by simp; omega
          clear hbb
          subst hgo
          go_wp2_with (first
            | (go_at_call 23; (with_reducible refine (P.out _).mono ?_); rintro e w1 ⟨rfl, rfl⟩)
            | go_in)
          all_goals refine bodyPost_ret (v := .tuple #[.string ⟨#[]⟩, .int .i64 k, .int .i64 160]) (by simp [results, Tryd.results6, go_sem]) rfl ⟨rfl, hbr⟩
        · have h4 : k + 4 ≤ s.size := by omega
          have k1 : k + 1 < s.size := by omega
          have k2 : k + 2 < s.size := by omega
          have k3 : k + 3 < s.size := by omega
          obtain ⟨V, hV⟩ : ∃ V, escV (s[k]'(by omega)).toNat (s[k+1]'(by omega)).toNat (s[k+2]'(by omega)).toNat (s[k+3]'(by omega)).toNat = V := ⟨_, rfl⟩
          rw [pl_esc s k k out h4 hbb V hV] at hgo
          obtain ⟨C, hC⟩ : ∃ C : Int, (s[k].toNat : Int) = C := ⟨_, rfl⟩
          obtain ⟨D, hD⟩ : ∃ C : Int, (s[k+3].toNat : Int) = C := ⟨_, rfl⟩
          obtain ⟨A, hA⟩ : ∃ C : Int, (s[k+1].toNat : Int) = C := ⟨_, rfl⟩
          obtain ⟨B, hB⟩ : ∃ C : Int, (s[k+2].toNat : Int) = C := ⟨_, rfl⟩
          have X0 := fun w => ix_at s k k hkn rfl C hC w
          have X1 := fun w => ix_at s ((k : Int) + 1) (k + 1) k1 rfl A hA w
          have X2 := fun w => ix_at s ((k : Int) + 2) (k + 2) k2 rfl B hB w
          have X3 := fun w => ix_at s ((k : Int) + 3) (k + 3) k3 rfl D hD w
          have uA : U8 A := ⟨by omega, by have := s[k+1].toNat_lt; omega⟩
          have uB : U8 B := ⟨by omega, by have := s[k+2].toNat_lt; omega⟩
          have SA := fun w => hexix_any A w uA
          have SB := fun w => hexix_any B w uB
          have bA := sml_bd A
          have bB := sml_bd B
          obtain ⟨x, hx⟩ : ∃ x, smlI A = x := ⟨_, rfl⟩
          obtain ⟨y, hy⟩ : ∃ x, smlI B = x := ⟨_, rfl⟩
          rw [hC, hD, hA, hB] at hV
          have ev : (if C = 38 ∧ D = 59 ∧ 0 ≤ x ∧ 0 ≤ y ∧ stB (16 * x + y) = false then 16 * x + y else -1) = V := by rw [← hV]; unfold escV; rw [hx, hy]
          rw [hx] at SA bA
          rw [hy] at SB bB
          rw [hC] at P
          replace SA := Lib.hid SA
          replace SB := Lib.hid SB
          have f1 : decide ((s.size : Int) ≤ (k : Int) + 3) = false := by simp; omega
          have f2 : (k : Int) + 4 ≤ 1000000 := by omega
          clear hbb hV hC hD hA hB hx hy uA uB hu
          by_cases c1 : C = 38
          · subst c1
            by_cases c2 : D = 59
            · subst c2
              by_cases c3 : 0 ≤ x
              · have d3 : decide (x < 0) = false := by simp; omega
                by_cases c4 : 0 ≤ y
                · have d4 : decide (y < 0) = false := by simp; omega
                  obtain ⟨U, hU⟩ : ∃ V, 16 * x + y = V := ⟨_, rfl⟩
                  have v0 : 0 ≤ U := by omega
                  have v1 : U ≤ 255 := by omega
                  have T := fun w => vplain_any U w ⟨v0, v1⟩
                  rw [hU] at ev
                  obtain ⟨bb, hbb⟩ : ∃ b, stB U = b := ⟨_, rfl⟩
                  rw [hbb] at T ev
                  clear hbb
                  replace T := Lib.hid T
                  replace ev := Lib.hid ev
                  replace hgo := Lib.hid hgo
                  replace hU := Lib.hid hU
                  have E1 := or_nib x y c3 bA.2 c4 bB.2
                  rw [hU.out] at E1
                  have E2 : U % 256 = U := by omega
                  go_wp2_with (first
                    | (go_at_call 23; (with_reducible refine (P.out _).mono ?_); rintro e w1 ⟨rfl, rfl⟩)
                    | go_in)
                  refine wp_region_steady (Held wr 0 []) (by kernel_rfl) (by kernel_rfl) ⟨(by repeat (first | exact Below.refl _ _ | assumption | refine Below.drew ?_ | refine Below.alloc ?_ (by (try simp) <;> omega) _ | refine Below.setCell ?_ (by (try simp) <;> omega) _ | (refine Below.trans ?_ (Below.mono (by assumption) (by (try simp) <;> omega))))), (by (try simp) <;> omega), (by first | exact trivial | (simp only [Cells]; go_simp))⟩ ?_
                  repeat (first | (refine' wpSteady_do _ _ _; rotate_left; (focus rfl); (focus (intro w1 hS R hR; have hc := hS.cells; simp only [Cells] at hc; obtain ⟨hco, hfo⟩ := bcell hS.old; go_simp; (try go_bits); (try (rw [if_neg (by omega)]; go_simp)); first | exact hR _ hS | (go_at_call 24; (with_reducible refine (SA.out _).mono ?_); rintro e w2 ⟨rfl, rfl⟩; exact ⟨_, rfl, hR _ hS⟩) | (go_at_call 24; (with_reducible refine (SB.out _).mono ?_); rintro e w2 ⟨rfl, rfl⟩; exact ⟨_, rfl, hR _ hS⟩))); simp only [Act.put, List.setIfInBounds_toArray, List.set_cons_zero, List.set_cons_succ]) | (refine wpSteady_pass ?_ ?_; (focus rfl); simp only [Act.put, List.setIfInBounds_toArray, List.set_cons_zero, List.set_cons_succ]))
                  refine wpSteady_nil (fun uA hSA => ?_)
                  have hcA := hSA.cells; have hbA := hSA.old; have hzA := hSA.size; clear hSA; simp only [Cells] at hcA; obtain ⟨hcoA, hfoA⟩ := bcell hbA
                  have hrA := hbr.trans (hbA.mono zr)
                  have zrA := hrA.size
                  have hownA := Lib.hid (ownsRow_below hown.out hbA (Nat.le_refl _))
                  clear X0 X1 X2 X3 bA bB f1 f2
                  cases bb
                  · have hv := ev.out
                    rw [if_pos ⟨trivial, trivial, c3, c4, rfl⟩] at hv
                    have hg := hgo.out
                    rw [← hv, if_neg (by omega)] at hg
                    replace hg := Lib.hid hg
                    clear hv
                    go_wp2_with (first
                      | (go_at_call 23; (with_reducible refine (T.out _).mono ?_); rintro e w1 ⟨rfl, rfl⟩)
                      | (at_builtin; refine wpList_append_new rfl _ _ _ rfl w.heap.size 5 iB _ 1 1 Tryd.underlying44 hi0 hz0 hz1 hz2 rfl (by omega) uA 1 _ _ _ _ (by rfl) hownA.out (by rfl) rfl (by simp [Value.oneCell']) (by omega) (by unfold maxLen; omega) zrA ?_; intro v6 w6 hown6 hb6)
                      | go_in)
                    rw [byte_snocI out U v0 v1] at hown6
                    have hi2 : OwnsY w.heap.size w6 v6 (out ++ [UInt8.ofNat U.toNat]) := by
                      unfold OwnsY
                      rw [List.length_append, hN.out]
                      exact hown6
                    replace hi2 := Lib.hid hi2
                    have hbw6 := Lib.hid (hrA.trans hb6)
                    clear hown6 hb6 hrA E1 E2
                    go_wp2
                    go_roundw
                    case rel => exact ⟨k + 4, out ++ [UInt8.ofNat U.toNat], by omega, by go_num, hi2.out, by rw [List.length_append, hN.out]; simp; omega, hg.out, hbw6.out⟩
                    case measure => simp [intOf]; omega
                  · have hv := ev.out
                    rw [if_neg (by intro h; cases h.2.2.2.2)] at hv
                    have hg := hgo.out
                    rw [← hv, if_pos (by omega)] at hg
                    subst hg
                    clear hv
                    go_wp2_with (first
                      | (go_at_call 23; (with_reducible refine (T.out _).mono ?_); rintro e w1 ⟨rfl, rfl⟩)
                      | go_in)
                    refine bodyPost_ret (v := .tuple #[.string ⟨#[]⟩, .int .i64 k, .int .i64 160]) (by simp [results, Tryd.results6, go_sem]) rfl ⟨rfl, hrA⟩
                · have d4 : decide (y < 0) = true := by simp; omega
                  rw [if_neg (by intro h; exact c4 h.2.2.2.1)] at ev
                  subst ev
                  rw [if_pos (by omega)] at hgo
                  subst hgo
                  go_wp2_with (first
                    | (go_at_call 23; (with_reducible refine (P.out _).mono ?_); rintro e w1 ⟨rfl, rfl⟩)
                    | go_in)
                  refine wp_region_steady (Held wr 0 []) (by kernel_rfl) (by kernel_rfl) ⟨(by repeat (first | exact Below.refl _ _ | assumption | refine Below.drew ?_ | refine Below.alloc ?_ (by (try simp) <;> omega) _ | refine Below.setCell ?_ (by (try simp) <;> omega) _ | (refine Below.trans ?_ (Below.mono (by assumption) (by (try simp) <;> omega))))), (by (try simp) <;> omega), (by first | exact trivial | (simp only [Cells]; go_simp))⟩ ?_
                  repeat (first | (refine' wpSteady_do _ _ _; rotate_left; (focus rfl); (focus (intro w1 hS R hR; have hc := hS.cells; simp only [Cells] at hc; obtain ⟨hco, hfo⟩ := bcell hS.old; go_simp; (try go_bits); (try (rw [if_neg (by omega)]; go_simp)); first | exact hR _ hS | (go_at_call 24; (with_reducible refine (SA.out _).mono ?_); rintro e w2 ⟨rfl, rfl⟩; exact ⟨_, rfl, hR _ hS⟩) | (go_at_call 24; (with_reducible refine (SB.out _).mono ?_); rintro e w2 ⟨rfl, rfl⟩; exact ⟨_, rfl, hR _ hS⟩))); simp only [Act.put, List.setIfInBounds_toArray, List.set_cons_zero, List.set_cons_succ]) | (refine wpSteady_pass ?_ ?_; (focus rfl); simp only [Act.put, List.setIfInBounds_toArray, List.set_cons_zero, List.set_cons_succ]))
                  refine wpSteady_nil (fun uA hSA => ?_)
                  have hcA := hSA.cells; have hbA := hSA.old; have hzA := hSA.size; clear hSA; simp only [Cells] at hcA; obtain ⟨hcoA, hfoA⟩ := bcell hbA
                  have hrA := hbr.trans (hbA.mono zr)
                  have zrA := hrA.size
                  have hownA := Lib.hid (ownsRow_below hown.out hbA (Nat.le_refl _))
                  clear X0 X1 X2 X3 bA bB f1 f2
                  go_wp2
                  refine bodyPost_ret (v := .tuple #[.string ⟨#[]⟩, .int .i64 k, .int .i64 160]) (by simp [results, Tryd.results6, go_sem]) rfl ⟨rfl, hrA⟩
              · have d3 : decide (x < 0) = true := by simp; omega
                rw [if_neg (by intro h; exact c3 h.2.2.1)] at ev
                subst ev
                rw [if_pos (by omega)] at hgo
                subst hgo
                go_wp2_with (first
                  | (go_at_call 23; (with_reducible refine (P.out _).mono ?_); rintro e w1 ⟨rfl, rfl⟩)
                  | go_in)
                refine wp_region_steady (Held wr 0 []) (by kernel_rfl) (by kernel_rfl) ⟨(by repeat (first | exact Below.refl _ _ | assumption | refine Below.drew ?_ | refine Below.alloc ?_ (by (try simp) <;> omega) _ | refine Below.setCell ?_ (by (try simp) <;> omega) _ | (refine Below.trans ?_ (Below.mono (by assumption) (by (try simp) <;> omega))))), (by (try simp) <;> omega), (by first | exact trivial | (simp only [Cells]; go_simp))⟩ ?_
                repeat (first | (refine' wpSteady_do _ _ _; rotate_left; (focus rfl); (focus (intro w1 hS R hR; have hc := hS.cells; simp only [Cells] at hc; obtain ⟨hco, hfo⟩ := bcell hS.old; go_simp; (try go_bits); (try (rw [if_neg (by omega)]; go_simp)); first | exact hR _ hS | (go_at_call 24; (with_reducible refine (SA.out _).mono ?_); rintro e w2 ⟨rfl, rfl⟩; exact ⟨_, rfl, hR _ hS⟩) | (go_at_call 24; (with_reducible refine (SB.out _).mono ?_); rintro e w2 ⟨rfl, rfl⟩; exact ⟨_, rfl, hR _ hS⟩))); simp only [Act.put, List.setIfInBounds_toArray, List.set_cons_zero, List.set_cons_succ]) | (refine wpSteady_pass ?_ ?_; (focus rfl); simp only [Act.put, List.setIfInBounds_toArray, List.set_cons_zero, List.set_cons_succ]))
                refine wpSteady_nil (fun uA hSA => ?_)
                have hcA := hSA.cells; have hbA := hSA.old; have hzA := hSA.size; clear hSA; simp only [Cells] at hcA; obtain ⟨hcoA, hfoA⟩ := bcell hbA
                have hrA := hbr.trans (hbA.mono zr)
                have zrA := hrA.size
                have hownA := Lib.hid (ownsRow_below hown.out hbA (Nat.le_refl _))
                clear X0 X1 X2 X3 bA bB f1 f2
                go_wp2
                refine bodyPost_ret (v := .tuple #[.string ⟨#[]⟩, .int .i64 k, .int .i64 160]) (by simp [results, Tryd.results6, go_sem]) rfl ⟨rfl, hrA⟩
            · rw [if_neg (by intro h; exact c2 h.2.1)] at ev
              subst ev
              rw [if_pos (by omega)] at hgo
              subst hgo
              have d2 : (D != 59) = true := by simpa using c2
              go_wp2_with (first | (go_at_call 23; (with_reducible refine (P.out _).mono ?_); rintro e w1 ⟨rfl, rfl⟩) | go_in)
              refine bodyPost_ret (v := .tuple #[.string ⟨#[]⟩, .int .i64 k, .int .i64 160]) (by simp [results, Tryd.results6, go_sem]) rfl ⟨rfl, hbr⟩
          · rw [if_neg (by intro h; exact c1 h.1)] at ev
            subst ev
            rw [if_pos (by omega)] at hgo
            subst hgo
            have d1 : (C != 38) = true := by simpa using c1
            go_wp2_with (first | (go_at_call 23; (with_reducible refine (P.out _).mono ?_); rintro e w1 ⟨rfl, rfl⟩) | go_in)
            refine bodyPost_ret (v := .tuple #[.string ⟨#[]⟩, .int .i64 k, .int .i64 160]) (by simp [results, Tryd.results6, go_sem]) rfl ⟨rfl, hbr⟩
      · rw [pl_st s k k out hkn hbb] at hgo
        replace hgo := Lib.hid hgo
        clear hbb
        go_wp2_with (first
          | (go_at_call 23; (with_reducible refine (P.out _).mono ?_); rintro e w1 ⟨rfl, rfl⟩)
          | (at_builtin; refine wpList_append_new rfl _ _ _ rfl w.heap.size 5 iB _ 1 1 Tryd.underlying44 hi0 hz0 hz1 hz2 rfl (by omega) wr 1 _ _ _ _ (by rfl) hown.out (by rfl) rfl (by simp [Value.oneCell']) (by omega) (by unfold maxLen; omega) zr ?_; intro v6 w6 hown6 hb6)
          | go_in)
        have hi2 : OwnsY w.heap.size w6 v6 (out ++ [s[k]]) := by
          unfold OwnsY
          rw [bytes_snocB] at hown6
          rw [List.length_append, hN.out]
          exact hown6
        replace hi2 := Lib.hid hi2
        clear hown6
        go_wp2
        go_roundw
        case rel => exact ⟨k + 1, out ++ [s[k]], by omega, by go_num, hi2.out, by rw [List.length_append, hN.out]; simp; omega, hgo.out, hbr.trans hb6⟩
        case measure => simp [intOf]; omega
    · obtain rfl : k = s.size := by omega
      rw [pl_end s s.size s.size out (Nat.le_refl _)] at hgo
      subst hgo
      have S := own_textY (l := out) (by unfold OwnsY; rw [hN]; exact hown)
      replace hown := Lib.hid hown
      clear hN
      go_wp2
      refine bodyPost_ret (v := .tuple #[.string ⟨out.toArray⟩, .int .i64 0, .int .i64 0]) (by simp [results, Tryd.results6, go_sem]) rfl ⟨rfl, hbr⟩
end Go.Proofs.YtpbolbpenkfpiaaDoor
