/-
  Cells: the document's way with a text: one rune, pieces, lines, what is written.
-/
import Derived.Laws.BitsLemmas
import Derived.Test.YtfcphagmjijmkaaGreatDoorDm22
namespace Go.Proofs.YtfcphagmjijmkaaGreatDoor
open Go.RowKit
set_option linter.unusedVariables false
set_option linter.unusedSimpArgs false
attribute [local go_sem] vwp vUpon_value vUpon_skip vUpon_enter vUpon_row
set_option maxHeartbeats 16000000
/-! ### one rune, plain -/
def bAt (s : ByteArray) (i : Nat) : Nat := (s.get! i).toNat
theorem bAt_lt (s : ByteArray) (i : Nat) : bAt s i < 256 := (s.get! i).toNat_lt
theorem bAt_eq {s : ByteArray} {i : Nat} (h : i < s.size) : (s[i]'h).toNat = bAt s i := by
 unfold bAt
 cases s with
 | mk d => exact congrArg UInt8.toNat (getElem!_pos d i h).symm
def ldN (b : Nat) : Nat := if 194 ≤ b ∧ b ≤ 223 then 2 else if 224 ≤ b ∧ b ≤ 239 then 3 else if 240 ≤ b ∧ b ≤ 244 then 4 else 0
def contN (b : Nat) : Prop := 128 ≤ b ∧ b ≤ 191
instance (b : Nat) : Decidable (contN b) := by unfold contN; exact inferInstance
def accN (s : ByteArray) (r : Nat) : Nat → Nat
 | 0 => r
 | i + 1 => accN s r i * 64 + bAt s (i + 1) % 64
def ld0 (b n : Nat) : Nat := if n = 2 then b % 32 else if n = 3 then b % 16 else b % 8
theorem ld0_lt (b n : Nat) : ld0 b n < 32 := by unfold ld0; split; omega; split <;> omega
theorem dec_ascii {s : ByteArray} (h : bAt s 0 < 128) : Utf8.decode s 0 = (bAt s 0, 1) := by
 rw [Lib.decode_at]; unfold bAt at *; unfold Lib.decodeN; rw [if_pos h]
theorem dec_lead {s : ByteArray} (h : ¬ bAt s 0 < 128) (hl : ldN (bAt s 0) = 0 ∨ s.size < ldN (bAt s 0)) : Utf8.decode s 0 = (65533, 1) := by
 rw [Lib.decode_at]; have h1 := bAt_lt s 1; have h2 := bAt_lt s 2; have h3 := bAt_lt s 3; have h0 := bAt_lt s 0; unfold ldN at hl; unfold bAt at *; generalize (s.get! 0).toNat = b0 at *; generalize (s.get! 1).toNat = b1 at *; generalize (s.get! 2).toNat = b2 at *; generalize (s.get! 3).toNat = b3 at *; unfold Lib.decodeN
 (try simp only [Nat.zero_add])
 repeat' split
 all_goals first | rfl | (exfalso; split at hl <;> (try split at hl) <;> (try split at hl) <;> omega) | (exfalso; omega)
theorem dec_bad {s : ByteArray} {i : Nat} (hl : ldN (bAt s 0) ≠ 0) (h1 : 1 ≤ i) (hi : i < ldN (bAt s 0)) (hc : ¬ contN (bAt s i)) : Utf8.decode s 0 = (65533, 1) := by
 rw [Lib.decode_at]; have g1 := bAt_lt s 1; have g2 := bAt_lt s 2; have g3 := bAt_lt s 3; have g0 := bAt_lt s 0
 have hi4 : i = 1 ∨ i = 2 ∨ i = 3 := by
  unfold ldN at hi; split at hi <;> (try split at hi) <;> (try split at hi) <;> omega
 unfold contN at hc; unfold ldN at hl hi
 rcases hi4 with rfl | rfl | rfl
 all_goals
  unfold bAt at *; generalize (s.get! 0).toNat = b0 at *; generalize (s.get! 1).toNat = b1 at *; generalize (s.get! 2).toNat = b2 at *; generalize (s.get! 3).toNat = b3 at *; unfold Lib.decodeN
  (try simp only [Nat.zero_add])
  repeat' split
  all_goals first | rfl | (exfalso; split at hi <;> (try split at hi) <;> (try split at hi) <;> omega) | (exfalso; omega)
def badN (c n : Nat) : Bool := (decide (n = 3) && decide (c < 2048)) || ((decide (n = 4) && decide (c < 65536)) || (decide (c > 1114111) || (decide (55296 ≤ c) && decide (c ≤ 57343))))
theorem badN_iff (c n : Nat) : badN c n = true ↔ ((n = 3 ∧ c < 2048) ∨ (n = 4 ∧ c < 65536) ∨ c > 1114111 ∨ (55296 ≤ c ∧ c ≤ 57343)) := by
 unfold badN; simp only [Bool.or_eq_true, Bool.and_eq_true, decide_eq_true_eq]
theorem dec_full {s : ByteArray} (hl : ldN (bAt s 0) ≠ 0) (hs : ldN (bAt s 0) ≤ s.size) (hc : ∀ i, 1 ≤ i → i < ldN (bAt s 0) → contN (bAt s i)) :
  Utf8.decode s 0 = if badN (accN s (ld0 (bAt s 0) (ldN (bAt s 0))) (ldN (bAt s 0) - 1)) (ldN (bAt s 0)) = true then (65533, 1) else (accN s (ld0 (bAt s 0) (ldN (bAt s 0))) (ldN (bAt s 0) - 1), ldN (bAt s 0)) := by
 have hn : ldN (bAt s 0) = 2 ∨ ldN (bAt s 0) = 3 ∨ ldN (bAt s 0) = 4 := by
  unfold ldN at hl ⊢; split <;> (try split) <;> (try split) <;> simp_all
 rw [Lib.decode_at]; have g1 := bAt_lt s 1; have g2 := bAt_lt s 2; have g3 := bAt_lt s 3; have g0 := bAt_lt s 0; have k1 := hc 1 (by omega); have k2 := hc 2 (by omega); have k3 := hc 3 (by omega); unfold contN at k1 k2 k3; clear hc
 have hlead : (ldN (bAt s 0) = 2 ∧ 194 ≤ bAt s 0 ∧ bAt s 0 ≤ 223) ∨ (ldN (bAt s 0) = 3 ∧ 224 ≤ bAt s 0 ∧ bAt s 0 ≤ 239) ∨ (ldN (bAt s 0) = 4 ∧ 240 ≤ bAt s 0 ∧ bAt s 0 ≤ 244) := by
  unfold ldN at hl ⊢; split <;> (try split) <;> (try split) <;> simp_all
 generalize ldN (bAt s 0) = n at *
 rcases hlead with ⟨e, l1, l2⟩ | ⟨e, l1, l2⟩ | ⟨e, l1, l2⟩
 ·rw [e] at k1 k2 k3 hs ⊢
  generalize hA : accN s (ld0 (bAt s 0) 2) (2 - 1) = A
  have hA : A = (bAt s 0 % 32) * 64 + bAt s 1 % 64 := by rw [← hA]; rfl
  have hb : badN A 2 = true ↔ _ := badN_iff A 2; unfold bAt at *; generalize (s.get! 0).toNat = b0 at *; generalize (s.get! 1).toNat = b1 at *; generalize (s.get! 2).toNat = b2 at *; generalize (s.get! 3).toNat = b3 at *; unfold Lib.decodeN
  repeat' split
  all_goals first | rfl | (exfalso; simp_all; omega) | (rename_i hbb; rw [hb] at hbb; exfalso; omega) | (rename_i hbb; rw [hb] at hbb; apply Prod.ext <;> simp only <;> omega) | (exfalso; omega)
 ·rw [e] at k1 k2 k3 hs ⊢
  generalize hA : accN s (ld0 (bAt s 0) 3) (3 - 1) = A
  have hA : A = ((bAt s 0 % 16) * 64 + bAt s 1 % 64) * 64 + bAt s 2 % 64 := by rw [← hA]; rfl
  have hb : badN A 3 = true ↔ _ := badN_iff A 3; unfold bAt at *; generalize (s.get! 0).toNat = b0 at *; generalize (s.get! 1).toNat = b1 at *; generalize (s.get! 2).toNat = b2 at *; generalize (s.get! 3).toNat = b3 at *; unfold Lib.decodeN
  repeat' split
  all_goals first | rfl | (exfalso; simp_all; omega) | (rename_i hbb; rw [hb] at hbb; exfalso; omega) | (rename_i hbb; rw [hb] at hbb; apply Prod.ext <;> simp only <;> omega) | (exfalso; omega)
 ·rw [e] at k1 k2 k3 hs ⊢
  generalize hA : accN s (ld0 (bAt s 0) 4) (4 - 1) = A
  have hA : A = (((bAt s 0 % 8) * 64 + bAt s 1 % 64) * 64 + bAt s 2 % 64) * 64 + bAt s 3 % 64 := by rw [← hA]; rfl
  have hb : badN A 4 = true ↔ _ := badN_iff A 4; unfold bAt at *; generalize (s.get! 0).toNat = b0 at *; generalize (s.get! 1).toNat = b1 at *; generalize (s.get! 2).toNat = b2 at *; generalize (s.get! 3).toNat = b3 at *; unfold Lib.decodeN
  repeat' split
  all_goals first | rfl | (exfalso; simp_all; omega) | (rename_i hbb; rw [hb] at hbb; exfalso; omega) | (rename_i hbb; rw [hb] at hbb; apply Prod.ext <;> simp only <;> omega) | (exfalso; omega)
/-! ### one rune, walked -/
theorem sb_at (s : ByteArray) (i : Int) (j : Nat) (hj : j < s.size) (hi : i = j) (w : World) : (Instr.index 9 (.string s) (.int .i64 i)).run Tryz.prog w = .ok (.int .u8 (bAt s j)) w := by
 subst hi; rw [← bAt_eq hj]
 go_simp
theorem i32_and {x : Int} (m : Nat) (hm : m ≤ 8) (h0 : 0 ≤ x) (h1 : x < 256) : bits .and .i32 x (2 ^ m - 1) = x % 2 ^ m := bits_mask .i32 31 (by decide) wraps_i32 m (by omega) x h0 (by omega)
theorem accN_lt (s : ByteArray) (r : Nat) (h : r < 32) (k : Nat) (hk : k ≤ 3) : accN s r k < 8388608 := by
 rcases (show k = 0 ∨ k = 1 ∨ k = 2 ∨ k = 3 by omega) with rfl | rfl | rfl | rfl <;> simp only [accN] <;> omega
def oneV (D : Nat × Nat) : Value := .tuple #[.int .i32 D.1, .int .i64 D.2, .bool (decide (D.1 = 65533 ∧ D.2 = 1))]
theorem oneV_bad : oneV (65533, 1) = .tuple #[.int .i32 65533, .int .i64 1, .bool true] := rfl
theorem oneV_good {c n : Nat} (h : n ≠ 1 ∨ c ≠ 65533) : oneV (c, n) = .tuple #[.int .i32 c, .int .i64 n, .bool false] := by
 unfold oneV
 have : decide (c = 65533 ∧ n = 1) = false := by simp only [decide_eq_false_iff_not]; omega
 simp only [this]
set_option maxRecDepth 100000 in
theorem one2_any (s : ByteArray) (w : World) (hs : 0 < s.size) (l1 : 194 ≤ bAt s 0) (l2 : bAt s 0 ≤ 223) : Calls Tryz.prog 206 #[.string s] w fun e w' => e = .returned (oneV (Utf8.decode s 0)) ∧ w = w' := by
  have X0 := fun w => sb_at s 0 0 hs rfl w
  have hln : ldN (bAt s 0) = 2 := by unfold ldN; rw [if_pos ⟨l1, l2⟩]
  by_cases c : s.size < 2
  · have hD := dec_lead (s := s) (by omega) (.inr (by omega))
    rw [hD, oneV_bad]; obtain ⟨C, hC⟩ := exx (bAt s 0); rw [hC] at X0 l1 l2
    have hsz : (s.size : Int) < 2 := by omega
    have hl1 := (show (194 : Int) ≤ C by omega); clear hC hln hD
    have hl3 : ¬ (C : Int) < 128 := by omega
    have hl2 : (C : Int) ≤ 223 := by omega
    go_enter Tryz.func206, Tryz.ntmps206
    go_wp2; go_ret3; exact ⟨rfl, rfl⟩
  · have hfull := dec_full (s := s)
    rw [hln] at hfull
    have hbad := fun i => dec_bad (s := s) (i := i)
    rw [hln] at hbad; generalize Utf8.decode s 0 = D at *; obtain ⟨C, hC⟩ := exx (bAt s 0); rw [hC] at X0 l1 l2 hfull; obtain ⟨r0, hr0⟩ : ∃ r0 : Nat, ld0 C 2 = r0 := ⟨_, rfl⟩; rw [hr0] at hfull
    have hr0b : r0 < 32 := by rw [← hr0]; exact ld0_lt _ _
    have A0 : bits .and .i32 (C : Int) 31 = (r0 : Int) := by
      have := i32_and (x := (C : Int)) 5 (by omega) (by omega) (by omega); rw [← hr0]
      simpa [ld0] using this
    have hsz : ¬ (s.size : Int) < 2 := by omega
    replace hfull := hdh hfull; replace hbad := hdh hbad; have hl1 := (show (194 : Int) ≤ C by omega)
    have hl3 : ¬ (C : Int) < 128 := by omega
    clear hC hln
    have hl2 : (C : Int) ≤ 223 := by omega
    obtain ⟨RV, hRV⟩ := exx (oneV D); rw [hRV]
    go_enter Tryz.func206, Tryz.ntmps206
    go_wp2
    go_loopw [7, 8] (fun rv iv wr => ∃ i : Nat, 1 ≤ i ∧ i ≤ 2 ∧ iv = .int .i64 i ∧ rv = .int .i32 (accN s r0 (i - 1) : Nat) ∧ Hid (∀ j, 1 ≤ j → j < i → contN (bAt s j)) ∧ wr = w) (fun _ iv _ => 2 - (intOf iv).toNat)
    case atStart => exact ⟨1, by omega, by omega, rfl, rfl, hdh (fun j h1 h2 => by omega), rfl⟩
    case round =>
      obtain ⟨i, i1, i2, rfl, rfl, hcn, rfl⟩ := hrel; obtain ⟨R, hR⟩ := exx (accN s r0 (i - 1))
      have hRb : R < 8388608 := by rw [← hR]; exact accN_lt s r0 (by omega) (i - 1) (by omega)
      rw [hR]
      by_cases ci : i < 2
      · have X1 := fun w => sb_at s i i (by omega) rfl w
        have hvb := bAt_lt s i; obtain ⟨V, hV⟩ := exx (bAt s i); rw [hV] at X1 hvb
        have hii : (i : Int) < 2 := by omega
        by_cases v1 : V < 128
        · have hD := hbad.out i (by omega) i1 ci (by rw [hV]; unfold contN; omega)
          rw [hD, oneV_bad] at hRV; subst hRV
          have hv1 : (V : Int) < 128 := by omega
          go_wp2; go_ret3; exact ⟨rfl, rfl⟩
        · by_cases v2 : V > 191
          · have hD := hbad.out i (by omega) i1 ci (by rw [hV]; unfold contN; omega)
            rw [hD, oneV_bad] at hRV; subst hRV
            have hv1 : ¬ (V : Int) < 128 := by omega
            have hv2 : (V : Int) > 191 := by omega
            go_wp2; go_ret3; exact ⟨rfl, rfl⟩
          · have hv1 : ¬ (V : Int) < 128 := by omega
            have hv2 : ¬ (V : Int) > 191 := by omega
            obtain ⟨V6, hV6⟩ : ∃ V6 : Nat, V % 64 = V6 := ⟨_, rfl⟩
            have A1 : bits .and .u8 (V : Int) 63 = (V6 : Int) := by rw [u8_and63 _ (by omega) (by omega)]; omega
            obtain ⟨R', hR'⟩ : ∃ R' : Nat, R * 64 + V6 = R' := ⟨_, rfl⟩
            have A2 : bits .or .i32 ((R : Int) * 64) (V6 : Int) = (R' : Int) := by rw [i32_or6 _ _ (by omega) (by omega) (by omega) (by omega) (by omega)]; omega
            have A3 : wrap32 (V6 : Int) = V6 := by unfold wrap32; omega
            have hacc : accN s r0 (i + 1 - 1) = R' := by
              obtain ⟨k, rfl⟩ : ∃ k, i = k + 1 := ⟨i - 1, by omega⟩; rw [show k + 1 + 1 - 1 = k + 1 from rfl, accN, hV, hV6]; rw [show k + 1 - 1 = k from rfl] at hR; rw [hR]; exact hR'
            replace hacc := hdh hacc; replace hR' := hdh hR'; replace hR := hdh hR; replace hV := hdh hV; clear hV6; go_wp2; go_roundw
            case rel =>
              refine ⟨i + 1, by omega, by omega, by go_num, by rw [hacc.out], hdh (fun j h1 h2 => ?_), trivial⟩
              by_cases e : j = i
              · subst e
                rw [hV.out]; unfold contN; omega
              · exact hcn.out j h1 (by omega)
            case measure => simp [intOf]; omega
      · obtain rfl : i = 2 := by omega
        have hD := hfull.out (by omega) (by omega) hcn.out; rw [hR] at hD; clear hfull hbad A0 hR hcn
        by_cases cb : badN R 2 = true
        · rw [if_pos cb] at hD
          rw [hD, oneV_bad] at hRV; subst hRV; rw [badN_iff] at cb
          by_cases t3 : R > 1114111
          · have u3 : (R : Int) > 1114111 := by omega
            first
              | (exfalso; omega)
              | (go_wp2
                 go_ret3
                 exact ⟨rfl, rfl⟩)
          · have u3 : ¬ (R : Int) > 1114111 := by omega
            by_cases t4 : R ≥ 55296
            · have u4 : (R : Int) ≥ 55296 := by omega
              by_cases t5 : R ≤ 57343
              · have u5 : (R : Int) ≤ 57343 := by omega
                first
                  | (exfalso; omega)
                  | (go_wp2
                     go_ret3
                     exact ⟨rfl, rfl⟩)
              · have u5 : ¬ (R : Int) ≤ 57343 := by omega
                first
                  | (exfalso; omega)
                  | (go_wp2
                     go_ret3
                     exact ⟨rfl, rfl⟩)
            · have u4 : ¬ (R : Int) ≥ 55296 := by omega
              first
                | (exfalso; omega)
                | (go_wp2
                   go_ret3
                   exact ⟨rfl, rfl⟩)
        · rw [if_neg cb] at hD
          rw [hD, oneV_good (by omega)] at hRV; subst hRV; rw [badN_iff] at cb
          by_cases t3 : R > 1114111
          · have u3 : (R : Int) > 1114111 := by omega
            first
              | (exfalso; omega)
              | (go_wp2
                 go_ret3
                 exact ⟨rfl, rfl⟩)
          · have u3 : ¬ (R : Int) > 1114111 := by omega
            by_cases t4 : R ≥ 55296
            · have u4 : (R : Int) ≥ 55296 := by omega
              by_cases t5 : R ≤ 57343
              · have u5 : (R : Int) ≤ 57343 := by omega
                first
                  | (exfalso; omega)
                  | (go_wp2
                     go_ret3
                     exact ⟨rfl, rfl⟩)
              · have u5 : ¬ (R : Int) ≤ 57343 := by omega
                first
                  | (exfalso; omega)
                  | (go_wp2
                     go_ret3
                     exact ⟨rfl, rfl⟩)
            · have u4 : ¬ (R : Int) ≥ 55296 := by omega
              first
                | (exfalso; omega)
                | (go_wp2
                   go_ret3
                   exact ⟨rfl, rfl⟩)
set_option maxRecDepth 100000 in
theorem one3_any (s : ByteArray) (w : World) (hs : 0 < s.size) (l1 : 224 ≤ bAt s 0) (l2 : bAt s 0 ≤ 239) : Calls Tryz.prog 206 #[.string s] w fun e w' => e = .returned (oneV (Utf8.decode s 0)) ∧ w = w' := by
  have X0 := fun w => sb_at s 0 0 hs rfl w
  have hln : ldN (bAt s 0) = 3 := by unfold ldN; rw [if_neg (by omega), if_pos ⟨l1, l2⟩]
  by_cases c : s.size < 3
  · have hD := dec_lead (s := s) (by omega) (.inr (by omega))
    rw [hD, oneV_bad]; obtain ⟨C, hC⟩ := exx (bAt s 0); rw [hC] at X0 l1 l2
    have hsz : (s.size : Int) < 3 := by omega
    have hl1 := (show (194 : Int) ≤ C by omega); clear hC hln hD
    have hl3 : ¬ (C : Int) < 128 := by omega
    (have hl2 : (224 : Int) ≤ C := by omega); (have hl4 : ¬ (C : Int) ≤ 223 := by omega); (have hl5 : (C : Int) ≤ 239 := by omega)
    go_enter Tryz.func206, Tryz.ntmps206
    go_wp2; go_ret3; exact ⟨rfl, rfl⟩
  · have hfull := dec_full (s := s)
    rw [hln] at hfull
    have hbad := fun i => dec_bad (s := s) (i := i)
    rw [hln] at hbad; generalize Utf8.decode s 0 = D at *; obtain ⟨C, hC⟩ := exx (bAt s 0); rw [hC] at X0 l1 l2 hfull; obtain ⟨r0, hr0⟩ : ∃ r0 : Nat, ld0 C 3 = r0 := ⟨_, rfl⟩; rw [hr0] at hfull
    have hr0b : r0 < 32 := by rw [← hr0]; exact ld0_lt _ _
    have A0 : bits .and .i32 (C : Int) 15 = (r0 : Int) := by
      have := i32_and (x := (C : Int)) 4 (by omega) (by omega) (by omega); rw [← hr0]
      simpa [ld0] using this
    have hsz : ¬ (s.size : Int) < 3 := by omega
    replace hfull := hdh hfull; replace hbad := hdh hbad; have hl1 := (show (194 : Int) ≤ C by omega)
    have hl3 : ¬ (C : Int) < 128 := by omega
    clear hC hln
    (have hl2 : (224 : Int) ≤ C := by omega); (have hl4 : ¬ (C : Int) ≤ 223 := by omega); (have hl5 : (C : Int) ≤ 239 := by omega)
    obtain ⟨RV, hRV⟩ := exx (oneV D); rw [hRV]
    go_enter Tryz.func206, Tryz.ntmps206
    go_wp2
    go_loopw [7, 8] (fun rv iv wr => ∃ i : Nat, 1 ≤ i ∧ i ≤ 3 ∧ iv = .int .i64 i ∧ rv = .int .i32 (accN s r0 (i - 1) : Nat) ∧ Hid (∀ j, 1 ≤ j → j < i → contN (bAt s j)) ∧ wr = w) (fun _ iv _ => 3 - (intOf iv).toNat)
    case atStart => exact ⟨1, by omega, by omega, rfl, rfl, hdh (fun j h1 h2 => by omega), rfl⟩
    case round =>
      obtain ⟨i, i1, i2, rfl, rfl, hcn, rfl⟩ := hrel; obtain ⟨R, hR⟩ := exx (accN s r0 (i - 1))
      have hRb : R < 8388608 := by rw [← hR]; exact accN_lt s r0 (by omega) (i - 1) (by omega)
      rw [hR]
      by_cases ci : i < 3
      · have X1 := fun w => sb_at s i i (by omega) rfl w
        have hvb := bAt_lt s i; obtain ⟨V, hV⟩ := exx (bAt s i); rw [hV] at X1 hvb
        have hii : (i : Int) < 3 := by omega
        by_cases v1 : V < 128
        · have hD := hbad.out i (by omega) i1 ci (by rw [hV]; unfold contN; omega)
          rw [hD, oneV_bad] at hRV; subst hRV
          have hv1 : (V : Int) < 128 := by omega
          go_wp2; go_ret3; exact ⟨rfl, rfl⟩
        · by_cases v2 : V > 191
          · have hD := hbad.out i (by omega) i1 ci (by rw [hV]; unfold contN; omega)
            rw [hD, oneV_bad] at hRV; subst hRV
            have hv1 : ¬ (V : Int) < 128 := by omega
            have hv2 : (V : Int) > 191 := by omega
            go_wp2; go_ret3; exact ⟨rfl, rfl⟩
          · have hv1 : ¬ (V : Int) < 128 := by omega
            have hv2 : ¬ (V : Int) > 191 := by omega
            obtain ⟨V6, hV6⟩ : ∃ V6 : Nat, V % 64 = V6 := ⟨_, rfl⟩
            have A1 : bits .and .u8 (V : Int) 63 = (V6 : Int) := by rw [u8_and63 _ (by omega) (by omega)]; omega
            obtain ⟨R', hR'⟩ : ∃ R' : Nat, R * 64 + V6 = R' := ⟨_, rfl⟩
            have A2 : bits .or .i32 ((R : Int) * 64) (V6 : Int) = (R' : Int) := by rw [i32_or6 _ _ (by omega) (by omega) (by omega) (by omega) (by omega)]; omega
            have A3 : wrap32 (V6 : Int) = V6 := by unfold wrap32; omega
            have hacc : accN s r0 (i + 1 - 1) = R' := by
              obtain ⟨k, rfl⟩ : ∃ k, i = k + 1 := ⟨i - 1, by omega⟩; rw [show k + 1 + 1 - 1 = k + 1 from rfl, accN, hV, hV6]; rw [show k + 1 - 1 = k from rfl] at hR; rw [hR]; exact hR'
            replace hacc := hdh hacc; replace hR' := hdh hR'; replace hR := hdh hR; replace hV := hdh hV; clear hV6; go_wp2; go_roundw
            case rel =>
              refine ⟨i + 1, by omega, by omega, by go_num, by rw [hacc.out], hdh (fun j h1 h2 => ?_), trivial⟩
              by_cases e : j = i
              · subst e
                rw [hV.out]; unfold contN; omega
              · exact hcn.out j h1 (by omega)
            case measure => simp [intOf]; omega
      · obtain rfl : i = 3 := by omega
        have hD := hfull.out (by omega) (by omega) hcn.out; rw [hR] at hD; clear hfull hbad A0 hR hcn
        by_cases cb : badN R 3 = true
        · rw [if_pos cb] at hD
          rw [hD, oneV_bad] at hRV; subst hRV; rw [badN_iff] at cb
          by_cases t1 : R < 2048
          · have u1 : (R : Int) < 2048 := by omega
            first
              | (exfalso; omega)
              | (go_wp2
                 go_ret3
                 exact ⟨rfl, rfl⟩)
          · have u1 : ¬ (R : Int) < 2048 := by omega
            by_cases t3 : R > 1114111
            · have u3 : (R : Int) > 1114111 := by omega
              first
                | (exfalso; omega)
                | (go_wp2
                   go_ret3
                   exact ⟨rfl, rfl⟩)
            · have u3 : ¬ (R : Int) > 1114111 := by omega
              by_cases t4 : R ≥ 55296
              · have u4 : (R : Int) ≥ 55296 := by omega
                by_cases t5 : R ≤ 57343
                · have u5 : (R : Int) ≤ 57343 := by omega
                  first
                    | (exfalso; omega)
                    | (go_wp2
                       go_ret3
                       exact ⟨rfl, rfl⟩)
                · have u5 : ¬ (R : Int) ≤ 57343 := by omega
                  first
                    | (exfalso; omega)
                    | (go_wp2
                       go_ret3
                       exact ⟨rfl, rfl⟩)
              · have u4 : ¬ (R : Int) ≥ 55296 := by omega
                first
                  | (exfalso; omega)
                  | (go_wp2
                     go_ret3
                     exact ⟨rfl, rfl⟩)
        · rw [if_neg cb] at hD
          rw [hD, oneV_good (by omega)] at hRV; subst hRV; rw [badN_iff] at cb
          by_cases t1 : R < 2048
          · have u1 : (R : Int) < 2048 := by omega
            first
              | (exfalso; omega)
              | (go_wp2
                 go_ret3
                 exact ⟨rfl, rfl⟩)
          · have u1 : ¬ (R : Int) < 2048 := by omega
            by_cases t3 : R > 1114111
            · have u3 : (R : Int) > 1114111 := by omega
              first
                | (exfalso; omega)
                | (go_wp2
                   go_ret3
                   exact ⟨rfl, rfl⟩)
            · have u3 : ¬ (R : Int) > 1114111 := by omega
              by_cases t4 : R ≥ 55296
              · have u4 : (R : Int) ≥ 55296 := by omega
                by_cases t5 : R ≤ 57343
                · have u5 : (R : Int) ≤ 57343 := by omega
                  first
                    | (exfalso; omega)
                    | (go_wp2
                       go_ret3
                       exact ⟨rfl, rfl⟩)
                · have u5 : ¬ (R : Int) ≤ 57343 := by omega
                  first
                    | (exfalso; omega)
                    | (go_wp2
                       go_ret3
                       exact ⟨rfl, rfl⟩)
              · have u4 : ¬ (R : Int) ≥ 55296 := by omega
                first
                  | (exfalso; omega)
                  | (go_wp2
                     go_ret3
                     exact ⟨rfl, rfl⟩)
set_option maxRecDepth 100000 in
theorem one4_any (s : ByteArray) (w : World) (hs : 0 < s.size) (l1 : 240 ≤ bAt s 0) (l2 : bAt s 0 ≤ 244) : Calls Tryz.prog 206 #[.string s] w fun e w' => e = .returned (oneV (Utf8.decode s 0)) ∧ w = w' := by
  have X0 := fun w => sb_at s 0 0 hs rfl w
  have hln : ldN (bAt s 0) = 4 := by unfold ldN; rw [if_neg (by omega), if_neg (by omega), if_pos ⟨l1, l2⟩]
  by_cases c : s.size < 4
  · have hD := dec_lead (s := s) (by omega) (.inr (by omega))
    rw [hD, oneV_bad]; obtain ⟨C, hC⟩ := exx (bAt s 0); rw [hC] at X0 l1 l2
    have hsz : (s.size : Int) < 4 := by omega
    have hl1 := (show (194 : Int) ≤ C by omega); clear hC hln hD
    have hl3 : ¬ (C : Int) < 128 := by omega
    (have hl2 : (224 : Int) ≤ C := by omega); (have hl4 : ¬ (C : Int) ≤ 223 := by omega); (have hl5 : ¬ (C : Int) ≤ 239 := by omega); (have hl6 : (240 : Int) ≤ C := by omega); (have hl7 : (C : Int) ≤ 244 := by omega)
    go_enter Tryz.func206, Tryz.ntmps206
    go_wp2; go_ret3; exact ⟨rfl, rfl⟩
  · have hfull := dec_full (s := s)
    rw [hln] at hfull
    have hbad := fun i => dec_bad (s := s) (i := i)
    rw [hln] at hbad; generalize Utf8.decode s 0 = D at *; obtain ⟨C, hC⟩ := exx (bAt s 0); rw [hC] at X0 l1 l2 hfull; obtain ⟨r0, hr0⟩ : ∃ r0 : Nat, ld0 C 4 = r0 := ⟨_, rfl⟩; rw [hr0] at hfull
    have hr0b : r0 < 32 := by rw [← hr0]; exact ld0_lt _ _
    have A0 : bits .and .i32 (C : Int) 7 = (r0 : Int) := by
      have := i32_and (x := (C : Int)) 3 (by omega) (by omega) (by omega); rw [← hr0]
      simpa [ld0] using this
    have hsz : ¬ (s.size : Int) < 4 := by omega
    replace hfull := hdh hfull; replace hbad := hdh hbad; have hl1 := (show (194 : Int) ≤ C by omega)
    have hl3 : ¬ (C : Int) < 128 := by omega
    clear hC hln
    (have hl2 : (224 : Int) ≤ C := by omega); (have hl4 : ¬ (C : Int) ≤ 223 := by omega); (have hl5 : ¬ (C : Int) ≤ 239 := by omega); (have hl6 : (240 : Int) ≤ C := by omega); (have hl7 : (C : Int) ≤ 244 := by omega)
    obtain ⟨RV, hRV⟩ := exx (oneV D); rw [hRV]
    go_enter Tryz.func206, Tryz.ntmps206
    go_wp2
    go_loopw [7, 8] (fun rv iv wr => ∃ i : Nat, 1 ≤ i ∧ i ≤ 4 ∧ iv = .int .i64 i ∧ rv = .int .i32 (accN s r0 (i - 1) : Nat) ∧ Hid (∀ j, 1 ≤ j → j < i → contN (bAt s j)) ∧ wr = w) (fun _ iv _ => 4 - (intOf iv).toNat)
    case atStart => exact ⟨1, by omega, by omega, rfl, rfl, hdh (fun j h1 h2 => by omega), rfl⟩
    case round =>
      obtain ⟨i, i1, i2, rfl, rfl, hcn, rfl⟩ := hrel; obtain ⟨R, hR⟩ := exx (accN s r0 (i - 1))
      have hRb : R < 8388608 := by rw [← hR]; exact accN_lt s r0 (by omega) (i - 1) (by omega)
      rw [hR]
      by_cases ci : i < 4
      · have X1 := fun w => sb_at s i i (by omega) rfl w
        have hvb := bAt_lt s i; obtain ⟨V, hV⟩ := exx (bAt s i); rw [hV] at X1 hvb
        have hii : (i : Int) < 4 := by omega
        by_cases v1 : V < 128
        · have hD := hbad.out i (by omega) i1 ci (by rw [hV]; unfold contN; omega)
          rw [hD, oneV_bad] at hRV; subst hRV
          have hv1 : (V : Int) < 128 := by omega
          go_wp2; go_ret3; exact ⟨rfl, rfl⟩
        · by_cases v2 : V > 191
          · have hD := hbad.out i (by omega) i1 ci (by rw [hV]; unfold contN; omega)
            rw [hD, oneV_bad] at hRV; subst hRV
            have hv1 : ¬ (V : Int) < 128 := by omega
            have hv2 : (V : Int) > 191 := by omega
            go_wp2; go_ret3; exact ⟨rfl, rfl⟩
          · have hv1 : ¬ (V : Int) < 128 := by omega
            have hv2 : ¬ (V : Int) > 191 := by omega
            obtain ⟨V6, hV6⟩ : ∃ V6 : Nat, V % 64 = V6 := ⟨_, rfl⟩
            have A1 : bits .and .u8 (V : Int) 63 = (V6 : Int) := by rw [u8_and63 _ (by omega) (by omega)]; omega
            obtain ⟨R', hR'⟩ : ∃ R' : Nat, R * 64 + V6 = R' := ⟨_, rfl⟩
            have A2 : bits .or .i32 ((R : Int) * 64) (V6 : Int) = (R' : Int) := by rw [i32_or6 _ _ (by omega) (by omega) (by omega) (by omega) (by omega)]; omega
            have A3 : wrap32 (V6 : Int) = V6 := by unfold wrap32; omega
            have hacc : accN s r0 (i + 1 - 1) = R' := by
              obtain ⟨k, rfl⟩ : ∃ k, i = k + 1 := ⟨i - 1, by omega⟩; rw [show k + 1 + 1 - 1 = k + 1 from rfl, accN, hV, hV6]; rw [show k + 1 - 1 = k from rfl] at hR; rw [hR]; exact hR'
            replace hacc := hdh hacc; replace hR' := hdh hR'; replace hR := hdh hR; replace hV := hdh hV; clear hV6; go_wp2; go_roundw
            case rel =>
              refine ⟨i + 1, by omega, by omega, by go_num, by rw [hacc.out], hdh (fun j h1 h2 => ?_), trivial⟩
              by_cases e : j = i
              · subst e
                rw [hV.out]; unfold contN; omega
              · exact hcn.out j h1 (by omega)
            case measure => simp [intOf]; omega
      · obtain rfl : i = 4 := by omega
        have hD := hfull.out (by omega) (by omega) hcn.out; rw [hR] at hD; clear hfull hbad A0 hR hcn
        by_cases cb : badN R 4 = true
        · rw [if_pos cb] at hD
          rw [hD, oneV_bad] at hRV; subst hRV; rw [badN_iff] at cb
          by_cases t1 : R < 65536
          · have u1 : (R : Int) < 65536 := by omega
            first
              | (exfalso; omega)
              | (go_wp2
                 go_ret3
                 exact ⟨rfl, rfl⟩)
          · have u1 : ¬ (R : Int) < 65536 := by omega
            by_cases t3 : R > 1114111
            · have u3 : (R : Int) > 1114111 := by omega
              first
                | (exfalso; omega)
                | (go_wp2
                   go_ret3
                   exact ⟨rfl, rfl⟩)
            · have u3 : ¬ (R : Int) > 1114111 := by omega
              by_cases t4 : R ≥ 55296
              · have u4 : (R : Int) ≥ 55296 := by omega
                by_cases t5 : R ≤ 57343
                · have u5 : (R : Int) ≤ 57343 := by omega
                  first
                    | (exfalso; omega)
                    | (go_wp2
                       go_ret3
                       exact ⟨rfl, rfl⟩)
                · have u5 : ¬ (R : Int) ≤ 57343 := by omega
                  first
                    | (exfalso; omega)
                    | (go_wp2
                       go_ret3
                       exact ⟨rfl, rfl⟩)
              · have u4 : ¬ (R : Int) ≥ 55296 := by omega
                first
                  | (exfalso; omega)
                  | (go_wp2
                     go_ret3
                     exact ⟨rfl, rfl⟩)
        · rw [if_neg cb] at hD
          rw [hD, oneV_good (by omega)] at hRV; subst hRV; rw [badN_iff] at cb
          by_cases t1 : R < 65536
          · have u1 : (R : Int) < 65536 := by omega
            first
              | (exfalso; omega)
              | (go_wp2
                 go_ret3
                 exact ⟨rfl, rfl⟩)
          · have u1 : ¬ (R : Int) < 65536 := by omega
            by_cases t3 : R > 1114111
            · have u3 : (R : Int) > 1114111 := by omega
              first
                | (exfalso; omega)
                | (go_wp2
                   go_ret3
                   exact ⟨rfl, rfl⟩)
            · have u3 : ¬ (R : Int) > 1114111 := by omega
              by_cases t4 : R ≥ 55296
              · have u4 : (R : Int) ≥ 55296 := by omega
                by_cases t5 : R ≤ 57343
                · have u5 : (R : Int) ≤ 57343 := by omega
                  first
                    | (exfalso; omega)
                    | (go_wp2
                       go_ret3
                       exact ⟨rfl, rfl⟩)
                · have u5 : ¬ (R : Int) ≤ 57343 := by omega
                  first
                    | (exfalso; omega)
                    | (go_wp2
                       go_ret3
                       exact ⟨rfl, rfl⟩)
              · have u4 : ¬ (R : Int) ≥ 55296 := by omega
                first
                  | (exfalso; omega)
                  | (go_wp2
                     go_ret3
                     exact ⟨rfl, rfl⟩)
set_option maxRecDepth 100000 in
theorem rone_any (s : ByteArray) (w : World) (hs : 0 < s.size) : Calls Tryz.prog 206 #[.string s] w fun e w' => e = .returned (oneV (Utf8.decode s 0)) ∧ w = w' := by
 by_cases a : bAt s 0 < 128
 ·have X0 := fun w => sb_at s 0 0 hs rfl w
  rw [dec_ascii a, oneV_good (by omega)]; obtain ⟨C, hC⟩ := exx (bAt s 0); rw [hC] at X0 a ⊢
  have hl3 : (C : Int) < 128 := by omega
  have A3 : wrap32 (C : Int) = C := by unfold wrap32; omega
  clear hC
  go_enter Tryz.func206, Tryz.ntmps206
  go_wp2; go_ret3; exact ⟨rfl, rfl⟩
 ·by_cases b2 : 194 ≤ bAt s 0 ∧ bAt s 0 ≤ 223
  ·exact one2_any s w hs b2.1 b2.2
  by_cases b3 : 224 ≤ bAt s 0 ∧ bAt s 0 ≤ 239
  ·exact one3_any s w hs b3.1 b3.2
  by_cases b4 : 240 ≤ bAt s 0 ∧ bAt s 0 ≤ 244
  ·exact one4_any s w hs b4.1 b4.2
  have X0 := fun w => sb_at s 0 0 hs rfl w
  have hln : ldN (bAt s 0) = 0 := by unfold ldN; rw [if_neg b2, if_neg b3, if_neg b4]
  rw [dec_lead a (.inl hln), oneV_bad]; have hvb := bAt_lt s 0; obtain ⟨C, hC⟩ := exx (bAt s 0); rw [hC] at X0 a b2 b3 b4 hvb
  have hl3 : ¬ (C : Int) < 128 := by omega
  clear hC hln
  by_cases c1 : C < 194
  ·have h1 : ¬ (194 : Int) ≤ C := by omega
   have h2 : ¬ (224 : Int) ≤ C := by omega
   have h3 : ¬ (240 : Int) ≤ C := by omega
   go_enter Tryz.func206, Tryz.ntmps206
   go_wp2; go_ret3; exact ⟨rfl, rfl⟩
  ·have h1 : (194 : Int) ≤ C := by omega
   have h2 : (224 : Int) ≤ C := by omega
   have h3 : (240 : Int) ≤ C := by omega
   have h4 : ¬ (C : Int) ≤ 223 := by omega
   have h5 : ¬ (C : Int) ≤ 239 := by omega
   have h6 : ¬ (C : Int) ≤ 244 := by omega
   go_enter Tryz.func206, Tryz.ntmps206
   go_wp2; go_ret3; exact ⟨rfl, rfl⟩
theorem dec_extract {s : ByteArray} {p : Nat} (h : p ≤ s.size) : Utf8.decode (s.extract p s.size) 0 = Utf8.decode s p := by
 have hz : (s.extract p s.size).size = s.size - p := by simp
 have hg : ∀ k, k < s.size - p → (s.extract p s.size).get! k = s.get! (p + k) := fun k hk => get!_extract s p s.size k (by omega) lrr
 have hbig : ∀ (t : ByteArray) (k : Nat), t.size ≤ k → t.get! k = 0 := by
  intro t k hk
  cases t with
  | mk d =>
   show d[k]! = 0
   rw [getElem!_neg d k (by show ¬ k < d.size; have : d.size ≤ k := hk; omega)]
   rfl
 have hall : ∀ k, (s.extract p s.size).get! k = s.get! (p + k) := by
  intro k
  by_cases hk : k < s.size - p
  ·exact hg k hk
  ·rw [hbig _ k (by omega), hbig s (p + k) (by omega)]
 rw [Lib.decode_at, Lib.decode_at, hz, Nat.sub_zero, hall 0, hall (0 + 1), hall (0 + 2), hall (0 + 3)]; simp only [Nat.zero_add, Nat.add_zero]
def Pc.enc (c : Pc) : List Value := [.int .i64 c.fr, .int .i64 c.en, .int .i32 c.first, .int .i64 c.cells]
theorem Pc.enc_len (c : Pc) : c.enc.length = 4 := rfl
theorem infoPc : (Tryz.prog.info? 237).map (fun i => (i.zero, i.size, i.bytes)) = some (some (.agg #[.int .i64 0, .int .i64 0, .int .i32 0, .int .i64 0]), 4, 32) := by kernel_rfl
def OwnsP (base : Nat) (w : World) (v : Value) (l : List Pc) : Prop := w.ownsRow base 237 4 v l.length (l.flatMap Pc.enc)
def cellI (v : Option Value) : Nat := match v with | some (.int _ n) => n.toNat | _ => 0
theorem oneV_shape (D : Nat × Nat) : ∃ b, oneV D = .tuple #[.int .i32 D.1, .int .i64 D.2, .bool b] := ⟨_, rfl⟩
theorem rone_at (s : ByteArray) (p : Nat) (hp : p < s.size) (w : World) : Calls Tryz.prog 206 #[.string (s.extract p s.size)] w fun e w' => e = .returned (oneV (Utf8.decode s p)) ∧ w = w' := by
 have := rone_any (s.extract p s.size) w (by simp; omega)
 rwa [dec_extract (by omega)] at this
set_option maxRecDepth 100000 in
theorem rpieces_any (s : ByteArray) (w : World) (hm : s.size ≤ 100000) : Calls Tryz.prog 176 #[.string s] w fun e w' => Below w.heap.size w w' ∧ ∃ v, e = .returned v ∧ OwnsP w.heap.size w' v (pcsAt s 0) := by
 obtain ⟨iP, hi0, hz0, hz1, hz2⟩ := info_parts infoPc; obtain ⟨n, hn⟩ := exx (w.heap.size); rw [hn]; obtain ⟨L, hL⟩ := exx (pcsAt s 0); rw [hL]
 go_enter Tryz.func176, Tryz.ntmps176
 go_wp2
 go_loopw [3, 4] (fun lv av wr => ∃ (p : Nat) (row : List Pc), p ≤ s.size ∧ av = .int .i64 p ∧ Hid (OwnsP n wr lv row) ∧ Hid (row ++ pcsAt s p = L) ∧ Below n w wr ∧ row.length ≤ p ∧ n ≤ wr.heap.size) (fun _ av _ => s.size - (intOf av).toNat)
 case atStart => exact ⟨0, [], Nat.zero_le _, rfl, hdh (World.ownsRow_nil _ _ _ _), hdh hL, by rw [← hn]; exact Below.refl _ _, Nat.zero_le _, by omega⟩
 case round =>
  obtain ⟨p, row, hp, rfl, hown, hgo, hbr, hln, hnr⟩ := hrel
  by_cases c : p < s.size
  ·have O1 := rone_at s p c
   have hfit := dec_fit c; have hpos := dec_pos s p; have hst := pcsAt_step c; unfold pcAt at hst; have hpt := pcTo_bd c
   have hto : pcTo s p = if ctlR ((Utf8.decode s p).1 : Int) = true then p + (Utf8.decode s p).2 else markEnd s (p + (Utf8.decode s p).2) := rfl
   obtain ⟨bb, hbb⟩ := oneV_shape (Utf8.decode s p); rw [hbb] at O1; clear hbb; obtain ⟨⟨r, k⟩, hD⟩ : ∃ D, Utf8.decode s p = D := ⟨_, rfl⟩; rw [hD] at O1 hfit hpos hst hto; clear hD; dsimp only at O1 hfit hpos hst hto; have W1 := rwidth_any (r : Int); obtain ⟨Z, hZ⟩ := exx (widR (r : Int)); rw [hZ] at W1 hst; have hgo2 := hgo.out; rw [hst] at hgo2; obtain ⟨E, hE⟩ := exx (pcTo s p); rw [hE] at hto hgo2 hpt; clear hst hZ hgo
   have hci : (p : Int) < s.size := by omega
   obtain ⟨q0, hq0⟩ : ∃ q0 : Nat, p + k = q0 := ⟨_, rfl⟩; rw [hq0] at hto hfit
   have hq1 : (p : Int) + (k : Int) = (q0 : Int) := by omega
   obtain ⟨sv, cv, hsv⟩ := own_slice hown.out; subst hsv; obtain ⟨ct, hct⟩ := exx (ctlR (r : Int)); have C1 := rcontrol_any (r : Int); rw [hct] at C1 hto; clear hct; replace hto := hdh hto; replace hgo2 := hdh hgo2; replace hE := hdh hE; replace hown := hdh hown
   go_upto_region 6 with (first
    | (go_at_call 206; (with_reducible refine (O1 _).mono ?_); rintro e w1 ⟨rfl, rfl⟩)
    | (go_at_call 174; (with_reducible refine cmm (W1 _) fun w2 hb2 => ?_)))
   obtain ⟨b, hb⟩ := exx (w2.heap.size); have hownb : OwnsP n w2 (.slice sv row.length cv) row := ownsRow_below hown.out.out hb2 lrr
   have hno : (Value.slice sv row.length cv).ownBlock ≠ some b := fun e => by have := (hownb.lt b e).2; omega
   obtain ⟨W5, hW5⟩ := exx (w2.alloc (.cells #[.int .i64 p, .int .i64 q0, .int .i32 r, .int .i64 Z] 237))
   have B5 : Blk W5 b [.int .i64 p, .int .i64 q0, .int .i32 r, .int .i64 Z] 237 := by rw [← hW5, ← hb]; exact Blk.new' rfl
   have hown5 : OwnsP n W5 (.slice sv row.length cv) row := by rw [← hW5]; exact hownb.alloc _
   have z2 := hb2.size
   have hb5 : Below n w W5 := by rw [← hW5]; exact (hbr.trans (hb2.mono hnr)).alloc (by omega) _
   have nb : n ≤ b := by omega
   rw [hW5, hb]; clear hW5 hb hownb hb2 hbr hown z2 O1 W1; replace hown5 := hdh hown5; replace hno := hdh hno; replace hto := hto.out; replace hto := hdh hto
   go_loopw [] (fun wx => ∃ q : Nat, q ≤ s.size ∧ p < q ∧ Hid (Blk wx b [.int .i64 p, .int .i64 q, .int .i32 r, .int .i64 Z] 237) ∧ Hid (E = if ct = true then q else markEnd s q) ∧ Hid (OwnsP n wx (.slice sv row.length cv) row) ∧ Below n w wx ∧ n ≤ wx.heap.size) (fun wx => s.size - cellI (wx.cell? ⟨b, 1, none⟩))
   case atStart => exact ⟨q0, hfit, by omega, hdh B5, hto, hown5, hb5, by have := B5.lt; omega⟩
   case round =>
    clear B5 hown5 hb5 hto; obtain ⟨q, hq, hpq, B5, hto, hown, hbx, hnx⟩ := hrel; have B5 := B5.out; have yb := B5.lt; have g0 := B5.cell (o := 0) rfl; have g1 := B5.cell (o := 1) rfl; have g2 := B5.cell (o := 2) rfl; have g3 := B5.cell (o := 3) rfl; have gf := B5.free
    have mq : cellI (wr.cell? ⟨b, 1, none⟩) = Int.toNat (q : Nat) := by rw [g1]; rfl
    replace mq := hdh mq
    cases ct with
    | true =>
     have hqE : q = E := by rw [hto.out]; rfl
     subst hqE; clear hto
     go_wp2_with (first
      | (go_at_call 201; (with_reducible refine cmm (C1 _) fun w6 hb6 => ?_); have D5 := B5.below hb6 yb; have hownZ := ownsRow_below hown.out hb6 lrr; have hbZ := hbx.trans (hb6.mono hnx); have zZ := hb6.size; clear B5 hown hbx g0 g1 g2 g3 gf; have B5 := D5; have yb := B5.lt; have g0 := B5.cell (o := 0) rfl; have g1 := B5.cell (o := 1) rfl; have g2 := B5.cell (o := 2) rfl; have g3 := B5.cell (o := 3) rfl; have gf := B5.free; have hown := hdh hownZ; have hbx := hbZ; have hnx : n ≤ w6.heap.size := (by omega); clear D5 hownZ hbZ zZ hb6)
      | (at_builtin; refine wpList_append_own _ rfl _ _ _ rfl n 237 iP _ 4 32 Tryz.underlying233 hi0 hz0 hz1 hz2 rfl (by omega) _ row.length _ (by rfl) (hown.out.alloc _) ⟨w6.heap.size, 0, none⟩ 1 1 [.int .i64 p, .int .i64 q, .int .i32 r, .int .i64 Z] (by rfl) rfl (cells_new w6 [.int .i64 p, .int .i64 q, .int .i32 r, .int .i64 Z] 237) (by intro u hu; simp only [List.mem_cons, List.not_mem_nil, or_false] at hu; rcases hu with rfl | rfl | rfl | rfl <;> rfl) (by unfold maxLen; omega) (by omega) (by simp; omega) ?_; intro v3 w3 hown3 hgr3 _; have E3 := (B5.alloc _).keep hgr3 hno; have e1 := E3.cell (o := 1) rfl; replace hown3 := hdh hown3; replace hgr3 := hdh hgr3; clear E3))
     have hgr4 := hgr3.out; have z3 := hgr4.size; rw [World.size_alloc] at z3; go_roundw
     case rel =>
      refine ⟨q, row ++ [⟨p, q, r, Z⟩], by omega, rfl, hdh ?_, hdh (by rw [List.append_assoc]; exact hgo2.out), ((hbx.alloc (by omega) _).grown hgr4 (by simp; omega) (fun g hg => by have := (hown.out.lt g hg).1; omega)), by simp; omega, by omega⟩; have := hown3.out; unfold OwnsP
      simpa [Pc.enc] using this
     case measure => simp [intOf]; omega
    | false =>
     by_cases c2 : q < s.size
     ·have O2 := rone_at s q c2
      have hfit2 := dec_fit c2; have hpos2 := dec_pos s q; obtain ⟨bb2, hbb2⟩ := oneV_shape (Utf8.decode s q); rw [hbb2] at O2; have M1 := rmark_any ((Utf8.decode s q).1 : Int); have hstep := markEnd_step (s := s) (p := q) c2; have hstop := markEnd_stop (s := s) (p := q); obtain ⟨⟨r2, k2⟩, hD2⟩ : ∃ D, Utf8.decode s q = D := ⟨_, rfl⟩; rw [hD2] at O2 hfit2 hpos2 M1 hstep hstop; clear hD2 hbb2; dsimp only at O2 hfit2 hpos2 M1 hstep hstop
      have hqi : (q : Int) < s.size := by omega
      have hto2 : E = markEnd s q := hto.out
      cases hmk : inL (r2 : Int) marksL with
      | true =>
       rw [hmk] at M1 hstep; rw [hstep rfl] at hto2; obtain ⟨q2, hq2⟩ : ∃ q2 : Nat, q + k2 = q2 := ⟨_, rfl⟩; rw [hq2] at hto2 hfit2
       have hq3 : (q : Int) + (k2 : Int) = (q2 : Int) := by omega
       clear hstep hstop hto hmk; replace hto2 := hdh hto2
       go_wp2_with (first
        | (go_at_call 201; (with_reducible refine cmm (C1 _) fun w6 hb6 => ?_); have D5 := B5.below hb6 yb; have hownZ := ownsRow_below hown.out hb6 lrr; have hbZ := hbx.trans (hb6.mono hnx); have zZ := hb6.size; clear B5 hown hbx g0 g1 g2 g3 gf; have B5 := D5; have yb := B5.lt; have g0 := B5.cell (o := 0) rfl; have g1 := B5.cell (o := 1) rfl; have g2 := B5.cell (o := 2) rfl; have g3 := B5.cell (o := 3) rfl; have gf := B5.free; have hown := hdh hownZ; have hbx := hbZ; have hnx : n ≤ w6.heap.size := (by omega); clear D5 hownZ hbZ zZ hb6)
        | (go_at_call 206; (with_reducible refine (O2 _).mono ?_); rintro e w8 ⟨rfl, rfl⟩)
        | (go_at_call 202; (with_reducible refine cmm (M1 _) fun w7 hb7 => ?_); have D5 := B5.below hb7 yb; have hownZ := ownsRow_below hown.out hb7 lrr; have hbZ := hbx.trans (hb7.mono hnx); have zZ := hb7.size; clear B5 hown hbx g0 g1 g2 g3 gf; have B5 := D5; have yb := B5.lt; have g0 := B5.cell (o := 0) rfl; have g1 := B5.cell (o := 1) rfl; have g2 := B5.cell (o := 2) rfl; have g3 := B5.cell (o := 3) rfl; have gf := B5.free; have hown := hdh hownZ; have hbx := hbZ; have hnx : n ≤ w7.heap.size := (by omega); clear D5 hownZ hbZ zZ hb7))
       have E5 := B5.set 1 (.int .i64 (q2 : Nat)); have e5 := E5.cell (o := 1) rfl; go_roundw
       case rel =>
        refine ⟨q2, hfit2, by omega, hdh E5, hdh hto2.out, hdh ?_, hbx.setCell (p := ⟨b, 1, none⟩) nb _, by simpa using hnx⟩; exact own_other hown.out (fun g hg => fun e => hno.out (by rw [hg]; exact congrArg some e)) _
       case measure =>
        rw [e5, mq.out]
        show s.size - (Int.toNat (q2 : Nat)) < s.size - (Int.toNat (q : Nat))
        simp
        omega
      | false =>
       rw [hmk] at M1 hstop
       have hqE : q = E := by rw [hto2]; exact (hstop (by simp)).symm
       subst hqE; clear hstep hstop hto hto2 hmk
       go_wp2_with (first
        | (go_at_call 201; (with_reducible refine cmm (C1 _) fun w6 hb6 => ?_); have D5 := B5.below hb6 yb; have hownZ := ownsRow_below hown.out hb6 lrr; have hbZ := hbx.trans (hb6.mono hnx); have zZ := hb6.size; clear B5 hown hbx g0 g1 g2 g3 gf; have B5 := D5; have yb := B5.lt; have g0 := B5.cell (o := 0) rfl; have g1 := B5.cell (o := 1) rfl; have g2 := B5.cell (o := 2) rfl; have g3 := B5.cell (o := 3) rfl; have gf := B5.free; have hown := hdh hownZ; have hbx := hbZ; have hnx : n ≤ w6.heap.size := (by omega); clear D5 hownZ hbZ zZ hb6)
        | (go_at_call 206; (with_reducible refine (O2 _).mono ?_); rintro e w8 ⟨rfl, rfl⟩)
        | (go_at_call 202; (with_reducible refine cmm (M1 _) fun w7 hb7 => ?_); have D5 := B5.below hb7 yb; have hownZ := ownsRow_below hown.out hb7 lrr; have hbZ := hbx.trans (hb7.mono hnx); have zZ := hb7.size; clear B5 hown hbx g0 g1 g2 g3 gf; have B5 := D5; have yb := B5.lt; have g0 := B5.cell (o := 0) rfl; have g1 := B5.cell (o := 1) rfl; have g2 := B5.cell (o := 2) rfl; have g3 := B5.cell (o := 3) rfl; have gf := B5.free; have hown := hdh hownZ; have hbx := hbZ; have hnx : n ≤ w7.heap.size := (by omega); clear D5 hownZ hbZ zZ hb7)
        | (at_builtin; refine wpList_append_own _ rfl _ _ _ rfl n 237 iP _ 4 32 Tryz.underlying233 hi0 hz0 hz1 hz2 rfl (by omega) _ row.length _ (by rfl) (hown.out.alloc _) ⟨w7.heap.size, 0, none⟩ 1 1 [.int .i64 p, .int .i64 q, .int .i32 r, .int .i64 Z] (by rfl) rfl (cells_new w7 [.int .i64 p, .int .i64 q, .int .i32 r, .int .i64 Z] 237) (by intro u hu; simp only [List.mem_cons, List.not_mem_nil, or_false] at hu; rcases hu with rfl | rfl | rfl | rfl <;> rfl) (by unfold maxLen; omega) (by omega) (by simp; omega) ?_; intro v3 w3 hown3 hgr3 _; have E3 := (B5.alloc _).keep hgr3 hno; have e1 := E3.cell (o := 1) rfl; replace hown3 := hdh hown3; replace hgr3 := hdh hgr3; clear E3))
       have hgr4 := hgr3.out; have z3 := hgr4.size; rw [World.size_alloc] at z3; go_roundw
       case rel =>
        refine ⟨q, row ++ [⟨p, q, r, Z⟩], by omega, rfl, hdh ?_, hdh (by rw [List.append_assoc]; exact hgo2.out), ((hbx.alloc (by omega) _).grown hgr4 (by simp; omega) (fun g hg => by have := (hown.out.lt g hg).1; omega)), by simp; omega, by omega⟩; have := hown3.out; unfold OwnsP
        simpa [Pc.enc] using this
       case measure => simp [intOf]; omega
     ·have hqi : ¬ (q : Int) < s.size := by omega
      have hqE : q = E := by have := hto.out; rw [this]; exact (markEnd_stop (fun h => c2 h.1)).symm
      subst hqE; clear hto
      go_wp2_with (first
       | (go_at_call 201; (with_reducible refine cmm (C1 _) fun w6 hb6 => ?_); have D5 := B5.below hb6 yb; have hownZ := ownsRow_below hown.out hb6 lrr; have hbZ := hbx.trans (hb6.mono hnx); have zZ := hb6.size; clear B5 hown hbx g0 g1 g2 g3 gf; have B5 := D5; have yb := B5.lt; have g0 := B5.cell (o := 0) rfl; have g1 := B5.cell (o := 1) rfl; have g2 := B5.cell (o := 2) rfl; have g3 := B5.cell (o := 3) rfl; have gf := B5.free; have hown := hdh hownZ; have hbx := hbZ; have hnx : n ≤ w6.heap.size := (by omega); clear D5 hownZ hbZ zZ hb6)
       | (at_builtin; refine wpList_append_own _ rfl _ _ _ rfl n 237 iP _ 4 32 Tryz.underlying233 hi0 hz0 hz1 hz2 rfl (by omega) _ row.length _ (by rfl) (hown.out.alloc _) ⟨w6.heap.size, 0, none⟩ 1 1 [.int .i64 p, .int .i64 q, .int .i32 r, .int .i64 Z] (by rfl) rfl (cells_new w6 [.int .i64 p, .int .i64 q, .int .i32 r, .int .i64 Z] 237) (by intro u hu; simp only [List.mem_cons, List.not_mem_nil, or_false] at hu; rcases hu with rfl | rfl | rfl | rfl <;> rfl) (by unfold maxLen; omega) (by omega) (by simp; omega) ?_; intro v3 w3 hown3 hgr3 _; have E3 := (B5.alloc _).keep hgr3 hno; have e1 := E3.cell (o := 1) rfl; replace hown3 := hdh hown3; replace hgr3 := hdh hgr3; clear E3))
      have hgr4 := hgr3.out; have z3 := hgr4.size; rw [World.size_alloc] at z3; go_roundw
      case rel =>
       refine ⟨q, row ++ [⟨p, q, r, Z⟩], by omega, rfl, hdh ?_, hdh (by rw [List.append_assoc]; exact hgo2.out), ((hbx.alloc (by omega) _).grown hgr4 (by simp; omega) (fun g hg => by have := (hown.out.lt g hg).1; omega)), by simp; omega, by omega⟩; have := hown3.out; unfold OwnsP
       simpa [Pc.enc] using this
      case measure => simp [intOf]; omega
  ·have hci : ¬ (p : Int) < s.size := by omega
   have hg := hgo.out; rw [pcsAt_end c, List.append_nil] at hg; subst hg; go_wp2; go_ret; exact ⟨hbr, _, rfl, hown.out⟩
end Go.Proofs.YtfcphagmjijmkaaGreatDoor
