/-
  Numbers as texts: strconv.Itoa, the document's number.
-/
import Derived.Test.YtpbolbpenkfpiaaDoorBuild
import Derived.Test.YtpbolbpenkfpiaaDoorOwn
import Derived.Lib.AppendIntMem
import Derived.Lib.LaidTab
import Derived.Lib.Hide
import Derived.Laws.Runes
import Derived.IntWalk
namespace Go.Proofs.YtpbolbpenkfpiaaDoor
open Go.RowKit
set_option linter.unusedVariables false
attribute [local go_sem] vwp vUpon_value vUpon_skip vUpon_enter vUpon_row
set_option linter.unusedSimpArgs false
def numS (n : Int) : ByteArray := ⟨(Lib.itoa n).toArray⟩
/-- The library's table of powers of ten lies in this world. -/
def DigT (w : World) : Prop := Lib.TabIs Tryd.prog w "internal/strconv.uint64pow10" .u64 Lib.pow10Tab
theorem DigT.below {w w' : World} {B : Nat} (h : DigT w) (hb : Below B w w') (hB : w.heap.size ≤ B) : DigT w' := by
  unfold DigT Lib.TabIs World.var? at *
  cases hg : Tryd.prog.globalNamed "internal/strconv.uint64pow10" with
  | none => rw [hg] at h; cases h
  | some g =>
    rw [hg] at h
    simp only [Option.bind_some] at h ⊢
    have hlt : g < w.heap.size := by
      rcases Nat.lt_or_ge g w.heap.size with h1 | h1
      · exact h1
      · rw [Array.getElem?_eq_none h1] at h; cases h
    rw [hb.block g (by omega)]
    exact h
theorem itoa_any (n : Int) (w : World) (ht : DigT w) (h0 : -9223372036854775808 ≤ n) (h1 : n ≤ 9223372036854775807) : Calls Tryd.prog 14 #[.int .i64 n] w fun e w' => e = .returned (.string (numS n)) ∧ Below w.heap.size w w' :=
  (Tryd.strconv_Itoa n h0 h1 w ht).mono fun _ _ ⟨he, k, os, hw⟩ => ⟨he, hw ▸ Lib.below_grow _ _ (Nat.le_refl _) _ _⟩
theorem dec_step (u : Nat) (h : 10 ≤ u) : Lib.decDigits u = Lib.decDigits (u / 10) ++ [UInt8.ofNat (48 + u % 10)] := by
  rw [Lib.decDigits, dif_neg (by omega)]
theorem dec_one (u : Nat) (h : u < 10) : Lib.decDigits u = [UInt8.ofNat (48 + u)] := by
  rw [Lib.decDigits, dif_pos h]
/-- A text out of its bytes. -/
def str (l : List UInt8) : ByteArray := ⟨l.toArray⟩
theorem str_app (a b : List UInt8) : (⟨a.toArray⟩ : ByteArray) ++ ⟨b.toArray⟩ = ⟨(a ++ b).toArray⟩ := by
  rw [ByteArray.ext_iff, ByteArray.data_append]
  simp
theorem num_neg (u : Nat) (h : 0 < u) : numS (-(u : Int)) = ⟨#[45]⟩ ++ numS u := by
  unfold numS Lib.itoa
  rw [if_pos (by omega), if_neg (by omega)]
  have : (-(u : Int)).natAbs = u := by omega
  rw [this, Int.toNat_natCast]
  exact (str_app [45] (Lib.decDigits u)).symm
theorem num_nat (u : Nat) : numS u = ⟨(Lib.decDigits u).toArray⟩ := by
  unfold numS Lib.itoa
  rw [if_neg (by omega), Int.toNat_natCast]
theorem dec_len : ∀ (k u : Nat), u < 10 ^ (k + 1) → (Lib.decDigits u).length ≤ k + 1
  | 0, u, h => by rw [dec_one u (by omega)]; simp
  | k + 1, u, h => by
    by_cases hs : u < 10
    · rw [dec_one u hs]; simp
    · rw [dec_step u (by omega), List.length_append]
      have := dec_len k (u / 10) (by rw [Nat.pow_succ] at h; omega)
      simp
      omega
theorem num_size {n : Int} (h0 : -1000000000 ≤ n) (h1 : n ≤ 1000000000) : (numS n).size ≤ 11 := by
  show (Lib.itoa n).toArray.size ≤ 11
  have h2 := dec_len 9 n.natAbs (by omega)
  have h3 := dec_len 9 n.toNat (by omega)
  unfold Lib.itoa
  split <;> simp <;> omega
theorem enc_digit (d : Nat) (h : d < 10) : Utf8.encode (48 + (d : Int)) = ⟨#[UInt8.ofNat (48 + d)]⟩ := by
  have key : ∀ d ∈ List.range 10, Utf8.encode (48 + (d : Int)) = ⟨#[UInt8.ofNat (48 + d)]⟩ := by decide
  exact key d (List.mem_range.2 h)
set_option maxRecDepth 100000 in
theorem number_nat : ∀ (k u : Nat) (w : World), u < k → u ≤ 1000000000 → Calls Tryd.prog 21 #[.int .i64 u] w fun e w' => e = .returned (.string (numS u)) ∧ w = w'
  | 0, u, w, h, _ => absurd h (by omega)
  | k + 1, u, w, h, hu => by
    have IH0 := fun w => number_nat k (u / 10) w
    obtain ⟨a, ha⟩ : ∃ a : Int, (u : Int) = a := ⟨_, rfl⟩
    obtain ⟨d, hd⟩ : ∃ d : Int, a % 10 = d := ⟨_, rfl⟩
    obtain ⟨q, hq⟩ : ∃ q : Int, a / 10 = q := ⟨_, rfl⟩
    obtain ⟨c, hc⟩ : ∃ c, UInt8.ofNat (48 + u % 10) = c := ⟨_, rfl⟩
    have E : Utf8.encode (48 + d) = ⟨#[c]⟩ := by
      have := enc_digit (u % 10) (by omega)
      rw [show ((u % 10 : Nat) : Int) = d by omega, hc] at this
      exact this
    have g0 : 0 ≤ a := by omega
    have g1 : a ≤ 1000000000 := by omega
    have d0 : 0 ≤ d := by omega
    have f1 : decide (a ≤ -10) = false := by simp; omega
    have f2 : decide (a < 0) = false := by simp; omega
    have d1 : d ≤ 9 := by omega
    by_cases hs : u < 10
    · have en : numS u = ⟨#[c]⟩ := by rw [num_nat, dec_one u hs, ← hc, Nat.mod_eq_of_lt hs]
      rw [en, ha]
      have hs1 : ¬ (10 : Int) ≤ a := by omega
      clear en IH0 h hu hs ha hq hc
      go_enter Tryd.func21, Tryd.ntmps21
      go_wp2
      go_ret
      exact ⟨rfl, rfl⟩
    · have IH := fun w => IH0 w (by omega) (by omega)
      have hs1 : (10 : Int) ≤ a := by omega
      rw [show ((u / 10 : Nat) : Int) = q by omega] at IH
      have en : numS u = numS (u / 10 : Nat) ++ ⟨#[c]⟩ := by
        rw [num_nat, num_nat, dec_step u (by omega), hc]
        exact (str_app _ [_]).symm
      rw [en, ha]
      obtain ⟨S, hS⟩ : ∃ S, numS ((u / 10 : Nat) : Int) = S := ⟨_, rfl⟩
      rw [show ((u / 10 : Nat) : Int) = q by omega] at hS
      rw [show ((u / 10 : Nat) : Int) = q by omega]
      have z1 : S.size ≤ 11 := by rw [← hS]; exact num_size (by omega) (by omega)
      rw [hS] at IH ⊢
      clear IH0 h hu hs ha en hS hc
      replace IH := Lib.hid IH
      go_enter Tryd.func21, Tryd.ntmps21
      go_wp2_with (first
        | (go_at_call 21; (with_reducible refine (IH.out _).mono ?_); rintro e w1 ⟨rfl, rfl⟩)
        | go_in)
      go_ret
      exact ⟨rfl, rfl⟩
set_option maxRecDepth 100000 in
theorem number_any (n : Int) (w : World) (h0 : -1000000000 ≤ n) (h1 : n ≤ 1000000000) : Calls Tryd.prog 21 #[.int .i64 n] w fun e w' => e = .returned (.string (numS n)) ∧ w = w' := by
  by_cases hn : 0 ≤ n
  · obtain ⟨u, rfl⟩ := Int.eq_ofNat_of_zero_le hn
    exact number_nat (u + 1) u w (by omega) (by omega)
  · obtain ⟨u, hu⟩ : ∃ u : Nat, n = -(u : Int) := ⟨n.natAbs, by omega⟩
    have en : numS n = ⟨#[45]⟩ ++ numS u := by rw [hu]; exact num_neg u (by omega)
    by_cases hs : u < 10
    · have N := fun w => number_nat (u + 1) u w (by omega) (by omega)
      obtain ⟨S, hS⟩ : ∃ S, numS (u : Int) = S := ⟨_, rfl⟩
      rw [en]
      have e1 : -n = (u : Int) := by omega
      rw [← e1] at N hS
      rw [← e1]
      have z1 : S.size ≤ 11 := by rw [← hS]; exact num_size (by omega) (by omega)
      rw [hS] at N ⊢
      have n1 : decide (n ≤ -10) = false := by simp; omega
      have n2 : decide (n < 0) = true := by simp; omega
      have n3 : -9 ≤ n := by omega
      clear en hS hu hs e1 hn
      replace N := Lib.hid N
      go_enter Tryd.func21, Tryd.ntmps21
      go_wp2_with (first
        | (go_at_call 21; (with_reducible refine (N.out _).mono ?_); rintro e w1 ⟨rfl, rfl⟩)
        | go_in)
      go_ret
      exact ⟨rfl, rfl⟩
    · have N1 := fun w => number_nat (u + 1) (u / 10) w (by omega) (by omega)
      have N2 := fun w => number_nat (u + 1) (u % 10) w (by omega) (by omega)
      have e1 : ((u / 10 : Nat) : Int) = -(n.tdiv 10) := by rw [hu, Int.neg_tdiv, Int.neg_neg]; rfl
      have e2 : ((u % 10 : Nat) : Int) = -(n.tmod 10) := by rw [hu, Int.neg_tmod, Int.neg_neg]; rfl
      have eu : numS u = numS (u / 10 : Nat) ++ numS (u % 10 : Nat) := by
        rw [num_nat, num_nat, num_nat, dec_step u (by omega), dec_one (u % 10) (by omega)]
        exact (str_app _ [_]).symm
      rw [en, eu, ← ByteArray.append_assoc]
      obtain ⟨S1, hS1⟩ : ∃ S, numS ((u / 10 : Nat) : Int) = S := ⟨_, rfl⟩
      obtain ⟨S2, hS2⟩ : ∃ S, numS ((u % 10 : Nat) : Int) = S := ⟨_, rfl⟩
      have z1 : S1.size ≤ 11 := by rw [← hS1]; exact num_size (by omega) (by omega)
      have z2 : S2.size ≤ 11 := by rw [← hS2]; exact num_size (by omega) (by omega)
      rw [hS1] at N1 ⊢
      rw [hS2] at N2 ⊢
      rw [e1] at N1
      rw [e2] at N2
      have n1 : decide (n ≤ -10) = true := by simp; omega
      have n3 : -1000000000 ≤ n := by omega
      have n4 : n ≤ -10 := by omega
      have b1 : 0 ≤ -(n.tdiv 10) := by rw [← e1]; omega
      have b2 : -(n.tdiv 10) ≤ 1000000000 := by rw [← e1]; omega
      have b3 : 0 ≤ -(n.tmod 10) := by rw [← e2]; omega
      have b4 : -(n.tmod 10) ≤ 9 := by rw [← e2]; omega
      obtain ⟨q, hq⟩ : ∃ q, n.tdiv 10 = q := ⟨_, rfl⟩
      obtain ⟨r, hr⟩ : ∃ q, n.tmod 10 = q := ⟨_, rfl⟩
      rw [hq] at N1 b1 b2
      rw [hr] at N2 b3 b4
      clear en eu e1 e2 hS1 hS2 hu hs hn
      replace N1 := Lib.hid N1
      replace N2 := Lib.hid N2
      have c1 : q ≤ 0 := by omega
      have c2 : -1000000000 ≤ q := by omega
      have c3 : r ≤ 0 := by omega
      have c4 : -9 ≤ r := by omega
      clear b1 b2 b3 b4
      go_enter Tryd.func21, Tryd.ntmps21
      go_wp2_with (first
        | (go_at_call 21; (with_reducible refine (N1.out _).mono ?_); rintro e w1 ⟨rfl, rfl⟩)
        | (go_at_call 21; (with_reducible refine (N2.out _).mono ?_); rintro e w1 ⟨rfl, rfl⟩)
        | go_in)
      go_ret
      exact ⟨rfl, rfl⟩
end Go.Proofs.YtpbolbpenkfpiaaDoor
