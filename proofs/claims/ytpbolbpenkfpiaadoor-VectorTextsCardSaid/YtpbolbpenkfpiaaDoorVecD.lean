/-
  Escape, by both.
-/
import Derived.Test.YtpbolbpenkfpiaaDoorVecC
namespace Go.Proofs.YtpbolbpenkfpiaaDoor
open Go.RowKit
set_option linter.unusedVariables false
attribute [local go_sem] vwp vUpon_value vUpon_skip vUpon_enter vUpon_row
set_option linter.unusedSimpArgs false
set_option linter.unusedVariables false
def escB (c : UInt8) : List UInt8 := if stB c.toNat then [c] else [38, hxU (c.toNat / 16), hxU (c.toNat % 16), 59]
def escL (l : List UInt8) : List UInt8 := l.flatMap escB
def escS (s : ByteArray) : ByteArray := ⟨(escL s.data.toList).toArray⟩
theorem escB_len (c : UInt8) : (escB c).length ≤ 4 := by unfold escB; split <;> simp
theorem escL_len (l : List UInt8) : (escL l).length ≤ 4 * l.length := by
  induction l with
  | nil => simp [escL]
  | cons c l ih =>
    have h := escB_len c
    have e : escL (c :: l) = escB c ++ escL l := by simp [escL]
    rw [e, List.length_append, List.length_cons]
    omega
theorem take_snoc (s : ByteArray) (k : Nat) (h : k < s.size) : s.data.toList.take (k + 1) = s.data.toList.take k ++ [s[k]] := by
  rw [List.take_succ_eq_append_getElem (by simpa using h)]; rfl
theorem escL_snoc (s : ByteArray) (k : Nat) (h : k < s.size) : escL (s.data.toList.take (k + 1)) = escL (s.data.toList.take k) ++ escB s[k] := by
  rw [take_snoc s k h]
  simp [escL]
abbrev IsB (B b : Nat) (l : List UInt8) (w : World) : Prop := Lib.IsBuilderF 46 5 B b (Lib.byteCells l) w
theorem isB_below {B b : Nat} {l : List UInt8} {w w' : World} {C : Nat} (h : IsB B b l w) (hb : Below C w w') (hC : w.heap.size ≤ C) : IsB B b l w' := by
  have key : ∀ p, Lib.BuilderAtF 46 5 B b p (Lib.byteCells l) w → Lib.BuilderAtF 46 5 B b p (Lib.byteCells l) w' := by
    rintro p ⟨hB, v, hk, hown, hne⟩
    have hlt : b < w.heap.size := by
      rcases Nat.lt_or_ge b w.heap.size with h1 | h1
      · exact h1
      · rw [Array.getElem?_eq_none h1] at hk; cases hk
    refine ⟨hB, v, by rw [hb.block b (by omega)]; exact hk, ?_, hne⟩
    obtain ⟨o1, o2⟩ := hown
    refine ⟨o1, ?_⟩
    rcases o2 with o2 | ⟨g, cap, cur, fz, hv, hg, hh, r⟩
    · exact .inl o2
    · have hgl : g < w.heap.size := by
        rcases Nat.lt_or_ge g w.heap.size with h1 | h1
        · exact h1
        · rw [Array.getElem?_eq_none h1] at hh; cases hh
      exact .inr ⟨g, cap, cur, fz, hv, hg, by rw [hb.block g (by omega)]; exact hh, r⟩
  exact h.elim (fun x => .inl (key _ x)) (fun x => .inr (key _ x))
theorem bytes_snocB (l : List UInt8) (c : UInt8) : Lib.byteCells l ++ [.int .u8 (c.toNat : Int)] = Lib.byteCells (l ++ [c]) := by simp [Lib.byteCells]
theorem bytes_snocS (l m : List UInt8) : Lib.byteCells l ++ Lib.strCells ⟨m.toArray⟩ = Lib.byteCells (l ++ m) := by simp [Lib.byteCells, Lib.strCells]
theorem bytes_len (l : List UInt8) : (Lib.byteCells l).length = l.length := by simp [Lib.byteCells]
theorem shr4 (n : Nat) (h : n < 256) : n >>> 4 = n / 16 := by rw [Nat.shiftRight_eq_div_pow]
set_option maxHeartbeats 1000000 in
set_option maxRecDepth 100000 in
theorem vescape_any (s : ByteArray) (w : World) (hs : s.size ≤ 100000) : Calls Tryd.prog 8 #[.string s] w fun e w' => e = .returned (.string (escS s)) ∧ Below w.heap.size w w' := by
  have hfin : escS s = ⟨(escL (s.data.toList.take s.size)).toArray⟩ := by
    unfold escS
    rw [List.take_of_length_le (by show s.data.toList.length ≤ _; simp)]
  rw [hfin]
  clear hfin
  go_enter Tryd.func8, Tryd.ntmps8
  go_wp2
  go_loopw [7] (fun iv wr => ∃ k : Nat, k ≤ s.size ∧ iv = .int .i64 k ∧ IsB w.heap.size w.heap.size (escL (s.data.toList.take k)) wr ∧ Below w.heap.size w wr) (fun iv _ => s.size - (intOf iv).toNat)
  case atStart => exact ⟨0, Nat.zero_le _, rfl, Lib.IsBuilderF.of (Lib.fresh_isBuilder _ _ _), (by repeat (first | exact Below.refl _ _ | assumption | refine Below.drew ?_ | refine Below.alloc ?_ (by (try simp) <;> omega) _ | refine Below.setCell ?_ (by (try simp) <;> omega) _))⟩
  case round =>
    obtain ⟨k, hk, rfl, hib, hbr⟩ := hrel
    have zr := hbr.size
    by_cases hkn : k < s.size
    · have hu : U8 (s[k].toNat : Int) := ⟨by omega, by have := s[k].toNat_lt; omega⟩
      have P := fun w => vplain_any (s[k].toNat : Int) w hu
      have hsn := escL_snoc s k hkn
      have hl := escL_len (s.data.toList.take k)
      have htk : (s.data.toList.take k).length ≤ k := List.length_take_le _ _
      have hlen : (Lib.byteCells (escL (s.data.toList.take k))).length ≤ 400000 := by rw [bytes_len]; omega
      obtain ⟨bb, hbb⟩ : ∃ bb, stB (s[k].toNat : Int) = bb := ⟨_, rfl⟩
      rw [hbb] at P
      unfold escB at hsn
      rw [hbb] at hsn
      clear hbb hl htk
      replace P := Lib.hid P
      replace hsn := Lib.hid hsn
      replace hib := Lib.hid hib
      cases bb
      · obtain ⟨q, hq⟩ : ∃ q, s[k].toNat / 16 = q := ⟨_, rfl⟩
        obtain ⟨m, hm⟩ : ∃ q, s[k].toNat % 16 = q := ⟨_, rfl⟩
        have hc := s[k].toNat_lt
        have hq16 : q < 16 := by omega
        have hm16 : m < 16 := by omega
        have x0 := ex_one q hq16
        have x1 := ex_one m hm16
        have hsn' := hsn.out
        rw [hq, hm] at hsn'
        have hsn2 := Lib.hid hsn'
        have e1 : (s[k].toNat : Int) / 16 = q := by omega
        have e2 : (s[k].toNat : Int) % 16 = m := by omega
        have e3 : ((q : Int) + 1) % 256 = q + 1 := by omega
        have e4 : ((m : Int) + 1) % 256 = m + 1 := by omega
        have e5 : (q + 1) % 256 = q + 1 := by omega
        have e6 : (m + 1) % 256 = m + 1 := by omega
        have i0 : (q : Int) + 1 ≤ 16 := by omega
        have i1 : (m : Int) + 1 ≤ 16 := by omega
        have i2 : (q : Int) ≤ q + 1 := by omega
        have i3 : (m : Int) ≤ m + 1 := by omega
        have i4 : (0 : Int) ≤ (q : Int) + 1 := by omega
        have i5 : (0 : Int) ≤ (m : Int) + 1 := by omega
        clear hsn hsn' hc
        go_wp2_with (first
          | (go_at_call 23; (with_reducible refine (P.out _).mono ?_); rintro e w1 ⟨rfl, rfl⟩)
          | go_in)
        refine wp_region_steady_then (Held wr 0 []) 23 (by kernel_rfl) (by kernel_rfl) (by decide) (by kernel_rfl) (by kernel_rfl) ⟨(by repeat (first | exact Below.refl _ _ | assumption | refine Below.drew ?_ | refine Below.alloc ?_ (by (try simp) <;> omega) _ | refine Below.setCell ?_ (by (try simp) <;> omega) _ | (refine Below.trans ?_ (Below.mono (by assumption) (by (try simp) <;> omega))))), (by (try simp) <;> omega), (by first | exact trivial | (simp only [Cells]; go_simp))⟩ ?_
        simp only [List.take_succ_cons, List.take_zero]
        repeat (first | (refine' wpSteady_do _ _ _; rotate_left; (focus rfl); (focus (intro w1 hS R hR; have hc := hS.cells; simp only [Cells] at hc; obtain ⟨hco, hfo⟩ := bcell hS.old; go_simp; (try go_bits); (try (rw [if_neg (by omega)]; go_simp)); first | exact hR _ hS | fail)); simp only [Act.put, List.setIfInBounds_toArray, List.set_cons_zero, List.set_cons_succ]) | (refine wpSteady_pass ?_ ?_; (focus rfl); simp only [Act.put, List.setIfInBounds_toArray, List.set_cons_zero, List.set_cons_succ]))
        refine wpSteady_nil (fun uA hSA => ?_)
        have hcA := hSA.cells; have hbA := hSA.old; have hzA := hSA.size; clear hSA; simp only [Cells] at hcA; obtain ⟨hcoA, hfoA⟩ := bcell hbA
        simp only [List.drop_succ_cons, List.drop_zero, List.drop_nil]
        have hibA := Lib.hid (isB_below hib.out hbA (Nat.le_refl _))
        have W := fun x h => YtpbolbpenkfpiaaDoor.bwriteS w.heap.size w.heap.size (Lib.byteCells (escL (s.data.toList.take k))) x uA hibA.out h (by omega)
        replace W := Lib.hid W
        go_wp2_with fail
        refine (W.out _ (by simp only [ByteArray.size_append]; show _ + 4 ≤ _; omega)).mono ?_
        rintro e w1 ⟨rfl, hi1, hb1, _⟩
        have hi2 : IsB w.heap.size w.heap.size (escL (s.data.toList.take (k + 1))) w1 := .inr (by rw [hsn2.out]; simpa [Lib.byteCells, Lib.strCells] using hi1)
        replace hi2 := Lib.hid hi2
        have hbw1 := Lib.hid ((hbr.trans (hbA.mono zr)).trans hb1)
        clear hi1 hb1
        go_wp2
        go_roundw
        case rel => exact ⟨k + 1, by omega, by go_num, hi2.out, hbw1.out⟩
        case measure => simp [intOf]; omega
      · have W := YtpbolbpenkfpiaaDoor.bwriteB w.heap.size w.heap.size (Lib.byteCells (escL (s.data.toList.take k))) (s[k].toNat : Int) wr hib.out (by omega) zr
        replace W := Lib.hid W
        go_wp2_with (first
          | (go_at_call 23; (with_reducible refine (P.out _).mono ?_); rintro e w1 ⟨rfl, rfl⟩)
          | (go_at_call 27; (with_reducible refine (W.out).mono ?_); rintro e w1 ⟨rfl, hi1, hb1, _⟩)
          | go_in)
        rw [bytes_snocB] at hi1
        have hi2 : IsB w.heap.size w.heap.size (escL (s.data.toList.take (k + 1))) w1 := by
          have := hsn.out
          simp only [if_true] at this
          rw [this]
          exact .inr hi1
        replace hi2 := Lib.hid hi2
        clear hi1
        go_roundw
        case rel => exact ⟨k + 1, by omega, by go_num, hi2.out, hbr.trans hb1⟩
        case measure => simp [intOf]; omega
    · obtain rfl : k = s.size := by omega
      have S := Tryd.Builder_String_any_k w.heap.size w.heap.size _ wr hib zr
      replace S := Lib.hid S
      clear hib
      go_wp2_with (first
        | (go_at_call 17; (with_reducible refine (S.out).mono ?_); rintro e w1 ⟨rfl, _, hb1, _⟩)
        | go_in)
      go_ret
      exact ⟨rfl, hbr.trans hb1⟩
end Go.Proofs.YtpbolbpenkfpiaaDoor
