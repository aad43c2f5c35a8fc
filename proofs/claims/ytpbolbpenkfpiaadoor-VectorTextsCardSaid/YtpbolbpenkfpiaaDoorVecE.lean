/-
  The document's Escape.
-/
import Derived.Test.YtpbolbpenkfpiaaDoorVecD
import Derived.Lib.AppendStr
namespace Go.Proofs.YtpbolbpenkfpiaaDoor
open Go.RowKit
set_option linter.unusedVariables false
attribute [local go_sem] vwp vUpon_value vUpon_skip vUpon_enter vUpon_row
set_option linter.unusedSimpArgs false
set_option linter.unusedVariables false
def OwnsY (base : Nat) (w : World) (v : Value) (l : List UInt8) : Prop := w.ownsRow base 5 1 v l.length (Lib.byteCells l)
theorem OwnsY.below {base B : Nat} {w w' : World} {v : Value} {l : List UInt8} (h : OwnsY base w v l) (hb : Below B w w') (hB : w.heap.size ≤ B) : OwnsY base w' v l := ownsRow_below h hb hB
theorem conv_zero (w : World) (p : Option Addr) (c : Nat) : (convert 44 9 (.slice p 0 c)).run Tryd.prog w = .ok (.string ⟨#[]⟩) w := by
  rw [run_convert_bytes_string w _ _ 5 _ 0 c Tryd.underlying44 Tryd.underlying5 Tryd.underlying9]
  cases p <;> simp [Conv.bytesToString, loadCells]
  all_goals rfl
theorem vB_bytes (l : List UInt8) : vB (l.map fun b => (b.toNat : Int)) = Lib.byteCells l := by simp [vB, Lib.byteCells]
theorem own_textY {base : Nat} {w : World} {v : Value} {l : List UInt8} (h : OwnsY base w v l) : (convert 44 9 v).run Tryd.prog w = .ok (.string ⟨l.toArray⟩) w := by
  cases l with
  | nil =>
    rcases h.2 with ⟨rfl, _⟩ | ⟨g, cap, cur, rfl, _⟩
    · exact conv_zero w none 0
    · exact conv_zero w (some ⟨g, 0, none⟩) cap
  | cons c l =>
    obtain ⟨g, cap, _, he⟩ := own_text (l := ((c :: l).map fun b => (b.toNat : Int))) (v := v) (n := (c :: l).length) (base := base) (w := w) (by rw [vB_bytes]; exact h) (by simp)
    rw [he]
    have hm : ∀ m : List UInt8, m.map ((fun n : Int => UInt8.ofNat n.toNat) ∘ fun b : UInt8 => (b.toNat : Int)) = m := by
      intro m
      induction m with
      | nil => rfl
      | cons b m ih => simpa using ih
    have : strOfNums ((c :: l).map fun b => (b.toNat : Int)) = ⟨(c :: l).toArray⟩ := by
      unfold strOfNums
      rw [List.map_map, hm]
    rw [this]
set_option maxHeartbeats 1000000 in
set_option maxRecDepth 100000 in
theorem kescape_any (s : ByteArray) (w : World) (hs : s.size ≤ 100000) : Calls Tryd.prog 9 #[.string s] w fun e w' => e = .returned (.string (escS s)) ∧ Below w.heap.size w w' := by
  obtain ⟨iB, hi0, hz0, hz1, hz2⟩ := info_parts infoB
  have hfin : escS s = ⟨(escL (s.data.toList.take s.size)).toArray⟩ := by
    unfold escS
    rw [List.take_of_length_le (by show s.data.toList.length ≤ _; simp)]
  rw [hfin]
  clear hfin
  go_enter Tryd.func9, Tryd.ntmps9
  go_wp2
  go_loopw [3, 4] (fun ov iv wr => ∃ k : Nat, k ≤ s.size ∧ iv = .int .i64 k ∧ OwnsY w.heap.size wr ov (escL (s.data.toList.take k)) ∧ Below w.heap.size w wr) (fun _ iv _ => s.size - (intOf iv).toNat)
  case atStart => exact ⟨0, Nat.zero_le _, rfl, World.ownsRow_nil _ _ _ _, (by repeat (first | exact Below.refl _ _ | assumption | refine Below.drew ?_ | refine Below.alloc ?_ (by (try simp) <;> omega) _ | refine Below.setCell ?_ (by (try simp) <;> omega) _))⟩
  case round =>
    obtain ⟨k, hk, rfl, hown, hbr⟩ := hrel
    have zr := hbr.size
    by_cases hkn : k < s.size
    · have hu : U8 (s[k].toNat : Int) := ⟨by omega, by have := s[k].toNat_lt; omega⟩
      have P := fun w => stands_any (s[k].toNat : Int) w hu
      have hsn := escL_snoc s k hkn
      have hl := escL_len (s.data.toList.take k)
      have htk : (s.data.toList.take k).length ≤ k := List.length_take_le _ _
      have hlen : (escL (s.data.toList.take k)).length ≤ 400000 := by omega
      obtain ⟨bb, hbb⟩ : ∃ bb, stB (s[k].toNat : Int) = bb := ⟨_, rfl⟩
      rw [hbb] at P
      unfold escB at hsn
      rw [hbb] at hsn
      clear hbb hl htk
      obtain ⟨N, hN⟩ : ∃ N, (escL (s.data.toList.take k)).length = N := ⟨_, rfl⟩
      unfold OwnsY at hown
      rw [hN] at hown hlen
      replace P := Lib.hid P
      replace hsn := Lib.hid hsn
      replace hown := Lib.hid hown
      replace hN := Lib.hid hN
      cases bb
      · obtain ⟨q, hq⟩ : ∃ q, s[k].toNat / 16 = q := ⟨_, rfl⟩
        obtain ⟨m, hm⟩ : ∃ q, s[k].toNat % 16 = q := ⟨_, rfl⟩
        have hc := s[k].toNat_lt
        have hq16 : q < 16 := by omega
        have hm16 : m < 16 := by omega
        have hsn' := hsn.out
        rw [hq, hm] at hsn'
        have hsn2 := Lib.hid hsn'
        have e1 : (s[k].toNat : Int) / 16 = q := by omega
        have e2 : (s[k].toNat : Int) % 16 = m := by omega
        have X1 := fun w => sixteen_any q w hq16
        have X2 := fun w => sixteen_any m w hm16
        replace X1 := Lib.hid X1
        replace X2 := Lib.hid X2
        clear hsn hsn' hc
        go_wp2_with (first
          | (go_at_call 25; (with_reducible refine (P.out _).mono ?_); rintro e w1 ⟨rfl, rfl⟩)
          | go_in)
        refine wp_region_steady_then (Held wr 0 []) 16 (by kernel_rfl) (by kernel_rfl) (by decide) (by kernel_rfl) (by kernel_rfl) ⟨(by repeat (first | exact Below.refl _ _ | assumption | refine Below.drew ?_ | refine Below.alloc ?_ (by (try simp) <;> omega) _ | refine Below.setCell ?_ (by (try simp) <;> omega) _ | (refine Below.trans ?_ (Below.mono (by assumption) (by (try simp) <;> omega))))), (by (try simp) <;> omega), (by first | exact trivial | (simp only [Cells]; go_simp))⟩ ?_
        simp only [List.take_succ_cons, List.take_zero]
        repeat (first | (refine' wpSteady_do _ _ _; rotate_left; (focus rfl); (focus (intro w1 hS R hR; have hc := hS.cells; simp only [Cells] at hc; obtain ⟨hco, hfo⟩ := bcell hS.old; go_simp; (try go_bits); (try (rw [if_neg (by omega)]; go_simp)); first | exact hR _ hS | (go_at_call 28; (with_reducible refine (X1.out _).mono ?_); rintro e w2 ⟨rfl, rfl⟩; exact ⟨_, rfl, hR _ hS⟩) | (go_at_call 28; (with_reducible refine (X2.out _).mono ?_); rintro e w2 ⟨rfl, rfl⟩; exact ⟨_, rfl, hR _ hS⟩))); simp only [Act.put, List.setIfInBounds_toArray, List.set_cons_zero, List.set_cons_succ]) | (refine wpSteady_pass ?_ ?_; (focus rfl); simp only [Act.put, List.setIfInBounds_toArray, List.set_cons_zero, List.set_cons_succ]))
        refine wpSteady_nil (fun uA hSA => ?_)
        have hcA := hSA.cells; have hbA := hSA.old; have hzA := hSA.size; clear hSA; simp only [Cells] at hcA; obtain ⟨hcoA, hfoA⟩ := bcell hbA
        simp only [List.drop_succ_cons, List.drop_zero, List.drop_nil]
        have hownA := Lib.hid (ownsRow_below hown.out hbA (Nat.le_refl _))
        go_wp2_with (first
          | (at_builtin; refine Lib.wpList_append_own_string uA rfl _ _ _ _ rfl w.heap.size 5 iB Tryd.underlying44 Tryd.underlying9 hi0 hz0 hz1 hz2 _ _ _ (by rfl) hownA.out _ (by rfl) (by unfold maxLen; simp only [ByteArray.size_append]; show _ + 4 ≤ _; omega) (by simp only [ByteArray.size_append]; show _ + 4 ≤ _; omega) (by omega) ?_; intro v6 w6 hown6 hgr6 _)
          | go_in)
        have hlt6 := hownA.out.lt
        have hb6 : Below w.heap.size uA w6 := (Below.refl _ _).grown hgr6 (by omega) (fun g hg => (hlt6 g hg).1)
        have hi2 : OwnsY w.heap.size w6 v6 (escL (s.data.toList.take (k + 1))) := by
          rw [hsn2.out]
          unfold OwnsY
          simp only [Bool.false_eq_true, if_false]
          rw [List.length_append, hN.out]
          have hown7 : w6.ownsRow w.heap.size 5 1 v6 (N + 4) _ := hown6
          simpa [Lib.byteCells, Lib.strCells] using hown7
        replace hi2 := Lib.hid hi2
        have hbw6 := Lib.hid ((hbr.trans (hbA.mono zr)).trans hb6)
        clear hown6 hgr6 hlt6 hb6
        go_wp2
        go_roundw
        case rel => exact ⟨k + 1, by omega, by go_num, hi2.out, hbw6.out⟩
        case measure => simp [intOf]; omega
      · go_wp2_with (first
          | (go_at_call 25; (with_reducible refine (P.out _).mono ?_); rintro e w1 ⟨rfl, rfl⟩)
          | (at_builtin; refine wpList_append_new rfl _ _ _ rfl w.heap.size 5 iB _ 1 1 Tryd.underlying44 hi0 hz0 hz1 hz2 rfl (by omega) wr 1 _ _ _ _ (by rfl) hown.out (by rfl) rfl (by simp [Value.oneCell']) (by omega) (by unfold maxLen; omega) zr ?_; intro v6 w6 hown6 hb6)
          | go_in)
        have hi2 : OwnsY w.heap.size w6 v6 (escL (s.data.toList.take (k + 1))) := by
          have := hsn.out
          simp only [if_true] at this
          rw [this]
          unfold OwnsY
          rw [bytes_snocB] at hown6
          rw [List.length_append, hN.out]
          exact hown6
        replace hi2 := Lib.hid hi2
        clear hown6
        go_wp2
        go_roundw
        case rel => exact ⟨k + 1, by omega, by go_num, hi2.out, hbr.trans hb6⟩
        case measure => simp [intOf]; omega
    · obtain rfl : k = s.size := by omega
      have S := own_textY hown
      replace hown := Lib.hid hown
      go_wp2
      go_ret
      exact ⟨rfl, hbr⟩
end Go.Proofs.YtpbolbpenkfpiaaDoor
