/-
  The law MotionLists walked.
-/
import Derived.Test.YtblneabjdbllbaaMotLU
namespace Go.Proofs.Ytblneabjdbllbaa
open Go.RowKit
set_option linter.unusedVariables false
attribute [local go_sem] vwp vUpon_value vUpon_skip vUpon_enter vUpon_row
set_option linter.unusedSimpArgs false
set_option maxHeartbeats 4000000 in
set_option maxRecDepth 100000 in
theorem walk_MotionLists (ms : List Mo) (v : Value) (t : Int) (w : World) (hl : Lst w v ms) (hw : ∀ m ∈ ms, Wf m) (ht : I64 t) :
    Calls Try.prog 7 #[v, .int .i64 t] w fun e w' => e = .returned (.bool true) ∧ Below w.heap.size w w' := by
  obtain ⟨iI, hi0, hm0, hm1, hm2⟩ := info_parts infoI
  have hlh := Lib.hid hl
  obtain ⟨s, cap, rfl, hmax⟩ := lst_slice' hl
  clear hl
  by_cases h1 : (100 : Int) < ms.length ∧ (ms.length : Int) ≤ 4096
  · have p1 : decide ((100 : Int) < ms.length) = true := by simpa using h1.1
    have p2 : decide ((ms.length : Int) ≤ 4096) = true := by simpa using h1.2
    clear h1
    go_enter Try.func7, Try.ntmps7
    go_wp2_with (go_at_call 9; (with_reducible refine (alive_any _).mono ?_); rintro e w1 ⟨rfl, hb1⟩; obtain ⟨hc1, hf1⟩ := bcell hb1; have hz1 := hb1.size; (try simp at hz1); (try have lt1 : w.heap.size < w1.heap.size := (by omega)))
    go_ret
    exact ⟨rfl, hb1⟩
  by_cases h2 : (6000 : Int) < ms.length
  · have p1 : decide ((100 : Int) < ms.length) = true := by simp; omega
    have p2 : decide ((ms.length : Int) ≤ 4096) = false := by simp; omega
    have p3 : decide ((6000 : Int) < ms.length) = true := by simpa using h2
    clear h1
    go_enter Try.func7, Try.ntmps7
    go_wp2_with (go_at_call 9; (with_reducible refine (alive_any _).mono ?_); rintro e w1 ⟨rfl, hb1⟩; obtain ⟨hc1, hf1⟩ := bcell hb1; have hz1 := hb1.size; (try simp at hz1); (try have lt1 : w.heap.size < w1.heap.size := (by omega)))
    go_ret
    exact ⟨rfl, hb1⟩
  have p3 : decide ((6000 : Int) < ms.length) = false := by simpa using h2
  have hmany : ms.length ≤ 6000 := by omega
  have pp : decide ((100 : Int) < ms.length) = false ∨ (decide ((100 : Int) < ms.length) = true ∧ decide ((ms.length : Int) ≤ 4096) = false) := by
    by_cases h : (100 : Int) < ms.length
    · exact .inr ⟨by simpa using h, by simp; omega⟩
    · exact .inl (by simpa using h)
  have hL4 := xs_le ms t
  have hL2 := xs_len ms t
  clear h1 h2
  replace hL2 := Lib.hid hL2
  rcases pp with p1 | ⟨p1, p2⟩
  · go_enter Try.func7, Try.ntmps7
    go_wp2_with (go_at_call 9; (with_reducible refine (alive_any _).mono ?_); rintro e w1 ⟨rfl, hb1⟩; obtain ⟨hc1, hf1⟩ := bcell hb1; have hz1 := hb1.size; (try simp at hz1); (try have lt1 : w.heap.size < w1.heap.size := (by omega)))
    clear hc1 hf1
    go_at_call 20
    refine (lent_any ms _ _ (hlh.out.below hb1) hmany).mono ?_
    rintro e w2 ⟨hb2, g, cap2, rfl, hg, hle⟩
    have hb02 : Below w.heap.size w w2 := hb1.trans (hb2.mono hb1.size)
    have hz02 := hb02.size
    clear hb1 hb2 hz1
    replace hle := Lib.hid hle
    go_wp2_with fail
    go_at_call 18
    refine (all_u ms _ t _ hle.out.2.2.2.1 hw ht).mono ?_
    rintro e w3 ⟨hb3, v1, v2, rfl, hap, o1, o2⟩
    have q1 := own_lt o1
    have q2 := own_lt o2
    have z3 := hb3.size
    obtain ⟨s1, c1, rfl⟩ := own_slice o1
    obtain ⟨s2, c2, rfl⟩ := own_slice o2
    replace q1 := Lib.hid q1
    replace q2 := Lib.hid q2
    replace o1 := Lib.hid o1
    replace o2 := Lib.hid o2
    replace hap := Lib.hid hap
    go_wp2_with fail
    go_at_call 19
    refine (next_any ms _ t _ (hle.out.2.2.2.1.below hb3) hw ht).mono ?_
    intro e w4 h4
    obtain ⟨hb4, na, nb, rfl, hA⟩ := next_uu h4
    have z4 := hb4.size
    have hb24 := hb3.trans (hb4.mono z3)
    replace hA := Lib.hid hA
    clear h4
    go_wp2_with fail
    go_at_call 21
    refine (rall_u ms _ t _ (hlh.out.below (hb02.trans (hb24.mono hz02))) hw ht).mono ?_
    rintro e w5 ⟨hb5, u1, u2, rfl, o3, o4⟩
    have z5 := hb5.size
    have hb25 := hb24.trans (hb5.mono (Nat.le_trans z3 z4))
    replace o3 := Lib.hid o3
    replace o4 := Lib.hid o4
    go_wp2_with fail
    go_at_call 22
    refine (rNext_any ms _ t _ (hlh.out.below (hb02.trans (hb25.mono hz02))) hw ht).mono ?_
    intro e w6 h6
    obtain ⟨hb6, na', nb', rfl, hA'⟩ := next_uu h6
    clear h6
    obtain ⟨rfl, rfl⟩ := hA.out.one hw hA'
    have z6 := hb6.size
    have hb36 : Below w3.heap.size w3 w6 := (hb4.trans (hb5.mono z4)).trans (hb6.mono (by omega))
    have f1 := ints_of_own (ownsRow_below o1.out hb36 (Nat.le_refl _)) rfl
    have f2 := ints_of_own (ownsRow_below o2.out hb36 (Nat.le_refl _)) hL2.out.symm
    have f3 := ints_of_own (ownsRow_below o3.out hb6 (Nat.le_refl _)) rfl
    have f4 := ints_of_own (ownsRow_below o4.out hb6 (Nat.le_refl _)) hL2.out.symm
    replace f1 := Lib.hid f1
    replace f2 := Lib.hid f2
    replace f3 := Lib.hid f3
    replace f4 := Lib.hid f4
    clear hA hA'
    go_wp2_with fail
    go_at_call 23
    refine (alike_same (xs1 ms t) _ _ _ f1.out f3.out).mono ?_
    rintro e w7 ⟨rfl, hb7⟩
    have z7 := hb7.size
    go_wp2_with fail
    go_at_call 23
    refine (alike_same (xs2 ms t) _ _ _ (f2.out.below hb7) (f4.out.below hb7)).mono ?_
    rintro e w8 ⟨rfl, hb8⟩
    have z8 := hb8.size
    have hb28 : Below w2.heap.size w2 w8 := ((hb25.trans (hb6.mono (by omega))).trans (hb7.mono (by omega))).trans (hb8.mono (by omega))
    clear f1 f2 f3 f4
    go_wp2_with fail
    go_at_call 18
    refine (all_u ms _ t _ (hle.out.2.2.2.1.below hb28) hw ht).mono ?_
    rintro e w9 ⟨hb9, y1, y2, rfl, _, o5, o6⟩
    have z9 := hb9.size
    have hb29 : Below w2.heap.size w2 w9 := hb28.trans (hb9.mono (by omega))
    have hb59 : Below w5.heap.size w5 w9 := ((hb6.trans (hb7.mono z6)).trans (hb8.mono (by omega))).trans (hb9.mono (by omega))
    have hb39 : Below w3.heap.size w3 w9 := hb36.trans (((hb7.trans (hb8.mono z7)).trans (hb9.mono (by omega))).mono (by omega))
    replace o1 := Lib.hid (ownsRow_below o1.out hb39 (Nat.le_refl _))
    replace o2 := Lib.hid (ownsRow_below o2.out hb39 (Nat.le_refl _))
    replace o3 := Lib.hid (ownsRow_below o3.out hb59 (Nat.le_refl _))
    replace o4 := Lib.hid (ownsRow_below o4.out hb59 (Nat.le_refl _))
    replace o5 := Lib.hid o5
    replace o6 := Lib.hid o6
    clear hb3 hb4 hb24 hb5 hb25 hb6 hb36 hb7 hb8 hb28 hb9 hb59 hb39
    go_wp2_with fail
    go_loopw [23] (fun i wr => ∃ (k : Nat) (X1 X2 : List Value), k ≤ (xs1 ms t).length ∧ i = .int .i64 k ∧ wr.ownsRow w2.heap.size 3 1 (.slice s1 (xs1 ms t).length c1) (xs1 ms t).length X1 ∧ wr.ownsRow w2.heap.size 3 1 (.slice s2 (xs1 ms t).length c2) (xs1 ms t).length X2 ∧ Mid w2.heap.size w3.heap.size w9 wr) (fun i _ => (xs1 ms t).length - (intOf i).toNat)
    case atStart => exact ⟨0, _, _, Nat.zero_le _, rfl, o1.out, o2.out, Mid.refl _ _ _⟩
    case round =>
      obtain ⟨k, X1, X2, hk, rfl, r1, r2, hmid⟩ := hrel
      by_cases hkn : k < (xs1 ms t).length
      · obtain ⟨g1, cap', e, hg1, hg2, hg3, hg4, hcell⟩ := own_open r1 (by omega)
        simp at e
        obtain ⟨rfl, rfl⟩ := e
        have hxl := r1.1
        have hc := hcell k _ (List.getElem?_eq_getElem (by omega))
        obtain ⟨hc1, hc2⟩ := hc
        generalize X1[k]'(by omega) = old at hc1
        have hkk : (k : Int) < ((xs1 ms t).length : Int) := by omega
        obtain ⟨Y, hY⟩ := own_set r1 hkn (.int .i64 (-9))
        have r2' := ownsRow_setCell_other r2 (a := ⟨g1, k, none⟩) (by exact hap.out g1 rfl) (.int .i64 (-9))
        have hmid' := hmid.setCell (a := ⟨g1, k, none⟩) hg1 (q1.out g1 rfl) (.int .i64 (-9))
        replace hY := Lib.hid hY
        replace r2' := Lib.hid r2'
        replace hmid' := Lib.hid hmid'
        clear hcell hxl r1 r2 hmid
        go_wp2
        go_roundw
        case rel => exact ⟨k + 1, _, _, by omega, by go_num, hY.out, r2'.out, hmid'.out⟩
        case measure => simp [intOf]; omega
      · obtain rfl : k = (xs1 ms t).length := by omega
        replace r1 := Lib.hid r1
        replace r2 := Lib.hid r2
        replace hmid := Lib.hid hmid
        clear hkn
        go_wp2
        go_loopw [24] (fun i wr => ∃ (k : Nat) (X1 X2 : List Value), k ≤ (xs1 ms t).length ∧ i = .int .i64 k ∧ wr.ownsRow w2.heap.size 3 1 (.slice s1 (xs1 ms t).length c1) (xs1 ms t).length X1 ∧ wr.ownsRow w2.heap.size 3 1 (.slice s2 (xs1 ms t).length c2) (xs1 ms t).length X2 ∧ Mid w2.heap.size w3.heap.size w9 wr) (fun i _ => (xs1 ms t).length - (intOf i).toNat)
        case atStart => exact ⟨0, _, _, Nat.zero_le _, rfl, r1.out, r2.out, hmid.out⟩
        case round =>
          clear r1 r2 hmid
          obtain ⟨k, X1, X2, hk, rfl, r1, r2, hmid⟩ := hrel
          by_cases hkn : k < (xs1 ms t).length
          · obtain ⟨g1, cap', e, hg1, hg2, hg3, hg4, hcell⟩ := own_open r2 (by omega)
            simp at e
            obtain ⟨rfl, rfl⟩ := e
            have hxl := r2.1
            have hc := hcell k _ (List.getElem?_eq_getElem (by omega))
            obtain ⟨hc1, hc2⟩ := hc
            generalize X2[k]'(by omega) = old at hc1
            have hkk : (k : Int) < ((xs1 ms t).length : Int) := by omega
            obtain ⟨Y, hY⟩ := own_set r2 hkn (.int .i64 (-8))
            have r2' := ownsRow_setCell_other r1 (a := ⟨g1, k, none⟩) (fun h => hap.out g1 h rfl) (.int .i64 (-8))
            have hmid' := hmid.setCell (a := ⟨g1, k, none⟩) hg1 (q2.out g1 rfl) (.int .i64 (-8))
            replace hY := Lib.hid hY
            replace r2' := Lib.hid r2'
            replace hmid' := Lib.hid hmid'
            clear hcell hxl r1 r2 hmid
            go_wp2
            go_roundw
            case rel => exact ⟨k + 1, _, _, by omega, by go_num, r2'.out, hY.out, hmid'.out⟩
            case measure => simp [intOf]; omega
          · obtain rfl : k = (xs1 ms t).length := by omega
            replace r1 := Lib.hid r1
            replace r2 := Lib.hid r2
            replace hmid := Lib.hid hmid
            clear hkn
            go_wp2
            go_loopw [7, 8, 25] (fun a1 a2 i wr => ∃ (k : Nat) (X1 X2 : List Value), k ≤ 9 ∧ i = .int .i64 k ∧ wr.ownsRow w2.heap.size 3 1 a1 ((xs1 ms t).length + k) X1 ∧ wr.ownsRow w2.heap.size 3 1 a2 ((xs1 ms t).length + k) X2 ∧ (∀ g, a1.ownBlock = some g → a2.ownBlock ≠ some g) ∧ (∀ g, a1.ownBlock = some g → g < w3.heap.size ∨ w9.heap.size ≤ g) ∧ (∀ g, a2.ownBlock = some g → g < w3.heap.size ∨ w9.heap.size ≤ g) ∧ Mid w2.heap.size w3.heap.size w9 wr) (fun _ _ i _ => 9 - (intOf i).toNat)
            case atStart => exact ⟨0, _, _, Nat.zero_le _, rfl, r1.out, r2.out, hap.out, (fun g h => .inl (q1.out g h)), (fun g h => .inl (q2.out g h)), hmid.out⟩
            case round =>
              clear r1 r2 hmid
              obtain ⟨k, X1, X2, hk, rfl, r1, r2, hap2, b1, b2, hmid⟩ := hrel
              have zr := hmid.size
              by_cases hkn : k < 9
              · have hkk : (k : Int) < 9 := by omega
                have z2 : w2.heap.size ≤ wr.heap.size := by omega
                obtain ⟨s5, c5, rfl⟩ := own_slice r1
                obtain ⟨s6, c6, rfl⟩ := own_slice r2
                replace b1 := Lib.hid b1
                replace b2 := Lib.hid b2
                replace hmid := Lib.hid hmid
                go_wp2_with (first
                  | (at_builtin; refine wpList_append_two rfl _ _ _ rfl w2.heap.size 3 iI _ 1 8 Try.underlying36 hi0 hm0 hm1 hm2 rfl (by omega) wr 1 _ _ _ _ (by rfl) r1 (by rfl) rfl (by simp [Value.oneCell']) (by omega) (by unfold maxLen; omega) z2 ?_; intro v10 w10 hown10 hgr10 hat10 hb10)
                  | (at_builtin; refine wpList_append_two rfl _ _ _ rfl w2.heap.size 3 iI _ 1 8 Try.underlying36 hi0 hm0 hm1 hm2 rfl (by omega) w10 1 _ _ _ _ (by rfl) (own_keep r2 hgr10 (fun g h1 h2 => hap2 g h2 h1)) (by rfl) rfl (by simp [Value.oneCell']) (by omega) (by unfold maxLen; omega) (Nat.le_trans z2 hgr10.size) ?_; intro v11 w11 hown11 hgr11 hat11 hb11)
                  | go_in)
                have k1 := own_keep hown10 hgr11 (fun g h1 h2 => by
                  rcases hat10 g h1 with h3 | h3
                  · exact hap2 g h3 h2
                  · have := own_lt r2 g h2; omega)
                have hlt10 := own_lt hown10
                have hap8 : ∀ g, v10.ownBlock = some g → v11.ownBlock ≠ some g := fun g h1 h2 => by
                  rcases hat11 g h2 with h3 | h3
                  · rcases hat10 g h1 with h4 | h4
                    · exact hap2 g h4 h3
                    · have := own_lt r2 g h3; omega
                  · have := hlt10 g h1; omega
                have m8 := (hmid.out.grown hgr10 (fun g h => ⟨(r1.lt g h).1, b1.out g h⟩)).grown hgr11 (fun g h => ⟨(r2.lt g h).1, b2.out g h⟩)
                have b1' : ∀ g, v10.ownBlock = some g → g < w3.heap.size ∨ w9.heap.size ≤ g := fun g h => by
                  rcases hat10 g h with h3 | h3
                  · exact b1.out g h3
                  · exact .inr (by omega)
                have zz := hgr10.size
                have b2' : ∀ g, v11.ownBlock = some g → g < w3.heap.size ∨ w9.heap.size ≤ g := fun g h => by
                  rcases hat11 g h with h3 | h3
                  · exact b2.out g h3
                  · exact .inr (by omega)
                replace k1 := Lib.hid k1
                replace hown11 := Lib.hid hown11
                replace hap8 := Lib.hid hap8
                replace m8 := Lib.hid m8
                replace b1' := Lib.hid b1'
                replace b2' := Lib.hid b2'
                clear hgr10 hgr11 hat10 hat11 hlt10 hown10 hap2
                go_wp2
                go_roundw
                case rel => exact ⟨k + 1, _, _, by omega, by go_num, k1.out, hown11.out, hap8.out, b1'.out, b2'.out, m8.out⟩
                case measure => simp [intOf]; omega
              · obtain rfl : k = 9 := by omega
                have e1 := ints_of_own (own_mid o5.out hmid (by omega)) rfl
                have e2 := ints_of_own (own_mid o6.out hmid (by omega)) hL2.out.symm
                have e3 := ints_of_own (own_mid o3.out hmid (by omega)) rfl
                have e4 := ints_of_own (own_mid o4.out hmid (by omega)) hL2.out.symm
                have hb2r : Below w2.heap.size w2 wr := hb29.trans (hmid.toBelow (by omega))
                replace e1 := Lib.hid e1
                replace e2 := Lib.hid e2
                replace e3 := Lib.hid e3
                replace e4 := Lib.hid e4
                clear r1 r2 hap2 b1 b2 hmid hkn
                go_wp2_with fail
                go_at_call 23
                refine (alike_same (xs1 ms t) _ _ _ e1.out e3.out).mono ?_
                rintro e w12 ⟨rfl, hb12⟩
                go_wp2_with fail
                go_at_call 23
                refine (alike_same (xs2 ms t) _ _ _ (e2.out.below hb12) (e4.out.below hb12)).mono ?_
                rintro e w13 ⟨rfl, hb13⟩
                have hb2s : Below w2.heap.size w2 w13 := (hb2r.trans (hb12.mono (by have := hb2r.size; omega))).trans (hb13.mono (by have := hb2r.size; have := hb12.size; omega))
                have hb0s : Below w.heap.size w w13 := hb02.trans (hb2s.mono hb02.size)
                have hz0s := hb0s.size
                go_wp2_with fail
                go_at_call 24
                refine (kept_any ms _ _ g cap2 (hle.out.below hb2s) (hlh.out.below hb0s)).mono ?_
                rintro e w14 ⟨rfl, hb14⟩
                go_wp2
                go_ret
                exact ⟨rfl, hb0s.trans (hb14.mono hz0s)⟩
  · go_enter Try.func7, Try.ntmps7
    go_wp2_with (go_at_call 9; (with_reducible refine (alive_any _).mono ?_); rintro e w1 ⟨rfl, hb1⟩; obtain ⟨hc1, hf1⟩ := bcell hb1; have hz1 := hb1.size; (try simp at hz1); (try have lt1 : w.heap.size < w1.heap.size := (by omega)))
    clear hc1 hf1
    go_at_call 20
    refine (lent_any ms _ _ (hlh.out.below hb1) hmany).mono ?_
    rintro e w2 ⟨hb2, g, cap2, rfl, hg, hle⟩
    have hb02 : Below w.heap.size w w2 := hb1.trans (hb2.mono hb1.size)
    have hz02 := hb02.size
    clear hb1 hb2 hz1
    replace hle := Lib.hid hle
    go_wp2_with fail
    go_at_call 18
    refine (all_u ms _ t _ hle.out.2.2.2.1 hw ht).mono ?_
    rintro e w3 ⟨hb3, v1, v2, rfl, hap, o1, o2⟩
    have q1 := own_lt o1
    have q2 := own_lt o2
    have z3 := hb3.size
    obtain ⟨s1, c1, rfl⟩ := own_slice o1
    obtain ⟨s2, c2, rfl⟩ := own_slice o2
    replace q1 := Lib.hid q1
    replace q2 := Lib.hid q2
    replace o1 := Lib.hid o1
    replace o2 := Lib.hid o2
    replace hap := Lib.hid hap
    go_wp2_with fail
    go_at_call 19
    refine (next_any ms _ t _ (hle.out.2.2.2.1.below hb3) hw ht).mono ?_
    intro e w4 h4
    obtain ⟨hb4, na, nb, rfl, hA⟩ := next_uu h4
    have z4 := hb4.size
    have hb24 := hb3.trans (hb4.mono z3)
    replace hA := Lib.hid hA
    clear h4
    go_wp2_with fail
    go_at_call 21
    refine (rall_u ms _ t _ (hlh.out.below (hb02.trans (hb24.mono hz02))) hw ht).mono ?_
    rintro e w5 ⟨hb5, u1, u2, rfl, o3, o4⟩
    have z5 := hb5.size
    have hb25 := hb24.trans (hb5.mono (Nat.le_trans z3 z4))
    replace o3 := Lib.hid o3
    replace o4 := Lib.hid o4
    go_wp2_with fail
    go_at_call 22
    refine (rNext_any ms _ t _ (hlh.out.below (hb02.trans (hb25.mono hz02))) hw ht).mono ?_
    intro e w6 h6
    obtain ⟨hb6, na', nb', rfl, hA'⟩ := next_uu h6
    clear h6
    obtain ⟨rfl, rfl⟩ := hA.out.one hw hA'
    have z6 := hb6.size
    have hb36 : Below w3.heap.size w3 w6 := (hb4.trans (hb5.mono z4)).trans (hb6.mono (by omega))
    have f1 := ints_of_own (ownsRow_below o1.out hb36 (Nat.le_refl _)) rfl
    have f2 := ints_of_own (ownsRow_below o2.out hb36 (Nat.le_refl _)) hL2.out.symm
    have f3 := ints_of_own (ownsRow_below o3.out hb6 (Nat.le_refl _)) rfl
    have f4 := ints_of_own (ownsRow_below o4.out hb6 (Nat.le_refl _)) hL2.out.symm
    replace f1 := Lib.hid f1
    replace f2 := Lib.hid f2
    replace f3 := Lib.hid f3
    replace f4 := Lib.hid f4
    clear hA hA'
    go_wp2_with fail
    go_at_call 23
    refine (alike_same (xs1 ms t) _ _ _ f1.out f3.out).mono ?_
    rintro e w7 ⟨rfl, hb7⟩
    have z7 := hb7.size
    go_wp2_with fail
    go_at_call 23
    refine (alike_same (xs2 ms t) _ _ _ (f2.out.below hb7) (f4.out.below hb7)).mono ?_
    rintro e w8 ⟨rfl, hb8⟩
    have z8 := hb8.size
    have hb28 : Below w2.heap.size w2 w8 := ((hb25.trans (hb6.mono (by omega))).trans (hb7.mono (by omega))).trans (hb8.mono (by omega))
    clear f1 f2 f3 f4
    go_wp2_with fail
    go_at_call 18
    refine (all_u ms _ t _ (hle.out.2.2.2.1.below hb28) hw ht).mono ?_
    rintro e w9 ⟨hb9, y1, y2, rfl, _, o5, o6⟩
    have z9 := hb9.size
    have hb29 : Below w2.heap.size w2 w9 := hb28.trans (hb9.mono (by omega))
    have hb59 : Below w5.heap.size w5 w9 := ((hb6.trans (hb7.mono z6)).trans (hb8.mono (by omega))).trans (hb9.mono (by omega))
    have hb39 : Below w3.heap.size w3 w9 := hb36.trans (((hb7.trans (hb8.mono z7)).trans (hb9.mono (by omega))).mono (by omega))
    replace o1 := Lib.hid (ownsRow_below o1.out hb39 (Nat.le_refl _))
    replace o2 := Lib.hid (ownsRow_below o2.out hb39 (Nat.le_refl _))
    replace o3 := Lib.hid (ownsRow_below o3.out hb59 (Nat.le_refl _))
    replace o4 := Lib.hid (ownsRow_below o4.out hb59 (Nat.le_refl _))
    replace o5 := Lib.hid o5
    replace o6 := Lib.hid o6
    clear hb3 hb4 hb24 hb5 hb25 hb6 hb36 hb7 hb8 hb28 hb9 hb59 hb39
    go_wp2_with fail
    go_loopw [23] (fun i wr => ∃ (k : Nat) (X1 X2 : List Value), k ≤ (xs1 ms t).length ∧ i = .int .i64 k ∧ wr.ownsRow w2.heap.size 3 1 (.slice s1 (xs1 ms t).length c1) (xs1 ms t).length X1 ∧ wr.ownsRow w2.heap.size 3 1 (.slice s2 (xs1 ms t).length c2) (xs1 ms t).length X2 ∧ Mid w2.heap.size w3.heap.size w9 wr) (fun i _ => (xs1 ms t).length - (intOf i).toNat)
    case atStart => exact ⟨0, _, _, Nat.zero_le _, rfl, o1.out, o2.out, Mid.refl _ _ _⟩
    case round =>
      obtain ⟨k, X1, X2, hk, rfl, r1, r2, hmid⟩ := hrel
      by_cases hkn : k < (xs1 ms t).length
      · obtain ⟨g1, cap', e, hg1, hg2, hg3, hg4, hcell⟩ := own_open r1 (by omega)
        simp at e
        obtain ⟨rfl, rfl⟩ := e
        have hxl := r1.1
        have hc := hcell k _ (List.getElem?_eq_getElem (by omega))
        obtain ⟨hc1, hc2⟩ := hc
        generalize X1[k]'(by omega) = old at hc1
        have hkk : (k : Int) < ((xs1 ms t).length : Int) := by omega
        obtain ⟨Y, hY⟩ := own_set r1 hkn (.int .i64 (-9))
        have r2' := ownsRow_setCell_other r2 (a := ⟨g1, k, none⟩) (by exact hap.out g1 rfl) (.int .i64 (-9))
        have hmid' := hmid.setCell (a := ⟨g1, k, none⟩) hg1 (q1.out g1 rfl) (.int .i64 (-9))
        replace hY := Lib.hid hY
        replace r2' := Lib.hid r2'
        replace hmid' := Lib.hid hmid'
        clear hcell hxl r1 r2 hmid
        go_wp2
        go_roundw
        case rel => exact ⟨k + 1, _, _, by omega, by go_num, hY.out, r2'.out, hmid'.out⟩
        case measure => simp [intOf]; omega
      · obtain rfl : k = (xs1 ms t).length := by omega
        replace r1 := Lib.hid r1
        replace r2 := Lib.hid r2
        replace hmid := Lib.hid hmid
        clear hkn
        go_wp2
        go_loopw [24] (fun i wr => ∃ (k : Nat) (X1 X2 : List Value), k ≤ (xs1 ms t).length ∧ i = .int .i64 k ∧ wr.ownsRow w2.heap.size 3 1 (.slice s1 (xs1 ms t).length c1) (xs1 ms t).length X1 ∧ wr.ownsRow w2.heap.size 3 1 (.slice s2 (xs1 ms t).length c2) (xs1 ms t).length X2 ∧ Mid w2.heap.size w3.heap.size w9 wr) (fun i _ => (xs1 ms t).length - (intOf i).toNat)
        case atStart => exact ⟨0, _, _, Nat.zero_le _, rfl, r1.out, r2.out, hmid.out⟩
        case round =>
          clear r1 r2 hmid
          obtain ⟨k, X1, X2, hk, rfl, r1, r2, hmid⟩ := hrel
          by_cases hkn : k < (xs1 ms t).length
          · obtain ⟨g1, cap', e, hg1, hg2, hg3, hg4, hcell⟩ := own_open r2 (by omega)
            simp at e
            obtain ⟨rfl, rfl⟩ := e
            have hxl := r2.1
            have hc := hcell k _ (List.getElem?_eq_getElem (by omega))
            obtain ⟨hc1, hc2⟩ := hc
            generalize X2[k]'(by omega) = old at hc1
            have hkk : (k : Int) < ((xs1 ms t).length : Int) := by omega
            obtain ⟨Y, hY⟩ := own_set r2 hkn (.int .i64 (-8))
            have r2' := ownsRow_setCell_other r1 (a := ⟨g1, k, none⟩) (fun h => hap.out g1 h rfl) (.int .i64 (-8))
            have hmid' := hmid.setCell (a := ⟨g1, k, none⟩) hg1 (q2.out g1 rfl) (.int .i64 (-8))
            replace hY := Lib.hid hY
            replace r2' := Lib.hid r2'
            replace hmid' := Lib.hid hmid'
            clear hcell hxl r1 r2 hmid
            go_wp2
            go_roundw
            case rel => exact ⟨k + 1, _, _, by omega, by go_num, r2'.out, hY.out, hmid'.out⟩
            case measure => simp [intOf]; omega
          · obtain rfl : k = (xs1 ms t).length := by omega
            replace r1 := Lib.hid r1
            replace r2 := Lib.hid r2
            replace hmid := Lib.hid hmid
            clear hkn
            go_wp2
            go_loopw [7, 8, 25] (fun a1 a2 i wr => ∃ (k : Nat) (X1 X2 : List Value), k ≤ 9 ∧ i = .int .i64 k ∧ wr.ownsRow w2.heap.size 3 1 a1 ((xs1 ms t).length + k) X1 ∧ wr.ownsRow w2.heap.size 3 1 a2 ((xs1 ms t).length + k) X2 ∧ (∀ g, a1.ownBlock = some g → a2.ownBlock ≠ some g) ∧ (∀ g, a1.ownBlock = some g → g < w3.heap.size ∨ w9.heap.size ≤ g) ∧ (∀ g, a2.ownBlock = some g → g < w3.heap.size ∨ w9.heap.size ≤ g) ∧ Mid w2.heap.size w3.heap.size w9 wr) (fun _ _ i _ => 9 - (intOf i).toNat)
            case atStart => exact ⟨0, _, _, Nat.zero_le _, rfl, r1.out, r2.out, hap.out, (fun g h => .inl (q1.out g h)), (fun g h => .inl (q2.out g h)), hmid.out⟩
            case round =>
              clear r1 r2 hmid
              obtain ⟨k, X1, X2, hk, rfl, r1, r2, hap2, b1, b2, hmid⟩ := hrel
              have zr := hmid.size
              by_cases hkn : k < 9
              · have hkk : (k : Int) < 9 := by omega
                have z2 : w2.heap.size ≤ wr.heap.size := by omega
                obtain ⟨s5, c5, rfl⟩ := own_slice r1
                obtain ⟨s6, c6, rfl⟩ := own_slice r2
                replace b1 := Lib.hid b1
                replace b2 := Lib.hid b2
                replace hmid := Lib.hid hmid
                go_wp2_with (first
                  | (at_builtin; refine wpList_append_two rfl _ _ _ rfl w2.heap.size 3 iI _ 1 8 Try.underlying36 hi0 hm0 hm1 hm2 rfl (by omega) wr 1 _ _ _ _ (by rfl) r1 (by rfl) rfl (by simp [Value.oneCell']) (by omega) (by unfold maxLen; omega) z2 ?_; intro v10 w10 hown10 hgr10 hat10 hb10)
                  | (at_builtin; refine wpList_append_two rfl _ _ _ rfl w2.heap.size 3 iI _ 1 8 Try.underlying36 hi0 hm0 hm1 hm2 rfl (by omega) w10 1 _ _ _ _ (by rfl) (own_keep r2 hgr10 (fun g h1 h2 => hap2 g h2 h1)) (by rfl) rfl (by simp [Value.oneCell']) (by omega) (by unfold maxLen; omega) (Nat.le_trans z2 hgr10.size) ?_; intro v11 w11 hown11 hgr11 hat11 hb11)
                  | go_in)
                have k1 := own_keep hown10 hgr11 (fun g h1 h2 => by
                  rcases hat10 g h1 with h3 | h3
                  · exact hap2 g h3 h2
                  · have := own_lt r2 g h2; omega)
                have hlt10 := own_lt hown10
                have hap8 : ∀ g, v10.ownBlock = some g → v11.ownBlock ≠ some g := fun g h1 h2 => by
                  rcases hat11 g h2 with h3 | h3
                  · rcases hat10 g h1 with h4 | h4
                    · exact hap2 g h4 h3
                    · have := own_lt r2 g h3; omega
                  · have := hlt10 g h1; omega
                have m8 := (hmid.out.grown hgr10 (fun g h => ⟨(r1.lt g h).1, b1.out g h⟩)).grown hgr11 (fun g h => ⟨(r2.lt g h).1, b2.out g h⟩)
                have b1' : ∀ g, v10.ownBlock = some g → g < w3.heap.size ∨ w9.heap.size ≤ g := fun g h => by
                  rcases hat10 g h with h3 | h3
                  · exact b1.out g h3
                  · exact .inr (by omega)
                have zz := hgr10.size
                have b2' : ∀ g, v11.ownBlock = some g → g < w3.heap.size ∨ w9.heap.size ≤ g := fun g h => by
                  rcases hat11 g h with h3 | h3
                  · exact b2.out g h3
                  · exact .inr (by omega)
                replace k1 := Lib.hid k1
                replace hown11 := Lib.hid hown11
                replace hap8 := Lib.hid hap8
                replace m8 := Lib.hid m8
                replace b1' := Lib.hid b1'
                replace b2' := Lib.hid b2'
                clear hgr10 hgr11 hat10 hat11 hlt10 hown10 hap2
                go_wp2
                go_roundw
                case rel => exact ⟨k + 1, _, _, by omega, by go_num, k1.out, hown11.out, hap8.out, b1'.out, b2'.out, m8.out⟩
                case measure => simp [intOf]; omega
              · obtain rfl : k = 9 := by omega
                have e1 := ints_of_own (own_mid o5.out hmid (by omega)) rfl
                have e2 := ints_of_own (own_mid o6.out hmid (by omega)) hL2.out.symm
                have e3 := ints_of_own (own_mid o3.out hmid (by omega)) rfl
                have e4 := ints_of_own (own_mid o4.out hmid (by omega)) hL2.out.symm
                have hb2r : Below w2.heap.size w2 wr := hb29.trans (hmid.toBelow (by omega))
                replace e1 := Lib.hid e1
                replace e2 := Lib.hid e2
                replace e3 := Lib.hid e3
                replace e4 := Lib.hid e4
                clear r1 r2 hap2 b1 b2 hmid hkn
                go_wp2_with fail
                go_at_call 23
                refine (alike_same (xs1 ms t) _ _ _ e1.out e3.out).mono ?_
                rintro e w12 ⟨rfl, hb12⟩
                go_wp2_with fail
                go_at_call 23
                refine (alike_same (xs2 ms t) _ _ _ (e2.out.below hb12) (e4.out.below hb12)).mono ?_
                rintro e w13 ⟨rfl, hb13⟩
                have hb2s : Below w2.heap.size w2 w13 := (hb2r.trans (hb12.mono (by have := hb2r.size; omega))).trans (hb13.mono (by have := hb2r.size; have := hb12.size; omega))
                have hb0s : Below w.heap.size w w13 := hb02.trans (hb2s.mono hb02.size)
                have hz0s := hb0s.size
                go_wp2_with fail
                go_at_call 24
                refine (kept_any ms _ _ g cap2 (hle.out.below hb2s) (hlh.out.below hb0s)).mono ?_
                rintro e w14 ⟨rfl, hb14⟩
                go_wp2
                go_ret
                exact ⟨rfl, hb0s.trans (hb14.mono hz0s)⟩
end Go.Proofs.Ytblneabjdbllbaa
