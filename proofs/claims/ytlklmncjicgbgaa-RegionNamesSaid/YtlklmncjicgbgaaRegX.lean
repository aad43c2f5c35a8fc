/-
  region.row, walked.
-/
import Derived.Test.YtlklmncjicgbgaaRegW
namespace Go.Proofs.Ytlklmncjicgbgaa
open Go.RowKit
set_option linter.unusedVariables false
attribute [local go_sem] vwp vUpon_value vUpon_skip vUpon_enter vUpon_row
set_option linter.unusedSimpArgs false
set_option linter.unusedVariables false
theorem own_unfz {w : World} {base g n cap : Nat} {C : List Sp} (h : OwnsS base w (.slice (some ⟨g, 0, none⟩) n cap) C) (o : Nat) : w.frozen? ⟨g, o, none⟩ = false := by
  rcases h.2 with ⟨e, _⟩ | ⟨g', cap', cur, e, _, hh, _⟩
  · cases e
  · injection e with e _ _
    injection e with e
    injection e with e _ _
    subst e
    simp [World.frozen?, hh]
/-- What 'row' hands out. -/
def RowPost (l : List Re) (y : Int) (w : World) (e : Ending) (w' : World) : Prop := Below w.heap.size w w' ∧ ∃ v, e = .returned v ∧ Row w'.heap.size 2 encS w' v (spansP l [] 1 y)
set_option maxHeartbeats 4000000 in
set_option maxRecDepth 100000 in
theorem row_any (l : List Re) (y : Int) (v : Value) (w : World) (hl : Row w.heap.size 4 Re.enc w v l) (hm : MayL l) (hln : l.length ≤ 100000) (hy : InM y) : Calls Try.prog 45 #[v, .int .i64 y] w (RowPost l y w) := by
  obtain ⟨iS, hi0, hm0, hm1, hm2⟩ := info_parts infoSp
  obtain ⟨s0, cap, rfl, hmax⟩ := hl.shape
  have hopen := fun h0 => row_re hl h0
  obtain ⟨n, en⟩ : ∃ n, l.length = n := ⟨_, rfl⟩
  rw [en] at hopen hmax hln ⊢
  clear hl
  obtain ⟨y0, y1⟩ := id hy
  replace hopen := Lib.hid hopen
  replace en := Lib.hid en
  replace hm := Lib.hid hm
  go_enter Try.func45, Try.ntmps45
  go_wp2
  go_loopw [5, 13] (fun vv iv wr => ∃ k : Nat, k ≤ n ∧ iv = .int .i64 k ∧ OwnsS w.heap.size wr vv (rowS (l.take k) y) ∧ Below w.heap.size w wr) (fun _ iv _ => n - (intOf iv).toNat)
  case atStart => exact ⟨0, Nat.zero_le _, rfl, OwnsS.nil _ _, Below.refl _ _⟩
  case round =>
    obtain ⟨k, hk, rfl, hown, hbr⟩ := hrel
    have zr := hbr.size
    obtain ⟨hcr, hfr⟩ := bcell hbr
    by_cases hkn : k < n
    · obtain ⟨b, o, cap', e, hb, _, _, hel⟩ := hopen.out (by omega)
      simp at e
      obtain ⟨rfl, rfl⟩ := e
      obtain ⟨q, hq⟩ := get_at en.out hkn
      obtain ⟨g0, g1, g2, g3⟩ := hel k q hq
      have hbd := may_sides (hm.out q (List.mem_of_getElem? hq))
      unfold InM at hbd
      have hsn := rowS_snoc y hq
      have hkk : (k : Int) < n := by omega
      have yb : b < wr.heap.size := by omega
      have hle : (rowS (l.take k) y).length ≤ 100000 := by have := rowS_le (l.take k) y; simp at this; omega
      clear hel hq
      obtain ⟨st0, cap0, rfl⟩ := own_slice hown
      unfold inRow at hsn
      by_cases c1 : q.y ≤ y
      · by_cases c2 : y < q.y + q.ht
        · by_cases c3 : 0 < q.wd
          · rw [show (decide (q.y ≤ y) && decide (y < q.y + q.ht) && decide (0 < q.wd)) = true by simp [c1, c2, c3], if_pos rfl] at hsn
            unfold OwnsS at hown
            replace hsn := Lib.hid hsn
            have hcs : [.int .i64 q.x, .int .i64 (q.x + q.wd)] = encS (q.x, q.x + q.wd) := rfl
            replace hcs := Lib.hid hcs
            go_upto_region 6 with fail
            have hb7 : Below wr.heap.size wr (wr.alloc (.cells #[.int .i64 q.x, .int .i64 q.y, .int .i64 q.wd, .int .i64 q.ht] 49)) := (Below.refl _ _).alloc (Nat.le_refl _) _
            have e0 : (wr.alloc (.cells #[.int .i64 q.x, .int .i64 q.y, .int .i64 q.wd, .int .i64 q.ht] 49)).cell? ⟨wr.heap.size, 0, none⟩ = some (.int .i64 q.x) := by go_simp
            have e2 : (wr.alloc (.cells #[.int .i64 q.x, .int .i64 q.y, .int .i64 q.wd, .int .i64 q.ht] 49)).cell? ⟨wr.heap.size, 2, none⟩ = some (.int .i64 q.wd) := by go_simp
            have h57 : wr.heap.size < (wr.alloc (.cells #[.int .i64 q.x, .int .i64 q.y, .int .i64 q.wd, .int .i64 q.ht] 49)).heap.size := by simp
            generalize wr.alloc (.cells #[.int .i64 q.x, .int .i64 q.y, .int .i64 q.wd, .int .i64 q.ht] 49) = w7 at hb7 e0 e2 h57 ⊢
            have zr7 := hb7.size
            clear g0 g1 g2 g3 hcr hfr
            go_wp2_with (first
              | (at_builtin; refine wpList_append_new rfl _ _ _ rfl w.heap.size 63 iS _ 2 16 Try.underlying60 hi0 hm0 hm1 hm2 rfl (by omega) w7 1 _ _ _ _ (by rfl) (ownsRow_below hown hb7 (Nat.le_refl _)) (by rfl) rfl (by simp [Value.oneCell']) (by omega) (by unfold maxLen; omega) (by omega) ?_; intro v6 w6 hown6 hb6)
              | go_in)
            have hb6' : Below w.heap.size w w6 := (hbr.trans (hb7.mono zr)).trans hb6
            rw [flatS_snoc hcs.out] at hown6
            replace hown6 := Lib.hid hown6
            clear hb6
            go_wp2
            go_roundw
            case rel =>
              refine ⟨k + 1, by omega, by go_num, ?_, hb6'⟩
              unfold OwnsS
              rw [hsn.out, List.length_append]
              exact hown6.out
            case measure => simp [intOf]; omega
          · rw [show (decide (q.y ≤ y) && decide (y < q.y + q.ht) && decide (0 < q.wd)) = false by simp [c3], if_neg (by decide), List.append_nil] at hsn
            replace hsn := Lib.hid hsn
            replace hown := Lib.hid hown
            go_wp2
            have hb7 : Below wr.heap.size wr (wr.alloc (.cells #[.int .i64 q.x, .int .i64 q.y, .int .i64 q.wd, .int .i64 q.ht] 49)) := (Below.refl _ _).alloc (Nat.le_refl _) _
            go_roundw
            case rel => exact ⟨k + 1, by omega, by go_num, by rw [hsn.out]; exact hown.out.below hb7 (Nat.le_refl _), hbr.trans (hb7.mono zr)⟩
            case measure => simp [intOf]; omega
        · rw [show (decide (q.y ≤ y) && decide (y < q.y + q.ht) && decide (0 < q.wd)) = false by simp [c2], if_neg (by decide), List.append_nil] at hsn
          replace hsn := Lib.hid hsn
          replace hown := Lib.hid hown
          go_wp2
          have hb7 : Below wr.heap.size wr (wr.alloc (.cells #[.int .i64 q.x, .int .i64 q.y, .int .i64 q.wd, .int .i64 q.ht] 49)) := (Below.refl _ _).alloc (Nat.le_refl _) _
          go_roundw
          case rel => exact ⟨k + 1, by omega, by go_num, by rw [hsn.out]; exact hown.out.below hb7 (Nat.le_refl _), hbr.trans (hb7.mono zr)⟩
          case measure => simp [intOf]; omega
      · rw [show (decide (q.y ≤ y) && decide (y < q.y + q.ht) && decide (0 < q.wd)) = false by simp [c1], if_neg (by decide), List.append_nil] at hsn
        replace hsn := Lib.hid hsn
        replace hown := Lib.hid hown
        go_wp2
        have hb7 : Below wr.heap.size wr (wr.alloc (.cells #[.int .i64 q.x, .int .i64 q.y, .int .i64 q.wd, .int .i64 q.ht] 49)) := (Below.refl _ _).alloc (Nat.le_refl _) _
        go_roundw
        case rel => exact ⟨k + 1, by omega, by go_num, by rw [hsn.out]; exact hown.out.below hb7 (Nat.le_refl _), hbr.trans (hb7.mono zr)⟩
        case measure => simp [intOf]; omega
    · obtain rfl : k = n := by omega
      rw [List.take_of_length_le (by have := en.out; omega)] at hown
      obtain ⟨S, hS⟩ : ∃ S, rowS l y = S := ⟨_, rfl⟩
      have hSl : S.length ≤ 100000 := by rw [← hS]; have := rowS_le l y; have := en.out; omega
      have hSin : ∀ s ∈ S, InM s.1 ∧ InM s.2 := by
        rw [← hS]
        intro s hs
        unfold rowS at hs
        obtain ⟨q, hq, rfl⟩ := List.mem_map.1 hs
        have := may_sides (hm.out q (List.mem_filter.1 hq).1)
        exact ⟨this.1, this.2.1⟩
      rw [hS] at hown
      have SF := isortf_any S _ wr w.heap.size hown (fun s hs => (hSin s hs).1) (by omega) zr
      have hlt := fun g hg => (hown.lt g hg).1
      obtain ⟨st0, cap0, rfl⟩ := own_slice hown
      replace SF := Lib.hid SF
      replace hS := Lib.hid hS
      replace hSin := Lib.hid hSin
      replace hlt := Lib.hid hlt
      clear hown hcr hfr hopen
      go_wp2_with (first
        | (go_at_call 69; (with_reducible refine (SF.out).mono ?_); rintro e w5 ⟨rfl, hgr, m, hp, hri, hown⟩)
        | go_in)
      have hb5 : Below w.heap.size w w5 := hbr.grown hgr zr hlt.out
      have z05 := hb5.size
      have hml := hp.length_eq
      have hmin : ∀ s ∈ m, InM s.1 ∧ InM s.2 := fun s hs => hSin.out s (hp.mem_iff.1 hs)
      have hrs : m.foldl mergeS [] = spansP l [] 1 y := by
        have := row_spec (l := l) (y := y) (m := m) (by rw [hS.out]; exact hp) hri
        exact row_alone hm.out.sane this.1 this.2
      obtain ⟨N, hN⟩ : ∃ N, S.length = N := ⟨_, rfl⟩
      rw [hN] at hown hml hSl ⊢
      obtain ⟨hNc, hcm⟩ : N ≤ cap0 ∧ cap0 ≤ maxLen := by
        have := hown
        unfold OwnsS at this
        rw [hml] at this
        exact own_len this
      replace hml := Lib.hid hml
      replace hmin := Lib.hid hmin
      replace hrs := Lib.hid hrs
      have hst := Lib.hid (RowInv.start hmin.out)
      clear SF hS hSin hlt hp hri hgr hN hbr
      go_loopw [8, 58] (fun nv iv wr => ∃ (i nn : Nat) (C : List Sp), i ≤ N ∧ iv = .int .i64 i ∧ nv = .int .i64 nn ∧ Hid (RowInv m C i nn) ∧ OwnsS w.heap.size wr (.slice st0 N cap0) C ∧ Below w.heap.size w wr) (fun _ iv _ => N - (intOf iv).toNat)
      case atStart => exact ⟨0, 0, m, Nat.zero_le _, rfl, rfl, hst, hown, hb5⟩
      case round =>
        obtain ⟨i, nn, C, hi, rfl, rfl, hinv, hown, hbr⟩ := hrel
        clear hst hb5 z05
        have zr := hbr.size
        have hCl : C.length = N := hinv.out.1.trans hml.out
        have hni : nn ≤ i := hinv.out.2.1
        by_cases hiN : i < N
        · obtain ⟨g, rfl, hgB, hgl⟩ := own_addr (show wr.ownsRow w.heap.size 63 2 (.slice st0 N cap0) N (C.flatMap encS) by have := hown; unfold OwnsS at this; rw [hCl] at this; exact this) (by omega)
          obtain ⟨s, hs⟩ := get_at hml.out hiN
          have hsC := hinv.out.at_ hs
          obtain ⟨g0, g1⟩ := own_sp hown hsC
          have hfz := own_unfz hown
          obtain ⟨⟨b0, b1⟩, ⟨b2, b3⟩⟩ := hmin.out s (List.mem_of_getElem? hs)
          have hii : (i : Int) < N := by omega
          have hnn : (nn : Int) < N := by omega
          obtain ⟨s1, s2⟩ := s
          simp only at g0 g1 b0 b1 b2 b3
          cases nn with
          | zero =>
            have hinv' := Lib.hid (hinv.out.first hs)
            obtain ⟨x, hx⟩ := get_at (k := 0) hCl (by omega)
            obtain ⟨j0, j1⟩ := own_sp hown hx
            simp only [Nat.zero_mul, Nat.zero_add] at j0 j1
            clear hx
            replace hown := Lib.hid hown
            clear hs hsC hinv
            go_wp2
            refine wp_region_steady (Held wr 1 [(⟨wr.heap.size, 0, none⟩, .int .i64 s1), (⟨wr.heap.size, 1, none⟩, .int .i64 s2)]) (by kernel_rfl) (by kernel_rfl) ⟨(by repeat (first | exact Below.refl _ _ | assumption | refine Below.drew ?_ | refine Below.alloc ?_ (by (try simp) <;> omega) _ | refine Below.setCell ?_ (by (try simp) <;> omega) _ | (refine Below.trans ?_ (Below.mono (by assumption) (by (try simp) <;> omega))))), (by (try simp) <;> omega), (by first | exact trivial | (simp only [Cells]; go_simp))⟩ ?_
            repeat (first | (refine' wpSteady_do _ _ _; rotate_left; (focus rfl); (focus (intro w1 hS R hR; have hc := hS.cells; simp only [Cells] at hc; obtain ⟨hco, hfo⟩ := bcell hS.old; go_simp; (try go_bits); first | exact hR _ hS | fail)); simp only [Act.put, List.setIfInBounds_toArray, List.set_cons_zero, List.set_cons_succ]) | (refine wpSteady_pass ?_ ?_; (focus rfl); simp only [Act.put, List.setIfInBounds_toArray, List.set_cons_zero, List.set_cons_succ]))
            refine wpSteady_nil (fun uA hSA => ?_)
            have hcA := hSA.cells; have hbA := hSA.old; have hzA := hSA.size; clear hSA; simp only [Cells] at hcA; obtain ⟨hcoA, hfoA⟩ := bcell hbA
            have yA : g < uA.heap.size := by omega
            have hfzA : ∀ o, uA.frozen? ⟨g, o, none⟩ = false := fun o => (hfoA g o hgl).trans (hfz o)
            go_wp2
            go_roundw
            case rel =>
              refine ⟨i + 1, 1, C.set 0 (s1, s2), by omega, by go_num, rfl, hinv', ?_, ?_⟩
              · have := own_put2 (k := 0) (s := (s1, s2)) (hown.out.below hbA (Nat.le_refl _)) hCl (by omega)
                exact this
              · exact ((hbr.trans (hbA.mono zr)).setCell (by simp; omega) _).setCell (by simp; omega) _
            case measure => simp [intOf]; omega
          | succ p =>
            obtain ⟨t, ht⟩ := get_at (k := p) hCl (by omega)
            obtain ⟨j0, j1⟩ := own_sp hown ht
            obtain ⟨⟨d0, d1⟩, ⟨d2, d3⟩⟩ := hinv.out.2.2.2.2 t (List.mem_of_getElem? ht)
            obtain ⟨n1, n2⟩ := hinv.out.next hs ht
            obtain ⟨t1, t2⟩ := t
            simp only at j0 j1 d0 d1 d2 d3 n1 n2
            replace n1 := Lib.hid n1
            replace n2 := Lib.hid n2
            replace hown := Lib.hid hown
            have hth := Lib.hid ht
            have hpN : (p : Int) < N := by omega
            have hp0 : (0 : Int) < (p : Int) + 1 := by omega
            have hpN2 : (p : Int) + 1 < N := by omega
            clear hs hsC hinv ht
            obtain ⟨x, hx⟩ := get_at (k := p + 1) hCl (by omega)
            obtain ⟨i0, i1⟩ := own_sp hown.out hx
            clear hx
            by_cases hc : s1 ≤ t2
            · go_wp2
              refine wp_region_steady (Held wr 1 [(⟨wr.heap.size, 0, none⟩, .int .i64 s1), (⟨wr.heap.size, 1, none⟩, .int .i64 s2)]) (by kernel_rfl) (by kernel_rfl) ⟨(by repeat (first | exact Below.refl _ _ | assumption | refine Below.drew ?_ | refine Below.alloc ?_ (by (try simp) <;> omega) _ | refine Below.setCell ?_ (by (try simp) <;> omega) _ | (refine Below.trans ?_ (Below.mono (by assumption) (by (try simp) <;> omega))))), (by (try simp) <;> omega), (by first | exact trivial | (simp only [Cells]; go_simp))⟩ ?_
              repeat (first | (refine' wpSteady_do _ _ _; rotate_left; (focus rfl); (focus (intro w1 hS R hR; have hc := hS.cells; simp only [Cells] at hc; obtain ⟨hco, hfo⟩ := bcell hS.old; go_simp; (try go_bits); first | exact hR _ hS | fail)); simp only [Act.put, List.setIfInBounds_toArray, List.set_cons_zero, List.set_cons_succ]) | (refine wpSteady_pass ?_ ?_; (focus rfl); simp only [Act.put, List.setIfInBounds_toArray, List.set_cons_zero, List.set_cons_succ]))
              refine wpSteady_nil (fun uA hSA => ?_)
              have hcA := hSA.cells; have hbA := hSA.old; have hzA := hSA.size; clear hSA; simp only [Cells] at hcA; obtain ⟨hcoA, hfoA⟩ := bcell hbA
              have yA : g < uA.heap.size := by omega
              have yA2 : wr.heap.size < uA.heap.size := by omega
              have hfzA : ∀ o, uA.frozen? ⟨g, o, none⟩ = false := fun o => (hfoA g o hgl).trans (hfz o)
              go_wp2
              refine wp_region_steady_then (Held uA 0 []) 14 (by kernel_rfl) (by kernel_rfl) (by decide) (by kernel_rfl) (by kernel_rfl) ⟨(by repeat (first | exact Below.refl _ _ | assumption | refine Below.drew ?_ | refine Below.alloc ?_ (by (try simp) <;> omega) _ | refine Below.setCell ?_ (by (try simp) <;> omega) _ | (refine Below.trans ?_ (Below.mono (by assumption) (by (try simp) <;> omega))))), (by (try simp) <;> omega), (by first | exact trivial | (simp only [Cells]; go_simp))⟩ ?_
              simp only [List.take_succ_cons, List.take_zero]
              repeat (first | (refine' wpSteady_do _ _ _; rotate_left; (focus rfl); (focus (intro w1 hS R hR; have hc := hS.cells; simp only [Cells] at hc; obtain ⟨hco, hfo⟩ := bcell hS.old; go_simp; (try go_bits); first | exact hR _ hS | fail)); simp only [Act.put, List.setIfInBounds_toArray, List.set_cons_zero, List.set_cons_succ]) | (refine wpSteady_pass ?_ ?_; (focus rfl); simp only [Act.put, List.setIfInBounds_toArray, List.set_cons_zero, List.set_cons_succ]))
              refine wpSteady_nil (fun uB hSB => ?_)
              have hcB := hSB.cells; have hbB := hSB.old; have hzB := hSB.size; clear hSB; simp only [Cells] at hcB; obtain ⟨hcoB, hfoB⟩ := bcell hbB
              simp only [List.drop_succ_cons, List.drop_zero, List.drop_nil]
              have yB : g < uB.heap.size := by omega
              have hfzB : ∀ o, uB.frozen? ⟨g, o, none⟩ = false := fun o => (hfoB g o yA).trans (hfzA o)
              go_wp2
              go_roundw
              case rel =>
                refine ⟨i + 1, p + 1, C.set p (t1, max t2 s2), by omega, by go_num, by go_num, Lib.hid (n1.out hc), ?_, ?_⟩
                · exact own_put1 ((hown.out.below hbA (Nat.le_refl _)).below hbB (Nat.le_refl _)) hCl hth.out (max t2 s2)
                · exact ((hbr.trans (hbA.mono zr)).trans (hbB.mono (by omega))).setCell (by simp; omega) _
              case measure => simp [intOf]; omega
            · go_wp2
              refine wp_region_steady (Held wr 1 [(⟨wr.heap.size, 0, none⟩, .int .i64 s1), (⟨wr.heap.size, 1, none⟩, .int .i64 s2)]) (by kernel_rfl) (by kernel_rfl) ⟨(by repeat (first | exact Below.refl _ _ | assumption | refine Below.drew ?_ | refine Below.alloc ?_ (by (try simp) <;> omega) _ | refine Below.setCell ?_ (by (try simp) <;> omega) _ | (refine Below.trans ?_ (Below.mono (by assumption) (by (try simp) <;> omega))))), (by (try simp) <;> omega), (by first | exact trivial | (simp only [Cells]; go_simp))⟩ ?_
              repeat (first | (refine' wpSteady_do _ _ _; rotate_left; (focus rfl); (focus (intro w1 hS R hR; have hc := hS.cells; simp only [Cells] at hc; obtain ⟨hco, hfo⟩ := bcell hS.old; go_simp; (try go_bits); first | exact hR _ hS | fail)); simp only [Act.put, List.setIfInBounds_toArray, List.set_cons_zero, List.set_cons_succ]) | (refine wpSteady_pass ?_ ?_; (focus rfl); simp only [Act.put, List.setIfInBounds_toArray, List.set_cons_zero, List.set_cons_succ]))
              refine wpSteady_nil (fun uA hSA => ?_)
              have hcA := hSA.cells; have hbA := hSA.old; have hzA := hSA.size; clear hSA; simp only [Cells] at hcA; obtain ⟨hcoA, hfoA⟩ := bcell hbA
              have yA : g < uA.heap.size := by omega
              have hfzA : ∀ o, uA.frozen? ⟨g, o, none⟩ = false := fun o => (hfoA g o hgl).trans (hfz o)
              go_wp2
              go_roundw
              case rel =>
                refine ⟨i + 1, p + 2, C.set (p + 1) (s1, s2), by omega, by go_num, by go_num, Lib.hid (n2.out hc), ?_, ?_⟩
                · have := own_put2 (k := p + 1) (s := (s1, s2)) (hown.out.below hbA (Nat.le_refl _)) hCl (by omega)
                  exact this
                · exact ((hbr.trans (hbA.mono zr)).setCell (by simp; omega) _).setCell (by simp; omega) _
              case measure => simp [intOf]; omega
        · obtain rfl : i = N := by omega
          have hfin : C.take nn = spansP l [] 1 y := by
            rw [← hrs.out]
            have := hinv.out
            rw [← hml.out] at this
            exact this.done
          have hrow : ∀ cap', nn ≤ cap' → cap' ≤ maxLen → Row wr.heap.size 2 encS wr (.slice st0 nn cap') (spansP l [] 1 y) := fun cap' h1 h2 => by
            rw [← hfin]
            exact row_take (xs := C) (by rw [hCl]; exact hown.row (Nat.le_refl _)) nn cap' (by omega) h1 h2
          have hz : (nn : Int) ≤ cap0 := by omega
          have hnc : nn ≤ cap0 := by omega
          replace hrow := Lib.hid hrow
          rcases hown.2 with ⟨e, hq⟩ | ⟨g, cap', cur, e, hq⟩
          · injection e with e1 e2 e3
            subst e1
            subst e3
            have hn0 : nn = 0 := by omega
            subst hn0
            clear hfin hown hinv hq e2
            go_wp2
            go_ret
            exact ⟨hbr, _, rfl, hrow.out 0 (by omega) (by omega)⟩
          · injection e with e1 e2 e3
            subst e1
            subst e3
            clear hfin hown hinv hq e2
            replace hcm := Lib.hid hcm
            go_wp2
            go_ret
            exact ⟨hbr, _, rfl, hrow.out nn (Nat.le_refl _) (Nat.le_trans hnc hcm.out)⟩
end Go.Proofs.Ytlklmncjicgbgaa
