/-
  The loop of bounds.
-/
import Derived.Test.YtpbolbpenkfpiaaLeaU
import Derived.Deep.LoopGhost
namespace Go.Proofs.Ytpbolbpenkfpiaa
open Go.RowKit
set_option linter.unusedVariables false
attribute [local go_sem] vwp vUpon_value vUpon_skip vUpon_enter vUpon_row
set_option linter.unusedSimpArgs false
theorem own_base {w : World} {base base' : Nat} {e : TypeId} {size n : Nat} {v : Value} {xs : List Value} (h : w.ownsRow base e size v n xs) (hb : base' ≤ base) : w.ownsRow base' e size v n xs := by
  obtain ⟨h1, h2⟩ := h
  refine ⟨h1, ?_⟩
  rcases h2 with h2 | ⟨g, cap, cur, hv, hg, r⟩
  · exact .inl h2
  · exact .inr ⟨g, cap, cur, hv, by omega, r⟩
set_option maxHeartbeats 4000000 in
theorem loop_any (N : Nat) (bs : List Bd) (v : Value) (w : World) (hr : Row w.heap.size 3 encB w v bs) (hv : Valid N bs) :
    Calls Try.prog 6 #[.int .i64 N, v] w fun e w' => Below w.heap.size w w' ∧
      ((e = .returned (.tuple #[.slice none 0 0, .int .i64 0]) ∧ ∃ x, Sol N bs x) ∨
       (∃ out vo, e = .returned (.tuple #[vo, .int .i64 0]) ∧ w'.ownsRow w.heap.size 3 1 vo out.length (out.map (Value.int .i64)) ∧ Turn bs out ∧ out.length ≤ N ∧ ∀ at_, ¬ Sol N bs at_)) := by
  have CK := fun w' (hb : Below w.heap.size w w') => check_ok N bs v w' ((hr.below hb).mono hb.size) hv
  have RD := fun w' (hb : Below w.heap.size w w') => rounds_any N bs v w' ((hr.below hb).mono hb.size) hv
  obtain ⟨s, cap, hv', hmax⟩ := hr.shape
  replace CK := Lib.hid CK
  replace RD := Lib.hid RD
  subst hv'
  have n1 := hv.n1
  go_enter Try.func6, Try.ntmps6
  go_wp2_with (first
    | (go_at_call 9; (with_reducible refine (CK.out _ (by repeat (first | exact Below.refl _ _ | assumption | refine Below.drew ?_ | refine Below.alloc ?_ (by (try simp) <;> omega) _ | refine Below.setCell ?_ (by (try simp) <;> omega) _ | (refine Below.trans ?_ (Below.mono (by assumption) (by (try simp) <;> omega)))))).mono ?_); rintro e w1 ⟨rfl, hb1⟩; obtain ⟨hc1, hf1⟩ := bcell hb1; have hz1 := hb1.size; (try simp at hz1); (try have lt1 : w.heap.size < w1.heap.size := (by omega))))
  go_at_call 10
  refine (RD.out _ (by repeat (first | exact Below.refl _ _ | assumption | refine Below.drew ?_ | refine Below.alloc ?_ (by (try simp) <;> omega) _ | refine Below.setCell ?_ (by (try simp) <;> omega) _ | (refine Below.trans ?_ (Below.mono (by assumption) (by (try simp) <;> omega)))))).mono ?_
  rintro e w2 ⟨hb2, x, made, last, g1, g2, rfl, l1, l2, lx, lm, k1, k2, hF⟩
  have hz2 := hb2.size
  rcases hF with ⟨rfl, hS, _⟩ | ⟨hl, hR⟩
  · go_wp2
    go_ret2
    exact ⟨(by repeat (first | exact Below.refl _ _ | assumption | refine Below.drew ?_ | refine Below.alloc ?_ (by (try simp) <;> omega) _ | refine Below.setCell ?_ (by (try simp) <;> omega) _ | (refine Below.trans ?_ (Below.mono (by assumption) (by (try simp) <;> omega))))), .inl ⟨rfl, x, hS⟩⟩
  · obtain ⟨v0, rfl⟩ : ∃ v0 : Nat, last = v0 + 1 := ⟨(last - 1).toNat, by omega⟩
    rw [show ((v0 : Int) + 1 - 1).toNat = v0 by omega] at hR
    have hl0 : ((v0 : Int) + 1 == 0) = false := by simp; omega
    have vN := hR.lt
    have hno : ∀ at_, ¬ Sol N bs at_ := fun at_ => hR.none at_
    replace hno := Lib.hid hno
    obtain ⟨d, d1, dN, hper⟩ := hR.per
    obtain ⟨phi, M, hM, he⟩ := hR.edge
    replace he := Lib.hid he
    replace hper := Lib.hid hper
    obtain ⟨hco2, hfo2⟩ := bcell hb2
    replace hF := Lib.hid True.intro
    clear hR
    go_wp2
    have q0 : w1.cell? ⟨w.heap.size, 0, none⟩ = some (.slice s bs.length cap) := (hc1 _ _ (by simp)).trans ((Blk.new w [.slice s bs.length cap] 22).cell (o := 0) rfl)
    have q1 : (w2.alloc (.cells #[.slice (some ⟨g1, 0, none⟩) N N, .slice (some ⟨g2, 0, none⟩) N N, .int .i64 ((v0 : Int) + 1)] 33)).cell? ⟨w.heap.size, 0, none⟩ = some (.slice s bs.length cap) :=
      (((Below.refl w2.heap.size w2).alloc (Nat.le_refl _) _).cell (p := ⟨w.heap.size, 0, none⟩) (show w.heap.size < w2.heap.size by omega)).trans ((hco2 _ _ lt1).trans q0)
    clear q0
    have q2 := Blk.new w2 [.slice (some ⟨g1, 0, none⟩) N N, .slice (some ⟨g2, 0, none⟩) N N, .int .i64 ((v0 : Int) + 1)] 33
    have q3 := k2.alloc (.cells #[.slice (some ⟨g1, 0, none⟩) N N, .slice (some ⟨g2, 0, none⟩) N N, .int .i64 ((v0 : Int) + 1)] 33)
    have q4 : Below w.heap.size w (w2.alloc (.cells #[.slice (some ⟨g1, 0, none⟩) N N, .slice (some ⟨g2, 0, none⟩) N N, .int .i64 ((v0 : Int) + 1)] 33)) := (by repeat (first | exact Below.refl _ _ | assumption | refine Below.drew ?_ | refine Below.alloc ?_ (by (try simp) <;> omega) _ | refine Below.setCell ?_ (by (try simp) <;> omega) _ | (refine Below.trans ?_ (Below.mono (by assumption) (by (try simp) <;> omega)))))
    obtain ⟨W0, hW0⟩ : ∃ W0, (w2.alloc (.cells #[.slice (some ⟨g1, 0, none⟩) N N, .slice (some ⟨g2, 0, none⟩) N N, .int .i64 ((v0 : Int) + 1)] 33)) = W0 := ⟨_, rfl⟩
    change Blk (w2.alloc (.cells #[.slice (some ⟨g1, 0, none⟩) N N, .slice (some ⟨g2, 0, none⟩) N N, .int .i64 ((v0 : Int) + 1)] 33)) _ _ _ at q2
    rw [hW0] at q1 q2 q3 q4 ⊢
    clear hW0 hco2 hfo2 hb2 k1 k2 hc1 hf1 hb1 hF
    obtain ⟨bw, hbw⟩ : ∃ bw, w2.heap.size = bw := ⟨_, rfl⟩
    rw [hbw] at q2 ⊢
    have z1 := World.block_lt_of_cell? _ _ q1
    simp only at z1
    have z2 := q2.lt
    have z3 := q3.lt
    have z4 := q4.size
    clear hbw hz2 lt1 hz1 l1 l2
    obtain ⟨S, hS⟩ : ∃ S, S = src bs made := ⟨_, rfl⟩
    -- what is read
    have RM : ∀ wx, Below W0.heap.size W0 wx → ∀ m, wx.cell? ⟨g2, go S m v0, none⟩ = some (.int .i64 (X made (go S m v0))) := by
      intro wx hb m
      have hlt := (he.out m).lt
      rw [← hS] at hlt
      exact (q3.below hb z3).cell (map_at made _ (by rw [lm]; exact hlt))
    have BH : ∀ wx, Below W0.heap.size W0 wx → ∀ m, Calls Try.prog 11 #[.int .i64 (go S m v0 : Nat), .pointer (some ⟨w.heap.size, 0, none⟩), .pointer (some ⟨bw, 0, none⟩)] wx fun e w' => e = .returned (.int .i64 (go S (m + 1) v0 : Nat)) ∧ Below wx.heap.size wx w' := by
      intro wx hb m
      obtain ⟨j, b, e1, e2, e3, e4, e5, e6⟩ := (he.out m).by_
      have hlt := (he.out m).lt
      rw [← hS] at hlt e2 e4
      rw [show go S (m + 1) v0 = src bs made (go S m v0) by rw [← hS]; rfl]
      exact behind_any bs made w.heap.size _ _ g2 N (go S m v0) j b _ wx (hr.below (q4.trans (hb.mono z4))) ((hb.cell (p := ⟨w.heap.size, 0, none⟩) z1).trans q1) ((q2.below hb z2).cell rfl) (RM wx hb m) hlt n1 e1 e2 (by rw [← hS]; exact e4) e5 (Nat.le_trans z4 hb.size)
    have LT : ∀ m, go S m v0 < N := by intro m; have := (he.out m).lt; rw [← hS] at this; exact this
    replace hS := Lib.hid hS
    replace RM := Lib.hid RM
    replace BH := Lib.hid BH
    replace LT := Lib.hid LT
    go_loopw [9, 33] (fun a i wr => ∃ m : Nat, m ≤ N ∧ i = .int .i64 m ∧ a = .int .i64 (go S m v0 : Nat) ∧ Below W0.heap.size W0 wr) (fun _ i _ => N - (intOf i).toNat)
    case atStart => exact ⟨0, Nat.zero_le _, rfl, rfl, Below.refl _ _⟩
    case round =>
      obtain ⟨m, hm, rfl, rfl, hbr⟩ := hrel
      have zr := hbr.size
      obtain ⟨hcr, hfr⟩ := bcell hbr
      by_cases hmN : m < N
      · go_wp2_with (go_at_call 11; (with_reducible refine (BH.out _ hbr m).mono ?_); rintro e w3 ⟨rfl, hb3⟩)
        go_roundw
        case rel => exact ⟨m + 1, by omega, by go_num, rfl, hbr.trans (hb3.mono zr)⟩
        case measure => simp [intOf]; omega
      · obtain rfl : m = N := by omega
        clear hmN hm
        have c1 := q2.cell (o := 1) rfl
        have c2 := RM.out _ (Below.refl _ _) m
        have c3 := LT.out m
        have c4 : (go S m v0 : Int) < m := by omega
        go_wp2_with (go_at_call 11; (with_reducible refine (BH.out _ hbr m).mono ?_); rintro e w3 ⟨rfl, hb3⟩)
        have hb0 := hbr.trans (hb3.mono zr)
        clear hb3 hbr zr hcr hfr c1 c2 c3 c4
        go_loopg [10, 11] (d - 1) (fun k a b wr => ∃ i q : Nat, 1 ≤ i ∧ i + k = d ∧ q < i ∧ b = .int .i64 (go S (i + m) v0 : Nat) ∧ a = .int .i64 (X made (go S (q + m) v0)) ∧ Below W0.heap.size W0 wr)
        case atStart => exact ⟨1, 0, Nat.le_refl _, by omega, by omega, by rw [Nat.add_comm], by rw [Nat.zero_add], hb0⟩
        case round =>
          clear hb0
          obtain ⟨i, q, i1, ik, qi, rfl, rfl, hbr⟩ := hrel
          have zr := hbr.size
          obtain ⟨hcr, hfr⟩ := bcell hbr
          by_cases hst : go S (i + m) v0 = go S m v0
          · obtain ⟨t, ht⟩ : ∃ t, go S (q + m) v0 = t := ⟨_, rfl⟩
            have hgo : ∀ i, go S i t = go S (i + (q + m)) v0 := fun i => by rw [← ht, ← go_add]
            have perT : go S d t = t := by
              have := hper.out
              rw [← hS.out] at this
              rw [hgo, show d + (q + m) = q + (d + m) by omega, go_add, go_add S d m, this, ← go_add]; exact ht
            have RT : ∀ i, W0.cell? ⟨g2, go S i t, none⟩ = some (.int .i64 (X made (go S i t))) := fun i => by rw [hgo]; exact RM.out _ (Below.refl _ _) _
            have BT : ∀ wx, Below W0.heap.size W0 wx → ∀ i, Calls Try.prog 11 #[.int .i64 (go S i t : Nat), .pointer (some ⟨w.heap.size, 0, none⟩), .pointer (some ⟨bw, 0, none⟩)] wx fun e w' => e = .returned (.int .i64 (go S (i + 1) t : Nat)) ∧ Below wx.heap.size wx w' := by
              intro wx hb i
              rw [hgo, hgo, Nat.add_right_comm]
              exact BH.out wx hb _
            have LTT : ∀ i, go S i t < m := fun i => by rw [hgo]; exact LT.out _
            have ET : ∀ i, ∃ (j : Nat) (b : Bd), bs[j]? = some b ∧ X made (go S i t) = j + 1 ∧ b.b = (go S i t : Nat) ∧ b.a = (go S (i + 1) t : Nat) := by
              intro i
              obtain ⟨j, b, e1, e2, e3, e4, e5, e6⟩ := (he.out (i + (q + m))).by_
              rw [← hS.out, ← hgo] at e2 e3 e4
              refine ⟨j, b, e1, e2, e3, ?_⟩
              have : go S (i + 1) t = S (go S i t) := rfl
              rw [this, ← e4]; omega
            have EG : ∀ i, Edge m bs made phi M (go (src bs made) i t) := fun i => by
              have := he.out (i + (q + m))
              rw [← hS.out, ← hgo, hS.out] at this
              exact this
            obtain ⟨j0, b0, f1, f2, f3, f4⟩ := ET 0
            change X made t = j0 + 1 at f2
            change b0.b = (t : Nat) at f3
            rw [hst, ht, f2]
            have hr0 := hr.below q4
            have j0l := (List.getElem?_eq_some_iff.1 f1).1
            obtain ⟨bb, o, cap', e, hbl, hlc, hcm, hcell⟩ := hr0.open_ (by omega)
            simp at e
            obtain ⟨rfl, rfl⟩ := e
            have c5 := (enc3 (hcell j0 b0 f1)).2.1
            rw [f3] at c5
            have j0i : (j0 : Int) < bs.length := by omega
            have z5 : bb < W0.heap.size := by omega
            unfold maxLen at hcm
            replace hgo := Lib.hid hgo
            replace perT := Lib.hid perT
            replace RT := Lib.hid RT
            replace BT := Lib.hid BT
            replace LTT := Lib.hid LTT
            replace ET := Lib.hid ET
            replace EG := Lib.hid EG
            replace hcell := Lib.hid hcell
            clear RM BH LT he hper hr hr0 CK RD hst f1 f2 f3 f4 ht hl hl0
            obtain ⟨L, hL⟩ : ∃ L, bs.length = L := ⟨_, rfl⟩
            rw [hL] at q1 j0i hlc j0l ⊢
            replace hL := Lib.hid hL
            go_wp2
            obtain ⟨iI, hi0, hz0, hz1, hz2⟩ := info_parts infoI
            go_loopg [12, 13] d (fun k bk u wr => ∃ i : Nat, i + k = d ∧ i < d ∧ u = .int .i64 (go S i t : Nat) ∧ wr.ownsRow W0.heap.size 3 1 bk i ((backs bs made t i).map (Value.int .i64)) ∧ Below W0.heap.size W0 wr)
            case atStart => exact ⟨0, by omega, by omega, rfl, World.ownsRow_nil _ _ _ _, hbr⟩
            case round =>
              clear hcr hfr hbr zr
              obtain ⟨i, ik, hid, rfl, hown, hbr⟩ := hrel
              have zr := hbr.size
              obtain ⟨hcr, hfr⟩ := bcell hbr
              obtain ⟨j, b, e1, e2, e3, e4⟩ := ET.out i
              have c1 := q2.cell (o := 1) rfl
              have c2 := RT.out i
              have c3 := LTT.out i
              have c4 : (go S i t : Int) < m := by omega
              have jl := (List.getElem?_eq_some_iff.1 e1).1
              rw [hL.out] at jl
              have ji : (j : Int) < L := by omega
              have c6 := (enc3 (hcell.out j b e1)).1
              rw [e2] at c2
              rw [e4] at c6
              have hbk : (backs bs made t (i + 1)).map (Value.int .i64) = (backs bs made t i).map (Value.int .i64) ++ [.int .i64 j] := by
                rw [backs_succ, List.map_append, ← hS.out, e2, show (j : Int) + 1 - 1 = j by omega]; rfl
              replace hbk := Lib.hid hbk
              clear e1 e2 e3 e4
              by_cases hst : go S (i + 1) t = t
              · rw [hst] at c6
                replace hst := Lib.hid hst
                go_wp2_with (first
                  | (at_builtin; refine wpList_append_new rfl _ _ _ rfl W0.heap.size 3 iI _ 1 8 Try.underlying23 hi0 hz0 hz1 hz2 rfl (by omega) wr 1 _ _ _ _ (by rfl) hown (by rfl) rfl (by simp [Value.oneCell']) (by omega) (by unfold maxLen; omega) zr ?_; intro v4 w4 hown4 hb4))
                have hb04 := hbr.trans hb4
                obtain ⟨hc4, hf4⟩ := bcell hb04
                have zr4 := hb04.size
                have y1 : w.heap.size < w4.heap.size := by omega
                have y2 : bw < w4.heap.size := by omega
                have y3 : g2 < w4.heap.size := by omega
                have y4 : bb < w4.heap.size := by omega
                replace hown4 := Lib.hid hown4
                clear hown hcr hfr hbr hb4 zr
                go_wp2
                refine wp_region_steady (Held w4 0 []) (by kernel_rfl) (by kernel_rfl) ⟨(by repeat (first | exact Below.refl _ _ | assumption | refine Below.drew ?_ | refine Below.alloc ?_ (by (try simp) <;> omega) _ | refine Below.setCell ?_ (by (try simp) <;> omega) _ | (refine Below.trans ?_ (Below.mono (by assumption) (by (try simp) <;> omega))))), (by (try simp) <;> omega), (by first | exact trivial | (simp only [Cells]; go_simp))⟩ ?_
                repeat (first | (refine' wpSteady_do _ _ _; rotate_left; (focus rfl); (focus (intro w1 hS R hR; have hc := hS.cells; simp only [Cells] at hc; obtain ⟨hco, hfo⟩ := bcell hS.old; go_simp; (try go_bits); first | exact hR _ hS | fail)); simp only [Act.put, List.setIfInBounds_toArray, List.set_cons_zero, List.set_cons_succ]) | (refine wpSteady_pass ?_ ?_; (focus rfl); simp only [Act.put, List.setIfInBounds_toArray, List.set_cons_zero, List.set_cons_succ]))
                refine wpSteady_nil (fun uA hSA => ?_)
                have hcA := hSA.cells; have hbA := hSA.old; have hzA := hSA.size; clear hSA; simp only [Cells] at hcA; obtain ⟨hcoA, hfoA⟩ := bcell hbA
                have hownA := ownsRow_below hown4.out hbA (Nat.le_refl _)
                rw [show i + 1 = i + 1 from rfl, ← hbk.out] at hownA
                obtain ⟨g, cap4, rfl, hg, hgl, hcap4, hcm4, hbc⟩ := own_open hownA (by omega)
                have hb0A := hb04.trans (hbA.mono zr4)
                have hBL := backs_len bs made t (i + 1)
                obtain ⟨BK, hBK⟩ : ∃ BK, backs bs made t (i + 1) = BK := ⟨_, rfl⟩
                rw [hBK] at hbc hBL
                have hk := fun (k : Nat) (h : k < i + 1) => (hbc k _ (map_at BK k (by omega))).1
                have k0 := hk 0 (by omega)
                replace hBK := Lib.hid hBK
                replace hk := Lib.hid hk
                replace hBL := Lib.hid hBL
                have q4A := q4.trans (hb0A.mono z4)
                have zA := q4A.size
                clear hown4 hownA hbc hbk hb04 hbA hc4 hf4 hcA hcoA hfoA hzA RT BT LTT ET hcell c1 c2 c3 c4 c5 c6 q1 q2 q3 hb0A y1 y2 y3 y4 z1 z2 z3 z4 z5 zr4
                go_wp2
                go_loopw [14, 15] (fun ov ix wr => ∃ k : Nat, k ≤ i ∧ ix = .int .i64 k ∧ wr.ownsRow uA.heap.size 3 1 ov (i + 1 - k) ((X BK 0 :: (BK.drop (k + 1)).reverse).map (Value.int .i64)) ∧ Below uA.heap.size uA wr) (fun _ ix _ => (intOf ix).toNat)
                case atStart =>
                  refine ⟨i, Nat.le_refl _, rfl, ?_, (Below.refl _ _).alloc (Nat.le_refl _) _⟩
                  have e1 : i + 1 - i = 1 := Nat.add_sub_cancel_left i 1
                  have e2 : BK.drop (i + 1) = [] := List.drop_of_length_le (Nat.le_of_eq hBL.out)
                  rw [e1, e2]
                  exact World.ownsRow_lit uA _ 1 (Nat.le_refl _) (by simp [maxLen]) rfl
                case round =>
                  clear k0
                  obtain ⟨k, ki, rfl, hown, hbr⟩ := hrel
                  have zr := hbr.size
                  by_cases hk0 : 0 < k
                  · obtain ⟨k', rfl⟩ : ∃ k', k = k' + 1 := ⟨k - 1, by omega⟩
                    obtain ⟨hcr, hfr⟩ := bcell hbr
                    have c1 := hk.out (k' + 1) (by omega)
                    have hkl : ((k' + 1 : Nat) : Int) < (i + 1 : Nat) := by omega
                    go_wp2_with (first
                      | (at_builtin; refine wpList_append_new rfl _ _ _ rfl uA.heap.size 3 iI _ 1 8 Try.underlying23 hi0 hz0 hz1 hz2 rfl (by omega) wr 1 _ _ _ _ (by rfl) hown (by rfl) rfl (by simp [Value.oneCell']) (by omega) (by unfold maxLen; omega) zr ?_; intro v5 w5 hown5 hb5))
                    replace hown5 := Lib.hid hown5
                    go_wp2
                    go_roundw
                    case rel =>
                      refine ⟨k', by omega, by go_num, ?_, hbr.trans hb5⟩
                      have h5 := hown5.out
                      have e1 : BK.drop (k' + 1) = X BK (k' + 1) :: BK.drop (k' + 1 + 1) := by
                        rw [List.drop_eq_getElem_cons (by have := hBL.out; omega)]
                        congr 1
                        unfold X
                        rw [List.getD_eq_getElem?_getD, List.getElem?_eq_getElem (by have := hBL.out; omega)]; rfl
                      rw [e1, List.reverse_cons, ← List.cons_append, List.map_append, show i + 1 - k' = i + 1 - (k' + 1) + 1 by omega]
                      exact h5
                    case measure => first | (simp [intOf]; done) | (simp [intOf]; omega)
                  · obtain rfl : k = 0 := by omega
                    replace hown := Lib.hid hown
                    go_wp2
                    go_ret2
                    refine ⟨q4A.trans (hbr.mono zA), .inr ⟨X BK 0 :: (BK.drop 1).reverse, _, rfl, ?_, ?_, ?_, hno.out⟩⟩
                    · have h := own_base hown.out zA
                      rw [show (X BK 0 :: (BK.drop 1).reverse).length = i + 1 - 0 by simp [hBL.out]]
                      exact h
                    · have h := turn_of hM EG.out (i + 1) (by omega) (by rw [← hS.out]; exact hst.out)
                      rw [hBK.out] at h
                      exact h
                    · have := hBL.out
                      simp; omega
              · have hst1 : (((go S (i + 1) t : Nat) : Int) == (t : Int)) = false := by simp; omega
                have hst2 : ((go S (i + 1) t) == t) = false := by simpa using hst
                have hid' : i + 1 < d := by
                  rcases Nat.lt_or_ge (i + 1) d with h | h
                  · exact h
                  · exfalso
                    have e : i + 1 = d := by omega
                    rw [e] at hst
                    exact hst perT.out
                go_wp2_with (first
                  | (at_builtin; refine wpList_append_new rfl _ _ _ rfl W0.heap.size 3 iI _ 1 8 Try.underlying23 hi0 hz0 hz1 hz2 rfl (by omega) wr 1 _ _ _ _ (by rfl) hown (by rfl) rfl (by simp [Value.oneCell']) (by omega) (by unfold maxLen; omega) zr ?_; intro v4 w4 hown4 hb4))
                have hb04 := hbr.trans hb4
                obtain ⟨hc4, hf4⟩ := bcell hb04
                have zr4 := hb04.size
                have y1 : w.heap.size < w4.heap.size := by omega
                have y2 : bw < w4.heap.size := by omega
                have y3 : g2 < w4.heap.size := by omega
                have y4 : bb < w4.heap.size := by omega
                replace hown4 := Lib.hid hown4
                clear hown hcr hfr hbr hb4 zr
                go_wp2
                refine wp_region_steady (Held w4 0 []) (by kernel_rfl) (by kernel_rfl) ⟨(by repeat (first | exact Below.refl _ _ | assumption | refine Below.drew ?_ | refine Below.alloc ?_ (by (try simp) <;> omega) _ | refine Below.setCell ?_ (by (try simp) <;> omega) _ | (refine Below.trans ?_ (Below.mono (by assumption) (by (try simp) <;> omega))))), (by (try simp) <;> omega), (by first | exact trivial | (simp only [Cells]; go_simp))⟩ ?_
                repeat (first | (refine' wpSteady_do _ _ _; rotate_left; (focus rfl); (focus (intro w1 hS R hR; have hc := hS.cells; simp only [Cells] at hc; obtain ⟨hco, hfo⟩ := bcell hS.old; go_simp; (try go_bits); first | exact hR _ hS | fail)); simp only [Act.put, List.setIfInBounds_toArray, List.set_cons_zero, List.set_cons_succ]) | (refine wpSteady_pass ?_ ?_; (focus rfl); simp only [Act.put, List.setIfInBounds_toArray, List.set_cons_zero, List.set_cons_succ]))
                refine wpSteady_nil (fun uA hSA => ?_)
                have hcA := hSA.cells; have hbA := hSA.old; have hzA := hSA.size; clear hSA; simp only [Cells] at hcA; obtain ⟨hcoA, hfoA⟩ := bcell hbA
                have hb0A := hb04.trans (hbA.mono zr4)
                have zA := hb0A.size
                clear hcA hcoA hfoA hc4 hf4
                go_wp2_with (go_at_call 11; (with_reducible refine (BT.out _ hb0A i).mono ?_); rintro e w5 ⟨rfl, hb5⟩)
                go_roundg (gk - 1)
                case measure => omega
                case rel =>
                  refine ⟨i + 1, by omega, hid', rfl, ?_, hb0A.trans (hb5.mono zA)⟩
                  rw [hbk.out]
                  exact ownsRow_below (ownsRow_below hown4.out hbA (Nat.le_refl _)) hb5 (Nat.le_refl _)
          · have hne : ¬ ((go S (i + m) v0 : Nat) : Int) = (go S m v0 : Nat) := by omega
            have hid : i ≠ d := by
              rintro rfl
              have := hper.out
              rw [← hS.out, ← go_add] at this
              exact hst this
            have c1 := q2.cell (o := 1) rfl
            have c2 := RM.out _ (Below.refl _ _) (i + m)
            have c3 := LT.out (i + m)
            have c4 : (go S (i + m) v0 : Int) < m := by omega
            obtain ⟨q', hq', hmin⟩ : ∃ q', q' < i + 1 ∧ min (X made (go S (q + m) v0)) (X made (go S (i + m) v0)) = X made (go S (q' + m) v0) := by
              rcases Int.le_total (X made (go S (q + m) v0)) (X made (go S (i + m) v0)) with h | h
              · exact ⟨q, by omega, by omega⟩
              · exact ⟨i, by omega, by omega⟩
            have m1 : (if X made (go S (q + m) v0) < X made (go S (i + m) v0) then X made (go S (q + m) v0) else X made (go S (i + m) v0)) = X made (go S (q' + m) v0) := by split <;> omega
            have m2 : (if X made (go S (i + m) v0) < X made (go S (q + m) v0) then X made (go S (i + m) v0) else X made (go S (q + m) v0)) = X made (go S (q' + m) v0) := by split <;> omega
            clear hmin hst
            go_wp2_with (go_at_call 11; (with_reducible refine (BH.out _ hbr (i + m)).mono ?_); rintro e w3 ⟨rfl, hb3⟩)
            go_roundg (gk - 1)
            case measure => omega
            case rel => exact ⟨i + 1, q', by omega, by omega, hq', by rw [Nat.add_right_comm], rfl, hbr.trans (hb3.mono zr)⟩
end Go.Proofs.Ytpbolbpenkfpiaa
