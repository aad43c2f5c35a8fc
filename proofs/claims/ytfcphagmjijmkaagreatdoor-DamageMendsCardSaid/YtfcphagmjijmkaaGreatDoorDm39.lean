/-
  The walk of the law DamageMends.
-/
import Derived.ChangeOld
import Derived.LaidMore
import Derived.Lay
import Derived.OpenShut
import Derived.ProofKit
import Derived.SevenTiedAt
import Derived.ShutString
import Derived.Stop.Joined
import Derived.Test.YtfcphagmjijmkaaGreatDoorCards
import Derived.Test.YtfcphagmjijmkaaGreatDoorChecked
import Derived.Test.YtfcphagmjijmkaaGreatDoorRows
import Derived.Test.YtfcphagmjijmkaaGreatDoorTie
import Derived.Test.YtfcphagmjijmkaaGreatDoorDm35
import Derived.Test.YtfcphagmjijmkaaGreatDoorDm38
namespace Go.Proofs.YtfcphagmjijmkaaGreatDoor
open Go.RowKit
set_option linter.unusedVariables false
set_option linter.unusedSimpArgs false
attribute [local go_sem] vwp vUpon_value vUpon_skip vUpon_enter vUpon_row
set_option maxHeartbeats 16000000
theorem dlarge_any (wd ht : Int) (s : Option Addr) (n cap : Nat) (w : World) : Calls Tryz.prog 32 #[.agg #[.int .i64 (wd), .int .i64 (ht), .slice s n cap]] w fun e w' => e = .returned (.bool (decide (3000 < n))) ∧ Below w.heap.size w w' := by
 by_cases c : 3000 < n
 ·have ci : (3000 : Int) < n := by omega
  rw [decide_eq_true c]
  go_enter Tryz.func32, Tryz.ntmps32
  go_wp2; go_ret; exact ⟨by simp, belt⟩
 ·have ci : ¬ (3000 : Int) < n := by omega
  rw [decide_eq_false c]
  go_enter Tryz.func32, Tryz.ntmps32
  go_wp2; go_ret; exact ⟨by simp, belt⟩
def AnyM (base : Nat) (w : World) (v : Value) (n : Nat) : Prop := ∃ zs, w.ownsRow base 47 11 v n zs
theorem AnyM.set {base n : Nat} {w : World} {v : Value} (h : AnyM base w v n) (b o : Nat) (u : Value) : AnyM base (w.setCell ⟨b, o, none⟩ u) v n := by
 obtain ⟨zs, hl, hr⟩ := h
 rcases hr with ⟨rfl, h0⟩ | ⟨g, cap, cur, rfl, hb, hg, hc, hm, hs, ht⟩
 ·exact ⟨zs, hl, .inl ⟨rfl, h0⟩⟩
 ·by_cases hga : g = b
  ·subst hga
   refine ⟨(cur.setIfInBounds o u).toList.take (n * 11), ?_, .inr ⟨g, cap, _, rfl, hb, heap_setCell_same _ _ _ _ _ _ hg, hc, hm, by simpa using hs, rfl⟩⟩; rw [List.length_take, Array.length_toList, Array.size_setIfInBounds]; have : n * 11 ≤ cap * 11 := Nat.mul_le_mul_right _ hc; omega
  ·exact ⟨zs, hl, .inr ⟨g, cap, cur, rfl, hb, by rw [heap_setCell_other _ _ _ _ hga]; exact hg, hc, hm, hs, ht⟩⟩
theorem AnyM.cells {base n : Nat} {w : World} {v : Value} (h : AnyM base w v n) (h0 : 0 < n) : ∃ g cap, v = .slice (some ⟨g, 0, none⟩) n cap ∧ base ≤ g ∧ g < w.heap.size ∧ n ≤ cap ∧ cap ≤ maxLen ∧ (∀ o, o < n * 11 → ∃ u, w.cell? ⟨g, o, none⟩ = some u) ∧ ∀ o, w.frozen? ⟨g, o, none⟩ = false := by
 obtain ⟨zs, hl, hr⟩ := h
 rcases hr with ⟨_, h1⟩ | ⟨g, cap, cur, rfl, hb, hg, hc, hm, hs, ht⟩
 ·omega
 ·refine ⟨g, cap, rfl, hb, (Array.getElem?_eq_some_iff.1 hg).1, hc, hm, fun o ho => ?_, fun o => by simp [World.frozen?, hg]⟩
  have : n * 11 ≤ cap * 11 := Nat.mul_le_mul_right _ hc; refine ⟨cur[o]'(by omega), ?_⟩; simp only [World.cell?, hg]
  simp [Array.getElem?_eq_getElem (show o < cur.size by omega)]
set_option maxRecDepth 100000 in
theorem walk_DamageMends (wd ht : Int) (cs : List Ce) (va : Value) (xs : List St) (vx : Value) (qs : List Re) (vq : Value) (w : World) (h1 : I64 wd) (h2 : I64 ht) (hl : Row w.heap.size 11 Ce.enc w va cs) (hx : Row w.heap.size 15 St.enc w vx xs) (k1 : ∀ s ∈ xs, s.Wf) (hq : Row w.heap.size 4 Re.enc w vq qs) (kq : WfL qs) :
  Calls Tryz.prog 6 #[.agg #[.int .i64 (wd), .int .i64 (ht), va], vx, vq] w fun e w' => e = .returned (.bool true) ∧ Below w.heap.size w w' := by
 obtain ⟨iM, hi0, hm0, hm1, hm2⟩ := info_parts infoRe; obtain ⟨s0, cap, rfl, hmax⟩ := hl.shape; obtain ⟨s1, cap1, rfl, hmax1⟩ := hx.shape; obtain ⟨s2, cap2, rfl, hmax2⟩ := hq.shape; obtain ⟨n, en⟩ := exx (cs.length); obtain ⟨m, em⟩ := exx (qs.length); obtain ⟨lx, ex⟩ := exx (xs.length)
 have RC := fun W (h : Below w.heap.size w W) => (hl.below h).mono h.size
 have RS := fun W (h : Below w.heap.size w W) => (hx.below h).mono h.size
 have RQ := fun W (h : Below w.heap.size w W) => (hq.below h).mono h.size
 rw [en] at RC ⊢; rw [em] at RQ hmax2 ⊢; rw [ex] at RS ⊢
 have MA := fun W (h : Below w.heap.size w W) => dmuch_any xs (.slice s1 lx cap1) lx W (RS W h) ex
 replace RC := hdh RC; replace RS := hdh RS; replace RQ := hdh RQ; replace en := hdh en; replace em := hdh em; replace ex := hdh ex; replace k1 := hdh k1; replace kq := hdh kq; unfold maxLen at hmax2; clear hl hx hq hmax hmax1; have AW := hdh (fun w => dalive_any w)
 go_enter Tryz.func6, Tryz.ntmps6
 go_upto_region 1 with fail
 obtain ⟨W, hW⟩ := exx (w.alloc (.cells #[.int .i64 wd, .int .i64 ht, .slice s0 n cap] 40)); obtain ⟨b3, hb3⟩ := exx (w.heap.size)
 have B3 : Blk W b3 [.int .i64 wd, .int .i64 ht, .slice s0 n cap] 40 := by rw [← hW]; exact Blk.new' hb3.symm
 have hbw : Below w.heap.size w W := by rw [← hW]; exact belt
 rw [hW, hb3]; clear hW; replace hb3 := hdh hb3
 go_upto_region 4 with (go_at_call 19; (with_reducible refine cmm (AW.out _) fun w1 hb1 => ?_))
 have hbw1 := hbw.trans (hb1.mono hbw.size); replace B3 := B3.below hb1 B3.lt; clear hb1 hbw
 have LA := fun w => dlarge_any wd ht s0 n cap w
 obtain ⟨BB, hBB⟩ := exx ((decide (3000 < n) || muchB lx || (decide (40 < m) && decide (m ≤ 1024)) || decide (2000 < m))); have hBB0 := hdh hBB
 go_cut [40] (fun v wx => v = .bool BB ∧ Below w.heap.size w wx ∧ Below w1.heap.size w1 wx)
 case first =>
  have k0a := B3.cell (o := 0) rfl; have k1a := B3.cell (o := 1) rfl; have k2a := B3.cell (o := 2) rfl; have kya := B3.lt
  by_cases g1 : 3000 < n
  case' pos =>
   rw [decide_eq_true g1] at LA hBB; obtain rfl : true = BB := hBB
  case' neg =>
   rw [decide_eq_false g1] at LA hBB
   rw [Bool.false_or] at hBB
   cases g2 : muchB lx
   case' false =>
    rw [g2] at MA hBB
    rw [Bool.false_or] at hBB
    by_cases c1 : 40 < m
    case' neg =>
     have d1 : decide ((40 : Int) < m) = false := by simp; omega
     rw [decide_eq_false c1, Bool.false_and, Bool.false_or, decide_eq_false (by omega)] at hBB
     have d3 : decide ((2000 : Int) < m) = false := by simp; omega
     obtain rfl : false = BB := hBB
    case' pos =>
     have d1 : decide ((40 : Int) < m) = true := by simp; omega
     rw [decide_eq_true c1, Bool.true_and] at hBB
     by_cases c2 : m ≤ 1024
     case' pos =>
      have d2 : decide ((m : Int) ≤ 1024) = true := by simp; omega
      rw [decide_eq_true c2] at hBB; obtain rfl : true = BB := hBB
     case' neg =>
      have d2 : decide ((m : Int) ≤ 1024) = false := by simp; omega
      rw [decide_eq_false c2, Bool.false_or] at hBB
      have d3 : decide ((2000 : Int) < m) = BB := by rw [← hBB, decide_eq_decide]; omega
   case' true =>
    rw [g2] at MA hBB; obtain rfl : true = BB := hBB
  all_goals
   replace LA := hdh LA; replace MA := hdh MA
   go_wp2_with (first
    | (go_at_call 32; (with_reducible refine cmm (LA.out _) fun w2 hb2' => ?_); have hbw2 := hbw1.trans (hb2'.mono hbw1.size))
    | (go_at_call 25; (with_reducible refine cmm (MA.out _ hbw2) fun w3 hb3' => ?_); have hbw3 := hbw2.trans (hb3'.mono hbw2.size)))
   go_meet
   case rel => first | exact ⟨rfl, hbw2, hb2'⟩ | exact ⟨rfl, hbw3, hb2'.trans (hb3'.mono hb2'.size)⟩
 case rest =>
  clear hBB LA MA AW; obtain ⟨rfl, hbw3, hb3'⟩ := hcut; obtain ⟨w3, rfl⟩ : ∃ W, W = wc := ⟨_, rfl⟩
  cases BB
  ·have hq := hBB0.out
   simp only [Bool.or_eq_false_iff, decide_eq_false_iff_not] at hq; obtain ⟨⟨⟨g1, g2⟩, _⟩, c3⟩ := hq
   have hm20 : m ≤ 2000 := by omega
   have hlx : lx ≤ 20000 := by
    unfold muchB at g2
    simp at g2
    omega
   replace B3 := B3.below hb3' B3.lt; clear hb3' hbw1 c3 g2 hBB0 hmax2; have TA := hdh (twin_any wd ht cs (.slice s0 n cap) w3 (RC.out w3 hbw3) (by rw [en.out]; omega)); have hw3 := hdh hbw3; clear hbw3; have k0a := B3.cell (o := 0) rfl; have k1a := B3.cell (o := 1) rfl; have k2a := B3.cell (o := 2) rfl; have kya := B3.lt
   go_upto_region 7 with (go_at_call 33; (with_reducible refine TA.out.mono ?_); rintro e u6 ⟨v6, rfl, O6, hk⟩; obtain ⟨s6, c6, hv⟩ := own_slice O6; rw [en.out] at hv; subst hv)
   clear k0a k1a k2a kya; obtain ⟨W6, hW6⟩ := exx (u6.alloc (.cells #[.int .i64 wd, .int .i64 ht, .slice s6 n c6] 40)); obtain ⟨b6, hb6⟩ := exx (u6.heap.size)
   have B6 : Blk W6 b6 [.int .i64 wd, .int .i64 ht, .slice s6 n c6] 40 := by rw [← hW6]; exact Blk.new' hb6.symm
   replace O6 : OwnsC w3.heap.size W6 (.slice s6 n c6) cs := by rw [← hW6]; exact O6.alloc _
   have h6 : Below w3.heap.size w3 W6 := by rw [← hW6]; exact hk.alloc hk.size _
   rw [hW6, hb6]; clear hW6 hb6 hk TA; replace B3 := B3.below h6 B3.lt; have hw6 := hdh (hw3.out.trans (h6.mono hw3.out.size)); clear hw3; have LN := hdh (dlent_any xs (.slice s1 lx cap1) lx W6 (RS.out W6 hw6.out) (by rw [ex.out]; omega) ex.out)
   go_upto_region 8 with (go_at_call 26; (with_reducible refine LN.out.mono ?_); rintro e w7 ⟨g7, c7, rfl, O7, h7⟩)
   clear LN; replace B3 := B3.below h7 B3.lt; replace B6 := B6.below h7 B6.lt; replace O6 := O6.below h7 lrr; have hw7 := hdh (hw6.out.trans (h7.mono hw6.out.size)); clear hw6 h7 h6; have RQ7 := hdh (RQ.out w7 hw7.out); have hnil : World.ownsRow w7 w7.heap.size 32 4 (.slice none 0 0) 0 [] := World.ownsRow_nil _ _ _ _; replace em := em.out
   go_upto_region 10 with (first
    | (at_builtin; refine wpList_append_row rfl _ _ _ rfl w7.heap.size 32 iM _ 4 32 Tryz.underlying25 hi0 hm0 hm1 hm2 rfl (by omega) w7 _ _ _ (by rfl) hnil Re.enc_len Re.enc_one w7.heap.size _ qs RQ7.out (by rfl) (by unfold maxLen; omega) (by omega) lrr ?_; intro v9 w9 hown9 hgr9)
    | go_in)
   have h9 : Below w7.heap.size w7 w9 := (Below.refl _ _).grown hgr9 lrr (fun k hk => by simp [Value.ownBlock] at hk); rw [Nat.zero_add, List.nil_append] at hown9
   have O9 : OwnsR w7.heap.size w9 v9 qs := by unfold OwnsR; rw [em]; first | exact hown9 | (rw [← em]; exact hown9)
   clear hown9 hgr9 hnil RQ7; replace em := hdh em; obtain ⟨s9, c9, hv9⟩ := own_slice O9; rw [em.out] at hv9; subst hv9; replace B3 := B3.below h9 B3.lt; replace B6 := B6.below h9 B6.lt; replace O6 := O6.below h9 lrr; replace O7 := Owns.below O7 h9 lrr; have hw9 := hdh (hw7.out.trans (h9.mono hw7.out.size)); clear hw7 h9; have R7 : Row w9.heap.size 15 St.enc w9 (.slice (some ⟨g7, 0, none⟩) (lx + 1) c7) (xs ++ [mkS]) := O7.row lrr; have R7c : Row w9.heap.size 15 St.enc w9 (.slice (some ⟨g7, 0, none⟩) lx c7) xs := row_cut (ys := [mkS]) (by rw [List.length_append, ex.out]; exact R7) ex.out; have R6 := O6.row lrr
   have R9 : Row w9.heap.size 4 Re.enc w9 (.slice s9 m c9) qs := O9.row lrr; have DM := dmend_any wd ht cs (.slice s6 n c6) xs (.slice (some ⟨g7, 0, none⟩) lx c7) qs (.slice s9 m c9) w9 h1 h2 R6 R7c k1.out R9 kq.out
   have RM := fun W (h : Below w.heap.size w W) => rmend_any wd ht cs (.slice s0 n cap) xs (.slice s1 lx cap1) qs (.slice s2 m cap2) W h1 h2 (RC.out W h) (RS.out W h) k1.out (RQ.out W h) kq.out
   obtain ⟨E, hE⟩ := exx (mndE wd ht cs xs qs); obtain ⟨Z1, hZ1⟩ := exx (mndZ wd wd ht cs xs qs); obtain ⟨Z2, hZ2⟩ := exx (mndZ ht wd ht cs xs qs); obtain ⟨M, hM⟩ := exx (mndC wd ht cs xs qs); rw [hE, hZ1, hZ2, hM] at DM RM; clear hE hZ1 hZ2 hM
   have SX := fun W (h : Below w9.heap.size w9 W) => csame_any wd ht wd ht cs cs (.slice s6 n c6) (.slice s0 n cap) W ((R6.below h).mono h.size) (RC.out W (hw9.out.trans (h.mono hw9.out.size)))
   rw [samS_iff.2 ⟨rfl, rfl, rfl⟩] at SX
   have KP := fun W (h : Below w9.heap.size w9 W) => dkept_any xs g7 c7 lx (.slice s1 lx cap1) W ((R7.below h).mono h.size) (RS.out W (hw9.out.trans (h.mono hw9.out.size))) (by rw [ex.out]; omega) ex.out
   have SQ := fun W (h : Below w9.heap.size w9 W) => sameR_any qs qs (.slice s9 m c9) (.slice s2 m cap2) W ((R9.below h).mono h.size) (RQ.out W (hw9.out.trans (h.mono hw9.out.size))) (by rw [em.out]; omega) (by rw [em.out]; omega)
   rw [eqRs_iff.2 rfl] at SQ; replace SX := hdh SX; replace KP := hdh KP; replace SQ := hdh SQ; replace DM := hdh DM; replace RM := hdh RM; clear R6 R7 R7c R9 O6 O7 O9 h1 h2 RC RS RQ k1 kq; have k0a := B6.cell (o := 0) rfl; have k1a := B6.cell (o := 1) rfl; have k2a := B6.cell (o := 2) rfl; have kya := B6.lt
   go_upto_region 11 with (go_at_call 15; (with_reducible refine DM.out.mono ?_); rintro e u10 ⟨hk, v10, rfl, O10⟩; obtain ⟨s10, c10, hv⟩ := own_slice O10; subst hv)
   clear k0a k1a k2a kya; clear DM; obtain ⟨r, er⟩ := exx (M.length); rw [er]; obtain ⟨W10, hW10⟩ := exx (u10.alloc (.cells #[.int .i64 Z1, .int .i64 Z2, .slice s10 r c10] 40)); obtain ⟨b11, hb11⟩ := exx (u10.heap.size)
   have B11 : Blk W10 b11 [.int .i64 Z1, .int .i64 Z2, .slice s10 r c10] 40 := by rw [← hW10]; exact Blk.new' hb11.symm
   replace O10 : OwnsC w9.heap.size W10 (.slice s10 r c10) M := by rw [← hW10, ← er]; exact O10.alloc _
   have h10 : Below w9.heap.size w9 W10 := by rw [← hW10]; exact hk.alloc hk.size _
   rw [hW10, hb11]; clear hW10 hb11 hk; replace B3 := B3.below h10 B3.lt; replace B6 := B6.below h10 B6.lt; have RM2 := hdh (RM.out W10 (hw9.out.trans (h10.mono hw9.out.size))); clear RM; replace h10 := hdh h10; replace er := hdh er; have k0a := B3.cell (o := 0) rfl; have k1a := B3.cell (o := 1) rfl; have k2a := B3.cell (o := 2) rfl; have kya := B3.lt
   go_upto_region 12 with (go_at_call 34; (with_reducible refine RM2.out.mono ?_); rintro e u11 ⟨hk, v11, rfl, O11⟩; obtain ⟨s11, c11, hv⟩ := own_slice O11; rw [er.out] at hv; subst hv)
   clear k0a k1a k2a kya; clear RM2; obtain ⟨W11, hW11⟩ := exx (u11.alloc (.cells #[.int .i64 Z1, .int .i64 Z2, .slice s11 r c11] 40)); obtain ⟨b13, hb13⟩ := exx (u11.heap.size)
   have B13 : Blk W11 b13 [.int .i64 Z1, .int .i64 Z2, .slice s11 r c11] 40 := by rw [← hW11]; exact Blk.new' hb13.symm
   replace O11 : OwnsC W10.heap.size W11 (.slice s11 r c11) M := by rw [← hW11]; exact O11.alloc _
   have h11 : Below W10.heap.size W10 W11 := by rw [← hW11]; exact hk.alloc hk.size _
   rw [hW11, hb13]; clear hW11 hb13 hk; replace B3 := B3.below h11 B3.lt; replace B6 := B6.below h11 B6.lt; replace B11 := B11.below h11 B11.lt; replace O10 := O10.below h11 lrr; have h911 := hdh (h10.out.trans (h11.mono h10.out.size)); have SC := csame_any Z1 Z2 Z1 Z2 M M (.slice s10 r c10) (.slice s11 r c11) W11 (O10.row lrr) (O11.row lrr); rw [samS_iff.2 ⟨rfl, rfl, rfl⟩] at SC; replace SC := hdh SC; clear O11 h10 h11; have k0a := B11.cell (o := 0) rfl; have k1a := B11.cell (o := 1) rfl; have k2a := B11.cell (o := 2) rfl; have kya := B11.lt; have k0b := B13.cell (o := 0) rfl; have k1b := B13.cell (o := 1) rfl
   have k2b := B13.cell (o := 2) rfl; have kyb := B13.lt
   go_upto_region 14 with (go_at_call 16; (with_reducible refine cmm SC.out fun W12 h12 => ?_))
   clear k0a k1a k2a kya; clear k0b k1b k2b kyb; clear SC B13; replace B3 := B3.below h12 B3.lt; replace B6 := B6.below h12 B6.lt; replace B11 := B11.below h12 B11.lt; replace O10 := O10.below h12 lrr; have h912 := h911.out.trans (h12.mono h911.out.size); have z12 := h912.size; have n3 : ¬ (Value.slice s10 r c10).ownBlock = some b3 := ownsC_far O10 B3 (by decide); have n6 : ¬ (Value.slice s10 r c10).ownBlock = some b6 := ownsC_far O10 B6 (by decide); have n11 : ¬ (Value.slice s10 r c10).ownBlock = some b11 := ownsC_far O10 B11 (by decide); have nX := hdh (fun k (h : (Value.slice s10 r c10).ownBlock = some k) => (own_block_lt O10 k h).1)
   have hA0 : AnyM 0 W12 (.slice s10 r c10) r := ⟨_, by have h := own_low O10 (Nat.zero_le _); rw [er.out] at h; exact h⟩; replace hA0 := hdh hA0; replace h912 := hdh h912; clear O10 h12 h911
   go_loopw [16] (fun iv wr => ∃ i : Nat, i ≤ r ∧ iv = .int .i64 i ∧ Hid (AnyM 0 wr (.slice s10 r c10) r) ∧ Hid (KeptBut (fun k => (Value.slice s10 r c10).ownBlock = some k) W12 wr)) (fun iv _ => r - (intOf iv).toNat)
   case atStart => exact ⟨0, Nat.zero_le _, rfl, hA0, hdh (KeptBut.refl _ _)⟩
   case round =>
    clear hA0; obtain ⟨i, hi, rfl, hA, hK⟩ := hrel; obtain ⟨W1, rfl⟩ : ∃ W1, W1 = wr := ⟨_, rfl⟩; have B11r := B11.but hK.out n11
    by_cases hin : i < r
    ·have hii : (i : Int) < r := by omega
     obtain ⟨g, cap', ev, _, hgl, hnc, hcm, hce, hf⟩ := hA.out.cells (by omega); simp only [Value.slice.injEq, true_and] at ev; obtain ⟨rfl, rfl⟩ := ev; unfold maxLen at hcm; have hgb : (Value.slice (some ⟨g, 0, none⟩) r c10).ownBlock = some g := rfl; obtain ⟨u0, t0⟩ := hce (i * 11) (by omega); obtain ⟨u1, t1⟩ := hce (i * 11 + 1) (by omega); obtain ⟨u2, t2⟩ := hce (i * 11 + 2) (by omega); obtain ⟨u3, t3⟩ := hce (i * 11 + 3) (by omega); obtain ⟨u4, t4⟩ := hce (i * 11 + 4) (by omega); obtain ⟨u5, t5⟩ := hce (i * 11 + 5) (by omega); obtain ⟨u6, t6⟩ := hce (i * 11 + 6) (by omega); obtain ⟨u7, t7⟩ := hce (i * 11 + 7) (by omega)
     obtain ⟨u8, t8⟩ := hce (i * 11 + 8) (by omega); obtain ⟨u9, t9⟩ := hce (i * 11 + 9) (by omega); obtain ⟨u10, t10⟩ := hce (i * 11 + 10) (by omega); clear hce; have k0a := B11r.cell (o := 0) rfl; have k1a := B11r.cell (o := 1) rfl; have k2a := B11r.cell (o := 2) rfl; have kya := B11r.lt; go_wp2; go_roundw
     case rel => exact ⟨i + 1, by omega, by go_num, hdh (by repeat (first | (with_reducible exact hA.out) | (with_reducible refine AnyM.set ?_ _ _ _))), hdh (by repeat (first | (with_reducible exact hK.out) | (with_reducible refine KeptBut.setCell ?_ _ _ hgb)))⟩
     case measure => simp [intOf]; omega
    ·obtain rfl : i = r := by omega
     have hii : ¬ (i : Int) < i := by omega
     have B3r := B3.but hK.out n3; have B6r := B6.but hK.out n6; have h91 : Below w9.heap.size w9 W1 := KeptBut.toBelow h912.out hK.out z12 (fun k h1 h2 => by have := nX.out k h2; omega); have SX2 := hdh (SX.out W1 h91); have hw1 := hw9.out.trans (h91.mono hw9.out.size); clear hA hK SX B3 B6 B11; have k0a := B11r.cell (o := 0) rfl; have k1a := B11r.cell (o := 1) rfl; have k2a := B11r.cell (o := 2) rfl; have kya := B11r.lt; have k0b := B6r.cell (o := 0) rfl; have k1b := B6r.cell (o := 1) rfl; have k2b := B6r.cell (o := 2) rfl; have kyb := B6r.lt; have k0c := B3r.cell (o := 0) rfl; have k1c := B3r.cell (o := 1) rfl
     have k2c := B3r.cell (o := 2) rfl; have kyc := B3r.lt
     go_wp2_with (first
      | (go_at_call 16; (with_reducible refine cmm SX2.out fun w13 h13 => ?_); have h913 := h91.trans (h13.mono h91.size))
      | (go_at_call 31; (with_reducible refine cmm (KP.out _ h913) fun w14 h14 => ?_); have h914 := h913.trans (h14.mono h913.size))
      | (go_at_call 29; (with_reducible refine cmm (SQ.out _ h914) fun w15 h15 => ?_); have h915 := h914.trans (h15.mono h914.size)))
     go_ret; exact ⟨rfl, hw9.out.trans (h915.mono hw9.out.size)⟩
  ·go_wp2
   go_ret; exact ⟨rfl, hbw3⟩
section
open Go Go.RowKit Go.ChangeShapes Go.WideShapes Go.Deep Go.Joins
section
variable {P : Program} {H : Type} {enc : TypeId × Value → H} {w : World} {base : Nat} {spare : Nat → Bool} {held : Bool}
theorem open_rowT {α : Type} [Inhabited α] {Ok : α → Prop} {sz : Nat} {encA : α → List Value} {fuel : Nat} {t e : TypeId} {v : Value} {y : DataW H × List MemPlace} (ht : P.underlying t = some (.slice e)) (hC : P.cellsOf e = sz) (hsz : 0 < sz)
  (dec : ∀ (n : Nat) (cs : List Value) (y : DataW H × List MemPlace), cs.length = sz → DataW.trod enc P w base spare held n e cs = some y → ∃ x, Ok x ∧ cs = encA x)
  (hf : DataW.trod enc P w base spare held fuel t [v] = some y) :
  ∃ xs : List α, Row w.heap.size sz encA w v xs ∧ ∀ x ∈ xs, Ok x := by
 rcases open_slice ht hf with ⟨h0, _⟩ | ⟨a', len, cap, m, n, D, Pl, hcs, hb, hl, hm, hmm, hx, hi⟩
 ·simp at h0
  subst h0; exact ⟨[], ⟨none, 0, rfl, by simp, by unfold maxLen; omega, fun h => by simp at h⟩, by simp⟩
 ·simp at hcs
  subst hcs
  have hlm : len ≤ m := by rw [hmm]; split <;> omega
  have each : ∀ i, i < len → ∃ x : α, Ok x ∧ ∀ k u, (encA x)[k]? = some u → w.cell? ((a'.add (i * sz)).add k) = some u := by
   intro i hil
   obtain ⟨cs', hc, ht'⟩ := hi i (by omega); rw [hC] at hc; obtain ⟨_, hcl, hat⟩ := World.cells?_some hc; obtain ⟨x, hok, rfl⟩ := dec _ _ _ hcl ht'; refine ⟨x, hok, fun k u hk => ?_⟩
   have hkl : k < sz := by rw [← hcl]; exact (List.getElem?_eq_some_iff.1 hk).1
   rw [hat k hkl, hk]
  obtain ⟨V, hV⟩ := choose_lt (α := α) (p := fun i x => Ok x ∧ ∀ k u, (encA x)[k]? = some u → w.cell? ((a'.add (i * sz)).add k) = some u) each; refine ⟨(List.range len).map V, ⟨some a', cap, by simp, by simpa using hl, hm, fun h0 => ?_⟩, fun x hx => ?_⟩
  ·simp only [List.length_map, List.length_range] at h0
   obtain ⟨cs', hc, ht'⟩ := hi 0 (by omega); rw [hC] at hc; obtain ⟨_, hcl, hat⟩ := World.cells?_some hc; have h1 := hat 0 hsz; rw [Nat.zero_mul] at h1; obtain ⟨b, o, x⟩ := a'
   cases x with
   | some x =>
    exfalso; have e0 : ((⟨b, o, some x⟩ : Addr).add 0).add 0 = ⟨b, o, some x⟩ := rfl; rw [e0] at h1; have : cs'[0]? = some (cs'[0]'(by omega)) := List.getElem?_eq_getElem (by omega); rw [this] at h1; simp only [World.cell?] at h1
    split at h1 <;> simp at h1
   | none =>
    refine ⟨b, o, rfl, ?_, fun j x hj i u hi' => ?_⟩
    ·have : cs'[0]? = some (cs'[0]'(by omega)) := List.getElem?_eq_getElem (by omega)
     rw [this] at h1; exact World.block_lt_of_cell? _ _ h1
    ·obtain ⟨hj', e⟩ := List.getElem?_eq_some_iff.1 hj
     simp at hj' e
     subst e; have := (hV j hj').2 i u hi'; rw [add_lit, add_lit] at this; exact this
  ·obtain ⟨j, hj, rfl⟩ := List.mem_map.1 hx
   exact (hV j (List.mem_range.1 hj)).1
end
section
variable {H : Type} {enc : TypeId × Value → H} {w : World} {base : Nat} {spare : Nat → Bool} {held : Bool}
theorem list11 {cs : List Value} (h : cs.length = 11) : ∃ a b c d e f g i j k l, cs = [a, b, c, d, e, f, g, i, j, k, l] := by
 match cs, h with
 | [a, b, c, d, e, f, g, i, j, k, l], _ => exact ⟨a, b, c, d, e, f, g, i, j, k, l, rfl⟩
theorem cell_of {fuel : Nat} {cs : List Value} {x : DataW H × List MemPlace} (hl : cs.length = 11) (h : DataW.trod enc Tryz.prog w base spare held fuel 47 cs = some x) : ∃ s : Ce, s.Wf ∧ cs = s.enc := by
 obtain ⟨a, b, c, d, e, f, g, i, j, k, l, rfl⟩ := list11 hl; obtain ⟨m0, y0, h0⟩ := field_of Tryz.underlying47 h 0 0 1 21 _ rfl rfl rfl (by kernel_rfl); obtain ⟨m1, y1, h1⟩ := field_of Tryz.underlying47 h 1 1 4 34 _ rfl rfl rfl (by kernel_rfl); obtain ⟨m2, y2, h2⟩ := field_of Tryz.underlying47 h 2 5 4 34 _ rfl rfl rfl (by kernel_rfl); obtain ⟨m3, y3, h3⟩ := field_of Tryz.underlying47 h 3 9 1 4 _ rfl rfl rfl (by kernel_rfl); obtain ⟨m4, y4, h4⟩ := field_of Tryz.underlying47 h 4 10 1 4 _ rfl rfl rfl (by kernel_rfl); simp only [List.drop_zero, List.drop_succ_cons, List.take_succ_cons, List.take_zero] at h0 h1 h2 h3 h4
 obtain ⟨n0, e0, z0, wf0⟩ := DataW.trod_int Tryz.underlying21 h0; simp at e0; subst e0; obtain ⟨c1, w1, e1⟩ := colour_of h1; obtain ⟨c2, w2, e2⟩ := colour_of h2; obtain ⟨n3, e3, z3⟩ := DataW.trod_bool Tryz.underlying4 h3; simp at e3; subst e3; obtain ⟨n4, e4, z4⟩ := DataW.trod_bool Tryz.underlying4 h4; simp at e4; subst e4; refine ⟨⟨n0, c1, c2, n3, n4⟩, ⟨trivial, w1, w2⟩, ?_⟩; unfold Ce.enc; rw [← e1, ← e2]
 rfl
set_option maxRecDepth 100000 in
theorem open_screen {r : Reach} {b0 : Nat} {v : Value} {d : DataW H} {p : List MemPlace} (hv : Value.okWide Tryz.prog w r b0 40 v) (h : DataW.Trod enc Tryz.prog w base spare held 40 v d p) :
  ∃ (wd ht : Int) (u : Value) (cs : List Ce), v = .agg #[.int .i64 (wd), .int .i64 (ht), u] ∧ I64 wd ∧ I64 ht ∧ Row w.heap.size 11 Ce.enc w u cs ∧ CeL cs := by
 obtain ⟨cs, rfl, hsz⟩ := okWide_struct Tryz.underlying40 hv; obtain ⟨l⟩ := cs; obtain ⟨fuel, hf⟩ := h
 have hl : l.length = 3 := by
  have hc : Tryz.prog.cellsOf 40 = 3 := by kernel_rfl
  rw [← hc, ← hsz]; simp
 obtain ⟨a, b, c, rfl⟩ : ∃ a b c, l = [a, b, c] := by
  match l, hl with
  | [a, b, c], _ => exact ⟨a, b, c, rfl⟩
 simp only [Value.cells] at hf; obtain ⟨m0, y0, h0⟩ := field_of Tryz.underlying40 hf 0 0 2 24 _ rfl rfl rfl (by kernel_rfl); obtain ⟨m1, y1, h1⟩ := field_of Tryz.underlying40 hf 1 2 1 38 _ rfl rfl rfl (by kernel_rfl); simp only [List.drop_zero, List.drop_succ_cons, List.take_succ_cons, List.take_zero] at h0 h1; obtain ⟨wd, ht, ww, wh, rfl, rfl⟩ := size_of h0; obtain ⟨cs, hr, hwf⟩ := open_rowT (sz := 11) (encA := Ce.enc) (Ok := Ce.Wf) Tryz.underlying38 (by kernel_rfl) (by omega) (fun n cs y hl ht => cell_of hl ht) h1; exact ⟨wd, ht, c, cs, rfl, ww, wh, hr, hwf⟩
end
end
section
theorem list4 {cs : List Value} (h : cs.length = 4) : ∃ a b c d, cs = [a, b, c, d] := by
 match cs, h with
 | [a, b, c, d], _ => exact ⟨a, b, c, d, rfl⟩
section
variable {H : Type} {enc : TypeId × Value → H} {w : World} {base : Nat} {spare : Nat → Bool} {held : Bool}
set_option maxRecDepth 100000 in
theorem open_rects {r : Reach} {b0 : Nat} {v : Value} {d : DataW H} {p : List MemPlace} (hv : Value.okWide Tryz.prog w r b0 25 v) (h : DataW.Trod enc Tryz.prog w base spare held 25 v d p) :
  ∃ xs : List Re, Row w.heap.size 4 Re.enc w v xs ∧ ∀ x ∈ xs, x.Wf :=
 open_row Tryz.underlying25 (by kernel_rfl) (by omega) (fun n cs y hl ht => by
  obtain ⟨a, b, c, d, rfl⟩ := list4 hl
  exact rect_of ht) hv h
end
end
end Go.Proofs.YtfcphagmjijmkaaGreatDoor
namespace Go.Proofs.YtfcphagmjijmkaaGreatDoor.damageMends
open Go.ChangeShapes Go.WideShapes Go.ChangeAt Go.RowKit Go.Joins
open Go.ChangeMaps (open_string shut_string)
set_option linter.unusedVariables false
theorem own : ownKnob Tryz.prog.godebug = none := by kernel_rfl
theorem laidOut : laidOutB Tryz.prog = true := by kernel_rfl
set_option maxRecDepth 100000 in
theorem lifted (os : Os) (started : os.Started) (H : Type) (enc : TypeId × Value → H) :
  ReturnsInHanded {} Tryz.checked os 6 .any (fun w args => (Rows.damageMendsSpec.pre enc Tryz.prog Tryz.f6 [] false w args ∧ laidMetH Tryz.prog Rows.damageMendsRow.laid w) ∧ sizedMet enc Tryz.prog Tryz.f6 (OpenSpec.ofChange Rows.damageMendsSpec) false w args) (Rows.damageMendsSpec.post enc Tryz.prog Tryz.f6 false true false false) := by
 refine returnsInHanded_of_change_and (C := Tryz.checked) (X := fun w _ => laidMetH Tryz.prog Rows.damageMendsRow.laid w) (fun _ _ _ hh h => h.of_heap hh) own started (by kernel_rfl) Tryz.func6
  (ChangeSpec.witness_shaped (enc := enc) (C := Tryz.checked) (os := os) (X := fun w _ => laidMetH Tryz.prog Rows.damageMendsRow.laid w) false (World.laidAll Tryz.prog os Rows.damageMendsRow.laid) #[.agg #[.int .i64 0, .int .i64 0, .slice none 0 0], .slice none 0 0, .slice none 0 0] 8 (World.laidAll_os _ _ _) (World.shaped_of_ZipB (by kernel_rfl) (by kernel_rfl)) (by kernel_rfl) (by kernel_rfl) (by kernel_rfl)
   (by rw [MakeChecks.laidMetH_plain _ _ _ (by kernel_rfl)]; exact laidMet_laidAll _ (by kernel_rfl) (by kernel_rfl))) ?_
 intro W base args ds gs before hval0 hW _ hsz_ hL _
 have hval : ∀ (j : Nat) t v, Tryz.f6.params[j]? = some t → args[j]? = some v → Value.okWide Tryz.prog W .any base t v := hval0; have hW' := hW; obtain ⟨p, q, hA0, hV, rfl, hfz, hnd⟩ := hW; have hA : DataW.TrodAll enc Tryz.prog W 0 (fun _ => true) true Tryz.f6.params.toList args.toList ds p := hA0; rw [Tryz.params6] at hA hval; obtain ⟨v0, vs0, d0, ds0, p0, q0, hargs, rfl, rfl, h0, r0⟩ := trodAll_cons hA; obtain ⟨v1, vs1, d1, ds1, p1, q1, rfl, rfl, rfl, h1, r1⟩ := trodAll_cons r0; obtain ⟨v2, vs2, d2, ds2, p2, q2, rfl, rfl, rfl, h2, r2⟩ := trodAll_cons r1; obtain ⟨rfl, rfl, rfl⟩ := trodAll_nil r2
 obtain rfl : args = #[v0, v1, v2] := by cases args; simp_all
 obtain ⟨rfl, rfl⟩ := trodVars_none hV; have k0 := h0
 have lt0 : ∀ x ∈ p0, x.block < W.heap.size := by obtain ⟨m, hm⟩ := k0; exact DataW.trod_lt m _ _ _ hm
 have k1 := h1
 have lt1 : ∀ x ∈ p1, x.block < W.heap.size := by obtain ⟨m, hm⟩ := k1; exact DataW.trod_lt m _ _ _ hm
 have k2 := h2
 have lt2 : ∀ x ∈ p2, x.block < W.heap.size := by obtain ⟨m, hm⟩ := k2; exact DataW.trod_lt m _ _ _ hm
 obtain ⟨swd, sht, sv, scs, rfl, wa_s, wb_s, lst_s, wf_s⟩ := open_screen (hval 0 40 v0 rfl rfl) h0; obtain ⟨l, lst_l, wf_l⟩ := open_strokes (hval 1 22 v1 rfl rfl) h1; obtain ⟨r, lst_r, wf_r⟩ := open_rects (hval 2 25 v2 rfl rfl) h2; clear hA0 hval0; simp only [List.append_nil] at hW'
 refine (walk_DamageMends swd sht scs sv l v1 r v2 W wa_s wb_s lst_s lst_l wf_l lst_r wf_r).mono fun e W' ⟨he, bel⟩ => ?_
 subst he; exact ⟨_, rfl, _, _, _, [], _, [], hW', trodAll_mk1 (shut_bool Tryz.underlying4 _), (trodAll_cons_mk (Below.trod laidOut (by kernel_rfl) (of_decide_eq_true (by kernel_rfl)) k0 bel lt0) (trodAll_cons_mk (Below.trod laidOut (by kernel_rfl) (of_decide_eq_true (by kernel_rfl)) k1 bel lt1) (trodAll_cons_mk (Below.trod laidOut (by kernel_rfl) (of_decide_eq_true (by kernel_rfl)) k2 bel lt2) trodAll_mk0))), rfl, bel.frame _, fun h => by cases h⟩
end Go.Proofs.YtfcphagmjijmkaaGreatDoor.damageMends
namespace Go.Proofs.YtfcphagmjijmkaaGreatDoor.damageMends
open Go.ChangeShapes Go.WideShapes Go.ChangeAt Go.RowKit
set_option maxRecDepth 100000
theorem fa : (Rows.damageMendsRow.inPlace == Tryz.pinned.checked.prog.inPlace 6) = true := by kernel_rfl
theorem fb : (Rows.damageMendsRow.unfollowed == Tryz.pinned.checked.prog.unfollowed 6) = true := by kernel_rfl
theorem fc : (Rows.damageMendsRow.recurses == Tryz.pinned.checked.prog.recurses 6) = true := by kernel_rfl
theorem fd : (Rows.damageMendsRow.named == Tryz.pinned.checked.prog.varsNamed 6) = true := by kernel_rfl
theorem fe : Tryz.pinned.checked.prog.mayEnter = true := by kernel_rfl
theorem ff : (Rows.damageMendsRow.lifted == Tryz.pinned.checked.prog.liftsFinal) = true := by kernel_rfl
theorem fg : (Tryz.pinned.checked.prog.make == some Rows.damageMendsRow.make) = true := by kernel_rfl
end Go.Proofs.YtfcphagmjijmkaaGreatDoor.damageMends
