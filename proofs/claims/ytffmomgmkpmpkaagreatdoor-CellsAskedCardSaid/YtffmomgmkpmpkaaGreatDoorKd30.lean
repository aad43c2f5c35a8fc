/-
  XGn: XLisRb.
-/
import Derived.Shelf.SlSortCmp.WholeK
import Derived.Shelf.Slices.CompactI
import Derived.Shelf.Slices.In.SortNone
import Derived.Shelf.Sort.Plain
import Derived.Sort.OwnSortedInts
import Derived.Test.YtffmomgmkpmpkaaGreatDoorProg
import Derived.Test.YtffmomgmkpmpkaaGreatDoorKd29
namespace Go.Proofs.YtffmomgmkpmpkaaGreatDoor
open Go.RowKit
set_option linter.unusedVariables false
attribute [local go_sem] vwp vUpon_value vUpon_skip vUpon_enter vUpon_row
set_option linter.unusedSimpArgs false
set_option linter.unusedVariables false
section
set_option linter.unusedSimpArgs false
set_option linter.unusedVariables false
def ShC (wr : World) (q : Re) (wx : World) : Prop := RBox wx wr.heap.size q ∧ wr.heap.size + 1 ≤ wx.heap.size ∧ Below wr.heap.size wr wx
def Sh2 (w : World) (R : List Re) (xs : List St) (k : Nat) (M : List Re) (ov cv : Value) (wr : World) : Prop :=
  OwnsR w.heap.size wr ov (R.take k) ∧ OwnsR w.heap.size wr cv M ∧ Apart ov cv ∧ shGo M (xs.drop k) = R.drop k ∧ chkGo M.length (xs.drop k) = 0 ∧ (∀ q ∈ M, mayR q = true) ∧ M.length ≤ k ∧ Below w.heap.size w wr
theorem take_next {R : List Re} {k : Nat} {q : Re} (h : R[k]? = some q) : R.take (k + 1) = R.take k ++ [q] := by rw [List.take_add_one, h]; rfl
set_option maxHeartbeats 4000000 in
set_option maxRecDepth 100000 in
theorem kshown_any (xs : List St) (v : Value) (w : World) (hl : Row w.heap.size 15 St.enc w v xs) (k1 : ∀ s ∈ xs, s.Wf) (hc : chkL xs = 0) : Calls Tryz.prog 96 #[v] w fun e w' => ∃ v', e = .returned v' ∧ OwnsR w.heap.size w' v' (shL xs) ∧ Below w.heap.size w w' := by
 obtain ⟨iR, hr0, hr1, hr2, hr3⟩ := info_parts infoRe
 obtain ⟨s0, cap, rfl, hmax⟩ := hl.shape
 have hopen := fun h0 => row_st hl h0
 have l1 := chk_len hc
 have hg0 := chk_go hc
 obtain ⟨n, hn⟩ : ∃ n, xs.length = n := ⟨_, rfl⟩
 obtain ⟨R, hR⟩ : ∃ R, shL xs = R := ⟨_, rfl⟩
 have hRl : R.length = n := by rw [← hR, shL_len, hn]
 have hRg : shGo [] xs = R := hR
 rw [hn] at hopen hmax l1 ⊢
 rw [hR]
 clear hl hc hR
 replace hopen := Lib.hid hopen
 replace k1 := Lib.hid k1
 replace hn := Lib.hid hn
 replace hRl := Lib.hid hRl
 replace hRg := Lib.hid hRg
 replace hg0 := Lib.hid hg0
 go_enter Tryz.func96, Tryz.ntmps96
 go_wp2
 go_loopg [3, 4, 5] n (fun gg ov cv i wr => ∃ (k : Nat) (M : List Re), k ≤ n ∧ n - k ≤ gg ∧ i = .int .i64 k ∧ Sh2 w R xs k M ov cv wr)
 case atStart => exact ⟨0, [], Nat.zero_le _, by omega, rfl, World.ownsRow_nil _ _ _ _, World.ownsRow_nil _ _ _ _, Apart.none _ _ _, by simpa using hRg.out, hg0.out, by simp, Nat.le_refl _, Below.refl _ _⟩
 case round =>
  obtain ⟨k, M, hk, hgg, rfl, hrel⟩ := hrel
  obtain ⟨hown, hclp, hap, hgo, hch, hM, hMk, hbr⟩ := hrel
  have zr := hbr.size
  obtain ⟨st0, cap0, rfl⟩ := own_slice hclp
  obtain ⟨so, co, rfl⟩ := own_slice hown
  by_cases hkn : k < n
  ·obtain ⟨b, p, cap', e, hb, _, _, hel⟩ := hopen.out (by omega)
   simp at e
   obtain ⟨rfl, rfl⟩ := e
   obtain ⟨s, hs⟩ := get_at hn.out hkn
   obtain ⟨g0, g1, g2, g3, g4, g5, g6, g7, g8, g9, g10, g11, g12, g13, g14⟩ := hel k s hs
   obtain ⟨hcr, hfr⟩ := bcell hbr
   obtain ⟨he0, hop, hch'⟩ := chk_cons hs hch
   rw [shGo_drop hs] at hgo
   obtain ⟨hRk, hgo'⟩ := drop_head hgo.symm
   obtain ⟨hlen, hpos⟩ := opn_len hop
   have hmr := err_may he0
   have hQ := shQ_may hM hmr
   have hN := shN_may (s := s) hM hmr
   have hle := shN_le M s
   have hkk : (k : Int) < n := by omega
   have yb : b < wr.heap.size := by omega
   have hto : (R.take k).length = k := by rw [List.length_take]; have := hRl.out; omega
   obtain ⟨m, hm⟩ : ∃ m, M.length = m := ⟨_, rfl⟩
   clear hel hgo hch g6 g7 g8 g9 g10 g11 g12 g13 g14
   rw [hto] at hown hap ⊢
   rw [hm] at hle hMk hclp hap ⊢
   replace hown := Lib.hid hown
   replace hclp := Lib.hid hclp
   replace hap := Lib.hid hap
   replace hRk := Lib.hid hRk
   replace hgo' := Lib.hid hgo'
   replace hch' := Lib.hid hch'
   replace hlen := Lib.hid hlen
   replace hpos := Lib.hid hpos
   replace he0 := Lib.hid he0
   replace hs := Lib.hid hs
   replace hM := Lib.hid hM
   replace hN := Lib.hid hN
   replace hQ := Lib.hid hQ
   replace hmr := Lib.hid hmr
   replace hm := Lib.hid hm
   replace hto := Lib.hid hto
   go_upto_if 20 with fail
   go_cut [] (fun wx => ShC wr (shQ M s) wx)
   case first =>
    by_cases hm0 : 0 < m
    ·obtain ⟨t, ht, eQ⟩ := shQ_last (M := M) (s := s) (by have := hm.out; omega)
     have hmt := hM.out t (List.mem_of_getElem? ht)
     have A := fun w => kmeet1_any s.rect t w (may_wf hmr.out) (may_wf hmt)
     have hown' := hclp.out
     unfold OwnsR at hown'
     rw [hm.out] at hown'
     obtain ⟨g, rfl, hg, hgl⟩ := own_addr hown' hm0
     obtain ⟨r0, r1, r2, r3⟩ := own_rmem hclp.out ht
     rw [hm.out] at r0 r1 r2 r3
     have hm1 : (0 : Int) < m := by omega
     have hm2 : (0 : Int) ≤ (m : Int) - 1 := by omega
     have hm3 : ((m : Int) - 1).toNat = m - 1 := by omega
     have hm4 : (m : Int) - 1 < m := by omega
     have hm5 : (1 : Int) ≤ m := by omega
     generalize meetR s.rect t = q at A eQ
     replace A := Lib.hid A
     replace eQ := Lib.hid eQ
     clear ht hmt hown'
     go_wp2
     refine wp_region_steady_then (Held wr 1 [(⟨wr.heap.size, 0, none⟩, .int .i64 (s.rect).x), (⟨wr.heap.size, 1, none⟩, .int .i64 (s.rect).y), (⟨wr.heap.size, 2, none⟩, .int .i64 (s.rect).wd), (⟨wr.heap.size, 3, none⟩, .int .i64 (s.rect).ht)]) 8 (by kernel_rfl) (by kernel_rfl) (by decide) (by kernel_rfl) (by kernel_rfl) ⟨belt, (by (try simp) <;> omega), (by first | exact trivial | (simp only [Cells]; go_simp))⟩ ?_
     simp only [List.take_succ_cons, List.take_zero]
     repeat (first | (refine' wpSteady_do _ _ _; rotate_left; (focus rfl); (focus (intro w1 hS R hR; have hc := hS.cells; simp only [Cells] at hc; obtain ⟨hco, hfo⟩ := bcell hS.old; go_simp; (try go_bits); first | exact hR _ hS | (go_at_call 134; (with_reducible refine (A.out _).mono ?_); rintro e w2 ⟨rfl, hb2⟩; exact ⟨_, rfl, hR _ (hS.below hb2)⟩))); simp only [pu]) | (refine wpSteady_pass ?_ ?_; (focus rfl); simp only [pu]))
     refine wpSteady_nil (fun u9 hS9 => ?_)
     have hc9 := hS9.cells; have hb9 := hS9.old; have hz9 := hS9.size; clear hS9; simp only [Cells] at hc9; obtain ⟨hco9, hfo9⟩ := bcell hb9
     simp only [List.drop_succ_cons, List.drop_zero, List.drop_nil]
     go_wp2
     go_meet
     case rel =>
      rw [eQ.out]
      exact ⟨⟨⟨by go_simp, by go_simp, by go_simp, by go_simp⟩, ⟨by go_simp, by go_simp, by go_simp, by go_simp⟩⟩, by simp; omega, belt⟩
    ·have e : M = [] := List.length_eq_zero_iff.1 (by have := hm.out; omega)
     have hm1 : m = 0 := by omega
     subst e
     subst hm1
     go_wp2
     go_meet
     case rel =>
      rw [shQ_none]
      exact ⟨⟨⟨by go_simp, by go_simp, by go_simp, by go_simp⟩, ⟨by go_simp, by go_simp, by go_simp, by go_simp⟩⟩, by simp, belt⟩
   case rest =>
    obtain ⟨⟨⟨x1, x2, x3, x4⟩, ⟨z1, z2, z3, z4⟩⟩, zc, hbc⟩ := hcut
    have E := fun w => kempty1_any (shQ M s) w (may_wf hQ.out)
    obtain ⟨q, hq⟩ : ∃ q, shQ M s = q := ⟨_, rfl⟩
    obtain ⟨eb, heb⟩ : ∃ eb, emptyR q = eb := ⟨_, rfl⟩
    rw [hq] at x1 x2 x3 x4 E
    rw [heb] at E
    replace E := Lib.hid E
    have heb' : emptyR (shQ M s) = eb := by rw [hq]; exact heb
    replace hq := Lib.hid hq
    replace heb' := Lib.hid heb'
    clear heb
    have yl0 : wr.heap.size < wc.heap.size := by omega
    go_upto_if 30 with (first
     | (go_at_call 100; (with_reducible refine (E.out _).mono ?_); rintro e w2 ⟨rfl, hb2⟩; obtain ⟨hc2, hf2⟩ := bcell hb2; have z2 := hb2.size)
     | go_in)
    have y20 : wr.heap.size < w2.heap.size := by omega
    have hbc2 : Below wr.heap.size wr w2 := hbc.trans (hb2.mono hbc.size)
    go_cut [] (fun wx => ShC wr (shR M s) wx)
    case first =>
     cases eb
     ·go_wp2
      go_meet
      case rel =>
       rw [shR_f heb'.out, hq.out]
       exact ⟨⟨⟨by go_simp, by go_simp, by go_simp, by go_simp⟩, ⟨by go_simp, by go_simp, by go_simp, by go_simp⟩⟩, by omega, hbc2⟩
     ·go_wp2
      go_meet
      case rel =>
       rw [shR_t heb'.out]
       exact ⟨⟨⟨by go_simp; rfl, by go_simp; rfl, by go_simp; rfl, by go_simp; rfl⟩, ⟨by go_simp, by go_simp, by go_simp, by go_simp⟩⟩, by simp; omega, belt⟩
    case rest =>
     (try clear hb2); (try clear hc2); (try clear hf2); (try clear hbc2); (try clear x1 x2 x3 x4); (try clear z1 z2 z3 z4); (try clear E); (try clear heb'); (try clear hq)
     obtain ⟨⟨⟨x1, x2, x3, x4⟩, ⟨z1, z2, z3, z4⟩⟩, zc, hbc⟩ := hcut
     have hown2 := OwnsR.below hown.out hbc (Nat.le_refl _)
     have hclp2 := OwnsR.below hclp.out hbc (Nat.le_refl _)
     have hbrc := hbr.trans (hbc.mono zr)
     have zrc := hbrc.size
     obtain ⟨hcc, hfc⟩ := bcell hbrc
     obtain ⟨q, hq⟩ : ∃ q, shR M s = q := ⟨_, rfl⟩
     rw [hq] at x1 x2 x3 x4 hRk
     have yl0 : wr.heap.size < wc.heap.size := by omega
     have lo := fun g h => (own_block_lt hown.out g h).2
     have lc := fun g h => (own_block_lt hclp.out g h).2
     have hcs : [.int .i64 q.x, .int .i64 q.y, .int .i64 q.wd, .int .i64 q.ht] = q.enc := rfl
     replace hcs := Lib.hid hcs
     replace lo := Lib.hid lo
     replace lc := Lib.hid lc
     replace hclp2 := Lib.hid hclp2
     unfold OwnsR at hown2
     rw [hto.out] at hown2
     clear z1 z2 z3 z4 hcr hfr
     go_upto_region 11 with (first
      | (at_builtin; refine wpList_append_two rfl _ _ _ rfl w.heap.size 42 iR _ 4 32 Tryz.underlying69 hr0 hr1 hr2 hr3 rfl (by omega) wc 1 _ _ _ _ (by rfl) hown2 (by rfl) rfl (by simp [Value.oneCell']) (by omega) (by unfold maxLen; omega) (by omega) ?_; intro v6 w6 hown6 hgr6 htw6 hb6)
      | go_in)
     rw [flatR_snoc hcs.out, ← take_next hRk.out] at hown6
     have hown6 : OwnsR w.heap.size w6 v6 (R.take (k + 1)) := by
      unfold OwnsR
      rw [List.length_take, Nat.min_eq_left (by have := hRl.out; omega)]
      exact hown6
     have hclp6 : OwnsR w.heap.size w6 (.slice st0 m cap0) M := own_keep hclp2.out hgr6 (fun g h1 h2 => hap.out g h2 h1)
     have hap6 : Apart v6 (.slice st0 m cap0) := fun g h1 h2 => by
      rcases htw6 g h1 with h | h
      ·exact hap.out g h h2
      ·have := lc.out g h2; omega
     have far6 := fun o => grown_far hgr6 yl0 (fun g h => by have := lo.out g h; omega) o
     have x1 := (far6 0).trans x1
     have x2 := (far6 1).trans x2
     have x3 := (far6 2).trans x3
     have x4 := (far6 3).trans x4
     have hb06 : Below w.heap.size w w6 := hbrc.trans hb6
     have z06 := hb06.size
     have zc6 := hgr6.size
     have yl6 : wr.heap.size < w6.heap.size := by omega
     have lc6 : ∀ g, (Value.slice st0 m cap0).ownBlock = some g → g < wr.heap.size := lc.out
     obtain ⟨so6, co6, rfl⟩ := own_slice hown6
     have lo6 := fun g h => (own_block_lt hown6 g h).2
     have hl6 : (R.take (k + 1)).length = k + 1 := by rw [List.length_take]; have := hRl.out; omega
     rw [hl6] at hown6 hap6 lo6 ⊢
     clear far6 hown2 hgr6 htw6 hb6 hbc
     replace hown6 := Lib.hid hown6
     replace hap6 := Lib.hid hap6
     replace lo6 := Lib.hid lo6
     replace lc6 := Lib.hid lc6
     replace hl6 := Lib.hid hl6
     obtain ⟨hcc6, hfc6⟩ := bcell hb06
     have yb6 : b < w.heap.size := hb
     by_cases q4 : s.kind = 4
     ·have eN := shN_4 (M := M) q4
      rw [hq] at eN
      rw [q4] at g0
      have hclp7 := hclp6
      unfold OwnsR at hclp7
      rw [hm.out] at hclp7
      replace eN := Lib.hid eN
      replace hclp6 := Lib.hid hclp6
      clear q4 hq
      go_wp2_with (first
       | ((at_builtin; refine wpList_append_two rfl _ _ _ rfl w.heap.size 42 iR _ 4 32 Tryz.underlying69 hr0 hr1 hr2 hr3 rfl (by omega) w6 1 _ _ _ _ (by rfl) hclp7 (by rfl) rfl (by simp [Value.oneCell']) (by omega) (by unfold maxLen; omega) (by omega) ?_; intro v7 w7 hown7 hgr7 htw7 hb7); obtain ⟨hcc7, hfc7⟩ := bcell (hb06.trans hb7))
       | go_in)
      rw [flatR_snoc hcs.out, ← eN.out] at hown7
      have hb7' : Below w.heap.size w w7 := hb06.trans hb7
      have hown8 : OwnsR w.heap.size w7 (.slice so6 (k + 1) co6) (R.take (k + 1)) := own_keep hown6.out hgr7 (fun g h1 h2 => hap6.out g h1 h2)
      have hap7 : Apart (.slice so6 (k + 1) co6) v7 := fun g h1 h2 => by
       rcases htw7 g h2 with h | h
       ·exact hap6.out g h1 h
       ·have := lo6.out g h1; omega
      replace hown7 := Lib.hid hown7
      replace hown8 := Lib.hid hown8
      replace hap7 := Lib.hid hap7
      clear hgr7 htw7 hclp7
      go_wp2
      go_roundg (n - (k + 1))
      case measure => omega
      case rel =>
       refine ⟨k + 1, shN M s, by omega, by omega, by go_num, hown8.out, ?_, hap7.out, hgo'.out.symm, ?_, hN.out, by rw [eN.out]; simp; have := hm.out; omega, hb7'⟩
       ·unfold OwnsR
        rw [show (shN M s).length = m + 1 by rw [eN.out]; simp [hm.out]]
        exact hown7.out
       ·rw [hlen.out]; exact hch'.out
     ·by_cases q5 : s.kind = 5
      ·have eN := shN_5 (M := M) q5
       have hp := hpos.out q5
       rw [q5] at g0
       have hpop : OwnsR w.heap.size w6 (.slice st0 (M.length - 1) cap0) M.dropLast := own_pop (by rw [hm.out]; exact hclp6) hp
       rw [← eN, hm.out] at hpop
       rw [hm.out] at hp
       have hclp7 := hclp6
       unfold OwnsR at hclp7
       rw [hm.out] at hclp7
       obtain ⟨g, rfl, hg, hgl⟩ := own_addr hclp7 hp
       have hcap : m ≤ cap0 := (own_len hclp7).1
       have hap8 : Apart (.slice so6 (k + 1) co6) (.slice (some ⟨g, 0, none⟩) (m - 1) cap0) := fun g' h1 h2 => hap6.out g' h1 h2
       replace hpop := Lib.hid hpop
       replace eN := Lib.hid eN
       replace hap8 := Lib.hid hap8
       have p1 : (0 : Int) ≤ (m : Int) - 1 := by omega
       have p2 : (1 : Int) ≤ m := by omega
       have p3 : (m : Int) - 1 ≤ cap0 := by omega
       have p4 : ((m : Int) - 1).toNat = m - 1 := by omega
       clear q4 q5 hclp6 hclp7 hq
       go_wp2
       go_roundg (n - (k + 1))
       case measure => omega
       case rel =>
        refine ⟨k + 1, shN M s, by omega, by omega, by go_num, hown6.out, hpop.out, hap8.out, hgo'.out.symm, ?_, hN.out, by rw [eN.out, List.length_dropLast]; have := hm.out; omega, hb06⟩
        rw [hlen.out]; exact hch'.out
      ·have eN := shN_o (M := M) q4 q5
       replace hclp6 := Lib.hid hclp6
       replace eN := Lib.hid eN
       clear hq
       go_wp2
       go_roundg (n - (k + 1))
       case measure => omega
       case rel =>
        refine ⟨k + 1, shN M s, by omega, by omega, by go_num, hown6.out, by rw [eN.out]; exact hclp6.out, hap6.out, hgo'.out.symm, ?_, hN.out, by rw [eN.out]; have := hm.out; omega, hb06⟩
        rw [hlen.out]; exact hch'.out
  ·obtain rfl : k = n := by omega
   rw [List.take_of_length_le (by have := hRl.out; omega)] at hown ⊢
   replace hown := Lib.hid hown
   replace hclp := Lib.hid hclp
   replace hap := Lib.hid hap
   replace hgo := Lib.hid hgo
   replace hch := Lib.hid hch
   go_wp2
   go_ret
   exact ⟨_, rfl, hown.out, hbr⟩
end
end Go.Proofs.YtffmomgmkpmpkaaGreatDoor

namespace Go.Proofs.YtffmomgmkpmpkaaGreatDoor
open Go.RowKit
set_option linter.unusedVariables false
attribute [local go_sem] vwp vUpon_value vUpon_skip vUpon_enter vUpon_row
set_option linter.unusedSimpArgs false
set_option linter.unusedVariables false
section
set_option linter.unusedSimpArgs false
set_option linter.unusedVariables false
attribute [local go_sem high] eql_rect neq_rect
theorem kdraws_any (s : St) (w : World) (h : U8 s.kind) : Calls Tryz.prog 97 #[.agg #[.int .u8 (s).kind, .int .i64 (s).rect.x, .int .i64 (s).rect.y, .int .i64 (s).rect.wd, .int .i64 (s).rect.ht, .int .u8 (s).col.r, .int .u8 (s).col.g, .int .u8 (s).col.b, .int .u8 (s).col.a, .int .u8 (s).back.r, .int .u8 (s).back.g, .int .u8 (s).back.b, .int .u8 (s).back.a, .string (s).text, .int .i64 (s).node]] w fun e w' => e = .returned (.bool (decide (s.kind ≤ 3))) ∧ Below w.heap.size w w' := by
  obtain ⟨kd, ⟨x, y, wd, ht⟩, ⟨cr, cg, cb, ca⟩, ⟨br, bg, bb, ba⟩, tx, nd⟩ := s
  simp only at h ⊢
  obtain ⟨h1, h2⟩ := h
  by_cases c : kd < 4
  · rw [show decide (kd ≤ 3) = true by simp; omega]
    have c1 : decide (kd < 4) = true := by simpa using c
    go_enter Tryz.func97, Tryz.ntmps97
    go_wp2
    go_ret
    exact ⟨rfl, belt⟩
  · rw [show decide (kd ≤ 3) = false by simp; omega]
    have c1 : decide (kd < 4) = false := by simpa using c
    go_enter Tryz.func97, Tryz.ntmps97
    go_wp2
    go_ret
    exact ⟨rfl, belt⟩
end
end Go.Proofs.YtffmomgmkpmpkaaGreatDoor

namespace Go.Proofs.YtffmomgmkpmpkaaGreatDoor
open Go.RowKit
set_option linter.unusedVariables false
attribute [local go_sem] vwp vUpon_value vUpon_skip vUpon_enter vUpon_row
set_option linter.unusedSimpArgs false
set_option linter.unusedVariables false
section
set_option linter.unusedSimpArgs false
set_option linter.unusedVariables false
set_option maxHeartbeats 4000000 in
set_option maxRecDepth 100000 in
theorem kflat_any (xs : List St) (v : Value) (w : World) (hl : Row w.heap.size 15 St.enc w v xs) (k1 : ∀ s ∈ xs, s.Wf) : Calls Tryz.prog 46 #[v] w (OutF w.heap.size (flS xs) (flR xs) (chkL xs) w) := by
 obtain ⟨iR, hr0, hr1, hr2, hr3⟩ := info_parts infoRe
 obtain ⟨iM, hi0, hm0, hm1, hm2⟩ := info_parts infoSt
 have C1 := fun w' (hb : Below w.heap.size w w') => rcheck_any xs v w' ((hl.below hb).mono hb.size) k1
 have K1 := fun w' (hb : Below w.heap.size w w') hc => kshown_any xs v w' ((hl.below hb).mono hb.size) k1 hc
 obtain ⟨s0, cap, rfl, hmax⟩ := hl.shape
 have hopen := fun h0 => row_st hl h0
 obtain ⟨n, en⟩ : ∃ n, xs.length = n := ⟨_, rfl⟩
 clear hl
 by_cases c1 : chkL xs = 0
 ·have l1 := chk_len c1
  have hfS : flS xs = fltS xs := if_pos c1
  have hfR : flR xs = fltR xs (shL xs) := if_pos c1
  have hRl := shL_len xs
  obtain ⟨R, hR⟩ : ∃ R, shL xs = R := ⟨_, rfl⟩
  have K1 := fun w' hb => K1 w' hb c1
  rw [hfS, hfR]
  rw [hR] at K1 hRl ⊢
  rw [c1] at C1 ⊢
  rw [en] at l1 hmax hopen C1 K1 hRl ⊢
  replace C1 := Lib.hid C1
  replace K1 := Lib.hid K1
  replace hopen := Lib.hid hopen
  replace en := Lib.hid en
  replace hRl := Lib.hid hRl
  replace k1 := Lib.hid k1
  clear c1 hR hfS hfR
  go_enter Tryz.func46, Tryz.ntmps46
  go_wp2_with (first
   | (go_at_call 95; (with_reducible refine (C1.out _ belt).mono ?_); rintro e w3 ⟨rfl, hb3⟩; have z3 := hb3.size)
   | (go_at_call 96; (with_reducible refine (K1.out _ hb3).mono ?_); rintro e w2 ⟨v2, rfl, hown2, hb2⟩; obtain ⟨s2, cap2, rfl⟩ := own_slice hown2; rw [hRl.out])
   | go_in)
  have hb02 : Below w.heap.size w w2 := hb3.trans (hb2.mono z3)
  have z02 := hb02.size
  have hrow := hown2.row (Nat.le_refl w2.heap.size)
  have hopR := fun h0 => row_re hrow h0
  rw [hRl.out] at hopR
  replace hopR := Lib.hid hopR
  clear hrow hown2 hb2 hb3 z3
  go_loopw [7, 8, 9] (fun va vb i wr => ∃ k : Nat, k ≤ n ∧ i = .int .i64 k ∧ FlCut w2 (fltS (xs.take k)) (fltR (xs.take k) (R.take k)) va vb wr) (fun _ _ i _ => n - (intOf i).toNat)
  case atStart => exact ⟨0, Nat.zero_le _, rfl, World.ownsRow_nil _ _ _ _, World.ownsRow_nil _ _ _ _, Apart.none _ _ _, Below.refl _ _⟩
  case round =>
   obtain ⟨k, hk, rfl, hown, hownR, hap, hbr⟩ := hrel
   have zr := hbr.size
   obtain ⟨hcr, hfr⟩ := bcell hbr
   by_cases hkn : k < n
   ·obtain ⟨b, p, cap', e, hb, _, _, hel⟩ := hopen.out (by omega)
    simp at e
    obtain ⟨rfl, rfl⟩ := e
    obtain ⟨b2, p2, cap2', e, hb2, _, _, hel2⟩ := hopR.out (by omega)
    simp at e
    obtain ⟨rfl, rfl⟩ := e
    obtain ⟨s, hs⟩ := get_at en.out hkn
    obtain ⟨q, hq⟩ := get_at hRl.out hkn
    obtain ⟨hcw, hfw⟩ := bcell hb02
    obtain ⟨g0, g1, g2, g3, g4, g5, g6, g7, g8, g9, g10, g11, g12, g13, g14⟩ := hel k s hs
    obtain ⟨j0, j1, j2, j3⟩ := hel2 k q hq
    have eS := fltS_snoc hs
    have eR := fltR_snoc hs hq
    have D := fun w => kdraws_any s w ((k1.out s (List.mem_of_getElem? hs)).1)
    have hkk : (k : Int) < n := by omega
    have yb : b < wr.heap.size := by omega
    have ybw : b < w2.heap.size := by omega
    have yb2 : b2 < wr.heap.size := by omega
    have hln1 : (fltS (xs.take k)).length ≤ n := by have := fltS_le (xs.take k); simp at this; omega
    have hln2 : (fltR (xs.take k) (R.take k)).length ≤ n := by rw [fltS_len _ _ (by have := hRl.out; have := en.out; simp; omega)]; omega
    clear hel hel2 hs hq
    replace hown := Lib.hid hown
    replace hownR := Lib.hid hownR
    replace hap := Lib.hid hap
    cases hd : drB s
    ·rw [show decide (s.kind ≤ 3) = false from hd] at D
     rw [hd] at eS eR
     simp only [Bool.false_eq_true, if_false, List.append_nil] at eS eR
     replace eS := Lib.hid eS
     replace eR := Lib.hid eR
     replace D := Lib.hid D
     clear hd
     go_wp2_with (first
      | (go_at_call 97; (with_reducible refine (D.out _).mono ?_); rintro e w4 ⟨rfl, hb4⟩)
      | go_in)
     have hb4r : Below wr.heap.size wr w4 := belt
     go_roundw
     case measure => simp [intOf]; omega
     case rel =>
      refine ⟨k + 1, by omega, by go_num, ?_, ?_, hap.out, hbr.trans (hb4r.mono zr)⟩
      ·rw [eS.out]; exact hown.out.below hb4r (Nat.le_refl _)
      ·rw [eR.out]; exact hownR.out.below hb4r (Nat.le_refl _)
    ·rw [show decide (s.kind ≤ 3) = true from hd] at D
     rw [hd] at eS eR
     simp only [if_true] at eS eR
     replace eS := Lib.hid eS
     replace eR := Lib.hid eR
     replace D := Lib.hid D
     have lo1 := Lib.hid (fun g hg => (own_in hown.out g hg).2)
     have lo2 := Lib.hid (fun g hg => (own_in hownR.out g hg).2)
     clear hd
     go_upto_region 11 with (first
      | (go_at_call 97; (with_reducible refine (D.out _).mono ?_); rintro e w4 ⟨rfl, hb4⟩; have hb4r : Below wr.heap.size wr w4 := belt; have z4 := hb4r.size; obtain ⟨hc4, hf4⟩ := bcell hb4r; have own4 := hown.out.below hb4r (Nat.le_refl _); have ownR4 := Lib.hid (hownR.out.below hb4r (Nat.le_refl _)); unfold Owns at own4)
      | go_in)
     have h24 : Below w2.heap.size w2 w4 := hbr.trans (hb4r.mono zr)
     have z24 := h24.size
     go_wp2_with (first
      | (at_builtin; refine wpList_append_two rfl _ _ _ rfl w2.heap.size 46 iM _ 15 72 Tryz.underlying27 hi0 hm0 hm1 hm2 rfl (by omega) w4 1 _ _ _ _ (by rfl) own4 (by rfl) rfl (by simp [Value.oneCell']) (by omega) (by unfold maxLen; omega) (by omega) ?_; intro v5 w5 hown5 hgr5 hat5 hb5; obtain ⟨hc5, hf5⟩ := bcell (h24.trans hb5); have z5 := hgr5.size; have ownR5 := Lib.hid (own_keep ownR4.out hgr5 (fun g h1 h2 => hap.out g h2 h1)); have hown5 := Lib.hid hown5)
      | (at_builtin; refine wpList_append_two rfl _ _ _ rfl w2.heap.size 42 iR _ 4 32 Tryz.underlying69 hr0 hr1 hr2 hr3 rfl (by omega) w5 1 _ _ _ _ (by rfl) ownR5.out (by rfl) rfl (by simp [Value.oneCell']) (by omega) (by unfold maxLen; omega) (by omega) ?_; intro v6 w6 hown6 hgr6 hat6 hb6)
      | go_in)
     have ap5 : Apart v5 _ := apart_next (C := w5.heap.size) hap.out lo1.out lo2.out (fun g h => (hat5 g h).imp id (fun h => by omega)) (fun g h => (own_in hown5.out g h).2) (fun g h => .inl h)
     have own5' := own_keep hown5.out hgr6 (fun g h1 h2 => ap5 g h1 h2)
     have ap6 : Apart v5 v6 := apart_next (C := w5.heap.size) hap.out lo1.out lo2.out (fun g h => (hat5 g h).imp id (fun h => by omega)) (fun g h => (own_in hown5.out g h).2) (fun g h => (hat6 g h).imp id (fun h => by omega))
     have h26 : Below w2.heap.size w2 w6 := (h24.trans hb5).trans hb6
     replace own5' := Lib.hid own5'
     replace hown6 := Lib.hid hown6
     replace ap6 := Lib.hid ap6
     go_roundw
     case measure => simp [intOf]; omega
     case rel =>
      refine ⟨k + 1, by omega, by go_num, ?_, ?_, ap6.out, h26⟩
      ·rw [eS.out]
       unfold Owns
       rw [List.length_append, List.flatMap_append]
       exact own5'.out
      ·rw [eR.out]
       unfold OwnsR
       rw [List.length_append, List.flatMap_append]
       exact hown6.out
   ·obtain rfl : k = n := by omega
    rw [List.take_of_length_le (by have := en.out; omega), List.take_of_length_le (by have := hRl.out; omega)] at hownR
    rw [List.take_of_length_le (by have := en.out; omega)] at hown
    replace hown := Lib.hid hown
    replace hownR := Lib.hid hownR
    replace hap := Lib.hid hap
    go_wp2
    go_ret3
    exact ⟨hb02.trans (hbr.mono z02), _, _, rfl, own_less hown.out z02, own_less hownR.out z02, hap.out⟩
 ·have hfS : flS xs = [] := if_neg c1
  have hfR : flR xs = [] := if_neg c1
  have hcb : (chkL xs == 0) = false := by simp [c1]
  have hcn : (chkL xs != 0) = true := by simp [c1]
  rw [hfS, hfR]
  rw [en] at C1 ⊢
  replace C1 := Lib.hid C1
  clear c1 K1
  go_enter Tryz.func46, Tryz.ntmps46
  go_wp2_with (first
   | (go_at_call 95; (with_reducible refine (C1.out _ belt).mono ?_); rintro e w3 ⟨rfl, hb3⟩)
   | go_in)
  go_ret3
  exact ⟨hb3, _, _, rfl, Owns.nil _ _, World.ownsRow_nil _ _ _ _, Apart.none _ _ _⟩
end
end Go.Proofs.YtffmomgmkpmpkaaGreatDoor
