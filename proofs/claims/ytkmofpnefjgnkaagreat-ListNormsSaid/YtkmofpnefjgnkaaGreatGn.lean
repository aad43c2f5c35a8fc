/-
  XGn: XLisRb.
-/
import Derived.Test.YtkmofpnefjgnkaaGreatGi
import Derived.Test.YtkmofpnefjgnkaaGreatGf
namespace Go.Proofs.YtkmofpnefjgnkaaGreat
open Go.RowKit
set_option linter.unusedVariables false
attribute [local go_sem] vwp vUpon_value vUpon_skip vUpon_enter vUpon_row
set_option linter.unusedSimpArgs false
set_option linter.unusedVariables false
section
set_option linter.unusedSimpArgs false
set_option linter.unusedVariables false
def ShC (wr : World) (q : Re) (wx : World) : Prop := RBox wx wr.heap.size q ∧ wr.heap.size + 1 ≤ wx.heap.size ∧ Below wr.heap.size wr wx
def Sh2 (w : World) (R : List Re) (xs : List St) (k : Nat) (M : List Re) (ov cv : Value) (wr : World) : Prop :=
  OwnsR w.heap.size wr ov (R.take k) ∧ OwnsR w.heap.size wr cv M ∧ Apart ov cv ∧ shGo M (xs.drop k) = R.drop k ∧ chkGo M.length (xs.drop k) = 0 ∧ (∀ q ∈ M, mayR q = true) ∧ M.length ≤ k ∧ Below w.heap.size w wr
theorem take_next {R : List Re} {k : Nat} {q : Re} (h : R[k]? = some q) : R.take (k + 1) = R.take k ++ [q] := by rw [List.take_add_one, h]; rfl
set_option maxHeartbeats 4000000 in
set_option maxRecDepth 100000 in
theorem kshown_any (xs : List St) (v : Value) (w : World) (hl : Row w.heap.size 15 St.enc w v xs) (k1 : ∀ s ∈ xs, s.Wf) (hc : chkL xs = 0) : Calls Tryz.prog 24 #[v] w fun e w' => ∃ v', e = .returned v' ∧ OwnsR w.heap.size w' v' (shL xs) ∧ Below w.heap.size w w' := by
  obtain ⟨iR, hr0, hr1, hr2, hr3⟩ := info_parts infoRe
  obtain ⟨s0, cap, rfl, hmax⟩ := hl.shape
  have hopen := fun h0 => row_st hl h0
  have l1 := chk_len hc
  have hg0 := chk_go hc
  obtain ⟨n, hn⟩ : ∃ n, xs.length = n := ⟨_, rfl⟩
  obtain ⟨R, hR⟩ : ∃ R, shL xs = R := ⟨_, rfl⟩
  have hRl : R.length = n := by rw [← hR, shL_len, hn]
  have hRg : shGo [] xs = R := hR
  rw [hn] at hopen hmax l1 ⊢
  rw [hR]
  clear hl hc hR
  replace hopen := Lib.hid hopen
  replace k1 := Lib.hid k1
  replace hn := Lib.hid hn
  replace hRl := Lib.hid hRl
  replace hRg := Lib.hid hRg
  replace hg0 := Lib.hid hg0
  go_enter Tryz.func24, Tryz.ntmps24
  go_wp2
  go_loopg [3, 4, 5] n (fun gg ov cv i wr => ∃ (k : Nat) (M : List Re), k ≤ n ∧ n - k ≤ gg ∧ i = .int .i64 k ∧ Sh2 w R xs k M ov cv wr)
  case atStart => exact ⟨0, [], Nat.zero_le _, by omega, rfl, World.ownsRow_nil _ _ _ _, World.ownsRow_nil _ _ _ _, Apart.none _ _ _, by simpa using hRg.out, hg0.out, by simp, Nat.le_refl _, Below.refl _ _⟩
  case round =>
    obtain ⟨k, M, hk, hgg, rfl, hrel⟩ := hrel
    obtain ⟨hown, hclp, hap, hgo, hch, hM, hMk, hbr⟩ := hrel
    have zr := hbr.size
    obtain ⟨st0, cap0, rfl⟩ := own_slice hclp
    obtain ⟨so, co, rfl⟩ := own_slice hown
    by_cases hkn : k < n
    · obtain ⟨b, p, cap', e, hb, _, _, hel⟩ := hopen.out (by omega)
      simp at e
      obtain ⟨rfl, rfl⟩ := e
      obtain ⟨s, hs⟩ := get_at hn.out hkn
      obtain ⟨g0, g1, g2, g3, g4, g5, g6, g7, g8, g9, g10, g11, g12, g13, g14⟩ := hel k s hs
      obtain ⟨hcr, hfr⟩ := bcell hbr
      obtain ⟨he0, hop, hch'⟩ := chk_cons hs hch
      rw [shGo_drop hs] at hgo
      obtain ⟨hRk, hgo'⟩ := drop_head hgo.symm
      obtain ⟨hlen, hpos⟩ := opn_len hop
      have hmr := err_may he0
      have hQ := shQ_may hM hmr
      have hN := shN_may (s := s) hM hmr
      have hle := shN_le M s
      have hkk : (k : Int) < n := by omega
      have yb : b < wr.heap.size := by omega
      have hto : (R.take k).length = k := by rw [List.length_take]; have := hRl.out; omega
      obtain ⟨m, hm⟩ : ∃ m, M.length = m := ⟨_, rfl⟩
      clear hel hgo hch g6 g7 g8 g9 g10 g11 g12 g13 g14
      rw [hto] at hown hap ⊢
      rw [hm] at hle hMk hclp hap ⊢
      replace hown := Lib.hid hown
      replace hclp := Lib.hid hclp
      replace hap := Lib.hid hap
      replace hRk := Lib.hid hRk
      replace hgo' := Lib.hid hgo'
      replace hch' := Lib.hid hch'
      replace hlen := Lib.hid hlen
      replace hpos := Lib.hid hpos
      replace he0 := Lib.hid he0
      replace hs := Lib.hid hs
      replace hM := Lib.hid hM
      replace hN := Lib.hid hN
      replace hQ := Lib.hid hQ
      replace hmr := Lib.hid hmr
      replace hm := Lib.hid hm
      replace hto := Lib.hid hto
      go_upto_if 20 with fail
      go_cut [] (fun wx => ShC wr (shQ M s) wx)
      case first =>
        by_cases hm0 : 0 < m
        · obtain ⟨t, ht, eQ⟩ := shQ_last (M := M) (s := s) (by have := hm.out; omega)
          have hmt := hM.out t (List.mem_of_getElem? ht)
          have A := fun w => kmeet1_any s.rect t w (may_wf hmr.out) (may_wf hmt)
          have hown' := hclp.out
          unfold OwnsR at hown'
          rw [hm.out] at hown'
          obtain ⟨g, rfl, hg, hgl⟩ := own_addr hown' hm0
          obtain ⟨r0, r1, r2, r3⟩ := own_rmem hclp.out ht
          rw [hm.out] at r0 r1 r2 r3
          have hm1 : (0 : Int) < m := by omega
          have hm2 : (0 : Int) ≤ (m : Int) - 1 := by omega
          have hm3 : ((m : Int) - 1).toNat = m - 1 := by omega
          have hm4 : (m : Int) - 1 < m := by omega
          have hm5 : (1 : Int) ≤ m := by omega
          generalize meetR s.rect t = q at A eQ
          replace A := Lib.hid A
          replace eQ := Lib.hid eQ
          clear ht hmt hown'
          go_wp2
          refine wp_region_steady_then (Held wr 1 [(⟨wr.heap.size, 0, none⟩, .int .i64 (s.rect).x), (⟨wr.heap.size, 1, none⟩, .int .i64 (s.rect).y), (⟨wr.heap.size, 2, none⟩, .int .i64 (s.rect).wd), (⟨wr.heap.size, 3, none⟩, .int .i64 (s.rect).ht)]) 8 (by kernel_rfl) (by kernel_rfl) (by decide) (by kernel_rfl) (by kernel_rfl) ⟨(by repeat (first | exact Below.refl _ _ | assumption | refine Below.drew ?_ | refine Below.alloc ?_ (by (try simp) <;> omega) _ | refine Below.setCell ?_ (by (try simp) <;> omega) _ | (refine Below.trans ?_ (Below.mono (by assumption) (by (try simp) <;> omega))))), (by (try simp) <;> omega), (by first | exact trivial | (simp only [Cells]; go_simp))⟩ ?_
          simp only [List.take_succ_cons, List.take_zero]
          repeat (first | (refine' wpSteady_do _ _ _; rotate_left; (focus rfl); (focus (intro w1 hS R hR; have hc := hS.cells; simp only [Cells] at hc; obtain ⟨hco, hfo⟩ := bcell hS.old; go_simp; (try go_bits); first | exact hR _ hS | (go_at_call 43; (with_reducible refine (A.out _).mono ?_); rintro e w2 ⟨rfl, hb2⟩; exact ⟨_, rfl, hR _ (hS.below hb2)⟩))); simp only [Act.put, List.setIfInBounds_toArray, List.set_cons_zero, List.set_cons_succ]) | (refine wpSteady_pass ?_ ?_; (focus rfl); simp only [Act.put, List.setIfInBounds_toArray, List.set_cons_zero, List.set_cons_succ]))
          refine wpSteady_nil (fun u9 hS9 => ?_)
          have hc9 := hS9.cells; have hb9 := hS9.old; have hz9 := hS9.size; clear hS9; simp only [Cells] at hc9; obtain ⟨hco9, hfo9⟩ := bcell hb9
          simp only [List.drop_succ_cons, List.drop_zero, List.drop_nil]
          go_wp2
          go_meet
          case rel =>
            rw [eQ.out]
            exact ⟨⟨⟨by go_simp, by go_simp, by go_simp, by go_simp⟩, ⟨by go_simp, by go_simp, by go_simp, by go_simp⟩⟩, by simp; omega, (by repeat (first | exact Below.refl _ _ | assumption | refine Below.drew ?_ | refine Below.alloc ?_ (by (try simp) <;> omega) _ | refine Below.setCell ?_ (by (try simp) <;> omega) _ | (refine Below.trans ?_ (Below.mono (by assumption) (by (try simp) <;> omega)))))⟩
        · have e : M = [] := List.length_eq_zero_iff.1 (by have := hm.out; omega)
          have hm1 : m = 0 := by omega
          subst e
          subst hm1
          go_wp2
          go_meet
          case rel =>
            rw [shQ_none]
            exact ⟨⟨⟨by go_simp, by go_simp, by go_simp, by go_simp⟩, ⟨by go_simp, by go_simp, by go_simp, by go_simp⟩⟩, by simp, (by repeat (first | exact Below.refl _ _ | assumption | refine Below.drew ?_ | refine Below.alloc ?_ (by (try simp) <;> omega) _ | refine Below.setCell ?_ (by (try simp) <;> omega) _ | (refine Below.trans ?_ (Below.mono (by assumption) (by (try simp) <;> omega)))))⟩
      case rest =>
        obtain ⟨⟨⟨x1, x2, x3, x4⟩, ⟨z1, z2, z3, z4⟩⟩, zc, hbc⟩ := hcut
        have E := fun w => kempty1_any (shQ M s) w (may_wf hQ.out)
        obtain ⟨q, hq⟩ : ∃ q, shQ M s = q := ⟨_, rfl⟩
        obtain ⟨eb, heb⟩ : ∃ eb, emptyR q = eb := ⟨_, rfl⟩
        rw [hq] at x1 x2 x3 x4 E
        rw [heb] at E
        replace E := Lib.hid E
        have heb' : emptyR (shQ M s) = eb := by rw [hq]; exact heb
        replace hq := Lib.hid hq
        replace heb' := Lib.hid heb'
        clear heb
        have yl0 : wr.heap.size < wc.heap.size := by omega
        go_upto_if 30 with (first
          | (go_at_call 44; (with_reducible refine (E.out _).mono ?_); rintro e w2 ⟨rfl, hb2⟩; obtain ⟨hc2, hf2⟩ := bcell hb2; have z2 := hb2.size)
          | go_in)
        have y20 : wr.heap.size < w2.heap.size := by omega
        have hbc2 : Below wr.heap.size wr w2 := hbc.trans (hb2.mono hbc.size)
        go_cut [] (fun wx => ShC wr (shR M s) wx)
        case first =>
          cases eb
          · go_wp2
            go_meet
            case rel =>
              rw [shR_f heb'.out, hq.out]
              exact ⟨⟨⟨by go_simp, by go_simp, by go_simp, by go_simp⟩, ⟨by go_simp, by go_simp, by go_simp, by go_simp⟩⟩, by omega, hbc2⟩
          · go_wp2
            go_meet
            case rel =>
              rw [shR_t heb'.out]
              exact ⟨⟨⟨by go_simp; rfl, by go_simp; rfl, by go_simp; rfl, by go_simp; rfl⟩, ⟨by go_simp, by go_simp, by go_simp, by go_simp⟩⟩, by simp; omega, (by repeat (first | exact Below.refl _ _ | assumption | refine Below.drew ?_ | refine Below.alloc ?_ (by (try simp) <;> omega) _ | refine Below.setCell ?_ (by (try simp) <;> omega) _ | (refine Below.trans ?_ (Below.mono (by assumption) (by (try simp) <;> omega)))))⟩
        case rest =>
          (try clear hb2); (try clear hc2); (try clear hf2); (try clear hbc2); (try clear x1 x2 x3 x4); (try clear z1 z2 z3 z4); (try clear E); (try clear heb'); (try clear hq)
          obtain ⟨⟨⟨x1, x2, x3, x4⟩, ⟨z1, z2, z3, z4⟩⟩, zc, hbc⟩ := hcut
          have hown2 := OwnsR.below hown.out hbc (Nat.le_refl _)
          have hclp2 := OwnsR.below hclp.out hbc (Nat.le_refl _)
          have hbrc := hbr.trans (hbc.mono zr)
          have zrc := hbrc.size
          obtain ⟨hcc, hfc⟩ := bcell hbrc
          obtain ⟨q, hq⟩ : ∃ q, shR M s = q := ⟨_, rfl⟩
          rw [hq] at x1 x2 x3 x4 hRk
          have yl0 : wr.heap.size < wc.heap.size := by omega
          have lo := fun g h => (own_block_lt hown.out g h).2
          have lc := fun g h => (own_block_lt hclp.out g h).2
          have hcs : [.int .i64 q.x, .int .i64 q.y, .int .i64 q.wd, .int .i64 q.ht] = q.enc := rfl
          replace hcs := Lib.hid hcs
          replace lo := Lib.hid lo
          replace lc := Lib.hid lc
          replace hclp2 := Lib.hid hclp2
          unfold OwnsR at hown2
          rw [hto.out] at hown2
          clear z1 z2 z3 z4 hcr hfr
          go_upto_region 11 with (first
            | (at_builtin; refine wpList_append_two rfl _ _ _ rfl w.heap.size 44 iR _ 4 32 Tryz.underlying25 hr0 hr1 hr2 hr3 rfl (by omega) wc 1 _ _ _ _ (by rfl) hown2 (by rfl) rfl (by simp [Value.oneCell']) (by omega) (by unfold maxLen; omega) (by omega) ?_; intro v6 w6 hown6 hgr6 htw6 hb6)
            | go_in)
          rw [flatR_snoc hcs.out, ← take_next hRk.out] at hown6
          have hown6 : OwnsR w.heap.size w6 v6 (R.take (k + 1)) := by
            unfold OwnsR
            rw [List.length_take, Nat.min_eq_left (by have := hRl.out; omega)]
            exact hown6
          have hclp6 : OwnsR w.heap.size w6 (.slice st0 m cap0) M := own_keep hclp2.out hgr6 (fun g h1 h2 => hap.out g h2 h1)
          have hap6 : Apart v6 (.slice st0 m cap0) := fun g h1 h2 => by
            rcases htw6 g h1 with h | h
            · exact hap.out g h h2
            · have := lc.out g h2; omega
          have far6 := fun o => grown_far hgr6 yl0 (fun g h => by have := lo.out g h; omega) o
          have x1 := (far6 0).trans x1
          have x2 := (far6 1).trans x2
          have x3 := (far6 2).trans x3
          have x4 := (far6 3).trans x4
          have hb06 : Below w.heap.size w w6 := hbrc.trans hb6
          have z06 := hb06.size
          have zc6 := hgr6.size
          have yl6 : wr.heap.size < w6.heap.size := by omega
          have lc6 : ∀ g, (Value.slice st0 m cap0).ownBlock = some g → g < wr.heap.size := lc.out
          obtain ⟨so6, co6, rfl⟩ := own_slice hown6
          have lo6 := fun g h => (own_block_lt hown6 g h).2
          have hl6 : (R.take (k + 1)).length = k + 1 := by rw [List.length_take]; have := hRl.out; omega
          rw [hl6] at hown6 hap6 lo6 ⊢
          clear far6 hown2 hgr6 htw6 hb6 hbc
          replace hown6 := Lib.hid hown6
          replace hap6 := Lib.hid hap6
          replace lo6 := Lib.hid lo6
          replace lc6 := Lib.hid lc6
          replace hl6 := Lib.hid hl6
          obtain ⟨hcc6, hfc6⟩ := bcell hb06
          have yb6 : b < w.heap.size := hb
          by_cases q4 : s.kind = 4
          · have eN := shN_4 (M := M) q4
            rw [hq] at eN
            rw [q4] at g0
            have hclp7 := hclp6
            unfold OwnsR at hclp7
            rw [hm.out] at hclp7
            replace eN := Lib.hid eN
            replace hclp6 := Lib.hid hclp6
            clear q4 hq
            go_wp2_with (first
              | ((at_builtin; refine wpList_append_two rfl _ _ _ rfl w.heap.size 44 iR _ 4 32 Tryz.underlying25 hr0 hr1 hr2 hr3 rfl (by omega) w6 1 _ _ _ _ (by rfl) hclp7 (by rfl) rfl (by simp [Value.oneCell']) (by omega) (by unfold maxLen; omega) (by omega) ?_; intro v7 w7 hown7 hgr7 htw7 hb7); obtain ⟨hcc7, hfc7⟩ := bcell (hb06.trans hb7))
              | go_in)
            rw [flatR_snoc hcs.out, ← eN.out] at hown7
            have hb7' : Below w.heap.size w w7 := hb06.trans hb7
            have hown8 : OwnsR w.heap.size w7 (.slice so6 (k + 1) co6) (R.take (k + 1)) := own_keep hown6.out hgr7 (fun g h1 h2 => hap6.out g h1 h2)
            have hap7 : Apart (.slice so6 (k + 1) co6) v7 := fun g h1 h2 => by
              rcases htw7 g h2 with h | h
              · exact hap6.out g h1 h
              · have := lo6.out g h1; omega
            replace hown7 := Lib.hid hown7
            replace hown8 := Lib.hid hown8
            replace hap7 := Lib.hid hap7
            clear hgr7 htw7 hclp7
            go_wp2
            go_roundg (n - (k + 1))
            case measure => omega
            case rel =>
              refine ⟨k + 1, shN M s, by omega, by omega, by go_num, hown8.out, ?_, hap7.out, hgo'.out.symm, ?_, hN.out, by rw [eN.out]; simp; have := hm.out; omega, hb7'⟩
              · unfold OwnsR
                rw [show (shN M s).length = m + 1 by rw [eN.out]; simp [hm.out]]
                exact hown7.out
              · rw [hlen.out]; exact hch'.out
          · by_cases q5 : s.kind = 5
            · have eN := shN_5 (M := M) q5
              have hp := hpos.out q5
              rw [q5] at g0
              have hpop : OwnsR w.heap.size w6 (.slice st0 (M.length - 1) cap0) M.dropLast := own_pop (by rw [hm.out]; exact hclp6) hp
              rw [← eN, hm.out] at hpop
              rw [hm.out] at hp
              have hclp7 := hclp6
              unfold OwnsR at hclp7
              rw [hm.out] at hclp7
              obtain ⟨g, rfl, hg, hgl⟩ := own_addr hclp7 hp
              have hcap : m ≤ cap0 := (own_len hclp7).1
              have hap8 : Apart (.slice so6 (k + 1) co6) (.slice (some ⟨g, 0, none⟩) (m - 1) cap0) := fun g' h1 h2 => hap6.out g' h1 h2
              replace hpop := Lib.hid hpop
              replace eN := Lib.hid eN
              replace hap8 := Lib.hid hap8
              have p1 : (0 : Int) ≤ (m : Int) - 1 := by omega
              have p2 : (1 : Int) ≤ m := by omega
              have p3 : (m : Int) - 1 ≤ cap0 := by omega
              have p4 : ((m : Int) - 1).toNat = m - 1 := by omega
              clear q4 q5 hclp6 hclp7 hq
              go_wp2
              go_roundg (n - (k + 1))
              case measure => omega
              case rel =>
                refine ⟨k + 1, shN M s, by omega, by omega, by go_num, hown6.out, hpop.out, hap8.out, hgo'.out.symm, ?_, hN.out, by rw [eN.out, List.length_dropLast]; have := hm.out; omega, hb06⟩
                rw [hlen.out]; exact hch'.out
            · have eN := shN_o (M := M) q4 q5
              replace hclp6 := Lib.hid hclp6
              replace eN := Lib.hid eN
              clear hq
              go_wp2
              go_roundg (n - (k + 1))
              case measure => omega
              case rel =>
                refine ⟨k + 1, shN M s, by omega, by omega, by go_num, hown6.out, by rw [eN.out]; exact hclp6.out, hap6.out, hgo'.out.symm, ?_, hN.out, by rw [eN.out]; have := hm.out; omega, hb06⟩
                rw [hlen.out]; exact hch'.out
    · obtain rfl : k = n := by omega
      rw [List.take_of_length_le (by have := hRl.out; omega)] at hown ⊢
      replace hown := Lib.hid hown
      replace hclp := Lib.hid hclp
      replace hap := Lib.hid hap
      replace hgo := Lib.hid hgo
      replace hch := Lib.hid hch
      go_wp2
      go_ret
      exact ⟨_, rfl, hown.out, hbr⟩
end
end Go.Proofs.YtkmofpnefjgnkaaGreat
