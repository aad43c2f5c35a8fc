/-
  Where strokes show: list.shown.
-/
import Derived.Test.YtkmofpnefjgnkaaLisX
import Derived.Test.YtkmofpnefjgnkaaMid
import Derived.Maps.AppendAt
import Derived.Deep.DeepCutAuto
namespace Go.Proofs.Ytkmofpnefjgnkaa
open Go.RowKit
set_option linter.unusedVariables false
attribute [local go_sem] vwp vUpon_value vUpon_skip vUpon_enter vUpon_row
set_option linter.unusedSimpArgs false
set_option linter.unusedVariables false
/-- A rectangle in a block of the call's own. -/
def RBox (w : World) (b : Nat) (q : Re) : Prop :=
  (w.cell? ⟨b, 0, none⟩ = some (.int .i64 q.x) ∧ w.cell? ⟨b, 1, none⟩ = some (.int .i64 q.y) ∧ w.cell? ⟨b, 2, none⟩ = some (.int .i64 q.wd) ∧ w.cell? ⟨b, 3, none⟩ = some (.int .i64 q.ht)) ∧
  (w.frozen? ⟨b, 0, none⟩ = false ∧ w.frozen? ⟨b, 1, none⟩ = false ∧ w.frozen? ⟨b, 2, none⟩ = false ∧ w.frozen? ⟨b, 3, none⟩ = false)
def ShCut (wr : World) (s : St) (q : Re) (wx : World) : Prop := wx.cell? ⟨wr.heap.size, 0, none⟩ = some (.int .u8 s.kind) ∧ RBox wx (wr.heap.size + 1) q ∧ wr.heap.size + 1 + 1 ≤ wx.heap.size ∧ Below wr.heap.size wr wx
def ShRel (w : World) (R : List Re) (xs : List St) (n k : Nat) (M : List Re) (st : Value) (wr : World) : Prop :=
  OwnsR (w.heap.size + 1) wr st M ∧ Blk wr w.heap.size ((R.take k ++ List.replicate (n - k) Re.none).flatMap Re.enc) 41 ∧ shGo M (xs.drop k) = R.drop k ∧ chkGo M.length (xs.drop k) = 0 ∧ (∀ q ∈ M, mayR q = true) ∧ M.length ≤ k ∧ Below w.heap.size w wr
theorem shQ_none (s : St) : shQ [] s = s.rect := rfl
theorem shQ_last {M : List Re} {s : St} (h : 0 < M.length) : ∃ t, M[M.length - 1]? = some t ∧ shQ M s = meetR s.rect t := by
  obtain ⟨t, ht⟩ : ∃ t, M[M.length - 1]? = some t := ⟨M[M.length - 1]'(by omega), List.getElem?_eq_getElem _⟩
  refine ⟨t, ht, ?_⟩
  unfold shQ
  rw [List.getLast?_eq_getElem?, ht]
theorem drop_head {α : Type} {R : List α} {k : Nat} {a : α} {r : List α} (h : R.drop k = a :: r) : R[k]? = some a ∧ R.drop (k + 1) = r := by
  have h1 : (R.drop k)[0]? = some a := by rw [h]; rfl
  rw [List.getElem?_drop] at h1
  refine ⟨by simpa using h1, ?_⟩
  have : (R.drop k).drop 1 = r := by rw [h]; rfl
  rw [List.drop_drop] at this
  exact this
theorem blk_rmem {w : World} {b k : Nat} {D : List Re} {q : Re} {e : TypeId} (h : Blk w b (D.flatMap Re.enc) e) (hq : D[k]? = some q) : RMem w b (k * 4) q := by
  have key : ∀ i u, i < 4 → q.enc[i]? = some u → w.cell? ⟨b, k * 4 + i, none⟩ = some u := by
    intro i u hi hu
    refine h.cell ?_
    rw [flat_get Re.enc_len (by omega)]
    rw [show (k * 4 + i) / 4 = k by omega, show (k * 4 + i) % 4 = i by omega, hq]
    exact hu
  exact ⟨key 0 _ (by omega) rfl, key 1 _ (by omega) rfl, key 2 _ (by omega) rfl, key 3 _ (by omega) rfl⟩
theorem blk_put {w : World} {b k : Nat} {D : List Re} {p : Re} {e : TypeId} (q : Re) (h : Blk w b (D.flatMap Re.enc) e) (hp : D[k]? = some p) :
    Blk ((((w.setCell ⟨b, k * 4, none⟩ (.int .i64 q.x)).setCell ⟨b, k * 4 + 1, none⟩ (.int .i64 q.y)).setCell ⟨b, k * 4 + 2, none⟩ (.int .i64 q.wd)).setCell ⟨b, k * 4 + 3, none⟩ (.int .i64 q.ht)) b ((D.set k q).flatMap Re.enc) e := by
  have := (((h.set (k * 4) (.int .i64 q.x)).set (k * 4 + 1) (.int .i64 q.y)).set (k * 4 + 2) (.int .i64 q.wd)).set (k * 4 + 3) (.int .i64 q.ht)
  rw [← flat_put q hp]
  exact this
theorem mid_put {R : List Re} {k n : Nat} {q : Re} (h : R[k]? = some q) (hn : R.length = n) : (R.take k ++ List.replicate (n - k) Re.none).set k q = R.take (k + 1) ++ List.replicate (n - (k + 1)) Re.none := by
  obtain ⟨hk, e⟩ := List.getElem?_eq_some_iff.1 h
  have hl : (R.take k).length = k := by simp; omega
  rw [List.set_append, if_neg (by omega), hl, Nat.sub_self, List.take_add_one, h, show n - k = (n - (k + 1)) + 1 by omega, List.replicate_succ, List.set_cons_zero]
  simp
theorem mid_none {R : List Re} {k n : Nat} (hk : k < n) (hn : R.length = n) : (R.take k ++ List.replicate (n - k) Re.none)[k]? = some Re.none := by
  have hl : (R.take k).length = k := by simp; omega
  rw [List.getElem?_append_right (by omega), hl, Nat.sub_self, List.getElem?_replicate, if_pos (by omega)]
theorem flatR_snoc {l : List Re} {t : Re} {cs : List Value} (h : cs = t.enc) : l.flatMap Re.enc ++ cs = (l ++ [t]).flatMap Re.enc := by
  subst h
  rw [List.flatMap_append]
  simp
theorem shR_t {M : List Re} {s : St} (h : emptyR (shQ M s) = true) : shR M s = Re.none := by unfold shR; rw [if_pos h]
theorem shR_f {M : List Re} {s : St} (h : emptyR (shQ M s) = false) : shR M s = shQ M s := by unfold shR; rw [if_neg (by simp [h])]
theorem shN_4 {M : List Re} {s : St} (h : s.kind = 4) : shN M s = M ++ [shR M s] := by unfold shN; rw [if_pos h]
theorem shN_5 {M : List Re} {s : St} (h : s.kind = 5) : shN M s = M.dropLast := by unfold shN; rw [if_neg (by omega), if_pos h]
theorem shN_o {M : List Re} {s : St} (h : s.kind ≠ 4) (h5 : s.kind ≠ 5) : shN M s = M := by unfold shN; rw [if_neg h, if_neg h5]
set_option maxHeartbeats 2000000 in
set_option maxRecDepth 100000 in
theorem lshown_any (xs : List St) (v : Value) (w : World) (hl : Row w.heap.size 15 St.enc w v xs) (k1 : ∀ s ∈ xs, s.Wf) (hc : chkL xs = 0) : Calls Try.prog 42 #[v] w fun e w' => ∃ v', e = .returned v' ∧ OwnsR w.heap.size w' v' (shL xs) ∧ Below w.heap.size w w' := by
  obtain ⟨iR, hr0, hr1, hr2, hr3⟩ := info_parts infoRe
  obtain ⟨s0, cap, rfl, hmax⟩ := hl.shape
  have hopen := fun h0 => row_st hl h0
  have hz := fun s hs => chk_mem hc s hs
  have l1 := chk_len hc
  have hg0 := chk_go hc
  obtain ⟨n, hn⟩ : ∃ n, xs.length = n := ⟨_, rfl⟩
  obtain ⟨R, hR⟩ : ∃ R, shL xs = R := ⟨_, rfl⟩
  have hRl : R.length = n := by rw [← hR, shL_len, hn]
  have hRg : shGo [] xs = R := hR
  rw [hn] at hopen hmax l1 ⊢
  rw [hR]
  have hmk := make_rects n (by omega) w
  clear hl hc hR
  replace hopen := Lib.hid hopen
  replace hz := Lib.hid hz
  replace k1 := Lib.hid k1
  replace hn := Lib.hid hn
  replace hRl := Lib.hid hRl
  replace hRg := Lib.hid hRg
  replace hg0 := Lib.hid hg0
  go_enter Try.func42, Try.ntmps42
  go_wp2
  go_loopg [4, 14] n (fun gg st i wr => ∃ (k : Nat) (M : List Re), k ≤ n ∧ n - k ≤ gg ∧ i = .int .i64 k ∧ ShRel w R xs n k M st wr)
  case atStart => exact ⟨0, [], Nat.zero_le _, by omega, rfl, World.ownsRow_nil _ _ _ _, by simpa using Blk.new _ _ _, by simpa using hRg.out, hg0.out, by simp, Nat.le_refl _, (by repeat (first | exact Below.refl _ _ | assumption | refine Below.drew ?_ | refine Below.alloc ?_ (by (try simp) <;> omega) _ | refine Below.setCell ?_ (by (try simp) <;> omega) _))⟩
  case round =>
    obtain ⟨k, M, hk, hgg, rfl, hrel⟩ := hrel
    by_cases hkn : k < n
    · obtain ⟨hown, hblk, hgo, hch, hM, hMk, hbr⟩ := hrel
      have zr := hbr.size
      obtain ⟨b, p, cap', e, hb, _, _, hel⟩ := hopen.out (by omega)
      simp at e
      obtain ⟨rfl, rfl⟩ := e
      obtain ⟨s, hs⟩ : ∃ s, xs[k]? = some s := ⟨xs[k]'(by have := hn.out; omega), List.getElem?_eq_getElem _⟩
      obtain ⟨g0, g1, g2, g3, g4, g5, g6, g7, g8, g9, g10, g11, g12, g13, g14⟩ := hel k s hs
      obtain ⟨hcr, hfr⟩ := bcell hbr
      obtain ⟨he0, hop, hch'⟩ := chk_cons hs hch
      rw [shGo_drop hs] at hgo
      obtain ⟨hRk, hgo'⟩ := drop_head hgo.symm
      obtain ⟨hlen, hpos⟩ := opn_len hop
      have hmr := err_may he0
      have hQ := shQ_may hM hmr
      have hN := shN_may (s := s) hM hmr
      have hle := shN_le M s
      have hMl : M.length ≤ 16384 := by omega
      have hkk : (k : Int) < n := by omega
      have yb : b < wr.heap.size := by omega
      obtain ⟨st0, cap0, rfl⟩ := own_slice hown
      obtain ⟨m, hm⟩ : ∃ m, M.length = m := ⟨_, rfl⟩
      clear hel hgo hch
      replace hown := Lib.hid hown
      replace hRk := Lib.hid hRk
      replace hgo' := Lib.hid hgo'
      replace hch' := Lib.hid hch'
      replace hlen := Lib.hid hlen
      replace hpos := Lib.hid hpos
      replace he0 := Lib.hid he0
      replace hs := Lib.hid hs
      replace hM := Lib.hid hM
      replace hN := Lib.hid hN
      replace hQ := Lib.hid hQ
      replace hmr := Lib.hid hmr
      rw [hm] at hMl hle ⊢
      replace hm := Lib.hid hm
      go_upto_if 24 with fail
      go_cut [] (fun wx => ShCut wr s (shQ M s) wx)
      case first =>
        by_cases hm0 : 0 < m
        · obtain ⟨t, ht, eQ⟩ := shQ_last (M := M) (s := s) (by have := hm.out; omega)
          have hmt := hM.out t (List.mem_of_getElem? ht)
          have A := fun w => meet_any s.rect t w (may_wf hmr.out) (may_wf hmt)
          have hown' := hown.out
          obtain ⟨g, rfl, hg, hgl⟩ := own_addr hown' (by have := hm.out; omega)
          obtain ⟨r0, r1, r2, r3⟩ := own_rmem hown' ht
          rw [hm.out] at r0 r1 r2 r3
          have hm1 : (0 : Int) < m := by omega
          have hm2 : (0 : Int) ≤ (m : Int) - 1 := by omega
          have hm3 : ((m : Int) - 1).toNat = m - 1 := by omega
          have hm4 : (m : Int) - 1 < m := by omega
          have hm5 : (1 : Int) ≤ m := by omega
          generalize meetR s.rect t = q at A eQ
          replace A := Lib.hid A
          replace eQ := Lib.hid eQ
          clear ht hmt hown'
          go_wp2
          refine wp_region_steady_then (Held wr 2 [(⟨wr.heap.size, 0, none⟩, .int .u8 (s).kind), (⟨wr.heap.size + 1, 0, none⟩, .int .i64 (s.rect).x), (⟨wr.heap.size + 1, 1, none⟩, .int .i64 (s.rect).y), (⟨wr.heap.size + 1, 2, none⟩, .int .i64 (s.rect).wd), (⟨wr.heap.size + 1, 3, none⟩, .int .i64 (s.rect).ht)]) 7 (by kernel_rfl) (by kernel_rfl) (by decide) (by kernel_rfl) (by kernel_rfl) ⟨(by repeat (first | exact Below.refl _ _ | assumption | refine Below.drew ?_ | refine Below.alloc ?_ (by (try simp) <;> omega) _ | refine Below.setCell ?_ (by (try simp) <;> omega) _ | (refine Below.trans ?_ (Below.mono (by assumption) (by (try simp) <;> omega))))), (by (try simp) <;> omega), (by first | exact trivial | (simp only [Cells]; go_simp))⟩ ?_
          simp only [List.take_succ_cons, List.take_zero]
          repeat (first | (refine' wpSteady_do _ _ _; rotate_left; (focus rfl); (focus (intro w1 hS R hR; have hc := hS.cells; simp only [Cells] at hc; obtain ⟨hco, hfo⟩ := bcell hS.old; go_simp; (try go_bits); first | exact hR _ hS | (go_at_call 45; (with_reducible refine (A.out _).mono ?_); rintro e w2 ⟨rfl, hb2⟩; exact ⟨_, rfl, hR _ (hS.below hb2)⟩))); simp only [Act.put, List.setIfInBounds_toArray, List.set_cons_zero, List.set_cons_succ]) | (refine wpSteady_pass ?_ ?_; (focus rfl); simp only [Act.put, List.setIfInBounds_toArray, List.set_cons_zero, List.set_cons_succ]))
          refine wpSteady_nil (fun u9 hS9 => ?_)
          have hc9 := hS9.cells; have hb9 := hS9.old; have hz9 := hS9.size; clear hS9; simp only [Cells] at hc9; obtain ⟨hco9, hfo9⟩ := bcell hb9
          simp only [List.drop_succ_cons, List.drop_zero, List.drop_nil]
          go_wp2
          go_meet
          case rel =>
            rw [eQ.out]
            exact ⟨by go_simp, ⟨⟨by go_simp, by go_simp, by go_simp, by go_simp⟩, ⟨by go_simp, by go_simp, by go_simp, by go_simp⟩⟩, by simp; omega, (by repeat (first | exact Below.refl _ _ | assumption | refine Below.drew ?_ | refine Below.alloc ?_ (by (try simp) <;> omega) _ | refine Below.setCell ?_ (by (try simp) <;> omega) _ | (refine Below.trans ?_ (Below.mono (by assumption) (by (try simp) <;> omega)))))⟩
        · have e : M = [] := List.length_eq_zero_iff.1 (by have := hm.out; omega)
          have hm1 : m = 0 := by omega
          subst e
          subst hm1
          go_wp2
          go_meet
          case rel =>
            rw [shQ_none]
            exact ⟨by go_simp, ⟨⟨by go_simp, by go_simp, by go_simp, by go_simp⟩, ⟨by go_simp, by go_simp, by go_simp, by go_simp⟩⟩, by simp, (by repeat (first | exact Below.refl _ _ | assumption | refine Below.drew ?_ | refine Below.alloc ?_ (by (try simp) <;> omega) _ | refine Below.setCell ?_ (by (try simp) <;> omega) _ | (refine Below.trans ?_ (Below.mono (by assumption) (by (try simp) <;> omega)))))⟩
      case rest =>
        obtain ⟨x0, ⟨⟨x1, x2, x3, x4⟩, ⟨z1, z2, z3, z4⟩⟩, zc, hbc⟩ := hcut
        have E := fun w => empty_any (shQ M s) w (may_wf hQ.out)
        obtain ⟨q, hq⟩ : ∃ q, shQ M s = q := ⟨_, rfl⟩
        obtain ⟨eb, heb⟩ : ∃ eb, emptyR q = eb := ⟨_, rfl⟩
        rw [hq] at x1 x2 x3 x4 E
        rw [heb] at E
        replace E := Lib.hid E
        have heb' : emptyR (shQ M s) = eb := by rw [hq]; exact heb
        replace hq := Lib.hid hq
        replace heb' := Lib.hid heb'
        clear heb
        have ylt := hblk.lt
        have hbrc := hbr.trans (hbc.mono zr)
        have zrc := hbrc.size
        clear g0 g1 g2 g3 g4 g5 g6 g7 g8 g9 g10 g11 g12 g13 g14 hcr hfr
        replace hblk := Lib.hid hblk
        replace hbr := Lib.hid hbr
        have yl0 : wr.heap.size < wc.heap.size := by omega
        have yl1 : wr.heap.size + 1 < wc.heap.size := by omega
        go_upto_if 33 with (first
          | (go_at_call 44; (with_reducible refine (E.out _).mono ?_); rintro e w2 ⟨rfl, hb2⟩; obtain ⟨hc2, hf2⟩ := bcell hb2; have z2 := hb2.size)
          | go_in)
        have y20 : wr.heap.size < w2.heap.size := by omega
        have y21 : wr.heap.size + 1 < w2.heap.size := by omega
        have hbc2 : Below wr.heap.size wr w2 := hbc.trans (hb2.mono hbc.size)
        go_cut [] (fun wx => ShCut wr s (shR M s) wx)
        case first =>
          cases eb
          · go_wp2
            go_meet
            case rel =>
              rw [shR_f heb'.out, hq.out]
              exact ⟨by go_simp, ⟨⟨by go_simp, by go_simp, by go_simp, by go_simp⟩, ⟨by go_simp, by go_simp, by go_simp, by go_simp⟩⟩, by omega, hbc2⟩
          · go_wp2
            go_meet
            case rel =>
              rw [shR_t heb'.out]
              exact ⟨by go_simp, ⟨⟨by go_simp; rfl, by go_simp; rfl, by go_simp; rfl, by go_simp; rfl⟩, ⟨by go_simp, by go_simp, by go_simp, by go_simp⟩⟩, by simp; omega, (by repeat (first | exact Below.refl _ _ | assumption | refine Below.drew ?_ | refine Below.alloc ?_ (by (try simp) <;> omega) _ | refine Below.setCell ?_ (by (try simp) <;> omega) _ | (refine Below.trans ?_ (Below.mono (by assumption) (by (try simp) <;> omega)))))⟩
        case rest =>
          (try clear hb2); (try clear hc2); (try clear hf2); (try clear hbc2); (try clear x0 x1 x2 x3 x4); (try clear z1 z2 z3 z4); (try clear E); (try clear heb'); (try clear hq)
          obtain ⟨x0, ⟨⟨x1, x2, x3, x4⟩, ⟨z1, z2, z3, z4⟩⟩, zc, hbc⟩ := hcut
          have hblk2 := hblk.out.below hbc ylt
          have hown2 := hown.out.below hbc (Nat.le_refl _)
          have hbrc := hbr.out.trans (hbc.mono zr)
          have zrc := hbrc.size
          obtain ⟨r0, r1, r2, r3⟩ := blk_rmem hblk2 (mid_none hkn hRl.out)
          have hfz := hblk2.free
          obtain ⟨q, hq⟩ : ∃ q, shR M s = q := ⟨_, rfl⟩
          rw [hq] at x1 x2 x3 x4
          replace hown2 := Lib.hid hown2
          replace hblk2 := Lib.hid hblk2
          have yl0 : wr.heap.size < wc.heap.size := by omega
          have yl1 : wr.heap.size + 1 < wc.heap.size := by omega
          have hne : w.heap.size ≠ wr.heap.size := by omega
          have hne1 : w.heap.size ≠ wr.heap.size + 1 := by omega
          go_upto_region 13 with fail
          have hblk3 := blk_put (b := w.heap.size) q hblk2.out (mid_none hkn hRl.out)
          rw [mid_put (by rw [← hq]; exact hRk.out) hRl.out] at hblk3
          have hown3 : OwnsR (w.heap.size + 1) ((((wc.setCell ⟨w.heap.size, k * 4, none⟩ (.int .i64 q.x)).setCell ⟨w.heap.size, k * 4 + 1, none⟩ (.int .i64 q.y)).setCell ⟨w.heap.size, k * 4 + 2, none⟩ (.int .i64 q.wd)).setCell ⟨w.heap.size, k * 4 + 3, none⟩ (.int .i64 q.ht)) (.slice st0 M.length cap0) M := by
            have hne : ∀ g, (Value.slice st0 M.length cap0).ownBlock = some g → g ≠ w.heap.size := fun g hg => by have := (own_block_lt hown2.out g hg).1; omega
            exact own_other (own_other (own_other (own_other hown2.out hne _) hne _) hne _) hne _
          have hb3 : Below w.heap.size w ((((wc.setCell ⟨w.heap.size, k * 4, none⟩ (.int .i64 q.x)).setCell ⟨w.heap.size, k * 4 + 1, none⟩ (.int .i64 q.y)).setCell ⟨w.heap.size, k * 4 + 2, none⟩ (.int .i64 q.wd)).setCell ⟨w.heap.size, k * 4 + 3, none⟩ (.int .i64 q.ht)) := (((hbrc.setCell (Nat.le_refl _) _).setCell (Nat.le_refl _) _).setCell (Nat.le_refl _) _).setCell (Nat.le_refl _) _
          have c0 : ((((wc.setCell ⟨w.heap.size, k * 4, none⟩ (.int .i64 q.x)).setCell ⟨w.heap.size, k * 4 + 1, none⟩ (.int .i64 q.y)).setCell ⟨w.heap.size, k * 4 + 2, none⟩ (.int .i64 q.wd)).setCell ⟨w.heap.size, k * 4 + 3, none⟩ (.int .i64 q.ht)).cell? ⟨wr.heap.size, 0, none⟩ = some (.int .u8 s.kind) := by go_simp
          have c1 : ((((wc.setCell ⟨w.heap.size, k * 4, none⟩ (.int .i64 q.x)).setCell ⟨w.heap.size, k * 4 + 1, none⟩ (.int .i64 q.y)).setCell ⟨w.heap.size, k * 4 + 2, none⟩ (.int .i64 q.wd)).setCell ⟨w.heap.size, k * 4 + 3, none⟩ (.int .i64 q.ht)).cell? ⟨wr.heap.size + 1, 0, none⟩ = some (.int .i64 q.x) := by go_simp
          have c2 : ((((wc.setCell ⟨w.heap.size, k * 4, none⟩ (.int .i64 q.x)).setCell ⟨w.heap.size, k * 4 + 1, none⟩ (.int .i64 q.y)).setCell ⟨w.heap.size, k * 4 + 2, none⟩ (.int .i64 q.wd)).setCell ⟨w.heap.size, k * 4 + 3, none⟩ (.int .i64 q.ht)).cell? ⟨wr.heap.size + 1, 1, none⟩ = some (.int .i64 q.y) := by go_simp
          have c3 : ((((wc.setCell ⟨w.heap.size, k * 4, none⟩ (.int .i64 q.x)).setCell ⟨w.heap.size, k * 4 + 1, none⟩ (.int .i64 q.y)).setCell ⟨w.heap.size, k * 4 + 2, none⟩ (.int .i64 q.wd)).setCell ⟨w.heap.size, k * 4 + 3, none⟩ (.int .i64 q.ht)).cell? ⟨wr.heap.size + 1, 2, none⟩ = some (.int .i64 q.wd) := by go_simp
          have c4 : ((((wc.setCell ⟨w.heap.size, k * 4, none⟩ (.int .i64 q.x)).setCell ⟨w.heap.size, k * 4 + 1, none⟩ (.int .i64 q.y)).setCell ⟨w.heap.size, k * 4 + 2, none⟩ (.int .i64 q.wd)).setCell ⟨w.heap.size, k * 4 + 3, none⟩ (.int .i64 q.ht)).cell? ⟨wr.heap.size + 1, 3, none⟩ = some (.int .i64 q.ht) := by go_simp
          clear hblk2 hown2 hfz r0 r1 r2 r3 x0 x1 x2 x3 x4 z1 z2 z3 z4 hbc hbrc
          generalize (((wc.setCell ⟨w.heap.size, k * 4, none⟩ (.int .i64 q.x)).setCell ⟨w.heap.size, k * 4 + 1, none⟩ (.int .i64 q.y)).setCell ⟨w.heap.size, k * 4 + 2, none⟩ (.int .i64 q.wd)).setCell ⟨w.heap.size, k * 4 + 3, none⟩ (.int .i64 q.ht) = w5 at hblk3 hown3 hb3 c0 c1 c2 c3 c4 ⊢
          have z5 := hb3.size
          have zlt5 : w.heap.size < w5.heap.size := hblk3.lt
          have hm' := hm.out
          unfold OwnsR at hown3
          rw [hm'] at hown3
          replace hblk3 := Lib.hid hblk3
          by_cases q4 : s.kind = 4
          · have eN := shN_4 (M := M) q4
            rw [hq] at eN
            rw [q4] at c0
            have hcs : [.int .i64 q.x, .int .i64 q.y, .int .i64 q.wd, .int .i64 q.ht] = q.enc := rfl
            replace hcs := Lib.hid hcs
            replace eN := Lib.hid eN
            clear hm' q4
            go_wp2_with (first
              | (at_builtin; refine wpList_append_new rfl _ _ _ rfl (w.heap.size + 1) 41 iR _ 4 32 Try.underlying35 hr0 hr1 hr2 hr3 rfl (by omega) w5 1 _ _ _ _ (by rfl) hown3 (by rfl) rfl (by simp [Value.oneCell']) (by omega) (by unfold maxLen; omega) (by omega) ?_; intro v6 w6 hown6 hb6)
              | go_in)
            rw [flatR_snoc hcs.out, ← eN.out] at hown6
            have hb6' : Below w.heap.size w w6 := hb3.trans (hb6.mono (by omega))
            replace hown6 := Lib.hid hown6
            have hblk6 := Lib.hid (hblk3.out.below hb6 (by omega))
            clear hb6
            go_wp2
            go_roundg (n - (k + 1))
            case measure => omega
            case rel =>
              refine ⟨k + 1, shN M s, by omega, by omega, by go_num, ?_, hblk6.out, hgo'.out.symm, ?_, hN.out, by have := hm.out; omega, hb6'⟩
              · unfold OwnsR
                rw [show (shN M s).length = m + 1 by rw [eN.out]; simp [hm.out]]
                exact hown6.out
              · rw [hlen.out]; exact hch'.out
          · by_cases q5 : s.kind = 5
            · have eN := shN_5 (M := M) q5
              have hp := hpos.out q5
              rw [q5] at c0
              have hpop : OwnsR (w.heap.size + 1) w5 (.slice st0 (M.length - 1) cap0) M.dropLast := own_pop (by unfold OwnsR; rw [hm']; exact hown3) hp
              rw [← eN, hm'] at hpop
              rw [hm'] at hp
              obtain ⟨g, rfl, hg, hgl⟩ := own_addr hown3 hp
              have hcap : m ≤ cap0 := by
                rcases hown3.2 with ⟨h1, _⟩ | ⟨g', cap', cur, e, _, _, hnc, _⟩
                · cases h1
                · injection e with _ _ e3; omega
              replace hown3 := Lib.hid hown3
              replace hpop := Lib.hid hpop
              replace eN := Lib.hid eN
              replace hm' := Lib.hid hm'
              have p1 : (0 : Int) ≤ (m : Int) - 1 := by omega
              have p2 : (1 : Int) ≤ m := by omega
              have p3 : (m : Int) - 1 ≤ cap0 := by omega
              have p4 : ((m : Int) - 1).toNat = m - 1 := by omega
              clear q4 q5
              go_wp2
              go_roundg (n - (k + 1))
              case measure => omega
              case rel =>
                refine ⟨k + 1, shN M s, by omega, by omega, by go_num, hpop.out, hblk3.out, hgo'.out.symm, ?_, hN.out, by have := hm.out; omega, hb3⟩
                rw [hlen.out]; exact hch'.out
            · have eN := shN_o (M := M) q4 q5
              replace hown3 := Lib.hid hown3
              replace eN := Lib.hid eN
              replace hm' := Lib.hid hm'
              go_wp2
              go_roundg (n - (k + 1))
              case measure => omega
              case rel =>
                refine ⟨k + 1, shN M s, by omega, by omega, by go_num, ?_, hblk3.out, hgo'.out.symm, ?_, hN.out, by have := hm.out; omega, hb3⟩
                · unfold OwnsR
                  rw [eN.out, hm'.out]
                  exact hown3.out
                · rw [hlen.out]; exact hch'.out
    · obtain rfl : k = n := by omega
      obtain ⟨hown, hblk, hgo, hch, hM, hMk, hbr⟩ := hrel
      rw [Nat.sub_self, List.replicate_zero, List.append_nil, List.take_of_length_le (by have := hRl.out; omega)] at hblk
      replace hown := Lib.hid hown
      replace hblk := Lib.hid hblk
      replace hgo := Lib.hid hgo
      replace hch := Lib.hid hch
      go_wp2
      go_ret
      exact ⟨_, rfl, Blk.ownsR hblk.out hRl.out (Nat.le_refl _) (by omega), hbr⟩
end Go.Proofs.Ytkmofpnefjgnkaa
