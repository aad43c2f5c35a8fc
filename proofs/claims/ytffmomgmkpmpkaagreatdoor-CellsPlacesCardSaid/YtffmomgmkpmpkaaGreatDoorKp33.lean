/-
  XGy: XLisSf.
-/
import Derived.Test.YtffmomgmkpmpkaaGreatDoorProg
import Derived.Test.YtffmomgmkpmpkaaGreatDoorKp32
namespace Go.Proofs.YtffmomgmkpmpkaaGreatDoor
open Go.RowKit
set_option linter.unusedVariables false
attribute [local go_sem] vwp vUpon_value vUpon_skip vUpon_enter vUpon_row
set_option linter.unusedSimpArgs false
set_option linter.unusedVariables false
section
set_option linter.unusedSimpArgs false
set_option linter.unusedVariables false
set_option maxHeartbeats 1000000 in
set_option maxRecDepth 100000 in
theorem idx_over (ps : List Re) (v : Value) (pred : Re → Bool) (b0 : Nat) (w : World) (hl : Row w.heap.size 4 Re.enc w v ps) (hm : ps.length ≤ 100000)
  (hp : ∀ (W : World) (x : Re), x ∈ ps → Below w.heap.size w W → Calls Tryz.prog 82 #[.agg #[.int .i64 (x).x, .int .i64 (x).y, .int .i64 (x).wd, .int .i64 (x).ht], .pointer (some ⟨b0, 0, none⟩)] W fun e w' => e = .returned (.bool (pred x)) ∧ Below W.heap.size W w') :
  Calls Tryz.prog 123 #[v, .func (.func 82) #[] #[.pointer (some ⟨b0, 0, none⟩)]] w fun e w' => e = .returned (.int .i64 (fIdx pred ps)) ∧ Below w.heap.size w w' := by
 obtain ⟨s0, cap, rfl, hmax⟩ := hl.shape
 have hopen := fun h0 => row_re hl h0
 clear hl
 obtain ⟨n, hn⟩ : ∃ n, ps.length = n := ⟨_, rfl⟩
 rw [hn] at hopen hm hmax ⊢
 replace hopen := Lib.hid hopen
 replace hn := Lib.hid hn
 replace hp := Lib.hid hp
 obtain ⟨R, hR⟩ : ∃ R, fIdx pred ps = R := ⟨_, rfl⟩
 rw [hR]
 replace hR := Lib.hid hR
 go_enter Tryz.func123, Tryz.ntmps123
 go_wp2
 go_loopw [8] (fun i wr => ∃ k : Nat, k ≤ n ∧ i = .int .i64 k ∧ Hid (∀ j x, j < k → ps[j]? = some x → pred x = false) ∧ Below w.heap.size w wr) (fun i _ => n - (intOf i).toNat)
 case atStart => exact ⟨0, Nat.zero_le _, rfl, Lib.hid (fun j x hj => absurd hj (Nat.not_lt_zero _)), Below.refl _ _⟩
 case round =>
  obtain ⟨k, hk, rfl, hno, hbr⟩ := hrel
  have zr := hbr.size
  obtain ⟨hcr, hfr⟩ := bcell hbr
  by_cases hkn : k < n
  ·obtain ⟨b, p, cap', e, hb, _, _, hel⟩ := hopen.out (by omega)
   simp at e
   obtain ⟨rfl, rfl⟩ := e
   obtain ⟨q, hq⟩ : ∃ s, ps[k]? = some s := ⟨ps[k]'(by have := hn.out; omega), List.getElem?_eq_getElem _⟩
   obtain ⟨g0, g1, g2, g3⟩ := hel k q hq
   have hkk : (k : Int) < n := by omega
   have yb : b < wr.heap.size := by omega
   have C := hp.out wr q (List.mem_of_getElem? hq) hbr
   cases hc : pred q
   ·have hno' : Hid (∀ j x, j < k + 1 → ps[j]? = some x → pred x = false) := Lib.hid (fun j x hj hx => by
     rcases Nat.lt_succ_iff_lt_or_eq.1 hj with hj | rfl
     ·exact hno.out j x hj hx
     ·rw [hq] at hx; injection hx with hx; rw [← hx]; exact hc)
    rw [hc] at C
    replace C := Lib.hid C
    clear hel hq hc
    go_wp2_with (first
     | (go_at_call 82; (with_reducible refine (C.out).mono ?_); rintro e w2 ⟨rfl, hb2⟩)
     | go_in)
    go_roundw
    case rel => exact ⟨k + 1, by omega, by go_num, hno', hbr.trans (hb2.mono zr)⟩
    case measure => simp [intOf]; omega
   ·have hit := fIdx_hit hq hc (fun j x hj hx => hno.out j x hj hx)
    rw [hR.out] at hit
    subst hit
    rw [hc] at C
    replace C := Lib.hid C
    clear hel hq hc
    go_wp2_with (first
     | (go_at_call 82; (with_reducible refine (C.out).mono ?_); rintro e w2 ⟨rfl, hb2⟩)
     | go_in)
    go_ret
    exact ⟨rfl, hbr.trans (hb2.mono zr)⟩
  ·obtain rfl : k = n := by omega
   have miss : fIdx pred ps = -1 := fIdx_miss (fun j x hx => hno.out j x (by have := (List.getElem?_eq_some_iff.1 hx).1; have := hn.out; omega) hx)
   rw [hR.out] at miss
   subst miss
   go_wp2
   go_ret
   exact ⟨rfl, hbr⟩
set_option maxHeartbeats 1000000 in
set_option maxRecDepth 100000 in
theorem contains_over (ps : List Re) (v : Value) (pred : Re → Bool) (b0 : Nat) (w : World) (hl : Row w.heap.size 4 Re.enc w v ps) (hm : ps.length ≤ 100000)
    (hp : ∀ (W : World) (x : Re), x ∈ ps → Below w.heap.size w W → Calls Tryz.prog 82 #[.agg #[.int .i64 (x).x, .int .i64 (x).y, .int .i64 (x).wd, .int .i64 (x).ht], .pointer (some ⟨b0, 0, none⟩)] W fun e w' => e = .returned (.bool (pred x)) ∧ Below W.heap.size W w') :
    Calls Tryz.prog 81 #[v, .func (.func 82) #[] #[.pointer (some ⟨b0, 0, none⟩)]] w fun e w' => e = .returned (.bool (ps.any pred)) ∧ Below w.heap.size w w' := by
  have I := idx_over ps v pred b0 w hl hm hp
  have hA := fIdx_any pred ps
  obtain ⟨s0, cap, rfl, hmax⟩ := hl.shape
  clear hl hp
  generalize fIdx pred ps = i at I hA
  generalize ps.any pred = r at hA
  replace I := Lib.hid I
  subst hA
  go_enter Tryz.func81, Tryz.ntmps81
  go_wp2_with (first
    | (go_at_call 123; (with_reducible refine (I.out).mono ?_); rintro e w2 ⟨rfl, hb2⟩)
    | go_in)
  go_ret
  exact ⟨rfl, hb2⟩
theorem over1_any (p q : Re) (b : Nat) (w : World) (hp : p.Wf) (hq : q.Wf) (hb : b < w.heap.size) (h0 : RMem w b 0 q) : Calls Tryz.prog 82 #[.agg #[.int .i64 (p).x, .int .i64 (p).y, .int .i64 (p).wd, .int .i64 (p).ht], .pointer (some ⟨b, 0, none⟩)] w fun e w' => e = .returned (.bool (overR p q)) ∧ Below w.heap.size w w' := by
  have I := fun w => gover_any p q w hp hq
  obtain ⟨g0, g1, g2, g3⟩ := h0
  simp only [Nat.zero_add] at g1 g2 g3
  generalize overR p q = r at I
  replace I := Lib.hid I
  go_enter Tryz.func82, Tryz.ntmps82
  go_wp2_with (first
    | (go_at_call 83; (with_reducible refine (I.out _).mono ?_); rintro e w2 ⟨rfl, hb2⟩)
    | go_in)
  go_ret
  exact ⟨rfl, belt⟩
theorem contover_any (P : List Re) (r : Re) (v : Value) (bx : Nat) (w : World) (hl : Row w.heap.size 4 Re.enc w v P) (hm : P.length ≤ 100000) (hp : ∀ p ∈ P, p.Wf) (hr : r.Wf) (hb : bx < w.heap.size) (h0 : RMem w bx 0 r) :
    Calls Tryz.prog 81 #[v, .func (.func 82) #[] #[.pointer (some ⟨bx, 0, none⟩)]] w fun e w' => e = .returned (.bool (ovrB P r)) ∧ Below w.heap.size w w' :=
  contains_over P v (fun p => overR p r) bx w hl hm (fun W x hx hbW => over1_any x r bx W (hp x hx) hr (Nat.lt_of_lt_of_le hb hbW.size) (RMem.below h0 hbW hb))
set_option maxHeartbeats 8000000 in
set_option maxRecDepth 100000 in
theorem lwithin_any (xs : List St) (qs : List Re) (v vq : Value) (w : World) (hl : Row w.heap.size 15 St.enc w v xs) (k1 : ∀ s ∈ xs, s.Wf) (hlq : Row w.heap.size 4 Re.enc w vq qs) (hqw : WfL qs) : Calls Tryz.prog 37 #[v, vq] w (OutU w.heap.size (wiS xs qs) (wiE xs qs) w) := by
 obtain ⟨iM, hi0, hm0, hm1, hm2⟩ := info_parts infoSt
 have C1 := fun w' (hb : Below w.heap.size w w') => lcheck_any xs v w' ((hl.below hb).mono hb.size) k1
 have K1 := fun w' (hb : Below w.heap.size w w') hc => lshown_any xs v w' ((hl.below hb).mono hb.size) k1 hc
 have O1 := fun w' (hb : Below w.heap.size w w') => of_any qs vq w' ((hlq.below hb).mono hb.size) hqw
 have hLw := wf_bothL qs
 have hLl : (bothL qs [] 1).length ≤ 1024 := by unfold bothL madeL; split <;> (try split) <;> first | (simp; done) | omega
 obtain ⟨s0, cap, rfl, hmax⟩ := hl.shape
 obtain ⟨sq, capq, rfl, hmaxq⟩ := hlq.shape
 have hopen := fun h0 => row_st hl h0
 obtain ⟨n, en⟩ : ∃ n, xs.length = n := ⟨_, rfl⟩
 clear hl hlq
 unfold wiS wiE
 by_cases c1 : chkL xs = 0
 ·have l1 := chk_len c1
  have hz := fun s hs => chk_mem c1 s hs
  have hRl := shL_len xs
  have hRm := shL_may c1
  have K1 := fun w' hb => K1 w' hb c1
  have hFull := fun k s q (hs : xs[k]? = some s) (hq : (shL xs)[k]? = some q) => shGo_full xs [] k s q hs hq
  rw [if_pos c1, if_pos c1]
  obtain ⟨R, hR⟩ : ∃ R, shL xs = R := ⟨_, rfl⟩
  rw [hR] at K1 hRl hRm hFull ⊢
  obtain ⟨L, hL⟩ : ∃ L, bothL qs [] 1 = L := ⟨_, rfl⟩
  obtain ⟨E, hE⟩ : ∃ L, bothE qs [] 1 = L := ⟨_, rfl⟩
  rw [hL] at O1 hLw hLl ⊢
  rw [hE] at O1 ⊢
  obtain ⟨m, hm⟩ : ∃ m, L.length = m := ⟨_, rfl⟩
  rw [hm] at hLl
  rw [c1] at C1
  rw [en] at l1 hmax hopen C1 K1 hRl ⊢
  replace C1 := Lib.hid C1
  replace K1 := Lib.hid K1
  replace O1 := Lib.hid O1
  replace hopen := Lib.hid hopen
  replace en := Lib.hid en
  replace hm := Lib.hid hm
  replace hRl := Lib.hid hRl
  replace hRm := Lib.hid hRm
  replace hLw := Lib.hid hLw
  replace hFull := Lib.hid hFull
  replace k1 := Lib.hid k1
  replace hz := Lib.hid hz
  clear c1 hR hL hE hqw
  by_cases hE0 : E = 0
  ·subst hE0
   rw [if_pos rfl, if_pos rfl]
   obtain ⟨W, hW⟩ : ∃ W, wiGo xs R L [] = W := ⟨_, rfl⟩
   rw [hW]
   replace hW := Lib.hid hW
   go_enter Tryz.func37, Tryz.ntmps37
   go_wp2_with (first
    | (go_at_call 73; (with_reducible refine (C1.out _ belt).mono ?_); rintro e w3 ⟨rfl, hb3⟩; have z3 := hb3.size)
    | (go_at_call 36; (with_reducible refine (O1.out _ hb3).mono ?_); rintro e w4 ⟨hb4, vL, rfl, hownL⟩; have hb04 := hb3.trans (hb4.mono z3); have z04 := hb04.size; obtain ⟨sL, cL, rfl, _⟩ := (hownL.row (Nat.le_refl _)).shape; rw [hm.out])
    | (go_at_call 74; (with_reducible refine (K1.out _ hb04).mono ?_); rintro e w2 ⟨v2, rfl, hown2, hb2⟩; obtain ⟨s2, cap2, rfl⟩ := own_slice hown2; rw [hRl.out])
    | go_in)
   have hb02 : Below w.heap.size w w2 := hb04.trans (hb2.mono z04)
   have z02 := hb02.size
   have hrow := hown2.row (Nat.le_refl w2.heap.size)
   have hopR := fun h0 => row_re hrow h0
   have hrowL := (hownL.below hb2 (Nat.le_refl _)).row (Nat.le_refl w2.heap.size)
   have hopL := fun h0 => row_re hrowL h0
   rw [hRl.out] at hopR
   rw [hm.out] at hopL
   replace hopR := Lib.hid hopR
   replace hopL := Lib.hid hopL
   clear hrow hown2 hb2 hb3 hb4 z3 hb04 z04 hrowL hownL
   go_loopg [10, 33] m (fun gg vo i wr => ∃ (k : Nat), k ≤ m ∧ m - k ≤ gg ∧ i = .int .i64 k ∧ ∃ O, Owns w2.heap.size wr vo O ∧ Hid (wiGo xs R (L.drop k) O = W) ∧ O.length ≤ 16384 ∧ Below w2.heap.size w2 wr)
   case atStart => exact ⟨0, Nat.zero_le _, by omega, rfl, [], World.ownsRow_nil _ _ _ _, Lib.hid (by simpa using hW.out), by simp, Below.refl _ _⟩
   case round =>
    obtain ⟨k, hk, hgg, rfl, O, hown, hWO, hOk, hbr⟩ := hrel
    have zr := hbr.size
    clear hW
    obtain ⟨so, co, rfl⟩ := own_slice hown
    obtain ⟨mo, hmo⟩ : ∃ mo, O.length = mo := ⟨_, rfl⟩
    rw [hmo] at hown hOk ⊢
    by_cases hkm : k < m
    ·obtain ⟨b3, p3, cap3, e, hb3, _, _, hel3⟩ := hopL.out (by omega)
     simp at e
     obtain ⟨rfl, rfl⟩ := e
     obtain ⟨r, hr⟩ := get_at hm.out hkm
     have hst := wi_step (xs := xs) (R := R) (out := O) hr
     have hWO2 := hWO.out
     rw [hst] at hWO2
     have hrw := hLw.out r (List.mem_of_getElem? hr)
     have RR := hel3 k r hr
     have hTl := cut_le xs R r
     rw [en.out] at hTl
     have hkk : (k : Int) < m := by omega
     have yb3 : b3 < wr.heap.size := by omega
     obtain ⟨r0, r1, r2, r3⟩ := RMem.below RR hbr hb3
     replace hWO2 := Lib.hid hWO2
     replace hmo := Lib.hid hmo
     replace hTl := Lib.hid hTl
     clear hel3 hr hst hWO
     go_upto_region 12 with fail
     have hbB : Below wr.heap.size wr (wr.alloc (.cells #[.int .i64 r.x, .int .i64 r.y, .int .i64 r.wd, .int .i64 r.ht] 42)) := (Below.refl _ _).alloc (Nat.le_refl _) _
     have kB : Blk (wr.alloc (.cells #[.int .i64 r.x, .int .i64 r.y, .int .i64 r.wd, .int .i64 r.ht] 42)) wr.heap.size r.enc 42 := Blk.new' rfl
     obtain ⟨bx, hbx⟩ : ∃ b, wr.heap.size = b := ⟨_, rfl⟩
     have hbr := hbr.trans (hbB.mono zr)
     unfold Owns at hown
     rw [hmo.out] at hown
     have hown := ownsRow_below hown hbB (Nat.le_refl _)
     rw [hbx] at kB ⊢
     generalize wr.alloc (.cells #[.int .i64 r.x, .int .i64 r.y, .int .i64 r.wd, .int .i64 r.ht] 42) = wo at hbB kB hbr hown ⊢
     have kBl := kB.lt
     have RB := blk_re kB
     have RB' := RB
     obtain ⟨x0, x1, x2, x3⟩ := RB'
     have zr := hbr.size
     replace hown := Lib.hid hown
     replace RB := Lib.hid RB
     clear hbB kB r0 r1 r2 r3 hbx RR yb3
     go_upto_region 13 with fail
     have hbC : Below wo.heap.size wo (wo.alloc (.cells #[.int .u8 (clipS r).kind, .int .i64 (clipS r).rect.x, .int .i64 (clipS r).rect.y, .int .i64 (clipS r).rect.wd, .int .i64 (clipS r).rect.ht, .int .u8 (clipS r).col.r, .int .u8 (clipS r).col.g, .int .u8 (clipS r).col.b, .int .u8 (clipS r).col.a, .int .u8 (clipS r).back.r, .int .u8 (clipS r).back.g, .int .u8 (clipS r).back.b, .int .u8 (clipS r).back.a, .string (clipS r).text, .int .i64 (clipS r).node] 46)) := (Below.refl _ _).alloc (Nat.le_refl _) _
     have kC : Blk (wo.alloc (.cells #[.int .u8 (clipS r).kind, .int .i64 (clipS r).rect.x, .int .i64 (clipS r).rect.y, .int .i64 (clipS r).rect.wd, .int .i64 (clipS r).rect.ht, .int .u8 (clipS r).col.r, .int .u8 (clipS r).col.g, .int .u8 (clipS r).col.b, .int .u8 (clipS r).col.a, .int .u8 (clipS r).back.r, .int .u8 (clipS r).back.g, .int .u8 (clipS r).back.b, .int .u8 (clipS r).back.a, .string (clipS r).text, .int .i64 (clipS r).node] 46)) wo.heap.size (clipS r).enc 46 := Blk.new' rfl
     have hO1 := owns_blk kC (Nat.le_refl _)
     simp only [clipS] at hbC hO1
     generalize wo.alloc (.cells #[.int .u8 4, .int .i64 r.x, .int .i64 r.y, .int .i64 r.wd, .int .i64 r.ht, .int .u8 0, .int .u8 0, .int .u8 0, .int .u8 0, .int .u8 0, .int .u8 0, .int .u8 0, .int .u8 0, .string ⟨#[]⟩, .int .i64 0] 46) = wC at hbC hO1 ⊢
     have zC := hbC.size
     obtain ⟨T, hT⟩ : ∃ T, [clipS r] ++ selGo r xs R = T := ⟨_, rfl⟩
     have hcutT : cutL xs R r = T ++ [openS] := by unfold cutL; rw [hT]
     rw [hcutT] at hTl hWO2
     replace hT := Lib.hid hT
     clear hcutT kC x0 x1 x2 x3
     go_wp2
     go_loopw [13, 42] (fun cv i wr => ∃ j : Nat, j ≤ n ∧ i = .int .i64 j ∧ ∃ C, Owns wo.heap.size wr cv C ∧ Hid (C ++ selGo r (xs.drop j) (R.drop j) = T) ∧ C.length ≤ j + 1 ∧ Below wo.heap.size wo wr) (fun _ i _ => n - (intOf i).toNat)
     case atStart => exact ⟨0, Nat.zero_le _, rfl, [clipS r], hO1, Lib.hid (by simpa using hT.out), by simp, hbC⟩
     case round =>
      obtain ⟨j, hj, rfl, C, hcut, hsel, hC1, hbi⟩ := hrel
      have zi := hbi.size
      clear hO1 hbC zC hT
      obtain ⟨sc, cc, rfl⟩ := own_slice hcut
      obtain ⟨mc, hCl⟩ : ∃ mc, C.length = mc := ⟨_, rfl⟩
      rw [hCl] at hcut hC1 ⊢
      replace hCl := Lib.hid hCl
      by_cases hjn : j < n
      ·obtain ⟨b, p, cap', e, hb, _, _, hel⟩ := hopen.out (by omega)
       simp at e
       obtain ⟨rfl, rfl⟩ := e
       obtain ⟨b2, p2, cap2', e, hb2, _, _, hel2⟩ := hopR.out (by omega)
       simp at e
       obtain ⟨rfl, rfl⟩ := e
       obtain ⟨s, hs⟩ := get_at en.out hjn
       obtain ⟨q, hq⟩ := get_at hRl.out hjn
       have hsw := k1.out s (List.mem_of_getElem? hs)
       have hes := hz.out s (List.mem_of_getElem? hs)
       have hqm := hRm.out q (List.mem_of_getElem? hq)
       have D := fun w => draws_any s w hsw.1
       have hPL := fun w => places_any s q w hsw (err_may hes) hqm
       have hple := plc_le s q
       have hpm := plc_may (s := s) hqm
       have hst := sel_step (r := r) hs hq
       have hsel2 := hsel.out
       rw [hst] at hsel2
       unfold keepB at hsel2
       obtain ⟨P, hP⟩ : ∃ P, plcL s q = P := ⟨_, rfl⟩
       rw [hP] at hPL hple hpm hsel2
       have hpw : ∀ m ∈ P, m.Wf := fun m hm => may_wf (hpm m hm)
       have OVR := fun v w h hb h0 => contover_any P r v bx w h (by omega) hpw hrw hb h0
       obtain ⟨d, hd⟩ : ∃ d, drB s = d := ⟨_, rfl⟩
       have D : ∀ w, Calls Tryz.prog 75 #[.agg #[.int .u8 (s).kind, .int .i64 (s).rect.x, .int .i64 (s).rect.y, .int .i64 (s).rect.wd, .int .i64 (s).rect.ht, .int .u8 (s).col.r, .int .u8 (s).col.g, .int .u8 (s).col.b, .int .u8 (s).col.a, .int .u8 (s).back.r, .int .u8 (s).back.g, .int .u8 (s).back.b, .int .u8 (s).back.a, .string (s).text, .int .i64 (s).node]] w fun e w' => e = .returned (.bool d) ∧ Below w.heap.size w w' := fun w => by have := D w; rw [show decide (s.kind ≤ 3) = d from hd] at this; exact this
       rw [hd] at hsel2
       have hji : (j : Int) < n := by omega
       have h2i : Below w2.heap.size w2 wr := hbr.trans (hbi.mono zr)
       have h0i : Below w.heap.size w wr := hb02.trans (h2i.mono z02)
       have SMw := Lib.hid (hel j s hs)
       obtain ⟨j0, j1, j2, j3⟩ := RMem.below (hel2 j q hq) h2i hb2
       have yb : b < wr.heap.size := by omega
       have yb2 : b2 < wr.heap.size := by omega
       obtain ⟨k0, k1', k2, k3, k4, k5, k6, k7, k8, k9, k10, k11, k12, k13, k14⟩ := SMem.below SMw.out h0i hb
       obtain ⟨kv, hkv⟩ : ∃ kv, ovrB P r = kv := ⟨_, rfl⟩
       rw [hkv] at hsel2 
       simp only [hkv] at OVR
       replace hsel2 := Lib.hid hsel2
       replace hcut := Lib.hid hcut
       replace hPL := Lib.hid hPL
       replace D := Lib.hid D
       replace OVR := Lib.hid OVR
       clear hel hel2 hs hq hst hd hpm hpw hP hes hqm hsw hsel hkv h0i h2i
       go_upto_region 16 with fail
       have hri : Below wr.heap.size wr (wr.alloc (.cells #[.int .u8 (s).kind, .int .i64 (s).rect.x, .int .i64 (s).rect.y, .int .i64 (s).rect.wd, .int .i64 (s).rect.ht, .int .u8 (s).col.r, .int .u8 (s).col.g, .int .u8 (s).col.b, .int .u8 (s).col.a, .int .u8 (s).back.r, .int .u8 (s).back.g, .int .u8 (s).back.b, .int .u8 (s).back.a, .string (s).text, .int .i64 (s).node] 46)) := (Below.refl _ _).alloc (Nat.le_refl _) _
       have kS : Blk (wr.alloc (.cells #[.int .u8 (s).kind, .int .i64 (s).rect.x, .int .i64 (s).rect.y, .int .i64 (s).rect.wd, .int .i64 (s).rect.ht, .int .u8 (s).col.r, .int .u8 (s).col.g, .int .u8 (s).col.b, .int .u8 (s).col.a, .int .u8 (s).back.r, .int .u8 (s).back.g, .int .u8 (s).back.b, .int .u8 (s).back.a, .string (s).text, .int .i64 (s).node] 46)) wr.heap.size s.enc 46 := Blk.new' (cs := s.enc) rfl
       generalize wr.alloc (.cells #[.int .u8 (s).kind, .int .i64 (s).rect.x, .int .i64 (s).rect.y, .int .i64 (s).rect.wd, .int .i64 (s).rect.ht, .int .u8 (s).col.r, .int .u8 (s).col.g, .int .u8 (s).col.b, .int .u8 (s).col.a, .int .u8 (s).back.r, .int .u8 (s).back.g, .int .u8 (s).back.b, .int .u8 (s).back.a, .string (s).text, .int .i64 (s).node] 46) = wi at hri kS ⊢
       have SB : SMem wi wr.heap.size 0 s := smem_of (fun i u hi => by rw [Nat.zero_add]; exact kS.cell hi)
       have ybw := kS.lt
       have zri := hri.size
       clear k0 k1' k2 k3 k4 k5 k6 k7 k8 k9 k10 k11 k12 k13 k14 kS
       have SB' := SB
       obtain ⟨k0, k1', k2, k3, k4, k5, k6, k7, k8, k9, k10, k11, k12, k13, k14⟩ := SB'
       simp only [Nat.zero_add] at k1' k2 k3 k4 k5 k6 k7 k8 k9 k10 k11 k12 k13 k14
       obtain ⟨j0, j1, j2, j3⟩ := RMem.below (show RMem wr b2 (p2 + j * 4) q from ⟨j0, j1, j2, j3⟩) hri yb2
       have yb2i : b2 < wi.heap.size := by omega
       have hoi : Below wo.heap.size wo wi := hbi.trans (hri.mono zi)
       have RBi := RMem.below RB.out hoi kBl
       have ybxi : bx < wi.heap.size := by have := hoi.size; omega
       replace SB := Lib.hid SB
       replace RBi := Lib.hid RBi
       refine held_begin (Held wi 0 []) (by kernel_rfl) ⟨(Below.refl _ _).drew, by simp, by simp only [Cells]⟩ (fun hS => ?_)
       (first | (refine' hdo 0 hS ?_; simp only [pu]) | (refine' held_pass (i := 0) _ (by kernel_rfl) (by kernel_rfl) (by kernel_rfl) _ _ hS _; rotate_left; (focus exact geti); (focus exact fun _ _ _ h => h); (focus rfl); simp only [pu]))
       (refine' held_one (i := 1) _ (by kernel_rfl) _ _; rotate_left; (focus exact geti); (focus rfl); intro K hK; go_simp)
       refine (D.out _).mono ?_
       rintro e w5 ⟨rfl, hb5⟩
       have hS := hS.below hb5
       refine hK _ _ hS ?_
       clear hK
       (try simp only [pu])
       cases d
       ·have hsel := Lib.hid (show (C ++ [s]) ++ selGo r (xs.drop (j + 1)) (R.drop (j + 1)) = T by have := hsel2.out; simpa using this)
        (first | (refine' hdo 2 hS ?_; simp only [pu]) | (refine' held_pass (i := 2) _ (by kernel_rfl) (by kernel_rfl) (by kernel_rfl) _ _ hS _; rotate_left; (focus exact geti); (focus exact fun _ _ _ h => h); (focus rfl); simp only [pu]))
        (first | (refine' hdo 3 hS ?_; simp only [pu]) | (refine' held_pass (i := 3) _ (by kernel_rfl) (by kernel_rfl) (by kernel_rfl) _ _ hS _; rotate_left; (focus exact geti); (focus exact fun _ _ _ h => h); (focus rfl); simp only [pu]))
        (first | (refine' hdo 4 hS ?_; simp only [pu]) | (refine' held_pass (i := 4) _ (by kernel_rfl) (by kernel_rfl) (by kernel_rfl) _ _ hS _; rotate_left; (focus exact geti); (focus exact fun _ _ _ h => h); (focus rfl); simp only [pu]))
        (first | (refine' hdo 5 hS ?_; simp only [pu]) | (refine' held_pass (i := 5) _ (by kernel_rfl) (by kernel_rfl) (by kernel_rfl) _ _ hS _; rotate_left; (focus exact geti); (focus exact fun _ _ _ h => h); (focus rfl); simp only [pu]))
        (first | (refine' hdo 6 hS ?_; simp only [pu]) | (refine' held_pass (i := 6) _ (by kernel_rfl) (by kernel_rfl) (by kernel_rfl) _ _ hS _; rotate_left; (focus exact geti); (focus exact fun _ _ _ h => h); (focus rfl); simp only [pu]))
        (first | (refine' hdo 7 hS ?_; simp only [pu]) | (refine' held_pass (i := 7) _ (by kernel_rfl) (by kernel_rfl) (by kernel_rfl) _ _ hS _; rotate_left; (focus exact geti); (focus exact fun _ _ _ h => h); (focus rfl); simp only [pu]))
        (first | (refine' hdo 8 hS ?_; simp only [pu]) | (refine' held_pass (i := 8) _ (by kernel_rfl) (by kernel_rfl) (by kernel_rfl) _ _ hS _; rotate_left; (focus exact geti); (focus exact fun _ _ _ h => h); (focus rfl); simp only [pu]))
        (first | (refine' hdo 9 hS ?_; simp only [pu]) | (refine' held_pass (i := 9) _ (by kernel_rfl) (by kernel_rfl) (by kernel_rfl) _ _ hS _; rotate_left; (focus exact geti); (focus exact fun _ _ _ h => h); (focus rfl); simp only [pu]))
        (first | (refine' hdo 10 hS ?_; simp only [pu]) | (refine' held_pass (i := 10) _ (by kernel_rfl) (by kernel_rfl) (by kernel_rfl) _ _ hS _; rotate_left; (focus exact geti); (focus exact fun _ _ _ h => h); (focus rfl); simp only [pu]))
        (first | (refine' hdo 11 hS ?_; simp only [pu]) | (refine' held_pass (i := 11) _ (by kernel_rfl) (by kernel_rfl) (by kernel_rfl) _ _ hS _; rotate_left; (focus exact geti); (focus exact fun _ _ _ h => h); (focus rfl); simp only [pu]))
        (first | (refine' hdo 12 hS ?_; simp only [pu]) | (refine' held_pass (i := 12) _ (by kernel_rfl) (by kernel_rfl) (by kernel_rfl) _ _ hS _; rotate_left; (focus exact geti); (focus exact fun _ _ _ h => h); (focus rfl); simp only [pu]))
        refine wpAnyH_done (by kernel_rfl) ?_ _
        have hr5 := hS.1
        clear hS k0 k1' k2 k3 k4 k5 k6 k7 k8 k9 k10 k11 k12 k13 k14
        have hix : Below wr.heap.size wr w5 := hri.trans (hr5.mono zri)
        have hox : Below wo.heap.size wo w5 := hbi.trans (hix.mono zi)
        have zox := hox.size
        have ybx : wr.heap.size < w5.heap.size := by have := hr5.size; omega
        obtain ⟨k0, k1', k2, k3, k4, k5, k6, k7, k8, k9, k10, k11, k12, k13, k14⟩ := SMem.below SB.out hr5 ybw
        simp only [Nat.zero_add] at k1' k2 k3 k4 k5 k6 k7 k8 k9 k10 k11 k12 k13 k14
        have hcown := hcut.out.below hix (Nat.le_refl _)
        unfold Owns at hcown
        rw [hCl.out] at hcown
        go_wp2_with (first
         | (at_builtin; refine wpList_append_new rfl _ _ _ rfl wo.heap.size 46 iM _ 15 72 Tryz.underlying27 hi0 hm0 hm1 hm2 rfl (by omega) w5 1 _ _ _ _ (by rfl) hcown (by rfl) rfl (by simp [Value.oneCell']) (by omega) (by unfold maxLen; omega) (by omega) ?_; intro v9 w9 hown9 hb9)
         | go_in)
        have hcs : [.int .u8 (s).kind, .int .i64 (s).rect.x, .int .i64 (s).rect.y, .int .i64 (s).rect.wd, .int .i64 (s).rect.ht, .int .u8 (s).col.r, .int .u8 (s).col.g, .int .u8 (s).col.b, .int .u8 (s).col.a, .int .u8 (s).back.r, .int .u8 (s).back.g, .int .u8 (s).back.b, .int .u8 (s).back.a, .string (s).text, .int .i64 (s).node] = s.enc := rfl
        rw [flat_snoc hcs] at hown9
        replace hown9 := Lib.hid hown9
        go_roundw
        case rel =>
         refine ⟨j + 1, by omega, by go_num, C ++ [s], ?_, hsel, (by rw [List.length_append, hCl.out]; simp; omega), hox.trans hb9⟩
         unfold Owns; rw [List.length_append, hCl.out]; exact hown9.out
        case measure => simp [intOf]; omega
       ·(first | (refine' hdo 2 hS ?_; simp only [pu]) | (refine' held_pass (i := 2) _ (by kernel_rfl) (by kernel_rfl) (by kernel_rfl) _ _ hS _; rotate_left; (focus exact geti); (focus exact fun _ _ _ h => h); (focus rfl); simp only [pu]))
        (first | (refine' hdo 3 hS ?_; simp only [pu]) | (refine' held_pass (i := 3) _ (by kernel_rfl) (by kernel_rfl) (by kernel_rfl) _ _ hS _; rotate_left; (focus exact geti); (focus exact fun _ _ _ h => h); (focus rfl); simp only [pu]))
        (first | (refine' hdo 4 hS ?_; simp only [pu]) | (refine' held_pass (i := 4) _ (by kernel_rfl) (by kernel_rfl) (by kernel_rfl) _ _ hS _; rotate_left; (focus exact geti); (focus exact fun _ _ _ h => h); (focus rfl); simp only [pu]))
        (first | (refine' hdo 5 hS ?_; simp only [pu]) | (refine' held_pass (i := 5) _ (by kernel_rfl) (by kernel_rfl) (by kernel_rfl) _ _ hS _; rotate_left; (focus exact geti); (focus exact fun _ _ _ h => h); (focus rfl); simp only [pu]))
        (first | (refine' hdo 6 hS ?_; simp only [pu]) | (refine' held_pass (i := 6) _ (by kernel_rfl) (by kernel_rfl) (by kernel_rfl) _ _ hS _; rotate_left; (focus exact geti); (focus exact fun _ _ _ h => h); (focus rfl); simp only [pu]))
        (first | (refine' hdo 7 hS ?_; simp only [pu]) | (refine' held_pass (i := 7) _ (by kernel_rfl) (by kernel_rfl) (by kernel_rfl) _ _ hS _; rotate_left; (focus exact geti); (focus exact fun _ _ _ h => h); (focus rfl); simp only [pu]))
        (first | (refine' hdo 9 hS ?_; simp only [pu]) | (refine' held_pass (i := 9) _ (by kernel_rfl) (by kernel_rfl) (by kernel_rfl) _ _ hS _; rotate_left; (focus exact geti); (focus exact fun _ _ _ h => h); (focus rfl); simp only [pu]))
        (refine' held_one (i := 8) _ (by kernel_rfl) _ _; rotate_left; (focus exact geti); (focus rfl); intro K hK; go_simp)
        refine (hPL.out _).mono ?_
        rintro e w6 ⟨vp, rfl, op, hb6⟩
        have hS := hS.below hb6
        refine hK _ _ hS ?_
        clear hK
        (try simp only [pu])
        have rowP := op.row (Nat.le_refl _)
        have hr6 := hS.1
        replace op := Lib.hid op
        (refine' held_one (i := 10) _ (by kernel_rfl) _ _; rotate_left; (focus exact geti); (focus rfl); intro K hK; go_simp)
        refine (OVR.out _ _ rowP (by have := hr6.size; omega) (RMem.below RBi.out hr6 ybxi)).mono ?_
        rintro e w7 ⟨rfl, hb7⟩
        have hS := hS.below hb7
        refine hK _ _ hS ?_
        clear hK
        (try simp only [pu])
        (first | (refine' hdo 11 hS ?_; simp only [pu]) | (refine' held_pass (i := 11) _ (by kernel_rfl) (by kernel_rfl) (by kernel_rfl) _ _ hS _; rotate_left; (focus exact geti); (focus exact fun _ _ _ h => h); (focus rfl); simp only [pu]))
        (first | (refine' hdo 12 hS ?_; simp only [pu]) | (refine' held_pass (i := 12) _ (by kernel_rfl) (by kernel_rfl) (by kernel_rfl) _ _ hS _; rotate_left; (focus exact geti); (focus exact fun _ _ _ h => h); (focus rfl); simp only [pu]))
        refine wpAnyH_done (by kernel_rfl) ?_ _
        have hr7 := hS.1
        clear hS k0 k1' k2 k3 k4 k5 k6 k7 k8 k9 k10 k11 k12 k13 k14 rowP
        cases kv
        ·have hsel := Lib.hid (show C ++ selGo r (xs.drop (j + 1)) (R.drop (j + 1)) = T by have := hsel2.out; simpa using this)
         have hrx := hri.trans (hr7.mono zri)
         go_wp2
         go_roundw
         case rel =>
          refine ⟨j + 1, by omega, by go_num, C, hcut.out.below hrx (Nat.le_refl _), hsel, by rw [hCl.out]; omega, hbi.trans (hrx.mono zi)⟩
         case measure => simp [intOf]; omega
        ·have hsel := Lib.hid (show (C ++ [s]) ++ selGo r (xs.drop (j + 1)) (R.drop (j + 1)) = T by have := hsel2.out; simpa using this)
         have hix : Below wr.heap.size wr w7 := hri.trans (hr7.mono zri)
         have hox : Below wo.heap.size wo w7 := hbi.trans (hix.mono zi)
         have zox := hox.size
         have ybx : wr.heap.size < w7.heap.size := by have := hr7.size; omega
         obtain ⟨k0, k1', k2, k3, k4, k5, k6, k7, k8, k9, k10, k11, k12, k13, k14⟩ := SMem.below SB.out hr7 ybw
         simp only [Nat.zero_add] at k1' k2 k3 k4 k5 k6 k7 k8 k9 k10 k11 k12 k13 k14
         have hcown := hcut.out.below hix (Nat.le_refl _)
         unfold Owns at hcown
         rw [hCl.out] at hcown
         go_wp2_with (first
          | (at_builtin; refine wpList_append_new rfl _ _ _ rfl wo.heap.size 46 iM _ 15 72 Tryz.underlying27 hi0 hm0 hm1 hm2 rfl (by omega) w7 1 _ _ _ _ (by rfl) hcown (by rfl) rfl (by simp [Value.oneCell']) (by omega) (by unfold maxLen; omega) (by omega) ?_; intro v9 w9 hown9 hb9)
          | go_in)
         have hcs : [.int .u8 (s).kind, .int .i64 (s).rect.x, .int .i64 (s).rect.y, .int .i64 (s).rect.wd, .int .i64 (s).rect.ht, .int .u8 (s).col.r, .int .u8 (s).col.g, .int .u8 (s).col.b, .int .u8 (s).col.a, .int .u8 (s).back.r, .int .u8 (s).back.g, .int .u8 (s).back.b, .int .u8 (s).back.a, .string (s).text, .int .i64 (s).node] = s.enc := rfl
         rw [flat_snoc hcs] at hown9
         replace hown9 := Lib.hid hown9
         go_roundw
         case rel =>
          refine ⟨j + 1, by omega, by go_num, C ++ [s], ?_, hsel, (by rw [List.length_append, hCl.out]; simp; omega), hox.trans hb9⟩
          unfold Owns; rw [List.length_append, hCl.out]; exact hown9.out
         case measure => simp [intOf]; omega
      ·have hCT : C = T := by
        have := hsel.out
        rw [sel_end (by have := en.out; omega), List.append_nil] at this
        exact this
       subst hCT
       have hcown := hcut
       unfold Owns at hcown
       rw [hCl.out] at hcown
       have hjn' : ¬ (j : Int) < n := by omega
       clear hsel hcut
       replace hcown := Lib.hid hcown
       have hTl' := hTl.out
       have hZl := busy_le (C ++ [openS])
       have BUF := fun v w h => busy_any wo.heap.size (C ++ [openS]) v w h (by omega)
       generalize busyL (C ++ [openS]) = Z at BUF hZl hWO2
       obtain ⟨zl, hzl⟩ : ∃ zl, Z.length = zl := ⟨_, rfl⟩
       rw [hzl] at hZl
       have hzn : zl ≤ n + 2 := by omega
       replace BUF := Lib.hid BUF
       replace hzl := Lib.hid hzl
       clear hTl' hZl
       go_upto_region 20 with (first
        | ((at_builtin; refine wpList_append_new rfl _ _ _ rfl wo.heap.size 46 iM _ 15 72 Tryz.underlying27 hi0 hm0 hm1 hm2 rfl (by omega) wr 1 _ _ _ _ (by rfl) hcown.out (by rfl) rfl (by simp [Value.oneCell']) (by omega) (by unfold maxLen; omega) (by omega) ?_; intro v9 w9 hown9 hb9); have hcs : [.int .u8 5, .int .i64 0, .int .i64 0, .int .i64 0, .int .i64 0, .int .u8 0, .int .u8 0, .int .u8 0, .int .u8 0, .int .u8 0, .int .u8 0, .int .u8 0, .int .u8 0, .string ⟨#[]⟩, .int .i64 0] = openS.enc := rfl; rw [flat_snoc hcs] at hown9; have hownT : Owns wo.heap.size w9 v9 (C ++ [openS]) := (by unfold Owns; rw [List.length_append, hCl.out]; exact hown9); have hbo9 : Below wo.heap.size wo w9 := hbi.trans hb9; have zo9 := hbo9.size; have hinT := Lib.hid (fun g hg => (own_in hownT g hg).1); replace hownT := Lib.hid hownT; clear hown9 hcs)
        | (go_at_call 78; (with_reducible refine (BUF.out _ _ hownT.out).mono ?_); rintro e w10 ⟨v10, rfl, own10, hg10, _⟩; have z10 := hg10.size; have hbo10 : Below wo.heap.size wo w10 := hbo9.grown hg10 zo9 hinT.out; have zo10 := hbo10.size; have hO10 : w10.ownsRow w2.heap.size 46 15 (.slice so mo co) mo (O.flatMap St.enc) := (ownsRow_below hown.out hbo10 (Nat.le_refl _)); have hzz := hzl.out)
        | (at_builtin; refine wpList_append_row rfl _ _ _ rfl w2.heap.size 46 iM _ 15 72 Tryz.underlying27 hi0 hm0 hm1 hm2 rfl (by omega) w10 _ _ _ (by rfl) hO10 St.enc_len St.enc_one w10.heap.size _ Z (own10.row (Nat.le_refl _)) (by rfl) (by unfold maxLen; omega) (by omega) (by omega) ?_; intro v11 w11 hown11 hgr11)
        | go_in)
       have h2o : Below w2.heap.size w2 w10 := hbr.trans (hbo10.mono zr)
       have hb211 : Below w2.heap.size w2 w11 := h2o.grown hgr11 h2o.size (fun g hg => (own_in hO10 g hg).1)
       rw [hzl.out] at hown11
       obtain ⟨s11, c11, rfl⟩ := own_slice hown11
       have hW3 := hWO2.out
       have hle : (O ++ Z).length = mo + zl := by rw [List.length_append, hmo.out, hzl.out]
       rw [hle] at hW3
       have z211 := hb211.size
       clear hgr11 hO10 own10 h2o hbo10 hg10
       by_cases hbig : 16384 < mo + zl
       ·rw [if_pos hbig] at hW3
        subst hW3
        have hbi' : (16384 : Int) < mo + zl := by omega
        have hbi2 : (16384 : Int) < ((mo + zl : Nat) : Int) := by omega
        replace hown11 := Lib.hid hown11
        go_wp2
        go_ret2
        exact ⟨hb02.trans (hb211.mono z02), _, rfl, Owns.nil _ _⟩
       ·rw [if_neg hbig] at hW3
        have hbi' : ¬ (16384 : Int) < mo + zl := by omega
        have hbi2 : ¬ (16384 : Int) < ((mo + zl : Nat) : Int) := by omega
        have hW3 := Lib.hid hW3
        have hown12 : Owns w2.heap.size w11 (.slice s11 (mo + zl) c11) (O ++ Z) := by unfold Owns; rw [hle, List.flatMap_append]; exact hown11
        replace hown12 := Lib.hid hown12
        clear hown11
        go_wp2
        go_roundg (m - (k + 1))
        case measure => omega
        case rel => exact ⟨k + 1, by omega, by omega, by go_num, O ++ Z, hown12.out, hW3, by omega, hb211⟩
    ·obtain rfl : k = m := by omega
     have hW2 := hWO.out
     rw [wi_end (by have := hm.out; omega)] at hW2
     subst hW2
     replace hown := Lib.hid hown
     clear hWO
     go_wp2
     go_ret2
     exact ⟨hb02.trans (hbr.mono z02), _, rfl, own_less hown.out z02⟩
  ·have hEb : (E == 0) = false := by simp [hE0]
   have hEn : (E != 0) = true := by simp [hE0]
   rw [if_neg hE0, if_neg hE0]
   go_enter Tryz.func37, Tryz.ntmps37
   go_wp2_with (first
    | (go_at_call 73; (with_reducible refine (C1.out _ belt).mono ?_); rintro e w3 ⟨rfl, hb3⟩; have z3 := hb3.size)
    | (go_at_call 36; (with_reducible refine (O1.out _ hb3).mono ?_); rintro e w4 ⟨hb4, vL, rfl, hownL⟩; obtain ⟨sL, cL, rfl, _⟩ := (hownL.row (Nat.le_refl _)).shape)
    | go_in)
   go_ret2
   exact ⟨hb3.trans (hb4.mono z3), _, rfl, Owns.nil _ _⟩
 ·have hcb : (chkL xs == 0) = false := by simp [c1]
  have hcn : (chkL xs != 0) = true := by simp [c1]
  rw [if_neg c1, if_neg c1]
  rw [en] at C1 ⊢
  replace C1 := Lib.hid C1
  clear c1 K1
  go_enter Tryz.func37, Tryz.ntmps37
  go_wp2_with (first
   | (go_at_call 73; (with_reducible refine (C1.out _ belt).mono ?_); rintro e w3 ⟨rfl, hb3⟩)
   | go_in)
  go_ret2
  exact ⟨hb3, _, rfl, Owns.nil _ _⟩
end
end Go.Proofs.YtffmomgmkpmpkaaGreatDoor
