/-
  list.Norm.
-/
import Derived.Test.YtkmofpnefjgnkaaLisBu
namespace Go.Proofs.Ytkmofpnefjgnkaa
open Go.RowKit
set_option linter.unusedVariables false
attribute [local go_sem] vwp vUpon_value vUpon_skip vUpon_enter vUpon_row
set_option linter.unusedSimpArgs false
set_option linter.unusedVariables false
def covB (P : List Re) (s : St) (r : Re) : Bool := decide (s.kind = 1) && (decide (s.col.a = 255) && wthB P r)
def anyCov (P : List Re) : List St → List Re → Bool
  | s :: xs, r :: rs => covB P s r || anyCov P xs rs
  | _, _ => false
def hidB (s : St) (r : Re) (xs : List St) (rs : List Re) : Bool := drB s && (decide ((plcL s r).length = 0) || anyCov (plcL s r) xs rs)
def nrmGo : List St → List Re → List St
  | s :: xs, r :: rs => (if hidB s r xs rs then [] else [s]) ++ nrmGo xs rs
  | _, _ => []
def normS (xs : List St) : List St := if chkL xs = 0 then busyL (nrmGo xs (shL xs)) else []
theorem drop_get {α : Type} {l : List α} {k : Nat} {a : α} (h : l[k]? = some a) : l.drop k = a :: l.drop (k + 1) := by
  obtain ⟨hk, e⟩ := List.getElem?_eq_some_iff.1 h
  rw [List.drop_eq_getElem_cons hk, e]
theorem nrm_step {xs : List St} {rs : List Re} {k : Nat} {s : St} {q : Re} (hs : xs[k]? = some s) (hq : rs[k]? = some q) : nrmGo (xs.drop k) (rs.drop k) = (if hidB s q (xs.drop (k + 1)) (rs.drop (k + 1)) then [] else [s]) ++ nrmGo (xs.drop (k + 1)) (rs.drop (k + 1)) := by
  rw [drop_get hs, drop_get hq]; rfl
theorem cov_step {P : List Re} {xs : List St} {rs : List Re} {k : Nat} {s : St} {q : Re} (hs : xs[k]? = some s) (hq : rs[k]? = some q) : anyCov P (xs.drop k) (rs.drop k) = (covB P s q || anyCov P (xs.drop (k + 1)) (rs.drop (k + 1))) := by
  rw [drop_get hs, drop_get hq]; rfl
theorem cov_end {P : List Re} {xs : List St} {rs : List Re} {k : Nat} (h : xs.length ≤ k) : anyCov P (xs.drop k) (rs.drop k) = false := by
  rw [List.drop_eq_nil_of_le h]; rfl
theorem nrm_le : ∀ (xs : List St) (rs : List Re), (nrmGo xs rs).length ≤ xs.length
  | [], _ => by simp [nrmGo]
  | _ :: _, [] => by simp [nrmGo]
  | s :: xs, r :: rs => by
    have := nrm_le xs rs
    simp only [nrmGo, List.length_append, List.length_cons]
    split <;> simp <;> omega
theorem nrm_mem : ∀ (xs : List St) (rs : List Re) (s : St), s ∈ nrmGo xs rs → s ∈ xs
  | [], _, _, h => by simp [nrmGo] at h
  | _ :: _, [], _, h => by simp [nrmGo] at h
  | x :: xs, r :: rs, s, h => by
    rw [nrmGo] at h
    rcases List.mem_append.1 h with h | h
    · split at h
      · simp at h
      · simp at h; subst h; simp
    · exact List.mem_cons_of_mem _ (nrm_mem xs rs s h)
/-- The relation of Norm's outer loop. -/
def NoRel (w2 : World) (xs : List St) (R : List Re) (N : List St) (k : Nat) (v : Value) (wr : World) : Prop := ∃ O, Owns w2.heap.size wr v O ∧ O ++ nrmGo (xs.drop k) (R.drop k) = N ∧ O.length ≤ k ∧ Below w2.heap.size w2 wr
theorem smem_box {w : World} {s : St} (w4 : World) (hb : Below (w.alloc (.cells #[.int .u8 (s).kind, .int .i64 (s).rect.x, .int .i64 (s).rect.y, .int .i64 (s).rect.wd, .int .i64 (s).rect.ht, .int .u8 (s).col.r, .int .u8 (s).col.g, .int .u8 (s).col.b, .int .u8 (s).col.a, .int .u8 (s).back.r, .int .u8 (s).back.g, .int .u8 (s).back.b, .int .u8 (s).back.a, .string (s).text, .int .i64 (s).node] 45)).heap.size (w.alloc (.cells #[.int .u8 (s).kind, .int .i64 (s).rect.x, .int .i64 (s).rect.y, .int .i64 (s).rect.wd, .int .i64 (s).rect.ht, .int .u8 (s).col.r, .int .u8 (s).col.g, .int .u8 (s).col.b, .int .u8 (s).col.a, .int .u8 (s).back.r, .int .u8 (s).back.g, .int .u8 (s).back.b, .int .u8 (s).back.a, .string (s).text, .int .i64 (s).node] 45)) w4) : SMem w4 w.heap.size 0 s := by
  have h : Blk w4 w.heap.size s.enc 45 := (Blk.new' (cs := s.enc) rfl).below hb (by simp)
  exact smem_of (fun i u hi => by rw [Nat.zero_add]; exact h.cell hi)
theorem SMem.below {w w' : World} {b p B : Nat} {s : St} (h : SMem w b p s) (hb : Below B w w') (hB : b < B) : SMem w' b p s := by
  obtain ⟨g0, g1, g2, g3, g4, g5, g6, g7, g8, g9, g10, g11, g12, g13, g14⟩ := h
  exact ⟨(hb.cell (p := ⟨b, p, none⟩) hB).trans g0, (hb.cell (p := ⟨b, p + 1, none⟩) hB).trans g1, (hb.cell (p := ⟨b, p + 2, none⟩) hB).trans g2, (hb.cell (p := ⟨b, p + 3, none⟩) hB).trans g3, (hb.cell (p := ⟨b, p + 4, none⟩) hB).trans g4, (hb.cell (p := ⟨b, p + 5, none⟩) hB).trans g5, (hb.cell (p := ⟨b, p + 6, none⟩) hB).trans g6, (hb.cell (p := ⟨b, p + 7, none⟩) hB).trans g7, (hb.cell (p := ⟨b, p + 8, none⟩) hB).trans g8, (hb.cell (p := ⟨b, p + 9, none⟩) hB).trans g9, (hb.cell (p := ⟨b, p + 10, none⟩) hB).trans g10, (hb.cell (p := ⟨b, p + 11, none⟩) hB).trans g11, (hb.cell (p := ⟨b, p + 12, none⟩) hB).trans g12, (hb.cell (p := ⟨b, p + 13, none⟩) hB).trans g13, (hb.cell (p := ⟨b, p + 14, none⟩) hB).trans g14⟩
theorem RMem.below {w w' : World} {b p B : Nat} {q : Re} (h : RMem w b p q) (hb : Below B w w') (hB : b < B) : RMem w' b p q := by
  obtain ⟨g0, g1, g2, g3⟩ := h
  exact ⟨(hb.cell (p := ⟨b, p, none⟩) hB).trans g0, (hb.cell (p := ⟨b, p + 1, none⟩) hB).trans g1, (hb.cell (p := ⟨b, p + 2, none⟩) hB).trans g2, (hb.cell (p := ⟨b, p + 3, none⟩) hB).trans g3⟩
set_option maxHeartbeats 4000000 in
set_option maxRecDepth 100000 in
theorem lnorm_any (xs : List St) (v : Value) (w : World) (hl : Row w.heap.size 15 St.enc w v xs) (k1 : ∀ s ∈ xs, s.Wf) : Calls Try.prog 22 #[v] w (OutU w.heap.size (normS xs) (chkL xs) w) := by
  obtain ⟨iM, hi0, hm0, hm1, hm2⟩ := info_parts infoSt
  have C1 := fun w' (hb : Below w.heap.size w w') => lcheck_any xs v w' ((hl.below hb).mono hb.size) k1
  have K1 := fun w' (hb : Below w.heap.size w w') hc => lshown_any xs v w' ((hl.below hb).mono hb.size) k1 hc
  obtain ⟨s0, cap, rfl, hmax⟩ := hl.shape
  have hopen := fun h0 => row_st hl h0
  obtain ⟨n, en⟩ : ∃ n, xs.length = n := ⟨_, rfl⟩
  clear hl
  by_cases c1 : chkL xs = 0
  · have l1 := chk_len c1
    have hz := fun s hs => chk_mem c1 s hs
    have hfS : normS xs = busyL (nrmGo xs (shL xs)) := if_pos c1
    have hRl := shL_len xs
    have hRm := shGo_may xs [] (by simp) (fun s hs => err_may (hz s hs))
    have K1 := fun w' hb => K1 w' hb c1
    change ∀ q ∈ shL xs, mayR q = true at hRm
    obtain ⟨R, hR⟩ : ∃ R, shL xs = R := ⟨_, rfl⟩
    rw [hfS]
    rw [hR] at K1 hRl hRm ⊢
    obtain ⟨N, hN⟩ : ∃ N, nrmGo xs R = N := ⟨_, rfl⟩
    have hNl := nrm_le xs R
    rw [hN] at hNl ⊢
    rw [c1] at C1 ⊢
    rw [en] at l1 hmax hopen C1 K1 hRl hNl ⊢
    replace C1 := Lib.hid C1
    replace K1 := Lib.hid K1
    replace hopen := Lib.hid hopen
    replace en := Lib.hid en
    replace hRl := Lib.hid hRl
    replace hRm := Lib.hid hRm
    replace k1 := Lib.hid k1
    replace hz := Lib.hid hz
    replace hN := Lib.hid hN
    clear c1 hR hfS
    go_enter Try.func22, Try.ntmps22
    go_wp2_with (first
      | (go_at_call 17; (with_reducible refine (C1.out _ (by repeat (first | exact Below.refl _ _ | assumption | refine Below.drew ?_ | refine Below.alloc ?_ (by (try simp) <;> omega) _ | refine Below.setCell ?_ (by (try simp) <;> omega) _ | (refine Below.trans ?_ (Below.mono (by assumption) (by (try simp) <;> omega)))))).mono ?_); rintro e w3 ⟨rfl, hb3⟩; have z3 := hb3.size)
      | (go_at_call 42; (with_reducible refine (K1.out _ hb3).mono ?_); rintro e w2 ⟨v2, rfl, hown2, hb2⟩; obtain ⟨s2, cap2, rfl⟩ := own_slice hown2; rw [hRl.out])
      | go_in)
    have hb02 : Below w.heap.size w w2 := hb3.trans (hb2.mono z3)
    have z02 := hb02.size
    have hrow := hown2.row (Nat.le_refl w2.heap.size)
    have hopR := fun h0 => row_re hrow h0
    rw [hRl.out] at hopR
    replace hopR := Lib.hid hopR
    clear hrow hown2 hb2 hb3 z3
    obtain ⟨hcw, hfw⟩ := bcell hb02
    go_loopg [6, 21] n (fun gg vo i wr => ∃ (k : Nat), k ≤ n ∧ n - k ≤ gg ∧ i = .int .i64 k ∧ NoRel w2 xs R N k vo wr)
    case atStart => exact ⟨0, Nat.zero_le _, by omega, rfl, [], World.ownsRow_nil _ _ _ _, by simpa using hN.out, by simp, Below.refl _ _⟩
    case round =>
      obtain ⟨k, hk, hgg, rfl, O, hown, hNO, hOk, hbr⟩ := hrel
      have zr := hbr.size
      obtain ⟨hcr, hfr⟩ := bcell hbr
      by_cases hkn : k < n
      · obtain ⟨b, p, cap', e, hb, _, _, hel⟩ := hopen.out (by omega)
        simp at e
        obtain ⟨rfl, rfl⟩ := e
        obtain ⟨b2, p2, cap2', e, hb2, hn2, hm2', hel2⟩ := hopR.out (by omega)
        simp at e
        obtain ⟨rfl, rfl⟩ := e
        obtain ⟨s, hs⟩ : ∃ s, xs[k]? = some s := ⟨xs[k]'(by have := en.out; omega), List.getElem?_eq_getElem _⟩
        obtain ⟨q, hq⟩ : ∃ q, R[k]? = some q := ⟨R[k]'(by have := hRl.out; omega), List.getElem?_eq_getElem _⟩
        have hstep := nrm_step hs hq
        have hsw := k1.out s (List.mem_of_getElem? hs)
        have hsm := err_may (hz.out s (List.mem_of_getElem? hs))
        have hqm := hRm.out q (List.mem_of_getElem? hq)
        have D := fun w => draws_any s w hsw.1
        have hkk : (k : Int) < n := by omega
        have yb : b < wr.heap.size := by omega
        have ybw : b < w2.heap.size := by omega
        have yb2 : b2 < wr.heap.size := by omega
        have hO16 : O.length ≤ 16384 := by omega
        obtain ⟨g0, g1, g2, g3, g4, g5, g6, g7, g8, g9, g10, g11, g12, g13, g14⟩ := hel k s hs
        obtain ⟨st0, cap0, rfl⟩ := own_slice hown
        obtain ⟨j0, j1, j2, j3⟩ := (hel2 k q hq)
        have RQ : RMem wr b2 (p2 + k * 4) q := (show RMem w2 b2 (p2 + k * 4) q from ⟨j0, j1, j2, j3⟩).below hbr hb2
        rw [hstep] at hNO
        replace hel := Lib.hid hel
        replace hel2 := Lib.hid hel2
        replace hown := Lib.hid hown
        replace hNO := Lib.hid hNO
        replace RQ := Lib.hid RQ
        clear hs hq hstep j0 j1 j2 j3
        cases hd : drB s
        · rw [show decide (s.kind ≤ 3) = false from hd] at D
          have hh : hidB s q (xs.drop (k + 1)) (R.drop (k + 1)) = false := by unfold hidB; rw [hd]; rfl
          replace hNO := hNO.out
          rw [hh] at hNO
          replace hNO := Lib.hid hNO
          replace D := Lib.hid D
          clear hh hd
          go_upto_region 17 with (first
            | (go_at_call 43; (with_reducible refine (D.out _).mono ?_); rintro e w4 ⟨rfl, hb4⟩)
            | go_in)
          have hbox := smem_box w4 hb4
          have hb4r : Below wr.heap.size wr w4 := (by repeat (first | exact Below.refl _ _ | assumption | refine Below.drew ?_ | refine Below.alloc ?_ (by (try simp) <;> omega) _ | refine Below.setCell ?_ (by (try simp) <;> omega) _ | (refine Below.trans ?_ (Below.mono (by assumption) (by (try simp) <;> omega)))))
          have z4 := hb4r.size
          have y4 : wr.heap.size < w4.heap.size := by have := hb4.size; simp at this; omega
          clear hb4 g0 g1 g2 g3 g4 g5 g6 g7 g8 g9 g10 g11 g12 g13 g14
          obtain ⟨k0, k1', k2, k3, k4, k5, k6, k7, k8, k9, k10, k11, k12, k13, k14⟩ := hbox
          simp only [Nat.zero_add] at k1' k2 k3 k4 k5 k6 k7 k8 k9 k10 k11 k12 k13 k14
          have hownX := (hown.out.below hb4r (Nat.le_refl _))
          unfold Owns at hownX
          go_wp2_with (first
            | (at_builtin; refine wpList_append_new rfl _ _ _ rfl w2.heap.size 45 iM _ 15 72 Try.underlying22 hi0 hm0 hm1 hm2 rfl (by omega) w4 1 _ _ _ _ (by rfl) hownX (by rfl) rfl (by simp [Value.oneCell']) (by omega) (by unfold maxLen; omega) (by omega) ?_; intro v9 w9 hown9 hb9)
            | go_in)
          have hcs : [.int .u8 (s).kind, .int .i64 (s).rect.x, .int .i64 (s).rect.y, .int .i64 (s).rect.wd, .int .i64 (s).rect.ht, .int .u8 (s).col.r, .int .u8 (s).col.g, .int .u8 (s).col.b, .int .u8 (s).col.a, .int .u8 (s).back.r, .int .u8 (s).back.g, .int .u8 (s).back.b, .int .u8 (s).back.a, .string (s).text, .int .i64 (s).node] = s.enc := rfl
          rw [flat_snoc hcs] at hown9
          have hbX : Below w2.heap.size w2 w9 := ((hbr.trans (hb4r.mono zr))).trans hb9
          replace hown9 := Lib.hid hown9
          go_wp2
          go_roundg (n - (k + 1))
          case measure => omega
          case rel =>
            refine ⟨k + 1, by omega, by omega, by go_num, O ++ [s], ?_, ?_, by simp; omega, hbX⟩
            · unfold Owns; rw [List.length_append]; exact hown9.out
            · have := hNO.out; simpa using this
        · rw [show decide (s.kind ≤ 3) = true from hd] at D
          have hPL := fun w => places_any s q w hsw hsm hqm
          have hple := plc_le s q
          have hpm := plc_may (s := s) hqm
          obtain ⟨HB, hHB⟩ : ∃ HB, hidB s q (xs.drop (k + 1)) (R.drop (k + 1)) = HB := ⟨_, rfl⟩
          replace hNO := hNO.out
          rw [hHB] at hNO
          unfold hidB at hHB
          rw [hd, Bool.true_and] at hHB
          generalize plcL s q = P at hPL hple hpm hHB
          obtain ⟨pl, hpl⟩ : ∃ pl, P.length = pl := ⟨_, rfl⟩
          obtain ⟨pb, hpb⟩ : ∃ pb, ((pl : Int) == 0) = pb := ⟨_, rfl⟩
          rw [hpl] at hple hHB
          rw [show decide (pl = 0) = pb by rw [← hpb, Bool.eq_iff_iff]; simp] at hHB
          have hpw : ∀ m ∈ P, m.Wf := fun m hm => may_wf (hpm m hm)
          replace hNO := Lib.hid hNO
          replace hHB := Lib.hid hHB
          replace hpl := Lib.hid hpl
          replace hpw := Lib.hid hpw
          replace hPL := Lib.hid hPL
          replace D := Lib.hid D
          clear hd hpm
          go_upto_region 10 with (first
            | (go_at_call 43; (with_reducible refine (D.out _).mono ?_); rintro e w4 ⟨rfl, hb4⟩)
            | go_in)
          have hbox := smem_box w4 hb4
          have hb4r : Below wr.heap.size wr w4 := (by repeat (first | exact Below.refl _ _ | assumption | refine Below.drew ?_ | refine Below.alloc ?_ (by (try simp) <;> omega) _ | refine Below.setCell ?_ (by (try simp) <;> omega) _ | (refine Below.trans ?_ (Below.mono (by assumption) (by (try simp) <;> omega)))))
          have z4 := hb4r.size
          have y4 : wr.heap.size < w4.heap.size := by have := hb4.size; simp at this; omega
          have RQ4 := RQ.out.below hb4r yb2
          have hbr4 := hbr.trans (hb4r.mono zr)
          have hown4 := hown.out.below hb4r (Nat.le_refl _)
          have hboxh := Lib.hid hbox
          obtain ⟨r0, r1, r2, r3⟩ := RQ4
          obtain ⟨k0, k1', k2, k3, k4, k5, k6, k7, k8, k9, k10, k11, k12, k13, k14⟩ := hbox
          simp only [Nat.zero_add] at k1' k2 k3 k4 k5 k6 k7 k8 k9 k10 k11 k12 k13 k14
          have yb24 : b2 < w4.heap.size := by omega
          have yw4 := y4
          obtain ⟨wo, hwo⟩ : ∃ wo : World, wo = wr := ⟨_, rfl⟩
          subst hwo
          clear hb4 hb4r g0 g1 g2 g3 g4 g5 g6 g7 g8 g9 g10 g11 g12 g13 g14 hcr hfr hbr RQ hown
          replace hown4 := Lib.hid hown4
          refine wp_region_steady_then (Held w4 0 []) 5 (by kernel_rfl) (by kernel_rfl) (by decide) (by kernel_rfl) (by kernel_rfl) ⟨(by repeat (first | exact Below.refl _ _ | assumption | refine Below.drew ?_ | refine Below.alloc ?_ (by (try simp) <;> omega) _ | refine Below.setCell ?_ (by (try simp) <;> omega) _ | (refine Below.trans ?_ (Below.mono (by assumption) (by (try simp) <;> omega))))), (by (try simp) <;> omega), (by first | exact trivial | (simp only [Cells]; go_simp))⟩ ?_
          simp only [List.take_succ_cons, List.take_zero]
          repeat (first | (refine' wpSteady_do _ _ _; rotate_left; (focus rfl); (focus (intro w1 hS R hR; have hc := hS.cells; simp only [Cells] at hc; obtain ⟨hco, hfo⟩ := bcell hS.old; go_simp; (try go_bits); first | exact hR _ hS | fail)); simp only [Act.put, List.setIfInBounds_toArray, List.set_cons_zero, List.set_cons_succ]) | (refine wpSteady_pass ?_ ?_; (focus rfl); simp only [Act.put, List.setIfInBounds_toArray, List.set_cons_zero, List.set_cons_succ]))
          refine wpSteady_nil (fun uA hSA => ?_)
          have hcA := hSA.cells; have hbA := hSA.old; have hzA := hSA.size; clear hSA; simp only [Cells] at hcA; obtain ⟨hcoA, hfoA⟩ := bcell hbA
          simp only [List.drop_succ_cons, List.drop_zero, List.drop_nil]
          go_wp2_with (first
            | (go_at_call 46; (with_reducible refine (hPL.out _).mono ?_); rintro e w5 ⟨pv, rfl, hownP, hb5⟩; obtain ⟨sp, cp, rfl⟩ := own_slice hownP; rw [hpl.out])
            | go_in)
          have hb45 : Below w4.heap.size w4 w5 := hbA.trans (hb5.mono hbA.size)
          have z45 := hb45.size
          have hrowP := hownP.row (Nat.le_refl w5.heap.size)
          have hbox5 := Lib.hid (hboxh.out.below hb45 y4)
          have hown5 := Lib.hid (hown4.out.below hb45 (Nat.le_refl _))
          have hbr5 := hbr4.trans (hb45.mono (by have := hbr4.size; omega))
          have z25 := hbr5.size
          rw [hpl.out] at hrowP
          replace hrowP := Lib.hid hrowP
          clear r0 r1 r2 r3 k0 k1' k2 k3 k4 k5 k6 k7 k8 k9 k10 k11 k12 k13 k14 hbA hcA hcoA hfoA hzA hb5 hown4 hboxh hownP
          go_loopw [10, 11] (fun h i wr => ∃ (kk : Nat) (hb : Bool), kk ≤ n ∧ k + 1 ≤ kk ∧ i = .int .i64 kk ∧ h = .bool hb ∧ Hid ((hb || anyCov P (xs.drop kk) (R.drop kk)) = HB) ∧ Below w5.heap.size w5 wr) (fun _ i _ => n - (intOf i).toNat)
          case atStart => exact ⟨k + 1, pb, by omega, Nat.le_refl _, by go_num, by first | rfl | rw [hpb], hHB, Below.refl _ _⟩
          case round =>
            obtain ⟨kk, hb, hkk1, hkk2, rfl, rfl, hcov, hbi⟩ := hrel
            have zi := hbi.size
            obtain ⟨hci, hfi⟩ := bcell hbi
            obtain ⟨hc5, hf5⟩ := bcell hbr5
            clear hpb
            cases hb
            · by_cases hkn2 : kk < n
              · obtain ⟨t, ht⟩ : ∃ s, xs[kk]? = some s := ⟨xs[kk]'(by have := en.out; omega), List.getElem?_eq_getElem _⟩
                obtain ⟨r, hr⟩ : ∃ q, R[kk]? = some q := ⟨R[kk]'(by have := hRl.out; omega), List.getElem?_eq_getElem _⟩
                have hbwi : Below w2.heap.size w2 wr := hbr5.trans (hbi.mono z25)
                have hcs := cov_step (P := P) ht hr
                have hcv := hcov.out
                rw [hcs, Bool.false_or] at hcv
                obtain ⟨g0, g1, g2, g3, g4, g5, g6, g7, g8, g9, g10, g11, g12, g13, g14⟩ := (hel.out kk t ht)
                have RR : RMem wr b2 (p2 + kk * 4) r := (hel2.out kk r hr).below hbwi hb2
                obtain ⟨r0, r1, r2, r3⟩ := RR
                have hrm := may_wf (hRm.out r (List.mem_of_getElem? hr))
                have ybi : b < wr.heap.size := by omega
                have ybi5 : b < w5.heap.size := by omega
                have yb2i : b2 < wr.heap.size := by omega
                have hkk3 : (kk : Int) < n := by omega
                have W := within_any P r (.slice sp pl cp) wr ((hrowP.out.below hbi).mono zi) (by rw [hpl.out]; omega) hpw.out hrm
                clear hcs ht hr g1 g2 g3 g4 g5 g6 g7 g9 g10 g11 g12 g13 g14
                by_cases q1 : t.kind = 1
                · by_cases q2 : t.col.a = 255
                  · have e : covB P t r = wthB P r := by unfold covB; simp [q1, q2]
                    rw [e] at hcv
                    generalize wthB P r = rb at W hcv
                    rw [q1] at g0
                    rw [q2] at g8
                    replace W := Lib.hid W
                    replace hcv := Lib.hid hcv
                    clear e q1 q2 hcov
                    go_wp2_with (first
                      | (go_at_call 47; (with_reducible refine (W.out).mono ?_); rintro e w6 ⟨rfl, hb6⟩)
                      | go_in)
                    go_roundw
                    case rel => exact ⟨kk + 1, rb, by omega, by omega, by go_num, rfl, hcv, hbi.trans (hb6.mono zi)⟩
                    case measure => simp [intOf]; omega
                  · have e : covB P t r = false := by unfold covB; simp [q2]
                    rw [e] at hcv
                    have q2b : (t.col.a == 255) = false := by simp [q2]
                    rw [q1] at g0
                    replace hcv := Lib.hid hcv
                    clear e q1 hcov W
                    go_wp2
                    go_roundw
                    case rel => exact ⟨kk + 1, false, by omega, by omega, by go_num, rfl, hcv, hbi⟩
                    case measure => simp [intOf]; omega
                · have e : covB P t r = false := by unfold covB; simp [q1]
                  rw [e] at hcv
                  have q1b : (t.kind == 1) = false := by simp [q1]
                  replace hcv := Lib.hid hcv
                  clear e hcov W
                  go_wp2
                  go_roundw
                  case rel => exact ⟨kk + 1, false, by omega, by omega, by go_num, rfl, hcv, hbi⟩
                  case measure => simp [intOf]; omega
              · have hend := cov_end (P := P) (xs := xs) (rs := R) (k := kk) (by have := en.out; omega)
                have hcv := hcov.out
                rw [hend, Bool.or_false] at hcv
                have hNO2 := hNO.out
                rw [← hcv] at hNO2
                replace hNO2 := Lib.hid hNO2
                have hkk3 : ¬ (kk : Int) < n := by omega
                clear hcv hend hcov
                go_upto_region 17 with fail
                have hboxi := hbox5.out.below hbi (by omega)
                have ywi : wo.heap.size < wr.heap.size := by omega
                have hbri := hbr5.trans (hbi.mono z25)
                have zri := hbri.size
                obtain ⟨k0, k1', k2, k3, k4, k5, k6, k7, k8, k9, k10, k11, k12, k13, k14⟩ := hboxi
                simp only [Nat.zero_add] at k1' k2 k3 k4 k5 k6 k7 k8 k9 k10 k11 k12 k13 k14
                have hownX := (hown5.out.below hbi (Nat.le_refl _))
                unfold Owns at hownX
                go_wp2_with (first
                  | (at_builtin; refine wpList_append_new rfl _ _ _ rfl w2.heap.size 45 iM _ 15 72 Try.underlying22 hi0 hm0 hm1 hm2 rfl (by omega) wr 1 _ _ _ _ (by rfl) hownX (by rfl) rfl (by simp [Value.oneCell']) (by omega) (by unfold maxLen; omega) zri ?_; intro v9 w9 hown9 hb9)
                  | go_in)
                have hcs : [.int .u8 (s).kind, .int .i64 (s).rect.x, .int .i64 (s).rect.y, .int .i64 (s).rect.wd, .int .i64 (s).rect.ht, .int .u8 (s).col.r, .int .u8 (s).col.g, .int .u8 (s).col.b, .int .u8 (s).col.a, .int .u8 (s).back.r, .int .u8 (s).back.g, .int .u8 (s).back.b, .int .u8 (s).back.a, .string (s).text, .int .i64 (s).node] = s.enc := rfl
                rw [flat_snoc hcs] at hown9
                have hbX : Below w2.heap.size w2 w9 := (hbri).trans hb9
                replace hown9 := Lib.hid hown9
                go_wp2
                go_roundg (n - (k + 1))
                case measure => omega
                case rel =>
                  refine ⟨k + 1, by omega, by omega, by go_num, O ++ [s], ?_, ?_, by simp; omega, hbX⟩
                  · unfold Owns; rw [List.length_append]; exact hown9.out
                  · have := hNO2.out; simpa using this
            · have hcv := hcov.out
              rw [Bool.true_or] at hcv
              have hNO2 := hNO.out
              rw [← hcv] at hNO2
              replace hNO2 := Lib.hid hNO2
              have ho9 := Lib.hid (hown5.out.below hbi (Nat.le_refl _))
              clear hcv hcov
              go_wp2
              all_goals
                go_roundg (n - (k + 1))
                case measure => omega
                case rel =>
                  refine ⟨k + 1, by omega, by omega, by go_num, O, ho9.out, ?_, by omega, hbr5.trans (hbi.mono z25)⟩
                  have := hNO2.out; simpa using this
      · obtain rfl : k = n := by omega
        obtain rfl : O = N := by
          have := hNO
          rw [List.drop_eq_nil_of_le (by have := en.out; omega)] at this
          simpa [nrmGo] using this
        have B := busy_any w2.heap.size O _ wr hown (by omega)
        obtain ⟨st0, cap0, rfl⟩ := own_slice hown
        have hlt := fun g hg => (own_in hown g hg).1
        replace B := Lib.hid B
        replace hown := Lib.hid hown
        replace hlt := Lib.hid hlt
        clear hNO
        go_wp2_with (first
          | (go_at_call 48; (with_reducible refine (B.out).mono ?_); rintro e w6 ⟨v6, rfl, hown6, hgr6, hvb6⟩)
          | go_in)
        have hb6 : Below w2.heap.size w2 w6 := hbr.grown hgr6 zr hlt.out
        replace hown6 := Lib.hid hown6
        go_ret2
        exact ⟨hb02.trans (hb6.mono z02), _, rfl, own_less hown6.out z02⟩
  · have hfS : normS xs = [] := if_neg c1
    have hcb : (chkL xs == 0) = false := by simp [c1]
    rw [hfS]
    rw [en] at C1 ⊢
    replace C1 := Lib.hid C1
    clear c1 K1
    go_enter Try.func22, Try.ntmps22
    go_wp2_with (first
      | (go_at_call 17; (with_reducible refine (C1.out _ (by repeat (first | exact Below.refl _ _ | assumption | refine Below.drew ?_ | refine Below.alloc ?_ (by (try simp) <;> omega) _ | refine Below.setCell ?_ (by (try simp) <;> omega) _ | (refine Below.trans ?_ (Below.mono (by assumption) (by (try simp) <;> omega)))))).mono ?_); rintro e w3 ⟨rfl, hb3⟩)
      | go_in)
    go_ret2
    exact ⟨hb3, _, rfl, Owns.nil _ _⟩
end Go.Proofs.Ytkmofpnefjgnkaa
