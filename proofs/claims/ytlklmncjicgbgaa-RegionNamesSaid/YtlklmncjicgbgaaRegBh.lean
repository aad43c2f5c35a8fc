/-
  region.Bound.
-/
import Derived.Test.YtlklmncjicgbgaaRegBg
namespace Go.Proofs.Ytlklmncjicgbgaa
open Go.RowKit
set_option linter.unusedVariables false
attribute [local go_sem] vwp vUpon_value vUpon_skip vUpon_enter vUpon_row
set_option linter.unusedSimpArgs false
set_option linter.unusedVariables false
theorem un_may {o q : Re} (ho : mayR o = true) (hq : mayR q = true) : mayR (unR o q) = true := by
  obtain ⟨a1, a2, a3, a4, a5, a6⟩ := may_sides ho
  obtain ⟨b1, b2, b3, b4, b5, b6⟩ := may_sides hq
  unfold InM at *
  unfold unR
  apply may_mk <;> simp only [InM] <;> omega
theorem bnd_may {o q : Re} (ho : mayR o = true) (hq : mayR q = true) : mayR (bndGo o q) = true := by
  unfold bndGo
  split
  · exact ho
  · split
    · exact hq
    · exact un_may ho hq
theorem bnd_step {l : List Re} {k : Nat} {q o : Re} (hq : l[k]? = some q) : (l.drop k).foldl bndGo o = (l.drop (k + 1)).foldl bndGo (bndGo o q) := by
  rw [drop_get hq]; rfl
theorem blk_re {w : World} {b : Nat} {q : Re} {e : TypeId} (h : Blk w b q.enc e) : RMem w b 0 q := ⟨h.cell (o := 0) rfl, h.cell (o := 1) rfl, h.cell (o := 2) rfl, h.cell (o := 3) rfl⟩
set_option maxHeartbeats 4000000 in
set_option maxRecDepth 100000 in
theorem rbound_any (a : List Re) (va : Value) (w : World) (ha : Row w.heap.size 4 Re.enc w va a) (wa : WfL a) :
    Calls Try.prog 30 #[va] w fun e w' => e = .returned (.tuple #[.agg #[.int .i64 (bndE a).x, .int .i64 (bndE a).y, .int .i64 (bndE a).wd, .int .i64 (bndE a).ht], .int .i64 (chkR a)]) ∧ Below w.heap.size w w' := by
  obtain ⟨s1, c1, rfl, hmax⟩ := ha.shape
  obtain ⟨wb, hwb⟩ : ∃ wb, wb = w.alloc (.cells #[.int .i64 0, .int .i64 0, .int .i64 0, .int .i64 0] 49) := ⟨_, rfl⟩
  have hwal : Below w.heap.size w wb := by rw [hwb]; exact (Below.refl _ _).alloc (Nat.le_refl _) _
  have hsz : w.heap.size < wb.heap.size := by rw [hwb]; simp
  have hK : Blk wb w.heap.size (Re.none).enc 49 := by rw [hwb]; exact Blk.new' rfl
  have AS := asked1 a s1 c1 wb ((ha.below hwal).mono hwal.size) wa
  have hs1 : wb.heap.size = w.heap.size + 1 := by rw [hwb]; simp
  rw [hs1] at AS
  have hal : Below wb.heap.size wb (wb.alloc (.cells #[.slice s1 a.length c1] 22)) := (Below.refl _ _).alloc (Nat.le_refl _) _
  have hro : ∀ w1, Below w.heap.size w w1 → 0 < a.length → ∃ b o cap, Value.slice s1 a.length c1 = .slice (some ⟨b, o, none⟩) a.length cap ∧ b < w.heap.size ∧ a.length ≤ cap ∧ cap ≤ maxLen ∧ ∀ (j : Nat) q, a[j]? = some q → RMem w1 b (o + j * 4) q := fun w1 h h0 => row_re (ha.below h) h0
  unfold bndE
  by_cases h0 : chkR a = 0
  · rw [if_pos h0]
    rw [h0] at AS ⊢
    obtain ⟨ma, la⟩ := chkR_may h0
    obtain ⟨R, hR⟩ : ∃ R, bndR a = R := ⟨_, rfl⟩
    have hgo : (a.drop 0).foldl bndGo Re.none = R := hR
    rw [hR]
    obtain ⟨n, en⟩ : ∃ n, a.length = n := ⟨_, rfl⟩
    rw [en] at AS hal hro la
    have hlt : Below w.heap.size w (wb.alloc (.cells #[.slice s1 n c1] 22)) := hwal.trans (hal.mono hwal.size)
    rw [hwb] at AS
    rw [en]
    replace AS := Lib.hid AS
    replace hro := Lib.hid hro
    replace hgo := Lib.hid hgo
    replace en := Lib.hid en
    replace ma := Lib.hid ma
    replace hK := Lib.hid hK
    replace hwb := Lib.hid hwb
    clear ha hR
    go_enter Try.func30, Try.ntmps30
    go_wp2_with (first
      | (go_at_call 43; (with_reducible refine (AS.out).mono ?_); rintro e w1 ⟨rfl, hb1⟩; rw [← hwb.out] at hb1; have hb01 := hal.trans (hb1.mono hal.size))
      | go_in)
    have hK1 := Lib.hid (hK.out.below hb01 hsz)
    have hb1w : Below w.heap.size w w1 := hwal.trans (hb01.mono hwal.size)
    have zK : w.heap.size < w1.heap.size := by have := hb01.size; omega
    have hst := Lib.hid (show Blk (w1.alloc (.cells #[.int .i64 0, .int .i64 0, .int .i64 0, .int .i64 0] 49)) w1.heap.size (Re.none).enc 49 from Blk.new' rfl)
    clear hb1 hb01 AS
    go_loopw [21] (fun iv wr => ∃ (k : Nat) (o : Re), k ≤ n ∧ iv = .int .i64 k ∧ mayR o = true ∧ Hid (Blk wr w1.heap.size o.enc 49) ∧ Hid ((a.drop k).foldl bndGo o = R) ∧ Below w1.heap.size w1 wr) (fun iv _ => n - (intOf iv).toNat)
    case atStart => exact ⟨0, Re.none, Nat.zero_le _, rfl, by decide, hst, hgo, (Below.refl _ _).alloc (Nat.le_refl _) _⟩
    case round =>
      obtain ⟨k, o, hk, rfl, hmo, hbk, hgo, hbr⟩ := hrel
      clear hst
      have zr := hbr.size
      have hB5 := hbk.out.lt
      have hbrw := hb1w.trans (hbr.mono hb1w.size)
      by_cases hkn : k < n
      · obtain ⟨b, ofs, cap', e, hb, _, _, hel⟩ := hro.out wr hbrw (by omega)
        simp at e
        obtain ⟨rfl, rfl⟩ := e
        obtain ⟨q, hq⟩ := get_at en.out hkn
        obtain ⟨g0, g1, g2, g3⟩ := hel k q hq
        have hqm := ma.out q (List.mem_of_getElem? hq)
        have EQ := fun w => empty_any q w (may_wf hqm)
        have EO := fun w => empty_any o w (may_wf hmo)
        rw [empty_none hqm] at EQ
        rw [empty_none hmo] at EO
        have hgo := hgo.out
        rw [bnd_step hq] at hgo
        have hbm := bnd_may hmo hqm
        have hqb := may_bd hqm
        have hob := may_bd hmo
        have hkk : (k : Int) < n := by omega
        have yb : b < wr.heap.size := by have := hbrw.size; omega
        unfold bndGo at hbm
        have hbg : bndGo o q = if noneR q then o else if noneR o then q else unR o q := rfl
        rw [hbg] at hgo
        clear hel hq hbg
        cases hnq : noneR q
        · cases hno : noneR o
          · rw [hnq] at EQ hgo hbm
            rw [hno] at EO hgo hbm
            rw [if_neg (by decide), if_neg (by decide)] at hgo hbm
            replace EQ := Lib.hid EQ
            replace EO := Lib.hid EO
            replace hgo := Lib.hid hgo
            clear hnq hno
            go_upto_region 8 with (first
              | (go_at_call 61; (with_reducible refine (EQ.out _).mono ?_); rintro e w6 ⟨rfl, hb6⟩; have z6 := hb6.size; (try simp at z6); have hb06 : Below wr.heap.size wr w6 := (by repeat (first | exact Below.refl _ _ | assumption | refine Below.drew ?_ | refine Below.alloc ?_ (by (try simp) <;> omega) _ | refine Below.setCell ?_ (by (try simp) <;> omega) _ | (refine Below.trans ?_ (Below.mono (by assumption) (by (try simp) <;> omega))))); have x0 : w6.cell? ⟨wr.heap.size, 0, none⟩ = some (.int .i64 q.x) := (by rw [hb6.cell (p := ⟨wr.heap.size, 0, none⟩) (by simp)]; go_simp); have x1 : w6.cell? ⟨wr.heap.size, 1, none⟩ = some (.int .i64 q.y) := (by rw [hb6.cell (p := ⟨wr.heap.size, 1, none⟩) (by simp)]; go_simp); have x2 : w6.cell? ⟨wr.heap.size, 2, none⟩ = some (.int .i64 q.wd) := (by rw [hb6.cell (p := ⟨wr.heap.size, 2, none⟩) (by simp)]; go_simp); have x3 : w6.cell? ⟨wr.heap.size, 3, none⟩ = some (.int .i64 q.ht) := (by rw [hb6.cell (p := ⟨wr.heap.size, 3, none⟩) (by simp)]; go_simp); have bk6 := Lib.hid (hbk.out.below hb06 (by omega)); obtain ⟨o0, o1, o2, o3⟩ := blk_re bk6.out; have hz6 := hb06.size)
              | (go_at_call 61; (with_reducible refine (EO.out _).mono ?_); rintro e w7 ⟨rfl, hb7⟩; have z7 := hb7.size; have bk7 := Lib.hid (bk6.out.below hb7 (by omega)); obtain ⟨p0, p1, p2, p3⟩ := blk_re bk7.out; have fr7 := bk7.out.free; have hb07 := hb06.trans (hb7.mono hz6); have y0 := (hb7.cell (p := ⟨wr.heap.size, 0, none⟩) (show wr.heap.size < w6.heap.size by omega)).trans x0; have y1 := (hb7.cell (p := ⟨wr.heap.size, 1, none⟩) (show wr.heap.size < w6.heap.size by omega)).trans x1; have y2 := (hb7.cell (p := ⟨wr.heap.size, 2, none⟩) (show wr.heap.size < w6.heap.size by omega)).trans x2; have y3 := (hb7.cell (p := ⟨wr.heap.size, 3, none⟩) (show wr.heap.size < w6.heap.size by omega)).trans x3)
              | go_in)
            have l7 : wr.heap.size < w7.heap.size := by omega
            have l8 : w1.heap.size < w7.heap.size := by omega
            refine wp_region_steady (Held w7 0 []) (by kernel_rfl) (by kernel_rfl) ⟨(by repeat (first | exact Below.refl _ _ | assumption | refine Below.drew ?_ | refine Below.alloc ?_ (by (try simp) <;> omega) _ | refine Below.setCell ?_ (by (try simp) <;> omega) _ | (refine Below.trans ?_ (Below.mono (by assumption) (by (try simp) <;> omega))))), (by (try simp) <;> omega), (by first | exact trivial | (simp only [Cells]; go_simp))⟩ ?_
            repeat (first | (refine' wpSteady_do _ _ _; rotate_left; (focus rfl); (focus (intro w1 hS R hR; have hc := hS.cells; simp only [Cells] at hc; obtain ⟨hco, hfo⟩ := bcell hS.old; go_simp; (try go_bits); first | exact hR _ hS | fail)); simp only [Act.put, List.setIfInBounds_toArray, List.set_cons_zero, List.set_cons_succ]) | (refine wpSteady_pass ?_ ?_; (focus rfl); simp only [Act.put, List.setIfInBounds_toArray, List.set_cons_zero, List.set_cons_succ]))
            refine wpSteady_nil (fun uA hSA => ?_)
            have hcA := hSA.cells; have hbA := hSA.old; have hzA := hSA.size; clear hSA; simp only [Cells] at hcA; obtain ⟨hcoA, hfoA⟩ := bcell hbA
            have bkA := Lib.hid (bk7.out.below hbA l8)
            have frA := bkA.out.free
            have hb0A := hb07.trans (hbA.mono (by omega))
            go_wp2
            go_roundw
            case rel =>
              refine ⟨k + 1, unR o q, by omega, by go_num, hbm, Lib.hid ?_, hgo, ?_⟩
              · exact (((bkA.out.set 0 (.int .i64 (min o.x q.x))).set 1 (.int .i64 (min o.y q.y))).set 2 (.int .i64 (max (o.x + o.wd) (q.x + q.wd) - min o.x q.x))).set 3 (.int .i64 (max (o.y + o.ht) (q.y + q.ht) - min o.y q.y))
              · exact ((((hbr.trans (hb0A.mono zr)).setCell (Nat.le_refl _) _).setCell (Nat.le_refl _) _).setCell (Nat.le_refl _) _).setCell (Nat.le_refl _) _
            case measure => simp [intOf]; omega
          · rw [hnq] at EQ hgo hbm
            rw [hno] at EO hgo hbm
            rw [if_neg (by decide), if_pos rfl] at hgo hbm
            replace EQ := Lib.hid EQ
            replace EO := Lib.hid EO
            replace hgo := Lib.hid hgo
            clear hnq hno
            go_wp2_with (first
              | (go_at_call 61; (with_reducible refine (EQ.out _).mono ?_); rintro e w6 ⟨rfl, hb6⟩; have z6 := hb6.size; (try simp at z6); have hb06 : Below wr.heap.size wr w6 := (by repeat (first | exact Below.refl _ _ | assumption | refine Below.drew ?_ | refine Below.alloc ?_ (by (try simp) <;> omega) _ | refine Below.setCell ?_ (by (try simp) <;> omega) _ | (refine Below.trans ?_ (Below.mono (by assumption) (by (try simp) <;> omega))))); have x0 : w6.cell? ⟨wr.heap.size, 0, none⟩ = some (.int .i64 q.x) := (by rw [hb6.cell (p := ⟨wr.heap.size, 0, none⟩) (by simp)]; go_simp); have x1 : w6.cell? ⟨wr.heap.size, 1, none⟩ = some (.int .i64 q.y) := (by rw [hb6.cell (p := ⟨wr.heap.size, 1, none⟩) (by simp)]; go_simp); have x2 : w6.cell? ⟨wr.heap.size, 2, none⟩ = some (.int .i64 q.wd) := (by rw [hb6.cell (p := ⟨wr.heap.size, 2, none⟩) (by simp)]; go_simp); have x3 : w6.cell? ⟨wr.heap.size, 3, none⟩ = some (.int .i64 q.ht) := (by rw [hb6.cell (p := ⟨wr.heap.size, 3, none⟩) (by simp)]; go_simp); have bk6 := Lib.hid (hbk.out.below hb06 (by omega)); obtain ⟨o0, o1, o2, o3⟩ := blk_re bk6.out; have hz6 := hb06.size)
              | (go_at_call 61; (with_reducible refine (EO.out _).mono ?_); rintro e w7 ⟨rfl, hb7⟩; have z7 := hb7.size; have bk7 := Lib.hid (bk6.out.below hb7 (by omega)); obtain ⟨p0, p1, p2, p3⟩ := blk_re bk7.out; have fr7 := bk7.out.free; have hb07 := hb06.trans (hb7.mono hz6); have y0 := (hb7.cell (p := ⟨wr.heap.size, 0, none⟩) (show wr.heap.size < w6.heap.size by omega)).trans x0; have y1 := (hb7.cell (p := ⟨wr.heap.size, 1, none⟩) (show wr.heap.size < w6.heap.size by omega)).trans x1; have y2 := (hb7.cell (p := ⟨wr.heap.size, 2, none⟩) (show wr.heap.size < w6.heap.size by omega)).trans x2; have y3 := (hb7.cell (p := ⟨wr.heap.size, 3, none⟩) (show wr.heap.size < w6.heap.size by omega)).trans x3)
              | go_in)
            go_roundw
            case rel =>
              refine ⟨k + 1, q, by omega, by go_num, hqm, Lib.hid ?_, hgo, ?_⟩
              · exact (((bk7.out.set 0 (.int .i64 q.x)).set 1 (.int .i64 q.y)).set 2 (.int .i64 q.wd)).set 3 (.int .i64 q.ht)
              · exact ((((hbr.trans (hb07.mono zr)).setCell (Nat.le_refl _) _).setCell (Nat.le_refl _) _).setCell (Nat.le_refl _) _).setCell (Nat.le_refl _) _
            case measure => simp [intOf]; omega
        · rw [hnq] at EQ hgo
          rw [if_pos rfl] at hgo
          replace EQ := Lib.hid EQ
          replace hgo := Lib.hid hgo
          clear hnq EO
          go_wp2_with (first
            | (go_at_call 61; (with_reducible refine (EQ.out _).mono ?_); rintro e w6 ⟨rfl, hb6⟩; have z6 := hb6.size; (try simp at z6); have hb06 : Below wr.heap.size wr w6 := (by repeat (first | exact Below.refl _ _ | assumption | refine Below.drew ?_ | refine Below.alloc ?_ (by (try simp) <;> omega) _ | refine Below.setCell ?_ (by (try simp) <;> omega) _ | (refine Below.trans ?_ (Below.mono (by assumption) (by (try simp) <;> omega))))); have x0 : w6.cell? ⟨wr.heap.size, 0, none⟩ = some (.int .i64 q.x) := (by rw [hb6.cell (p := ⟨wr.heap.size, 0, none⟩) (by simp)]; go_simp); have x1 : w6.cell? ⟨wr.heap.size, 1, none⟩ = some (.int .i64 q.y) := (by rw [hb6.cell (p := ⟨wr.heap.size, 1, none⟩) (by simp)]; go_simp); have x2 : w6.cell? ⟨wr.heap.size, 2, none⟩ = some (.int .i64 q.wd) := (by rw [hb6.cell (p := ⟨wr.heap.size, 2, none⟩) (by simp)]; go_simp); have x3 : w6.cell? ⟨wr.heap.size, 3, none⟩ = some (.int .i64 q.ht) := (by rw [hb6.cell (p := ⟨wr.heap.size, 3, none⟩) (by simp)]; go_simp); have bk6 := Lib.hid (hbk.out.below hb06 (by omega)); obtain ⟨o0, o1, o2, o3⟩ := blk_re bk6.out; have hz6 := hb06.size)
            | go_in)
          go_roundw
          case rel => exact ⟨k + 1, o, by omega, by go_num, hmo, bk6, hgo, hbr.trans (hb06.mono zr)⟩
          case measure => simp [intOf]; omega
      · obtain rfl : k = n := by omega
        have hgo := hgo.out
        rw [List.drop_eq_nil_of_le (by have := en.out; omega)] at hgo
        have hgo : o = R := hgo
        subst hgo
        have hKr := hK1.out.below hbr zK
        obtain ⟨p0, p1, p2, p3⟩ := blk_re hKr
        obtain ⟨o0, o1, o2, o3⟩ := blk_re hbk.out
        have frK := hKr.free
        have hK4 := (((hKr.set 0 (.int .i64 o.x)).set 1 (.int .i64 o.y)).set 2 (.int .i64 o.wd)).set 3 (.int .i64 o.ht)
        have hbF := (((hbrw.setCell (p := ⟨w.heap.size, 0, none⟩) (Nat.le_refl _) (.int .i64 o.x)).setCell (p := ⟨w.heap.size, 1, none⟩) (Nat.le_refl _) (.int .i64 o.y)).setCell (p := ⟨w.heap.size, 2, none⟩) (Nat.le_refl _) (.int .i64 o.wd)).setCell (p := ⟨w.heap.size, 3, none⟩) (Nat.le_refl _) (.int .i64 o.ht)
        obtain ⟨f0, f1, f2, f3⟩ := blk_re (q := o) hK4
        replace f0 := Lib.hid f0
        replace f1 := Lib.hid f1
        replace f2 := Lib.hid f2
        replace f3 := Lib.hid f3
        clear hK4 hKr
        go_wp2
        generalize ((((wr.setCell ⟨w.heap.size, 0, none⟩ (.int .i64 o.x)).setCell ⟨w.heap.size, 1, none⟩ (.int .i64 o.y)).setCell ⟨w.heap.size, 2, none⟩ (.int .i64 o.wd)).setCell ⟨w.heap.size, 3, none⟩ (.int .i64 o.ht)) = wF at f0 f1 f2 f3 hbF ⊢
        refine bodyPost_ret (v := .tuple #[.agg #[.int .i64 (o).x, .int .i64 (o).y, .int .i64 (o).wd, .int .i64 (o).ht], .int .i64 0]) (by simp [results, Try.results30, go_sem, f0.out, f1.out, f2.out, f3.out]) rfl ⟨rfl, hbF⟩
  · rw [if_neg h0]
    have h0' : (chkR a == 0) = false := by simp [h0]
    have h0n : (chkR a != 0) = true := by simp [h0]
    generalize chkR a = E at *
    have k0 := blk_re hK
    rw [hwb] at AS
    replace AS := Lib.hid AS
    replace hwb := Lib.hid hwb
    replace hK := Lib.hid hK
    clear ha hro
    go_enter Try.func30, Try.ntmps30
    go_wp2_with (first
      | (go_at_call 43; (with_reducible refine (AS.out).mono ?_); rintro e w1 ⟨rfl, hb1⟩; rw [← hwb.out] at hb1; have hb01 := hal.trans (hb1.mono hal.size); have hK1 := hK.out.below hb01 hsz; obtain ⟨p0, p1, p2, p3⟩ := blk_re hK1; have fr7 := hK1.free; replace hK1 := Lib.hid hK1)
      | go_in)
    have hb1w : Below w.heap.size w w1 := hwal.trans (hb01.mono hwal.size)
    have hK4 := (((hK1.out.set 0 (.int .i64 0)).set 1 (.int .i64 0)).set 2 (.int .i64 0)).set 3 (.int .i64 0)
    have hbF := (((hb1w.setCell (p := ⟨w.heap.size, 0, none⟩) (Nat.le_refl _) (.int .i64 0)).setCell (p := ⟨w.heap.size, 1, none⟩) (Nat.le_refl _) (.int .i64 0)).setCell (p := ⟨w.heap.size, 2, none⟩) (Nat.le_refl _) (.int .i64 0)).setCell (p := ⟨w.heap.size, 3, none⟩) (Nat.le_refl _) (.int .i64 0)
    obtain ⟨f0, f1, f2, f3⟩ := blk_re (q := Re.none) hK4
    clear hK4
    generalize ((((w1.setCell ⟨w.heap.size, 0, none⟩ (.int .i64 0)).setCell ⟨w.heap.size, 1, none⟩ (.int .i64 0)).setCell ⟨w.heap.size, 2, none⟩ (.int .i64 0)).setCell ⟨w.heap.size, 3, none⟩ (.int .i64 0)) = wF at f0 f1 f2 f3 hbF ⊢
    simp only [Re.none] at f0 f1 f2 f3
    refine bodyPost_ret (v := .tuple #[.agg #[.int .i64 0, .int .i64 0, .int .i64 0, .int .i64 0], .int .i64 E]) (by simp [results, Try.results30, go_sem, f0, f1, f2, f3]) rfl ⟨rfl, hbF⟩
end Go.Proofs.Ytlklmncjicgbgaa
