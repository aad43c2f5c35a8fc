/-
  The document's answer: Bound.
-/
import Derived.Test.YtlklmncjicgbgaaRegCg
namespace Go.Proofs.Ytlklmncjicgbgaa
open Go.RowKit
set_option linter.unusedVariables false
attribute [local go_sem] vwp vUpon_value vUpon_skip vUpon_enter vUpon_row
set_option linter.unusedSimpArgs false
set_option linter.unusedVariables false
theorem un_none {o q : Re} (ho : noneR o = false) (hq : noneR q = false) (mo : mayR o = true) (mq : mayR q = true) : noneR (unR o q) = false := by
  have h1 := may_bd mo
  have h2 := may_bd mq
  unfold noneR unR at *
  simp only [Bool.or_eq_false_iff, decide_eq_false_iff_not] at *
  omega
set_option maxHeartbeats 4000000 in
set_option maxRecDepth 100000 in
theorem kbound_any (a : List Re) (va : Value) (w : World) (ha : Row w.heap.size 4 Re.enc w va a) (wa : WfL a) :
    Calls Try.prog 35 #[va] w fun e w' => e = .returned (.tuple #[.agg #[.int .i64 (bndE a).x, .int .i64 (bndE a).y, .int .i64 (bndE a).wd, .int .i64 (bndE a).ht], .int .i64 (chkR a)]) ∧ Below w.heap.size w w' := by
  obtain ⟨s1, c1, rfl, hmax⟩ := ha.shape
  obtain ⟨wb, hwb⟩ : ∃ wb, wb = w.alloc (.cells #[.int .i64 0, .int .i64 0, .int .i64 0, .int .i64 0] 49) := ⟨_, rfl⟩
  have hwal : Below w.heap.size w wb := by rw [hwb]; exact (Below.refl _ _).alloc (Nat.le_refl _) _
  have hsz : w.heap.size < wb.heap.size := by rw [hwb]; simp
  have hK : Blk wb w.heap.size (Re.none).enc 49 := by rw [hwb]; exact Blk.new' rfl
  have AS := kasked_any a _ wb ((ha.below hwal).mono hwal.size) wa
  have hro : ∀ w1, Below w.heap.size w w1 → 0 < a.length → ∃ b o cap, Value.slice s1 a.length c1 = .slice (some ⟨b, o, none⟩) a.length cap ∧ b < w.heap.size ∧ a.length ≤ cap ∧ cap ≤ maxLen ∧ ∀ (j : Nat) q, a[j]? = some q → RMem w1 b (o + j * 4) q := fun w1 h h0 => row_re (ha.below h) h0
  unfold bndE
  by_cases h0 : chkR a = 0
  · rw [if_pos h0]
    rw [h0] at AS ⊢
    obtain ⟨ma, la⟩ := chkR_may h0
    obtain ⟨R, hR⟩ : ∃ R, bndR a = R := ⟨_, rfl⟩
    have hgo : (a.drop 0).foldl bndGo Re.none = R := hR
    rw [hR]
    obtain ⟨n, en⟩ : ∃ n, a.length = n := ⟨_, rfl⟩
    rw [en] at AS hro la
    rw [hwb] at AS
    rw [en]
    replace AS := Lib.hid AS
    replace hro := Lib.hid hro
    replace hgo := Lib.hid hgo
    replace en := Lib.hid en
    replace ma := Lib.hid ma
    replace hK := Lib.hid hK
    replace hwb := Lib.hid hwb
    clear ha hR
    go_enter Try.func35, Try.ntmps35
    go_wp2_with (first
      | (go_at_call 62; (with_reducible refine (AS.out).mono ?_); rintro e w1 ⟨rfl, hb1⟩; rw [← hwb.out] at hb1)
      | go_in)
    have hK1 := Lib.hid (hK.out.below hb1 hsz)
    have hb1w : Below w.heap.size w w1 := hwal.trans (hb1.mono hwal.size)
    have zK : w.heap.size < w1.heap.size := by have := hb1.size; omega
    have hst := Lib.hid (show Blk (w1.alloc (.cells #[.int .i64 0, .int .i64 0, .int .i64 0, .int .i64 0] 49)) w1.heap.size (Re.none).enc 49 from Blk.new' rfl)
    clear hb1 AS
    go_loopw [6, 7] (fun av iv wr => ∃ (k : Nat) (o : Re) (t : Bool), k ≤ n ∧ iv = .int .i64 k ∧ av = .bool t ∧ Hid (noneR o = !t) ∧ mayR o = true ∧ Hid (Blk wr w1.heap.size o.enc 49) ∧ Hid ((a.drop k).foldl bndGo o = R) ∧ Below w1.heap.size w1 wr) (fun _ iv _ => n - (intOf iv).toNat)
    case atStart => exact ⟨0, Re.none, false, Nat.zero_le _, rfl, rfl, Lib.hid (by decide), by decide, hst, hgo, (Below.refl _ _).alloc (Nat.le_refl _) _⟩
    case round =>
      obtain ⟨k, o, t, hk, rfl, rfl, hno, hmo, hbk, hgo, hbr⟩ := hrel
      clear hst
      have zr := hbr.size
      have hB5 := hbk.out.lt
      have hbrw := hb1w.trans (hbr.mono hb1w.size)
      by_cases hkn : k < n
      · obtain ⟨b, ofs, cap', e, hb, _, _, hel⟩ := hro.out wr hbrw (by omega)
        simp at e
        obtain ⟨rfl, rfl⟩ := e
        obtain ⟨q, hq⟩ := get_at en.out hkn
        obtain ⟨g0, g1, g2, g3⟩ := hel k q hq
        have hqm := ma.out q (List.mem_of_getElem? hq)
        have EQ := fun w => kempty_any q w
        have hgo := hgo.out
        rw [bnd_step hq] at hgo
        have hbm := bnd_may hmo hqm
        have hqb := may_bd hqm
        have hob := may_bd hmo
        have hkk : (k : Int) < n := by omega
        have yb : b < wr.heap.size := by have := hbrw.size; omega
        unfold bndGo at hbm
        have hbg : bndGo o q = if noneR q then o else if noneR o then q else unR o q := rfl
        rw [hbg] at hgo
        clear hel hq hbg
        have hno := hno.out
        cases hnq : noneR q
        · cases t
          · rw [show (!false) = true from rfl] at hno
            rw [hnq, hno] at hgo hbm
            rw [hnq] at EQ
            rw [if_neg (by decide), if_pos rfl] at hgo hbm
            replace EQ := Lib.hid EQ
            replace hgo := Lib.hid hgo
            replace hnq := Lib.hid hnq
            clear hno
            go_wp2_with (first
              | (go_at_call 66; (with_reducible refine (EQ.out _).mono ?_); rintro e w6 ⟨rfl, hb6⟩; have z6 := hb6.size; (try simp at z6); have hb06 : Below wr.heap.size wr w6 := ((Below.refl _ _).alloc (Nat.le_refl _) _).trans (hb6.mono (by simp)); have x0 : w6.cell? ⟨wr.heap.size, 0, none⟩ = some (.int .i64 q.x) := (by rw [hb6.cell (p := ⟨wr.heap.size, 0, none⟩) (by simp)]; go_simp); have x1 : w6.cell? ⟨wr.heap.size, 1, none⟩ = some (.int .i64 q.y) := (by rw [hb6.cell (p := ⟨wr.heap.size, 1, none⟩) (by simp)]; go_simp); have x2 : w6.cell? ⟨wr.heap.size, 2, none⟩ = some (.int .i64 q.wd) := (by rw [hb6.cell (p := ⟨wr.heap.size, 2, none⟩) (by simp)]; go_simp); have x3 : w6.cell? ⟨wr.heap.size, 3, none⟩ = some (.int .i64 q.ht) := (by rw [hb6.cell (p := ⟨wr.heap.size, 3, none⟩) (by simp)]; go_simp); have bk6 := Lib.hid (hbk.out.below hb06 hB5); obtain ⟨p0, p1, p2, p3⟩ := blk_re bk6.out; have fr6 := bk6.out.free)
              | go_in)
            go_roundw
            case rel =>
              refine ⟨k + 1, q, true, by omega, by go_num, rfl, Lib.hid hnq.out, hqm, Lib.hid ?_, hgo, ?_⟩
              · exact (((bk6.out.set 0 (.int .i64 q.x)).set 1 (.int .i64 q.y)).set 2 (.int .i64 q.wd)).set 3 (.int .i64 q.ht)
              · exact ((((hbr.trans (hb06.mono zr)).setCell (Nat.le_refl _) _).setCell (Nat.le_refl _) _).setCell (Nat.le_refl _) _).setCell (Nat.le_refl _) _
            case measure => simp [intOf]; omega
          · rw [show (!true) = false from rfl] at hno
            have hun := un_none hno hnq hmo hqm
            rw [hnq, hno] at hgo hbm
            rw [hnq] at EQ
            rw [if_neg (by decide), if_neg (by decide)] at hgo hbm
            replace EQ := Lib.hid EQ
            replace hgo := Lib.hid hgo
            replace hun := Lib.hid hun
            clear hnq hno
            go_wp2_with (first
              | (go_at_call 66; (with_reducible refine (EQ.out _).mono ?_); rintro e w6 ⟨rfl, hb6⟩; have z6 := hb6.size; (try simp at z6); have hb06 : Below wr.heap.size wr w6 := ((Below.refl _ _).alloc (Nat.le_refl _) _).trans (hb6.mono (by simp)); have x0 : w6.cell? ⟨wr.heap.size, 0, none⟩ = some (.int .i64 q.x) := (by rw [hb6.cell (p := ⟨wr.heap.size, 0, none⟩) (by simp)]; go_simp); have x1 : w6.cell? ⟨wr.heap.size, 1, none⟩ = some (.int .i64 q.y) := (by rw [hb6.cell (p := ⟨wr.heap.size, 1, none⟩) (by simp)]; go_simp); have x2 : w6.cell? ⟨wr.heap.size, 2, none⟩ = some (.int .i64 q.wd) := (by rw [hb6.cell (p := ⟨wr.heap.size, 2, none⟩) (by simp)]; go_simp); have x3 : w6.cell? ⟨wr.heap.size, 3, none⟩ = some (.int .i64 q.ht) := (by rw [hb6.cell (p := ⟨wr.heap.size, 3, none⟩) (by simp)]; go_simp); have bk6 := Lib.hid (hbk.out.below hb06 hB5); obtain ⟨p0, p1, p2, p3⟩ := blk_re bk6.out; have fr6 := bk6.out.free)
              | go_in)
            go_roundw
            case rel =>
              refine ⟨k + 1, unR o q, true, by omega, by go_num, rfl, Lib.hid hun.out, hbm, Lib.hid ?_, hgo, ?_⟩
              · exact (((bk6.out.set 0 (.int .i64 (min o.x q.x))).set 1 (.int .i64 (min o.y q.y))).set 2 (.int .i64 (max (o.x + o.wd) (q.x + q.wd) - min o.x q.x))).set 3 (.int .i64 (max (o.y + o.ht) (q.y + q.ht) - min o.y q.y))
              · exact ((((hbr.trans (hb06.mono zr)).setCell (Nat.le_refl _) _).setCell (Nat.le_refl _) _).setCell (Nat.le_refl _) _).setCell (Nat.le_refl _) _
            case measure => simp [intOf]; omega
        · rw [hnq] at EQ hgo
          rw [if_pos rfl] at hgo
          replace EQ := Lib.hid EQ
          replace hgo := Lib.hid hgo
          replace hno := Lib.hid hno
          clear hnq
          go_wp2_with (first
            | (go_at_call 66; (with_reducible refine (EQ.out _).mono ?_); rintro e w6 ⟨rfl, hb6⟩; have z6 := hb6.size; (try simp at z6); have hb06 : Below wr.heap.size wr w6 := ((Below.refl _ _).alloc (Nat.le_refl _) _).trans (hb6.mono (by simp)); have x0 : w6.cell? ⟨wr.heap.size, 0, none⟩ = some (.int .i64 q.x) := (by rw [hb6.cell (p := ⟨wr.heap.size, 0, none⟩) (by simp)]; go_simp); have x1 : w6.cell? ⟨wr.heap.size, 1, none⟩ = some (.int .i64 q.y) := (by rw [hb6.cell (p := ⟨wr.heap.size, 1, none⟩) (by simp)]; go_simp); have x2 : w6.cell? ⟨wr.heap.size, 2, none⟩ = some (.int .i64 q.wd) := (by rw [hb6.cell (p := ⟨wr.heap.size, 2, none⟩) (by simp)]; go_simp); have x3 : w6.cell? ⟨wr.heap.size, 3, none⟩ = some (.int .i64 q.ht) := (by rw [hb6.cell (p := ⟨wr.heap.size, 3, none⟩) (by simp)]; go_simp); have bk6 := Lib.hid (hbk.out.below hb06 hB5); obtain ⟨p0, p1, p2, p3⟩ := blk_re bk6.out; have fr6 := bk6.out.free)
            | go_in)
          go_roundw
          case rel => exact ⟨k + 1, o, t, by omega, by go_num, rfl, hno, hmo, bk6, hgo, hbr.trans (hb06.mono zr)⟩
          case measure => simp [intOf]; omega
      · obtain rfl : k = n := by omega
        have hgo := hgo.out
        rw [List.drop_eq_nil_of_le (by have := en.out; omega)] at hgo
        have hgo : o = R := hgo
        subst hgo
        have hKr := hK1.out.below hbr zK
        obtain ⟨p0, p1, p2, p3⟩ := blk_re hKr
        obtain ⟨o0, o1, o2, o3⟩ := blk_re hbk.out
        have frK := hKr.free
        have hK4 := (((hKr.set 0 (.int .i64 o.x)).set 1 (.int .i64 o.y)).set 2 (.int .i64 o.wd)).set 3 (.int .i64 o.ht)
        have hbF := (((hbrw.setCell (p := ⟨w.heap.size, 0, none⟩) (Nat.le_refl _) (.int .i64 o.x)).setCell (p := ⟨w.heap.size, 1, none⟩) (Nat.le_refl _) (.int .i64 o.y)).setCell (p := ⟨w.heap.size, 2, none⟩) (Nat.le_refl _) (.int .i64 o.wd)).setCell (p := ⟨w.heap.size, 3, none⟩) (Nat.le_refl _) (.int .i64 o.ht)
        obtain ⟨f0, f1, f2, f3⟩ := blk_re (q := o) hK4
        replace f0 := Lib.hid f0
        replace f1 := Lib.hid f1
        replace f2 := Lib.hid f2
        replace f3 := Lib.hid f3
        clear hK4 hKr
        go_wp2
        generalize ((((wr.setCell ⟨w.heap.size, 0, none⟩ (.int .i64 o.x)).setCell ⟨w.heap.size, 1, none⟩ (.int .i64 o.y)).setCell ⟨w.heap.size, 2, none⟩ (.int .i64 o.wd)).setCell ⟨w.heap.size, 3, none⟩ (.int .i64 o.ht)) = wF at f0 f1 f2 f3 hbF ⊢
        refine bodyPost_ret (v := .tuple #[.agg #[.int .i64 (o).x, .int .i64 (o).y, .int .i64 (o).wd, .int .i64 (o).ht], .int .i64 0]) (by simp [results, Try.results35, go_sem, f0.out, f1.out, f2.out, f3.out]) rfl ⟨rfl, hbF⟩
  · rw [if_neg h0]
    have h0' : (chkR a == 0) = false := by simp [h0]
    have h0n : (chkR a != 0) = true := by simp [h0]
    generalize chkR a = E at *
    have k0 := blk_re hK
    rw [hwb] at AS
    replace AS := Lib.hid AS
    replace hwb := Lib.hid hwb
    replace hK := Lib.hid hK
    clear ha hro
    go_enter Try.func35, Try.ntmps35
    go_wp2_with (first
      | (go_at_call 62; (with_reducible refine (AS.out).mono ?_); rintro e w1 ⟨rfl, hb1⟩; rw [← hwb.out] at hb1; have hK1 := hK.out.below hb1 hsz; obtain ⟨p0, p1, p2, p3⟩ := blk_re hK1; have fr7 := hK1.free; replace hK1 := Lib.hid hK1)
      | go_in)
    have hb1w : Below w.heap.size w w1 := hwal.trans (hb1.mono hwal.size)
    have hK4 := (((hK1.out.set 0 (.int .i64 0)).set 1 (.int .i64 0)).set 2 (.int .i64 0)).set 3 (.int .i64 0)
    have hbF := (((hb1w.setCell (p := ⟨w.heap.size, 0, none⟩) (Nat.le_refl _) (.int .i64 0)).setCell (p := ⟨w.heap.size, 1, none⟩) (Nat.le_refl _) (.int .i64 0)).setCell (p := ⟨w.heap.size, 2, none⟩) (Nat.le_refl _) (.int .i64 0)).setCell (p := ⟨w.heap.size, 3, none⟩) (Nat.le_refl _) (.int .i64 0)
    obtain ⟨f0, f1, f2, f3⟩ := blk_re (q := Re.none) hK4
    clear hK4
    generalize ((((w1.setCell ⟨w.heap.size, 0, none⟩ (.int .i64 0)).setCell ⟨w.heap.size, 1, none⟩ (.int .i64 0)).setCell ⟨w.heap.size, 2, none⟩ (.int .i64 0)).setCell ⟨w.heap.size, 3, none⟩ (.int .i64 0)) = wF at f0 f1 f2 f3 hbF ⊢
    simp only [Re.none] at f0 f1 f2 f3
    refine bodyPost_ret (v := .tuple #[.agg #[.int .i64 0, .int .i64 0, .int .i64 0, .int .i64 0], .int .i64 E]) (by simp [results, Try.results35, go_sem, f0, f1, f2, f3]) rfl ⟨rfl, hbF⟩
end Go.Proofs.Ytlklmncjicgbgaa
