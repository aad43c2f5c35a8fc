/-
  XGt: XLisSa.
-/
import Derived.Test.YtkmofpnefjgnkaaGreatGr
import Derived.Test.YtkmofpnefjgnkaaGreatGj
namespace Go.Proofs.YtkmofpnefjgnkaaGreat
open Go.RowKit
set_option linter.unusedVariables false
attribute [local go_sem] vwp vUpon_value vUpon_skip vUpon_enter vUpon_row
set_option linter.unusedSimpArgs false
set_option linter.unusedVariables false
section
set_option linter.unusedSimpArgs false
set_option linter.unusedVariables false
def ovrB (ps : List Re) (q : Re) : Bool := ps.any fun p => overR p q
theorem wth_step {ps : List Re} {k : Nat} {p q : Re} (h : ps[k]? = some p) : wthB (ps.drop k) q = (inR p q && wthB (ps.drop (k + 1)) q) := by
  rw [drop_get h]; rfl
theorem ovr_step {ps : List Re} {k : Nat} {p q : Re} (h : ps[k]? = some p) : ovrB (ps.drop k) q = (overR p q || ovrB (ps.drop (k + 1)) q) := by
  rw [drop_get h]; rfl
set_option maxRecDepth 100000 in
theorem kwth_any (ps : List Re) (q : Re) (v : Value) (w : World) (hl : Row w.heap.size 4 Re.enc w v ps) (hm : ps.length ≤ 100000) (hp : ∀ p ∈ ps, p.Wf) (hq : q.Wf) : Calls Tryz.prog 35 #[v, .agg #[.int .i64 (q).x, .int .i64 (q).y, .int .i64 (q).wd, .int .i64 (q).ht]] w fun e w' => e = .returned (.bool (wthB ps q)) ∧ Below w.heap.size w w' := by
  have I := fun p w hp => kin_any p q w hp hq
  obtain ⟨s0, cap, rfl, hmax⟩ := hl.shape
  have hopen := fun h0 => row_re hl h0
  clear hl
  obtain ⟨n, hn⟩ : ∃ n, ps.length = n := ⟨_, rfl⟩
  rw [hn] at hopen hm hmax ⊢
  obtain ⟨B, hB⟩ : ∃ r, wthB ps q = r := ⟨_, rfl⟩
  rw [hB]
  replace hopen := Lib.hid hopen
  replace hn := Lib.hid hn
  replace hp := Lib.hid hp
  replace I := Lib.hid I
  go_enter Tryz.func35, Tryz.ntmps35
  go_upto_region 1 with fail
  have hb0 : Below w.heap.size w (w.alloc (.cells #[.int .i64 q.x, .int .i64 q.y, .int .i64 q.wd, .int .i64 q.ht] 44)) := (Below.refl _ _).alloc (Nat.le_refl _) _
  have kb : Blk (w.alloc (.cells #[.int .i64 q.x, .int .i64 q.y, .int .i64 q.wd, .int .i64 q.ht] 44)) w.heap.size q.enc 44 := Blk.new' rfl
  generalize w.alloc (.cells #[.int .i64 q.x, .int .i64 q.y, .int .i64 q.wd, .int .i64 q.ht] 44) = w0 at hb0 kb ⊢
  obtain ⟨t0, t1, t2, t3⟩ := blk_re kb
  have kl := kb.lt
  have z0 := hb0.size
  clear kb
  obtain ⟨hc0, hf0⟩ := bcell hb0
  go_wp2
  go_loopw [5] (fun i wr => ∃ k : Nat, k ≤ n ∧ i = .int .i64 k ∧ Hid (wthB (ps.drop k) q = B) ∧ Below w0.heap.size w0 wr) (fun i _ => n - (intOf i).toNat)
  case atStart => exact ⟨0, Nat.zero_le _, rfl, Lib.hid (by simpa using hB), Below.refl _ _⟩
  case round =>
    obtain ⟨k, hk, rfl, hgo, hbr⟩ := hrel
    clear hB
    have zr := hbr.size
    obtain ⟨hcr, hfr⟩ := bcell hbr
    by_cases hkn : k < n
    · obtain ⟨b, o, cap', e, hb, _, _, hel⟩ := hopen.out (by omega)
      simp at e
      obtain ⟨rfl, rfl⟩ := e
      obtain ⟨p, hpk⟩ := get_at hn.out hkn
      obtain ⟨g0, g1, g2, g3⟩ := hel k p hpk
      have hst := wth_step (q := q) hpk
      have C := fun w => I.out p w (hp.out p (List.mem_of_getElem? hpk))
      have hgo' := hgo.out
      rw [hst] at hgo'
      have hkk : (k : Int) < n := by omega
      have yb : b < wr.heap.size := by omega
      have yb0 : b < w0.heap.size := by omega
      have yw : w.heap.size < wr.heap.size := by omega
      have x0 : wr.cell? ⟨b, o + k * 4, none⟩ = some (.int .i64 p.x) := by rw [hcr b _ yb0, hc0 b _ hb]; exact g0
      have x1 : wr.cell? ⟨b, o + k * 4 + 1, none⟩ = some (.int .i64 p.y) := by rw [hcr b _ yb0, hc0 b _ hb]; exact g1
      have x2 : wr.cell? ⟨b, o + k * 4 + 2, none⟩ = some (.int .i64 p.wd) := by rw [hcr b _ yb0, hc0 b _ hb]; exact g2
      have x3 : wr.cell? ⟨b, o + k * 4 + 3, none⟩ = some (.int .i64 p.ht) := by rw [hcr b _ yb0, hc0 b _ hb]; exact g3
      have y0 : wr.cell? ⟨w.heap.size, 0, none⟩ = some (.int .i64 q.x) := by rw [hcr _ _ kl]; exact t0
      have y1 : wr.cell? ⟨w.heap.size, 1, none⟩ = some (.int .i64 q.y) := by rw [hcr _ _ kl]; exact t1
      have y2 : wr.cell? ⟨w.heap.size, 2, none⟩ = some (.int .i64 q.wd) := by rw [hcr _ _ kl]; exact t2
      have y3 : wr.cell? ⟨w.heap.size, 3, none⟩ = some (.int .i64 q.ht) := by rw [hcr _ _ kl]; exact t3
      clear hel hpk hst hcr hfr hgo g0 g1 g2 g3 hc0 hf0 t0 t1 t2 t3
      obtain ⟨bb, hbb⟩ : ∃ bb, inR p q = bb := ⟨_, rfl⟩
      simp only [hbb] at C
      rw [hbb] at hgo'
      clear hbb
      replace C := Lib.hid C
      cases bb
      · simp only [Bool.false_and, Bool.true_and] at hgo'
        replace hgo' := Lib.hid hgo'
        go_wp2
        refine wp_region_steady (Held wr 0 []) (by kernel_rfl) (by kernel_rfl) ⟨(by repeat (first | exact Below.refl _ _ | assumption | refine Below.drew ?_ | refine Below.alloc ?_ (by (try simp) <;> omega) _ | refine Below.setCell ?_ (by (try simp) <;> omega) _ | (refine Below.trans ?_ (Below.mono (by assumption) (by (try simp) <;> omega))))), (by (try simp) <;> omega), (by first | exact trivial | (simp only [Cells]; go_simp))⟩ ?_
        repeat (first | (refine' wpSteady_do _ _ _; rotate_left; (focus rfl); (focus (intro w1 hS R hR; have hc := hS.cells; simp only [Cells] at hc; obtain ⟨hco, hfo⟩ := bcell hS.old; go_simp; (try go_bits); first | exact hR _ hS | first | (go_at_call 57; (with_reducible refine (C.out _).mono ?_); rintro e w2 ⟨rfl, hb2⟩; exact ⟨_, rfl, hR _ (hS.below hb2)⟩))); simp only [Act.put, List.setIfInBounds_toArray, List.set_cons_zero, List.set_cons_succ]) | (refine wpSteady_pass ?_ ?_; (focus rfl); simp only [Act.put, List.setIfInBounds_toArray, List.set_cons_zero, List.set_cons_succ]))
        refine wpSteady_nil (fun uA hSA => ?_)
        have hcA := hSA.cells; have hbA := hSA.old; have hzA := hSA.size; clear hSA; simp only [Cells] at hcA; obtain ⟨hcoA, hfoA⟩ := bcell hbA
        go_wp2
        first
          | (go_ret; exact ⟨by (rw [← hgo'.out]; (try rfl)), hb0.trans ((hbr.trans (hbA.mono zr)).mono z0)⟩)
          | (go_roundw
             case rel => exact ⟨k + 1, by omega, by go_num, hgo', hbr.trans (hbA.mono zr)⟩
             case measure => simp [intOf]; omega)
      · simp only [Bool.false_and, Bool.true_and] at hgo'
        replace hgo' := Lib.hid hgo'
        go_wp2
        refine wp_region_steady (Held wr 0 []) (by kernel_rfl) (by kernel_rfl) ⟨(by repeat (first | exact Below.refl _ _ | assumption | refine Below.drew ?_ | refine Below.alloc ?_ (by (try simp) <;> omega) _ | refine Below.setCell ?_ (by (try simp) <;> omega) _ | (refine Below.trans ?_ (Below.mono (by assumption) (by (try simp) <;> omega))))), (by (try simp) <;> omega), (by first | exact trivial | (simp only [Cells]; go_simp))⟩ ?_
        repeat (first | (refine' wpSteady_do _ _ _; rotate_left; (focus rfl); (focus (intro w1 hS R hR; have hc := hS.cells; simp only [Cells] at hc; obtain ⟨hco, hfo⟩ := bcell hS.old; go_simp; (try go_bits); first | exact hR _ hS | first | (go_at_call 57; (with_reducible refine (C.out _).mono ?_); rintro e w2 ⟨rfl, hb2⟩; exact ⟨_, rfl, hR _ (hS.below hb2)⟩))); simp only [Act.put, List.setIfInBounds_toArray, List.set_cons_zero, List.set_cons_succ]) | (refine wpSteady_pass ?_ ?_; (focus rfl); simp only [Act.put, List.setIfInBounds_toArray, List.set_cons_zero, List.set_cons_succ]))
        refine wpSteady_nil (fun uA hSA => ?_)
        have hcA := hSA.cells; have hbA := hSA.old; have hzA := hSA.size; clear hSA; simp only [Cells] at hcA; obtain ⟨hcoA, hfoA⟩ := bcell hbA
        go_wp2
        first
          | (go_ret; exact ⟨by (rw [← hgo'.out]; (try rfl)), hb0.trans ((hbr.trans (hbA.mono zr)).mono z0)⟩)
          | (go_roundw
             case rel => exact ⟨k + 1, by omega, by go_num, hgo', hbr.trans (hbA.mono zr)⟩
             case measure => simp [intOf]; omega)
    · obtain rfl : k = n := by omega
      have hgo' := hgo.out
      rw [List.drop_eq_nil_of_le (by have := hn.out; omega)] at hgo'
      simp [wthB, ovrB] at hgo'
      subst hgo'
      go_wp2
      go_ret
      exact ⟨rfl, hb0.trans (hbr.mono z0)⟩
set_option maxRecDepth 100000 in
theorem kovr_any (ps : List Re) (q : Re) (v : Value) (w : World) (hl : Row w.heap.size 4 Re.enc w v ps) (hm : ps.length ≤ 100000) (hp : ∀ p ∈ ps, p.Wf) (hq : q.Wf) : Calls Tryz.prog 40 #[v, .agg #[.int .i64 (q).x, .int .i64 (q).y, .int .i64 (q).wd, .int .i64 (q).ht]] w fun e w' => e = .returned (.bool (ovrB ps q)) ∧ Below w.heap.size w w' := by
  have I := fun p w hp => kover_any p q w hp hq
  obtain ⟨s0, cap, rfl, hmax⟩ := hl.shape
  have hopen := fun h0 => row_re hl h0
  clear hl
  obtain ⟨n, hn⟩ : ∃ n, ps.length = n := ⟨_, rfl⟩
  rw [hn] at hopen hm hmax ⊢
  obtain ⟨B, hB⟩ : ∃ r, ovrB ps q = r := ⟨_, rfl⟩
  rw [hB]
  replace hopen := Lib.hid hopen
  replace hn := Lib.hid hn
  replace hp := Lib.hid hp
  replace I := Lib.hid I
  go_enter Tryz.func40, Tryz.ntmps40
  go_upto_region 1 with fail
  have hb0 : Below w.heap.size w (w.alloc (.cells #[.int .i64 q.x, .int .i64 q.y, .int .i64 q.wd, .int .i64 q.ht] 44)) := (Below.refl _ _).alloc (Nat.le_refl _) _
  have kb : Blk (w.alloc (.cells #[.int .i64 q.x, .int .i64 q.y, .int .i64 q.wd, .int .i64 q.ht] 44)) w.heap.size q.enc 44 := Blk.new' rfl
  generalize w.alloc (.cells #[.int .i64 q.x, .int .i64 q.y, .int .i64 q.wd, .int .i64 q.ht] 44) = w0 at hb0 kb ⊢
  obtain ⟨t0, t1, t2, t3⟩ := blk_re kb
  have kl := kb.lt
  have z0 := hb0.size
  clear kb
  obtain ⟨hc0, hf0⟩ := bcell hb0
  go_wp2
  go_loopw [5] (fun i wr => ∃ k : Nat, k ≤ n ∧ i = .int .i64 k ∧ Hid (ovrB (ps.drop k) q = B) ∧ Below w0.heap.size w0 wr) (fun i _ => n - (intOf i).toNat)
  case atStart => exact ⟨0, Nat.zero_le _, rfl, Lib.hid (by simpa using hB), Below.refl _ _⟩
  case round =>
    obtain ⟨k, hk, rfl, hgo, hbr⟩ := hrel
    clear hB
    have zr := hbr.size
    obtain ⟨hcr, hfr⟩ := bcell hbr
    by_cases hkn : k < n
    · obtain ⟨b, o, cap', e, hb, _, _, hel⟩ := hopen.out (by omega)
      simp at e
      obtain ⟨rfl, rfl⟩ := e
      obtain ⟨p, hpk⟩ := get_at hn.out hkn
      obtain ⟨g0, g1, g2, g3⟩ := hel k p hpk
      have hst := ovr_step (q := q) hpk
      have C := fun w => I.out p w (hp.out p (List.mem_of_getElem? hpk))
      have hgo' := hgo.out
      rw [hst] at hgo'
      have hkk : (k : Int) < n := by omega
      have yb : b < wr.heap.size := by omega
      have yb0 : b < w0.heap.size := by omega
      have yw : w.heap.size < wr.heap.size := by omega
      have x0 : wr.cell? ⟨b, o + k * 4, none⟩ = some (.int .i64 p.x) := by rw [hcr b _ yb0, hc0 b _ hb]; exact g0
      have x1 : wr.cell? ⟨b, o + k * 4 + 1, none⟩ = some (.int .i64 p.y) := by rw [hcr b _ yb0, hc0 b _ hb]; exact g1
      have x2 : wr.cell? ⟨b, o + k * 4 + 2, none⟩ = some (.int .i64 p.wd) := by rw [hcr b _ yb0, hc0 b _ hb]; exact g2
      have x3 : wr.cell? ⟨b, o + k * 4 + 3, none⟩ = some (.int .i64 p.ht) := by rw [hcr b _ yb0, hc0 b _ hb]; exact g3
      have y0 : wr.cell? ⟨w.heap.size, 0, none⟩ = some (.int .i64 q.x) := by rw [hcr _ _ kl]; exact t0
      have y1 : wr.cell? ⟨w.heap.size, 1, none⟩ = some (.int .i64 q.y) := by rw [hcr _ _ kl]; exact t1
      have y2 : wr.cell? ⟨w.heap.size, 2, none⟩ = some (.int .i64 q.wd) := by rw [hcr _ _ kl]; exact t2
      have y3 : wr.cell? ⟨w.heap.size, 3, none⟩ = some (.int .i64 q.ht) := by rw [hcr _ _ kl]; exact t3
      clear hel hpk hst hcr hfr hgo g0 g1 g2 g3 hc0 hf0 t0 t1 t2 t3
      obtain ⟨bb, hbb⟩ : ∃ bb, overR p q = bb := ⟨_, rfl⟩
      simp only [hbb] at C
      rw [hbb] at hgo'
      clear hbb
      replace C := Lib.hid C
      cases bb
      · simp only [Bool.false_or, Bool.true_or] at hgo'
        replace hgo' := Lib.hid hgo'
        go_wp2
        refine wp_region_steady (Held wr 0 []) (by kernel_rfl) (by kernel_rfl) ⟨(by repeat (first | exact Below.refl _ _ | assumption | refine Below.drew ?_ | refine Below.alloc ?_ (by (try simp) <;> omega) _ | refine Below.setCell ?_ (by (try simp) <;> omega) _ | (refine Below.trans ?_ (Below.mono (by assumption) (by (try simp) <;> omega))))), (by (try simp) <;> omega), (by first | exact trivial | (simp only [Cells]; go_simp))⟩ ?_
        repeat (first | (refine' wpSteady_do _ _ _; rotate_left; (focus rfl); (focus (intro w1 hS R hR; have hc := hS.cells; simp only [Cells] at hc; obtain ⟨hco, hfo⟩ := bcell hS.old; go_simp; (try go_bits); first | exact hR _ hS | first | (go_at_call 59; (with_reducible refine (C.out _).mono ?_); rintro e w2 ⟨rfl, hb2⟩; exact ⟨_, rfl, hR _ (hS.below hb2)⟩))); simp only [Act.put, List.setIfInBounds_toArray, List.set_cons_zero, List.set_cons_succ]) | (refine wpSteady_pass ?_ ?_; (focus rfl); simp only [Act.put, List.setIfInBounds_toArray, List.set_cons_zero, List.set_cons_succ]))
        refine wpSteady_nil (fun uA hSA => ?_)
        have hcA := hSA.cells; have hbA := hSA.old; have hzA := hSA.size; clear hSA; simp only [Cells] at hcA; obtain ⟨hcoA, hfoA⟩ := bcell hbA
        go_wp2
        first
          | (go_ret; exact ⟨by (rw [← hgo'.out]; (try rfl)), hb0.trans ((hbr.trans (hbA.mono zr)).mono z0)⟩)
          | (go_roundw
             case rel => exact ⟨k + 1, by omega, by go_num, hgo', hbr.trans (hbA.mono zr)⟩
             case measure => simp [intOf]; omega)
      · simp only [Bool.false_or, Bool.true_or] at hgo'
        replace hgo' := Lib.hid hgo'
        go_wp2
        refine wp_region_steady (Held wr 0 []) (by kernel_rfl) (by kernel_rfl) ⟨(by repeat (first | exact Below.refl _ _ | assumption | refine Below.drew ?_ | refine Below.alloc ?_ (by (try simp) <;> omega) _ | refine Below.setCell ?_ (by (try simp) <;> omega) _ | (refine Below.trans ?_ (Below.mono (by assumption) (by (try simp) <;> omega))))), (by (try simp) <;> omega), (by first | exact trivial | (simp only [Cells]; go_simp))⟩ ?_
        repeat (first | (refine' wpSteady_do _ _ _; rotate_left; (focus rfl); (focus (intro w1 hS R hR; have hc := hS.cells; simp only [Cells] at hc; obtain ⟨hco, hfo⟩ := bcell hS.old; go_simp; (try go_bits); first | exact hR _ hS | first | (go_at_call 59; (with_reducible refine (C.out _).mono ?_); rintro e w2 ⟨rfl, hb2⟩; exact ⟨_, rfl, hR _ (hS.below hb2)⟩))); simp only [Act.put, List.setIfInBounds_toArray, List.set_cons_zero, List.set_cons_succ]) | (refine wpSteady_pass ?_ ?_; (focus rfl); simp only [Act.put, List.setIfInBounds_toArray, List.set_cons_zero, List.set_cons_succ]))
        refine wpSteady_nil (fun uA hSA => ?_)
        have hcA := hSA.cells; have hbA := hSA.old; have hzA := hSA.size; clear hSA; simp only [Cells] at hcA; obtain ⟨hcoA, hfoA⟩ := bcell hbA
        go_wp2
        first
          | (go_ret; exact ⟨by (rw [← hgo'.out]; (try rfl)), hb0.trans ((hbr.trans (hbA.mono zr)).mono z0)⟩)
          | (go_roundw
             case rel => exact ⟨k + 1, by omega, by go_num, hgo', hbr.trans (hbA.mono zr)⟩
             case measure => simp [intOf]; omega)
    · obtain rfl : k = n := by omega
      have hgo' := hgo.out
      rw [List.drop_eq_nil_of_le (by have := hn.out; omega)] at hgo'
      simp [wthB, ovrB] at hgo'
      subst hgo'
      go_wp2
      go_ret
      exact ⟨rfl, hb0.trans (hbr.mono z0)⟩
end
end Go.Proofs.YtkmofpnefjgnkaaGreat
