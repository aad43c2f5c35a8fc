/-
  covered, corners of the law.
-/
import Derived.Test.YtlklmncjicgbgaaRegBk
namespace Go.Proofs.Ytlklmncjicgbgaa
open Go.RowKit
set_option linter.unusedVariables false
attribute [local go_sem] vwp vUpon_value vUpon_skip vUpon_enter vUpon_row
set_option linter.unusedSimpArgs false
set_option linter.unusedVariables false
theorem hasL_step {l : List Re} {k : Nat} {q : Re} (h : l[k]? = some q) (x y : Int) : hasL (l.drop k) x y = (hasR q x y || hasL (l.drop (k + 1)) x y) := by
  rw [drop_get h]; rfl
set_option maxHeartbeats 1000000 in
set_option maxRecDepth 100000 in
theorem covered_any (l : List Re) (vl : Value) (px py : Int) (w : World) (hl : Row w.heap.size 4 Re.enc w vl l) (ml : MayL l) (ll : l.length ≤ 100000) (h1 : I64 px) (h2 : I64 py) :
    Calls Try.prog 25 #[vl, .agg #[.int .i64 px, .int .i64 py]] w fun e w' => e = .returned (.bool (hasL l px py)) ∧ Below w.heap.size w w' := by
  obtain ⟨s0, cap, rfl, hmax⟩ := hl.shape
  have hopen := fun h0 => row_re hl h0
  obtain ⟨n, en⟩ : ∃ n, l.length = n := ⟨_, rfl⟩
  rw [en] at hopen hmax ll ⊢
  obtain ⟨R, hR⟩ : ∃ R, hasL l px py = R := ⟨_, rfl⟩
  rw [hR]
  have hgo := Lib.hid (show hasL (l.drop 0) px py = R from hR)
  replace hopen := Lib.hid hopen
  replace en := Lib.hid en
  replace ml := Lib.hid ml
  clear hl hR
  go_enter Try.func25, Try.ntmps25
  go_wp2
  go_loopw [5] (fun iv wr => ∃ k : Nat, k ≤ n ∧ iv = .int .i64 k ∧ Hid (hasL (l.drop k) px py = R) ∧ Below w.heap.size w wr ∧ wr.cell? ⟨w.heap.size, 0, none⟩ = some (.int .i64 px) ∧ wr.cell? ⟨w.heap.size, 1, none⟩ = some (.int .i64 py) ∧ w.heap.size < wr.heap.size) (fun iv _ => n - (intOf iv).toNat)
  case atStart => exact ⟨0, Nat.zero_le _, rfl, hgo, (Below.refl _ _).alloc (Nat.le_refl _) _, by go_simp, by go_simp, by simp⟩
  case round =>
    obtain ⟨k, hk, rfl, hgo, hbr, p0, p1, yp⟩ := hrel
    have zr := hbr.size
    by_cases hkn : k < n
    · obtain ⟨b, o, cap', e, hb, _, _, hel⟩ := hopen.out (by omega)
      simp at e
      obtain ⟨rfl, rfl⟩ := e
      obtain ⟨q, hq⟩ := get_at en.out hkn
      obtain ⟨g0, g1, g2, g3⟩ := RMem.below (hel k q hq) hbr hb
      have H := fun w => ghas_any q px py w (ml.out q (List.mem_of_getElem? hq)) h1 h2
      have hg := hgo.out
      rw [hasL_step hq] at hg
      have hkk : (k : Int) < n := by omega
      have yb : b < wr.heap.size := by omega
      generalize hasR q px py = r at H hg
      replace H := Lib.hid H
      clear hel hq
      cases r
      · rw [Bool.false_or] at hg
        replace hg := Lib.hid hg
        go_wp2
        refine wp_region_steady (Held wr 0 []) (by kernel_rfl) (by kernel_rfl) ⟨(by repeat (first | exact Below.refl _ _ | assumption | refine Below.drew ?_ | refine Below.alloc ?_ (by (try simp) <;> omega) _ | refine Below.setCell ?_ (by (try simp) <;> omega) _ | (refine Below.trans ?_ (Below.mono (by assumption) (by (try simp) <;> omega))))), (by (try simp) <;> omega), (by first | exact trivial | (simp only [Cells]; go_simp))⟩ ?_
        repeat (first | (refine' wpSteady_do _ _ _; rotate_left; (focus rfl); (focus (intro w1 hS R hR; have hc := hS.cells; simp only [Cells] at hc; obtain ⟨hco, hfo⟩ := bcell hS.old; go_simp; (try go_bits); first | exact hR _ hS | (go_at_call 54; (with_reducible refine (H.out _).mono ?_); rintro e w2 ⟨rfl, hb2⟩; exact ⟨_, rfl, hR _ (hS.below hb2)⟩))); simp only [Act.put, List.setIfInBounds_toArray, List.set_cons_zero, List.set_cons_succ]) | (refine wpSteady_pass ?_ ?_; (focus rfl); simp only [Act.put, List.setIfInBounds_toArray, List.set_cons_zero, List.set_cons_succ]))
        refine wpSteady_nil (fun uA hSA => ?_)
        have hcA := hSA.cells; have hbA := hSA.old; have hzA := hSA.size; clear hSA; simp only [Cells] at hcA; obtain ⟨hcoA, hfoA⟩ := bcell hbA
        go_wp2
        go_roundw
        case rel => exact ⟨k + 1, by omega, by go_num, hg, hbr.trans (hbA.mono zr), (hcoA _ _ yp).trans p0, (hcoA _ _ yp).trans p1, by omega⟩
        case measure => simp [intOf]; omega
      · rw [Bool.true_or] at hg
        subst hg
        go_wp2
        refine wp_region_steady (Held wr 0 []) (by kernel_rfl) (by kernel_rfl) ⟨(by repeat (first | exact Below.refl _ _ | assumption | refine Below.drew ?_ | refine Below.alloc ?_ (by (try simp) <;> omega) _ | refine Below.setCell ?_ (by (try simp) <;> omega) _ | (refine Below.trans ?_ (Below.mono (by assumption) (by (try simp) <;> omega))))), (by (try simp) <;> omega), (by first | exact trivial | (simp only [Cells]; go_simp))⟩ ?_
        repeat (first | (refine' wpSteady_do _ _ _; rotate_left; (focus rfl); (focus (intro w1 hS R hR; have hc := hS.cells; simp only [Cells] at hc; obtain ⟨hco, hfo⟩ := bcell hS.old; go_simp; (try go_bits); first | exact hR _ hS | (go_at_call 54; (with_reducible refine (H.out _).mono ?_); rintro e w2 ⟨rfl, hb2⟩; exact ⟨_, rfl, hR _ (hS.below hb2)⟩))); simp only [Act.put, List.setIfInBounds_toArray, List.set_cons_zero, List.set_cons_succ]) | (refine wpSteady_pass ?_ ?_; (focus rfl); simp only [Act.put, List.setIfInBounds_toArray, List.set_cons_zero, List.set_cons_succ]))
        refine wpSteady_nil (fun uA hSA => ?_)
        have hcA := hSA.cells; have hbA := hSA.old; have hzA := hSA.size; clear hSA; simp only [Cells] at hcA; obtain ⟨hcoA, hfoA⟩ := bcell hbA
        go_wp2
        go_ret
        exact ⟨rfl, hbr.trans (hbA.mono zr)⟩
    · obtain rfl : k = n := by omega
      have hg := hgo.out
      rw [List.drop_eq_nil_of_le (by have := en.out; omega)] at hg
      have hg : false = R := hg
      subst hg
      go_wp2
      go_ret
      exact ⟨rfl, hbr⟩
/-! ### corners -/
def OwnsP (base : Nat) (w : World) (v : Value) (l : List (Int × Int)) : Prop := w.ownsRow base 34 2 v l.length (l.flatMap encS)
theorem OwnsP.row {base B : Nat} {w : World} {v : Value} {l : List (Int × Int)} (h : OwnsP base w v l) (hB : w.heap.size ≤ B) : Row B 2 encS w v l := Row.own encS_len h hB (by omega)
theorem OwnsP.below {base B : Nat} {w w' : World} {v : Value} {l : List (Int × Int)} (h : OwnsP base w v l) (hb : Below B w w') (hB : w.heap.size ≤ B) : OwnsP base w' v l := ownsRow_below h hb hB
theorem infoPt : (Try.prog.info? 34).map (fun i => (i.zero, i.size, i.bytes)) = some (some (.agg #[.int .i64 0, .int .i64 0]), 2, 16) := by kernel_rfl
def Pts (l : List (Int × Int)) : Prop := ∀ p ∈ l, I64 p.1 ∧ I64 p.2
theorem flatP_snoc {l : List (Int × Int)} {t : Int × Int} {cs : List Value} (h : cs = encS t) : l.flatMap encS ++ cs = (l ++ [t]).flatMap encS := by
  rw [h, List.flatMap_append]; simp
theorem Pts.snoc {l : List (Int × Int)} (h : Pts l) {x y : Int} (hx : I64 x) (hy : I64 y) : Pts (l ++ [(x, y)]) := fun p hp => by
  rcases List.mem_append.1 hp with hp | hp
  · exact h p hp
  · simp at hp; subst hp; exact ⟨hx, hy⟩
/-- While points are put behind. -/
def CornI (w : World) (X Y : Nat) (xs ys : List Int) (m : Nat) (ov : Value) (wr : World) : Prop := ∃ l : List (Int × Int), l.length = m ∧ Pts l ∧ OwnsP w.heap.size wr ov l ∧ Blk wr X (xs.map (Value.int .i64)) 3 ∧ Blk wr Y (ys.map (Value.int .i64)) 3 ∧ (∀ g, ov.ownBlock = some g → g ≠ X ∧ g ≠ Y) ∧ Below w.heap.size w wr
set_option maxHeartbeats 4000000 in
set_option maxRecDepth 100000 in
theorem corners_any (a : List Re) (va : Value) (w : World) (ha : Row w.heap.size 4 Re.enc w va a) (ma : MayL a) (la : a.length ≤ 16) :
    Calls Try.prog 24 #[va] w fun e w' => Below w.heap.size w w' ∧ ∃ v, e = .returned v ∧ ∃ l, OwnsP w.heap.size w' v l ∧ Pts l ∧ l.length ≤ 256 := by
  obtain ⟨iP, hp0, hp1, hp2, hp3⟩ := info_parts infoPt
  obtain ⟨s0, cap, rfl, hmax⟩ := ha.shape
  have hopen := fun (wr : World) (hb : Below w.heap.size w wr) h0 => row_re (ha.below hb) h0
  obtain ⟨n, en⟩ : ∃ n, a.length = n := ⟨_, rfl⟩
  rw [en] at hopen hmax la ⊢
  replace hopen := Lib.hid hopen
  replace en := Lib.hid en
  replace ma := Lib.hid ma
  clear ha
  go_enter Try.func24, Try.ntmps24
  go_wp2
  go_loopw [3, 4] (fun ov iv wr => ∃ (k : Nat) (l : List (Int × Int)), k ≤ n ∧ iv = .int .i64 k ∧ l.length = 16 * k ∧ Hid (Pts l) ∧ Hid (OwnsP w.heap.size wr ov l) ∧ Below w.heap.size w wr) (fun _ iv _ => n - (intOf iv).toNat)
  case atStart => exact ⟨0, [], Nat.zero_le _, rfl, rfl, Lib.hid (fun p hp => by simp at hp), Lib.hid (World.ownsRow_nil _ _ _ _), Below.refl _ _⟩
  case round =>
    obtain ⟨k, l, hk, rfl, hl, hpt, hown, hbr⟩ := hrel
    have zr := hbr.size
    by_cases hkn : k < n
    · obtain ⟨b, o, cap', e, hb, _, _, hel⟩ := hopen.out wr hbr (by omega)
      simp at e
      obtain ⟨rfl, rfl⟩ := e
      obtain ⟨q, hq⟩ := get_at en.out hkn
      obtain ⟨g0, g1, g2, g3⟩ := hel k q hq
      have hbd := may_bd (ma.out q (List.mem_of_getElem? hq))
      have hkk : (k : Int) < n := by omega
      have hk20 : (k : Int) < 20 := by omega
      have yb : b < wr.heap.size := by omega
      clear hel hq
      go_upto_region 8 with fail
      obtain ⟨xs, hxs⟩ : ∃ xs : List Int, xs = [q.x - 1, q.x, q.x + q.wd - 1, q.x + q.wd] := ⟨_, rfl⟩
      obtain ⟨ys, hys⟩ : ∃ ys : List Int, ys = [q.y - 1, q.y, q.y + q.ht - 1, q.y + q.ht] := ⟨_, rfl⟩
      have hxl : xs.length = 4 := by rw [hxs]; rfl
      have hyl : ys.length = 4 := by rw [hys]; rfl
      have hxi : ∀ v ∈ xs, I64 v := by
        rw [hxs]; intro v hv
        simp at hv
        unfold I64
        omega
      have hyi : ∀ v ∈ ys, I64 v := by
        rw [hys]; intro v hv
        simp at hv
        unfold I64
        omega
      have hb5 : Below wr.heap.size wr (((wr.alloc (.cells #[.int .i64 q.x, .int .i64 q.y, .int .i64 q.wd, .int .i64 q.ht] 49)).alloc (.cells #[.int .i64 (q.x - 1), .int .i64 q.x, .int .i64 (q.x + q.wd - 1), .int .i64 (q.x + q.wd)] 3)).alloc (.cells #[.int .i64 (q.y - 1), .int .i64 q.y, .int .i64 (q.y + q.ht - 1), .int .i64 (q.y + q.ht)] 3)) := (by repeat (first | exact Below.refl _ _ | assumption | refine Below.drew ?_ | refine Below.alloc ?_ (by (try simp) <;> omega) _ | refine Below.setCell ?_ (by (try simp) <;> omega) _ | (refine Below.trans ?_ (Below.mono (by assumption) (by (try simp) <;> omega)))))
      have hX : Blk (((wr.alloc (.cells #[.int .i64 q.x, .int .i64 q.y, .int .i64 q.wd, .int .i64 q.ht] 49)).alloc (.cells #[.int .i64 (q.x - 1), .int .i64 q.x, .int .i64 (q.x + q.wd - 1), .int .i64 (q.x + q.wd)] 3)).alloc (.cells #[.int .i64 (q.y - 1), .int .i64 q.y, .int .i64 (q.y + q.ht - 1), .int .i64 (q.y + q.ht)] 3)) (wr.heap.size + 1) (xs.map (Value.int .i64)) 3 := by
        rw [hxs]
        exact (Blk.new' (by simp)).alloc _
      have hY : Blk (((wr.alloc (.cells #[.int .i64 q.x, .int .i64 q.y, .int .i64 q.wd, .int .i64 q.ht] 49)).alloc (.cells #[.int .i64 (q.x - 1), .int .i64 q.x, .int .i64 (q.x + q.wd - 1), .int .i64 (q.x + q.wd)] 3)).alloc (.cells #[.int .i64 (q.y - 1), .int .i64 q.y, .int .i64 (q.y + q.ht - 1), .int .i64 (q.y + q.ht)] 3)) (wr.heap.size + 1 + 1) (ys.map (Value.int .i64)) 3 := by
        rw [hys]
        exact Blk.new' (by simp)
      generalize (((wr.alloc (.cells #[.int .i64 q.x, .int .i64 q.y, .int .i64 q.wd, .int .i64 q.ht] 49)).alloc (.cells #[.int .i64 (q.x - 1), .int .i64 q.x, .int .i64 (q.x + q.wd - 1), .int .i64 (q.x + q.wd)] 3)).alloc (.cells #[.int .i64 (q.y - 1), .int .i64 q.y, .int .i64 (q.y + q.ht - 1), .int .i64 (q.y + q.ht)] 3)) = W5 at hb5 hX hY ⊢
      have hst : ∀ ov, OwnsP w.heap.size wr ov l → CornI w (wr.heap.size + 1) (wr.heap.size + 1 + 1) xs ys (16 * k) ov W5 := fun ov ho => ⟨l, hl, hpt.out, ho.below hb5 (Nat.le_refl _), hX, hY, fun g hg => by have := (own_in ho g hg).2; omega, hbr.trans (hb5.mono zr)⟩
      have hst := Lib.hid (hst _ hown.out)
      obtain ⟨X0, hX0⟩ : ∃ X0, wr.heap.size + 1 = X0 := ⟨_, rfl⟩
      obtain ⟨Y0, hY0⟩ : ∃ Y0, wr.heap.size + 1 + 1 = Y0 := ⟨_, rfl⟩
      have hY0' : X0 + 1 = Y0 := by omega
      rw [hX0, hY0'] at hst
      rw [hX0, hY0']
      have hXY : X0 ≠ Y0 := by omega
      replace hxs := Lib.hid hxs
      replace hys := Lib.hid hys
      replace hxl := Lib.hid hxl
      replace hyl := Lib.hid hyl
      replace hxi := Lib.hid hxi
      replace hyi := Lib.hid hyi
      clear g0 g1 g2 g3 hX hY hb5 hown hpt hl hX0 hY0 hY0' hbr zr yb
      go_wp2
      go_loopw [3, 8] (fun ov iv wr => ∃ kk : Nat, kk ≤ 4 ∧ iv = .int .i64 kk ∧ Hid (CornI w X0 Y0 xs ys (16 * k + 4 * kk) ov wr)) (fun _ iv _ => 4 - (intOf iv).toNat)
      case atStart => exact ⟨0, Nat.zero_le _, rfl, hst⟩
      case round =>
        obtain ⟨kk, hk4, rfl, hci⟩ := hrel
        clear hst
        by_cases hkk4 : kk < 4
        · obtain ⟨x, hx⟩ := get_at hxl.out hkk4
          have hxI := hxi.out x (List.mem_of_getElem? hx)
          have hki : (kk : Int) < 4 := by omega
          replace hx := Lib.hid hx
          go_wp2
          go_loopw [3, 9] (fun ov iv wr => ∃ jj : Nat, jj ≤ 4 ∧ iv = .int .i64 jj ∧ Hid (CornI w X0 Y0 xs ys (16 * k + 4 * kk + jj) ov wr)) (fun _ iv _ => 4 - (intOf iv).toNat)
          case atStart => exact ⟨0, Nat.zero_le _, rfl, hci⟩
          case round =>
            obtain ⟨jj, hj4, rfl, hci⟩ := hrel
            by_cases hjj4 : jj < 4
            · obtain ⟨y, hy⟩ := get_at hyl.out hjj4
              have hyI := hyi.out y (List.mem_of_getElem? hy)
              have hji : (jj : Int) < 4 := by omega
              obtain ⟨l, hl, hpt, hown, hbX, hbY, hne, hbr⟩ := hci.out
              have zr := hbr.size
              unfold OwnsP at hown
              rw [hl] at hown
              obtain ⟨st0, cap0, rfl⟩ := own_slice hown
              have cX := hbX.cell (o := kk) (v := .int .i64 x) (by rw [List.getElem?_map, hx.out]; rfl)
              have cY := hbY.cell (o := jj) (v := .int .i64 y) (by rw [List.getElem?_map, hy]; rfl)
              have lX := hbX.lt
              have lY := hbY.lt
              replace hbX := Lib.hid hbX
              replace hbY := Lib.hid hbY
              replace hown := Lib.hid hown
              replace hne := Lib.hid hne
              replace hpt := Lib.hid hpt
              replace hl := Lib.hid hl
              have hyh := Lib.hid hy
              clear hy
              go_wp2
              refine held_begin (fun w' => w'.cell? ⟨X0, kk, none⟩ = some (.int .i64 x) ∧ w'.cell? ⟨Y0, jj, none⟩ = some (.int .i64 y)) (by kernel_rfl) ⟨cX, cY⟩ (fun hS => ?_)
              (first | (refine' held_do (i := 0) _ (by kernel_rfl) (by kernel_rfl) (by kernel_rfl) _ _ hS _ _; rotate_left 2; (focus (simp only [List.getElem?_toArray, List.getElem?_cons_succ, List.getElem?_cons_zero]; rfl)); (focus exact fun _ _ _ h => h); (focus rfl); (focus (intro w1 hSS R hR; have hc := hSS; (try simp only [Held, Cells] at hc); go_simp; (try go_bits); exact hR)); simp only [Act.put, List.setIfInBounds_toArray, List.set_cons_zero, List.set_cons_succ]) | (refine' held_pass (i := 0) _ (by kernel_rfl) (by kernel_rfl) (by kernel_rfl) _ _ hS _; rotate_left; (focus (simp only [List.getElem?_toArray, List.getElem?_cons_succ, List.getElem?_cons_zero]; rfl)); (focus exact fun _ _ _ h => h); (focus rfl); simp only [Act.put, List.setIfInBounds_toArray, List.set_cons_zero, List.set_cons_succ]))
              (first | (refine' held_do (i := 1) _ (by kernel_rfl) (by kernel_rfl) (by kernel_rfl) _ _ hS _ _; rotate_left 2; (focus (simp only [List.getElem?_toArray, List.getElem?_cons_succ, List.getElem?_cons_zero]; rfl)); (focus exact fun _ _ _ h => h); (focus rfl); (focus (intro w1 hSS R hR; have hc := hSS; (try simp only [Held, Cells] at hc); go_simp; (try go_bits); exact hR)); simp only [Act.put, List.setIfInBounds_toArray, List.set_cons_zero, List.set_cons_succ]) | (refine' held_pass (i := 1) _ (by kernel_rfl) (by kernel_rfl) (by kernel_rfl) _ _ hS _; rotate_left; (focus (simp only [List.getElem?_toArray, List.getElem?_cons_succ, List.getElem?_cons_zero]; rfl)); (focus exact fun _ _ _ h => h); (focus rfl); simp only [Act.put, List.setIfInBounds_toArray, List.set_cons_zero, List.set_cons_succ]))
              (first | (refine' held_do (i := 2) _ (by kernel_rfl) (by kernel_rfl) (by kernel_rfl) _ _ hS _ _; rotate_left 2; (focus (simp only [List.getElem?_toArray, List.getElem?_cons_succ, List.getElem?_cons_zero]; rfl)); (focus exact fun _ _ _ h => h); (focus rfl); (focus (intro w1 hSS R hR; have hc := hSS; (try simp only [Held, Cells] at hc); go_simp; (try go_bits); exact hR)); simp only [Act.put, List.setIfInBounds_toArray, List.set_cons_zero, List.set_cons_succ]) | (refine' held_pass (i := 2) _ (by kernel_rfl) (by kernel_rfl) (by kernel_rfl) _ _ hS _; rotate_left; (focus (simp only [List.getElem?_toArray, List.getElem?_cons_succ, List.getElem?_cons_zero]; rfl)); (focus exact fun _ _ _ h => h); (focus rfl); simp only [Act.put, List.setIfInBounds_toArray, List.set_cons_zero, List.set_cons_succ]))
              (first | (refine' held_do (i := 3) _ (by kernel_rfl) (by kernel_rfl) (by kernel_rfl) _ _ hS _ _; rotate_left 2; (focus (simp only [List.getElem?_toArray, List.getElem?_cons_succ, List.getElem?_cons_zero]; rfl)); (focus exact fun _ _ _ h => h); (focus rfl); (focus (intro w1 hSS R hR; have hc := hSS; (try simp only [Held, Cells] at hc); go_simp; (try go_bits); exact hR)); simp only [Act.put, List.setIfInBounds_toArray, List.set_cons_zero, List.set_cons_succ]) | (refine' held_pass (i := 3) _ (by kernel_rfl) (by kernel_rfl) (by kernel_rfl) _ _ hS _; rotate_left; (focus (simp only [List.getElem?_toArray, List.getElem?_cons_succ, List.getElem?_cons_zero]; rfl)); (focus exact fun _ _ _ h => h); (focus rfl); simp only [Act.put, List.setIfInBounds_toArray, List.set_cons_zero, List.set_cons_succ]))
              (first | (refine' held_do (i := 4) _ (by kernel_rfl) (by kernel_rfl) (by kernel_rfl) _ _ hS _ _; rotate_left 2; (focus (simp only [List.getElem?_toArray, List.getElem?_cons_succ, List.getElem?_cons_zero]; rfl)); (focus exact fun _ _ _ h => h); (focus rfl); (focus (intro w1 hSS R hR; have hc := hSS; (try simp only [Held, Cells] at hc); go_simp; (try go_bits); exact hR)); simp only [Act.put, List.setIfInBounds_toArray, List.set_cons_zero, List.set_cons_succ]) | (refine' held_pass (i := 4) _ (by kernel_rfl) (by kernel_rfl) (by kernel_rfl) _ _ hS _; rotate_left; (focus (simp only [List.getElem?_toArray, List.getElem?_cons_succ, List.getElem?_cons_zero]; rfl)); (focus exact fun _ _ _ h => h); (focus rfl); simp only [Act.put, List.setIfInBounds_toArray, List.set_cons_zero, List.set_cons_succ]))
              (first | (refine' held_do (i := 5) _ (by kernel_rfl) (by kernel_rfl) (by kernel_rfl) _ _ hS _ _; rotate_left 2; (focus (simp only [List.getElem?_toArray, List.getElem?_cons_succ, List.getElem?_cons_zero]; rfl)); (focus exact fun _ _ _ h => h); (focus rfl); (focus (intro w1 hSS R hR; have hc := hSS; (try simp only [Held, Cells] at hc); go_simp; (try go_bits); exact hR)); simp only [Act.put, List.setIfInBounds_toArray, List.set_cons_zero, List.set_cons_succ]) | (refine' held_pass (i := 5) _ (by kernel_rfl) (by kernel_rfl) (by kernel_rfl) _ _ hS _; rotate_left; (focus (simp only [List.getElem?_toArray, List.getElem?_cons_succ, List.getElem?_cons_zero]; rfl)); (focus exact fun _ _ _ h => h); (focus rfl); simp only [Act.put, List.setIfInBounds_toArray, List.set_cons_zero, List.set_cons_succ]))
              (first | (refine' held_do (i := 6) _ (by kernel_rfl) (by kernel_rfl) (by kernel_rfl) _ _ hS _ _; rotate_left 2; (focus (simp only [List.getElem?_toArray, List.getElem?_cons_succ, List.getElem?_cons_zero]; rfl)); (focus exact fun _ _ _ h => h); (focus rfl); (focus (intro w1 hSS R hR; have hc := hSS; (try simp only [Held, Cells] at hc); go_simp; (try go_bits); exact hR)); simp only [Act.put, List.setIfInBounds_toArray, List.set_cons_zero, List.set_cons_succ]) | (refine' held_pass (i := 6) _ (by kernel_rfl) (by kernel_rfl) (by kernel_rfl) _ _ hS _; rotate_left; (focus (simp only [List.getElem?_toArray, List.getElem?_cons_succ, List.getElem?_cons_zero]; rfl)); (focus exact fun _ _ _ h => h); (focus rfl); simp only [Act.put, List.setIfInBounds_toArray, List.set_cons_zero, List.set_cons_succ]))
              (first | (refine' held_do (i := 7) _ (by kernel_rfl) (by kernel_rfl) (by kernel_rfl) _ _ hS _ _; rotate_left 2; (focus (simp only [List.getElem?_toArray, List.getElem?_cons_succ, List.getElem?_cons_zero]; rfl)); (focus exact fun _ _ _ h => h); (focus rfl); (focus (intro w1 hSS R hR; have hc := hSS; (try simp only [Held, Cells] at hc); go_simp; (try go_bits); exact hR)); simp only [Act.put, List.setIfInBounds_toArray, List.set_cons_zero, List.set_cons_succ]) | (refine' held_pass (i := 7) _ (by kernel_rfl) (by kernel_rfl) (by kernel_rfl) _ _ hS _; rotate_left; (focus (simp only [List.getElem?_toArray, List.getElem?_cons_succ, List.getElem?_cons_zero]; rfl)); (focus exact fun _ _ _ h => h); (focus rfl); simp only [Act.put, List.setIfInBounds_toArray, List.set_cons_zero, List.set_cons_succ]))
              (first | (refine' held_do (i := 8) _ (by kernel_rfl) (by kernel_rfl) (by kernel_rfl) _ _ hS _ _; rotate_left 2; (focus (simp only [List.getElem?_toArray, List.getElem?_cons_succ, List.getElem?_cons_zero]; rfl)); (focus exact fun _ _ _ h => h); (focus rfl); (focus (intro w1 hSS R hR; have hc := hSS; (try simp only [Held, Cells] at hc); go_simp; (try go_bits); exact hR)); simp only [Act.put, List.setIfInBounds_toArray, List.set_cons_zero, List.set_cons_succ]) | (refine' held_pass (i := 8) _ (by kernel_rfl) (by kernel_rfl) (by kernel_rfl) _ _ hS _; rotate_left; (focus (simp only [List.getElem?_toArray, List.getElem?_cons_succ, List.getElem?_cons_zero]; rfl)); (focus exact fun _ _ _ h => h); (focus rfl); simp only [Act.put, List.setIfInBounds_toArray, List.set_cons_zero, List.set_cons_succ]))
              (first | (refine' held_do (i := 9) _ (by kernel_rfl) (by kernel_rfl) (by kernel_rfl) _ _ hS _ _; rotate_left 2; (focus (simp only [List.getElem?_toArray, List.getElem?_cons_succ, List.getElem?_cons_zero]; rfl)); (focus exact fun _ _ _ h => h); (focus rfl); (focus (intro w1 hSS R hR; have hc := hSS; (try simp only [Held, Cells] at hc); go_simp; (try go_bits); exact hR)); simp only [Act.put, List.setIfInBounds_toArray, List.set_cons_zero, List.set_cons_succ]) | (refine' held_pass (i := 9) _ (by kernel_rfl) (by kernel_rfl) (by kernel_rfl) _ _ hS _; rotate_left; (focus (simp only [List.getElem?_toArray, List.getElem?_cons_succ, List.getElem?_cons_zero]; rfl)); (focus exact fun _ _ _ h => h); (focus rfl); simp only [Act.put, List.setIfInBounds_toArray, List.set_cons_zero, List.set_cons_succ]))
              (refine' held_one (i := 10) _ (by kernel_rfl) _ _; rotate_left; (focus (simp only [List.getElem?_toArray, List.getElem?_cons_succ, List.getElem?_cons_zero]; rfl)); (focus rfl); intro K hK; go_simp)
              have bX1 := hbX.out.drew.alloc (.cells #[.int .i64 x, .int .i64 y] 34)
              have bY1 := hbY.out.drew.alloc (.cells #[.int .i64 x, .int .i64 y] 34)
              refine hK _ _ ⟨?_, ?_⟩ ?_
              · have := ((Below.refl wr.heap.size wr).drew.alloc (Nat.le_refl _) (.cells #[.int .i64 x, .int .i64 y] 34)).cell (p := ⟨X0, kk, none⟩) lX
                exact this.trans cX
              · have := ((Below.refl wr.heap.size wr).drew.alloc (Nat.le_refl _) (.cells #[.int .i64 x, .int .i64 y] 34)).cell (p := ⟨Y0, jj, none⟩) lY
                exact this.trans cY
              clear hK
              (try simp only [Act.put, List.setIfInBounds_toArray, List.set_cons_zero, List.set_cons_succ])
              replace bX1 := Lib.hid bX1
              replace bY1 := Lib.hid bY1
              (refine' held_one (i := 11) _ (by kernel_rfl) _ _; rotate_left; (focus (simp only [List.getElem?_toArray, List.getElem?_cons_succ, List.getElem?_cons_zero]; rfl)); (focus rfl); intro K hK)
              refine wp_append_blk _ _ _ rfl w.heap.size 34 iP _ 2 16 Try.underlying37 hp0 hp1 hp2 hp3 rfl (by omega) _ 1 _ _ _ _ _ _ (by rfl) (hown.out.drew.alloc _) (Blk.new' rfl) (by rfl) (by rfl) (by simp [Value.oneCell']) (by omega) (by unfold maxLen; omega) (by simp; omega) ?_
              intro v6 w6 own6 gr6 at6 hb6
              have bX6 := bX1.out.keep gr6 (fun e => (hne.out X0 e).1 rfl)
              have bY6 := bY1.out.keep gr6 (fun e => (hne.out Y0 e).2 rfl)
              have cX6 := bX6.cell (o := kk) (v := .int .i64 x) (by rw [List.getElem?_map, hx.out]; rfl)
              have hcY : ys[jj]? = some y := hyh.out
              have cY6 := bY6.cell (o := jj) (v := .int .i64 y) (by rw [List.getElem?_map, hcY]; rfl)
              have hne6 : ∀ g, v6.ownBlock = some g → g ≠ X0 ∧ g ≠ Y0 := fun g hg => by
                rcases at6 g hg with h | h
                · exact hne.out g h
                · simp at h; omega
              have hbr6 : Below w.heap.size w w6 := (hbr.drew.alloc (by simp; omega) _).trans hb6
              rw [flatP_snoc (t := (x, y)) (cs := [.int .i64 x, .int .i64 y]) rfl] at own6
              replace own6 := Lib.hid own6
              replace bX6 := Lib.hid bX6
              replace bY6 := Lib.hid bY6
              replace hne6 := Lib.hid hne6
              refine hK _ _ ⟨cX6, cY6⟩ ?_
              clear hK
              (try simp only [Act.put, List.setIfInBounds_toArray, List.set_cons_zero, List.set_cons_succ])
              (refine' held_one (i := 12) _ (by kernel_rfl) _ _; rotate_left; (focus (simp only [List.getElem?_toArray, List.getElem?_cons_succ, List.getElem?_cons_zero]; rfl)); (focus rfl); intro K hK; go_simp)
              refine hK _ _ ⟨cX6, cY6⟩ ?_
              clear hK
              (try simp only [Act.put, List.setIfInBounds_toArray, List.set_cons_zero, List.set_cons_succ])
              refine wpAnyH_done (by kernel_rfl) ?_ _
              go_wp2
              go_roundw
              case rel =>
                refine ⟨jj + 1, by omega, by go_num, Lib.hid ⟨l ++ [(x, y)], by rw [List.length_append, hl.out]; simp; omega, hpt.out.snoc hxI hyI, ?_, bX6.out, bY6.out, hne6.out, hbr6⟩⟩
                unfold OwnsP
                rw [List.length_append, hl.out]
                exact own6.out
              case measure => simp [intOf]; omega
            · obtain rfl : jj = 4 := by omega
              go_wp2
              go_roundw
              case rel => exact ⟨kk + 1, by omega, by go_num, Lib.hid (by have := hci.out; rwa [show 16 * k + 4 * kk + 4 = 16 * k + 4 * (kk + 1) by omega] at this)⟩
              case measure => simp [intOf]; omega
        · obtain rfl : kk = 4 := by omega
          obtain ⟨l, hl, hpt, hown, _, _, _, hbr⟩ := hci.out
          replace hown := Lib.hid hown
          replace hpt := Lib.hid hpt
          go_wp2
          go_roundw
          case rel => exact ⟨k + 1, l, by omega, by go_num, by omega, hpt, hown, hbr⟩
          case measure => simp [intOf]; omega
    · obtain rfl : k = n := by omega
      have hkk : ¬ (k : Int) < k := by omega
      go_wp2
      go_ret
      exact ⟨hbr, _, rfl, l, hown.out, hpt.out, by omega⟩
end Go.Proofs.Ytlklmncjicgbgaa
