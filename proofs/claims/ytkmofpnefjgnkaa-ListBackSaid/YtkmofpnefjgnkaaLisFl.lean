/-
  list.Flat.
-/
import Derived.Test.YtkmofpnefjgnkaaLisY
import Derived.Test.YtkmofpnefjgnkaaTwo
namespace Go.Proofs.Ytkmofpnefjgnkaa
open Go.RowKit
set_option linter.unusedVariables false
attribute [local go_sem] vwp vUpon_value vUpon_skip vUpon_enter vUpon_row
set_option linter.unusedSimpArgs false
set_option linter.unusedVariables false
/-- The strokes that draw, and where they show. -/
def drB (s : St) : Bool := decide (s.kind ≤ 3)
def fltS (xs : List St) : List St := xs.filter drB
def fltR (xs : List St) (rs : List Re) : List Re := ((xs.zip rs).filter fun p => drB p.1).map Prod.snd
theorem fltS_len (xs : List St) (rs : List Re) (h : rs.length = xs.length) : (fltR xs rs).length = (fltS xs).length := by
  unfold fltR fltS
  rw [List.length_map]
  have : ∀ (xs : List St) (rs : List Re), rs.length = xs.length → ((xs.zip rs).filter fun p => drB p.1).length = (xs.filter drB).length := by
    intro xs
    induction xs with
    | nil => intro rs _; simp
    | cons s xs ih =>
      intro rs h
      cases rs with
      | nil => simp at h
      | cons r rs =>
        rw [List.zip_cons_cons, List.filter_cons, List.filter_cons]
        have := ih rs (by simpa using h)
        cases hd : drB s
        · simpa [hd] using this
        · simpa [hd] using this
  exact this xs rs h
theorem fltS_le (xs : List St) : (fltS xs).length ≤ xs.length := List.length_filter_le _ _
theorem fltS_snoc {xs : List St} {k : Nat} {s : St} (hs : xs[k]? = some s) : fltS (xs.take (k + 1)) = fltS (xs.take k) ++ if drB s then [s] else [] := by
  unfold fltS
  rw [List.take_add_one, hs, List.filter_append]
  congr 1
  simp [List.filter_cons]
theorem fltR_snoc {xs : List St} {rs : List Re} {k : Nat} {s : St} {q : Re} (hs : xs[k]? = some s) (hq : rs[k]? = some q) : fltR (xs.take (k + 1)) (rs.take (k + 1)) = fltR (xs.take k) (rs.take k) ++ if drB s then [q] else [] := by
  have h1 := (List.getElem?_eq_some_iff.1 hs).1
  have h2 := (List.getElem?_eq_some_iff.1 hq).1
  unfold fltR
  rw [List.take_add_one, List.take_add_one, hs, hq]
  rw [List.zip_append (by simp; omega), List.filter_append, List.map_append]
  congr 1
  cases hd : drB s <;> simp [hd]
def flE (xs : List St) : Int := chkL xs
def flS (xs : List St) : List St := if chkL xs = 0 then fltS xs else []
def flR (xs : List St) : List Re := if chkL xs = 0 then fltR xs (shL xs) else []
def OutF (base : Nat) (l : List St) (rs : List Re) (er : Int) (w : World) (e : Ending) (w' : World) : Prop := Below base w w' ∧ ∃ v u, e = .returned (.tuple #[v, u, .int .i64 er]) ∧ Owns base w' v l ∧ OwnsR base w' u rs ∧ Apart v u
def FlCut (w2 : World) (l : List St) (rs : List Re) (v u : Value) (wx : World) : Prop := Owns w2.heap.size wx v l ∧ OwnsR w2.heap.size wx u rs ∧ Apart v u ∧ Below w2.heap.size w2 wx
set_option maxHeartbeats 2000000 in
set_option maxRecDepth 100000 in
theorem lflat_any (xs : List St) (v : Value) (w : World) (hl : Row w.heap.size 15 St.enc w v xs) (k1 : ∀ s ∈ xs, s.Wf) : Calls Try.prog 19 #[v] w (OutF w.heap.size (flS xs) (flR xs) (chkL xs) w) := by
  obtain ⟨iR, hr0, hr1, hr2, hr3⟩ := info_parts infoRe
  obtain ⟨iM, hi0, hm0, hm1, hm2⟩ := info_parts infoSt
  have C1 := fun w' (hb : Below w.heap.size w w') => lcheck_any xs v w' ((hl.below hb).mono hb.size) k1
  have K1 := fun w' (hb : Below w.heap.size w w') hc => lshown_any xs v w' ((hl.below hb).mono hb.size) k1 hc
  obtain ⟨s0, cap, rfl, hmax⟩ := hl.shape
  have hopen := fun h0 => row_st hl h0
  obtain ⟨n, en⟩ : ∃ n, xs.length = n := ⟨_, rfl⟩
  clear hl
  by_cases c1 : chkL xs = 0
  · have l1 := chk_len c1
    have hfS : flS xs = fltS xs := if_pos c1
    have hfR : flR xs = fltR xs (shL xs) := if_pos c1
    have hRl := shL_len xs
    obtain ⟨R, hR⟩ : ∃ R, shL xs = R := ⟨_, rfl⟩
    have K1 := fun w' hb => K1 w' hb c1
    rw [hfS, hfR]
    rw [hR] at K1 hRl ⊢
    rw [c1] at C1 ⊢
    rw [en] at l1 hmax hopen C1 K1 hRl ⊢
    replace C1 := Lib.hid C1
    replace K1 := Lib.hid K1
    replace hopen := Lib.hid hopen
    replace en := Lib.hid en
    replace hRl := Lib.hid hRl
    replace k1 := Lib.hid k1
    clear c1 hR hfS hfR
    go_enter Try.func19, Try.ntmps19
    go_wp2_with (first
      | (go_at_call 17; (with_reducible refine (C1.out _ (by repeat (first | exact Below.refl _ _ | assumption | refine Below.drew ?_ | refine Below.alloc ?_ (by (try simp) <;> omega) _ | refine Below.setCell ?_ (by (try simp) <;> omega) _ | (refine Below.trans ?_ (Below.mono (by assumption) (by (try simp) <;> omega)))))).mono ?_); rintro e w3 ⟨rfl, hb3⟩; have z3 := hb3.size)
      | (go_at_call 42; (with_reducible refine (K1.out _ hb3).mono ?_); rintro e w2 ⟨v2, rfl, hown2, hb2⟩; obtain ⟨s2, cap2, rfl⟩ := own_slice hown2; rw [hRl.out])
      | go_in)
    have hb02 : Below w.heap.size w w2 := hb3.trans (hb2.mono z3)
    have z02 := hb02.size
    have hrow := hown2.row (Nat.le_refl w2.heap.size)
    have hopR := fun h0 => row_re hrow h0
    rw [hRl.out] at hopR
    replace hopR := Lib.hid hopR
    clear hrow hown2 hb2 hb3 z3
    go_loopg [6, 7, 18] n (fun gg va vb i wr => ∃ (k : Nat), k ≤ n ∧ n - k ≤ gg ∧ i = .int .i64 k ∧ FlCut w2 (fltS (xs.take k)) (fltR (xs.take k) (R.take k)) va vb wr)
    case atStart => exact ⟨0, Nat.zero_le _, by omega, rfl, World.ownsRow_nil _ _ _ _, World.ownsRow_nil _ _ _ _, Apart.none _ _ _, Below.refl _ _⟩
    case round =>
      obtain ⟨k, hk, hgg, rfl, hown, hownR, hap, hbr⟩ := hrel
      have zr := hbr.size
      obtain ⟨hcr, hfr⟩ := bcell hbr
      by_cases hkn : k < n
      · obtain ⟨b, p, cap', e, hb, _, _, hel⟩ := hopen.out (by omega)
        simp at e
        obtain ⟨rfl, rfl⟩ := e
        obtain ⟨b2, p2, cap2', e, hb2, _, _, hel2⟩ := hopR.out (by omega)
        simp at e
        obtain ⟨rfl, rfl⟩ := e
        obtain ⟨s, hs⟩ : ∃ s, xs[k]? = some s := ⟨xs[k]'(by have := en.out; omega), List.getElem?_eq_getElem _⟩
        obtain ⟨q, hq⟩ : ∃ q, R[k]? = some q := ⟨R[k]'(by have := hRl.out; omega), List.getElem?_eq_getElem _⟩
        obtain ⟨hcw, hfw⟩ := bcell hb02
        obtain ⟨g0, g1, g2, g3, g4, g5, g6, g7, g8, g9, g10, g11, g12, g13, g14⟩ := hel k s hs
        obtain ⟨j0, j1, j2, j3⟩ := hel2 k q hq
        have eS := fltS_snoc hs
        have eR := fltR_snoc hs hq
        have D := fun w => draws_any s w ((k1.out s (List.mem_of_getElem? hs)).1)
        have hkk : (k : Int) < n := by omega
        have yb : b < wr.heap.size := by omega
        have ybw : b < w2.heap.size := by omega
        have yb2 : b2 < wr.heap.size := by omega
        have hln1 : (fltS (xs.take k)).length ≤ n := by have := fltS_le (xs.take k); simp at this; omega
        have hln2 : (fltR (xs.take k) (R.take k)).length ≤ n := by rw [fltS_len _ _ (by have := hRl.out; have := en.out; simp; omega)]; omega
        clear hel hel2 hs hq
        replace hown := Lib.hid hown
        replace hownR := Lib.hid hownR
        replace hap := Lib.hid hap
        cases hd : drB s
        · rw [show decide (s.kind ≤ 3) = false from hd] at D
          rw [hd] at eS eR
          simp only [Bool.false_eq_true, if_false, List.append_nil] at eS eR
          replace eS := Lib.hid eS
          replace eR := Lib.hid eR
          replace D := Lib.hid D
          clear hd
          go_wp2_with (first
            | (go_at_call 43; (with_reducible refine (D.out _).mono ?_); rintro e w4 ⟨rfl, hb4⟩)
            | go_in)
          have hb4r : Below wr.heap.size wr w4 := (by repeat (first | exact Below.refl _ _ | assumption | refine Below.drew ?_ | refine Below.alloc ?_ (by (try simp) <;> omega) _ | refine Below.setCell ?_ (by (try simp) <;> omega) _ | (refine Below.trans ?_ (Below.mono (by assumption) (by (try simp) <;> omega)))))
          go_roundg (n - (k + 1))
          case measure => omega
          case rel =>
            refine ⟨k + 1, by omega, by omega, by go_num, ?_, ?_, hap.out, hbr.trans (hb4r.mono zr)⟩
            · rw [eS.out]; exact hown.out.below hb4r (Nat.le_refl _)
            · rw [eR.out]; exact hownR.out.below hb4r (Nat.le_refl _)
        · rw [show decide (s.kind ≤ 3) = true from hd] at D
          rw [hd] at eS eR
          simp only [if_true] at eS eR
          replace eS := Lib.hid eS
          replace eR := Lib.hid eR
          replace D := Lib.hid D
          clear hd
          go_upto_region 10 with (first
            | (go_at_call 43; (with_reducible refine (D.out _).mono ?_); rintro e w4 ⟨rfl, hb4⟩)
            | go_in)
          have hb4r : Below wr.heap.size wr w4 := (by repeat (first | exact Below.refl _ _ | assumption | refine Below.drew ?_ | refine Below.alloc ?_ (by (try simp) <;> omega) _ | refine Below.setCell ?_ (by (try simp) <;> omega) _ | (refine Below.trans ?_ (Below.mono (by assumption) (by (try simp) <;> omega)))))
          have hb4w : Below w2.heap.size w2 w4 := hbr.trans (hb4r.mono zr)
          have zl4 : wr.heap.size < w4.heap.size := by have := hb4.size; simp at this; omega
          have x0 : w4.cell? ⟨wr.heap.size, 0, none⟩ = some (.int .i64 q.x) := by rw [hb4.cell (p := ⟨wr.heap.size, 0, none⟩) (by simp)]; go_simp
          have x1 : w4.cell? ⟨wr.heap.size, 1, none⟩ = some (.int .i64 q.y) := by rw [hb4.cell (p := ⟨wr.heap.size, 1, none⟩) (by simp)]; go_simp
          have x2 : w4.cell? ⟨wr.heap.size, 2, none⟩ = some (.int .i64 q.wd) := by rw [hb4.cell (p := ⟨wr.heap.size, 2, none⟩) (by simp)]; go_simp
          have x3 : w4.cell? ⟨wr.heap.size, 3, none⟩ = some (.int .i64 q.ht) := by rw [hb4.cell (p := ⟨wr.heap.size, 3, none⟩) (by simp)]; go_simp
          have f0 : w4.frozen? ⟨wr.heap.size, 0, none⟩ = false := by rw [hb4.frozen (p := ⟨wr.heap.size, 0, none⟩) (by simp)]; go_simp
          have f1 : w4.frozen? ⟨wr.heap.size, 1, none⟩ = false := by rw [hb4.frozen (p := ⟨wr.heap.size, 1, none⟩) (by simp)]; go_simp
          have f2 : w4.frozen? ⟨wr.heap.size, 2, none⟩ = false := by rw [hb4.frozen (p := ⟨wr.heap.size, 2, none⟩) (by simp)]; go_simp
          have f3 : w4.frozen? ⟨wr.heap.size, 3, none⟩ = false := by rw [hb4.frozen (p := ⟨wr.heap.size, 3, none⟩) (by simp)]; go_simp
          have own4 := hown.out.below hb4r (Nat.le_refl _)
          have ownR4 := hownR.out.below hb4r (Nat.le_refl _)
          have lo1 := fun g hg => (own_in hown.out g hg).2
          have lo2 := fun g hg => (own_in hownR.out g hg).2
          clear hcr hfr hb4 hbr hb4r
          replace own4 := Lib.hid own4
          replace ownR4 := Lib.hid ownR4
          replace lo1 := Lib.hid lo1
          replace lo2 := Lib.hid lo2
          have z24 := hb4w.size
          refine held_begin (Held w2 0 [(⟨wr.heap.size, 0, none⟩, .int .i64 (q).x), (⟨wr.heap.size, 1, none⟩, .int .i64 (q).y), (⟨wr.heap.size, 2, none⟩, .int .i64 (q).wd), (⟨wr.heap.size, 3, none⟩, .int .i64 (q).ht)]) (by kernel_rfl) ⟨Below.drew hb4w, by simp; omega, by simp only [Cells]; go_simp⟩ (fun hS => ?_)
          (first | (refine' held_do (i := 0) _ (by kernel_rfl) (by kernel_rfl) (by kernel_rfl) _ _ hS _ _; rotate_left 2; (focus (simp only [List.getElem?_toArray, List.getElem?_cons_succ, List.getElem?_cons_zero]; rfl)); (focus exact fun _ _ _ h => h); (focus rfl); (focus (intro w1 hSS R hR; have hc := hSS.2.2; (try simp only [Cells] at hc); obtain ⟨hco, hfo⟩ := bcell hSS.1; go_simp; (try go_bits); exact hR)); simp only [Act.put, List.setIfInBounds_toArray, List.set_cons_zero, List.set_cons_succ]) | (refine' held_pass (i := 0) _ (by kernel_rfl) (by kernel_rfl) (by kernel_rfl) _ _ hS _; rotate_left; (focus (simp only [List.getElem?_toArray, List.getElem?_cons_succ, List.getElem?_cons_zero]; rfl)); (focus exact fun _ _ _ h => h); (focus rfl); simp only [Act.put, List.setIfInBounds_toArray, List.set_cons_zero, List.set_cons_succ]))
          (first | (refine' held_do (i := 1) _ (by kernel_rfl) (by kernel_rfl) (by kernel_rfl) _ _ hS _ _; rotate_left 2; (focus (simp only [List.getElem?_toArray, List.getElem?_cons_succ, List.getElem?_cons_zero]; rfl)); (focus exact fun _ _ _ h => h); (focus rfl); (focus (intro w1 hSS R hR; have hc := hSS.2.2; (try simp only [Cells] at hc); obtain ⟨hco, hfo⟩ := bcell hSS.1; go_simp; (try go_bits); exact hR)); simp only [Act.put, List.setIfInBounds_toArray, List.set_cons_zero, List.set_cons_succ]) | (refine' held_pass (i := 1) _ (by kernel_rfl) (by kernel_rfl) (by kernel_rfl) _ _ hS _; rotate_left; (focus (simp only [List.getElem?_toArray, List.getElem?_cons_succ, List.getElem?_cons_zero]; rfl)); (focus exact fun _ _ _ h => h); (focus rfl); simp only [Act.put, List.setIfInBounds_toArray, List.set_cons_zero, List.set_cons_succ]))
          (first | (refine' held_do (i := 2) _ (by kernel_rfl) (by kernel_rfl) (by kernel_rfl) _ _ hS _ _; rotate_left 2; (focus (simp only [List.getElem?_toArray, List.getElem?_cons_succ, List.getElem?_cons_zero]; rfl)); (focus exact fun _ _ _ h => h); (focus rfl); (focus (intro w1 hSS R hR; have hc := hSS.2.2; (try simp only [Cells] at hc); obtain ⟨hco, hfo⟩ := bcell hSS.1; go_simp; (try go_bits); exact hR)); simp only [Act.put, List.setIfInBounds_toArray, List.set_cons_zero, List.set_cons_succ]) | (refine' held_pass (i := 2) _ (by kernel_rfl) (by kernel_rfl) (by kernel_rfl) _ _ hS _; rotate_left; (focus (simp only [List.getElem?_toArray, List.getElem?_cons_succ, List.getElem?_cons_zero]; rfl)); (focus exact fun _ _ _ h => h); (focus rfl); simp only [Act.put, List.setIfInBounds_toArray, List.set_cons_zero, List.set_cons_succ]))
          (first | (refine' held_do (i := 3) _ (by kernel_rfl) (by kernel_rfl) (by kernel_rfl) _ _ hS _ _; rotate_left 2; (focus (simp only [List.getElem?_toArray, List.getElem?_cons_succ, List.getElem?_cons_zero]; rfl)); (focus exact fun _ _ _ h => h); (focus rfl); (focus (intro w1 hSS R hR; have hc := hSS.2.2; (try simp only [Cells] at hc); obtain ⟨hco, hfo⟩ := bcell hSS.1; go_simp; (try go_bits); exact hR)); simp only [Act.put, List.setIfInBounds_toArray, List.set_cons_zero, List.set_cons_succ]) | (refine' held_pass (i := 3) _ (by kernel_rfl) (by kernel_rfl) (by kernel_rfl) _ _ hS _; rotate_left; (focus (simp only [List.getElem?_toArray, List.getElem?_cons_succ, List.getElem?_cons_zero]; rfl)); (focus exact fun _ _ _ h => h); (focus rfl); simp only [Act.put, List.setIfInBounds_toArray, List.set_cons_zero, List.set_cons_succ]))
          (first | (refine' held_do (i := 4) _ (by kernel_rfl) (by kernel_rfl) (by kernel_rfl) _ _ hS _ _; rotate_left 2; (focus (simp only [List.getElem?_toArray, List.getElem?_cons_succ, List.getElem?_cons_zero]; rfl)); (focus exact fun _ _ _ h => h); (focus rfl); (focus (intro w1 hSS R hR; have hc := hSS.2.2; (try simp only [Cells] at hc); obtain ⟨hco, hfo⟩ := bcell hSS.1; go_simp; (try go_bits); exact hR)); simp only [Act.put, List.setIfInBounds_toArray, List.set_cons_zero, List.set_cons_succ]) | (refine' held_pass (i := 4) _ (by kernel_rfl) (by kernel_rfl) (by kernel_rfl) _ _ hS _; rotate_left; (focus (simp only [List.getElem?_toArray, List.getElem?_cons_succ, List.getElem?_cons_zero]; rfl)); (focus exact fun _ _ _ h => h); (focus rfl); simp only [Act.put, List.setIfInBounds_toArray, List.set_cons_zero, List.set_cons_succ]))
          (first | (refine' held_do (i := 7) _ (by kernel_rfl) (by kernel_rfl) (by kernel_rfl) _ _ hS _ _; rotate_left 2; (focus (simp only [List.getElem?_toArray, List.getElem?_cons_succ, List.getElem?_cons_zero]; rfl)); (focus exact fun _ _ _ h => h); (focus rfl); (focus (intro w1 hSS R hR; have hc := hSS.2.2; (try simp only [Cells] at hc); obtain ⟨hco, hfo⟩ := bcell hSS.1; go_simp; (try go_bits); exact hR)); simp only [Act.put, List.setIfInBounds_toArray, List.set_cons_zero, List.set_cons_succ]) | (refine' held_pass (i := 7) _ (by kernel_rfl) (by kernel_rfl) (by kernel_rfl) _ _ hS _; rotate_left; (focus (simp only [List.getElem?_toArray, List.getElem?_cons_succ, List.getElem?_cons_zero]; rfl)); (focus exact fun _ _ _ h => h); (focus rfl); simp only [Act.put, List.setIfInBounds_toArray, List.set_cons_zero, List.set_cons_succ]))
          (first | (refine' held_do (i := 8) _ (by kernel_rfl) (by kernel_rfl) (by kernel_rfl) _ _ hS _ _; rotate_left 2; (focus (simp only [List.getElem?_toArray, List.getElem?_cons_succ, List.getElem?_cons_zero]; rfl)); (focus exact fun _ _ _ h => h); (focus rfl); (focus (intro w1 hSS R hR; have hc := hSS.2.2; (try simp only [Cells] at hc); obtain ⟨hco, hfo⟩ := bcell hSS.1; go_simp; (try go_bits); exact hR)); simp only [Act.put, List.setIfInBounds_toArray, List.set_cons_zero, List.set_cons_succ]) | (refine' held_pass (i := 8) _ (by kernel_rfl) (by kernel_rfl) (by kernel_rfl) _ _ hS _; rotate_left; (focus (simp only [List.getElem?_toArray, List.getElem?_cons_succ, List.getElem?_cons_zero]; rfl)); (focus exact fun _ _ _ h => h); (focus rfl); simp only [Act.put, List.setIfInBounds_toArray, List.set_cons_zero, List.set_cons_succ]))
          clear x0 x1 x2 x3 f0 f1 f2 f3
          replace eS := Lib.hid eS
          (refine' held_two (i := 5) (j := 9) rfl rfl (by kernel_rfl) _ _ _ _; (focus rfl); (focus rfl))
          · intro K hK
            go_simp
            have hS1 := hS.below ((Below.refl _ _).alloc (Nat.le_refl _) (.cells #[.int .u8 s.kind, .int .i64 s.rect.x, .int .i64 s.rect.y, .int .i64 s.rect.wd, .int .i64 s.rect.ht, .int .u8 s.col.r, .int .u8 s.col.g, .int .u8 s.col.b, .int .u8 s.col.a, .int .u8 s.back.r, .int .u8 s.back.g, .int .u8 s.back.b, .int .u8 s.back.a, .string s.text, .int .i64 s.node] 45))
            refine hK _ _ hS1 ?_
            clear hK
            (try simp only [Act.put, List.setIfInBounds_toArray, List.set_cons_zero, List.set_cons_succ])
            (refine' held_two (i := 6) (j := 9) rfl rfl (by kernel_rfl) _ _ _ _; (focus rfl); (focus rfl))
            · intro K hK
              refine wp_append_blk _ _ _ rfl w2.heap.size 45 iM _ 15 72 Try.underlying22 hi0 hm0 hm1 hm2 rfl (by omega) _ 1 _ _ _ _ _ _ (by rfl) (own4.out.alloc _) (Blk.new' rfl) (by rfl) (by rfl) (by simp [Value.oneCell']) (by omega) (by unfold maxLen; omega) (by simp; omega) ?_
              intro v5 w5 own5 gr5 at5 hb5
              have hS5 := held_grown hS1 gr5 (not_block lo1.out (by simp)) (hS1.1.trans (hb5.mono (by omega)))
              refine hK _ _ hS5 ?_
              clear hK
              (try simp only [Act.put, List.setIfInBounds_toArray, List.set_cons_zero, List.set_cons_succ])
              have ownR5 := own_keep (ownR4.out.drew.alloc (.cells #[.int .u8 s.kind, .int .i64 s.rect.x, .int .i64 s.rect.y, .int .i64 s.rect.wd, .int .i64 s.rect.ht, .int .u8 s.col.r, .int .u8 s.col.g, .int .u8 s.col.b, .int .u8 s.col.a, .int .u8 s.back.r, .int .u8 s.back.g, .int .u8 s.back.b, .int .u8 s.back.a, .string s.text, .int .i64 s.node] 45)) gr5 (fun g h1 h2 => hap.out g h2 h1)
              have z5 := gr5.size
              simp at z5
              replace own5 := Lib.hid own5
              replace ownR5 := Lib.hid ownR5
              (refine' held_one (i := 9) _ (by kernel_rfl) _ _; rotate_left; (focus (simp only [List.getElem?_toArray, List.getElem?_cons_succ, List.getElem?_cons_zero]; rfl)); (focus rfl); intro K hK; go_simp)
              have hS6 := hS5.below ((Below.refl _ _).alloc (Nat.le_refl _) (.cells #[.int .i64 q.x, .int .i64 q.y, .int .i64 q.wd, .int .i64 q.ht] 41))
              refine hK _ _ hS6 ?_
              clear hK
              (try simp only [Act.put, List.setIfInBounds_toArray, List.set_cons_zero, List.set_cons_succ])
              (refine' held_one (i := 10) _ (by kernel_rfl) _ _; rotate_left; (focus (simp only [List.getElem?_toArray, List.getElem?_cons_succ, List.getElem?_cons_zero]; rfl)); (focus rfl); intro K hK)
              refine wp_append_blk _ _ _ rfl w2.heap.size 41 iR _ 4 32 Try.underlying35 hr0 hr1 hr2 hr3 rfl (by omega) _ 1 _ _ _ _ _ _ (by rfl) (ownR5.out.alloc _) (Blk.new' rfl) (by rfl) (by rfl) (by simp [Value.oneCell']) (by omega) (by unfold maxLen; omega) (by simp; omega) ?_
              intro v6 w6 own6 gr6 at6 hb6
              have ap5 : Apart v5 _ := apart_next (C := w5.heap.size) hap.out lo1.out lo2.out (fun g h => (at5 g h).imp id (fun h => by simp at h; omega)) (fun g h => (own_in own5.out g h).2) (fun g h => .inl h)
              have own5' := own_keep (own5.out.alloc (.cells #[.int .i64 q.x, .int .i64 q.y, .int .i64 q.wd, .int .i64 q.ht] 41)) gr6 (fun g h1 h2 => ap5 g h1 h2)
              have ap6 : Apart v5 v6 := apart_next (C := w5.heap.size) hap.out lo1.out lo2.out (fun g h => (at5 g h).imp id (fun h => by simp at h; omega)) (fun g h => (own_in own5.out g h).2) (fun g h => (at6 g h).imp id (fun h => by simp at h; omega))
              have hS7 := held_grown hS6 gr6 (not_block lo2.out (by simp)) (hS6.1.trans (hb6.mono (by omega)))
              refine hK _ _ hS7 ?_
              clear hK
              (try simp only [Act.put, List.setIfInBounds_toArray, List.set_cons_zero, List.set_cons_succ])
              replace own5' := Lib.hid own5'
              replace own6 := Lib.hid own6
              replace ap6 := Lib.hid ap6
              (refine' held_one (i := 11) _ (by kernel_rfl) _ _; rotate_left; (focus (simp only [List.getElem?_toArray, List.getElem?_cons_succ, List.getElem?_cons_zero]; rfl)); (focus rfl); intro K hK; go_simp)
              refine hK _ _ hS7 ?_
              clear hK
              (try simp only [Act.put, List.setIfInBounds_toArray, List.set_cons_zero, List.set_cons_succ])
              (refine' held_one (i := 12) _ (by kernel_rfl) _ _; rotate_left; (focus (simp only [List.getElem?_toArray, List.getElem?_cons_succ, List.getElem?_cons_zero]; rfl)); (focus rfl); intro K hK; go_simp)
              refine hK _ _ hS7 ?_
              clear hK
              (try simp only [Act.put, List.setIfInBounds_toArray, List.set_cons_zero, List.set_cons_succ])
              refine wpAnyH_done (by kernel_rfl) ?_ _
              go_wp2
              go_roundg (n - (k + 1))
              case measure => omega
              case rel =>
                refine ⟨k + 1, by omega, by omega, by go_num, ?_, ?_, ap6.out, hS7.1⟩
                · rw [eS.out]
                  unfold Owns
                  rw [List.length_append, List.flatMap_append]
                  exact own5'.out
                · rw [eR.out]
                  unfold OwnsR
                  rw [List.length_append, List.flatMap_append]
                  exact own6.out
            · intro K hK
              go_simp
              have hS6 := hS1.below ((Below.refl _ _).alloc (Nat.le_refl _) (.cells #[.int .i64 q.x, .int .i64 q.y, .int .i64 q.wd, .int .i64 q.ht] 41))
              refine hK _ _ hS6 ?_
              clear hK
              (try simp only [Act.put, List.setIfInBounds_toArray, List.set_cons_zero, List.set_cons_succ])
              (refine' held_one (i := 6) _ (by kernel_rfl) _ _; rotate_left; (focus (simp only [List.getElem?_toArray, List.getElem?_cons_succ, List.getElem?_cons_zero]; rfl)); (focus rfl); intro K hK)
              refine wp_append_blk _ _ _ rfl w2.heap.size 45 iM _ 15 72 Try.underlying22 hi0 hm0 hm1 hm2 rfl (by omega) _ 1 _ _ _ _ _ _ (by rfl) ((own4.out.alloc _).alloc _) ((Blk.new' rfl).alloc _) (by rfl) (by rfl) (by simp [Value.oneCell']) (by omega) (by unfold maxLen; omega) (by simp; omega) ?_
              intro v5 w5 own5 gr5 at5 hb5
              have hS5 := held_grown hS6 gr5 (not_block lo1.out (by simp)) (hS6.1.trans (hb5.mono (by omega)))
              have blk5 := Blk.keep (b := w4.heap.size + 1) (cs := [.int .i64 q.x, .int .i64 q.y, .int .i64 q.wd, .int .i64 q.ht]) (e := 41) (by repeat (first | (with_reducible assumption) | (with_reducible refine Blk.drew ?_) | ((with_reducible refine Blk.new' ?_); (simp; done)) | (with_reducible refine Blk.alloc ?_ _) | ((with_reducible refine Blk.set_ne ?_ ?_ _); rotate_left; (focus (first | (simp; omega) | omega))))) gr5 (fun h => by have := lo1.out _ h; omega)
              refine hK _ _ hS5 ?_
              clear hK
              (try simp only [Act.put, List.setIfInBounds_toArray, List.set_cons_zero, List.set_cons_succ])
              have ownR5 := own_keep ((ownR4.out.drew.alloc _).alloc _) gr5 (fun g h1 h2 => hap.out g h2 h1)
              have z5 := gr5.size
              simp at z5
              replace own5 := Lib.hid own5
              replace ownR5 := Lib.hid ownR5
              (refine' held_one (i := 10) _ (by kernel_rfl) _ _; rotate_left; (focus (simp only [List.getElem?_toArray, List.getElem?_cons_succ, List.getElem?_cons_zero]; rfl)); (focus rfl); intro K hK)
              refine wp_append_blk _ _ _ rfl w2.heap.size 41 iR _ 4 32 Try.underlying35 hr0 hr1 hr2 hr3 rfl (by omega) _ 1 _ _ _ _ _ _ (by rfl) ownR5.out blk5 (by rfl) (by rfl) (by simp [Value.oneCell']) (by omega) (by unfold maxLen; omega) (by omega) ?_
              intro v6 w6 own6 gr6 at6 hb6
              have hS6 := hS5
              have ap5 : Apart v5 _ := apart_next (C := w5.heap.size) hap.out lo1.out lo2.out (fun g h => (at5 g h).imp id (fun h => by simp at h; omega)) (fun g h => (own_in own5.out g h).2) (fun g h => .inl h)
              have own5' := own_keep own5.out gr6 (fun g h1 h2 => ap5 g h1 h2)
              have ap6 : Apart v5 v6 := apart_next (C := w5.heap.size) hap.out lo1.out lo2.out (fun g h => (at5 g h).imp id (fun h => by simp at h; omega)) (fun g h => (own_in own5.out g h).2) at6
              have hS7 := held_grown hS6 gr6 (not_block lo2.out (by simp)) (hS6.1.trans (hb6.mono (by omega)))
              refine hK _ _ hS7 ?_
              clear hK
              (try simp only [Act.put, List.setIfInBounds_toArray, List.set_cons_zero, List.set_cons_succ])
              replace own5' := Lib.hid own5'
              replace own6 := Lib.hid own6
              replace ap6 := Lib.hid ap6
              (refine' held_one (i := 11) _ (by kernel_rfl) _ _; rotate_left; (focus (simp only [List.getElem?_toArray, List.getElem?_cons_succ, List.getElem?_cons_zero]; rfl)); (focus rfl); intro K hK; go_simp)
              refine hK _ _ hS7 ?_
              clear hK
              (try simp only [Act.put, List.setIfInBounds_toArray, List.set_cons_zero, List.set_cons_succ])
              (refine' held_one (i := 12) _ (by kernel_rfl) _ _; rotate_left; (focus (simp only [List.getElem?_toArray, List.getElem?_cons_succ, List.getElem?_cons_zero]; rfl)); (focus rfl); intro K hK; go_simp)
              refine hK _ _ hS7 ?_
              clear hK
              (try simp only [Act.put, List.setIfInBounds_toArray, List.set_cons_zero, List.set_cons_succ])
              refine wpAnyH_done (by kernel_rfl) ?_ _
              go_wp2
              go_roundg (n - (k + 1))
              case measure => omega
              case rel =>
                refine ⟨k + 1, by omega, by omega, by go_num, ?_, ?_, ap6.out, hS7.1⟩
                · rw [eS.out]
                  unfold Owns
                  rw [List.length_append, List.flatMap_append]
                  exact own5'.out
                · rw [eR.out]
                  unfold OwnsR
                  rw [List.length_append, List.flatMap_append]
                  exact own6.out
          · intro K hK
            go_simp
            have hS1 := hS.below ((Below.refl _ _).alloc (Nat.le_refl _) (.cells #[.int .i64 q.x, .int .i64 q.y, .int .i64 q.wd, .int .i64 q.ht] 41))
            refine hK _ _ hS1 ?_
            clear hK
            (try simp only [Act.put, List.setIfInBounds_toArray, List.set_cons_zero, List.set_cons_succ])
            (refine' held_one (i := 5) _ (by kernel_rfl) _ _; rotate_left; (focus (simp only [List.getElem?_toArray, List.getElem?_cons_succ, List.getElem?_cons_zero]; rfl)); (focus rfl); intro K hK; go_simp)
            have hS6 := hS1.below ((Below.refl _ _).alloc (Nat.le_refl _) (.cells #[.int .u8 s.kind, .int .i64 s.rect.x, .int .i64 s.rect.y, .int .i64 s.rect.wd, .int .i64 s.rect.ht, .int .u8 s.col.r, .int .u8 s.col.g, .int .u8 s.col.b, .int .u8 s.col.a, .int .u8 s.back.r, .int .u8 s.back.g, .int .u8 s.back.b, .int .u8 s.back.a, .string s.text, .int .i64 s.node] 45))
            refine hK _ _ hS6 ?_
            clear hK
            (try simp only [Act.put, List.setIfInBounds_toArray, List.set_cons_zero, List.set_cons_succ])
            (refine' held_one (i := 6) _ (by kernel_rfl) _ _; rotate_left; (focus (simp only [List.getElem?_toArray, List.getElem?_cons_succ, List.getElem?_cons_zero]; rfl)); (focus rfl); intro K hK)
            refine wp_append_blk _ _ _ rfl w2.heap.size 45 iM _ 15 72 Try.underlying22 hi0 hm0 hm1 hm2 rfl (by omega) _ 1 _ _ _ _ _ _ (by rfl) ((own4.out.alloc _).alloc _) (Blk.new' (b := w4.heap.size + 1) (by simp)) (by rfl) (by rfl) (by simp [Value.oneCell']) (by omega) (by unfold maxLen; omega) (by simp; omega) ?_
            intro v5 w5 own5 gr5 at5 hb5
            have hS5 := held_grown hS6 gr5 (not_block lo1.out (by simp)) (hS6.1.trans (hb5.mono (by omega)))
            have blk5 := Blk.keep (b := w4.heap.size) (cs := [.int .i64 q.x, .int .i64 q.y, .int .i64 q.wd, .int .i64 q.ht]) (e := 41) (by repeat (first | (with_reducible assumption) | (with_reducible refine Blk.drew ?_) | ((with_reducible refine Blk.new' ?_); (simp; done)) | (with_reducible refine Blk.alloc ?_ _) | ((with_reducible refine Blk.set_ne ?_ ?_ _); rotate_left; (focus (first | (simp; omega) | omega))))) gr5 (fun h => by have := lo1.out _ h; omega)
            refine hK _ _ hS5 ?_
            clear hK
            (try simp only [Act.put, List.setIfInBounds_toArray, List.set_cons_zero, List.set_cons_succ])
            have ownR5 := own_keep ((ownR4.out.drew.alloc _).alloc _) gr5 (fun g h1 h2 => hap.out g h2 h1)
            have z5 := gr5.size
            simp at z5
            replace own5 := Lib.hid own5
            replace ownR5 := Lib.hid ownR5
            (refine' held_one (i := 10) _ (by kernel_rfl) _ _; rotate_left; (focus (simp only [List.getElem?_toArray, List.getElem?_cons_succ, List.getElem?_cons_zero]; rfl)); (focus rfl); intro K hK)
            refine wp_append_blk _ _ _ rfl w2.heap.size 41 iR _ 4 32 Try.underlying35 hr0 hr1 hr2 hr3 rfl (by omega) _ 1 _ _ _ _ _ _ (by rfl) ownR5.out blk5 (by rfl) (by rfl) (by simp [Value.oneCell']) (by omega) (by unfold maxLen; omega) (by omega) ?_
            intro v6 w6 own6 gr6 at6 hb6
            have hS6 := hS5
            have ap5 : Apart v5 _ := apart_next (C := w5.heap.size) hap.out lo1.out lo2.out (fun g h => (at5 g h).imp id (fun h => by simp at h; omega)) (fun g h => (own_in own5.out g h).2) (fun g h => .inl h)
            have own5' := own_keep own5.out gr6 (fun g h1 h2 => ap5 g h1 h2)
            have ap6 : Apart v5 v6 := apart_next (C := w5.heap.size) hap.out lo1.out lo2.out (fun g h => (at5 g h).imp id (fun h => by simp at h; omega)) (fun g h => (own_in own5.out g h).2) at6
            have hS7 := held_grown hS6 gr6 (not_block lo2.out (by simp)) (hS6.1.trans (hb6.mono (by omega)))
            refine hK _ _ hS7 ?_
            clear hK
            (try simp only [Act.put, List.setIfInBounds_toArray, List.set_cons_zero, List.set_cons_succ])
            replace own5' := Lib.hid own5'
            replace own6 := Lib.hid own6
            replace ap6 := Lib.hid ap6
            (refine' held_one (i := 11) _ (by kernel_rfl) _ _; rotate_left; (focus (simp only [List.getElem?_toArray, List.getElem?_cons_succ, List.getElem?_cons_zero]; rfl)); (focus rfl); intro K hK; go_simp)
            refine hK _ _ hS7 ?_
            clear hK
            (try simp only [Act.put, List.setIfInBounds_toArray, List.set_cons_zero, List.set_cons_succ])
            (refine' held_one (i := 12) _ (by kernel_rfl) _ _; rotate_left; (focus (simp only [List.getElem?_toArray, List.getElem?_cons_succ, List.getElem?_cons_zero]; rfl)); (focus rfl); intro K hK; go_simp)
            refine hK _ _ hS7 ?_
            clear hK
            (try simp only [Act.put, List.setIfInBounds_toArray, List.set_cons_zero, List.set_cons_succ])
            refine wpAnyH_done (by kernel_rfl) ?_ _
            go_wp2
            go_roundg (n - (k + 1))
            case measure => omega
            case rel =>
              refine ⟨k + 1, by omega, by omega, by go_num, ?_, ?_, ap6.out, hS7.1⟩
              · rw [eS.out]
                unfold Owns
                rw [List.length_append, List.flatMap_append]
                exact own5'.out
              · rw [eR.out]
                unfold OwnsR
                rw [List.length_append, List.flatMap_append]
                exact own6.out
      · obtain rfl : k = n := by omega
        rw [List.take_of_length_le (by have := en.out; omega), List.take_of_length_le (by have := hRl.out; omega)] at hownR
        rw [List.take_of_length_le (by have := en.out; omega)] at hown
        replace hown := Lib.hid hown
        replace hownR := Lib.hid hownR
        replace hap := Lib.hid hap
        go_wp2
        go_ret3
        exact ⟨hb02.trans (hbr.mono z02), _, _, rfl, own_less hown.out z02, own_less hownR.out z02, hap.out⟩
  · have hfS : flS xs = [] := if_neg c1
    have hfR : flR xs = [] := if_neg c1
    have hcb : (chkL xs == 0) = false := by simp [c1]
    rw [hfS, hfR]
    rw [en] at C1 ⊢
    replace C1 := Lib.hid C1
    clear c1 K1
    go_enter Try.func19, Try.ntmps19
    go_wp2_with (first
      | (go_at_call 17; (with_reducible refine (C1.out _ (by repeat (first | exact Below.refl _ _ | assumption | refine Below.drew ?_ | refine Below.alloc ?_ (by (try simp) <;> omega) _ | refine Below.setCell ?_ (by (try simp) <;> omega) _ | (refine Below.trans ?_ (Below.mono (by assumption) (by (try simp) <;> omega)))))).mono ?_); rintro e w3 ⟨rfl, hb3⟩)
      | go_in)
    go_ret3
    exact ⟨hb3, _, _, rfl, Owns.nil _ _, World.ownsRow_nil _ _ _ _, Apart.none _ _ _⟩
end Go.Proofs.Ytkmofpnefjgnkaa
