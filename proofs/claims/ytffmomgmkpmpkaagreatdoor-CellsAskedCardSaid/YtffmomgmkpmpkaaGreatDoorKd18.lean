/-
  XGm: XLisV XLisW XLisRa.
-/
import Derived.Shelf.SlSortCmp.WholeK
import Derived.Shelf.Slices.CompactI
import Derived.Shelf.Slices.In.SortNone
import Derived.Shelf.Sort.Plain
import Derived.Sort.OwnSortedInts
import Derived.Test.YtffmomgmkpmpkaaGreatDoorProg
import Derived.Test.YtffmomgmkpmpkaaGreatDoorKd17
namespace Go.Proofs.YtffmomgmkpmpkaaGreatDoor
open Go.RowKit
set_option linter.unusedVariables false
attribute [local go_sem] vwp vUpon_value vUpon_skip vUpon_enter vUpon_row
set_option linter.unusedSimpArgs false
set_option linter.unusedVariables false
section
set_option linter.unusedSimpArgs false
set_option linter.unusedVariables false
def fromR (x y r b : Int) : Re := if r ≤ x ∨ b ≤ y then Re.none else ⟨x, y, r - x, b - y⟩
def meetR (a b : Re) : Re := if emptyR a || emptyR b then Re.none else fromR (max a.x b.x) (max a.y b.y) (min (a.x + a.wd) (b.x + b.wd)) (min (a.y + a.ht) (b.y + b.ht))
theorem Re.none_may : mayR Re.none = true := by decide
theorem may_of {q : Re} (h : -16384 ≤ q.x ∧ q.x ≤ 16384 ∧ -16384 ≤ q.y ∧ q.y ≤ 16384 ∧ 0 ≤ q.wd ∧ q.wd ≤ 32768 ∧ 0 ≤ q.ht ∧ q.ht ≤ 32768 ∧ q.x + q.wd ≤ 16384 ∧ q.y + q.ht ≤ 16384) : mayR q = true := by
  unfold mayR spanB
  obtain ⟨a, b, c, d, e, f, g, i, j, k⟩ := h
  rw [inB_iff.2 ⟨a, b⟩, inB_iff.2 ⟨c, d⟩, sdB_iff.2 ⟨e, f⟩, sdB_iff.2 ⟨g, i⟩, decide_eq_true j, decide_eq_true k]
  rfl
theorem meet_may (a b : Re) : mayR (meetR a b) = true := by
  unfold meetR
  split
  · exact Re.none_may
  · rename_i h
    simp only [Bool.or_eq_true, not_or, Bool.not_eq_true] at h
    obtain ⟨ma, a1, a2⟩ := full_bd h.1
    obtain ⟨mb, b1, b2⟩ := full_bd h.2
    have := may_bd ma; have := may_bd mb; have := may_sum ma; have := may_sum mb
    unfold fromR
    split
    · exact Re.none_may
    · apply may_of
      simp only
      omega
theorem from_any (x y r b : Int) (w : World) (hx : -65536 ≤ x ∧ x ≤ 65536) (hy : -65536 ≤ y ∧ y ≤ 65536) (hr : -65536 ≤ r ∧ r ≤ 65536) (hb : -65536 ≤ b ∧ b ≤ 65536) : Calls Tryz.prog 88 #[.int .i64 x, .int .i64 y, .int .i64 r, .int .i64 b] w fun e w' => e = .returned (.agg #[.int .i64 (fromR x y r b).x, .int .i64 (fromR x y r b).y, .int .i64 (fromR x y r b).wd, .int .i64 (fromR x y r b).ht]) ∧ Below w.heap.size w w' := by
 obtain ⟨x0, x1⟩ := hx; obtain ⟨y0, y1⟩ := hy; obtain ⟨r0, r1⟩ := hr; obtain ⟨b0, b1⟩ := hb
 by_cases c1 : r ≤ x
 ·have e : fromR x y r b = Re.none := by unfold fromR; rw [if_pos (.inl c1)]
  rw [e]; clear e
  have g1 : decide (r ≤ x) = true := by simpa using c1
  clear c1
  go_enter Tryz.func88, Tryz.ntmps88
  go_wp2
  refine bodyPost_ret (v := .agg #[.int .i64 (Re.none).x, .int .i64 (Re.none).y, .int .i64 (Re.none).wd, .int .i64 (Re.none).ht]) (by simp [results, Tryz.results88, go_sem, Re.none]) rfl ⟨rfl, belt⟩
 ·have g1 : decide (r ≤ x) = false := by simpa using c1
  by_cases c2 : b ≤ y
  ·have e : fromR x y r b = Re.none := by unfold fromR; rw [if_pos (.inr c2)]
   rw [e]; clear e
   have g2 : decide (b ≤ y) = true := by simpa using c2
   clear c1 c2
   go_enter Tryz.func88, Tryz.ntmps88
   go_wp2
   refine bodyPost_ret (v := .agg #[.int .i64 (Re.none).x, .int .i64 (Re.none).y, .int .i64 (Re.none).wd, .int .i64 (Re.none).ht]) (by simp [results, Tryz.results88, go_sem, Re.none]) rfl ⟨rfl, belt⟩
  ·have e : fromR x y r b = ⟨x, y, r - x, b - y⟩ := by unfold fromR; rw [if_neg (by omega)]
   rw [e]; clear e
   have g2 : decide (b ≤ y) = false := by simpa using c2
   clear c1 c2
   go_enter Tryz.func88, Tryz.ntmps88
   go_wp2
   refine bodyPost_ret (v := .agg #[.int .i64 x, .int .i64 y, .int .i64 (r - x), .int .i64 (b - y)]) (by simp [results, Tryz.results88, go_sem]) rfl ⟨rfl, belt⟩
end
section
set_option linter.unusedSimpArgs false
set_option linter.unusedVariables false
set_option maxHeartbeats 1000000 in
theorem gmeet_any (p q : Re) (w : World) (hp : p.Wf) (hq : q.Wf) : Calls Tryz.prog 42 #[.agg #[.int .i64 (p).x, .int .i64 (p).y, .int .i64 (p).wd, .int .i64 (p).ht], .agg #[.int .i64 (q).x, .int .i64 (q).y, .int .i64 (q).wd, .int .i64 (q).ht]] w fun e w' => e = .returned (.agg #[.int .i64 (meetR p q).x, .int .i64 (meetR p q).y, .int .i64 (meetR p q).wd, .int .i64 (meetR p q).ht]) ∧ Below w.heap.size w w' := by
 have A := fun w => empty_any p w hp
 have B := fun w => empty_any q w hq
 clear hp hq
 unfold meetR
 cases h1 : emptyR p
 ·cases h2 : emptyR q
  ·rw [h1] at A
   rw [h2] at B
   obtain ⟨mp, p1, p2⟩ := full_bd h1
   obtain ⟨mq, q1, q2⟩ := full_bd h2
   have C := fun w => ends_any p w mp
   have D := fun w => ends_any q w mq
   have := may_bd mp; have := may_bd mq; have := may_sum mp; have := may_sum mq
   have E := fun w => from_any (max p.x q.x) (max p.y q.y) (min (p.x + p.wd) (q.x + q.wd)) (min (p.y + p.ht) (q.y + q.ht)) w (by omega) (by omega) (by omega) (by omega)
   simp only [Bool.or_self, Bool.false_eq_true, if_false]
   obtain ⟨x, y, a, b⟩ := p
   obtain ⟨u, v, c, d⟩ := q
   simp only at A B C D E ⊢
   generalize fromR (max x u) (max y v) (min (x + a) (u + c)) (min (y + b) (v + d)) = r at *
   obtain ⟨r1, r2, r3, r4⟩ := r
   replace A := Lib.hid A
   replace B := Lib.hid B
   replace C := Lib.hid C
   replace D := Lib.hid D
   replace E := Lib.hid E
   clear h1 h2 mp mq
   go_enter Tryz.func42, Tryz.ntmps42
   go_wp2_with (first | (go_at_call 43; (with_reducible refine (A.out _).mono ?_); rintro e w1 ⟨rfl, hb1⟩; obtain ⟨hc1, hf1⟩ := bcell hb1; have z1 := hb1.size; (try simp at z1); have lx1 : w.heap.size < w1.heap.size := (by omega); have ly1 : w.heap.size + 1 < w1.heap.size := (by omega); have lz1 : w.heap.size + 1 + 1 < w1.heap.size := (by omega)) | (go_at_call 43; (with_reducible refine (B.out _).mono ?_); rintro e w2 ⟨rfl, hb2⟩; obtain ⟨hc2, hf2⟩ := bcell hb2; have z2 := hb2.size; (try simp at z2); have lx2 : w.heap.size < w2.heap.size := (by omega); have ly2 : w.heap.size + 1 < w2.heap.size := (by omega); have lz2 : w.heap.size + 1 + 1 < w2.heap.size := (by omega)) | (go_at_call 87; (with_reducible refine (C.out _).mono ?_); rintro e w3 ⟨rfl, hb3⟩; obtain ⟨hc3, hf3⟩ := bcell hb3; have z3 := hb3.size; (try simp at z3); have lx3 : w.heap.size < w3.heap.size := (by omega); have ly3 : w.heap.size + 1 < w3.heap.size := (by omega); have lz3 : w.heap.size + 1 + 1 < w3.heap.size := (by omega)) | (go_at_call 87; (with_reducible refine (D.out _).mono ?_); rintro e w4 ⟨rfl, hb4⟩; obtain ⟨hc4, hf4⟩ := bcell hb4; have z4 := hb4.size; (try simp at z4); have lx4 : w.heap.size < w4.heap.size := (by omega); have ly4 : w.heap.size + 1 < w4.heap.size := (by omega); have lz4 : w.heap.size + 1 + 1 < w4.heap.size := (by omega)) | (go_at_call 88; (with_reducible refine (E.out _).mono ?_); rintro e w5 ⟨rfl, hb5⟩; obtain ⟨hc5, hf5⟩ := bcell hb5; have z5 := hb5.size; (try simp at z5); have lx5 : w.heap.size < w5.heap.size := (by omega); have ly5 : w.heap.size + 1 < w5.heap.size := (by omega); have lz5 : w.heap.size + 1 + 1 < w5.heap.size := (by omega)) | go_in)
   refine bodyPost_ret (v := .agg #[.int .i64 r1, .int .i64 r2, .int .i64 r3, .int .i64 r4]) (by simp [results, Tryz.results42, go_sem, hc1, hc2, hc3, hc4, hc5, hf1, hf2, hf3, hf4, hf5, lz1, lz2, lz3, lz4, lz5]) rfl ⟨rfl, belt⟩
  ·rw [h1] at A
   rw [h2] at B
   replace A := Lib.hid A
   replace B := Lib.hid B
   clear h1 h2
   go_enter Tryz.func42, Tryz.ntmps42
   go_wp2_with (first | (go_at_call 43; (with_reducible refine (A.out _).mono ?_); rintro e w1 ⟨rfl, hb1⟩; obtain ⟨hc1, hf1⟩ := bcell hb1; have z1 := hb1.size; (try simp at z1); have lx1 : w.heap.size < w1.heap.size := (by omega); have ly1 : w.heap.size + 1 < w1.heap.size := (by omega); have lz1 : w.heap.size + 1 + 1 < w1.heap.size := (by omega)) | (go_at_call 43; (with_reducible refine (B.out _).mono ?_); rintro e w2 ⟨rfl, hb2⟩; obtain ⟨hc2, hf2⟩ := bcell hb2; have z2 := hb2.size; (try simp at z2); have lx2 : w.heap.size < w2.heap.size := (by omega); have ly2 : w.heap.size + 1 < w2.heap.size := (by omega); have lz2 : w.heap.size + 1 + 1 < w2.heap.size := (by omega)) | go_in)
   refine bodyPost_ret (v := .agg #[.int .i64 (Re.none).x, .int .i64 (Re.none).y, .int .i64 (Re.none).wd, .int .i64 (Re.none).ht]) (by simp [results, Tryz.results42, go_sem, hc1, hc2, hf1, hf2, lz1, lz2, Re.none]) rfl ⟨rfl, belt⟩
 ·rw [h1] at A
  replace A := Lib.hid A
  replace B := Lib.hid B
  clear h1
  go_enter Tryz.func42, Tryz.ntmps42
  go_wp2_with (first | (go_at_call 43; (with_reducible refine (A.out _).mono ?_); rintro e w1 ⟨rfl, hb1⟩; obtain ⟨hc1, hf1⟩ := bcell hb1; have z1 := hb1.size; (try simp at z1); have lx1 : w.heap.size < w1.heap.size := (by omega); have ly1 : w.heap.size + 1 < w1.heap.size := (by omega); have lz1 : w.heap.size + 1 + 1 < w1.heap.size := (by omega)) | (go_at_call 43; (with_reducible refine (B.out _).mono ?_); rintro e w2 ⟨rfl, hb2⟩; obtain ⟨hc2, hf2⟩ := bcell hb2; have z2 := hb2.size; (try simp at z2); have lx2 : w.heap.size < w2.heap.size := (by omega); have ly2 : w.heap.size + 1 < w2.heap.size := (by omega); have lz2 : w.heap.size + 1 + 1 < w2.heap.size := (by omega)) | go_in)
  refine bodyPost_ret (v := .agg #[.int .i64 (Re.none).x, .int .i64 (Re.none).y, .int .i64 (Re.none).wd, .int .i64 (Re.none).ht]) (by simp [results, Tryz.results42, go_sem, hc1, hf1, lz1, Re.none]) rfl ⟨rfl, belt⟩
attribute [local go_sem high] eql_rect neq_rect
theorem draws_any (s : St) (w : World) (h : U8 s.kind) : Calls Tryz.prog 75 #[.agg #[.int .u8 (s).kind, .int .i64 (s).rect.x, .int .i64 (s).rect.y, .int .i64 (s).rect.wd, .int .i64 (s).rect.ht, .int .u8 (s).col.r, .int .u8 (s).col.g, .int .u8 (s).col.b, .int .u8 (s).col.a, .int .u8 (s).back.r, .int .u8 (s).back.g, .int .u8 (s).back.b, .int .u8 (s).back.a, .string (s).text, .int .i64 (s).node]] w fun e w' => e = .returned (.bool (decide (s.kind ≤ 3))) ∧ Below w.heap.size w w' := by
  obtain ⟨k, r, c, b, t, n⟩ := s
  obtain ⟨h0, h1⟩ := h
  simp only at h0 h1 ⊢
  go_enter Tryz.func75, Tryz.ntmps75
  go_wp2
  go_ret
  exact ⟨rfl, belt⟩
end
section
set_option linter.unusedSimpArgs false
set_option linter.unusedVariables false
attribute [local go_sem high] eql_rect neq_rect
theorem kempty1_any (q : Re) (w : World) (hq : q.Wf) : Calls Tryz.prog 100 #[.agg #[.int .i64 (q).x, .int .i64 (q).y, .int .i64 (q).wd, .int .i64 (q).ht]] w fun e w' => e = .returned (.bool (emptyR q)) ∧ Below w.heap.size w w' := by
 have A := fun w => may_any q w hq
 clear hq
 obtain ⟨x, y, a, b⟩ := q
 simp only at A ⊢
 cases hm : mayR ⟨x, y, a, b⟩
 ·have he : emptyR ⟨x, y, a, b⟩ = true := by unfold emptyR areaR; rw [hm]; rfl
  rw [hm] at A
  clear hm
  rw [show emptyR ⟨x, y, a, b⟩ = true from he]
  replace A := Lib.hid A
  clear he
  go_enter Tryz.func100, Tryz.ntmps100
  go_wp2_with (first
   | (go_at_call 140; (with_reducible refine (A.out _).mono ?_); rintro e w1 ⟨rfl, hb1⟩; obtain ⟨hc1, hf1⟩ := bcell hb1; have z1 := hb1.size; (try simp at z1); have lx1 : w.heap.size < w1.heap.size := (by omega))
   | go_in)
  go_ret
  exact ⟨rfl, belt⟩
 ·rw [hm] at A
  by_cases h1 : a = 0
  ·have he : emptyR ⟨x, y, a, b⟩ = true := by rw [empty_none hm]; simp [noneR, h1]
   have d1 : (a == 0) = true := by simp [h1]
   clear h1 hm
   rw [show emptyR ⟨x, y, a, b⟩ = true from he]
   replace A := Lib.hid A
   clear he
   go_enter Tryz.func100, Tryz.ntmps100
   go_wp2_with (first
    | (go_at_call 140; (with_reducible refine (A.out _).mono ?_); rintro e w1 ⟨rfl, hb1⟩; obtain ⟨hc1, hf1⟩ := bcell hb1; have z1 := hb1.size; (try simp at z1); have lx1 : w.heap.size < w1.heap.size := (by omega))
    | go_in)
   go_ret
   exact ⟨rfl, belt⟩
  ·have d1 : (a == 0) = false := by simp [h1]
   by_cases h2 : b = 0
   ·have he : emptyR ⟨x, y, a, b⟩ = true := by rw [empty_none hm]; simp [noneR, h2]
    have d2 : (b == 0) = true := by simp [h2]
    clear h2 hm
    rw [show emptyR ⟨x, y, a, b⟩ = true from he]
    replace A := Lib.hid A
    clear he
    go_enter Tryz.func100, Tryz.ntmps100
    go_wp2_with (first
     | (go_at_call 140; (with_reducible refine (A.out _).mono ?_); rintro e w1 ⟨rfl, hb1⟩; obtain ⟨hc1, hf1⟩ := bcell hb1; have z1 := hb1.size; (try simp at z1); have lx1 : w.heap.size < w1.heap.size := (by omega))
     | go_in)
    go_ret
    exact ⟨rfl, belt⟩
   ·have he : emptyR ⟨x, y, a, b⟩ = false := by rw [empty_none hm]; simp [noneR, h1, h2]
    have d2 : (b == 0) = false := by simp [h2]
    clear hm
    rw [show emptyR ⟨x, y, a, b⟩ = false from he]
    replace A := Lib.hid A
    clear he
    go_enter Tryz.func100, Tryz.ntmps100
    go_wp2_with (first
     | (go_at_call 140; (with_reducible refine (A.out _).mono ?_); rintro e w1 ⟨rfl, hb1⟩; obtain ⟨hc1, hf1⟩ := bcell hb1; have z1 := hb1.size; (try simp at z1); have lx1 : w.heap.size < w1.heap.size := (by omega))
     | go_in)
    go_ret
    exact ⟨rfl, belt⟩
theorem kfrom_any (x y r b : Int) (w : World) (hx : -65536 ≤ x ∧ x ≤ 65536) (hy : -65536 ≤ y ∧ y ≤ 65536) (hr : -65536 ≤ r ∧ r ≤ 65536) (hb : -65536 ≤ b ∧ b ≤ 65536) : Calls Tryz.prog 160 #[.int .i64 x, .int .i64 y, .int .i64 r, .int .i64 b] w fun e w' => e = .returned (.agg #[.int .i64 (fromR x y r b).x, .int .i64 (fromR x y r b).y, .int .i64 (fromR x y r b).wd, .int .i64 (fromR x y r b).ht]) ∧ Below w.heap.size w w' := by
 obtain ⟨x0, x1⟩ := hx; obtain ⟨y0, y1⟩ := hy; obtain ⟨r0, r1⟩ := hr; obtain ⟨b0, b1⟩ := hb
 by_cases c1 : r ≤ x
 ·have e : fromR x y r b = Re.none := by unfold fromR; rw [if_pos (.inl c1)]
  rw [e]; clear e
  go_enter Tryz.func160, Tryz.ntmps160
  go_wp2
  refine bodyPost_ret (v := .agg #[.int .i64 (Re.none).x, .int .i64 (Re.none).y, .int .i64 (Re.none).wd, .int .i64 (Re.none).ht]) (by simp [results, Tryz.results160, go_sem, Re.none]) rfl ⟨rfl, belt⟩
 ·by_cases c2 : b ≤ y
  ·have e : fromR x y r b = Re.none := by unfold fromR; rw [if_pos (.inr c2)]
   rw [e]; clear e
   go_enter Tryz.func160, Tryz.ntmps160
   go_wp2
   refine bodyPost_ret (v := .agg #[.int .i64 (Re.none).x, .int .i64 (Re.none).y, .int .i64 (Re.none).wd, .int .i64 (Re.none).ht]) (by simp [results, Tryz.results160, go_sem, Re.none]) rfl ⟨rfl, belt⟩
  ·have e : fromR x y r b = ⟨x, y, r - x, b - y⟩ := by unfold fromR; rw [if_neg (by omega)]
   rw [e]; clear e
   go_enter Tryz.func160, Tryz.ntmps160
   go_wp2
   refine bodyPost_ret (v := .agg #[.int .i64 x, .int .i64 y, .int .i64 (r - x), .int .i64 (b - y)]) (by simp [results, Tryz.results160, go_sem]) rfl ⟨rfl, belt⟩
theorem kright_any (q : Re) (w : World) (hq : mayR q = true) : Calls Tryz.prog 101 #[.agg #[.int .i64 (q).x, .int .i64 (q).y, .int .i64 (q).wd, .int .i64 (q).ht]] w fun e w' => e = .returned (.int .i64 (q.x + q.wd)) ∧ Below w.heap.size w w' := by
  have hb := may_bd hq
  obtain ⟨x, y, a, b⟩ := q
  obtain ⟨x0, x1, y0, y1, a0, a1, b0, b1⟩ := hb
  simp only at x0 x1 y0 y1 a0 a1 b0 b1 ⊢
  clear hq
  go_enter Tryz.func101, Tryz.ntmps101
  go_wp2
  go_ret
  exact ⟨rfl, belt⟩
theorem kbelow_any (q : Re) (w : World) (hq : mayR q = true) : Calls Tryz.prog 102 #[.agg #[.int .i64 (q).x, .int .i64 (q).y, .int .i64 (q).wd, .int .i64 (q).ht]] w fun e w' => e = .returned (.int .i64 (q.y + q.ht)) ∧ Below w.heap.size w w' := by
  have hb := may_bd hq
  obtain ⟨x, y, a, b⟩ := q
  obtain ⟨x0, x1, y0, y1, a0, a1, b0, b1⟩ := hb
  simp only at x0 x1 y0 y1 a0 a1 b0 b1 ⊢
  clear hq
  go_enter Tryz.func102, Tryz.ntmps102
  go_wp2
  go_ret
  exact ⟨rfl, belt⟩
set_option maxHeartbeats 4000000 in
set_option maxRecDepth 100000 in
theorem kmeet1_any (p q : Re) (w : World) (hp : p.Wf) (hq : q.Wf) : Calls Tryz.prog 134 #[.agg #[.int .i64 (p).x, .int .i64 (p).y, .int .i64 (p).wd, .int .i64 (p).ht], .agg #[.int .i64 (q).x, .int .i64 (q).y, .int .i64 (q).wd, .int .i64 (q).ht]] w fun e w' => e = .returned (.agg #[.int .i64 (meetR p q).x, .int .i64 (meetR p q).y, .int .i64 (meetR p q).wd, .int .i64 (meetR p q).ht]) ∧ Below w.heap.size w w' := by
 have A := fun w => kempty1_any p w hp
 have B := fun w => kempty1_any q w hq
 clear hp hq
 unfold meetR
 cases h1 : emptyR p
 ·cases h2 : emptyR q
  ·rw [h1] at A
   rw [h2] at B
   obtain ⟨mp, p1, p2⟩ := full_bd h1
   obtain ⟨mq, q1, q2⟩ := full_bd h2
   have C := fun w => kright_any p w mp
   have D := fun w => kright_any q w mq
   have C2 := fun w => kbelow_any p w mp
   have D2 := fun w => kbelow_any q w mq
   have := may_bd mp; have := may_bd mq; have := may_sum mp; have := may_sum mq
   have E := fun w => kfrom_any (max p.x q.x) (max p.y q.y) (min (p.x + p.wd) (q.x + q.wd)) (min (p.y + p.ht) (q.y + q.ht)) w (by omega) (by omega) (by omega) (by omega)
   simp only [Bool.or_self, Bool.false_eq_true, if_false]
   obtain ⟨x, y, a, b⟩ := p
   obtain ⟨u, v, c, d⟩ := q
   simp only at A B C D C2 D2 E ⊢
   generalize fromR (max x u) (max y v) (min (x + a) (u + c)) (min (y + b) (v + d)) = r at *
   obtain ⟨r1, r2, r3, r4⟩ := r
   replace A := Lib.hid A
   replace B := Lib.hid B
   replace C := Lib.hid C
   replace D := Lib.hid D
   replace C2 := Lib.hid C2
   replace D2 := Lib.hid D2
   replace E := Lib.hid E
   clear h1 h2 mp mq
   go_enter Tryz.func134, Tryz.ntmps134
   go_upto_region 3 with (first | (go_at_call 100; (with_reducible refine (A.out _).mono ?_); rintro e w1 ⟨rfl, hb1⟩; obtain ⟨hc1, hf1⟩ := bcell hb1; have z1 := hb1.size; (try simp at z1); have lx1 : w.heap.size < w1.heap.size := (by omega); have ly1 : w.heap.size + 1 < w1.heap.size := (by omega); have lz1 : w.heap.size + 1 + 1 < w1.heap.size := (by omega)) | (go_at_call 100; (with_reducible refine (B.out _).mono ?_); rintro e w2 ⟨rfl, hb2⟩; obtain ⟨hc2, hf2⟩ := bcell hb2; have z2 := hb2.size; (try simp at z2); have lx2 : w.heap.size < w2.heap.size := (by omega); have ly2 : w.heap.size + 1 < w2.heap.size := (by omega); have lz2 : w.heap.size + 1 + 1 < w2.heap.size := (by omega)) | go_in)
   have hw2 : Below w.heap.size w w2 := belt
   have k0 : w2.cell? ⟨w.heap.size, 0, none⟩ = some (.int .i64 x) := by go_simp
   refine wp_region_steady_then (Held w2 0 []) 25 (by kernel_rfl) (by kernel_rfl) (by decide) (by kernel_rfl) (by kernel_rfl) ⟨belt, (by (try simp) <;> omega), (by first | exact trivial | (simp only [Cells]; go_simp))⟩ ?_
   simp only [List.take_succ_cons, List.take_zero]
   repeat (first | (refine' wpSteady_do _ _ _; rotate_left; (focus rfl); (focus (intro w1 hS R hR; have hc := hS.cells; simp only [Cells] at hc; obtain ⟨hco, hfo⟩ := bcell hS.old; go_simp; (try go_bits); first | exact hR _ hS | (first
          | (go_at_call 101; (with_reducible refine (C.out _).mono ?_); rintro e w4 ⟨rfl, hb4⟩; exact ⟨_, rfl, hR _ (hS.below hb4)⟩)
          | (go_at_call 101; (with_reducible refine (D.out _).mono ?_); rintro e w4 ⟨rfl, hb4⟩; exact ⟨_, rfl, hR _ (hS.below hb4)⟩)
          | (go_at_call 102; (with_reducible refine (C2.out _).mono ?_); rintro e w4 ⟨rfl, hb4⟩; exact ⟨_, rfl, hR _ (hS.below hb4)⟩)
          | (go_at_call 102; (with_reducible refine (D2.out _).mono ?_); rintro e w4 ⟨rfl, hb4⟩; exact ⟨_, rfl, hR _ (hS.below hb4)⟩)
          | (go_at_call 160; (with_reducible refine (E.out _).mono ?_); rintro e w4 ⟨rfl, hb4⟩; exact ⟨_, rfl, hR _ (hS.below hb4)⟩)))); simp only [pu]) | (refine wpSteady_pass ?_ ?_; (focus rfl); simp only [pu]))
   refine wpSteady_nil (fun uT hST => ?_)
   have hcT := hST.cells; have hbT := hST.old; have hzT := hST.size; clear hST; simp only [Cells] at hcT; obtain ⟨hcoT, hfoT⟩ := bcell hbT
   simp only [List.drop_succ_cons, List.drop_zero, List.drop_nil]
   have hwT : Below w.heap.size w uT := hw2.trans (hbT.mono hw2.size)
   have lzT : w.heap.size + 1 + 1 < uT.heap.size := by have := hbT.size; omega
   go_wp2
   refine bodyPost_ret (v := .agg #[.int .i64 r1, .int .i64 r2, .int .i64 r3, .int .i64 r4]) (by simp [results, Tryz.results134, go_sem, hcoT, hfoT, hc1, hc2, hf1, hf2, lz1, lz2, lzT]) rfl ⟨rfl, belt⟩
  ·rw [h1] at A
   rw [h2] at B
   replace A := Lib.hid A
   replace B := Lib.hid B
   clear h1 h2
   go_enter Tryz.func134, Tryz.ntmps134
   go_wp2_with (first | (go_at_call 100; (with_reducible refine (A.out _).mono ?_); rintro e w1 ⟨rfl, hb1⟩; obtain ⟨hc1, hf1⟩ := bcell hb1; have z1 := hb1.size; (try simp at z1); have lx1 : w.heap.size < w1.heap.size := (by omega); have ly1 : w.heap.size + 1 < w1.heap.size := (by omega); have lz1 : w.heap.size + 1 + 1 < w1.heap.size := (by omega)) | (go_at_call 100; (with_reducible refine (B.out _).mono ?_); rintro e w2 ⟨rfl, hb2⟩; obtain ⟨hc2, hf2⟩ := bcell hb2; have z2 := hb2.size; (try simp at z2); have lx2 : w.heap.size < w2.heap.size := (by omega); have ly2 : w.heap.size + 1 < w2.heap.size := (by omega); have lz2 : w.heap.size + 1 + 1 < w2.heap.size := (by omega)) | go_in)
   refine bodyPost_ret (v := .agg #[.int .i64 (Re.none).x, .int .i64 (Re.none).y, .int .i64 (Re.none).wd, .int .i64 (Re.none).ht]) (by simp [results, Tryz.results134, go_sem, hc1, hc2, hf1, hf2, lz1, lz2, Re.none]) rfl ⟨rfl, belt⟩
 ·rw [h1] at A
  replace A := Lib.hid A
  replace B := Lib.hid B
  clear h1
  go_enter Tryz.func134, Tryz.ntmps134
  go_wp2_with (first | (go_at_call 100; (with_reducible refine (A.out _).mono ?_); rintro e w1 ⟨rfl, hb1⟩; obtain ⟨hc1, hf1⟩ := bcell hb1; have z1 := hb1.size; (try simp at z1); have lx1 : w.heap.size < w1.heap.size := (by omega); have ly1 : w.heap.size + 1 < w1.heap.size := (by omega); have lz1 : w.heap.size + 1 + 1 < w1.heap.size := (by omega)) | (go_at_call 100; (with_reducible refine (B.out _).mono ?_); rintro e w2 ⟨rfl, hb2⟩; obtain ⟨hc2, hf2⟩ := bcell hb2; have z2 := hb2.size; (try simp at z2); have lx2 : w.heap.size < w2.heap.size := (by omega); have ly2 : w.heap.size + 1 < w2.heap.size := (by omega); have lz2 : w.heap.size + 1 + 1 < w2.heap.size := (by omega)) | go_in)
  refine bodyPost_ret (v := .agg #[.int .i64 (Re.none).x, .int .i64 (Re.none).y, .int .i64 (Re.none).wd, .int .i64 (Re.none).ht]) (by simp [results, Tryz.results134, go_sem, hc1, hf1, lz1, Re.none]) rfl ⟨rfl, belt⟩
end
end Go.Proofs.YtffmomgmkpmpkaaGreatDoor

namespace Go.Proofs.YtffmomgmkpmpkaaGreatDoor
open Go Go.RowKit
set_option linter.unusedVariables false
set_option linter.unusedSimpArgs false
section
variable {P : Program} {ops : Array Oper} {Q : Exit → Act → World → Prop}
/-- Three are ready. -/
theorem held_three {S : World → Prop} {i j k : Nat} {oi oj ok : Oper} {fuel : Nat} {listed : Array Bool} {a : Act} {w : World} (hi : ops[i]? = some oi) (hj : ops[j]? = some oj) (hk : ops[k]? = some ok) (hr : Region.ready .any ops listed = [i, j, k])
    (wi : Region.wanted oi (yielded ops a.tmps) = true) (wj : Region.wanted oj (yielded ops a.tmps) = true) (wk : Region.wanted ok (yielded ops a.tmps) = true)
    (h1 : ∀ K : Act → World → Prop, (∀ a w, S w → wpAnyH P .any ops Q S fuel (listed.setIfInBounds i true) a w → K a w) → oi.wp P a w K Q)
    (h2 : ∀ K : Act → World → Prop, (∀ a w, S w → wpAnyH P .any ops Q S fuel (listed.setIfInBounds j true) a w → K a w) → oj.wp P a w K Q)
    (h3 : ∀ K : Act → World → Prop, (∀ a w, S w → wpAnyH P .any ops Q S fuel (listed.setIfInBounds k true) a w → K a w) → ok.wp P a w K Q) : wpAnyH P .any ops Q S (fuel + 1) listed a w := by
  refine wpAnyH_all hr (by simp) (fun n hn => ?_)
  unfold wpOp
  rcases List.mem_cons.1 hn with rfl | hn
  · simp only [hi, wi, if_true]
    exact .inl (h1 _ fun a w hS hW => ⟨hS, hW⟩)
  · rcases List.mem_cons.1 hn with rfl | hn
    · simp only [hj, wj, if_true]
      exact .inl (h2 _ fun a w hS hW => ⟨hS, hW⟩)
    · obtain rfl : n = k := by simpa using hn
      simp only [hk, wk, if_true]
      exact .inl (h3 _ fun a w hS hW => ⟨hS, hW⟩)
end
end Go.Proofs.YtffmomgmkpmpkaaGreatDoor
