/-
  XGm: XLisV XLisW XLisRa.
-/
import Derived.Test.YtkmofpnefjgnkaaGd
namespace Go.Proofs.Ytkmofpnefjgnkaa
open Go.RowKit
set_option linter.unusedVariables false
attribute [local go_sem] vwp vUpon_value vUpon_skip vUpon_enter vUpon_row
set_option linter.unusedSimpArgs false
set_option linter.unusedVariables false
section
set_option linter.unusedSimpArgs false
set_option linter.unusedVariables false
def fromR (x y r b : Int) : Re := if r ≤ x ∨ b ≤ y then Re.none else ⟨x, y, r - x, b - y⟩
def meetR (a b : Re) : Re := if emptyR a || emptyR b then Re.none else fromR (max a.x b.x) (max a.y b.y) (min (a.x + a.wd) (b.x + b.wd)) (min (a.y + a.ht) (b.y + b.ht))
def inR (a b : Re) : Bool := emptyR a || (meetR a b).eqb a
theorem Re.none_may : mayR Re.none = true := by decide
theorem Re.none_empty : emptyR Re.none = true := by decide
theorem may_of {q : Re} (h : -16384 ≤ q.x ∧ q.x ≤ 16384 ∧ -16384 ≤ q.y ∧ q.y ≤ 16384 ∧ 0 ≤ q.wd ∧ q.wd ≤ 32768 ∧ 0 ≤ q.ht ∧ q.ht ≤ 32768 ∧ q.x + q.wd ≤ 16384 ∧ q.y + q.ht ≤ 16384) : mayR q = true := by
  unfold mayR spanB
  obtain ⟨a, b, c, d, e, f, g, i, j, k⟩ := h
  rw [inB_iff.2 ⟨a, b⟩, inB_iff.2 ⟨c, d⟩, sdB_iff.2 ⟨e, f⟩, sdB_iff.2 ⟨g, i⟩, decide_eq_true j, decide_eq_true k]
  rfl
theorem meet_may (a b : Re) : mayR (meetR a b) = true := by
  unfold meetR
  split
  · exact Re.none_may
  · rename_i h
    simp only [Bool.or_eq_true, not_or, Bool.not_eq_true] at h
    obtain ⟨ma, a1, a2⟩ := full_bd h.1
    obtain ⟨mb, b1, b2⟩ := full_bd h.2
    have := may_bd ma; have := may_bd mb; have := may_sum ma; have := may_sum mb
    unfold fromR
    split
    · exact Re.none_may
    · apply may_of
      simp only
      omega
theorem from_any (x y r b : Int) (w : World) (hx : -65536 ≤ x ∧ x ≤ 65536) (hy : -65536 ≤ y ∧ y ≤ 65536) (hr : -65536 ≤ r ∧ r ≤ 65536) (hb : -65536 ≤ b ∧ b ≤ 65536) : Calls Try.prog 62 #[.int .i64 x, .int .i64 y, .int .i64 r, .int .i64 b] w fun e w' => e = .returned (.agg #[.int .i64 (fromR x y r b).x, .int .i64 (fromR x y r b).y, .int .i64 (fromR x y r b).wd, .int .i64 (fromR x y r b).ht]) ∧ Below w.heap.size w w' := by
  obtain ⟨x0, x1⟩ := hx; obtain ⟨y0, y1⟩ := hy; obtain ⟨r0, r1⟩ := hr; obtain ⟨b0, b1⟩ := hb
  by_cases c1 : r ≤ x
  · have e : fromR x y r b = Re.none := by unfold fromR; rw [if_pos (.inl c1)]
    rw [e]; clear e
    have g1 : decide (r ≤ x) = true := by simpa using c1
    clear c1
    go_enter Try.func62, Try.ntmps62
    go_wp2
    refine bodyPost_ret (v := .agg #[.int .i64 (Re.none).x, .int .i64 (Re.none).y, .int .i64 (Re.none).wd, .int .i64 (Re.none).ht]) (by simp [results, Try.results62, go_sem, Re.none]) rfl ⟨rfl, (by repeat (first | exact Below.refl _ _ | assumption | refine Below.drew ?_ | refine Below.alloc ?_ (by (try simp) <;> omega) _ | refine Below.setCell ?_ (by (try simp) <;> omega) _ | (refine Below.trans ?_ (Below.mono (by assumption) (by (try simp) <;> omega)))))⟩
  · have g1 : decide (r ≤ x) = false := by simpa using c1
    by_cases c2 : b ≤ y
    · have e : fromR x y r b = Re.none := by unfold fromR; rw [if_pos (.inr c2)]
      rw [e]; clear e
      have g2 : decide (b ≤ y) = true := by simpa using c2
      clear c1 c2
      go_enter Try.func62, Try.ntmps62
      go_wp2
      refine bodyPost_ret (v := .agg #[.int .i64 (Re.none).x, .int .i64 (Re.none).y, .int .i64 (Re.none).wd, .int .i64 (Re.none).ht]) (by simp [results, Try.results62, go_sem, Re.none]) rfl ⟨rfl, (by repeat (first | exact Below.refl _ _ | assumption | refine Below.drew ?_ | refine Below.alloc ?_ (by (try simp) <;> omega) _ | refine Below.setCell ?_ (by (try simp) <;> omega) _ | (refine Below.trans ?_ (Below.mono (by assumption) (by (try simp) <;> omega)))))⟩
    · have e : fromR x y r b = ⟨x, y, r - x, b - y⟩ := by unfold fromR; rw [if_neg (by omega)]
      rw [e]; clear e
      have g2 : decide (b ≤ y) = false := by simpa using c2
      clear c1 c2
      go_enter Try.func62, Try.ntmps62
      go_wp2
      refine bodyPost_ret (v := .agg #[.int .i64 x, .int .i64 y, .int .i64 (r - x), .int .i64 (b - y)]) (by simp [results, Try.results62, go_sem]) rfl ⟨rfl, (by repeat (first | exact Below.refl _ _ | assumption | refine Below.drew ?_ | refine Below.alloc ?_ (by (try simp) <;> omega) _ | refine Below.setCell ?_ (by (try simp) <;> omega) _ | (refine Below.trans ?_ (Below.mono (by assumption) (by (try simp) <;> omega)))))⟩
end
section
set_option linter.unusedSimpArgs false
set_option linter.unusedVariables false
set_option maxHeartbeats 1000000 in
theorem gmeet_any (p q : Re) (w : World) (hp : p.Wf) (hq : q.Wf) : Calls Try.prog 45 #[.agg #[.int .i64 (p).x, .int .i64 (p).y, .int .i64 (p).wd, .int .i64 (p).ht], .agg #[.int .i64 (q).x, .int .i64 (q).y, .int .i64 (q).wd, .int .i64 (q).ht]] w fun e w' => e = .returned (.agg #[.int .i64 (meetR p q).x, .int .i64 (meetR p q).y, .int .i64 (meetR p q).wd, .int .i64 (meetR p q).ht]) ∧ Below w.heap.size w w' := by
  have A := fun w => empty_any p w hp
  have B := fun w => empty_any q w hq
  clear hp hq
  unfold meetR
  cases h1 : emptyR p
  · cases h2 : emptyR q
    · rw [h1] at A
      rw [h2] at B
      obtain ⟨mp, p1, p2⟩ := full_bd h1
      obtain ⟨mq, q1, q2⟩ := full_bd h2
      have C := fun w => ends_any p w mp
      have D := fun w => ends_any q w mq
      have := may_bd mp; have := may_bd mq; have := may_sum mp; have := may_sum mq
      have E := fun w => from_any (max p.x q.x) (max p.y q.y) (min (p.x + p.wd) (q.x + q.wd)) (min (p.y + p.ht) (q.y + q.ht)) w (by omega) (by omega) (by omega) (by omega)
      simp only [Bool.or_self, Bool.false_eq_true, if_false]
      obtain ⟨x, y, a, b⟩ := p
      obtain ⟨u, v, c, d⟩ := q
      simp only at A B C D E ⊢
      generalize fromR (max x u) (max y v) (min (x + a) (u + c)) (min (y + b) (v + d)) = r at *
      obtain ⟨r1, r2, r3, r4⟩ := r
      replace A := Lib.hid A
      replace B := Lib.hid B
      replace C := Lib.hid C
      replace D := Lib.hid D
      replace E := Lib.hid E
      clear h1 h2 mp mq
      go_enter Try.func45, Try.ntmps45
      go_wp2_with (first | (go_at_call 44; (with_reducible refine (A.out _).mono ?_); rintro e w1 ⟨rfl, hb1⟩; obtain ⟨hc1, hf1⟩ := bcell hb1; have z1 := hb1.size; (try simp at z1); have lx1 : w.heap.size < w1.heap.size := (by omega); have ly1 : w.heap.size + 1 < w1.heap.size := (by omega); have lz1 : w.heap.size + 1 + 1 < w1.heap.size := (by omega)) | (go_at_call 44; (with_reducible refine (B.out _).mono ?_); rintro e w2 ⟨rfl, hb2⟩; obtain ⟨hc2, hf2⟩ := bcell hb2; have z2 := hb2.size; (try simp at z2); have lx2 : w.heap.size < w2.heap.size := (by omega); have ly2 : w.heap.size + 1 < w2.heap.size := (by omega); have lz2 : w.heap.size + 1 + 1 < w2.heap.size := (by omega)) | (go_at_call 53; (with_reducible refine (C.out _).mono ?_); rintro e w3 ⟨rfl, hb3⟩; obtain ⟨hc3, hf3⟩ := bcell hb3; have z3 := hb3.size; (try simp at z3); have lx3 : w.heap.size < w3.heap.size := (by omega); have ly3 : w.heap.size + 1 < w3.heap.size := (by omega); have lz3 : w.heap.size + 1 + 1 < w3.heap.size := (by omega)) | (go_at_call 53; (with_reducible refine (D.out _).mono ?_); rintro e w4 ⟨rfl, hb4⟩; obtain ⟨hc4, hf4⟩ := bcell hb4; have z4 := hb4.size; (try simp at z4); have lx4 : w.heap.size < w4.heap.size := (by omega); have ly4 : w.heap.size + 1 < w4.heap.size := (by omega); have lz4 : w.heap.size + 1 + 1 < w4.heap.size := (by omega)) | (go_at_call 62; (with_reducible refine (E.out _).mono ?_); rintro e w5 ⟨rfl, hb5⟩; obtain ⟨hc5, hf5⟩ := bcell hb5; have z5 := hb5.size; (try simp at z5); have lx5 : w.heap.size < w5.heap.size := (by omega); have ly5 : w.heap.size + 1 < w5.heap.size := (by omega); have lz5 : w.heap.size + 1 + 1 < w5.heap.size := (by omega)) | go_in)
      refine bodyPost_ret (v := .agg #[.int .i64 r1, .int .i64 r2, .int .i64 r3, .int .i64 r4]) (by simp [results, Try.results45, go_sem, hc1, hc2, hc3, hc4, hc5, hf1, hf2, hf3, hf4, hf5, lz1, lz2, lz3, lz4, lz5]) rfl ⟨rfl, (by repeat (first | exact Below.refl _ _ | assumption | refine Below.drew ?_ | refine Below.alloc ?_ (by (try simp) <;> omega) _ | refine Below.setCell ?_ (by (try simp) <;> omega) _ | (refine Below.trans ?_ (Below.mono (by assumption) (by (try simp) <;> omega)))))⟩
    · rw [h1] at A
      rw [h2] at B
      replace A := Lib.hid A
      replace B := Lib.hid B
      clear h1 h2
      go_enter Try.func45, Try.ntmps45
      go_wp2_with (first | (go_at_call 44; (with_reducible refine (A.out _).mono ?_); rintro e w1 ⟨rfl, hb1⟩; obtain ⟨hc1, hf1⟩ := bcell hb1; have z1 := hb1.size; (try simp at z1); have lx1 : w.heap.size < w1.heap.size := (by omega); have ly1 : w.heap.size + 1 < w1.heap.size := (by omega); have lz1 : w.heap.size + 1 + 1 < w1.heap.size := (by omega)) | (go_at_call 44; (with_reducible refine (B.out _).mono ?_); rintro e w2 ⟨rfl, hb2⟩; obtain ⟨hc2, hf2⟩ := bcell hb2; have z2 := hb2.size; (try simp at z2); have lx2 : w.heap.size < w2.heap.size := (by omega); have ly2 : w.heap.size + 1 < w2.heap.size := (by omega); have lz2 : w.heap.size + 1 + 1 < w2.heap.size := (by omega)) | go_in)
      refine bodyPost_ret (v := .agg #[.int .i64 (Re.none).x, .int .i64 (Re.none).y, .int .i64 (Re.none).wd, .int .i64 (Re.none).ht]) (by simp [results, Try.results45, go_sem, hc1, hc2, hf1, hf2, lz1, lz2, Re.none]) rfl ⟨rfl, (by repeat (first | exact Below.refl _ _ | assumption | refine Below.drew ?_ | refine Below.alloc ?_ (by (try simp) <;> omega) _ | refine Below.setCell ?_ (by (try simp) <;> omega) _ | (refine Below.trans ?_ (Below.mono (by assumption) (by (try simp) <;> omega)))))⟩
  · rw [h1] at A
    replace A := Lib.hid A
    replace B := Lib.hid B
    clear h1
    go_enter Try.func45, Try.ntmps45
    go_wp2_with (first | (go_at_call 44; (with_reducible refine (A.out _).mono ?_); rintro e w1 ⟨rfl, hb1⟩; obtain ⟨hc1, hf1⟩ := bcell hb1; have z1 := hb1.size; (try simp at z1); have lx1 : w.heap.size < w1.heap.size := (by omega); have ly1 : w.heap.size + 1 < w1.heap.size := (by omega); have lz1 : w.heap.size + 1 + 1 < w1.heap.size := (by omega)) | (go_at_call 44; (with_reducible refine (B.out _).mono ?_); rintro e w2 ⟨rfl, hb2⟩; obtain ⟨hc2, hf2⟩ := bcell hb2; have z2 := hb2.size; (try simp at z2); have lx2 : w.heap.size < w2.heap.size := (by omega); have ly2 : w.heap.size + 1 < w2.heap.size := (by omega); have lz2 : w.heap.size + 1 + 1 < w2.heap.size := (by omega)) | go_in)
    refine bodyPost_ret (v := .agg #[.int .i64 (Re.none).x, .int .i64 (Re.none).y, .int .i64 (Re.none).wd, .int .i64 (Re.none).ht]) (by simp [results, Try.results45, go_sem, hc1, hf1, lz1, Re.none]) rfl ⟨rfl, (by repeat (first | exact Below.refl _ _ | assumption | refine Below.drew ?_ | refine Below.alloc ?_ (by (try simp) <;> omega) _ | refine Below.setCell ?_ (by (try simp) <;> omega) _ | (refine Below.trans ?_ (Below.mono (by assumption) (by (try simp) <;> omega)))))⟩
attribute [local go_sem high] eql_rect neq_rect
set_option maxHeartbeats 1000000 in
theorem in_any (p q : Re) (w : World) (hp : p.Wf) (hq : q.Wf) : Calls Try.prog 20 #[.agg #[.int .i64 (p).x, .int .i64 (p).y, .int .i64 (p).wd, .int .i64 (p).ht], .agg #[.int .i64 (q).x, .int .i64 (q).y, .int .i64 (q).wd, .int .i64 (q).ht]] w fun e w' => e = .returned (.bool (inR p q)) ∧ Below w.heap.size w w' := by
  have A := fun w => empty_any p w hp
  have B := fun w => gmeet_any p q w hp hq
  clear hp hq
  unfold inR Re.eqb
  generalize meetR p q = m at *
  obtain ⟨x, y, a, b⟩ := p
  obtain ⟨u, v, c, d⟩ := q
  obtain ⟨m1, m2, m3, m4⟩ := m
  simp only at A B ⊢
  cases h1 : emptyR ⟨x, y, a, b⟩
  · rw [h1] at A
    replace A := Lib.hid A
    replace B := Lib.hid B
    clear h1
    generalize hE : eq4 m1 m2 m3 m4 x y a b = E
    go_enter Try.func20, Try.ntmps20
    go_wp2
    refine wp_region_steady (Held w 2 [(⟨w.heap.size, 0, none⟩, .int .i64 x), (⟨w.heap.size, 1, none⟩, .int .i64 y), (⟨w.heap.size, 2, none⟩, .int .i64 a), (⟨w.heap.size, 3, none⟩, .int .i64 b), (⟨w.heap.size + 1, 0, none⟩, .int .i64 u), (⟨w.heap.size + 1, 1, none⟩, .int .i64 v), (⟨w.heap.size + 1, 2, none⟩, .int .i64 c), (⟨w.heap.size + 1, 3, none⟩, .int .i64 d)]) (by kernel_rfl) (by kernel_rfl) ⟨(by repeat (first | exact Below.refl _ _ | assumption | refine Below.drew ?_ | refine Below.alloc ?_ (by (try simp) <;> omega) _ | refine Below.setCell ?_ (by (try simp) <;> omega) _)), (by (try simp) <;> omega), (by simp only [Cells]; go_simp)⟩ ?_
    repeat (first | (refine' wpSteady_do _ _ _; rotate_left; (focus rfl); (focus (intro w1 hS R hR; have hc := hS.cells; simp only [Cells] at hc; go_simp; (try go_bits); first | exact hR _ hS | ((go_at_call 44; (with_reducible refine (A.out _).mono ?_); rintro e w2 ⟨rfl, hb2⟩; exact ⟨_, rfl, hR _ (hS.below hb2)⟩)) | ((go_at_call 45; (with_reducible refine (B.out _).mono ?_); rintro e w2 ⟨rfl, hb2⟩; exact ⟨_, rfl, hR _ (hS.below hb2)⟩)))); simp only [Act.put, List.setIfInBounds_toArray, List.set_cons_zero, List.set_cons_succ]) | (refine wpSteady_pass ?_ ?_; (focus rfl); simp only [Act.put, List.setIfInBounds_toArray, List.set_cons_zero, List.set_cons_succ]))
    refine wpSteady_nil (fun w1 hS => ?_)
    have hc := hS.cells; have hb := hS.old; have hz := hS.size; clear hS; simp only [Cells] at hc
    go_wp2
    go_ret
    exact ⟨rfl, (by repeat (first | exact Below.refl _ _ | assumption | refine Below.drew ?_ | refine Below.alloc ?_ (by (try simp) <;> omega) _ | refine Below.setCell ?_ (by (try simp) <;> omega) _ | (refine Below.trans ?_ (Below.mono (by assumption) (by (try simp) <;> omega)))))⟩
  · rw [h1] at A
    replace A := Lib.hid A
    replace B := Lib.hid B
    clear h1
    go_enter Try.func20, Try.ntmps20
    go_wp2
    refine wp_region_steady (Held w 2 [(⟨w.heap.size, 0, none⟩, .int .i64 x), (⟨w.heap.size, 1, none⟩, .int .i64 y), (⟨w.heap.size, 2, none⟩, .int .i64 a), (⟨w.heap.size, 3, none⟩, .int .i64 b), (⟨w.heap.size + 1, 0, none⟩, .int .i64 u), (⟨w.heap.size + 1, 1, none⟩, .int .i64 v), (⟨w.heap.size + 1, 2, none⟩, .int .i64 c), (⟨w.heap.size + 1, 3, none⟩, .int .i64 d)]) (by kernel_rfl) (by kernel_rfl) ⟨(by repeat (first | exact Below.refl _ _ | assumption | refine Below.drew ?_ | refine Below.alloc ?_ (by (try simp) <;> omega) _ | refine Below.setCell ?_ (by (try simp) <;> omega) _)), (by (try simp) <;> omega), (by simp only [Cells]; go_simp)⟩ ?_
    repeat (first | (refine' wpSteady_do _ _ _; rotate_left; (focus rfl); (focus (intro w1 hS R hR; have hc := hS.cells; simp only [Cells] at hc; go_simp; (try go_bits); first | exact hR _ hS | ((go_at_call 44; (with_reducible refine (A.out _).mono ?_); rintro e w2 ⟨rfl, hb2⟩; exact ⟨_, rfl, hR _ (hS.below hb2)⟩)) | ((go_at_call 45; (with_reducible refine (B.out _).mono ?_); rintro e w2 ⟨rfl, hb2⟩; exact ⟨_, rfl, hR _ (hS.below hb2)⟩)))); simp only [Act.put, List.setIfInBounds_toArray, List.set_cons_zero, List.set_cons_succ]) | (refine wpSteady_pass ?_ ?_; (focus rfl); simp only [Act.put, List.setIfInBounds_toArray, List.set_cons_zero, List.set_cons_succ]))
    refine wpSteady_nil (fun w1 hS => ?_)
    have hc := hS.cells; have hb := hS.old; have hz := hS.size; clear hS; simp only [Cells] at hc
    go_wp2
    go_ret
    exact ⟨rfl, (by repeat (first | exact Below.refl _ _ | assumption | refine Below.drew ?_ | refine Below.alloc ?_ (by (try simp) <;> omega) _ | refine Below.setCell ?_ (by (try simp) <;> omega) _ | (refine Below.trans ?_ (Below.mono (by assumption) (by (try simp) <;> omega)))))⟩
theorem draws_any (s : St) (w : World) (h : U8 s.kind) : Calls Try.prog 43 #[.agg #[.int .u8 (s).kind, .int .i64 (s).rect.x, .int .i64 (s).rect.y, .int .i64 (s).rect.wd, .int .i64 (s).rect.ht, .int .u8 (s).col.r, .int .u8 (s).col.g, .int .u8 (s).col.b, .int .u8 (s).col.a, .int .u8 (s).back.r, .int .u8 (s).back.g, .int .u8 (s).back.b, .int .u8 (s).back.a, .string (s).text, .int .i64 (s).node]] w fun e w' => e = .returned (.bool (decide (s.kind ≤ 3))) ∧ Below w.heap.size w w' := by
  obtain ⟨k, r, c, b, t, n⟩ := s
  obtain ⟨h0, h1⟩ := h
  simp only at h0 h1 ⊢
  go_enter Try.func43, Try.ntmps43
  go_wp2
  go_ret
  exact ⟨rfl, (by repeat (first | exact Below.refl _ _ | assumption | refine Below.drew ?_ | refine Below.alloc ?_ (by (try simp) <;> omega) _ | refine Below.setCell ?_ (by (try simp) <;> omega) _ | (refine Below.trans ?_ (Below.mono (by assumption) (by (try simp) <;> omega)))))⟩
end
section
set_option linter.unusedSimpArgs false
set_option linter.unusedVariables false
attribute [local go_sem high] eql_rect neq_rect
def overR (p q : Re) : Bool := !(meetR p q).eqb Re.none
theorem gover_any (p q : Re) (w : World) (hp : p.Wf) (hq : q.Wf) : Calls Try.prog 52 #[.agg #[.int .i64 (p).x, .int .i64 (p).y, .int .i64 (p).wd, .int .i64 (p).ht], .agg #[.int .i64 (q).x, .int .i64 (q).y, .int .i64 (q).wd, .int .i64 (q).ht]] w fun e w' => e = .returned (.bool (overR p q)) ∧ Below w.heap.size w w' := by
  have B := fun w => gmeet_any p q w hp hq
  clear hp hq
  unfold overR Re.eqb
  generalize meetR p q = m at *
  obtain ⟨x, y, a, b⟩ := p
  obtain ⟨u, v, c, d⟩ := q
  obtain ⟨m1, m2, m3, m4⟩ := m
  simp only [Re.none] at B ⊢
  generalize hE : eq4 m1 m2 m3 m4 0 0 0 0 = E
  replace B := Lib.hid B
  go_enter Try.func52, Try.ntmps52
  go_wp2_with (first
    | (go_at_call 45; (with_reducible refine (B.out _).mono ?_); rintro e w1 ⟨rfl, hb1⟩)
    | go_in)
  go_ret
  exact ⟨rfl, (by repeat (first | exact Below.refl _ _ | assumption | refine Below.drew ?_ | refine Below.alloc ?_ (by (try simp) <;> omega) _ | refine Below.setCell ?_ (by (try simp) <;> omega) _ | (refine Below.trans ?_ (Below.mono (by assumption) (by (try simp) <;> omega)))))⟩
end
end Go.Proofs.Ytkmofpnefjgnkaa
