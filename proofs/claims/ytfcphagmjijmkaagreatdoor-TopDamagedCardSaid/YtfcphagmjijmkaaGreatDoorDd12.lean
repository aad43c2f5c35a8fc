/-
  Cells: what is written over by places; a cell of an own row written whole.
-/
import Derived.Test.YtfcphagmjijmkaaGreatDoorDd11
namespace Go.Proofs.YtfcphagmjijmkaaGreatDoor
open Go.RowKit
set_option linter.unusedVariables false
set_option linter.unusedSimpArgs false
attribute [local go_sem] vwp vUpon_value vUpon_skip vUpon_enter vUpon_row
set_option maxHeartbeats 16000000
/-! ### plain -/
def updP (P : Nat → Bool) (f : Nat → Ce → Ce) (cs : List Ce) : List Ce := cs.mapIdx (fun k c => if P k then f k c else c)
theorem updP_len (P : Nat → Bool) (f : Nat → Ce → Ce) (cs : List Ce) : (updP P f cs).length = cs.length := by simp [updP]
theorem updP_get (P : Nat → Bool) (f : Nat → Ce → Ce) (cs : List Ce) (k : Nat) : (updP P f cs)[k]? = (cs[k]?).map (fun c => if P k then f k c else c) := by
 unfold updP; rw [List.getElem?_mapIdx]
theorem updP_congr {P Q : Nat → Bool} {f : Nat → Ce → Ce} {cs : List Ce} (h : ∀ k, k < cs.length → P k = Q k) : updP P f cs = updP Q f cs := by
 apply List.ext_getElem?
 intro k
 rw [updP_get, updP_get]
 by_cases hk : k < cs.length
 ·rw [h k hk]
 ·rw [List.getElem?_eq_none (by omega)]; rfl
theorem updP_none {P : Nat → Bool} {f : Nat → Ce → Ce} {cs : List Ce} (h : ∀ k, k < cs.length → P k = false) : updP P f cs = cs := by
 apply List.ext_getElem?
 intro k
 rw [updP_get]
 by_cases hk : k < cs.length
 ·rw [h k hk]; simp
 ·rw [List.getElem?_eq_none (by omega)]; rfl
theorem updP_set {P Q : Nat → Bool} {f : Nat → Ce → Ce} {cs : List Ce} {k : Nat} {c : Ce} (hk : cs[k]? = some c) (hQ : ∀ j, j < cs.length → Q j = (P j || j == k)) : (updP P f cs).set k (f k c) = updP Q f cs := by
 apply List.ext_getElem?
 intro j
 have hkl := (List.getElem?_eq_some_iff.1 hk).1; rw [List.getElem?_set, updP_len, updP_get, updP_get]
 by_cases hj : j < cs.length
 ·rw [hQ j hj]
  by_cases hkj : k = j
  ·subst hkj
   rw [if_pos rfl, if_pos hkl, hk]
   simp
  ·have : (j == k) = false := by simp; omega
   rw [if_neg hkj, this, Bool.or_false]
 ·rw [List.getElem?_eq_none (show cs.length ≤ j by omega)]
  have : ¬ k = j := by omega
  simp [this]
def strokeD (W : Nat) (s : St) (g : List (List Gl)) (q : Re) (cs : List Ce) : List Ce :=
 updP (fun k => hasR q ((k % W : Nat) : Int) ((k / W : Nat) : Int)) (fun k c => madeC c s g ((k % W : Nat) : Int) ((k / W : Nat) : Int)) cs
def drwGo (W : Nat) (gf : ByteArray → List (List Gl)) : List Ce → List St → List Re → List Ce
 | cs, s :: ss, r :: rs => drwGo W gf (strokeD W s (gf s.text) r cs) ss rs
 | cs, _, _ => cs
theorem strokeD_len (W : Nat) (s : St) (g : List (List Gl)) (q : Re) (cs : List Ce) : (strokeD W s g q cs).length = cs.length := updP_len _ _ _
theorem drwGo_len (W : Nat) (gf : ByteArray → List (List Gl)) : ∀ (cs : List Ce) (ss : List St) (rs : List Re), (drwGo W gf cs ss rs).length = cs.length
 | cs, s :: ss, r :: rs => by rw [drwGo, drwGo_len W gf _ ss rs, strokeD_len]
 | cs, [], _ => by rw [drwGo]; simp
 | cs, _ :: _, [] => by rw [drwGo]; simp
theorem drwGo_step {W : Nat} {gf : ByteArray → List (List Gl)} {ss : List St} {rs : List Re} {i : Nat} {s : St} {r : Re} (hs : ss[i]? = some s) (hr : rs[i]? = some r) (cs : List Ce) : drwGo W gf cs (ss.drop i) (rs.drop i) = drwGo W gf (strokeD W s (gf s.text) r cs) (ss.drop (i + 1)) (rs.drop (i + 1)) := by
 rw [drop_get hs, drop_get hr, drwGo]
def upTo (W : Nat) (rx rw_ ry rh y x : Nat) (k : Nat) : Bool := decide (rx ≤ k % W) && decide (k % W < rx + rw_) && decide (ry ≤ k / W) && decide (k / W < ry + rh) && (decide (k / W < y) || (k / W == y && decide (k % W < x)))
theorem upTo_iff {W rx rw_ ry rh y x k : Nat} : upTo W rx rw_ ry rh y x k = true ↔ (rx ≤ k % W ∧ k % W < rx + rw_ ∧ ry ≤ k / W ∧ k / W < ry + rh ∧ (k / W < y ∨ (k / W = y ∧ k % W < x))) := by
 unfold upTo; simp only [Bool.and_eq_true, Bool.or_eq_true, decide_eq_true_eq, beq_iff_eq]
 constructor
 ·rintro ⟨⟨⟨⟨a, b⟩, c⟩, d⟩, e⟩; exact ⟨a, b, c, d, e⟩
 ·rintro ⟨a, b, c, d, e⟩; exact ⟨⟨⟨⟨a, b⟩, c⟩, d⟩, e⟩
theorem bool_ext {a b : Bool} (h : a = true ↔ b = true) : a = b := by cases a <;> cases b <;> simp_all
theorem upTo_start {W rx rw_ ry rh k : Nat} : upTo W rx rw_ ry rh ry rx k = false := by
 cases h : upTo W rx rw_ ry rh ry rx k
 ·rfl
 ·rw [upTo_iff] at h; omega
theorem upTo_step {W rx rw_ ry rh y x : Nat} (h1 : rx ≤ x) (h2 : x < rx + rw_) (h3 : ry ≤ y) (h4 : y < ry + rh) (h5 : x < W) (k : Nat) : upTo W rx rw_ ry rh y (x + 1) k = (upTo W rx rw_ ry rh y x k || k == y * W + x) := by
 have e1 : (y * W + x) / W = y := by rw [Nat.mul_comm, Nat.mul_add_div (by omega), Nat.div_eq_of_lt h5]; omega
 have e2 : (y * W + x) % W = x := by rw [Nat.mul_comm, Nat.mul_add_mod, Nat.mod_eq_of_lt h5]
 apply bool_ext
 rw [Bool.or_eq_true, upTo_iff, upTo_iff, beq_iff_eq]
 constructor
 ·rintro ⟨a, b, c, d, e⟩
  by_cases hx : k % W = x ∧ k / W = y
  ·right
   have := Nat.div_add_mod k W; rw [hx.1, hx.2, Nat.mul_comm] at this; exact this.symm
  ·left
   exact ⟨a, b, c, d, by omega⟩
 ·rintro (⟨a, b, c, d, e⟩ | rfl)
  ·exact ⟨a, b, c, d, by omega⟩
  ·rw [e1, e2]; exact ⟨h1, h2, h3, h4, by omega⟩
theorem upTo_row {W rx rw_ ry rh y : Nat} (k : Nat) : upTo W rx rw_ ry rh (y + 1) rx k = upTo W rx rw_ ry rh y (rx + rw_) k := by
 apply bool_ext
 rw [upTo_iff, upTo_iff]
 constructor
 ·rintro ⟨a, b, c, d, e⟩; exact ⟨a, b, c, d, by omega⟩
 ·rintro ⟨a, b, c, d, e⟩; exact ⟨a, b, c, d, by omega⟩
theorem upTo_end {W rx rw_ ry rh : Nat} (k : Nat) : upTo W rx rw_ ry rh (ry + rh) rx k = (decide (rx ≤ k % W) && decide (k % W < rx + rw_) && decide (ry ≤ k / W) && decide (k / W < ry + rh)) := by
 apply bool_ext
 rw [upTo_iff]; simp only [Bool.and_eq_true, decide_eq_true_eq]
 constructor
 ·rintro ⟨a, b, c, d, e⟩; exact ⟨⟨⟨a, b⟩, c⟩, d⟩
 ·rintro ⟨⟨⟨a, b⟩, c⟩, d⟩; exact ⟨a, b, c, d, by omega⟩
/-! ### a whole cell of an own row -/
theorem cgrown_set {w0 w : World} {g : Nat} (h : w0.grownBy w (some g)) (o : Nat) (u : Value) : w0.grownBy (w.setCell ⟨g, o, none⟩ u) (some g) := by
 refine ⟨h.os, h.tape, h.output, by simpa using h.size, fun k hk hne => ?_⟩; rw [heap_setCell_other _ _ _ _ (fun e => hne (by simpa using congrArg some e))]; exact h.block k hk hne
theorem OwnsC.put1 {w : World} {base g n cap k i : Nat} {cs : List Ce} {c c' : Ce} {u : Value} (h : OwnsC base w (.slice (some ⟨g, 0, none⟩) n cap) cs) (hn : cs.length = n) (hk : cs[k]? = some c) (hi : i < 11) (he : c.enc.set i u = c'.enc) :
  OwnsC base (w.setCell ⟨g, k * 11 + i, none⟩ u) (.slice (some ⟨g, 0, none⟩) n cap) (cs.set k c') ∧ (cs.set k c').length = n ∧ (cs.set k c')[k]? = some c' := by
 have hkl := (List.getElem?_eq_some_iff.1 hk).1; refine ⟨?_, by simpa using hn, by rw [List.getElem?_set, if_pos rfl, if_pos hkl]⟩; unfold OwnsC at *; rw [List.length_set, ← flat_set Ce.enc_len i u c c' hi he cs k hk]; rw [hn] at h ⊢; exact own_put h (by omega) u
theorem OwnsC.put {w : World} {base g n cap k : Nat} {cs : List Ce} {c : Ce} (h : OwnsC base w (.slice (some ⟨g, 0, none⟩) n cap) cs) (hn : cs.length = n) (hk : cs[k]? = some c) (r : Ce) :
  OwnsC base ((((((((((((w).setCell ⟨g, k * 11, none⟩ (.int .i32 r.rune)).setCell ⟨g, k * 11 + 1, none⟩ (.int .u8 r.col.r)).setCell ⟨g, k * 11 + 2, none⟩ (.int .u8 r.col.g)).setCell ⟨g, k * 11 + 3, none⟩ (.int .u8 r.col.b)).setCell ⟨g, k * 11 + 4, none⟩ (.int .u8 r.col.a)).setCell ⟨g, k * 11 + 5, none⟩ (.int .u8 r.back.r)).setCell ⟨g, k * 11 + 6, none⟩ (.int .u8 r.back.g)).setCell ⟨g, k * 11 + 7, none⟩ (.int .u8 r.back.b)).setCell ⟨g, k * 11 + 8, none⟩ (.int .u8 r.back.a)).setCell ⟨g, k * 11 + 9, none⟩ (.bool r.wide)).setCell ⟨g, k * 11 + 10, none⟩ (.bool r.tail)) (.slice (some ⟨g, 0, none⟩) n cap) (cs.set k r) := by
 obtain ⟨ru, ⟨c0, c1, c2, c3⟩, ⟨d0, d1, d2, d3⟩, wi, ta⟩ := c; obtain ⟨ru', ⟨c0', c1', c2', c3'⟩, ⟨d0', d1', d2', d3'⟩, wi', ta'⟩ := r; dsimp only; obtain ⟨h0, n0, k0⟩ := h.put1 hn hk (i := 0) (u := .int .i32 ru') (c' := ⟨ru', ⟨c0, c1, c2, c3⟩, ⟨d0, d1, d2, d3⟩, wi, ta⟩) (by omega) rfl; obtain ⟨h1, n1, k1⟩ := h0.put1 n0 k0 (i := 1) (u := .int .u8 c0') (c' := ⟨ru', ⟨c0', c1, c2, c3⟩, ⟨d0, d1, d2, d3⟩, wi, ta⟩) (by omega) rfl; obtain ⟨h2, n2, k2⟩ := h1.put1 n1 k1 (i := 2) (u := .int .u8 c1') (c' := ⟨ru', ⟨c0', c1', c2, c3⟩, ⟨d0, d1, d2, d3⟩, wi, ta⟩) (by omega) rfl; obtain ⟨h3, n3, k3⟩ := h2.put1 n2 k2 (i := 3) (u := .int .u8 c2') (c' := ⟨ru', ⟨c0', c1', c2', c3⟩, ⟨d0, d1, d2, d3⟩, wi, ta⟩) (by omega) rfl
 obtain ⟨h4, n4, k4⟩ := h3.put1 n3 k3 (i := 4) (u := .int .u8 c3') (c' := ⟨ru', ⟨c0', c1', c2', c3'⟩, ⟨d0, d1, d2, d3⟩, wi, ta⟩) (by omega) rfl; obtain ⟨h5, n5, k5⟩ := h4.put1 n4 k4 (i := 5) (u := .int .u8 d0') (c' := ⟨ru', ⟨c0', c1', c2', c3'⟩, ⟨d0', d1, d2, d3⟩, wi, ta⟩) (by omega) rfl; obtain ⟨h6, n6, k6⟩ := h5.put1 n5 k5 (i := 6) (u := .int .u8 d1') (c' := ⟨ru', ⟨c0', c1', c2', c3'⟩, ⟨d0', d1', d2, d3⟩, wi, ta⟩) (by omega) rfl; obtain ⟨h7, n7, k7⟩ := h6.put1 n6 k6 (i := 7) (u := .int .u8 d2') (c' := ⟨ru', ⟨c0', c1', c2', c3'⟩, ⟨d0', d1', d2', d3⟩, wi, ta⟩) (by omega) rfl; obtain ⟨h8, n8, k8⟩ := h7.put1 n7 k7 (i := 8) (u := .int .u8 d3') (c' := ⟨ru', ⟨c0', c1', c2', c3'⟩, ⟨d0', d1', d2', d3'⟩, wi, ta⟩) (by omega) rfl
 obtain ⟨h9, n9, k9⟩ := h8.put1 n8 k8 (i := 9) (u := .bool wi') (c' := ⟨ru', ⟨c0', c1', c2', c3'⟩, ⟨d0', d1', d2', d3'⟩, wi', ta⟩) (by omega) rfl; obtain ⟨h10, n10, k10⟩ := h9.put1 n9 k9 (i := 10) (u := .bool ta') (c' := ⟨ru', ⟨c0', c1', c2', c3'⟩, ⟨d0', d1', d2', d3'⟩, wi', ta'⟩) (by omega) rfl; simp only [List.set_set, Nat.add_zero] at h10; exact h10
theorem cgrown_put {w0 w : World} {g : Nat} (h : w0.grownBy w (some g)) (o : Nat) (v0 v1 v2 v3 v4 v5 v6 v7 v8 v9 v10 : Value) : w0.grownBy ((((((((((((w).setCell ⟨g, o, none⟩ v0).setCell ⟨g, o + 1, none⟩ v1).setCell ⟨g, o + 2, none⟩ v2).setCell ⟨g, o + 3, none⟩ v3).setCell ⟨g, o + 4, none⟩ v4).setCell ⟨g, o + 5, none⟩ v5).setCell ⟨g, o + 6, none⟩ v6).setCell ⟨g, o + 7, none⟩ v7).setCell ⟨g, o + 8, none⟩ v8).setCell ⟨g, o + 9, none⟩ v9).setCell ⟨g, o + 10, none⟩ v10) (some g) :=
 cgrown_set (cgrown_set (cgrown_set (cgrown_set (cgrown_set (cgrown_set (cgrown_set (cgrown_set (cgrown_set (cgrown_set (cgrown_set h _ _) _ _) _ _) _ _) _ _) _ _) _ _) _ _) _ _) _ _) _ _
section
section
def mis1 (s : St) : Bool := decide (s.kind < 1) || (decide (s.kind > 5) || (decide (s.node < 0) || (decide (s.node > 1048576) || decide ((s.text.size : Int) > 65536))))
def mis2 (s : St) : Bool := (!(s.kind == 3) && (!(s.text.toList == []) || !(s.back.eqb Co.none))) || ((((s.kind == 4) || (s.kind == 5)) && !(s.col.eqb Co.none)) || ((s.kind == 5) && !(s.rect.eqb Re.none)))
def errS (s : St) : Int := if mis1 s || mis2 s then 2 else if mayR s.rect then 0 else 5
theorem eql_colour (w : World) (a b c e a' b' c' e' : Int) : (binOp .eql 34 (.agg #[.int .u8 (a), .int .u8 (b), .int .u8 (c), .int .u8 (e)]) (.agg #[.int .u8 (a'), .int .u8 (b'), .int .u8 (c'), .int .u8 (e')])).run Tryz.prog w = .ok (.bool (eq4 a b c e a' b' c' e')) w := by
 rw [run_eql_struct, eq_colour 9998]
 rfl
theorem neq_colour (w : World) (a b c e a' b' c' e' : Int) : (binOp .neq 34 (.agg #[.int .u8 (a), .int .u8 (b), .int .u8 (c), .int .u8 (e)]) (.agg #[.int .u8 (a'), .int .u8 (b'), .int .u8 (c'), .int .u8 (e')])).run Tryz.prog w = .ok (.bool (!eq4 a b c e a' b' c' e')) w := by
 rw [run_neq_struct, eq_colour 9998]
 rfl
attribute [local go_sem high] eql_colour neq_colour neq_rect
theorem one_any (s : St) (w : World) (hs : s.Wf) : Calls Tryz.prog 46 #[.agg #[.int .u8 (s).kind, .int .i64 (s).rect.x, .int .i64 (s).rect.y, .int .i64 (s).rect.wd, .int .i64 (s).rect.ht, .int .u8 (s).col.r, .int .u8 (s).col.g, .int .u8 (s).col.b, .int .u8 (s).col.a, .int .u8 (s).back.r, .int .u8 (s).back.g, .int .u8 (s).back.b, .int .u8 (s).back.a, .string (s).text, .int .i64 (s).node]] w fun e w' => e = .returned (.int .i64 (errS s)) ∧ Below w.heap.size w w' := by
 obtain ⟨kd, ⟨x, y, wd, ht⟩, ⟨c0, c1, c2, c3⟩, ⟨b0, b1, b2, b3⟩, tx, nd⟩ := s; obtain ⟨h1, h2, h3, h4, h5, h6⟩ := hs
 have M := fun w => may_any ⟨x, y, wd, ht⟩ w h2
 obtain ⟨hk0, hk1⟩ := h1; obtain ⟨hn0, hn1⟩ := h6; simp only [maxLen] at h5 hk0 hk1 hn0 hn1; replace M := hdh M; clear h2 h3 h4
 by_cases g0 : kd < 1
 ·have E : errS ⟨kd, ⟨x, y, wd, ht⟩, ⟨c0, c1, c2, c3⟩, ⟨b0, b1, b2, b3⟩, tx, nd⟩ = 2 := by simp [errS, mis1, g0]
  obtain rfl : kd = 0 := by omega
  clear g0; rw [E]; clear E
  go_enter Tryz.func46, Tryz.ntmps46
  go_wp2_with (first | (go_at_call 92; (with_reducible refine cmm (M.out _) fun w1 hb1 => ?_); obtain ⟨hc1, hf1, hz1⟩ := bzz hb1; (try simp at hz1); (try have lt1 : w.heap.size < w1.heap.size := (by omega))))
  all_goals (go_ret; exact ⟨rfl, belt⟩)
 by_cases g1 : 5 < kd
 ·have E : errS ⟨kd, ⟨x, y, wd, ht⟩, ⟨c0, c1, c2, c3⟩, ⟨b0, b1, b2, b3⟩, tx, nd⟩ = 2 := by simp [errS, mis1, g1]
  have f0 : decide (kd < 1) = false := by simpa using g0
  have f1 : decide (5 < kd) = true := by simpa using g1
  have f2 : (kd == 3) = false := by simp; omega
  have f3 : (kd == 4) = false := by simp; omega
  have f4 : (kd == 5) = false := by simp; omega
  have f5 : ¬ kd = 3 := by omega
  have f6 : ¬ kd = 4 := by omega
  have f7 : ¬ kd = 5 := by omega
  rw [E]; clear E
  go_enter Tryz.func46, Tryz.ntmps46
  go_wp2_with (first | (go_at_call 92; (with_reducible refine cmm (M.out _) fun w1 hb1 => ?_); obtain ⟨hc1, hf1, hz1⟩ := bzz hb1; (try simp at hz1); (try have lt1 : w.heap.size < w1.heap.size := (by omega))))
  all_goals (go_ret; exact ⟨rfl, belt⟩)
 obtain rfl | rfl | rfl | rfl | rfl : kd = 1 ∨ kd = 2 ∨ kd = 3 ∨ kd = 4 ∨ kd = 5 := by omega
 ·by_cases m1 : nd < 0
  ·have E : errS (⟨1, ⟨x, y, wd, ht⟩, ⟨c0, c1, c2, c3⟩, ⟨b0, b1, b2, b3⟩, tx, nd⟩ : St) = 2 := by simp [errS, mis1, m1]
   rw [E]; clear E
   go_enter Tryz.func46, Tryz.ntmps46
   go_wp2_with (first | (go_at_call 92; (with_reducible refine cmm (M.out _) fun w1 hb1 => ?_); obtain ⟨hc1, hf1, hz1⟩ := bzz hb1; (try simp at hz1); (try have lt1 : w.heap.size < w1.heap.size := (by omega))))
   all_goals (go_ret; exact ⟨rfl, belt⟩)
  by_cases m2 : 1048576 < nd
  ·have E : errS (⟨1, ⟨x, y, wd, ht⟩, ⟨c0, c1, c2, c3⟩, ⟨b0, b1, b2, b3⟩, tx, nd⟩ : St) = 2 := by simp [errS, mis1, m2]
   rw [E]; clear E
   go_enter Tryz.func46, Tryz.ntmps46
   go_wp2_with (first | (go_at_call 92; (with_reducible refine cmm (M.out _) fun w1 hb1 => ?_); obtain ⟨hc1, hf1, hz1⟩ := bzz hb1; (try simp at hz1); (try have lt1 : w.heap.size < w1.heap.size := (by omega))))
   all_goals (go_ret; exact ⟨rfl, belt⟩)
  by_cases m3 : 65536 < (tx.size : Int)
  ·have E : errS (⟨1, ⟨x, y, wd, ht⟩, ⟨c0, c1, c2, c3⟩, ⟨b0, b1, b2, b3⟩, tx, nd⟩ : St) = 2 := by simp [errS, mis1, m3]
   rw [E]; clear E
   go_enter Tryz.func46, Tryz.ntmps46
   go_wp2_with (first | (go_at_call 92; (with_reducible refine cmm (M.out _) fun w1 hb1 => ?_); obtain ⟨hc1, hf1, hz1⟩ := bzz hb1; (try simp at hz1); (try have lt1 : w.heap.size < w1.heap.size := (by omega))))
   all_goals (go_ret; exact ⟨rfl, belt⟩)
  by_cases m4 : ¬ tx.toList = []
  ·have E : errS (⟨1, ⟨x, y, wd, ht⟩, ⟨c0, c1, c2, c3⟩, ⟨b0, b1, b2, b3⟩, tx, nd⟩ : St) = 2 := by simp [errS, mis2, m4]
   rw [E]; clear E
   go_enter Tryz.func46, Tryz.ntmps46
   go_wp2_with (first | (go_at_call 92; (with_reducible refine cmm (M.out _) fun w1 hb1 => ?_); obtain ⟨hc1, hf1, hz1⟩ := bzz hb1; (try simp at hz1); (try have lt1 : w.heap.size < w1.heap.size := (by omega))))
   all_goals (go_ret; exact ⟨rfl, belt⟩)
  replace m4 : tx.toList = [] := by simpa using m4
  cases m5 : eq4 b0 b1 b2 b3 0 0 0 0
  ·have E : errS (⟨1, ⟨x, y, wd, ht⟩, ⟨c0, c1, c2, c3⟩, ⟨b0, b1, b2, b3⟩, tx, nd⟩ : St) = 2 := by simp [errS, mis2, m5, Co.eqb, Co.none]
   rw [E]; clear E
   go_enter Tryz.func46, Tryz.ntmps46
   go_wp2_with (first | (go_at_call 92; (with_reducible refine cmm (M.out _) fun w1 hb1 => ?_); obtain ⟨hc1, hf1, hz1⟩ := bzz hb1; (try simp at hz1); (try have lt1 : w.heap.size < w1.heap.size := (by omega))))
   all_goals (go_ret; exact ⟨rfl, belt⟩)
  have m0 : ¬ (tx.size : Int) > 65536 := by omega
  cases hm : mayR ⟨x, y, wd, ht⟩ <;> rw [hm] at M
  ·have E : errS (⟨1, ⟨x, y, wd, ht⟩, ⟨c0, c1, c2, c3⟩, ⟨b0, b1, b2, b3⟩, tx, nd⟩ : St) = 5 := by simp [errS, mis1, mis2, hm, Co.eqb, Co.none, Re.eqb, Re.none, m1, m2, m4, m5]; omega
   rw [E]; clear E
   go_enter Tryz.func46, Tryz.ntmps46
   go_wp2_with (first | (go_at_call 92; (with_reducible refine cmm (M.out _) fun w1 hb1 => ?_); obtain ⟨hc1, hf1, hz1⟩ := bzz hb1; (try simp at hz1); (try have lt1 : w.heap.size < w1.heap.size := (by omega))))
   all_goals (go_ret; exact ⟨rfl, belt⟩)
  ·have E : errS (⟨1, ⟨x, y, wd, ht⟩, ⟨c0, c1, c2, c3⟩, ⟨b0, b1, b2, b3⟩, tx, nd⟩ : St) = 0 := by simp [errS, mis1, mis2, hm, Co.eqb, Co.none, Re.eqb, Re.none, m1, m2, m4, m5]; omega
   rw [E]; clear E
   go_enter Tryz.func46, Tryz.ntmps46
   go_wp2_with (first | (go_at_call 92; (with_reducible refine cmm (M.out _) fun w1 hb1 => ?_); obtain ⟨hc1, hf1, hz1⟩ := bzz hb1; (try simp at hz1); (try have lt1 : w.heap.size < w1.heap.size := (by omega))))
   all_goals (go_ret; exact ⟨rfl, belt⟩)
 ·by_cases m1 : nd < 0
  ·have E : errS (⟨2, ⟨x, y, wd, ht⟩, ⟨c0, c1, c2, c3⟩, ⟨b0, b1, b2, b3⟩, tx, nd⟩ : St) = 2 := by simp [errS, mis1, m1]
   rw [E]; clear E
   go_enter Tryz.func46, Tryz.ntmps46
   go_wp2_with (first | (go_at_call 92; (with_reducible refine cmm (M.out _) fun w1 hb1 => ?_); obtain ⟨hc1, hf1, hz1⟩ := bzz hb1; (try simp at hz1); (try have lt1 : w.heap.size < w1.heap.size := (by omega))))
   all_goals (go_ret; exact ⟨rfl, belt⟩)
  by_cases m2 : 1048576 < nd
  ·have E : errS (⟨2, ⟨x, y, wd, ht⟩, ⟨c0, c1, c2, c3⟩, ⟨b0, b1, b2, b3⟩, tx, nd⟩ : St) = 2 := by simp [errS, mis1, m2]
   rw [E]; clear E
   go_enter Tryz.func46, Tryz.ntmps46
   go_wp2_with (first | (go_at_call 92; (with_reducible refine cmm (M.out _) fun w1 hb1 => ?_); obtain ⟨hc1, hf1, hz1⟩ := bzz hb1; (try simp at hz1); (try have lt1 : w.heap.size < w1.heap.size := (by omega))))
   all_goals (go_ret; exact ⟨rfl, belt⟩)
  by_cases m3 : 65536 < (tx.size : Int)
  ·have E : errS (⟨2, ⟨x, y, wd, ht⟩, ⟨c0, c1, c2, c3⟩, ⟨b0, b1, b2, b3⟩, tx, nd⟩ : St) = 2 := by simp [errS, mis1, m3]
   rw [E]; clear E
   go_enter Tryz.func46, Tryz.ntmps46
   go_wp2_with (first | (go_at_call 92; (with_reducible refine cmm (M.out _) fun w1 hb1 => ?_); obtain ⟨hc1, hf1, hz1⟩ := bzz hb1; (try simp at hz1); (try have lt1 : w.heap.size < w1.heap.size := (by omega))))
   all_goals (go_ret; exact ⟨rfl, belt⟩)
  by_cases m4 : ¬ tx.toList = []
  ·have E : errS (⟨2, ⟨x, y, wd, ht⟩, ⟨c0, c1, c2, c3⟩, ⟨b0, b1, b2, b3⟩, tx, nd⟩ : St) = 2 := by simp [errS, mis2, m4]
   rw [E]; clear E
   go_enter Tryz.func46, Tryz.ntmps46
   go_wp2_with (first | (go_at_call 92; (with_reducible refine cmm (M.out _) fun w1 hb1 => ?_); obtain ⟨hc1, hf1, hz1⟩ := bzz hb1; (try simp at hz1); (try have lt1 : w.heap.size < w1.heap.size := (by omega))))
   all_goals (go_ret; exact ⟨rfl, belt⟩)
  replace m4 : tx.toList = [] := by simpa using m4
  cases m5 : eq4 b0 b1 b2 b3 0 0 0 0
  ·have E : errS (⟨2, ⟨x, y, wd, ht⟩, ⟨c0, c1, c2, c3⟩, ⟨b0, b1, b2, b3⟩, tx, nd⟩ : St) = 2 := by simp [errS, mis2, m5, Co.eqb, Co.none]
   rw [E]; clear E
   go_enter Tryz.func46, Tryz.ntmps46
   go_wp2_with (first | (go_at_call 92; (with_reducible refine cmm (M.out _) fun w1 hb1 => ?_); obtain ⟨hc1, hf1, hz1⟩ := bzz hb1; (try simp at hz1); (try have lt1 : w.heap.size < w1.heap.size := (by omega))))
   all_goals (go_ret; exact ⟨rfl, belt⟩)
  have m0 : ¬ (tx.size : Int) > 65536 := by omega
  cases hm : mayR ⟨x, y, wd, ht⟩ <;> rw [hm] at M
  ·have E : errS (⟨2, ⟨x, y, wd, ht⟩, ⟨c0, c1, c2, c3⟩, ⟨b0, b1, b2, b3⟩, tx, nd⟩ : St) = 5 := by simp [errS, mis1, mis2, hm, Co.eqb, Co.none, Re.eqb, Re.none, m1, m2, m4, m5]; omega
   rw [E]; clear E
   go_enter Tryz.func46, Tryz.ntmps46
   go_wp2_with (first | (go_at_call 92; (with_reducible refine cmm (M.out _) fun w1 hb1 => ?_); obtain ⟨hc1, hf1, hz1⟩ := bzz hb1; (try simp at hz1); (try have lt1 : w.heap.size < w1.heap.size := (by omega))))
   all_goals (go_ret; exact ⟨rfl, belt⟩)
  ·have E : errS (⟨2, ⟨x, y, wd, ht⟩, ⟨c0, c1, c2, c3⟩, ⟨b0, b1, b2, b3⟩, tx, nd⟩ : St) = 0 := by simp [errS, mis1, mis2, hm, Co.eqb, Co.none, Re.eqb, Re.none, m1, m2, m4, m5]; omega
   rw [E]; clear E
   go_enter Tryz.func46, Tryz.ntmps46
   go_wp2_with (first | (go_at_call 92; (with_reducible refine cmm (M.out _) fun w1 hb1 => ?_); obtain ⟨hc1, hf1, hz1⟩ := bzz hb1; (try simp at hz1); (try have lt1 : w.heap.size < w1.heap.size := (by omega))))
   all_goals (go_ret; exact ⟨rfl, belt⟩)
 ·by_cases m1 : nd < 0
  ·have E : errS (⟨3, ⟨x, y, wd, ht⟩, ⟨c0, c1, c2, c3⟩, ⟨b0, b1, b2, b3⟩, tx, nd⟩ : St) = 2 := by simp [errS, mis1, m1]
   rw [E]; clear E
   go_enter Tryz.func46, Tryz.ntmps46
   go_wp2_with (first | (go_at_call 92; (with_reducible refine cmm (M.out _) fun w1 hb1 => ?_); obtain ⟨hc1, hf1, hz1⟩ := bzz hb1; (try simp at hz1); (try have lt1 : w.heap.size < w1.heap.size := (by omega))))
   all_goals (go_ret; exact ⟨rfl, belt⟩)
  by_cases m2 : 1048576 < nd
  ·have E : errS (⟨3, ⟨x, y, wd, ht⟩, ⟨c0, c1, c2, c3⟩, ⟨b0, b1, b2, b3⟩, tx, nd⟩ : St) = 2 := by simp [errS, mis1, m2]
   rw [E]; clear E
   go_enter Tryz.func46, Tryz.ntmps46
   go_wp2_with (first | (go_at_call 92; (with_reducible refine cmm (M.out _) fun w1 hb1 => ?_); obtain ⟨hc1, hf1, hz1⟩ := bzz hb1; (try simp at hz1); (try have lt1 : w.heap.size < w1.heap.size := (by omega))))
   all_goals (go_ret; exact ⟨rfl, belt⟩)
  by_cases m3 : 65536 < (tx.size : Int)
  ·have E : errS (⟨3, ⟨x, y, wd, ht⟩, ⟨c0, c1, c2, c3⟩, ⟨b0, b1, b2, b3⟩, tx, nd⟩ : St) = 2 := by simp [errS, mis1, m3]
   rw [E]; clear E
   go_enter Tryz.func46, Tryz.ntmps46
   go_wp2_with (first | (go_at_call 92; (with_reducible refine cmm (M.out _) fun w1 hb1 => ?_); obtain ⟨hc1, hf1, hz1⟩ := bzz hb1; (try simp at hz1); (try have lt1 : w.heap.size < w1.heap.size := (by omega))))
   all_goals (go_ret; exact ⟨rfl, belt⟩)
  have m0 : ¬ (tx.size : Int) > 65536 := by omega
  cases hm : mayR ⟨x, y, wd, ht⟩ <;> rw [hm] at M
  ·have E : errS (⟨3, ⟨x, y, wd, ht⟩, ⟨c0, c1, c2, c3⟩, ⟨b0, b1, b2, b3⟩, tx, nd⟩ : St) = 5 := by simp [errS, mis1, mis2, hm, Co.eqb, Co.none, Re.eqb, Re.none, m1, m2, m1]; omega
   rw [E]; clear E
   go_enter Tryz.func46, Tryz.ntmps46
   go_wp2_with (first | (go_at_call 92; (with_reducible refine cmm (M.out _) fun w1 hb1 => ?_); obtain ⟨hc1, hf1, hz1⟩ := bzz hb1; (try simp at hz1); (try have lt1 : w.heap.size < w1.heap.size := (by omega))))
   all_goals (go_ret; exact ⟨rfl, belt⟩)
  ·have E : errS (⟨3, ⟨x, y, wd, ht⟩, ⟨c0, c1, c2, c3⟩, ⟨b0, b1, b2, b3⟩, tx, nd⟩ : St) = 0 := by simp [errS, mis1, mis2, hm, Co.eqb, Co.none, Re.eqb, Re.none, m1, m2, m1]; omega
   rw [E]; clear E
   go_enter Tryz.func46, Tryz.ntmps46
   go_wp2_with (first | (go_at_call 92; (with_reducible refine cmm (M.out _) fun w1 hb1 => ?_); obtain ⟨hc1, hf1, hz1⟩ := bzz hb1; (try simp at hz1); (try have lt1 : w.heap.size < w1.heap.size := (by omega))))
   all_goals (go_ret; exact ⟨rfl, belt⟩)
 ·by_cases m1 : nd < 0
  ·have E : errS (⟨4, ⟨x, y, wd, ht⟩, ⟨c0, c1, c2, c3⟩, ⟨b0, b1, b2, b3⟩, tx, nd⟩ : St) = 2 := by simp [errS, mis1, m1]
   rw [E]; clear E
   go_enter Tryz.func46, Tryz.ntmps46
   go_wp2_with (first | (go_at_call 92; (with_reducible refine cmm (M.out _) fun w1 hb1 => ?_); obtain ⟨hc1, hf1, hz1⟩ := bzz hb1; (try simp at hz1); (try have lt1 : w.heap.size < w1.heap.size := (by omega))))
   all_goals (go_ret; exact ⟨rfl, belt⟩)
  by_cases m2 : 1048576 < nd
  ·have E : errS (⟨4, ⟨x, y, wd, ht⟩, ⟨c0, c1, c2, c3⟩, ⟨b0, b1, b2, b3⟩, tx, nd⟩ : St) = 2 := by simp [errS, mis1, m2]
   rw [E]; clear E
   go_enter Tryz.func46, Tryz.ntmps46
   go_wp2_with (first | (go_at_call 92; (with_reducible refine cmm (M.out _) fun w1 hb1 => ?_); obtain ⟨hc1, hf1, hz1⟩ := bzz hb1; (try simp at hz1); (try have lt1 : w.heap.size < w1.heap.size := (by omega))))
   all_goals (go_ret; exact ⟨rfl, belt⟩)
  by_cases m3 : 65536 < (tx.size : Int)
  ·have E : errS (⟨4, ⟨x, y, wd, ht⟩, ⟨c0, c1, c2, c3⟩, ⟨b0, b1, b2, b3⟩, tx, nd⟩ : St) = 2 := by simp [errS, mis1, m3]
   rw [E]; clear E
   go_enter Tryz.func46, Tryz.ntmps46
   go_wp2_with (first | (go_at_call 92; (with_reducible refine cmm (M.out _) fun w1 hb1 => ?_); obtain ⟨hc1, hf1, hz1⟩ := bzz hb1; (try simp at hz1); (try have lt1 : w.heap.size < w1.heap.size := (by omega))))
   all_goals (go_ret; exact ⟨rfl, belt⟩)
  by_cases m4 : ¬ tx.toList = []
  ·have E : errS (⟨4, ⟨x, y, wd, ht⟩, ⟨c0, c1, c2, c3⟩, ⟨b0, b1, b2, b3⟩, tx, nd⟩ : St) = 2 := by simp [errS, mis2, m4]
   rw [E]; clear E
   go_enter Tryz.func46, Tryz.ntmps46
   go_wp2_with (first | (go_at_call 92; (with_reducible refine cmm (M.out _) fun w1 hb1 => ?_); obtain ⟨hc1, hf1, hz1⟩ := bzz hb1; (try simp at hz1); (try have lt1 : w.heap.size < w1.heap.size := (by omega))))
   all_goals (go_ret; exact ⟨rfl, belt⟩)
  replace m4 : tx.toList = [] := by simpa using m4
  cases m5 : eq4 b0 b1 b2 b3 0 0 0 0
  ·have E : errS (⟨4, ⟨x, y, wd, ht⟩, ⟨c0, c1, c2, c3⟩, ⟨b0, b1, b2, b3⟩, tx, nd⟩ : St) = 2 := by simp [errS, mis2, m5, Co.eqb, Co.none]
   rw [E]; clear E
   go_enter Tryz.func46, Tryz.ntmps46
   go_wp2_with (first | (go_at_call 92; (with_reducible refine cmm (M.out _) fun w1 hb1 => ?_); obtain ⟨hc1, hf1, hz1⟩ := bzz hb1; (try simp at hz1); (try have lt1 : w.heap.size < w1.heap.size := (by omega))))
   all_goals (go_ret; exact ⟨rfl, belt⟩)
  cases m6 : eq4 c0 c1 c2 c3 0 0 0 0
  ·have E : errS (⟨4, ⟨x, y, wd, ht⟩, ⟨c0, c1, c2, c3⟩, ⟨b0, b1, b2, b3⟩, tx, nd⟩ : St) = 2 := by simp [errS, mis2, m6, Co.eqb, Co.none]
   rw [E]; clear E
   go_enter Tryz.func46, Tryz.ntmps46
   go_wp2_with (first | (go_at_call 92; (with_reducible refine cmm (M.out _) fun w1 hb1 => ?_); obtain ⟨hc1, hf1, hz1⟩ := bzz hb1; (try simp at hz1); (try have lt1 : w.heap.size < w1.heap.size := (by omega))))
   all_goals (go_ret; exact ⟨rfl, belt⟩)
  have m0 : ¬ (tx.size : Int) > 65536 := by omega
  cases hm : mayR ⟨x, y, wd, ht⟩ <;> rw [hm] at M
  ·have E : errS (⟨4, ⟨x, y, wd, ht⟩, ⟨c0, c1, c2, c3⟩, ⟨b0, b1, b2, b3⟩, tx, nd⟩ : St) = 5 := by simp [errS, mis1, mis2, hm, Co.eqb, Co.none, Re.eqb, Re.none, m1, m2, m4, m5, m6]; omega
   rw [E]; clear E
   go_enter Tryz.func46, Tryz.ntmps46
   go_wp2_with (first | (go_at_call 92; (with_reducible refine cmm (M.out _) fun w1 hb1 => ?_); obtain ⟨hc1, hf1, hz1⟩ := bzz hb1; (try simp at hz1); (try have lt1 : w.heap.size < w1.heap.size := (by omega))))
   all_goals (go_ret; exact ⟨rfl, belt⟩)
  ·have E : errS (⟨4, ⟨x, y, wd, ht⟩, ⟨c0, c1, c2, c3⟩, ⟨b0, b1, b2, b3⟩, tx, nd⟩ : St) = 0 := by simp [errS, mis1, mis2, hm, Co.eqb, Co.none, Re.eqb, Re.none, m1, m2, m4, m5, m6]; omega
   rw [E]; clear E
   go_enter Tryz.func46, Tryz.ntmps46
   go_wp2_with (first | (go_at_call 92; (with_reducible refine cmm (M.out _) fun w1 hb1 => ?_); obtain ⟨hc1, hf1, hz1⟩ := bzz hb1; (try simp at hz1); (try have lt1 : w.heap.size < w1.heap.size := (by omega))))
   all_goals (go_ret; exact ⟨rfl, belt⟩)
 ·by_cases m1 : nd < 0
  ·have E : errS (⟨5, ⟨x, y, wd, ht⟩, ⟨c0, c1, c2, c3⟩, ⟨b0, b1, b2, b3⟩, tx, nd⟩ : St) = 2 := by simp [errS, mis1, m1]
   rw [E]; clear E
   go_enter Tryz.func46, Tryz.ntmps46
   go_wp2_with (first | (go_at_call 92; (with_reducible refine cmm (M.out _) fun w1 hb1 => ?_); obtain ⟨hc1, hf1, hz1⟩ := bzz hb1; (try simp at hz1); (try have lt1 : w.heap.size < w1.heap.size := (by omega))))
   all_goals (go_ret; exact ⟨rfl, belt⟩)
  by_cases m2 : 1048576 < nd
  ·have E : errS (⟨5, ⟨x, y, wd, ht⟩, ⟨c0, c1, c2, c3⟩, ⟨b0, b1, b2, b3⟩, tx, nd⟩ : St) = 2 := by simp [errS, mis1, m2]
   rw [E]; clear E
   go_enter Tryz.func46, Tryz.ntmps46
   go_wp2_with (first | (go_at_call 92; (with_reducible refine cmm (M.out _) fun w1 hb1 => ?_); obtain ⟨hc1, hf1, hz1⟩ := bzz hb1; (try simp at hz1); (try have lt1 : w.heap.size < w1.heap.size := (by omega))))
   all_goals (go_ret; exact ⟨rfl, belt⟩)
  by_cases m3 : 65536 < (tx.size : Int)
  ·have E : errS (⟨5, ⟨x, y, wd, ht⟩, ⟨c0, c1, c2, c3⟩, ⟨b0, b1, b2, b3⟩, tx, nd⟩ : St) = 2 := by simp [errS, mis1, m3]
   rw [E]; clear E
   go_enter Tryz.func46, Tryz.ntmps46
   go_wp2_with (first | (go_at_call 92; (with_reducible refine cmm (M.out _) fun w1 hb1 => ?_); obtain ⟨hc1, hf1, hz1⟩ := bzz hb1; (try simp at hz1); (try have lt1 : w.heap.size < w1.heap.size := (by omega))))
   all_goals (go_ret; exact ⟨rfl, belt⟩)
  by_cases m4 : ¬ tx.toList = []
  ·have E : errS (⟨5, ⟨x, y, wd, ht⟩, ⟨c0, c1, c2, c3⟩, ⟨b0, b1, b2, b3⟩, tx, nd⟩ : St) = 2 := by simp [errS, mis2, m4]
   rw [E]; clear E
   go_enter Tryz.func46, Tryz.ntmps46
   go_wp2_with (first | (go_at_call 92; (with_reducible refine cmm (M.out _) fun w1 hb1 => ?_); obtain ⟨hc1, hf1, hz1⟩ := bzz hb1; (try simp at hz1); (try have lt1 : w.heap.size < w1.heap.size := (by omega))))
   all_goals (go_ret; exact ⟨rfl, belt⟩)
  replace m4 : tx.toList = [] := by simpa using m4
  cases m5 : eq4 b0 b1 b2 b3 0 0 0 0
  ·have E : errS (⟨5, ⟨x, y, wd, ht⟩, ⟨c0, c1, c2, c3⟩, ⟨b0, b1, b2, b3⟩, tx, nd⟩ : St) = 2 := by simp [errS, mis2, m5, Co.eqb, Co.none]
   rw [E]; clear E
   go_enter Tryz.func46, Tryz.ntmps46
   go_wp2_with (first | (go_at_call 92; (with_reducible refine cmm (M.out _) fun w1 hb1 => ?_); obtain ⟨hc1, hf1, hz1⟩ := bzz hb1; (try simp at hz1); (try have lt1 : w.heap.size < w1.heap.size := (by omega))))
   all_goals (go_ret; exact ⟨rfl, belt⟩)
  cases m6 : eq4 c0 c1 c2 c3 0 0 0 0
  ·have E : errS (⟨5, ⟨x, y, wd, ht⟩, ⟨c0, c1, c2, c3⟩, ⟨b0, b1, b2, b3⟩, tx, nd⟩ : St) = 2 := by simp [errS, mis2, m6, Co.eqb, Co.none]
   rw [E]; clear E
   go_enter Tryz.func46, Tryz.ntmps46
   go_wp2_with (first | (go_at_call 92; (with_reducible refine cmm (M.out _) fun w1 hb1 => ?_); obtain ⟨hc1, hf1, hz1⟩ := bzz hb1; (try simp at hz1); (try have lt1 : w.heap.size < w1.heap.size := (by omega))))
   all_goals (go_ret; exact ⟨rfl, belt⟩)
  cases m7 : eq4 x y wd ht 0 0 0 0
  ·have E : errS (⟨5, ⟨x, y, wd, ht⟩, ⟨c0, c1, c2, c3⟩, ⟨b0, b1, b2, b3⟩, tx, nd⟩ : St) = 2 := by simp [errS, mis2, m7, Re.eqb, Re.none]
   rw [E]; clear E
   go_enter Tryz.func46, Tryz.ntmps46
   go_wp2_with (first | (go_at_call 92; (with_reducible refine cmm (M.out _) fun w1 hb1 => ?_); obtain ⟨hc1, hf1, hz1⟩ := bzz hb1; (try simp at hz1); (try have lt1 : w.heap.size < w1.heap.size := (by omega))))
   all_goals (go_ret; exact ⟨rfl, belt⟩)
  have m0 : ¬ (tx.size : Int) > 65536 := by omega
  cases hm : mayR ⟨x, y, wd, ht⟩ <;> rw [hm] at M
  ·have E : errS (⟨5, ⟨x, y, wd, ht⟩, ⟨c0, c1, c2, c3⟩, ⟨b0, b1, b2, b3⟩, tx, nd⟩ : St) = 5 := by simp [errS, mis1, mis2, hm, Co.eqb, Co.none, Re.eqb, Re.none, m1, m2, m4, m5, m6, m7]; omega
   rw [E]; clear E
   go_enter Tryz.func46, Tryz.ntmps46
   go_wp2_with (first | (go_at_call 92; (with_reducible refine cmm (M.out _) fun w1 hb1 => ?_); obtain ⟨hc1, hf1, hz1⟩ := bzz hb1; (try simp at hz1); (try have lt1 : w.heap.size < w1.heap.size := (by omega))))
   all_goals (go_ret; exact ⟨rfl, belt⟩)
  ·have E : errS (⟨5, ⟨x, y, wd, ht⟩, ⟨c0, c1, c2, c3⟩, ⟨b0, b1, b2, b3⟩, tx, nd⟩ : St) = 0 := by simp [errS, mis1, mis2, hm, Co.eqb, Co.none, Re.eqb, Re.none, m1, m2, m4, m5, m6, m7]; omega
   rw [E]; clear E
   go_enter Tryz.func46, Tryz.ntmps46
   go_wp2_with (first | (go_at_call 92; (with_reducible refine cmm (M.out _) fun w1 hb1 => ?_); obtain ⟨hc1, hf1, hz1⟩ := bzz hb1; (try simp at hz1); (try have lt1 : w.heap.size < w1.heap.size := (by omega))))
   all_goals (go_ret; exact ⟨rfl, belt⟩)
end
end
end Go.Proofs.YtfcphagmjijmkaaGreatDoor
