/-
  A stroke's line, by both.
-/
import Derived.Test.YtpbolbpenkfpiaaDoorVecH
import Derived.Test.YtpbolbpenkfpiaaDoorVm
namespace Go.Proofs.YtpbolbpenkfpiaaDoor
open Go.RowKit
set_option linter.unusedVariables false
attribute [local go_sem] vwp vUpon_value vUpon_skip vUpon_enter vUpon_row
set_option linter.unusedSimpArgs false
set_option linter.unusedVariables false
def colN (c : Co) : Nib := ⟨(c.r / 16).toNat, (c.r % 16).toNat, (c.g / 16).toNat, (c.g % 16).toNat, (c.b / 16).toNat, (c.b % 16).toNat, (c.a / 16).toNat, (c.a % 16).toNat⟩
theorem colN_of {c : Co} (h : c.Wf) : (colN c).Of c.r c.g c.b c.a := ⟨nib1 _ h.1, nib1 _ h.2.1, nib1 _ h.2.2.1, nib1 _ h.2.2.2⟩
def colS (c : Co) : ByteArray := (colN c).tx
theorem col_size (c : Co) : (colS c).size ≤ 9 := by
  unfold colS Nib.tx
  split
  · split
    · show 4 ≤ 9; omega
    · show 7 ≤ 9; omega
  · show 9 ≤ 9; omega
theorem esc_size (s : ByteArray) : (escS s).size ≤ 4 * s.size := by
  have := escL_len s.data.toList
  show (escL s.data.toList).toArray.size ≤ _
  simp at this ⊢
  exact this
def lineS (s : St) : ByteArray :=
  if s.kind = 1 then ⟨#[60, 102, 105, 108, 108]⟩ ++ rectS s.rect ++ fldS ⟨#[99]⟩ (colS s.col) ++ fldS ⟨#[110]⟩ (numS s.node) ++ ⟨#[47, 62, 10]⟩
  else if s.kind = 2 then ⟨#[60, 102, 114, 97, 109, 101]⟩ ++ rectS s.rect ++ fldS ⟨#[99]⟩ (colS s.col) ++ fldS ⟨#[110]⟩ (numS s.node) ++ ⟨#[47, 62, 10]⟩
  else if s.kind = 3 then ⟨#[60, 119, 114, 105, 116, 101]⟩ ++ rectS s.rect ++ fldS ⟨#[99]⟩ (colS s.col) ++ fldS ⟨#[98]⟩ (colS s.back) ++ fldS ⟨#[110]⟩ (numS s.node) ++ ⟨#[62]⟩ ++ escS s.text ++ ⟨#[60, 47, 119, 114, 105, 116, 101, 62, 10]⟩
  else if s.kind = 4 then ⟨#[60, 99, 108, 105, 112]⟩ ++ rectS s.rect ++ fldS ⟨#[110]⟩ (numS s.node) ++ ⟨#[62, 10]⟩
  else ⟨#[60, 47, 99, 108, 105, 112]⟩ ++ fldS ⟨#[110]⟩ (numS s.node) ++ ⟨#[62, 10]⟩
theorem fld_n (v : ByteArray) : ⟨#[32, 110, 61, 34]⟩ ++ v ++ ⟨#[34]⟩ = fldS ⟨#[110]⟩ v := by apply ba_ext; simp [fldS]
theorem fld_c (v : ByteArray) : ⟨#[32, 99, 61, 34]⟩ ++ v ++ ⟨#[34]⟩ = fldS ⟨#[99]⟩ v := by apply ba_ext; simp [fldS]
theorem write_eq (r c b n t : ByteArray) : ⟨#[60, 119, 114, 105, 116, 101]⟩ ++ r ++ c ++ ⟨#[32, 98, 61, 34]⟩ ++ b ++ ⟨#[34]⟩ ++ n ++ ⟨#[62]⟩ ++ t ++ ⟨#[60, 47, 119, 114, 105, 116, 101, 62, 10]⟩ = ⟨#[60, 119, 114, 105, 116, 101]⟩ ++ r ++ c ++ fldS ⟨#[98]⟩ b ++ n ++ ⟨#[62]⟩ ++ t ++ ⟨#[60, 47, 119, 114, 105, 116, 101, 62, 10]⟩ := by apply ba_ext; simp [fldS]
theorem err_node {s : St} (h : errS s = 0) : 0 ≤ s.node ∧ s.node ≤ 1048576 ∧ s.text.size ≤ 65536 := by
  unfold errS at h
  split at h
  · cases h
  · rename_i hm
    unfold mis1 at hm
    simp at hm
    omega
def boxS (s : St) : List Value := [.int .u8 s.kind, .int .i64 s.rect.x, .int .i64 s.rect.y, .int .i64 s.rect.wd, .int .i64 s.rect.ht, .int .u8 s.col.r, .int .u8 s.col.g, .int .u8 s.col.b, .int .u8 s.col.a, .int .u8 s.back.r, .int .u8 s.back.g, .int .u8 s.back.b, .int .u8 s.back.a, .string s.text, .int .i64 s.node]
set_option maxHeartbeats 1000000 in
set_option maxRecDepth 100000 in
theorem vline_any (s : St) (w : World) (hD : DigT w) (he : errS s = 0) (hw : s.Wf) (hsr : SmallR s.rect) : Calls Tryd.prog 15 #[.agg #[.int .u8 (s).kind, .int .i64 (s).rect.x, .int .i64 (s).rect.y, .int .i64 (s).rect.wd, .int .i64 (s).rect.ht, .int .u8 (s).col.r, .int .u8 (s).col.g, .int .u8 (s).col.b, .int .u8 (s).col.a, .int .u8 (s).back.r, .int .u8 (s).back.g, .int .u8 (s).back.b, .int .u8 (s).back.a, .string (s).text, .int .i64 (s).node]] w fun e w' => e = .returned (.string (lineS s)) ∧ Below w.heap.size w w' := by
  obtain ⟨n0, n1, htx⟩ := err_node he
  have zr := rect_size hsr
  have zn := num_size (n := s.node) (by omega) (by omega)
  have CC := fun w => ltext_any s.col.r s.col.g s.col.b s.col.a _ w (colN_of hw.2.2.1)
  have CB := fun w => ltext_any s.back.r s.back.g s.back.b s.back.a _ w (colN_of hw.2.2.2.1)
  have zc := col_size s.col
  have zb := col_size s.back
  have zt := esc_size s.text
  have eN := fld_n (numS s.node)
  have eC := fld_c (colS s.col)
  have eW := write_eq (rectS s.rect) (fldS ⟨#[99]⟩ (colS s.col)) (colS s.back) (fldS ⟨#[110]⟩ (numS s.node)) (escS s.text)
  have yn : (fldS ⟨#[110]⟩ (numS s.node)).size ≤ 20 := by rw [fld_size]; show 1 + _ + _ ≤ _; omega
  have yc : (fldS ⟨#[99]⟩ (colS s.col)).size ≤ 20 := by rw [fld_size]; show 1 + _ + _ ≤ _; omega
  obtain ⟨L, hL⟩ : ∃ L, lineS s = L := ⟨_, rfl⟩
  rw [hL]
  unfold lineS at hL
  rw [← eW] at hL
  change ∀ w, Calls Tryd.prog 32 _ w fun e w' => e = .returned (.string (colS s.col)) ∧ _ at CC
  change ∀ w, Calls Tryd.prog 32 _ w fun e w' => e = .returned (.string (colS s.back)) ∧ _ at CB
  have IT := fun w hD => itoa_any s.node w hD (by omega) (by omega)
  have hw1 : Below w.heap.size w (w.alloc (.cells #[.int .u8 (s).kind, .int .i64 (s).rect.x, .int .i64 (s).rect.y, .int .i64 (s).rect.wd, .int .i64 (s).rect.ht, .int .u8 (s).col.r, .int .u8 (s).col.g, .int .u8 (s).col.b, .int .u8 (s).col.a, .int .u8 (s).back.r, .int .u8 (s).back.g, .int .u8 (s).back.b, .int .u8 (s).back.a, .string (s).text, .int .i64 (s).node] 32)) := (by repeat (first | exact Below.refl _ _ | assumption | refine Below.drew ?_ | refine Below.alloc ?_ (by (try simp) <;> omega) _ | refine Below.setCell ?_ (by (try simp) <;> omega) _ | (refine Below.trans ?_ (Below.mono (by assumption) (by (try simp) <;> omega)))))
  have hB0 : Blk (w.alloc (.cells #[.int .u8 (s).kind, .int .i64 (s).rect.x, .int .i64 (s).rect.y, .int .i64 (s).rect.wd, .int .i64 (s).rect.ht, .int .u8 (s).col.r, .int .u8 (s).col.g, .int .u8 (s).col.b, .int .u8 (s).col.a, .int .u8 (s).back.r, .int .u8 (s).back.g, .int .u8 (s).back.b, .int .u8 (s).back.a, .string (s).text, .int .i64 (s).node] 32)) w.heap.size (boxS s) 32 := Blk.new' rfl
  clear eW he
  replace CC := Lib.hid CC
  replace CB := Lib.hid CB
  replace IT := Lib.hid IT
  replace hsr := Lib.hid hsr
  generalize hfN : fldS ⟨#[110]⟩ (numS s.node) = fN at *
  generalize hfC : fldS ⟨#[99]⟩ (colS s.col) = fC at *
  have hD1 := Lib.hid (hD.below hw1 (Nat.le_refl _))
  have hLh := Lib.hid hL
  clear hL
  go_enter Tryd.func15, Tryd.ntmps15
  go_upto_region 3 with (first
    | (go_at_call 14; (with_reducible refine (IT.out _ hD1.out).mono ?_); rintro e w2 ⟨rfl, hb2⟩; obtain ⟨hc2, hf2⟩ := bcell hb2; have zz2 := hb2.size; (try simp at zz2); have yy2 : w.heap.size < w2.heap.size := (by omega))
    | (go_at_call 32; (with_reducible refine (CC.out _).mono ?_); rintro e w3 ⟨rfl, hb3⟩)
    | go_in)
  have hw3 : Below w.heap.size w w3 := (hw1.trans (hb2.mono hw1.size)).trans (hb3.mono (by have := hw1.size; omega))
  have hB3 : Blk w3 w.heap.size (boxS s) 32 := (hB0.below hb2 (by simp)).below hb3 (by omega)
  have hD3 := Lib.hid (hD.below hw3 (Nat.le_refl _))
  have z3 := hw3.size
  have y3 := hB3.lt
  clear hb2 hb3 hc2 hf2 hB0
  have c0x3 := hB3.cell (o := 0) rfl
  have c1x3 := hB3.cell (o := 1) rfl
  have c2x3 := hB3.cell (o := 2) rfl
  have c3x3 := hB3.cell (o := 3) rfl
  have c4x3 := hB3.cell (o := 4) rfl
  have c5x3 := hB3.cell (o := 5) rfl
  have c6x3 := hB3.cell (o := 6) rfl
  have c7x3 := hB3.cell (o := 7) rfl
  have c8x3 := hB3.cell (o := 8) rfl
  have c9x3 := hB3.cell (o := 9) rfl
  have c10x3 := hB3.cell (o := 10) rfl
  have c11x3 := hB3.cell (o := 11) rfl
  have c12x3 := hB3.cell (o := 12) rfl
  have c13x3 := hB3.cell (o := 13) rfl
  clear hB3
  have k0 := hw.1.1
  clear hw
  have hL := hLh.out
  clear hLh
  by_cases q1 : s.kind = 1
  · rw [if_pos q1] at hL
    subst hL
    rw [q1] at c0x3
    clear q1
    go_wp2_with (first
      | (go_at_call 33; (with_reducible refine (vrect_any _ _ (hD3.out) hsr.out).mono ?_); rintro e w4 ⟨rfl, hb4⟩)
      | go_in)
    go_ret
    exact ⟨rfl, hw3.trans (hb4.mono z3)⟩
  rw [if_neg q1] at hL
  by_cases q2 : s.kind = 2
  · rw [if_pos q2] at hL
    subst hL
    rw [q2] at c0x3
    clear q1 q2
    go_wp2_with (first
      | (go_at_call 33; (with_reducible refine (vrect_any _ _ (hD3.out) hsr.out).mono ?_); rintro e w4 ⟨rfl, hb4⟩)
      | go_in)
    go_ret
    exact ⟨rfl, hw3.trans (hb4.mono z3)⟩
  rw [if_neg q2] at hL
  by_cases q3 : s.kind = 3
  · rw [if_pos q3] at hL
    subst hL
    rw [q3] at c0x3
    clear q1 q2 q3
    go_wp2
    refine wp_region_steady (Held w3 0 []) (by kernel_rfl) (by kernel_rfl) ⟨(by repeat (first | exact Below.refl _ _ | assumption | refine Below.drew ?_ | refine Below.alloc ?_ (by (try simp) <;> omega) _ | refine Below.setCell ?_ (by (try simp) <;> omega) _ | (refine Below.trans ?_ (Below.mono (by assumption) (by (try simp) <;> omega))))), (by (try simp) <;> omega), (by first | exact trivial | (simp only [Cells]; go_simp))⟩ ?_
    repeat (first | (refine' wpSteady_do _ _ _; rotate_left; (focus rfl); (focus (intro w1 hS R hR; have hc := hS.cells; simp only [Cells] at hc; obtain ⟨hco, hfo⟩ := bcell hS.old; go_simp; (try go_bits); (try (rw [if_neg (by omega)]; go_simp)); first | exact hR _ hS | (go_at_call 33; (with_reducible refine (vrect_any _ _ (hD3.out.below hS.old (Nat.le_refl _)) hsr.out).mono ?_); rintro e w2 ⟨rfl, hb2⟩; exact ⟨_, rfl, hR _ (hS.below hb2)⟩) | (go_at_call 32; (with_reducible refine (CB.out _).mono ?_); rintro e w2 ⟨rfl, hb2⟩; exact ⟨_, rfl, hR _ (hS.below hb2)⟩) | (go_at_call 8; (with_reducible refine (vescape_any _ _ (by omega)).mono ?_); rintro e w2 ⟨rfl, hb2⟩; exact ⟨_, rfl, hR _ (hS.below hb2)⟩))); simp only [Act.put, List.setIfInBounds_toArray, List.set_cons_zero, List.set_cons_succ]) | (refine wpSteady_pass ?_ ?_; (focus rfl); simp only [Act.put, List.setIfInBounds_toArray, List.set_cons_zero, List.set_cons_succ]))
    refine wpSteady_nil (fun uA hSA => ?_)
    have hcA := hSA.cells; have hbA := hSA.old; have hzA := hSA.size; clear hSA; simp only [Cells] at hcA; obtain ⟨hcoA, hfoA⟩ := bcell hbA
    go_wp2
    go_ret
    exact ⟨rfl, hw3.trans (hbA.mono z3)⟩
  rw [if_neg q3] at hL
  have d1 : (s.kind == 1) = false := by simpa using q1
  have d2 : (s.kind == 2) = false := by simpa using q2
  have d3 : (s.kind == 3) = false := by simpa using q3
  by_cases q4 : s.kind = 4
  · rw [if_pos q4] at hL
    subst hL
    rw [q4] at c0x3
    clear q1 q2 q3 d1 d2 d3
    go_wp2_with (first
      | (go_at_call 33; (with_reducible refine (vrect_any _ _ (hD3.out) hsr.out).mono ?_); rintro e w4 ⟨rfl, hb4⟩)
      | go_in)
    go_ret
    exact ⟨rfl, hw3.trans (hb4.mono z3)⟩
  rw [if_neg q4] at hL
  have d4 : (s.kind == 4) = false := by simpa using q4
  clear q1 q2 q3
  subst hL
  go_wp2
  go_ret
  exact ⟨rfl, hw3⟩
set_option maxHeartbeats 1000000 in
set_option maxRecDepth 100000 in
theorem kline_any (s : St) (w : World) (he : errS s = 0) (hw : s.Wf) (hsr : SmallR s.rect) : Calls Tryd.prog 22 #[.agg #[.int .u8 (s).kind, .int .i64 (s).rect.x, .int .i64 (s).rect.y, .int .i64 (s).rect.wd, .int .i64 (s).rect.ht, .int .u8 (s).col.r, .int .u8 (s).col.g, .int .u8 (s).col.b, .int .u8 (s).col.a, .int .u8 (s).back.r, .int .u8 (s).back.g, .int .u8 (s).back.b, .int .u8 (s).back.a, .string (s).text, .int .i64 (s).node]] w fun e w' => e = .returned (.string (lineS s)) ∧ Below w.heap.size w w' := by
  obtain ⟨n0, n1, htx⟩ := err_node he
  have zr := rect_size hsr
  have zn := num_size (n := s.node) (by omega) (by omega)
  have CC := fun w => rtext_any s.col.r s.col.g s.col.b s.col.a _ w (colN_of hw.2.2.1)
  have CB := fun w => rtext_any s.back.r s.back.g s.back.b s.back.a _ w (colN_of hw.2.2.2.1)
  have zc := col_size s.col
  have zb := col_size s.back
  have zt := esc_size s.text
  have yn : (fldS ⟨#[110]⟩ (numS s.node)).size ≤ 20 := by rw [fld_size]; show 1 + _ + _ ≤ _; omega
  have yc : (fldS ⟨#[99]⟩ (colS s.col)).size ≤ 20 := by rw [fld_size]; show 1 + _ + _ ≤ _; omega
  obtain ⟨L, hL⟩ : ∃ L, lineS s = L := ⟨_, rfl⟩
  rw [hL]
  unfold lineS at hL
  change ∀ w, Calls Tryd.prog 35 _ w fun e w' => e = .returned (.string (colS s.col)) ∧ _ at CC
  change ∀ w, Calls Tryd.prog 35 _ w fun e w' => e = .returned (.string (colS s.back)) ∧ _ at CB
  have IT := fun w => number_any s.node w (by omega) (by omega)
  have FN := fun w => field_any ⟨#[110]⟩ (numS s.node) w (by decide) (by omega)
  have FC := fun w => field_any ⟨#[99]⟩ (colS s.col) w (by decide) (by omega)
  have FB := fun w => field_any ⟨#[98]⟩ (colS s.back) w (by decide) (by omega)
  have yb : (fldS ⟨#[98]⟩ (colS s.back)).size ≤ 20 := by rw [fld_size]; show 1 + _ + _ ≤ _; omega
  have hw1 : Below w.heap.size w (w.alloc (.cells #[.int .u8 (s).kind, .int .i64 (s).rect.x, .int .i64 (s).rect.y, .int .i64 (s).rect.wd, .int .i64 (s).rect.ht, .int .u8 (s).col.r, .int .u8 (s).col.g, .int .u8 (s).col.b, .int .u8 (s).col.a, .int .u8 (s).back.r, .int .u8 (s).back.g, .int .u8 (s).back.b, .int .u8 (s).back.a, .string (s).text, .int .i64 (s).node] 32)) := (by repeat (first | exact Below.refl _ _ | assumption | refine Below.drew ?_ | refine Below.alloc ?_ (by (try simp) <;> omega) _ | refine Below.setCell ?_ (by (try simp) <;> omega) _ | (refine Below.trans ?_ (Below.mono (by assumption) (by (try simp) <;> omega)))))
  have hB0 : Blk (w.alloc (.cells #[.int .u8 (s).kind, .int .i64 (s).rect.x, .int .i64 (s).rect.y, .int .i64 (s).rect.wd, .int .i64 (s).rect.ht, .int .u8 (s).col.r, .int .u8 (s).col.g, .int .u8 (s).col.b, .int .u8 (s).col.a, .int .u8 (s).back.r, .int .u8 (s).back.g, .int .u8 (s).back.b, .int .u8 (s).back.a, .string (s).text, .int .i64 (s).node] 32)) w.heap.size (boxS s) 32 := Blk.new' rfl
  clear he
  replace CC := Lib.hid CC
  replace CB := Lib.hid CB
  replace IT := Lib.hid IT
  replace FN := Lib.hid FN
  replace FC := Lib.hid FC
  replace FB := Lib.hid FB
  replace hsr := Lib.hid hsr
  generalize hfN : fldS ⟨#[110]⟩ (numS s.node) = fN at *
  generalize hfC : fldS ⟨#[99]⟩ (colS s.col) = fC at *
  have hLh := Lib.hid hL
  clear hL
  go_enter Tryd.func22, Tryd.ntmps22
  go_upto_region 3 with (first
    | (go_at_call 21; (with_reducible refine (IT.out _).mono ?_); rintro e w2 ⟨rfl, rfl⟩)
    | (go_at_call 20; (with_reducible refine (FN.out _).mono ?_); rintro e w2 ⟨rfl, rfl⟩)
    | (go_at_call 20; (with_reducible refine (FC.out _).mono ?_); rintro e w2 ⟨rfl, rfl⟩)
    | (go_at_call 35; (with_reducible refine (CC.out _).mono ?_); rintro e w3 ⟨rfl, hb3⟩)
    | go_in)
  have hw3 : Below w.heap.size w w3 := hw1.trans (hb3.mono hw1.size)
  have hB3 : Blk w3 w.heap.size (boxS s) 32 := hB0.below hb3 (by simp)
  have z3 := hw3.size
  have y3 := hB3.lt
  clear hb3 hB0
  have c0x3 := hB3.cell (o := 0) rfl
  have c1x3 := hB3.cell (o := 1) rfl
  have c2x3 := hB3.cell (o := 2) rfl
  have c3x3 := hB3.cell (o := 3) rfl
  have c4x3 := hB3.cell (o := 4) rfl
  have c5x3 := hB3.cell (o := 5) rfl
  have c6x3 := hB3.cell (o := 6) rfl
  have c7x3 := hB3.cell (o := 7) rfl
  have c8x3 := hB3.cell (o := 8) rfl
  have c9x3 := hB3.cell (o := 9) rfl
  have c10x3 := hB3.cell (o := 10) rfl
  have c11x3 := hB3.cell (o := 11) rfl
  have c12x3 := hB3.cell (o := 12) rfl
  have c13x3 := hB3.cell (o := 13) rfl
  clear hB3
  have k0 := hw.1.1
  clear hw
  have hL := hLh.out
  clear hLh
  by_cases q1 : s.kind = 1
  · rw [if_pos q1] at hL
    subst hL
    rw [q1] at c0x3
    clear q1
    go_wp2_with (first
      | (go_at_call 36; (with_reducible refine (krect_any _ _ hsr.out).mono ?_); rintro e w4 ⟨rfl, hb4⟩)
      | go_in)
    go_ret
    exact ⟨rfl, hw3.trans (hb4.mono z3)⟩
  rw [if_neg q1] at hL
  by_cases q2 : s.kind = 2
  · rw [if_pos q2] at hL
    subst hL
    rw [q2] at c0x3
    clear q1 q2
    go_wp2_with (first
      | (go_at_call 36; (with_reducible refine (krect_any _ _ hsr.out).mono ?_); rintro e w4 ⟨rfl, hb4⟩)
      | go_in)
    go_ret
    exact ⟨rfl, hw3.trans (hb4.mono z3)⟩
  rw [if_neg q2] at hL
  by_cases q3 : s.kind = 3
  · rw [if_pos q3] at hL
    subst hL
    rw [q3] at c0x3
    clear q1 q2 q3
    go_wp2
    refine wp_region_steady (Held w3 0 []) (by kernel_rfl) (by kernel_rfl) ⟨(by repeat (first | exact Below.refl _ _ | assumption | refine Below.drew ?_ | refine Below.alloc ?_ (by (try simp) <;> omega) _ | refine Below.setCell ?_ (by (try simp) <;> omega) _ | (refine Below.trans ?_ (Below.mono (by assumption) (by (try simp) <;> omega))))), (by (try simp) <;> omega), (by first | exact trivial | (simp only [Cells]; go_simp))⟩ ?_
    repeat (first | (refine' wpSteady_do _ _ _; rotate_left; (focus rfl); (focus (intro w1 hS R hR; have hc := hS.cells; simp only [Cells] at hc; obtain ⟨hco, hfo⟩ := bcell hS.old; go_simp; (try go_bits); (try (rw [if_neg (by omega)]; go_simp)); first | exact hR _ hS | (go_at_call 36; (with_reducible refine (krect_any _ _ hsr.out).mono ?_); rintro e w2 ⟨rfl, hb2⟩; exact ⟨_, rfl, hR _ (hS.below hb2)⟩) | (go_at_call 35; (with_reducible refine (CB.out _).mono ?_); rintro e w2 ⟨rfl, hb2⟩; exact ⟨_, rfl, hR _ (hS.below hb2)⟩) | (go_at_call 9; (with_reducible refine (kescape_any _ _ (by omega)).mono ?_); rintro e w2 ⟨rfl, hb2⟩; exact ⟨_, rfl, hR _ (hS.below hb2)⟩) | (go_at_call 20; (with_reducible refine (FB.out _).mono ?_); rintro e w2 ⟨rfl, rfl⟩; exact ⟨_, rfl, hR _ hS⟩))); simp only [Act.put, List.setIfInBounds_toArray, List.set_cons_zero, List.set_cons_succ]) | (refine wpSteady_pass ?_ ?_; (focus rfl); simp only [Act.put, List.setIfInBounds_toArray, List.set_cons_zero, List.set_cons_succ]))
    refine wpSteady_nil (fun uA hSA => ?_)
    have hcA := hSA.cells; have hbA := hSA.old; have hzA := hSA.size; clear hSA; simp only [Cells] at hcA; obtain ⟨hcoA, hfoA⟩ := bcell hbA
    go_wp2
    go_ret
    exact ⟨rfl, hw3.trans (hbA.mono z3)⟩
  rw [if_neg q3] at hL
  have d1 : (s.kind == 1) = false := by simpa using q1
  have d2 : (s.kind == 2) = false := by simpa using q2
  have d3 : (s.kind == 3) = false := by simpa using q3
  by_cases q4 : s.kind = 4
  · rw [if_pos q4] at hL
    subst hL
    rw [q4] at c0x3
    clear q1 q2 q3 d1 d2 d3
    go_wp2_with (first
      | (go_at_call 36; (with_reducible refine (krect_any _ _ hsr.out).mono ?_); rintro e w4 ⟨rfl, hb4⟩)
      | go_in)
    go_ret
    exact ⟨rfl, hw3.trans (hb4.mono z3)⟩
  rw [if_neg q4] at hL
  have d4 : (s.kind == 4) = false := by simpa using q4
  clear q1 q2 q3
  subst hL
  go_wp2
  go_ret
  exact ⟨rfl, hw3⟩
end Go.Proofs.YtpbolbpenkfpiaaDoor
