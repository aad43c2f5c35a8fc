/-
  Cells: runs as a terminal's text, by the document, plain.
-/
import Derived.Lib.SlicesCompact
import Derived.Test.YtffmomgmkpmpkaaGreatDoorProg
import Derived.Test.YtffmomgmkpmpkaaGreatDoorKu23
namespace Go.Proofs.YtffmomgmkpmpkaaGreatDoor
open Go.RowKit
set_option linter.unusedVariables false
attribute [local go_sem] vwp vUpon_value vUpon_skip vUpon_enter vUpon_row
set_option linter.unusedSimpArgs false
set_option linter.unusedVariables false
def whlI (cs : List Ce) (i : Int) : Bool := decide (0 ≤ i) && (match cs[i.toNat]?, cs[i.toNat + 1]? with
  | some c, some d => wholeC c d
  | _, _ => false)
def markR (c : Ce) (wh : Bool) : List UInt8 := (if (c.wide && !wh) = true then [14] else []) ++ (if c.tail = true then [15] else [])
def rcelL (x y : Co) (c : Ce) (wh : Bool) : List UInt8 := dipL 38 x c.col ++ (dipL 48 y c.back ++ (markR c wh ++ Lib.encodeRune c.rune))
theorem may_both {c : Ce} (h : mayC c = true) : ¬ (c.wide = true ∧ c.tail = true) := by
  rintro ⟨h1, h2⟩
  unfold mayC at h
  rw [h1, h2] at h
  simp at h
theorem rcel_eq {c : Ce} (h : mayC c = true) (x y : Co) (wh : Bool) : rcelL x y c wh = cellL x y c wh := by
  have hb := may_both h
  unfold rcelL cellL markR markL
  obtain ⟨r, a, b, wi, ta⟩ := c
  dsimp only at hb ⊢
  cases wi <;> cases ta <;> cases wh <;> simp at hb ⊢
def reGo (cs : List Ce) : Nat → Nat → List UInt8 → Co → Co → Option (List UInt8 × Co × Co)
  | 0, _, o, x, y => some (o, x, y)
  | f + 1, k, o, x, y => match cs[k]? with
    | none => some (o, x, y)
    | some c => if whlI cs ((k : Int) - 1) = true then reGo cs f (k + 1) o x y
      else if 1048576 < (o ++ rcelL x y c (whlI cs k)).length then none else reGo cs f (k + 1) (o ++ rcelL x y c (whlI cs k)) c.col c.back
theorem re_step {cs : List Ce} {n k : Nat} {c : Ce} (hc : cs[k]? = some c) (hk : k < n) (o : List UInt8) (x y : Co) : reGo cs (n - k) k o x y = if whlI cs ((k : Int) - 1) = true then reGo cs (n - (k + 1)) (k + 1) o x y else if 1048576 < (o ++ rcelL x y c (whlI cs k)).length then none else reGo cs (n - (k + 1)) (k + 1) (o ++ rcelL x y c (whlI cs k)) c.col c.back := by
  obtain ⟨f, hf⟩ : ∃ f, n - k = f + 1 := ⟨n - k - 1, by omega⟩
  rw [hf, show n - (k + 1) = f by omega, reGo, hc]
theorem whl_last {cs : List Ce} {k : Nat} (h : cs.length ≤ k + 1) : whlI cs (k : Int) = false := by
  unfold whlI
  rw [Int.toNat_natCast, List.getElem?_eq_none h]
  cases cs[k]? <;> simp
theorem whl_at {cs : List Ce} {k : Nat} {c d : Ce} (hc : cs[k]? = some c) (hd : cs[k + 1]? = some d) : whlI cs (k : Int) = wholeC c d := by
  unfold whlI
  rw [Int.toNat_natCast, hc, hd]
  simp
theorem whole_wide {c d : Ce} (h : wholeC c d = true) : c.wide = true ∧ d.tail = true := by
  unfold wholeC pairC at h
  simp only [Bool.and_eq_true] at h
  exact ⟨h.1.1.1, h.1.1.2⟩
theorem re_esc (cs : List Ce) (hm : cs.all mayC = true) : ∀ (m f k : Nat) (o : List UInt8) (x y : Co), f ≤ m → k + f = cs.length → whlI cs ((k : Int) - 1) = false → reGo cs f k o x y = escCells o x y (cs.drop k)
 | _, 0, k, o, x, y, _, hk, _ => by
  rw [List.drop_of_length_le (by omega)]
  rfl
 | 0, f + 1, _, _, _, _, h, _, _ => by omega
 | m + 1, f + 1, k, o, x, y, hf, hk, hw => by
  obtain ⟨c, hc⟩ := get_at (l := cs) rfl (show k < cs.length by omega)
  have mc := List.all_eq_true.1 hm c (List.mem_of_getElem? hc)
  rw [reGo, hc, drop_get hc]
  simp only [hw, Bool.false_eq_true, if_false, rcel_eq mc]
  by_cases h1 : k + 1 < cs.length
  ·obtain ⟨d, hd⟩ := get_at (l := cs) rfl h1
   have md := List.all_eq_true.1 hm d (List.mem_of_getElem? hd)
   rw [whl_at hc hd, drop_get hd, escCells]
   cases hh : wholeC c d
   ·simp only [Bool.false_eq_true, if_false]
    have I := re_esc cs hm m f (k + 1) (o ++ cellL x y c false) c.col c.back (by omega) (by omega) (by rw [show ((k + 1 : Nat) : Int) - 1 = (k : Int) by omega, whl_at hc hd, hh])
    rw [I, drop_get hd]
   ·simp only [if_true]
    obtain ⟨f', rfl⟩ : ∃ f', f = f' + 1 := ⟨f - 1, by omega⟩
    have hw2 : whlI cs (((k + 1 : Nat) : Int) - 1) = true := by rw [show ((k + 1 : Nat) : Int) - 1 = (k : Int) by omega, whl_at hc hd, hh]
    have I := re_esc cs hm m f' (k + 1 + 1) (o ++ cellL x y c true) c.col c.back (by omega) (by omega) (by
     rw [show ((k + 1 + 1 : Nat) : Int) - 1 = ((k + 1 : Nat) : Int) by omega]
     by_cases h2 : k + 1 + 1 < cs.length
     ·obtain ⟨e, he⟩ := get_at (l := cs) rfl h2
      rw [whl_at hd he]
      cases h3 : wholeC d e
      ·rfl
      ·exact absurd ⟨(whole_wide h3).1, (whole_wide hh).2⟩ (may_both md)
     ·exact whl_last (by omega))
    rw [reGo, hd]
    simp only [hw2, if_true]
    rw [I]
  ·rw [whl_last (by omega), List.drop_of_length_le (by omega), escCells]
   obtain rfl : f = 0 := by omega
   rfl
def reRuns : List UInt8 → Co → Co → List Rn → Option (List UInt8)
  | o, _, _, [] => some o
  | o, x, y, r :: rs => match reGo r.cells r.cells.length 0 (o ++ escL 72 [r.y + 1, r.x + 1]) x y with
    | none => none
    | some (o', x', y') => reRuns o' x' y' rs
theorem re_runs : ∀ (l : List Rn) (o : List UInt8) (x y : Co), l.all runOkC = true → reRuns o x y l = escRuns o x y l
  | [], _, _, _, _ => rfl
  | r :: rs, o, x, y, h => by
    rw [List.all_cons, Bool.and_eq_true] at h
    have hm : r.cells.all mayC = true := by
      have := h.1
      unfold runOkC at this
      simp only [Bool.and_eq_true] at this
      exact this.2.1
    rw [reRuns, escRuns, re_esc r.cells hm _ _ 0 _ x y (Nat.le_refl _) (by omega) (by unfold whlI; simp), List.drop_zero]
    cases hq : escCells (o ++ escL 72 [r.y + 1, r.x + 1]) x y r.cells with
    | none => rfl
    | some q =>
      obtain ⟨o', x', y'⟩ := q
      exact re_runs rs o' x' y' h.2
end Go.Proofs.YtffmomgmkpmpkaaGreatDoor

namespace Go.Proofs.YtffmomgmkpmpkaaGreatDoor
open Go.RowKit
set_option linter.unusedVariables false
attribute [local go_sem] vwp vUpon_value vUpon_skip vUpon_enter vUpon_row
set_option linter.unusedSimpArgs false
set_option linter.unusedVariables false
theorem strL_app (a b : List UInt8) : strL a ++ strL b = strL (a ++ b) := by
  unfold strL
  rw [ByteArray.ext_iff]
  simp
def itS (n : Int) : ByteArray := ⟨(Lib.itoa n).toArray⟩
theorem itS_size {n : Int} (h : I64 n) : (itS n).size ≤ 21 := by
  have := itoa_len h
  simpa [itS, ByteArray.size] using this
theorem itS_strL (n : Int) : itS n = strL (Lib.itoa n) := rfl
theorem itS_any (n : Int) (w : World) (ht : DigT w) (h0 : -9223372036854775808 ≤ n) (h1 : n ≤ 9223372036854775807) : Calls Tryz.prog 70 #[.int .i64 n] w fun e w' => e = .returned (.string (itS n)) ∧ Below w.heap.size w w' := itoa_any n w ht (by unfold I64; omega)
def toldL (n : List UInt8) (c : Co) : List UInt8 := [27, 91] ++ n ++ [59, 50, 59] ++ Lib.itoa c.r ++ [59] ++ Lib.itoa c.g ++ [59] ++ Lib.itoa c.b ++ [59] ++ Lib.itoa c.a ++ [109]
theorem told_sum (n : List UInt8) (c : Co) : ((((((((((⟨#[27, 91]⟩ : ByteArray) ++ strL n) ++ ⟨#[59, 50, 59]⟩) ++ itS c.r) ++ ⟨#[59]⟩) ++ itS c.g) ++ ⟨#[59]⟩) ++ itS c.b) ++ ⟨#[59]⟩) ++ itS c.a) ++ ⟨#[109]⟩ = strL (toldL n c) := by
  rw [show (⟨#[27, 91]⟩ : ByteArray) = strL [27, 91] from rfl, show (⟨#[59, 50, 59]⟩ : ByteArray) = strL [59, 50, 59] from rfl, show (⟨#[59]⟩ : ByteArray) = strL [59] from rfl, show (⟨#[109]⟩ : ByteArray) = strL [109] from rfl]
  simp only [itS_strL, strL_app]
  rfl
theorem itoa_2 : Lib.itoa 2 = [50] := by
  unfold Lib.itoa
  rw [if_neg (by decide), show (2 : Int).toNat = 2 from rfl, Lib.decDigits, dif_pos (by omega)]
  rfl
theorem told_esc (k : Int) (c : Co) : toldL (Lib.itoa k) c = escL 109 [k, 2, c.r, c.g, c.b, c.a] := by
  unfold toldL escL numsL semiL
  simp [itoa_2]
set_option maxHeartbeats 1000000 in
set_option maxRecDepth 100000 in
theorem told_any (n : List UInt8) (c : Co) (w : World) (hD : DigT w) (hc : c.Wf) (hn : n.length ≤ 1000) : Calls Tryz.prog 72 #[.string (strL n), .agg #[.int .u8 (c.r), .int .u8 (c.g), .int .u8 (c.b), .int .u8 (c.a)]] w fun e w' => e = .returned (.string (strL (toldL n c))) ∧ Below w.heap.size w w' := by
 obtain ⟨h1, h2, h3, h4⟩ := hc
 unfold U8 at h1 h2 h3 h4
 have E := told_sum n c
 have z0 : (strL n).size ≤ 1000 := by rw [strL_size]; exact hn
 have z1 := itS_size (n := c.r) (by unfold I64; omega)
 have z2 := itS_size (n := c.g) (by unfold I64; omega)
 have z3 := itS_size (n := c.b) (by unfold I64; omega)
 have z4 := itS_size (n := c.a) (by unfold I64; omega)
 rw [← E]
 obtain ⟨cr, cg, cb, ca⟩ := c
 dsimp only at h1 h2 h3 h4 z1 z2 z3 z4 ⊢
 generalize strL n = S at z0 ⊢
 clear E
 have y1 : Int.toNat (cr % 18446744073709551616) = cr.toNat := by rw [Int.emod_eq_of_lt (by omega) (by omega)]
 clear y1
 replace hD := Lib.hid hD
 go_enter Tryz.func72, Tryz.ntmps72
 go_upto_region 1 with fail
 refine wp_region_steady (Held w 1 [(⟨w.heap.size, 0, none⟩, .int .u8 (cr)), (⟨w.heap.size, 1, none⟩, .int .u8 (cg)), (⟨w.heap.size, 2, none⟩, .int .u8 (cb)), (⟨w.heap.size, 3, none⟩, .int .u8 (ca))]) (by kernel_rfl) (by kernel_rfl) ⟨belt, (by (try simp) <;> omega), (by first | exact trivial | (simp only [Cells]; go_simp))⟩ ?_
 repeat (first | (refine' wpSteady_do _ _ _; rotate_left; (focus rfl); (focus (intro w1 hS R hR; have hc := hS.cells; simp only [Cells] at hc; obtain ⟨hco, hfo⟩ := bcell hS.old; go_simp; (try go_bits); (try (rw [if_neg (by omega)]; go_simp)); first | exact hR _ hS | (go_at_call 70; (with_reducible refine (itS_any _ _ (hD.out.below hS.old (Nat.le_refl _)) (by omega) (by omega)).mono ?_); rintro e w2 ⟨rfl, hb2⟩; exact ⟨_, rfl, hR _ (hS.below hb2)⟩))); simp only [pu]) | (refine wpSteady_pass ?_ ?_; (focus rfl); simp only [pu]))
 refine wpSteady_nil (fun uA hSA => ?_)
 have hcA := hSA.cells; have hbA := hSA.old; have hzA := hSA.size; clear hSA; simp only [Cells] at hcA; obtain ⟨hcoA, hfoA⟩ := bcell hbA
 have zA := hbA.size
 have hDA := Lib.hid (hD.out.below hbA (Nat.le_refl _))
 generalize hT : (⟨#[27, 91]⟩ : ByteArray) ++ S ++ ⟨#[59, 50, 59]⟩ ++ itS cr ++ ⟨#[59]⟩ ++ itS cg ++ ⟨#[59]⟩ ++ itS cb = T
 have zT : T.size ≤ 1100 := by
  rw [← hT]
  simp only [ByteArray.size_append]
  have : (⟨#[27, 91]⟩ : ByteArray).size = 2 := rfl
  have : (⟨#[59, 50, 59]⟩ : ByteArray).size = 3 := rfl
  have : (⟨#[59]⟩ : ByteArray).size = 1 := rfl
  omega
 have k1 : ¬ 9223372036854775807 < T.size + 1 := by omega
 have k2 : ¬ 9223372036854775807 < T.size + 1 + (itS ca).size := by omega
 have k3 : ¬ 9223372036854775807 < T.size + 1 + (itS ca).size + 1 := by omega
 replace hT := Lib.hid hT
 replace hbA := Lib.hid hbA
 clear hcoA hfoA
 go_wp2_with (go_at_call 70; (with_reducible refine (itS_any _ _ hDA.out (by omega) (by omega)).mono ?_); rintro e w2 ⟨rfl, hb2⟩)
 rw [hT.out]
 go_ret
 exact ⟨rfl, hbA.out.trans (hb2.mono zA)⟩
end Go.Proofs.YtffmomgmkpmpkaaGreatDoor

namespace Go.Proofs.YtffmomgmkpmpkaaGreatDoor
open Go.RowKit
set_option linter.unusedVariables false
attribute [local go_sem] vwp vUpon_value vUpon_skip vUpon_enter vUpon_row
set_option linter.unusedSimpArgs false
set_option linter.unusedVariables false
theorem eql_colour2 (w : World) (r g b a r' g' b' a' : Int) : (binOp .eql 44 (.agg #[.int .u8 r, .int .u8 g, .int .u8 b, .int .u8 a]) (.agg #[.int .u8 r', .int .u8 g', .int .u8 b', .int .u8 a'])).run Tryz.prog w = .ok (.bool (eq4 r g b a r' g' b' a')) w := by
  rw [run_eql_struct, eq_colour 9998]
  rfl
attribute [local go_sem high] eql_colour2
set_option maxHeartbeats 8000000 in
set_option maxRecDepth 100000 in
theorem rwhole_any (cs : List Ce) (i : Int) (v : Value) (w : World) (hl : Row w.heap.size 11 Ce.enc w v cs) (hi : I64 i) (hi2 : i < 9223372036854775807) : Calls Tryz.prog 71 #[v, .int .i64 i] w fun e w' => e = .returned (.bool (whlI cs i)) ∧ Below w.heap.size w w' := by
 obtain ⟨s0, cap, rfl, hmax⟩ := hl.shape
 have hopen := fun h0 => row_ce hl h0
 obtain ⟨R, hR⟩ : ∃ R, whlI cs i = R := ⟨_, rfl⟩
 rw [hR]
 unfold whlI at hR
 obtain ⟨n, en⟩ : ∃ n, cs.length = n := ⟨_, rfl⟩
 rw [en] at hopen hmax ⊢
 unfold maxLen at hmax
 unfold I64 at hi
 clear hl
 by_cases i0 : 0 ≤ i
 ·obtain ⟨k, rfl⟩ : ∃ k : Nat, i = k := ⟨i.toNat, by omega⟩
  rw [Int.toNat_natCast, decide_eq_true i0, Bool.true_and] at hR
  by_cases k1 : k + 1 < n
  ·have k1i : (k : Int) + 1 < n := by omega
   have k0i : (k : Int) < n := by omega
   have kp : (0 : Int) ≤ (k : Int) + 1 := by omega
   obtain ⟨g, o, cap', e, hg, _, _, hel⟩ := hopen (by omega)
   simp only [Value.slice.injEq] at e
   obtain ⟨rfl, _, rfl⟩ := e
   obtain ⟨c, hc⟩ := get_at en (show k < n by omega)
   obtain ⟨d, hd⟩ := get_at en k1
   rw [hc, hd] at hR
   dsimp only at hR
   obtain ⟨g0, g1, g2, g3, g4, g5, g6, g7, g8, g9, g10⟩ := hel k c hc
   obtain ⟨f0, f1, f2, f3, f4, f5, f6, f7, f8, f9, f10⟩ := hel (k + 1) d hd
   have PR := fun u => crpair_any c d u
   have hwc : wholeC c d = (pairC c d && (eq4 c.col.r c.col.g c.col.b c.col.a d.col.r d.col.g d.col.b d.col.a && eq4 c.back.r c.back.g c.back.b c.back.a d.back.r d.back.g d.back.b d.back.a)) := rfl
   rw [hwc] at hR
   clear hel hc hd hopen hwc
   cases hp : pairC c d
   ·rw [hp] at hR
    simp only [hp] at PR
    have hRf : R = false := by rw [← hR]; rfl
    subst hRf
    replace PR := Lib.hid PR
    go_enter Tryz.func71, Tryz.ntmps71
    go_upto_region 1 with fail
    refine wp_region_steady (Held w 0 []) (by kernel_rfl) (by kernel_rfl) ⟨belt, (by (try simp) <;> omega), (by first | exact trivial | (simp only [Cells]; go_simp))⟩ ?_
    repeat (first | (refine' wpSteady_do _ _ _; rotate_left; (focus rfl); (focus (intro w1 hS R hR; have hc := hS.cells; simp only [Cells] at hc; obtain ⟨hco, hfo⟩ := bcell hS.old; go_simp; (try go_bits); first | exact hR _ hS | (go_at_call 64; (with_reducible refine (PR.out _).mono ?_); rintro e w2 ⟨rfl, hb2⟩; exact ⟨_, rfl, hR _ (hS.below hb2)⟩))); simp only [pu]) | (refine wpSteady_pass ?_ ?_; (focus rfl); simp only [pu]))
    refine wpSteady_nil (fun uA hSA => ?_)
    have hcA := hSA.cells; have hbA := hSA.old; have hzA := hSA.size; clear hSA; simp only [Cells] at hcA; obtain ⟨hcoA, hfoA⟩ := bcell hbA
    go_wp2
    go_ret
    exact ⟨rfl, hbA⟩
   ·rw [hp] at hR
    simp only [hp] at PR
    replace PR := Lib.hid PR
    obtain ⟨q1, hq1⟩ : ∃ q, eq4 c.col.r c.col.g c.col.b c.col.a d.col.r d.col.g d.col.b d.col.a = q := ⟨_, rfl⟩
    obtain ⟨q2, hq2⟩ : ∃ q, eq4 c.back.r c.back.g c.back.b c.back.a d.back.r d.back.g d.back.b d.back.a = q := ⟨_, rfl⟩
    rw [hq1, hq2] at hR
    cases q1
    ·have hRf : R = false := by rw [← hR]; rfl
     subst hRf
     go_enter Tryz.func71, Tryz.ntmps71
     go_upto_region 1 with fail
     refine wp_region_steady (Held w 0 []) (by kernel_rfl) (by kernel_rfl) ⟨belt, (by (try simp) <;> omega), (by first | exact trivial | (simp only [Cells]; go_simp))⟩ ?_
     repeat (first | (refine' wpSteady_do _ _ _; rotate_left; (focus rfl); (focus (intro w1 hS R hR; have hc := hS.cells; simp only [Cells] at hc; obtain ⟨hco, hfo⟩ := bcell hS.old; go_simp; (try go_bits); first | exact hR _ hS | (go_at_call 64; (with_reducible refine (PR.out _).mono ?_); rintro e w2 ⟨rfl, hb2⟩; exact ⟨_, rfl, hR _ (hS.below hb2)⟩))); simp only [pu]) | (refine wpSteady_pass ?_ ?_; (focus rfl); simp only [pu]))
     refine wpSteady_nil (fun uA hSA => ?_)
     have hcA := hSA.cells; have hbA := hSA.old; have hzA := hSA.size; clear hSA; simp only [Cells] at hcA; obtain ⟨hcoA, hfoA⟩ := bcell hbA
     go_wp2
     go_ret
     exact ⟨rfl, hbA⟩
    ·have hRf : R = q2 := by rw [← hR]; rfl
     subst hRf
     cases R
     ·go_enter Tryz.func71, Tryz.ntmps71
      go_upto_region 1 with fail
      refine wp_region_steady (Held w 0 []) (by kernel_rfl) (by kernel_rfl) ⟨belt, (by (try simp) <;> omega), (by first | exact trivial | (simp only [Cells]; go_simp))⟩ ?_
      repeat (first | (refine' wpSteady_do _ _ _; rotate_left; (focus rfl); (focus (intro w1 hS R hR; have hc := hS.cells; simp only [Cells] at hc; obtain ⟨hco, hfo⟩ := bcell hS.old; go_simp; (try go_bits); first | exact hR _ hS | (go_at_call 64; (with_reducible refine (PR.out _).mono ?_); rintro e w2 ⟨rfl, hb2⟩; exact ⟨_, rfl, hR _ (hS.below hb2)⟩))); simp only [pu]) | (refine wpSteady_pass ?_ ?_; (focus rfl); simp only [pu]))
      refine wpSteady_nil (fun uA hSA => ?_)
      have hcA := hSA.cells; have hbA := hSA.old; have hzA := hSA.size; clear hSA; simp only [Cells] at hcA; obtain ⟨hcoA, hfoA⟩ := bcell hbA
      go_wp2
      go_ret
      exact ⟨rfl, hbA⟩
     ·go_enter Tryz.func71, Tryz.ntmps71
      go_upto_region 1 with fail
      refine wp_region_steady (Held w 0 []) (by kernel_rfl) (by kernel_rfl) ⟨belt, (by (try simp) <;> omega), (by first | exact trivial | (simp only [Cells]; go_simp))⟩ ?_
      repeat (first | (refine' wpSteady_do _ _ _; rotate_left; (focus rfl); (focus (intro w1 hS R hR; have hc := hS.cells; simp only [Cells] at hc; obtain ⟨hco, hfo⟩ := bcell hS.old; go_simp; (try go_bits); first | exact hR _ hS | (go_at_call 64; (with_reducible refine (PR.out _).mono ?_); rintro e w2 ⟨rfl, hb2⟩; exact ⟨_, rfl, hR _ (hS.below hb2)⟩))); simp only [pu]) | (refine wpSteady_pass ?_ ?_; (focus rfl); simp only [pu]))
      refine wpSteady_nil (fun uA hSA => ?_)
      have hcA := hSA.cells; have hbA := hSA.old; have hzA := hSA.size; clear hSA; simp only [Cells] at hcA; obtain ⟨hcoA, hfoA⟩ := bcell hbA
      go_wp2
      go_ret
      exact ⟨rfl, hbA⟩
  ·have k1i : ¬ (k : Int) + 1 < n := by omega
   have hRf : R = false := by
    rw [← hR, List.getElem?_eq_none (show cs.length ≤ k + 1 by omega)]
    split <;> rename_i h1 h2
    ·cases h2
    ·rfl
   subst hRf
   clear hopen hR
   go_enter Tryz.func71, Tryz.ntmps71
   go_upto_region 1 with fail
   refine wp_region_steady (Held w 0 []) (by kernel_rfl) (by kernel_rfl) ⟨belt, (by (try simp) <;> omega), (by first | exact trivial | (simp only [Cells]; go_simp))⟩ ?_
   repeat (first | (refine' wpSteady_do _ _ _; rotate_left; (focus rfl); (focus (intro w1 hS R hR; have hc := hS.cells; simp only [Cells] at hc; obtain ⟨hco, hfo⟩ := bcell hS.old; go_simp; (try go_bits); first | exact hR _ hS | fail)); simp only [pu]) | (refine wpSteady_pass ?_ ?_; (focus rfl); simp only [pu]))
   refine wpSteady_nil (fun uA hSA => ?_)
   have hcA := hSA.cells; have hbA := hSA.old; have hzA := hSA.size; clear hSA; simp only [Cells] at hcA; obtain ⟨hcoA, hfoA⟩ := bcell hbA
   go_wp2
   go_ret
   exact ⟨rfl, hbA⟩
 ·have hRf : R = false := by rw [← hR, decide_eq_false i0]; rfl
  subst hRf
  clear hopen hR
  go_enter Tryz.func71, Tryz.ntmps71
  go_upto_region 1 with fail
  refine wp_region_steady (Held w 0 []) (by kernel_rfl) (by kernel_rfl) ⟨belt, (by (try simp) <;> omega), (by first | exact trivial | (simp only [Cells]; go_simp))⟩ ?_
  repeat (first | (refine' wpSteady_do _ _ _; rotate_left; (focus rfl); (focus (intro w1 hS R hR; have hc := hS.cells; simp only [Cells] at hc; obtain ⟨hco, hfo⟩ := bcell hS.old; go_simp; (try go_bits); first | exact hR _ hS | fail)); simp only [pu]) | (refine wpSteady_pass ?_ ?_; (focus rfl); simp only [pu]))
  refine wpSteady_nil (fun uA hSA => ?_)
  have hcA := hSA.cells; have hbA := hSA.old; have hzA := hSA.size; clear hSA; simp only [Cells] at hcA; obtain ⟨hcoA, hfoA⟩ := bcell hbA
  go_wp2
  go_ret
  exact ⟨rfl, hbA⟩
end Go.Proofs.YtffmomgmkpmpkaaGreatDoor
