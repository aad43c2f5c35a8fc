/-
  Cells: a screen's text, by the program.
-/
import Derived.IntWalk
import Derived.Lib.AppendIntMem
import Derived.Lib.LaidTab
import Derived.Test.YtfcphagmjijmkaaGreatDoorDd17
import Derived.Test.YtfcphagmjijmkaaGreatDoorDd20
namespace Go.Proofs.YtfcphagmjijmkaaGreatDoor
open Go.RowKit
set_option linter.unusedVariables false
set_option linter.unusedSimpArgs false
attribute [local go_sem] vwp vUpon_value vUpon_skip vUpon_enter vUpon_row
set_option maxHeartbeats 16000000
theorem may_rune {c : Ce} (h : mayC c = true) : -2147483648 ≤ c.rune ∧ c.rune ≤ 2147483647 := by
 have hv : validR c.rune = true := by
  cases hv : validR c.rune
  ·simp [mayC, hv] at h
  ·rfl
 unfold validR at hv; simp only [Bool.or_eq_true, Bool.and_eq_true, decide_eq_true_eq] at hv; omega
theorem enc_len4 (r : Int) : (Lib.encodeRune r).length ≤ 4 := by
 rw [← Lib.runeCells_length]; exact (Lib.runeCells_le r).2
theorem bytes_len (l : List UInt8) : (Lib.byteCells l).length = l.length := by simp [Lib.byteCells]
theorem bytes_app (l m : List UInt8) : Lib.byteCells l ++ Lib.byteCells m = Lib.byteCells (l ++ m) := by simp [Lib.byteCells]
def DigT (w : World) : Prop := Lib.TabIs Tryz.prog w "internal/strconv.uint64pow10" .u64 Lib.pow10Tab
theorem DigT.below {w w' : World} {B : Nat} (h : DigT w) (hb : Below B w w') (hB : w.heap.size ≤ B) : DigT w' := by
 unfold DigT Lib.TabIs World.var? at *
 cases hg : Tryz.prog.globalNamed "internal/strconv.uint64pow10" with
 | none => rw [hg] at h; cases h
 | some g =>
  rw [hg] at h; simp only [Option.bind_some] at h ⊢
  have hlt : g < w.heap.size := by
   rcases Nat.lt_or_ge g w.heap.size with h1 | h1
   ·exact h1
   ·rw [Array.getElem?_eq_none h1] at h; cases h
  rw [hb.block g (by omega)]; exact h
theorem itoa_any (n : Int) (w : World) (ht : DigT w) (h0 : I64 n) : Calls Tryz.prog 149 #[.int .i64 n] w fun e w' => e = .returned (.string ⟨(Lib.itoa n).toArray⟩) ∧ Below w.heap.size w w' :=
 (Tryz.strconv_Itoa n h0.1 h0.2 w ht).mono fun _ _ ⟨he, k, os, hw⟩ => ⟨he, hw ▸ Lib.below_grow _ _ lrr _ _⟩
theorem dec_len : ∀ (k u : Nat), u < 10 ^ (k + 1) → (Lib.decDigits u).length ≤ k + 1
 | 0, u, h => by rw [Lib.decDigits, dif_pos (by omega)]; simp
 | k + 1, u, h => by
  by_cases hs : u < 10
  ·rw [Lib.decDigits, dif_pos hs]; simp
  ·rw [Lib.decDigits, dif_neg (by omega), List.length_append]
   have := dec_len k (u / 10) (by rw [Nat.pow_succ] at h; omega)
   simp
   omega
theorem itoa_len {n : Int} (h : I64 n) : (Lib.itoa n).length ≤ 21 := by
 unfold I64 at h; have h2 := dec_len 19 n.natAbs (by omega); have h3 := dec_len 19 n.toNat (by omega); unfold Lib.itoa
 split <;> simp <;> omega
def semiL (ns : List Int) : List UInt8 := ns.flatMap fun n => 59 :: Lib.itoa n
def numsL : List Int → List UInt8
 | [] => []
 | n :: r => Lib.itoa n ++ semiL r
def escL (c : UInt8) (ns : List Int) : List UInt8 := [27, 91] ++ (numsL ns ++ [c])
theorem numsL_snoc {ns : List Int} {i : Nat} {x : Int} (hx : ns[i]? = some x) : numsL (ns.take (i + 1)) = numsL (ns.take i) ++ ((if 0 < i then [59] else []) ++ Lib.itoa x) := by
 cases ns with
 | nil => simp at hx
 | cons n r =>
  cases i with
  | zero => simp at hx; subst hx; simp [numsL, semiL]
  | succ j =>
   rw [List.getElem?_cons_succ] at hx; rw [List.take_succ_cons, List.take_succ_cons, numsL, numsL, List.take_add_one, hx]
   simp [semiL]
theorem numsL_len : ∀ (ns : List Int), (∀ n ∈ ns, I64 n) → (numsL ns).length ≤ 22 * ns.length
 | [], _ => by simp [numsL]
 | n :: r, h => by
  have key : ∀ r : List Int, (∀ n ∈ r, I64 n) → (semiL r).length ≤ 22 * r.length := by
   intro r
   induction r with
   | nil => intro _; simp [semiL]
   | cons m t ih =>
    intro h
    have h1 := ih (fun x hx => h x (List.mem_cons_of_mem _ hx)); have h2 := itoa_len (h m List.mem_cons_self); unfold semiL at h1 ⊢; rw [List.flatMap_cons, List.length_append, List.length_cons, List.length_cons]; omega
  have h1 := key r (fun x hx => h x (List.mem_cons_of_mem _ hx)); have h2 := itoa_len (h n List.mem_cons_self); rw [numsL, List.length_append, List.length_cons]; omega
/-! ### a writer over bytes -/
abbrev IsW (B b : Nat) (l : List UInt8) (tl : List Value) (w : World) : Prop := WrI B b (Lib.byteCells l) tl w
theorem IsW.below {B b : Nat} {l : List UInt8} {tl : List Value} {w w' : World} (h : IsW B b l tl w) (hw : Below w.heap.size w w') : IsW B b l tl w' := h.elim (fun x => .inl (x.below hw)) (fun x => .inr (x.below hw))
theorem IsW.blk {B b : Nat} {l : List UInt8} {tl : List Value} {w : World} (h : IsW B b l tl w) : B ≤ b ∧ b < w.heap.size ∧ tl.length = 8 ∧ ∃ cs, Blk w b cs 160 ∧ cs.length = 10 ∧ ∀ j, cs[j + 2]? = tl[j]? := by
 rcases h with h | h
 all_goals
  obtain ⟨hB, ht, v, hb, _⟩ := h; exact ⟨hB, hb.lt, ht, _, hb, by simp [ht], fun j => rfl⟩
theorem blk_ne {w : World} {g b : Nat} {cs cs' : List Value} {T T' : TypeId} (h : Blk w g cs T) (h' : Blk w b cs' T') (hT : T ≠ T') : g ≠ b := by
 rintro rfl
 unfold Blk at h h'; rw [h] at h'
 injection h' with h'
 injection h' with _ e
 exact hT e
theorem isW_of {B b : Nat} {l m : List UInt8} {tl xs : List Value} {w : World} (hx : xs = Lib.byteCells m) (h : Wr B b (.pointer (some ⟨b, 0, none⟩)) (Lib.byteCells l ++ xs) tl w) : IsW B b (l ++ m) tl w := by
 subst hx; rw [bytes_app] at h; exact .inr h
theorem wrtB (B b : Nat) (l : List UInt8) (tl : List Value) (c : UInt8) (k : Int) (hk : (c.toNat : Int) = k) (w : World) (h : IsW B b l tl w) (hlen : l.length ≤ 100000000) (hBw : B ≤ w.heap.size) :
  Calls Tryz.prog 148 #[.pointer (some ⟨b, 0, none⟩), .int .u8 k] w fun e w' => e = .returned .nilIface ∧ IsW B b (l ++ [c]) tl w' ∧ Below B w w' ∧ Lib.OthersKept 5 (some b) w w' := by
 subst hk
 exact (wr_byte B b _ tl (c.toNat : Int) w h (by rw [bytes_len]; omega) hBw).mono fun _ _ ⟨he, h1, h2, h3⟩ => ⟨he, isW_of (by simp [Lib.byteCells]) h1, h2, h3⟩
theorem wrtR (B b : Nat) (l : List UInt8) (tl : List Value) (r : Int) (w : World) (h : IsW B b l tl w) (hr0 : -2147483648 ≤ r) (hr1 : r ≤ 2147483647) (hlen : l.length ≤ 100000000) (hBw : B ≤ w.heap.size) :
  Calls Tryz.prog 151 #[.pointer (some ⟨b, 0, none⟩), .int .i32 r] w fun e w' => (∃ v, e = .returned v) ∧ IsW B b (l ++ Lib.encodeRune r) tl w' ∧ Below B w w' ∧ Lib.OthersKept 5 (some b) w w' :=
 (wr_rune B b _ tl r w h hr0 hr1 (by rw [bytes_len]; omega) hBw).mono fun _ _ ⟨he, h1, h2, h3⟩ => ⟨⟨_, he⟩, isW_of (Lib.byteCells_encodeRune r).symm h1, h2, h3⟩
theorem wrtS (B b : Nat) (l : List UInt8) (tl : List Value) (m : List UInt8) (w : World) (h : IsW B b l tl w) (hs : m.length ≤ 1000000) (hlen : l.length ≤ 100000000) (hBw : B ≤ w.heap.size) :
  Calls Tryz.prog 147 #[.pointer (some ⟨b, 0, none⟩), .string ⟨m.toArray⟩] w fun e w' => (∃ v, e = .returned v) ∧ IsW B b (l ++ m) tl w' ∧ Below B w w' ∧ Lib.OthersKept 5 (some b) w w' :=
 (wr_str B b _ tl ⟨m.toArray⟩ w h (by rw [bytes_len]; show _ + m.toArray.size ≤ _; simp; omega) hBw).mono fun _ _ ⟨he, h1, h2, h3⟩ => ⟨⟨_, he⟩, isW_of (by simp [Lib.byteCells, Lib.strCells]) h1, h2, h3⟩
set_option maxRecDepth 100000 in
theorem esc_any (B b : Nat) (l : List UInt8) (tl : List Value) (c : UInt8) (k : Int) (hk : (c.toNat : Int) = k) (ns : List Int) (g cap : Nat) (w : World) (h : IsW B b l tl w) (hg : Blk w g (ns.map (.int .i64 ·)) 3) (hBw : B ≤ w.heap.size)
  (hns : ∀ n ∈ ns, I64 n) (hl : l.length ≤ 50000000) (hn0 : ns.length ≤ 10) (hnc : ns.length ≤ cap) (hD : ∀ w', Below B w w' → DigT w') :
  Calls Tryz.prog 108 #[.pointer (some ⟨b, 0, none⟩), .int .u8 k, .slice (some ⟨g, 0, none⟩) ns.length cap] w fun e w' => e = .returned (.tuple #[]) ∧ IsW B b (l ++ escL c ns) tl w' ∧ Below B w w' ∧ Lib.OthersKept 5 (some b) w w' := by
 obtain ⟨n, hn⟩ := exx (ns.length)
 have hgb : g ≠ b := by
  obtain ⟨_, _, _, cs, hbb, _⟩ := h.blk; exact blk_ne hg hbb (by decide)
 rw [hn] at hn0 hnc ⊢; replace hn := hdh hn; have hg' := hdh hg; have h' := hdh h; have hD' := hdh hD; clear hg h hD
 go_enter Tryz.func108, Tryz.ntmps108
 go_upto_region 2 with (go_at_call 147; (with_reducible refine (wrtS B b l tl [27, 91] _ h'.out (by decide) (by omega) hBw).mono ?_); rintro e w1 ⟨⟨v1, rfl⟩, h1, hb1, hk1⟩)
 replace h1 := hdh h1; replace hk1 := hdh hk1
 go_loopw [14] (fun iv wr => ∃ i : Nat, i ≤ n ∧ iv = .int .i64 i ∧ Hid (IsW B b (l ++ [27, 91] ++ numsL (ns.take i)) tl wr) ∧ Below B w wr ∧ Hid (Lib.OthersKept 5 (some b) w wr)) (fun iv _ => n - (intOf iv).toNat)
 case atStart => exact ⟨0, Nat.zero_le _, rfl, by simpa [numsL] using h1, hb1, hk1⟩
 case round =>
  clear h1 hb1 hk1; obtain ⟨i, hi, rfl, hw, hb, ho⟩ := hrel; obtain ⟨W, rfl⟩ : ∃ W, W = wr := ⟨_, rfl⟩; have zW := hb.size
  have hlen0 : (l ++ [27, 91] ++ numsL (ns.take i)).length ≤ 60000000 := by
   have := numsL_len (ns.take i) (fun x hx => hns x (List.mem_of_mem_take hx)); rw [List.length_append, List.length_append]; rw [List.length_take] at this; simp only [List.length_cons, List.length_nil]; omega
  by_cases hin : i < n
  ·have hii : (i : Int) < n := by omega
   obtain ⟨x, hx⟩ := get_at hn.out hin; have hsn := numsL_snoc hx; have hx64 := hns x (List.mem_of_getElem? hx); have hgW := hg'.out.others ho.out hgb (by decide); have gx := hgW.cell (o := i) (v := .int .i64 x) (by rw [List.getElem?_map, hx]; rfl); replace hgW := hdh hgW; replace hx := hdh hx
   by_cases h0 : 0 < i
   ·have hi0 : (0 : Int) < i := by omega
    rw [if_pos h0] at hsn
    go_upto_region 6 with (go_at_call 148; (with_reducible refine (wrtB B b _ tl 59 59 rfl _ hw.out (by omega) (by omega)).mono ?_); rintro e W2 ⟨rfl, h3, hb3, hk3⟩)
    replace h3 := hdh h3; replace hk3 := hdh hk3; have z3 := hb3.size; have hDW := hD'.out W2 (hb.trans hb3); have IT := hdh (fun u (hu : Below W2.heap.size W2 u) => itoa_any x u (hDW.below hu lrr) hx64); have z4 := itoa_len hx64
    have z5 : (l ++ [27, 91] ++ numsL (ns.take i) ++ [59]).length ≤ 100000000 := by rw [List.length_append]; simp only [List.length_cons, List.length_nil]; omega
    refine wp_region_steady_then (Held W2 0 []) 5 (by kernel_rfl) (by kernel_rfl) (by decide) (by kernel_rfl) (by kernel_rfl) ⟨belt, (by (try simp) <;> omega), (by first | exact trivial | (simp only [Cells]; go_simp))⟩ ?_; simp only [List.take_succ_cons, List.take_zero]
    repeat (first | (refine' wpSteady_do _ _ _; rotate_left; (focus rfl); (focus (intro w1 hS R hR; have hc := hS.cells; simp only [Cells] at hc; obtain ⟨hco, hfo⟩ := bcell hS.old; go_simp; (try go_bits); first | exact hR _ hS | (go_at_call 149; (with_reducible refine cmm (IT.out _ hS.old) fun w2 hb2 => ?_); exact ⟨_, rfl, hR _ (hS.below hb2)⟩))); simp only [pu]) | (refine spa ?_; simp only [pu]))
    refine wpSteady_nil (fun uA hSA => ?_); obtain ⟨hcA, hbA, hzA, hcoA, hfoA⟩ := hall hSA; clear hSA; simp only [Cells] at hcA; simp only [List.drop_succ_cons, List.drop_zero, List.drop_nil]; have z6 := hbA.size
    go_wp2_with (go_at_call 147; (with_reducible refine (wrtS B b _ tl (Lib.itoa x) _ (h3.out.below hbA) (by omega) (by omega) (by omega)).mono ?_); rintro e w2 ⟨⟨v2, rfl⟩, h2, hb2, hk2⟩; replace h2 := hdh h2; replace hk2 := hdh hk2)
    go_roundw
    case rel => exact ⟨i + 1, by omega, by go_num, hdh (by rw [hsn]; simpa using h2.out), (hb.trans hb3).trans ((hbA.mono (by omega)).trans hb2), hdh (((ho.out.trans hk3.out).trans (oth_below hbA)).trans hk2.out)⟩
    case measure => simp [intOf]; omega
   ·have hi0 : ¬ (0 : Int) < i := by omega
    rw [if_neg h0] at hsn
    go_upto_region 6 with fail
    have hDW := hD'.out W hb; have IT := hdh (fun u (hu : Below W.heap.size W u) => itoa_any x u (hDW.below hu lrr) hx64); have z4 := itoa_len hx64; refine wp_region_steady_then (Held W 0 []) 5 (by kernel_rfl) (by kernel_rfl) (by decide) (by kernel_rfl) (by kernel_rfl) ⟨belt, (by (try simp) <;> omega), (by first | exact trivial | (simp only [Cells]; go_simp))⟩ ?_; simp only [List.take_succ_cons, List.take_zero]
    repeat (first | (refine' wpSteady_do _ _ _; rotate_left; (focus rfl); (focus (intro w1 hS R hR; have hc := hS.cells; simp only [Cells] at hc; obtain ⟨hco, hfo⟩ := bcell hS.old; go_simp; (try go_bits); first | exact hR _ hS | (go_at_call 149; (with_reducible refine cmm (IT.out _ hS.old) fun w2 hb2 => ?_); exact ⟨_, rfl, hR _ (hS.below hb2)⟩))); simp only [pu]) | (refine spa ?_; simp only [pu]))
    refine wpSteady_nil (fun uA hSA => ?_); obtain ⟨hcA, hbA, hzA, hcoA, hfoA⟩ := hall hSA; clear hSA; simp only [Cells] at hcA; simp only [List.drop_succ_cons, List.drop_zero, List.drop_nil]; have z6 := hbA.size
    go_wp2_with (go_at_call 147; (with_reducible refine (wrtS B b _ tl (Lib.itoa x) _ (hw.out.below hbA) (by omega) (by omega) (by omega)).mono ?_); rintro e w2 ⟨⟨v2, rfl⟩, h2, hb2, hk2⟩; replace h2 := hdh h2; replace hk2 := hdh hk2)
    go_roundw
    case rel => exact ⟨i + 1, by omega, by go_num, hdh (by rw [hsn]; simpa using h2.out), hb.trans ((hbA.mono (by omega)).trans hb2), hdh ((ho.out.trans (oth_below hbA)).trans hk2.out)⟩
    case measure => simp [intOf]; omega
  ·obtain rfl : i = n := by omega
   have hii : ¬ (i : Int) < i := by omega
   rw [List.take_of_length_le (by rw [hn.out]; omega)] at hw hlen0
   go_wp2_with (go_at_call 148; (with_reducible refine (wrtB B b _ tl c k hk _ hw.out (by omega) (by omega)).mono ?_); rintro e w2 ⟨rfl, h2, hb2, hk2⟩)
   go_end0
   exact ⟨rfl, by simpa [escL] using h2, hb.trans hb2, ho.out.trans hk2⟩
section
attribute [local go_sem high] eql_colour neq_colour
theorem IsW.tail {B b : Nat} {l : List UInt8} {tl : List Value} {w : World} (h : IsW B b l tl w) {k : Nat} (hk : k < 8) (u : Value) : IsW B b l (tl.set k u) (w.setCell ⟨b, k + 2, none⟩ u) := h.elim (fun x => .inl (x.tail hk u)) (fun x => .inr (x.tail hk u))
theorem IsW.alloc {B b : Nat} {l : List UInt8} {tl : List Value} {w : World} (h : IsW B b l tl w) (o : Obj) : IsW B b l tl (w.alloc o) := h.elim (fun x => .inl (x.alloc o)) (fun x => .inr (x.alloc o))
def dipL (n : Int) (t c : Co) : List UInt8 := if t.eqb c then [] else escL 109 [n, 2, c.r, c.g, c.b, c.a]
set_option maxRecDepth 100000 in
theorem dip2 (B b : Nat) (l : List UInt8) (t0 t1 t2 t3 x0 x1 x2 x3 c0 c1 c2 c3 n : Int) (w : World) (h : IsW B b l [.int .u8 t0, .int .u8 t1, .int .u8 t2, .int .u8 t3, .int .u8 x0, .int .u8 x1, .int .u8 x2, .int .u8 x3] w) (hBw : B ≤ w.heap.size) (hn : I64 n) (hc : 0 ≤ c0 ∧ c0 ≤ 255 ∧ 0 ≤ c1 ∧ c1 ≤ 255 ∧ 0 ≤ c2 ∧ c2 ≤ 255 ∧ 0 ≤ c3 ∧ c3 ≤ 255) (hl : l.length ≤ 50000000) (hD : ∀ w', Below B w w' → DigT w') :
  Calls Tryz.prog 150 #[.pointer (some ⟨b, 0, none⟩), .pointer (some ⟨b, 2, none⟩), .agg #[.int .u8 c0, .int .u8 c1, .int .u8 c2, .int .u8 c3], .int .i64 n] w fun e w' => e = .returned (.tuple #[]) ∧ IsW B b (l ++ dipL n ⟨t0, t1, t2, t3⟩ ⟨c0, c1, c2, c3⟩) [.int .u8 c0, .int .u8 c1, .int .u8 c2, .int .u8 c3, .int .u8 x0, .int .u8 x1, .int .u8 x2, .int .u8 x3] w' ∧ Below B w w' ∧ Lib.OthersKept 5 (some b) w w' := by
 obtain ⟨e0, he0⟩ := exx (eq4 t0 t1 t2 t3 c0 c1 c2 c3)
 have hdip : dipL n ⟨t0, t1, t2, t3⟩ ⟨c0, c1, c2, c3⟩ = if e0 then [] else escL 109 [n, 2, c0, c1, c2, c3] := by unfold dipL Co.eqb; rw [he0]
 have h' := hdh h; have hD' := hdh hD; clear h hD
 go_enter Tryz.func150, Tryz.ntmps150
 go_upto_region 1 with fail
 obtain ⟨W, hW⟩ := exx (w.alloc (.cells #[.int .u8 c0, .int .u8 c1, .int .u8 c2, .int .u8 c3] 34))
 have B2 : Blk W w.heap.size [.int .u8 c0, .int .u8 c1, .int .u8 c2, .int .u8 c3] 34 := by rw [← hW]; exact Blk.new' rfl
 have hbw : Below w.heap.size w W := by rw [← hW]; exact belt
 have hW1 : IsW B b l [.int .u8 t0, .int .u8 t1, .int .u8 t2, .int .u8 t3, .int .u8 x0, .int .u8 x1, .int .u8 x2, .int .u8 x3] W := by rw [← hW]; exact h'.out.alloc _
 have zW : W.heap.size = w.heap.size + 1 := by rw [← hW]; simp
 rw [hW]; clear hW; replace zW := hdh zW; obtain ⟨hBb, ybb, _, cs, hbb, hcl, hcs⟩ := hW1.blk; have yB2 := B2.lt; have k0 := B2.cell (o := 0) rfl; have k1 := B2.cell (o := 1) rfl; have k2 := B2.cell (o := 2) rfl; have k3 := B2.cell (o := 3) rfl; have j0 := hbb.cell (o := 2) ((hcs 0).trans rfl); have j1 := hbb.cell (o := 2 + 1) ((hcs 1).trans rfl); have j2 := hbb.cell (o := 2 + 2) ((hcs 2).trans rfl); have j3 := hbb.cell (o := 2 + 3) ((hcs 3).trans rfl); replace hW1 := hdh hW1; replace hbb := hdh hbb; refine rst (Held W 0 []) ?_
 repeat (first | (refine' sdo ?_; simp only [pu]) | (refine spa ?_; simp only [pu]))
 refine wpSteady_nil (fun uA hSA => ?_); obtain ⟨hcA, hbA, hzA, hcoA, hfoA⟩ := hall hSA; clear hSA; simp only [Cells] at hcA; have hWA := hdh (hW1.out.below hbA); have hoA := hdh ((show Lib.OthersKept 5 (some b) w W from oth_below hbw).trans (oth_below hbA)); have hBA : Below B w uA := (hbw.mono hBw).trans (hbA.mono (by have := zW.out; omega)); have B2A := B2.below hbA yB2; have bbA := hbb.out.below hbA (by have := zW.out; omega); have zA := hbA.size; have zW' := zW.out
 have gb2 : w.heap.size ≠ b := by have := h'.out.blk.2.1; omega
 have yb1 := bbA.lt
 cases e0
 ·have ES := fun u (hu : IsW B b l [.int .u8 t0, .int .u8 t1, .int .u8 t2, .int .u8 t3, .int .u8 x0, .int .u8 x1, .int .u8 x2, .int .u8 x3] u) g (hg : Blk u g [.int .i64 n, .int .i64 2, .int .i64 c0, .int .i64 c1, .int .i64 c2, .int .i64 c3] 3) (hB : B ≤ u.heap.size) (hd : ∀ w', Below B u w' → DigT w') =>
   (show Calls Tryz.prog 108 #[.pointer (some ⟨b, 0, none⟩), .int .u8 109, .slice (some ⟨g, 0, none⟩) 6 6] u _ from esc_any B b l _ 109 109 rfl [n, 2, c0, c1, c2, c3] g 6 u hu hg hB (by
    intro x hx
    simp only [List.mem_cons, List.not_mem_nil, or_false] at hx; unfold I64 at hn ⊢
    rcases hx with rfl | rfl | rfl | rfl | rfl | rfl <;> omega) hl (by show (6 : Nat) ≤ 10; decide) (by show (6 : Nat) ≤ 6; decide) hd)
  obtain ⟨T, hT⟩ := exx (escL 109 [n, 2, c0, c1, c2, c3]); rw [hT] at ES hdip; simp only [Bool.false_eq_true, if_false] at hdip; replace ES := hdh ES; replace bbA := hdh bbA; replace B2A := hdh B2A
  go_wp2_with (go_at_call 108; (with_reducible refine (ES.out _ (hWA.out.alloc _) _ (Blk.new _ _ _) (by simp; omega) (fun u hu => hD'.out u (hBA.trans ((Below.alloc (Below.refl _ _) (by omega) _).trans hu)))).mono ?_))
  rintro e w2 ⟨rfl, h2, hb2, hk2⟩
  have hk2' := ((hoA.out.alloc (.cells #[.int .i64 n, .int .i64 2, .int .i64 c0, .int .i64 c1, .int .i64 c2, .int .i64 c3] 3)).trans hk2); have C2 := (B2A.out.alloc (.cells #[.int .i64 n, .int .i64 2, .int .i64 c0, .int .i64 c1, .int .i64 c2, .int .i64 c3] 3)).others hk2 gb2 (by decide); obtain ⟨_, _, _, cs2, D2, dl2, ds2⟩ := h2.blk; have hB2' : Below B w w2 := hBA.trans ((Below.alloc (Below.refl _ _) (by omega) _).trans hb2); replace h2 := hdh h2; replace hk2' := hdh hk2'; replace hB2' := hdh hB2'; clear k0 k1 k2 k3 j0 j1 j2 j3 hcA hcoA hfoA hb2 hk2 hbA ES; have k0 := C2.cell (o := 0) rfl; have k1 := C2.cell (o := 1) rfl
  have k2 := C2.cell (o := 2) rfl; have k3 := C2.cell (o := 3) rfl; have j0 := D2.cell (o := 2) ((ds2 0).trans rfl); have j1 := D2.cell (o := 2 + 1) ((ds2 1).trans rfl); have j2 := D2.cell (o := 2 + 2) ((ds2 2).trans rfl); have j3 := D2.cell (o := 2 + 3) ((ds2 3).trans rfl); have jf := D2.free; replace D2 := hdh D2; replace C2 := hdh C2; go_wp2
  go_end0
  refine ⟨rfl, ?_, (((hB2'.out.setCell (p := ⟨b, 2, none⟩) hBb _).setCell (p := ⟨b, 2 + 1, none⟩) hBb _).setCell (p := ⟨b, 2 + 2, none⟩) hBb _).setCell (p := ⟨b, 2 + 3, none⟩) hBb _, (((hk2'.out.setCell ⟨b, 2, none⟩ rfl _).setCell ⟨b, 2 + 1, none⟩ rfl _).setCell ⟨b, 2 + 2, none⟩ rfl _).setCell ⟨b, 2 + 3, none⟩ rfl _⟩; rw [hdip]; exact (((h2.out.tail (k := 0) (by decide) _).tail (k := 1) (by decide) _).tail (k := 2) (by decide) _).tail (k := 3) (by decide) _
 ·simp only [if_true] at hdip
  obtain ⟨q0, q1, q2, q3⟩ := eq4_iff.1 he0; subst q0 q1 q2 q3; go_wp2
  go_end0
  exact ⟨rfl, by rw [hdip, List.append_nil]; exact hWA.out, hBA, hoA.out⟩
set_option maxRecDepth 100000 in
theorem dip6 (B b : Nat) (l : List UInt8) (t0 t1 t2 t3 x0 x1 x2 x3 c0 c1 c2 c3 n : Int) (w : World) (h : IsW B b l [.int .u8 x0, .int .u8 x1, .int .u8 x2, .int .u8 x3, .int .u8 t0, .int .u8 t1, .int .u8 t2, .int .u8 t3] w) (hBw : B ≤ w.heap.size) (hn : I64 n) (hc : 0 ≤ c0 ∧ c0 ≤ 255 ∧ 0 ≤ c1 ∧ c1 ≤ 255 ∧ 0 ≤ c2 ∧ c2 ≤ 255 ∧ 0 ≤ c3 ∧ c3 ≤ 255) (hl : l.length ≤ 50000000) (hD : ∀ w', Below B w w' → DigT w') :
  Calls Tryz.prog 150 #[.pointer (some ⟨b, 0, none⟩), .pointer (some ⟨b, 6, none⟩), .agg #[.int .u8 c0, .int .u8 c1, .int .u8 c2, .int .u8 c3], .int .i64 n] w fun e w' => e = .returned (.tuple #[]) ∧ IsW B b (l ++ dipL n ⟨t0, t1, t2, t3⟩ ⟨c0, c1, c2, c3⟩) [.int .u8 x0, .int .u8 x1, .int .u8 x2, .int .u8 x3, .int .u8 c0, .int .u8 c1, .int .u8 c2, .int .u8 c3] w' ∧ Below B w w' ∧ Lib.OthersKept 5 (some b) w w' := by
 obtain ⟨e0, he0⟩ := exx (eq4 t0 t1 t2 t3 c0 c1 c2 c3)
 have hdip : dipL n ⟨t0, t1, t2, t3⟩ ⟨c0, c1, c2, c3⟩ = if e0 then [] else escL 109 [n, 2, c0, c1, c2, c3] := by unfold dipL Co.eqb; rw [he0]
 have h' := hdh h; have hD' := hdh hD; clear h hD
 go_enter Tryz.func150, Tryz.ntmps150
 go_upto_region 1 with fail
 obtain ⟨W, hW⟩ := exx (w.alloc (.cells #[.int .u8 c0, .int .u8 c1, .int .u8 c2, .int .u8 c3] 34))
 have B2 : Blk W w.heap.size [.int .u8 c0, .int .u8 c1, .int .u8 c2, .int .u8 c3] 34 := by rw [← hW]; exact Blk.new' rfl
 have hbw : Below w.heap.size w W := by rw [← hW]; exact belt
 have hW1 : IsW B b l [.int .u8 x0, .int .u8 x1, .int .u8 x2, .int .u8 x3, .int .u8 t0, .int .u8 t1, .int .u8 t2, .int .u8 t3] W := by rw [← hW]; exact h'.out.alloc _
 have zW : W.heap.size = w.heap.size + 1 := by rw [← hW]; simp
 rw [hW]; clear hW; replace zW := hdh zW; obtain ⟨hBb, ybb, _, cs, hbb, hcl, hcs⟩ := hW1.blk; have yB2 := B2.lt; have k0 := B2.cell (o := 0) rfl; have k1 := B2.cell (o := 1) rfl; have k2 := B2.cell (o := 2) rfl; have k3 := B2.cell (o := 3) rfl; have j0 := hbb.cell (o := 6) ((hcs 4).trans rfl); have j1 := hbb.cell (o := 6 + 1) ((hcs 5).trans rfl); have j2 := hbb.cell (o := 6 + 2) ((hcs 6).trans rfl); have j3 := hbb.cell (o := 6 + 3) ((hcs 7).trans rfl); replace hW1 := hdh hW1; replace hbb := hdh hbb; refine rst (Held W 0 []) ?_
 repeat (first | (refine' sdo ?_; simp only [pu]) | (refine spa ?_; simp only [pu]))
 refine wpSteady_nil (fun uA hSA => ?_); obtain ⟨hcA, hbA, hzA, hcoA, hfoA⟩ := hall hSA; clear hSA; simp only [Cells] at hcA; have hWA := hdh (hW1.out.below hbA); have hoA := hdh ((show Lib.OthersKept 5 (some b) w W from oth_below hbw).trans (oth_below hbA)); have hBA : Below B w uA := (hbw.mono hBw).trans (hbA.mono (by have := zW.out; omega)); have B2A := B2.below hbA yB2; have bbA := hbb.out.below hbA (by have := zW.out; omega); have zA := hbA.size; have zW' := zW.out
 have gb2 : w.heap.size ≠ b := by have := h'.out.blk.2.1; omega
 have yb1 := bbA.lt
 cases e0
 ·have ES := fun u (hu : IsW B b l [.int .u8 x0, .int .u8 x1, .int .u8 x2, .int .u8 x3, .int .u8 t0, .int .u8 t1, .int .u8 t2, .int .u8 t3] u) g (hg : Blk u g [.int .i64 n, .int .i64 2, .int .i64 c0, .int .i64 c1, .int .i64 c2, .int .i64 c3] 3) (hB : B ≤ u.heap.size) (hd : ∀ w', Below B u w' → DigT w') =>
   (show Calls Tryz.prog 108 #[.pointer (some ⟨b, 0, none⟩), .int .u8 109, .slice (some ⟨g, 0, none⟩) 6 6] u _ from esc_any B b l _ 109 109 rfl [n, 2, c0, c1, c2, c3] g 6 u hu hg hB (by
    intro x hx
    simp only [List.mem_cons, List.not_mem_nil, or_false] at hx; unfold I64 at hn ⊢
    rcases hx with rfl | rfl | rfl | rfl | rfl | rfl <;> omega) hl (by show (6 : Nat) ≤ 10; decide) (by show (6 : Nat) ≤ 6; decide) hd)
  obtain ⟨T, hT⟩ := exx (escL 109 [n, 2, c0, c1, c2, c3]); rw [hT] at ES hdip; simp only [Bool.false_eq_true, if_false] at hdip; replace ES := hdh ES; replace bbA := hdh bbA; replace B2A := hdh B2A
  go_wp2_with (go_at_call 108; (with_reducible refine (ES.out _ (hWA.out.alloc _) _ (Blk.new _ _ _) (by simp; omega) (fun u hu => hD'.out u (hBA.trans ((Below.alloc (Below.refl _ _) (by omega) _).trans hu)))).mono ?_))
  rintro e w2 ⟨rfl, h2, hb2, hk2⟩
  have hk2' := ((hoA.out.alloc (.cells #[.int .i64 n, .int .i64 2, .int .i64 c0, .int .i64 c1, .int .i64 c2, .int .i64 c3] 3)).trans hk2); have C2 := (B2A.out.alloc (.cells #[.int .i64 n, .int .i64 2, .int .i64 c0, .int .i64 c1, .int .i64 c2, .int .i64 c3] 3)).others hk2 gb2 (by decide); obtain ⟨_, _, _, cs2, D2, dl2, ds2⟩ := h2.blk; have hB2' : Below B w w2 := hBA.trans ((Below.alloc (Below.refl _ _) (by omega) _).trans hb2); replace h2 := hdh h2; replace hk2' := hdh hk2'; replace hB2' := hdh hB2'; clear k0 k1 k2 k3 j0 j1 j2 j3 hcA hcoA hfoA hb2 hk2 hbA ES; have k0 := C2.cell (o := 0) rfl; have k1 := C2.cell (o := 1) rfl
  have k2 := C2.cell (o := 2) rfl; have k3 := C2.cell (o := 3) rfl; have j0 := D2.cell (o := 6) ((ds2 4).trans rfl); have j1 := D2.cell (o := 6 + 1) ((ds2 5).trans rfl); have j2 := D2.cell (o := 6 + 2) ((ds2 6).trans rfl); have j3 := D2.cell (o := 6 + 3) ((ds2 7).trans rfl); have jf := D2.free; replace D2 := hdh D2; replace C2 := hdh C2; go_wp2
  go_end0
  refine ⟨rfl, ?_, (((hB2'.out.setCell (p := ⟨b, 6, none⟩) hBb _).setCell (p := ⟨b, 6 + 1, none⟩) hBb _).setCell (p := ⟨b, 6 + 2, none⟩) hBb _).setCell (p := ⟨b, 6 + 3, none⟩) hBb _, (((hk2'.out.setCell ⟨b, 6, none⟩ rfl _).setCell ⟨b, 6 + 1, none⟩ rfl _).setCell ⟨b, 6 + 2, none⟩ rfl _).setCell ⟨b, 6 + 3, none⟩ rfl _⟩; rw [hdip]; exact (((h2.out.tail (k := 4) (by decide) _).tail (k := 5) (by decide) _).tail (k := 6) (by decide) _).tail (k := 7) (by decide) _
 ·simp only [if_true] at hdip
  obtain ⟨q0, q1, q2, q3⟩ := eq4_iff.1 he0; subst q0 q1 q2 q3; go_wp2
  go_end0
  exact ⟨rfl, by rw [hdip, List.append_nil]; exact hWA.out, hBA, hoA.out⟩
def tlW (x y : Co) : List Value := [.int .u8 x.r, .int .u8 x.g, .int .u8 x.b, .int .u8 x.a, .int .u8 y.r, .int .u8 y.g, .int .u8 y.b, .int .u8 y.a]
def markL (c : Ce) (wh : Bool) : List UInt8 := if c.wide && !wh then [14] else if c.tail then [15] else []
def cellL (x y : Co) (c : Ce) (wh : Bool) : List UInt8 := dipL 38 x c.col ++ (dipL 48 y c.back ++ (markL c wh ++ Lib.encodeRune c.rune))
theorem escL_len {c : UInt8} {ns : List Int} (h : ∀ n ∈ ns, I64 n) : (escL c ns).length ≤ 22 * ns.length + 3 := by
 have := numsL_len ns h; unfold escL; rw [List.length_append, List.length_append]; simp only [List.length_cons, List.length_nil]; omega
theorem dipL_len {n : Int} {t c : Co} (hn : I64 n) (hc : c.Wf) : (dipL n t c).length ≤ 140 := by
 unfold dipL
 split
 ·simp
 ·refine Nat.le_trans (escL_len (fun x hx => ?_)) (by show 22 * 6 + 3 ≤ 140; decide)
  unfold Co.Wf U8 at hc; simp only [List.mem_cons, List.not_mem_nil, or_false] at hx; unfold I64 at hn ⊢
  rcases hx with rfl | rfl | rfl | rfl | rfl | rfl <;> omega
set_option maxRecDepth 100000 in
theorem wcell_any (B b : Nat) (l : List UInt8) (x y : Co) (c : Ce) (wh : Bool) (w : World) (h : IsW B b l (tlW x y) w) (hBw : B ≤ w.heap.size) (hc : c.Wf) (hr : -2147483648 ≤ c.rune ∧ c.rune ≤ 2147483647) (hl : l.length ≤ 40000000) (hD : ∀ w', Below B w w' → DigT w') :
  Calls Tryz.prog 110 #[.pointer (some ⟨b, 0, none⟩), .agg #[.int .i32 (c).rune, .int .u8 (c).col.r, .int .u8 (c).col.g, .int .u8 (c).col.b, .int .u8 (c).col.a, .int .u8 (c).back.r, .int .u8 (c).back.g, .int .u8 (c).back.b, .int .u8 (c).back.a, .bool (c).wide, .bool (c).tail], .bool wh] w fun e w' => e = .returned (.tuple #[]) ∧ IsW B b (l ++ cellL x y c wh) (tlW c.col c.back) w' ∧ Below B w w' ∧ Lib.OthersKept 5 (some b) w w' := by
 obtain ⟨ru, ⟨c0, c1, c2, c3⟩, ⟨d0, d1, d2, d3⟩, wi, ta⟩ := c; obtain ⟨x0, x1, x2, x3⟩ := x; obtain ⟨y0, y1, y2, y3⟩ := y; obtain ⟨_, hc1, hc2⟩ := hc; have L1 := dipL_len (n := 38) (t := ⟨x0, x1, x2, x3⟩) (by unfold I64; omega) hc1; have L2 := dipL_len (n := 48) (t := ⟨y0, y1, y2, y3⟩) (by unfold I64; omega) hc2; unfold Co.Wf U8 at hc1 hc2; dsimp only at hc1 hc2 hr L1 L2
 have DA := fun u (hu : IsW B b l [.int .u8 x0, .int .u8 x1, .int .u8 x2, .int .u8 x3, .int .u8 y0, .int .u8 y1, .int .u8 y2, .int .u8 y3] u) hB hd => dip2 B b l x0 x1 x2 x3 y0 y1 y2 y3 c0 c1 c2 c3 38 u hu hB (by unfold I64; omega) (by omega) (by omega) hd
 have DB := fun m u (hu : IsW B b m [.int .u8 c0, .int .u8 c1, .int .u8 c2, .int .u8 c3, .int .u8 y0, .int .u8 y1, .int .u8 y2, .int .u8 y3] u) hB hd (hm : m.length ≤ 41000000) => dip6 B b m y0 y1 y2 y3 c0 c1 c2 c3 d0 d1 d2 d3 48 u hu hB (by unfold I64; omega) (by omega) (by omega) hd
 obtain ⟨P1, hP1⟩ := exx (dipL 38 ⟨x0, x1, x2, x3⟩ ⟨c0, c1, c2, c3⟩); obtain ⟨P2, hP2⟩ := exx (dipL 48 ⟨y0, y1, y2, y3⟩ ⟨d0, d1, d2, d3⟩); unfold cellL; unfold tlW at h ⊢; dsimp only at h ⊢; rw [hP1] at DA L1 ⊢; rw [hP2] at DB L2 ⊢; obtain ⟨MK, hMK⟩ := exx (markL ⟨ru, ⟨c0, c1, c2, c3⟩, ⟨d0, d1, d2, d3⟩, wi, ta⟩ wh); rw [hMK]; replace DA := hdh DA; replace DB := hdh DB; have h' := hdh h; have hD' := hdh hD; clear h hD hP1 hP2
 go_enter Tryz.func110, Tryz.ntmps110
 go_upto_region 1 with fail
 obtain ⟨W, hW⟩ := exx (w.alloc (.cells #[.int .i32 ru, .int .u8 c0, .int .u8 c1, .int .u8 c2, .int .u8 c3, .int .u8 d0, .int .u8 d1, .int .u8 d2, .int .u8 d3, .bool wi, .bool ta] 47))
 have B2 : Blk W w.heap.size [.int .i32 ru, .int .u8 c0, .int .u8 c1, .int .u8 c2, .int .u8 c3, .int .u8 d0, .int .u8 d1, .int .u8 d2, .int .u8 d3, .bool wi, .bool ta] 47 := by rw [← hW]; exact Blk.new' rfl
 have hbw : Below w.heap.size w W := by rw [← hW]; exact belt
 have zW : W.heap.size = w.heap.size + 1 := by rw [← hW]; simp
 rw [hW]; clear hW; have hW1 := hdh (h'.out.below hbw)
 have gb2 : w.heap.size ≠ b := by have := h'.out.blk.2.1; omega
 replace zW := hdh zW; have yB2 := B2.lt; have k1 := B2.cell (o := 1) rfl; have k2 := B2.cell (o := 2) rfl; have k3 := B2.cell (o := 3) rfl; have k4 := B2.cell (o := 4) rfl; refine wp_region_steady_then (Held W 0 []) 6 (by kernel_rfl) (by kernel_rfl) (by decide) (by kernel_rfl) (by kernel_rfl) ⟨belt, (by (try simp) <;> omega), (by first | exact trivial | (simp only [Cells]; go_simp))⟩ ?_; simp only [List.take_succ_cons, List.take_zero]
 repeat (first | (refine' sdo ?_; simp only [pu]) | (refine spa ?_; simp only [pu]))
 refine wpSteady_nil (fun uA hSA => ?_); obtain ⟨hcA, hbA, hzA, hcoA, hfoA⟩ := hall hSA; clear hSA; simp only [Cells] at hcA; simp only [List.drop_succ_cons, List.drop_zero, List.drop_nil]; have hBA : Below B w uA := (hbw.mono hBw).trans (hbA.mono (by have := zW.out; omega)); have hoA : Lib.OthersKept 5 (some b) w uA := (oth_below hbw).trans (oth_below hbA); have zA := hBA.size
 go_wp2_with (go_at_call 150; (with_reducible refine (DA.out _ (hW1.out.below hbA) (by omega) (fun u hu => hD'.out u (hBA.trans hu))).mono ?_))
 rintro e w2 ⟨rfl, h2, hb2, hk2⟩
 have C2 := (B2.below hbA yB2).others hk2 gb2 (by decide); have hB2 := hBA.trans hb2; have hK2 := hoA.trans hk2; clear k1 k2 k3 k4 hcA hcoA hfoA hbA hBA hoA hb2 hk2 DA yB2 B2; have yC2 := C2.lt; have k5 := C2.cell (o := 5) rfl; have k6 := C2.cell (o := 6) rfl; have k7 := C2.cell (o := 7) rfl; have k8 := C2.cell (o := 8) rfl; replace h2 := hdh h2; replace hK2 := hdh hK2
 go_upto_region 2 with fail
 refine wp_region_steady_then (Held w2 0 []) 6 (by kernel_rfl) (by kernel_rfl) (by decide) (by kernel_rfl) (by kernel_rfl) ⟨belt, (by (try simp) <;> omega), (by first | exact trivial | (simp only [Cells]; go_simp))⟩ ?_; simp only [List.take_succ_cons, List.take_zero]
 repeat (first | (refine' sdo ?_; simp only [pu]) | (refine spa ?_; simp only [pu]))
 refine wpSteady_nil (fun uB hSB => ?_); obtain ⟨hcB, hbB, hzB, hcoB, hfoB⟩ := hall hSB; clear hSB; simp only [Cells] at hcB; simp only [List.drop_succ_cons, List.drop_zero, List.drop_nil]; have hBB : Below B w uB := hB2.trans (hbB.mono (by have := hB2.size; omega)); have hoB : Lib.OthersKept 5 (some b) w uB := hK2.out.trans (oth_below hbB); have zB := hBB.size
 go_wp2_with (go_at_call 150; (with_reducible refine (DB.out _ _ (h2.out.below hbB) (by omega) (fun u hu => hD'.out u (hBB.trans hu)) (by rw [List.length_append]; omega)).mono ?_))
 rintro e w3 ⟨rfl, h3, hb3, hk3⟩
 have C3 := (C2.below hbB yC2).others hk3 gb2 (by decide); have hB3 := hBB.trans hb3; have hK3 := hoB.trans hk3; clear k5 k6 k7 k8 hcB hcoB hfoB hbB hBB hoB hb3 hk3 DB C2 h2 hB2 hK2 yC2; have yC3 := C3.lt; have k0 := C3.cell (o := 0) rfl; have k9 := C3.cell (o := 9) rfl; have k10 := C3.cell (o := 10) rfl; have zz3 := hB3.size
 have l3 : (l ++ P1 ++ P2).length ≤ 41000000 := by rw [List.length_append, List.length_append]; omega
 replace h3 := hdh h3; replace hK3 := hdh hK3; replace C3 := hdh C3
 cases wi <;> cases wh <;> cases ta
 ·simp [markL] at hMK; subst hMK
  go_upto_region 7 with fail
  refine wp_region_steady_then (Held w3 0 []) 5 (by kernel_rfl) (by kernel_rfl) (by decide) (by kernel_rfl) (by kernel_rfl) ⟨belt, (by (try simp) <;> omega), (by first | exact trivial | (simp only [Cells]; go_simp))⟩ ?_; simp only [List.take_succ_cons, List.take_zero]
  repeat (first | (refine' sdo ?_; simp only [pu]) | (refine spa ?_; simp only [pu]))
  refine wpSteady_nil (fun uC hSC => ?_); obtain ⟨hcC, hbC, hzC, hcoC, hfoC⟩ := hall hSC; clear hSC; simp only [Cells] at hcC; simp only [List.drop_succ_cons, List.drop_zero, List.drop_nil]; have zC := hbC.size; have hBC : Below B w uC := (hB3).trans (hbC.mono (by omega)); have hoC : Lib.OthersKept 5 (some b) w uC := (hK3.out).trans (oth_below hbC)
  go_wp2_with (go_at_call 151; (with_reducible refine (wrtR B b (l ++ P1 ++ P2) _ ru _ (h3.out.below hbC) (by omega) (by omega) (by omega) (by omega)).mono ?_); rintro e w5 ⟨⟨v5, rfl⟩, h5, hb5, hk5⟩; replace h5 := hdh h5; replace hk5 := hdh hk5)
  go_end0
  exact ⟨rfl, by simpa using h5.out, hBC.trans hb5, hoC.trans hk5.out⟩
 ·simp [markL] at hMK; subst hMK
  go_upto_region 7 with (go_at_call 148; (with_reducible refine (wrtB B b _ _ 15 15 rfl _ h3.out (by omega) (by omega)).mono ?_); rintro e w4 ⟨rfl, h4, hb4, hk4⟩)
  have C4 := C3.out.others hk4 gb2 (by decide); have j0 := C4.cell (o := 0) rfl; have yC4 := C4.lt; have hB4 := hB3.trans hb4; have hK4 := hK3.out.trans hk4; have zz4 := hB4.size
  have l4 : (l ++ P1 ++ P2 ++ [15]).length ≤ 41000001 := by rw [List.length_append, List.length_singleton]; omega
  replace h4 := hdh h4; replace hK4 := hdh hK4; clear k0 k9 k10 hk4 hb4; refine wp_region_steady_then (Held w4 0 []) 5 (by kernel_rfl) (by kernel_rfl) (by decide) (by kernel_rfl) (by kernel_rfl) ⟨belt, (by (try simp) <;> omega), (by first | exact trivial | (simp only [Cells]; go_simp))⟩ ?_; simp only [List.take_succ_cons, List.take_zero]
  repeat (first | (refine' sdo ?_; simp only [pu]) | (refine spa ?_; simp only [pu]))
  refine wpSteady_nil (fun uC hSC => ?_); obtain ⟨hcC, hbC, hzC, hcoC, hfoC⟩ := hall hSC; clear hSC; simp only [Cells] at hcC; simp only [List.drop_succ_cons, List.drop_zero, List.drop_nil]; have zC := hbC.size; have hBC : Below B w uC := (hB4).trans (hbC.mono (by omega)); have hoC : Lib.OthersKept 5 (some b) w uC := (hK4.out).trans (oth_below hbC)
  go_wp2_with (go_at_call 151; (with_reducible refine (wrtR B b (l ++ P1 ++ P2 ++ [15]) _ ru _ (h4.out.below hbC) (by omega) (by omega) (by omega) (by omega)).mono ?_); rintro e w5 ⟨⟨v5, rfl⟩, h5, hb5, hk5⟩; replace h5 := hdh h5; replace hk5 := hdh hk5)
  go_end0
  exact ⟨rfl, by simpa using h5.out, hBC.trans hb5, hoC.trans hk5.out⟩
 ·simp [markL] at hMK; subst hMK
  go_upto_region 7 with fail
  refine wp_region_steady_then (Held w3 0 []) 5 (by kernel_rfl) (by kernel_rfl) (by decide) (by kernel_rfl) (by kernel_rfl) ⟨belt, (by (try simp) <;> omega), (by first | exact trivial | (simp only [Cells]; go_simp))⟩ ?_; simp only [List.take_succ_cons, List.take_zero]
  repeat (first | (refine' sdo ?_; simp only [pu]) | (refine spa ?_; simp only [pu]))
  refine wpSteady_nil (fun uC hSC => ?_); obtain ⟨hcC, hbC, hzC, hcoC, hfoC⟩ := hall hSC; clear hSC; simp only [Cells] at hcC; simp only [List.drop_succ_cons, List.drop_zero, List.drop_nil]; have zC := hbC.size; have hBC : Below B w uC := (hB3).trans (hbC.mono (by omega)); have hoC : Lib.OthersKept 5 (some b) w uC := (hK3.out).trans (oth_below hbC)
  go_wp2_with (go_at_call 151; (with_reducible refine (wrtR B b (l ++ P1 ++ P2) _ ru _ (h3.out.below hbC) (by omega) (by omega) (by omega) (by omega)).mono ?_); rintro e w5 ⟨⟨v5, rfl⟩, h5, hb5, hk5⟩; replace h5 := hdh h5; replace hk5 := hdh hk5)
  go_end0
  exact ⟨rfl, by simpa using h5.out, hBC.trans hb5, hoC.trans hk5.out⟩
 ·simp [markL] at hMK; subst hMK
  go_upto_region 7 with (go_at_call 148; (with_reducible refine (wrtB B b _ _ 15 15 rfl _ h3.out (by omega) (by omega)).mono ?_); rintro e w4 ⟨rfl, h4, hb4, hk4⟩)
  have C4 := C3.out.others hk4 gb2 (by decide); have j0 := C4.cell (o := 0) rfl; have yC4 := C4.lt; have hB4 := hB3.trans hb4; have hK4 := hK3.out.trans hk4; have zz4 := hB4.size
  have l4 : (l ++ P1 ++ P2 ++ [15]).length ≤ 41000001 := by rw [List.length_append, List.length_singleton]; omega
  replace h4 := hdh h4; replace hK4 := hdh hK4; clear k0 k9 k10 hk4 hb4; refine wp_region_steady_then (Held w4 0 []) 5 (by kernel_rfl) (by kernel_rfl) (by decide) (by kernel_rfl) (by kernel_rfl) ⟨belt, (by (try simp) <;> omega), (by first | exact trivial | (simp only [Cells]; go_simp))⟩ ?_; simp only [List.take_succ_cons, List.take_zero]
  repeat (first | (refine' sdo ?_; simp only [pu]) | (refine spa ?_; simp only [pu]))
  refine wpSteady_nil (fun uC hSC => ?_); obtain ⟨hcC, hbC, hzC, hcoC, hfoC⟩ := hall hSC; clear hSC; simp only [Cells] at hcC; simp only [List.drop_succ_cons, List.drop_zero, List.drop_nil]; have zC := hbC.size; have hBC : Below B w uC := (hB4).trans (hbC.mono (by omega)); have hoC : Lib.OthersKept 5 (some b) w uC := (hK4.out).trans (oth_below hbC)
  go_wp2_with (go_at_call 151; (with_reducible refine (wrtR B b (l ++ P1 ++ P2 ++ [15]) _ ru _ (h4.out.below hbC) (by omega) (by omega) (by omega) (by omega)).mono ?_); rintro e w5 ⟨⟨v5, rfl⟩, h5, hb5, hk5⟩; replace h5 := hdh h5; replace hk5 := hdh hk5)
  go_end0
  exact ⟨rfl, by simpa using h5.out, hBC.trans hb5, hoC.trans hk5.out⟩
 ·simp [markL] at hMK; subst hMK
  go_upto_region 7 with (go_at_call 148; (with_reducible refine (wrtB B b _ _ 14 14 rfl _ h3.out (by omega) (by omega)).mono ?_); rintro e w4 ⟨rfl, h4, hb4, hk4⟩)
  have C4 := C3.out.others hk4 gb2 (by decide); have j0 := C4.cell (o := 0) rfl; have yC4 := C4.lt; have hB4 := hB3.trans hb4; have hK4 := hK3.out.trans hk4; have zz4 := hB4.size
  have l4 : (l ++ P1 ++ P2 ++ [14]).length ≤ 41000001 := by rw [List.length_append, List.length_singleton]; omega
  replace h4 := hdh h4; replace hK4 := hdh hK4; clear k0 k9 k10 hk4 hb4; refine wp_region_steady_then (Held w4 0 []) 5 (by kernel_rfl) (by kernel_rfl) (by decide) (by kernel_rfl) (by kernel_rfl) ⟨belt, (by (try simp) <;> omega), (by first | exact trivial | (simp only [Cells]; go_simp))⟩ ?_; simp only [List.take_succ_cons, List.take_zero]
  repeat (first | (refine' sdo ?_; simp only [pu]) | (refine spa ?_; simp only [pu]))
  refine wpSteady_nil (fun uC hSC => ?_); obtain ⟨hcC, hbC, hzC, hcoC, hfoC⟩ := hall hSC; clear hSC; simp only [Cells] at hcC; simp only [List.drop_succ_cons, List.drop_zero, List.drop_nil]; have zC := hbC.size; have hBC : Below B w uC := (hB4).trans (hbC.mono (by omega)); have hoC : Lib.OthersKept 5 (some b) w uC := (hK4.out).trans (oth_below hbC)
  go_wp2_with (go_at_call 151; (with_reducible refine (wrtR B b (l ++ P1 ++ P2 ++ [14]) _ ru _ (h4.out.below hbC) (by omega) (by omega) (by omega) (by omega)).mono ?_); rintro e w5 ⟨⟨v5, rfl⟩, h5, hb5, hk5⟩; replace h5 := hdh h5; replace hk5 := hdh hk5)
  go_end0
  exact ⟨rfl, by simpa using h5.out, hBC.trans hb5, hoC.trans hk5.out⟩
 ·simp [markL] at hMK; subst hMK
  go_upto_region 7 with (go_at_call 148; (with_reducible refine (wrtB B b _ _ 14 14 rfl _ h3.out (by omega) (by omega)).mono ?_); rintro e w4 ⟨rfl, h4, hb4, hk4⟩)
  have C4 := C3.out.others hk4 gb2 (by decide); have j0 := C4.cell (o := 0) rfl; have yC4 := C4.lt; have hB4 := hB3.trans hb4; have hK4 := hK3.out.trans hk4; have zz4 := hB4.size
  have l4 : (l ++ P1 ++ P2 ++ [14]).length ≤ 41000001 := by rw [List.length_append, List.length_singleton]; omega
  replace h4 := hdh h4; replace hK4 := hdh hK4; clear k0 k9 k10 hk4 hb4; refine wp_region_steady_then (Held w4 0 []) 5 (by kernel_rfl) (by kernel_rfl) (by decide) (by kernel_rfl) (by kernel_rfl) ⟨belt, (by (try simp) <;> omega), (by first | exact trivial | (simp only [Cells]; go_simp))⟩ ?_; simp only [List.take_succ_cons, List.take_zero]
  repeat (first | (refine' sdo ?_; simp only [pu]) | (refine spa ?_; simp only [pu]))
  refine wpSteady_nil (fun uC hSC => ?_); obtain ⟨hcC, hbC, hzC, hcoC, hfoC⟩ := hall hSC; clear hSC; simp only [Cells] at hcC; simp only [List.drop_succ_cons, List.drop_zero, List.drop_nil]; have zC := hbC.size; have hBC : Below B w uC := (hB4).trans (hbC.mono (by omega)); have hoC : Lib.OthersKept 5 (some b) w uC := (hK4.out).trans (oth_below hbC)
  go_wp2_with (go_at_call 151; (with_reducible refine (wrtR B b (l ++ P1 ++ P2 ++ [14]) _ ru _ (h4.out.below hbC) (by omega) (by omega) (by omega) (by omega)).mono ?_); rintro e w5 ⟨⟨v5, rfl⟩, h5, hb5, hk5⟩; replace h5 := hdh h5; replace hk5 := hdh hk5)
  go_end0
  exact ⟨rfl, by simpa using h5.out, hBC.trans hb5, hoC.trans hk5.out⟩
 ·simp [markL] at hMK; subst hMK
  go_upto_region 7 with fail
  refine wp_region_steady_then (Held w3 0 []) 5 (by kernel_rfl) (by kernel_rfl) (by decide) (by kernel_rfl) (by kernel_rfl) ⟨belt, (by (try simp) <;> omega), (by first | exact trivial | (simp only [Cells]; go_simp))⟩ ?_; simp only [List.take_succ_cons, List.take_zero]
  repeat (first | (refine' sdo ?_; simp only [pu]) | (refine spa ?_; simp only [pu]))
  refine wpSteady_nil (fun uC hSC => ?_); obtain ⟨hcC, hbC, hzC, hcoC, hfoC⟩ := hall hSC; clear hSC; simp only [Cells] at hcC; simp only [List.drop_succ_cons, List.drop_zero, List.drop_nil]; have zC := hbC.size; have hBC : Below B w uC := (hB3).trans (hbC.mono (by omega)); have hoC : Lib.OthersKept 5 (some b) w uC := (hK3.out).trans (oth_below hbC)
  go_wp2_with (go_at_call 151; (with_reducible refine (wrtR B b (l ++ P1 ++ P2) _ ru _ (h3.out.below hbC) (by omega) (by omega) (by omega) (by omega)).mono ?_); rintro e w5 ⟨⟨v5, rfl⟩, h5, hb5, hk5⟩; replace h5 := hdh h5; replace hk5 := hdh hk5)
  go_end0
  exact ⟨rfl, by simpa using h5.out, hBC.trans hb5, hoC.trans hk5.out⟩
 ·simp [markL] at hMK; subst hMK
  go_upto_region 7 with (go_at_call 148; (with_reducible refine (wrtB B b _ _ 15 15 rfl _ h3.out (by omega) (by omega)).mono ?_); rintro e w4 ⟨rfl, h4, hb4, hk4⟩)
  have C4 := C3.out.others hk4 gb2 (by decide); have j0 := C4.cell (o := 0) rfl; have yC4 := C4.lt; have hB4 := hB3.trans hb4; have hK4 := hK3.out.trans hk4; have zz4 := hB4.size
  have l4 : (l ++ P1 ++ P2 ++ [15]).length ≤ 41000001 := by rw [List.length_append, List.length_singleton]; omega
  replace h4 := hdh h4; replace hK4 := hdh hK4; clear k0 k9 k10 hk4 hb4; refine wp_region_steady_then (Held w4 0 []) 5 (by kernel_rfl) (by kernel_rfl) (by decide) (by kernel_rfl) (by kernel_rfl) ⟨belt, (by (try simp) <;> omega), (by first | exact trivial | (simp only [Cells]; go_simp))⟩ ?_; simp only [List.take_succ_cons, List.take_zero]
  repeat (first | (refine' sdo ?_; simp only [pu]) | (refine spa ?_; simp only [pu]))
  refine wpSteady_nil (fun uC hSC => ?_); obtain ⟨hcC, hbC, hzC, hcoC, hfoC⟩ := hall hSC; clear hSC; simp only [Cells] at hcC; simp only [List.drop_succ_cons, List.drop_zero, List.drop_nil]; have zC := hbC.size; have hBC : Below B w uC := (hB4).trans (hbC.mono (by omega)); have hoC : Lib.OthersKept 5 (some b) w uC := (hK4.out).trans (oth_below hbC)
  go_wp2_with (go_at_call 151; (with_reducible refine (wrtR B b (l ++ P1 ++ P2 ++ [15]) _ ru _ (h4.out.below hbC) (by omega) (by omega) (by omega) (by omega)).mono ?_); rintro e w5 ⟨⟨v5, rfl⟩, h5, hb5, hk5⟩; replace h5 := hdh h5; replace hk5 := hdh hk5)
  go_end0
  exact ⟨rfl, by simpa using h5.out, hBC.trans hb5, hoC.trans hk5.out⟩
end
end Go.Proofs.YtfcphagmjijmkaaGreatDoor
