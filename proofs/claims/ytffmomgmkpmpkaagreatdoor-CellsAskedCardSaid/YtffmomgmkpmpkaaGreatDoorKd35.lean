/-
  Cells: what a writer writes: escapes of numbers.
-/
import Derived.IntWalk
import Derived.Lib.AppendIntMem
import Derived.Lib.Hide
import Derived.Lib.LaidTab
import Derived.Shelf.SlSortCmp.WholeK
import Derived.Shelf.Slices.CompactI
import Derived.Shelf.Slices.In.SortNone
import Derived.Shelf.Sort.Plain
import Derived.Sort.OwnSortedInts
import Derived.Test.YtffmomgmkpmpkaaGreatDoorProg
import Derived.Test.YtffmomgmkpmpkaaGreatDoorKd33
import Derived.Test.YtffmomgmkpmpkaaGreatDoorKd34
namespace Go.Proofs.YtffmomgmkpmpkaaGreatDoor
open Go.RowKit
set_option linter.unusedVariables false
attribute [local go_sem] vwp vUpon_value vUpon_skip vUpon_enter vUpon_row
set_option linter.unusedSimpArgs false
set_option linter.unusedVariables false
/-- The library's table of powers of ten lies in this world. -/
def DigT (w : World) : Prop := Lib.TabIs Tryz.prog w "internal/strconv.uint64pow10" .u64 Lib.pow10Tab
theorem DigT.below {w w' : World} {B : Nat} (h : DigT w) (hb : Below B w w') (hB : w.heap.size ≤ B) : DigT w' := by
  unfold DigT Lib.TabIs World.var? at *
  cases hg : Tryz.prog.globalNamed "internal/strconv.uint64pow10" with
  | none => rw [hg] at h; cases h
  | some g =>
    rw [hg] at h
    simp only [Option.bind_some] at h ⊢
    have hlt : g < w.heap.size := by
      rcases Nat.lt_or_ge g w.heap.size with h1 | h1
      · exact h1
      · rw [Array.getElem?_eq_none h1] at h; cases h
    rw [hb.block g (by omega)]
    exact h
theorem itoa_any (n : Int) (w : World) (ht : DigT w) (h0 : I64 n) : Calls Tryz.prog 70 #[.int .i64 n] w fun e w' => e = .returned (.string ⟨(Lib.itoa n).toArray⟩) ∧ Below w.heap.size w w' :=
  (Tryz.strconv_Itoa n h0.1 h0.2 w ht).mono fun _ _ ⟨he, k, os, hw⟩ => ⟨he, hw ▸ Lib.below_grow _ _ (Nat.le_refl _) _ _⟩
theorem dec_len : ∀ (k u : Nat), u < 10 ^ (k + 1) → (Lib.decDigits u).length ≤ k + 1
  | 0, u, h => by rw [Lib.decDigits, dif_pos (by omega)]; simp
  | k + 1, u, h => by
    by_cases hs : u < 10
    · rw [Lib.decDigits, dif_pos hs]; simp
    · rw [Lib.decDigits, dif_neg (by omega), List.length_append]
      have := dec_len k (u / 10) (by rw [Nat.pow_succ] at h; omega)
      simp
      omega
theorem itoa_len {n : Int} (h : I64 n) : (Lib.itoa n).length ≤ 21 := by
  unfold I64 at h
  have h2 := dec_len 19 n.natAbs (by omega)
  have h3 := dec_len 19 n.toNat (by omega)
  unfold Lib.itoa
  split <;> simp <;> omega
def semiL (ns : List Int) : List UInt8 := ns.flatMap fun n => 59 :: Lib.itoa n
def numsL : List Int → List UInt8
  | [] => []
  | n :: r => Lib.itoa n ++ semiL r
def escL (c : UInt8) (ns : List Int) : List UInt8 := [27, 91] ++ (numsL ns ++ [c])
theorem numsL_snoc {ns : List Int} {i : Nat} {x : Int} (hx : ns[i]? = some x) : numsL (ns.take (i + 1)) = numsL (ns.take i) ++ ((if 0 < i then [59] else []) ++ Lib.itoa x) := by
  cases ns with
  | nil => simp at hx
  | cons n r =>
    cases i with
    | zero => simp at hx; subst hx; simp [numsL, semiL]
    | succ j =>
      rw [List.getElem?_cons_succ] at hx
      rw [List.take_succ_cons, List.take_succ_cons, numsL, numsL, List.take_add_one, hx]
      simp [semiL]
theorem numsL_len : ∀ (ns : List Int), (∀ n ∈ ns, I64 n) → (numsL ns).length ≤ 22 * ns.length
  | [], _ => by simp [numsL]
  | n :: r, h => by
    have key : ∀ r : List Int, (∀ n ∈ r, I64 n) → (semiL r).length ≤ 22 * r.length := by
      intro r
      induction r with
      | nil => intro _; simp [semiL]
      | cons m t ih =>
        intro h
        have h1 := ih (fun x hx => h x (List.mem_cons_of_mem _ hx))
        have h2 := itoa_len (h m List.mem_cons_self)
        unfold semiL at h1 ⊢
        rw [List.flatMap_cons, List.length_append, List.length_cons, List.length_cons]
        omega
    have h1 := key r (fun x hx => h x (List.mem_cons_of_mem _ hx))
    have h2 := itoa_len (h n List.mem_cons_self)
    rw [numsL, List.length_append, List.length_cons]
    omega
/-! ### a writer over bytes -/
abbrev IsW (B b : Nat) (l : List UInt8) (tl : List Value) (w : World) : Prop := WrI B b (Lib.byteCells l) tl w
theorem IsW.below {B b : Nat} {l : List UInt8} {tl : List Value} {w w' : World} (h : IsW B b l tl w) (hw : Below w.heap.size w w') : IsW B b l tl w' := h.elim (fun x => .inl (x.below hw)) (fun x => .inr (x.below hw))
theorem IsW.blk {B b : Nat} {l : List UInt8} {tl : List Value} {w : World} (h : IsW B b l tl w) : B ≤ b ∧ b < w.heap.size ∧ tl.length = 8 ∧ ∃ cs, Blk w b cs 118 ∧ cs.length = 10 ∧ ∀ j, cs[j + 2]? = tl[j]? := by
  rcases h with h | h
  all_goals
    obtain ⟨hB, ht, v, hb, _⟩ := h
    exact ⟨hB, hb.lt, ht, _, hb, by simp [ht], fun j => rfl⟩
theorem blk_ne {w : World} {g b : Nat} {cs cs' : List Value} {T T' : TypeId} (h : Blk w g cs T) (h' : Blk w b cs' T') (hT : T ≠ T') : g ≠ b := by
  rintro rfl
  unfold Blk at h h'
  rw [h] at h'
  injection h' with h'
  injection h' with _ e
  exact hT e
theorem isW_of {B b : Nat} {l m : List UInt8} {tl xs : List Value} {w : World} (hx : xs = Lib.byteCells m) (h : Wr B b (.pointer (some ⟨b, 0, none⟩)) (Lib.byteCells l ++ xs) tl w) : IsW B b (l ++ m) tl w := by
  subst hx
  rw [bytes_app] at h
  exact .inr h
theorem wrtB (B b : Nat) (l : List UInt8) (tl : List Value) (c : UInt8) (k : Int) (hk : (c.toNat : Int) = k) (w : World) (h : IsW B b l tl w) (hlen : l.length ≤ 100000000) (hBw : B ≤ w.heap.size) :
    Calls Tryz.prog 62 #[.pointer (some ⟨b, 0, none⟩), .int .u8 k] w fun e w' => e = .returned .nilIface ∧ IsW B b (l ++ [c]) tl w' ∧ Below B w w' ∧ Lib.OthersKept 5 (some b) w w' := by
  subst hk
  exact (wr_byte B b _ tl (c.toNat : Int) w h (by rw [bytes_len]; omega) hBw).mono fun _ _ ⟨he, h1, h2, h3⟩ => ⟨he, isW_of (by simp [Lib.byteCells]) h1, h2, h3⟩
theorem wrtR (B b : Nat) (l : List UInt8) (tl : List Value) (r : Int) (w : World) (h : IsW B b l tl w) (hr0 : -2147483648 ≤ r) (hr1 : r ≤ 2147483647) (hlen : l.length ≤ 100000000) (hBw : B ≤ w.heap.size) :
    Calls Tryz.prog 61 #[.pointer (some ⟨b, 0, none⟩), .int .i32 r] w fun e w' => (∃ v, e = .returned v) ∧ IsW B b (l ++ Lib.encodeRune r) tl w' ∧ Below B w w' ∧ Lib.OthersKept 5 (some b) w w' :=
  (wr_rune B b _ tl r w h hr0 hr1 (by rw [bytes_len]; omega) hBw).mono fun _ _ ⟨he, h1, h2, h3⟩ => ⟨⟨_, he⟩, isW_of (Lib.byteCells_encodeRune r).symm h1, h2, h3⟩
theorem wrtS (B b : Nat) (l : List UInt8) (tl : List Value) (m : List UInt8) (w : World) (h : IsW B b l tl w) (hs : m.length ≤ 1000000) (hlen : l.length ≤ 100000000) (hBw : B ≤ w.heap.size) :
    Calls Tryz.prog 115 #[.pointer (some ⟨b, 0, none⟩), .string ⟨m.toArray⟩] w fun e w' => (∃ v, e = .returned v) ∧ IsW B b (l ++ m) tl w' ∧ Below B w w' ∧ Lib.OthersKept 5 (some b) w w' :=
  (wr_str B b _ tl ⟨m.toArray⟩ w h (by rw [bytes_len]; show _ + m.toArray.size ≤ _; simp; omega) hBw).mono fun _ _ ⟨he, h1, h2, h3⟩ => ⟨⟨_, he⟩, isW_of (by simp [Lib.byteCells, Lib.strCells]) h1, h2, h3⟩
set_option maxHeartbeats 4000000 in
set_option maxRecDepth 100000 in
theorem esc_any (B b : Nat) (l : List UInt8) (tl : List Value) (c : UInt8) (k : Int) (hk : (c.toNat : Int) = k) (ns : List Int) (g cap : Nat) (w : World) (h : IsW B b l tl w) (hg : Blk w g (ns.map (.int .i64 ·)) 3) (hBw : B ≤ w.heap.size)
  (hns : ∀ n ∈ ns, I64 n) (hl : l.length ≤ 50000000) (hn0 : ns.length ≤ 10) (hnc : ns.length ≤ cap) (hD : ∀ w', Below B w w' → DigT w') :
  Calls Tryz.prog 67 #[.pointer (some ⟨b, 0, none⟩), .int .u8 k, .slice (some ⟨g, 0, none⟩) ns.length cap] w fun e w' => e = .returned (.tuple #[]) ∧ IsW B b (l ++ escL c ns) tl w' ∧ Below B w w' ∧ Lib.OthersKept 5 (some b) w w' := by
 obtain ⟨n, hn⟩ : ∃ n, ns.length = n := ⟨_, rfl⟩
 have hgb : g ≠ b := by
  obtain ⟨_, _, _, cs, hbb, _⟩ := h.blk
  exact blk_ne hg hbb (by decide)
 rw [hn] at hn0 hnc ⊢
 replace hn := Lib.hid hn
 have hg' := Lib.hid hg
 have h' := Lib.hid h
 have hD' := Lib.hid hD
 clear hg h hD
 go_enter Tryz.func67, Tryz.ntmps67
 go_upto_region 2 with (go_at_call 115; (with_reducible refine (wrtS B b l tl [27, 91] _ h'.out (by decide) (by omega) hBw).mono ?_); rintro e w1 ⟨⟨v1, rfl⟩, h1, hb1, hk1⟩)
 replace h1 := Lib.hid h1
 replace hk1 := Lib.hid hk1
 go_loopw [14] (fun iv wr => ∃ i : Nat, i ≤ n ∧ iv = .int .i64 i ∧ Hid (IsW B b (l ++ [27, 91] ++ numsL (ns.take i)) tl wr) ∧ Below B w wr ∧ Hid (Lib.OthersKept 5 (some b) w wr)) (fun iv _ => n - (intOf iv).toNat)
 case atStart => exact ⟨0, Nat.zero_le _, rfl, by simpa [numsL] using h1, hb1, hk1⟩
 case round =>
  clear h1 hb1 hk1
  obtain ⟨i, hi, rfl, hw, hb, ho⟩ := hrel
  obtain ⟨W, rfl⟩ : ∃ W, W = wr := ⟨_, rfl⟩
  have zW := hb.size
  have hlen0 : (l ++ [27, 91] ++ numsL (ns.take i)).length ≤ 60000000 := by
   have := numsL_len (ns.take i) (fun x hx => hns x (List.mem_of_mem_take hx))
   rw [List.length_append, List.length_append]
   rw [List.length_take] at this
   simp only [List.length_cons, List.length_nil]
   omega
  by_cases hin : i < n
  ·have hii : (i : Int) < n := by omega
   obtain ⟨x, hx⟩ := get_at hn.out hin
   have hsn := numsL_snoc hx
   have hx64 := hns x (List.mem_of_getElem? hx)
   have hgW := hg'.out.others ho.out hgb (by decide)
   have gx := hgW.cell (o := i) (v := .int .i64 x) (by rw [List.getElem?_map, hx]; rfl)
   replace hgW := Lib.hid hgW
   replace hx := Lib.hid hx
   by_cases h0 : 0 < i
   ·have hi0 : (0 : Int) < i := by omega
    rw [if_pos h0] at hsn
    go_upto_region 6 with (go_at_call 62; (with_reducible refine (wrtB B b _ tl 59 59 rfl _ hw.out (by omega) (by omega)).mono ?_); rintro e W2 ⟨rfl, h3, hb3, hk3⟩)
    replace h3 := Lib.hid h3
    replace hk3 := Lib.hid hk3
    have z3 := hb3.size
    have hDW := hD'.out W2 (hb.trans hb3)
    have IT := Lib.hid (fun u (hu : Below W2.heap.size W2 u) => itoa_any x u (hDW.below hu (Nat.le_refl _)) hx64)
    have z4 := itoa_len hx64
    have z5 : (l ++ [27, 91] ++ numsL (ns.take i) ++ [59]).length ≤ 100000000 := by rw [List.length_append]; simp only [List.length_cons, List.length_nil]; omega
    refine wp_region_steady_then (Held W2 0 []) 5 (by kernel_rfl) (by kernel_rfl) (by decide) (by kernel_rfl) (by kernel_rfl) ⟨belt, (by (try simp) <;> omega), (by first | exact trivial | (simp only [Cells]; go_simp))⟩ ?_
    simp only [List.take_succ_cons, List.take_zero]
    repeat (first | (refine' wpSteady_do _ _ _; rotate_left; (focus rfl); (focus (intro w1 hS R hR; have hc := hS.cells; simp only [Cells] at hc; obtain ⟨hco, hfo⟩ := bcell hS.old; go_simp; (try go_bits); first | exact hR _ hS | (go_at_call 70; (with_reducible refine (IT.out _ hS.old).mono ?_); rintro e w2 ⟨rfl, hb2⟩; exact ⟨_, rfl, hR _ (hS.below hb2)⟩))); simp only [pu]) | (refine wpSteady_pass ?_ ?_; (focus rfl); simp only [pu]))
    refine wpSteady_nil (fun uA hSA => ?_)
    have hcA := hSA.cells; have hbA := hSA.old; have hzA := hSA.size; clear hSA; simp only [Cells] at hcA; obtain ⟨hcoA, hfoA⟩ := bcell hbA
    simp only [List.drop_succ_cons, List.drop_zero, List.drop_nil]
    have z6 := hbA.size
    go_wp2_with (go_at_call 115; (with_reducible refine (wrtS B b _ tl (Lib.itoa x) _ (h3.out.below hbA) (by omega) (by omega) (by omega)).mono ?_); rintro e w2 ⟨⟨v2, rfl⟩, h2, hb2, hk2⟩; replace h2 := Lib.hid h2; replace hk2 := Lib.hid hk2)
    go_roundw
    case rel => exact ⟨i + 1, by omega, by go_num, Lib.hid (by rw [hsn]; simpa using h2.out), (hb.trans hb3).trans ((hbA.mono (by omega)).trans hb2), Lib.hid (((ho.out.trans hk3.out).trans (oth_below hbA)).trans hk2.out)⟩
    case measure => simp [intOf]; omega
   ·have hi0 : ¬ (0 : Int) < i := by omega
    rw [if_neg h0] at hsn
    go_upto_region 6 with fail
    have hDW := hD'.out W hb
    have IT := Lib.hid (fun u (hu : Below W.heap.size W u) => itoa_any x u (hDW.below hu (Nat.le_refl _)) hx64)
    have z4 := itoa_len hx64
    refine wp_region_steady_then (Held W 0 []) 5 (by kernel_rfl) (by kernel_rfl) (by decide) (by kernel_rfl) (by kernel_rfl) ⟨belt, (by (try simp) <;> omega), (by first | exact trivial | (simp only [Cells]; go_simp))⟩ ?_
    simp only [List.take_succ_cons, List.take_zero]
    repeat (first | (refine' wpSteady_do _ _ _; rotate_left; (focus rfl); (focus (intro w1 hS R hR; have hc := hS.cells; simp only [Cells] at hc; obtain ⟨hco, hfo⟩ := bcell hS.old; go_simp; (try go_bits); first | exact hR _ hS | (go_at_call 70; (with_reducible refine (IT.out _ hS.old).mono ?_); rintro e w2 ⟨rfl, hb2⟩; exact ⟨_, rfl, hR _ (hS.below hb2)⟩))); simp only [pu]) | (refine wpSteady_pass ?_ ?_; (focus rfl); simp only [pu]))
    refine wpSteady_nil (fun uA hSA => ?_)
    have hcA := hSA.cells; have hbA := hSA.old; have hzA := hSA.size; clear hSA; simp only [Cells] at hcA; obtain ⟨hcoA, hfoA⟩ := bcell hbA
    simp only [List.drop_succ_cons, List.drop_zero, List.drop_nil]
    have z6 := hbA.size
    go_wp2_with (go_at_call 115; (with_reducible refine (wrtS B b _ tl (Lib.itoa x) _ (hw.out.below hbA) (by omega) (by omega) (by omega)).mono ?_); rintro e w2 ⟨⟨v2, rfl⟩, h2, hb2, hk2⟩; replace h2 := Lib.hid h2; replace hk2 := Lib.hid hk2)
    go_roundw
    case rel => exact ⟨i + 1, by omega, by go_num, Lib.hid (by rw [hsn]; simpa using h2.out), hb.trans ((hbA.mono (by omega)).trans hb2), Lib.hid ((ho.out.trans (oth_below hbA)).trans hk2.out)⟩
    case measure => simp [intOf]; omega
  ·obtain rfl : i = n := by omega
   have hii : ¬ (i : Int) < i := by omega
   rw [List.take_of_length_le (by rw [hn.out]; omega)] at hw hlen0
   go_wp2_with (go_at_call 62; (with_reducible refine (wrtB B b _ tl c k hk _ hw.out (by omega) (by omega)).mono ?_); rintro e w2 ⟨rfl, h2, hb2, hk2⟩)
   go_end0
   exact ⟨rfl, by simpa [escL] using h2, hb.trans hb2, ho.out.trans hk2⟩
end Go.Proofs.YtffmomgmkpmpkaaGreatDoor
