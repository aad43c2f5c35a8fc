/-
  Short steps for the walks that orders2.py prints.
-/
import Derived.Laws.StructEq
import Derived.Lib.Hide
import Derived.Shelf.SlSortCmp.WholeK
import Derived.Shelf.Slices.CompactI
import Derived.Shelf.Slices.In.SortNone
import Derived.Shelf.Sort.Plain
import Derived.Sort.OwnSortedInts
import Derived.WalkKit
import Derived.WalkLawsBesides
import Derived.WalkSpells
import Derived.Test.YtffmomgmkpmpkaaGreatDoorProg
import Derived.Test.YtffmomgmkpmpkaaGreatDoorKp9
namespace Go.Proofs.YtffmomgmkpmpkaaGreatDoor
open Go.RowKit
set_option linter.unusedVariables false
attribute [local go_sem] vwp vUpon_value vUpon_skip vUpon_enter vUpon_row
set_option linter.unusedSimpArgs false
set_option linter.unusedVariables false
theorem OwnsC.alloc_eq {base : Nat} {w v : World} {u : Value} {cs : List Ce} {ob : Obj} (h : OwnsC base w u cs) (hv : w.alloc ob = v) : OwnsC base v u cs := by
  subst hv
  exact h.alloc _
theorem own_kept2 {base : Nat} {w w' : World} {v : Value} {cs : List Ce} {X : Nat → Prop} (h : OwnsC base w v cs) (hk : KeptBut X w w') (hx : ∀ g, v.ownBlock = some g → ¬ X g) : OwnsC base w' v cs := by
  refine ⟨h.1, ?_⟩
  rcases h.2 with ⟨a, b⟩ | ⟨g, cap, cur, rfl, hb, hg, r⟩
  · exact .inl ⟨a, b⟩
  · exact .inr ⟨g, cap, cur, rfl, hb, (hk.same g (Array.getElem?_eq_some_iff.1 hg).1 (hx g rfl)).trans hg, r⟩
end Go.Proofs.YtffmomgmkpmpkaaGreatDoor

namespace Go.Proofs.YtffmomgmkpmpkaaGreatDoor
open Go.RowKit
set_option linter.unusedVariables false
attribute [local go_sem] vwp vUpon_value vUpon_skip vUpon_enter vUpon_row
set_option linter.unusedSimpArgs false
set_option linter.unusedVariables false
def Ce.eqb (a b : Ce) : Bool := (a.rune == b.rune) && (a.col.eqb b.col && (a.back.eqb b.back && ((a.wide == b.wide) && (a.tail == b.tail))))
theorem Ce.eqb_iff {a b : Ce} : a.eqb b = true ↔ a = b := by
  obtain ⟨r, ⟨c0, c1, c2, c3⟩, ⟨d0, d1, d2, d3⟩, x, y⟩ := a
  obtain ⟨r', ⟨c0', c1', c2', c3'⟩, ⟨d0', d1', d2', d3'⟩, x', y'⟩ := b
  simp [Ce.eqb, Co.eqb, eq4]
theorem eq_cell (d : Nat) (w : World) (s t : Ce) : (Op.equalIn (d + 3) 52 (.agg #[.int .i32 (s).rune, .int .u8 (s).col.r, .int .u8 (s).col.g, .int .u8 (s).col.b, .int .u8 (s).col.a, .int .u8 (s).back.r, .int .u8 (s).back.g, .int .u8 (s).back.b, .int .u8 (s).back.a, .bool (s).wide, .bool (s).tail]) (.agg #[.int .i32 (t).rune, .int .u8 (t).col.r, .int .u8 (t).col.g, .int .u8 (t).col.b, .int .u8 (t).col.a, .int .u8 (t).back.r, .int .u8 (t).back.g, .int .u8 (t).back.b, .int .u8 (t).back.a, .bool (t).wide, .bool (t).tail])).run Tryz.prog w = .ok (s.eqb t) w := by
 unfold Ce.eqb Co.eqb
 have A := Tryz.underlying52
 have K := Tryz.underlying21
 have I := Tryz.underlying4
 have C := Tryz.underlying44
 rw [run_equalIn_agg w (d + 2) _ _ _ (by simp [Program.fieldsOf, A]) (by kernel_rfl)]
 simp only [Program.fieldsOf, A]
 have z2 : Tryz.prog.cellsOf 44 = 4 := by kernel_rfl
 have y2 : Tryz.t44.size = 4 := by kernel_rfl
 have E0 : ∀ w a b, (Op.equalIn (d + 2) 21 (.int .i32 a) (.int .i32 b)).run Tryz.prog w = .ok (a == b) w := fun w a b => run_equalIn_int w (d + 1) _ _ _ a b K
 have E1 : ∀ w a b, (Op.equalIn (d + 2) 4 (.bool a) (.bool b)).run Tryz.prog w = .ok (a == b) w := fun w a b => run_equalIn_bool w (d + 1) _ a b I
 have E4 := eq_colour d
 generalize hb0 : (s.rune == t.rune) = b0
 generalize hb2 : eq4 s.col.r s.col.g s.col.b s.col.a t.col.r t.col.g t.col.b t.col.a = b2
 generalize hb3 : eq4 s.back.r s.back.g s.back.b s.back.a t.back.r t.back.g t.back.b t.back.a = b3
 generalize hb4 : (s.wide == t.wide) = b4
 generalize hb5 : (s.tail == t.tail) = b5
 simp only [Op.eqFields, Sem.run_bind, Sem.run_ite, part, isAgg, run_underlying K, run_underlying I, run_underlying C]
 simp [sizeOf, z2, y2, E0, E1, E4, hb0, hb2, hb3, hb4, hb5]
 cases b0 <;> cases b2 <;> cases b3 <;> cases b4 <;> cases b5 <;> simp
theorem neq_cell (w : World) (r c0 c1 c2 c3 d0 d1 d2 d3 r' c0' c1' c2' c3' d0' d1' d2' d3' : Int) (x y x' y' : Bool) :
    (binOp .neq 52 (.agg #[.int .i32 r, .int .u8 c0, .int .u8 c1, .int .u8 c2, .int .u8 c3, .int .u8 d0, .int .u8 d1, .int .u8 d2, .int .u8 d3, .bool x, .bool y]) (.agg #[.int .i32 r', .int .u8 c0', .int .u8 c1', .int .u8 c2', .int .u8 c3', .int .u8 d0', .int .u8 d1', .int .u8 d2', .int .u8 d3', .bool x', .bool y'])).run Tryz.prog w
      = .ok (.bool (!Ce.eqb ⟨r, ⟨c0, c1, c2, c3⟩, ⟨d0, d1, d2, d3⟩, x, y⟩ ⟨r', ⟨c0', c1', c2', c3'⟩, ⟨d0', d1', d2', d3'⟩, x', y'⟩)) w := by
  rw [run_neq_struct]
  have h := eq_cell 9997 w ⟨r, ⟨c0, c1, c2, c3⟩, ⟨d0, d1, d2, d3⟩, x, y⟩ ⟨r', ⟨c0', c1', c2', c3'⟩, ⟨d0', d1', d2', d3'⟩, x', y'⟩
  simp only at h
  rw [h]
  rfl
theorem neq_size (w : World) (a b a' b' : Int) : (binOp .neq 23 (.agg #[.int .i64 a, .int .i64 b]) (.agg #[.int .i64 a', .int .i64 b'])).run Tryz.prog w = .ok (.bool (!((a == a') && (b == b')))) w := by
  rw [run_neq_struct]
  have h := eq_size 9998 w a b a' b'
  rw [h]
  rfl
attribute [local go_sem high] neq_cell neq_size
def sameC : List Ce → List Ce → Bool
  | [], [] => true
  | x :: xs, y :: ys => x.eqb y && sameC xs ys
  | _, _ => false
theorem sameC_iff : ∀ {xs ys : List Ce}, sameC xs ys = true ↔ xs = ys
  | [], [] => by simp [sameC]
  | [], _ :: _ => by simp [sameC]
  | _ :: _, [] => by simp [sameC]
  | x :: xs, y :: ys => by
    unfold sameC
    rw [Bool.and_eq_true, Ce.eqb_iff, sameC_iff, List.cons.injEq]
theorem sameC_len {xs ys : List Ce} (h : xs.length ≠ ys.length) : sameC xs ys = false := by
  cases hs : sameC xs ys
  · rfl
  · rw [sameC_iff] at hs; exact absurd (by rw [hs]) h
theorem sameC_step {xs ys : List Ce} {k : Nat} {x y : Ce} (hx : xs[k]? = some x) (hy : ys[k]? = some y) : sameC (xs.drop k) (ys.drop k) = (x.eqb y && sameC (xs.drop (k + 1)) (ys.drop (k + 1))) := by
  rw [drop_get hx, drop_get hy]; rfl
def samS (a b : Int) (xs : List Ce) (a' b' : Int) (ys : List Ce) : Bool := ((a == a') && (b == b')) && sameC xs ys
theorem samS_iff {a b a' b' : Int} {xs ys : List Ce} : samS a b xs a' b' ys = true ↔ a = a' ∧ b = b' ∧ xs = ys := by
  unfold samS
  rw [Bool.and_eq_true, Bool.and_eq_true, sameC_iff, beq_iff_eq, beq_iff_eq, and_assoc]
set_option maxHeartbeats 4000000 in
set_option maxRecDepth 100000 in
theorem csame_any (a b a' b' : Int) (xs ys : List Ce) (v1 v2 : Value) (w : World) (h1 : Row w.heap.size 11 Ce.enc w v1 xs) (h2 : Row w.heap.size 11 Ce.enc w v2 ys) : Calls Tryz.prog 14 #[.agg #[.int .i64 (a), .int .i64 (b), v1], .agg #[.int .i64 (a'), .int .i64 (b'), v2]] w fun e w' => e = .returned (.bool (samS a b xs a' b' ys)) ∧ Below w.heap.size w w' := by
 obtain ⟨s1, c1, rfl, hmax1⟩ := h1.shape
 obtain ⟨s2, c2, rfl, hmax2⟩ := h2.shape
 have o1 := fun h0 => row_ce h1 h0
 have o2 := fun h0 => row_ce h2 h0
 clear h1 h2
 obtain ⟨n, en⟩ : ∃ n, xs.length = n := ⟨_, rfl⟩
 obtain ⟨m, em⟩ : ∃ m, ys.length = m := ⟨_, rfl⟩
 obtain ⟨res, hres⟩ : ∃ r, samS a b xs a' b' ys = r := ⟨_, rfl⟩
 rw [hres]
 unfold samS at hres
 obtain ⟨sz, hsz⟩ : ∃ z, ((a == a') && (b == b')) = z := ⟨_, rfl⟩
 rw [hsz] at hres
 rw [en] at o1 hmax1 ⊢
 rw [em] at o2 hmax2 ⊢
 unfold maxLen at hmax1 hmax2
 cases sz
 ·rw [Bool.false_and] at hres
  subst hres
  clear o1 o2
  go_enter Tryz.func14, Tryz.ntmps14
  go_wp2
  go_ret
  exact ⟨rfl, belt⟩
 rw [Bool.true_and] at hres
 by_cases hnm : n = m
 ·subst hnm
  replace o1 := Lib.hid o1
  replace o2 := Lib.hid o2
  replace en := Lib.hid en
  replace em := Lib.hid em
  have hgo := Lib.hid (show sameC (xs.drop 0) (ys.drop 0) = res from hres)
  clear hres
  go_enter Tryz.func14, Tryz.ntmps14
  go_upto_region 3 with fail
  generalize hw1 : ((w.alloc (.cells #[.int .i64 a, .int .i64 b, .slice s1 n c1] 26)).alloc (.cells #[.int .i64 a', .int .i64 b', .slice s2 n c2] 26)) = w1
  have y1 : w.heap.size + 1 < w1.heap.size := by rw [← hw1]; simp
  have bz : Below w.heap.size w w1 := by rw [← hw1]; exact belt
  have B1 : Blk w1 w.heap.size [.int .i64 a, .int .i64 b, .slice s1 n c1] 26 := by rw [← hw1]; exact (Blk.new' rfl).alloc _
  have B2 : Blk w1 (w.heap.size + 1) [.int .i64 a', .int .i64 b', .slice s2 n c2] 26 := by rw [← hw1]; exact Blk.new' (by simp)
  have q1 : w1.cell? ⟨w.heap.size, 2, none⟩ = some (.slice s1 n c1) := B1.cell (o := 2) rfl
  have q2 : w1.cell? ⟨w.heap.size + 1, 2, none⟩ = some (.slice s2 n c2) := B2.cell (o := 2) rfl
  clear B1 B2
  clear hw1
  go_wp2
  go_loopw [5] (fun iv wr => ∃ k : Nat, k ≤ n ∧ iv = .int .i64 k ∧ Hid (sameC (xs.drop k) (ys.drop k) = res) ∧ Below w.heap.size w wr ∧ wr.cell? ⟨w.heap.size, 2, none⟩ = some (.slice s1 n c1) ∧ wr.cell? ⟨w.heap.size + 1, 2, none⟩ = some (.slice s2 n c2) ∧ w.heap.size + 1 < wr.heap.size) (fun i _ => n - (intOf i).toNat)
  case atStart => exact ⟨0, Nat.zero_le _, rfl, hgo, bz, q1, q2, y1⟩
  case round =>
   clear q1 q2 bz
   obtain ⟨k, hk, rfl, hgo, hbr, q1, q2, yr⟩ := hrel
   have yr0 : w.heap.size < wr.heap.size := by omega
   have zr := hbr.size
   by_cases hkn : k < n
   ·obtain ⟨b, p, cap', e, hb, _, _, hel⟩ := o1.out (by omega)
    simp at e
    obtain ⟨rfl, rfl⟩ := e
    obtain ⟨b', p', cap', e, hb', _, _, hex⟩ := o2.out (by omega)
    simp at e
    obtain ⟨rfl, rfl⟩ := e
    obtain ⟨s, hs⟩ := get_at en.out hkn
    obtain ⟨t, ht⟩ := get_at em.out hkn
    obtain ⟨g0, g1, g2, g3, g4, g5, g6, g7, g8, g9, g10⟩ := CMem.below (hel k s hs) hbr hb
    obtain ⟨j0, j1, j2, j3, j4, j5, j6, j7, j8, j9, j10⟩ := CMem.below (hex k t ht) hbr hb'
    have hg := hgo.out
    rw [sameC_step hs ht] at hg
    have hkk : (k : Int) < n := by omega
    have yb : b < wr.heap.size := by omega
    have yb' : b' < wr.heap.size := by omega
    clear hel hex hs ht
    obtain ⟨kd, ⟨u0, u1, u2, u3⟩, ⟨r0, r1, r2, r3⟩, tx, nd⟩ := s
    obtain ⟨kd', ⟨u0', u1', u2', u3'⟩, ⟨r0', r1', r2', r3'⟩, tx', nd'⟩ := t
    simp only at g0 g1 g2 g3 g4 g5 g6 g7 g8 g9 g10 j0 j1 j2 j3 j4 j5 j6 j7 j8 j9 j10
    obtain ⟨bb, hc⟩ : ∃ bb, Ce.eqb ⟨kd, ⟨u0, u1, u2, u3⟩, ⟨r0, r1, r2, r3⟩, tx, nd⟩ ⟨kd', ⟨u0', u1', u2', u3'⟩, ⟨r0', r1', r2', r3'⟩, tx', nd'⟩ = bb := ⟨_, rfl⟩
    rw [hc] at hg
    cases bb
    ·rw [Bool.false_and] at hg
     subst hg
     go_wp2
     refine rst (Held wr 0 []) ?_
     repeat (first | (refine' sdo ?_; simp only [pu]) | (refine spa ?_; simp only [pu]))
     refine wpSteady_nil (fun uA hSA => ?_)
     obtain ⟨hcA, hbA, hzA, hcoA, hfoA⟩ := hall hSA; clear hSA; simp only [Cells] at hcA
     go_wp2
     go_ret
     exact ⟨rfl, hbr.trans (hbA.mono zr)⟩
    ·rw [Bool.true_and] at hg
     replace hg := Lib.hid hg
     go_wp2
     refine rst (Held wr 0 []) ?_
     repeat (first | (refine' sdo ?_; simp only [pu]) | (refine spa ?_; simp only [pu]))
     refine wpSteady_nil (fun uA hSA => ?_)
     obtain ⟨hcA, hbA, hzA, hcoA, hfoA⟩ := hall hSA; clear hSA; simp only [Cells] at hcA
     go_wp2
     go_roundw
     case rel => exact ⟨k + 1, by omega, by go_num, hg, hbr.trans (hbA.mono zr), (hcoA _ _ yr0).trans q1, (hcoA _ _ yr).trans q2, by omega⟩
     case measure => simp [intOf]; omega
   ·obtain rfl : k = n := by omega
    have e1 : xs.drop k = [] := List.drop_eq_nil_of_le (by have := en.out; omega)
    have e2 : ys.drop k = [] := List.drop_eq_nil_of_le (by have := em.out; omega)
    have hg := hgo.out
    rw [e1, e2] at hg
    clear e1 e2
    have hg : true = res := hg
    subst hg
    go_wp2
    go_ret
    exact ⟨rfl, hbr⟩
 ·rw [sameC_len (by rw [en, em]; exact hnm)] at hres
  subst hres
  have hni : ¬ (n : Int) = m := by omega
  have hnb : ((n : Int) != m) = true := by simp [hni]
  have hnb2 : ((n : Int) == m) = false := by simp [hni]
  clear o1 o2
  go_enter Tryz.func14, Tryz.ntmps14
  go_wp2
  go_ret
  exact ⟨rfl, belt⟩
def pairC (a b : Ce) : Bool := a.wide && b.tail && (a.rune == b.rune)
set_option maxHeartbeats 4000000 in
theorem cpair_any (s t : Ce) (w : World) : Calls Tryz.prog 60 #[.agg #[.int .i32 (s).rune, .int .u8 (s).col.r, .int .u8 (s).col.g, .int .u8 (s).col.b, .int .u8 (s).col.a, .int .u8 (s).back.r, .int .u8 (s).back.g, .int .u8 (s).back.b, .int .u8 (s).back.a, .bool (s).wide, .bool (s).tail], .agg #[.int .i32 (t).rune, .int .u8 (t).col.r, .int .u8 (t).col.g, .int .u8 (t).col.b, .int .u8 (t).col.a, .int .u8 (t).back.r, .int .u8 (t).back.g, .int .u8 (t).back.b, .int .u8 (t).back.a, .bool (t).wide, .bool (t).tail]] w fun e w' => e = .returned (.bool (pairC s t)) ∧ Below w.heap.size w w' := by
  obtain ⟨res, hres⟩ : ∃ r, pairC s t = r := ⟨_, rfl⟩
  rw [hres]
  obtain ⟨kd, ⟨u0, u1, u2, u3⟩, ⟨r0, r1, r2, r3⟩, tx, nd⟩ := s
  obtain ⟨kd', ⟨u0', u1', u2', u3'⟩, ⟨r0', r1', r2', r3'⟩, tx', nd'⟩ := t
  unfold pairC at hres
  dsimp only at hres ⊢
  obtain ⟨c, hc⟩ : ∃ c, (kd == kd') = c := ⟨_, rfl⟩
  rw [hc] at hres
  go_enter Tryz.func60, Tryz.ntmps60
  cases tx
  · subst hres
    go_wp2
    go_ret
    exact ⟨rfl, belt⟩
  · cases nd'
    · subst hres
      go_wp2
      go_ret
      exact ⟨rfl, belt⟩
    · have hres : c = res := hres
      subst hres
      go_wp2
      go_ret
      exact ⟨rfl, belt⟩
set_option maxHeartbeats 1000000 in
theorem large_any (wd ht : Int) (l : List Ce) (v : Value) (w : World) (hl : Row w.heap.size 11 Ce.enc w v l) : Calls Tryz.prog 9 #[.agg #[.int .i64 (wd), .int .i64 (ht), v]] w fun e w' => e = .returned (.bool (decide (600 < l.length))) ∧ Below w.heap.size w w' := by
  obtain ⟨s0, cap, rfl, hmax⟩ := hl.shape
  obtain ⟨n, en⟩ : ∃ n, l.length = n := ⟨_, rfl⟩
  rw [en]
  go_enter Tryz.func9, Tryz.ntmps9
  by_cases c : 600 < n
  · have c' : (600 : Int) < n := by omega
    rw [decide_eq_true c]
    go_wp2
    go_ret
    exact ⟨rfl, belt⟩
  · have c' : ¬ (600 : Int) < n := by omega
    rw [decide_eq_false c]
    go_wp2
    go_ret
    exact ⟨rfl, belt⟩
end Go.Proofs.YtffmomgmkpmpkaaGreatDoor

namespace Go.Proofs.YtffmomgmkpmpkaaGreatDoor
open Go.RowKit
set_option linter.unusedVariables false
attribute [local go_sem] vwp vUpon_value vUpon_skip vUpon_enter vUpon_row
set_option linter.unusedSimpArgs false
set_option linter.unusedVariables false
section
/-- A part laid over another one. -/
def part (up down x y : Int) : Int := (up * x + down * y + (up + down) / 2) / (up + down)
theorem part_bd (up down x y : Int) (hx : U8 x) (hy : U8 y) (h1 : 0 ≤ up) (h3 : 0 ≤ down) (h5 : 0 < up + down) : U8 (part up down x y) := by
  obtain ⟨hx0, hx1⟩ := hx; obtain ⟨hy0, hy1⟩ := hy
  unfold part U8
  have m1 : 0 ≤ up * x := Int.mul_nonneg h1 hx0
  have m2 : up * x ≤ up * 255 := Int.mul_le_mul_of_nonneg_left hx1 h1
  have m3 : 0 ≤ down * y := Int.mul_nonneg h3 hy0
  have m4 : down * y ≤ down * 255 := Int.mul_le_mul_of_nonneg_left hy1 h3
  generalize up * x = p at *; generalize down * y = q at *
  refine ⟨Int.ediv_nonneg (by omega) (by omega), ?_⟩
  have : p + q + (up + down) / 2 < 256 * (up + down) := by omega
  have := Int.ediv_lt_of_lt_mul h5 this
  omega

set_option maxHeartbeats 400000 in
theorem overPart (x y up down : Int) (bu bd bn ou od on : Nat) (w : World) (hx : U8 x) (hy : U8 y)
    (h1 : 0 ≤ up) (h2 : up ≤ 65025) (h3 : 0 ≤ down) (h4 : down ≤ 65025) (h5 : 0 < up + down)
    (hu : w.cell? ⟨bu, ou, none⟩ = some (.int .i64 up)) (hd : w.cell? ⟨bd, od, none⟩ = some (.int .i64 down)) (hn : w.cell? ⟨bn, on, none⟩ = some (.int .i64 (up + down))) :
    Calls Tryz.prog 132 #[.int .u8 x, .int .u8 y, .pointer (some ⟨bu, ou, none⟩), .pointer (some ⟨bd, od, none⟩), .pointer (some ⟨bn, on, none⟩)] w fun e w' =>
      e = .returned (.int .u8 (part up down x y)) ∧ w = w' := by
  have hbd := part_bd up down x y hx hy h1 h3 h5
  unfold part at hbd ⊢
  obtain ⟨hx0, hx1⟩ := hx; obtain ⟨hy0, hy1⟩ := hy; obtain ⟨b0, b1⟩ := hbd
  have m1 : 0 ≤ up * x := Int.mul_nonneg h1 hx0
  have m2 : up * x ≤ 65025 * 255 := Int.mul_le_mul h2 hx1 hx0 (by omega)
  have m3 : 0 ≤ down * y := Int.mul_nonneg h3 hy0
  have m4 : down * y ≤ 65025 * 255 := Int.mul_le_mul h4 hy1 hy0 (by omega)
  go_enter Tryz.func132, Tryz.ntmps132
  go_wp2
  go_ret
  exact ⟨rfl, rfl⟩

/-- P4.3, over numbers. -/
def ov (aA bA x y : Int) : Int := if aA = 0 then y else part (255 * aA) ((255 - aA) * bA) x y
def ovA (aA bA : Int) : Int := if aA = 0 then bA else (255 * aA + (255 - aA) * bA + 127) / 255

theorem down_bd (aA bA : Int) (h1 : U8 aA) (h2 : U8 bA) : 0 ≤ (255 - aA) * bA ∧ (255 - aA) * bA ≤ (255 - aA) * 255 ∧ 255 * aA + (255 - aA) * bA ≤ 65025 := by
  obtain ⟨a, b⟩ := h1; obtain ⟨c, d⟩ := h2
  have m1 : 0 ≤ (255 - aA) * bA := Int.mul_nonneg (by omega) c
  have m2 : (255 - aA) * bA ≤ (255 - aA) * 255 := Int.mul_le_mul_of_nonneg_left d (by omega)
  exact ⟨m1, m2, by omega⟩
theorem ov_bd (aA bA x y : Int) (h1 : U8 aA) (h2 : U8 bA) (hx : U8 x) (hy : U8 y) : U8 (ov aA bA x y) := by
  obtain ⟨m1, m2, m3⟩ := down_bd aA bA h1 h2
  unfold ov
  split
  · exact hy
  · have : 0 < aA := by have := h1.1; omega
    exact part_bd _ _ _ _ hx hy (by omega) m1 (by omega)
theorem ovA_bd (aA bA : Int) (h1 : U8 aA) (h2 : U8 bA) : U8 (ovA aA bA) := by
  obtain ⟨m1, m2, m3⟩ := down_bd aA bA h1 h2
  obtain ⟨a, b⟩ := h1
  unfold ovA
  split
  · exact h2
  · exact ⟨by omega, by omega⟩

set_option maxHeartbeats 1000000 in
theorem over_any (ar ag ab aA br bg bb bA : Int) (w : World) (h1 : U8 ar) (h2 : U8 ag) (h3 : U8 ab) (h4 : U8 aA) (h5 : U8 br) (h6 : U8 bg) (h7 : U8 bb) (h8 : U8 bA) :
  Calls Tryz.prog 94 #[.agg #[.int .u8 (ar), .int .u8 (ag), .int .u8 (ab), .int .u8 (aA)], .agg #[.int .u8 (br), .int .u8 (bg), .int .u8 (bb), .int .u8 (bA)]] w fun e w' =>
   e = .returned (.agg #[.int .u8 (ov aA bA ar br), .int .u8 (ov aA bA ag bg), .int .u8 (ov aA bA ab bb), .int .u8 (ovA aA bA)]) ∧ Below w.heap.size w w' := by
 by_cases h0 : aA = 0
 ·subst h0
  go_enter Tryz.func94, Tryz.ntmps94
  go_wp2
  refine bodyPost_ret (v := .agg #[.int .u8 (br), .int .u8 (bg), .int .u8 (bb), .int .u8 (bA)]) (by simp [results, Tryz.results94, go_sem]) rfl ⟨by simp [ov, ovA], belt⟩
 ·obtain ⟨m1, m2, m3⟩ := down_bd aA bA h4 h8
  have a1 := ovA_bd aA bA h4 h8
  obtain ⟨p0, p1⟩ := h4; obtain ⟨q0, q1⟩ := h8
  have hne : (aA == 0) = false := by simp; omega
  have hp : 0 < aA := by omega
  have e1 : ov aA bA ar br = part (255 * aA) ((255 - aA) * bA) ar br := if_neg h0
  have e2 : ov aA bA ag bg = part (255 * aA) ((255 - aA) * bA) ag bg := if_neg h0
  have e3 : ov aA bA ab bb = part (255 * aA) ((255 - aA) * bA) ab bb := if_neg h0
  have e4 : ovA aA bA = (255 * aA + (255 - aA) * bA + 127) / 255 := if_neg h0
  rw [e1, e2, e3, e4]
  rw [e4] at a1
  obtain ⟨a10, a11⟩ := a1
  clear e1 e2 e3 e4 h0
  go_enter Tryz.func94, Tryz.ntmps94
  go_wp2
  refine wp_region_steady_then (Held w 6 [(⟨w.heap.size, 0, none⟩, .int .u8 ar), (⟨w.heap.size, 1, none⟩, .int .u8 ag), (⟨w.heap.size, 2, none⟩, .int .u8 ab), (⟨w.heap.size + 1, 0, none⟩, .int .u8 br), (⟨w.heap.size + 1, 1, none⟩, .int .u8 bg), (⟨w.heap.size + 1, 2, none⟩, .int .u8 bb), (⟨w.heap.size + 1 + 1, 0, none⟩, .int .u8 0), (⟨w.heap.size + 1 + 1, 1, none⟩, .int .u8 0), (⟨w.heap.size + 1 + 1, 2, none⟩, .int .u8 0), (⟨w.heap.size + 1 + 1, 3, none⟩, .int .u8 0), (⟨w.heap.size + 1 + 1 + 1, 0, none⟩, .int .i64 (255 * aA)), (⟨w.heap.size + 1 + 1 + 1 + 1, 0, none⟩, .int .i64 ((255 - aA) * bA)), (⟨w.heap.size + 1 + 1 + 1 + 1 + 1, 0, none⟩, .int .i64 (255 * aA + (255 - aA) * bA))]) 23 (by kernel_rfl) (by kernel_rfl) (by decide) (by kernel_rfl) (by kernel_rfl) ⟨belt, (by (try simp) <;> omega), (by simp only [Cells]; go_simp)⟩ ?_
  simp only [List.take_succ_cons, List.take_zero]
  repeat (first | (refine' wpSteady_do _ _ _; rotate_left; (focus rfl); (focus (intro w1 hS R hR; have hc := hS.cells; simp only [Cells] at hc; go_simp; (try go_bits); first | exact hR _ hS | (refine (overPart _ _ (255 * aA) ((255 - aA) * bA) _ _ _ _ _ _ _ ‹_› ‹_› (by omega) (by omega) (by omega) (by omega) (by omega) (by simp only [hc]) (by simp only [hc]) (by simp only [hc])).mono ?_; rintro e w2 ⟨rfl, rfl⟩; exact ⟨_, rfl, hR _ hS⟩))); simp only [pu]) | (refine spa ?_; simp only [pu]))
  refine wpSteady_nil (fun w1 hS => ?_)
  have hc := hS.cells; have hb := hS.old; have hz := hS.size; clear hS; simp only [Cells] at hc
  simp only [List.drop_succ_cons, List.drop_zero, List.drop_nil]
  go_wp2
  refine bodyPost_ret (v := .agg #[.int .u8 (part (255 * aA) ((255 - aA) * bA) ar br), .int .u8 (part (255 * aA) ((255 - aA) * bA) ag bg), .int .u8 (part (255 * aA) ((255 - aA) * bA) ab bb), .int .u8 ((255 * aA + (255 - aA) * bA + 127) / 255)]) (by simp [results, Tryz.results94, go_sem, hc]) rfl ⟨rfl, ?_⟩
  exact belt
end
end Go.Proofs.YtffmomgmkpmpkaaGreatDoor

namespace Go.Proofs
open Go.Shelf
def YtffmomgmkpmpkaaGreatDoor.sortLays_ren : Go.Shelf.Ren := ⟨fun | 125 => 194 | 128 => 209 | 129 => 177 | 189 => 181 | 215 => 223 | 216 => 206 | 257 => 193 | 294 => 200 | 295 => 201 | 296 => 202 | 297 => 203 | 298 => 204 | 299 => 205 | 300 => 207 | 301 => 208 | 328 => 218 | 329 => 219 | 330 => 220 | 331 => 221 | 332 => 222 | 343 => 227 | n => n, fun | 0 => 0 | 3 => 3 | 4 => 4 | 5 => 5 | 9 => 9 | 28 => 165 | 46 => 170 | 51 => 203 | 53 => 206 | 131 => 252 | 182 => 260 | 183 => 261 | 218 => 271 | 222 => 164 | 228 => 278 | 229 => 135 | n => n, fun n => n⟩
set_option maxRecDepth 100000 in
theorem YtffmomgmkpmpkaaGreatDoor.sortLays : Lays.n189 Tryz.prog YtffmomgmkpmpkaaGreatDoor.sortLays_ren := {
 mixed := by kernel_rfl
 f125 := Tryz.func194.trans (congrArg some (by kernel_rfl))
 f128 := Tryz.func209.trans (congrArg some (by kernel_rfl))
 f129 := Tryz.func177.trans (congrArg some (by kernel_rfl))
 f189 := Tryz.func181.trans (congrArg some (by kernel_rfl))
 f215 := Tryz.func223.trans (congrArg some (by kernel_rfl))
 f216 := Tryz.func206.trans (congrArg some (by kernel_rfl))
 f257 := Tryz.func193.trans (congrArg some (by kernel_rfl))
 f294 := Tryz.func200.trans (congrArg some (by kernel_rfl))
 f295 := Tryz.func201.trans (congrArg some (by kernel_rfl))
 f296 := Tryz.func202.trans (congrArg some (by kernel_rfl))
 f297 := Tryz.func203.trans (congrArg some (by kernel_rfl))
 f298 := Tryz.func204.trans (congrArg some (by kernel_rfl))
 f299 := Tryz.func205.trans (congrArg some (by kernel_rfl))
 f300 := Tryz.func207.trans (congrArg some (by kernel_rfl))
 f301 := Tryz.func208.trans (congrArg some (by kernel_rfl))
 f328 := Tryz.func218.trans (congrArg some (by kernel_rfl))
 f329 := Tryz.func219.trans (congrArg some (by kernel_rfl))
 f330 := Tryz.func220.trans (congrArg some (by kernel_rfl))
 f331 := Tryz.func221.trans (congrArg some (by kernel_rfl))
 f332 := Tryz.func222.trans (congrArg some (by kernel_rfl))
 f343 := Tryz.func227.trans (congrArg some (by kernel_rfl))
 t0 := Tryz.underlying0
 a0 := Tryz.isAgg0
 z0 := Tryz.sizeOf0
 v0 := Tryz.zeroValue0
 t3 := Tryz.underlying3
 a3 := Tryz.isAgg3
 z3 := Tryz.sizeOf3
 v3 := Tryz.zeroValue3
 t4 := Tryz.underlying4
 a4 := Tryz.isAgg4
 z4 := Tryz.sizeOf4
 v4 := Tryz.zeroValue4
 t5 := Tryz.underlying5
 a5 := Tryz.isAgg5
 z5 := Tryz.sizeOf5
 v5 := Tryz.zeroValue5
 t9 := Tryz.underlying9
 a9 := Tryz.isAgg9
 z9 := Tryz.sizeOf9
 v9 := Tryz.zeroValue9
 t28 := Tryz.underlying165
 a28 := Tryz.isAgg165
 z28 := Tryz.sizeOf165
 v28 := Tryz.zeroValue165
 t46 := Tryz.underlying170
 a46 := Tryz.isAgg170
 z46 := Tryz.sizeOf170
 v46 := Tryz.zeroValue170
 t51 := Tryz.underlying203
 a51 := Tryz.isAgg203
 z51 := Tryz.sizeOf203
 v51 := Tryz.zeroValue203
 t53 := Tryz.underlying206
 a53 := Tryz.isAgg206
 z53 := Tryz.sizeOf206
 v53 := Tryz.zeroValue206
 t131 := Tryz.underlying252
 a131 := Tryz.isAgg252
 z131 := Tryz.sizeOf252
 v131 := Tryz.zeroValue252
 t182 := Tryz.underlying260
 a182 := Tryz.isAgg260
 z182 := Tryz.sizeOf260
 v182 := Tryz.zeroValue260
 t183 := Tryz.underlying261
 a183 := Tryz.isAgg261
 z183 := Tryz.sizeOf261
 v183 := Tryz.zeroValue261
 t218 := Tryz.underlying271
 a218 := Tryz.isAgg271
 z218 := Tryz.sizeOf271
 v218 := Tryz.zeroValue271
 t222 := Tryz.underlying164
 a222 := Tryz.isAgg164
 z222 := Tryz.sizeOf164
 v222 := Tryz.zeroValue164
 t228 := Tryz.underlying278
 a228 := Tryz.isAgg278
 z228 := Tryz.sizeOf278
 v228 := Tryz.zeroValue278
 t229 := Tryz.underlying135
 a229 := Tryz.isAgg135
 z229 := Tryz.sizeOf135
 v229 := Tryz.zeroValue135 }
def YtffmomgmkpmpkaaGreatDoor.compactLays_ren : Go.Shelf.Ren := ⟨fun | 20 => 182 | n => n, fun | 0 => 0 | 3 => 3 | 4 => 4 | 22 => 165 | n => n, fun n => n⟩
set_option maxRecDepth 100000 in
theorem YtffmomgmkpmpkaaGreatDoor.compactLays : Lays2.n20 Tryz.prog YtffmomgmkpmpkaaGreatDoor.compactLays_ren := {
  mixed := by kernel_rfl
  f20 := Tryz.func182.trans (congrArg some (by kernel_rfl))
  t0 := Tryz.underlying0
  a0 := Tryz.isAgg0
  z0 := Tryz.sizeOf0
  v0 := Tryz.zeroValue0
  t3 := Tryz.underlying3
  a3 := Tryz.isAgg3
  z3 := Tryz.sizeOf3
  v3 := Tryz.zeroValue3
  t4 := Tryz.underlying4
  a4 := Tryz.isAgg4
  z4 := Tryz.sizeOf4
  v4 := Tryz.zeroValue4
  t22 := Tryz.underlying165
  a22 := Tryz.isAgg165
  z22 := Tryz.sizeOf165
  v22 := Tryz.zeroValue165
  i3 := by kernel_rfl }
def YtffmomgmkpmpkaaGreatDoor.sortFuncLays_ren : Go.Shelf.Ren := ⟨fun | 6 => 185 | 14 => 197 | 15 => 194 | 20 => 210 | 21 => 211 | 22 => 212 | 23 => 213 | 24 => 214 | 25 => 215 | 26 => 216 | 27 => 217 | 28 => 209 | 29 => 177 | 46 => 224 | 47 => 219 | 48 => 220 | 49 => 225 | 50 => 226 | 57 => 228 | n => n, fun | 0 => 0 | 3 => 3 | 4 => 4 | 5 => 5 | 9 => 9 | 22 => 211 | 24 => 213 | 25 => 248 | 39 => 170 | 45 => 260 | 46 => 261 | 50 => 252 | 53 => 203 | 55 => 206 | 66 => 271 | 70 => 164 | 76 => 278 | 77 => 135 | n => n, fun n => n⟩
set_option maxRecDepth 100000 in
theorem YtffmomgmkpmpkaaGreatDoor.sortFuncLays : SlLaysF0.n6 Tryz.prog YtffmomgmkpmpkaaGreatDoor.sortFuncLays_ren := {
 mixed := by kernel_rfl
 f6 := ⟨Tryz.f185.name, by decide, Tryz.func185.trans (congrArg some (by kernel_rfl))⟩
 f14 := ⟨Tryz.f197.name, by decide, Tryz.func197.trans (congrArg some (by kernel_rfl))⟩
 f15 := Tryz.func194.trans (congrArg some (by kernel_rfl))
 f20 := ⟨Tryz.f210.name, by decide, Tryz.func210.trans (congrArg some (by kernel_rfl))⟩
 f21 := ⟨Tryz.f211.name, by decide, Tryz.func211.trans (congrArg some (by kernel_rfl))⟩
 f22 := ⟨Tryz.f212.name, by decide, Tryz.func212.trans (congrArg some (by kernel_rfl))⟩
 f23 := ⟨Tryz.f213.name, by decide, Tryz.func213.trans (congrArg some (by kernel_rfl))⟩
 f24 := ⟨Tryz.f214.name, by decide, Tryz.func214.trans (congrArg some (by kernel_rfl))⟩
 f25 := ⟨Tryz.f215.name, by decide, Tryz.func215.trans (congrArg some (by kernel_rfl))⟩
 f26 := ⟨Tryz.f216.name, by decide, Tryz.func216.trans (congrArg some (by kernel_rfl))⟩
 f27 := ⟨Tryz.f217.name, by decide, Tryz.func217.trans (congrArg some (by kernel_rfl))⟩
 f28 := Tryz.func209.trans (congrArg some (by kernel_rfl))
 f29 := Tryz.func177.trans (congrArg some (by kernel_rfl))
 f46 := ⟨Tryz.f224.name, by decide, Tryz.func224.trans (congrArg some (by kernel_rfl))⟩
 f47 := Tryz.func219.trans (congrArg some (by kernel_rfl))
 f48 := Tryz.func220.trans (congrArg some (by kernel_rfl))
 f49 := ⟨Tryz.f225.name, by decide, Tryz.func225.trans (congrArg some (by kernel_rfl))⟩
 f50 := ⟨Tryz.f226.name, by decide, Tryz.func226.trans (congrArg some (by kernel_rfl))⟩
 f57 := ⟨Tryz.f228.name, by decide, Tryz.func228.trans (congrArg some (by kernel_rfl))⟩
 t0 := Tryz.underlying0
 a0 := Tryz.isAgg0
 z0 := Tryz.sizeOf0
 v0 := Tryz.zeroValue0
 t3 := Tryz.underlying3
 a3 := Tryz.isAgg3
 z3 := Tryz.sizeOf3
 v3 := Tryz.zeroValue3
 t4 := Tryz.underlying4
 a4 := Tryz.isAgg4
 z4 := Tryz.sizeOf4
 v4 := Tryz.zeroValue4
 t5 := Tryz.underlying5
 a5 := Tryz.isAgg5
 z5 := Tryz.sizeOf5
 v5 := Tryz.zeroValue5
 t9 := Tryz.underlying9
 a9 := Tryz.isAgg9
 z9 := Tryz.sizeOf9
 v9 := Tryz.zeroValue9
 t22 := Tryz.underlying211
 a22 := Tryz.isAgg211
 z22 := Tryz.sizeOf211
 v22 := Tryz.zeroValue211
 t25 := Tryz.underlying248
 a25 := Tryz.isAgg248
 z25 := Tryz.sizeOf248
 v25 := Tryz.zeroValue248
 t39 := Tryz.underlying170
 a39 := Tryz.isAgg170
 z39 := Tryz.sizeOf170
 v39 := Tryz.zeroValue170
 t45 := Tryz.underlying260
 a45 := Tryz.isAgg260
 z45 := Tryz.sizeOf260
 v45 := Tryz.zeroValue260
 t46 := Tryz.underlying261
 a46 := Tryz.isAgg261
 z46 := Tryz.sizeOf261
 v46 := Tryz.zeroValue261
 t50 := Tryz.underlying252
 a50 := Tryz.isAgg252
 z50 := Tryz.sizeOf252
 v50 := Tryz.zeroValue252
 t53 := Tryz.underlying203
 a53 := Tryz.isAgg203
 z53 := Tryz.sizeOf203
 v53 := Tryz.zeroValue203
 t55 := Tryz.underlying206
 a55 := Tryz.isAgg206
 z55 := Tryz.sizeOf206
 v55 := Tryz.zeroValue206
 t66 := Tryz.underlying271
 a66 := Tryz.isAgg271
 z66 := Tryz.sizeOf271
 v66 := Tryz.zeroValue271
 t70 := Tryz.underlying164
 a70 := Tryz.isAgg164
 z70 := Tryz.sizeOf164
 v70 := Tryz.zeroValue164
 t76 := Tryz.underlying278
 a76 := Tryz.isAgg278
 z76 := Tryz.sizeOf278
 v76 := Tryz.zeroValue278
 t77 := Tryz.underlying135
 a77 := Tryz.isAgg135
 z77 := Tryz.sizeOf135
 v77 := Tryz.zeroValue135 }
end Go.Proofs
