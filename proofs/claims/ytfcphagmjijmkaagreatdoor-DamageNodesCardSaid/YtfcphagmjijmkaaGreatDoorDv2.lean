/-
  The walk of the law DamageNodes.
-/
import Derived.Below
import Derived.ChangeSame
import Derived.Deep.DeepCutAuto
import Derived.Deep.Fields
import Derived.Deep.MidRow
import Derived.Deep.RegionHeld3
import Derived.Deep.Slices
import Derived.Deep.WholeRow
import Derived.DeepKeys4
import Derived.IntWalk
import Derived.KernelRfl
import Derived.Laws.AppendOwnNone
import Derived.Laws.BitsLemmas
import Derived.Laws.CopyOwn
import Derived.Laws.CopyRow
import Derived.Laws.EntriesVeiled
import Derived.Laws.Externs
import Derived.Laws.IdiomCopy
import Derived.Laws.MakeOwn
import Derived.Laws.OwnMore
import Derived.Laws.StructEq
import Derived.Lib.Bytealg
import Derived.Lib.DecodeNEq
import Derived.Lib.Hide
import Derived.Lib.IndexBytes
import Derived.Lib.OthersKept
import Derived.Lib.SmallJoins
import Derived.LoopIn
import Derived.LoopNIn
import Derived.Maps.AppendAt
import Derived.Maps.Own
import Derived.Maps.OwnOps
import Derived.Maps.OwnSet
import Derived.Maps.RangeWalk
import Derived.OneCell
import Derived.OrdersHeld
import Derived.OwnWalk
import Derived.OwnWalkIn
import Derived.RangeFuncBound
import Derived.RangeFuncCalls
import Derived.RangeFuncLeaves
import Derived.RangeFuncNested
import Derived.ScopeJumps
import Derived.Shelf.Bits.Mul64
import Derived.Shelf.LaysM
import Derived.Shelf.RegionOpen
import Derived.Shelf.SlSortCmp.NoneTotal
import Derived.Shelf.SlSortCmp.WholeK
import Derived.Shelf.Slices.CompactI
import Derived.Shelf.Slices.In.SortNone
import Derived.Shelf.Small.Bits
import Derived.Shelf.Small.Wraps
import Derived.Shelf.Sort.Plain
import Derived.Shelf.Spec.SlicesGrow
import Derived.Shelf.Spec.SlicesInsert
import Derived.Shelf.Strconv.Itoa0
import Derived.Shelf.Strconv.Itoa1
import Derived.Shelf.Strconv.Itoa2
import Derived.Shelf.Strconv.Itoa3
import Derived.Shelf.Strings.Builder1
import Derived.Shelf.Strings.BuilderCap
import Derived.Shelf.Strings.BuilderF
import Derived.Shelf.Strings.BuilderK
import Derived.Shelf.Strings.BuilderRune
import Derived.Shelf.Strings.Prefix
import Derived.Shelf.Unicode.Decode
import Derived.Shelf.Unicode.DecodeAny
import Derived.Shelf.Unicode.DecodeSlow
import Derived.Shelf.Utf8.AppendRune
import Derived.Shelf.Utf8.AppendRunePlain
import Derived.Sort.OwnSortedInts
import Derived.StillTail
import Derived.Tactics2
import Derived.TacticsInMore
import Derived.WalkKit
import Derived.WalkLawsBesides
import Derived.WalkSpells
import Derived.WideKeyEntry
import Derived.Test.YtfcphagmjijmkaaGreatDoorDq33
import Derived.Test.YtfcphagmjijmkaaGreatDoorProg
import Derived.Test.YtfcphagmjijmkaaGreatDoorDv1
namespace Go.Proofs.YtfcphagmjijmkaaGreatDoor
open Go.RowKit
set_option linter.unusedVariables false
attribute [local go_sem] vwp vUpon_value vUpon_skip vUpon_enter vUpon_row
set_option linter.unusedSimpArgs false
set_option linter.unusedVariables false
attribute [local go_sem high] eql_rect eql_stroke
theorem encI_at {B : Nat} {w : World} {v : Value} {l : List Int} {n : Nat} (hn : l.length = n) (h : Row B 1 encI w v l) : ∃ s cap, v = .slice s n cap ∧ n ≤ maxLen ∧ (0 < n → ∃ g o, s = some ⟨g, o, none⟩ ∧ g < B ∧ n ≤ cap ∧ ∀ (k : Nat) c, l[k]? = some c → w.cell? ⟨g, o + k, none⟩ = some (.int .i64 c)) := by
  obtain ⟨s, cap, e, hm⟩ := h.shape
  rw [hn] at e hm
  refine ⟨s, cap, e, hm, fun h0 => ?_⟩
  obtain ⟨g, o, cap', e', hg, h1, _, hx⟩ := h.open_ (by omega)
  rw [e, hn] at e'
  simp only [Value.slice.injEq] at e'
  obtain ⟨rfl, _, rfl⟩ := e'
  refine ⟨g, o, rfl, hg, by omega, fun k c hc => ?_⟩
  have h := hx k c hc 0 _ rfl
  rw [Nat.mul_one, Nat.add_zero] at h
  exact h
set_option maxHeartbeats 2000000 in
set_option maxRecDepth 100000 in
theorem has_any (l : List Int) (v : Value) (x : Int) (w : World) (h : Row w.heap.size 1 encI w v l) : Calls Tryz.prog 37 #[v, .int .i64 x] w fun e w' => e = .returned (.bool (decide (x ∈ l))) ∧ Below w.heap.size w w' := by
 obtain ⟨n, hn⟩ : ∃ n, l.length = n := ⟨_, rfl⟩
 obtain ⟨s, cap, rfl, hm, hop⟩ := encI_at hn h
 unfold maxLen at hm
 replace hop := Lib.hid hop
 replace hn := Lib.hid hn
 clear h
 obtain ⟨R, hR⟩ : ∃ b, decide (x ∈ l) = b := ⟨_, rfl⟩
 rw [hR]
 replace hR := Lib.hid hR
 go_enter Tryz.func37, Tryz.ntmps37
 go_upto_region 2 with fail
 go_loopw [5] (fun iv wr => ∃ k : Nat, k ≤ n ∧ iv = .int .i64 k ∧ Below w.heap.size w wr ∧ ∀ c ∈ l.take k, c ≠ x) (fun iv _ => n - (intOf iv).toNat)
 case atStart => exact ⟨0, Nat.zero_le _, rfl, Below.refl _ _, fun c hc => by simp at hc⟩
 case round =>
  obtain ⟨k, hk, rfl, hbr, hno⟩ := hrel
  obtain ⟨wv, rfl⟩ : ∃ u, u = wr := ⟨_, rfl⟩
  by_cases hkn : k < n
  ·have hkk : (k : Int) < n := by omega
   obtain ⟨g, o, rfl, hg, hc1, hel⟩ := hop.out (by omega)
   obtain ⟨c, hc⟩ := get_at hn.out hkn
   have z1 := (hbr.cell (p := ⟨g, o + k, none⟩) hg).trans (hel k c hc)
   have zr := hbr.size
   have ya : g < wv.heap.size := by omega
   by_cases hcx : c = x
   ·subst hcx
    have hin : decide (c ∈ l) = true := decide_eq_true (List.mem_of_getElem? hc)
    clear hc hel hno
    go_wp2
    go_ret
    exact ⟨congrArg (fun b => Ending.returned (.bool b)) (hin.symm.trans hR.out), hbr⟩
   ·have hcb : (c == x) = false := by simpa using hcx
    have hno2 : ∀ c ∈ l.take (k + 1), c ≠ x := fun d hd => by
     rw [List.take_add_one, hc] at hd
     rcases List.mem_append.1 hd with hd | hd
     ·exact hno d hd
     ·simp only [Option.toList_some, List.mem_singleton] at hd
      rw [hd]; exact hcx
    clear hc hel hno
    go_wp2
    go_roundw
    case rel => exact ⟨k + 1, by omega, by go_num, hbr, hno2⟩
    case measure => simp [intOf]; omega
  ·obtain rfl : k = n := by omega
   have hkk : ¬ (k : Int) < k := by omega
   rw [List.take_of_length_le (by rw [hn.out]; exact Nat.le_refl _)] at hno
   have hin : decide (x ∈ l) = false := decide_eq_false (fun hx => hno x hx rfl)
   clear hno
   go_wp2
   go_ret
   exact ⟨congrArg (fun b => Ending.returned (.bool b)) (hin.symm.trans hR.out), hbr⟩
theorem infoB : (Tryz.prog.info? 4).map (fun i => (i.zero, i.size, i.bytes)) = some (some (.bool false), 1, 1) := by kernel_rfl
theorem made_one {z : Value} {n : Nat} (hz : z.cells = #[z]) : madeCells z.cells (n * 1) = (List.replicate n z).toArray := by
  rw [hz]
  apply Array.ext'
  apply List.ext_getElem?
  intro i
  by_cases c : i < n
  · simp [madeCells, c, List.getElem?_replicate, Nat.mod_one]
  · simp [madeCells, c, List.getElem?_replicate, Nat.mod_one]
theorem make_bools (n : Nat) (hn : n ≤ 16384) (w : World) : (Instr.makeSlice 69 (.int .i64 n) (.int .i64 n)).run Tryz.prog w = .ok (.slice (some ⟨w.heap.size, 0, none⟩) n n) (w.alloc (.cells (List.replicate n (.bool false)).toArray 4)) := by
  obtain ⟨i0, hi, hz0, hz1, hz2⟩ := info_parts infoB
  have h := run_make (P := Tryz.prog) w 69 4 i0 _ Tryz.underlying69 hi hz0 .i64 .i64 n n (by omega) (Int.le_refl _) (by rw [hz2]; omega) (by omega)
  rw [h, hz1, Int.toNat_natCast, made_one rfl]
theorem make_room (n : Nat) (hn : n ≤ 100000) (w : World) : (Instr.makeSlice 52 (.int .i64 0) (.int .i64 n)).run Tryz.prog w = .ok (.slice (some ⟨w.heap.size, 0, none⟩) 0 n) (w.alloc (.cells (List.replicate n (.int .i64 0)).toArray 3)) := by
  obtain ⟨i0, hi, hz0, hz1, hz2⟩ := info_parts infoI
  have h := run_make (P := Tryz.prog) w 52 3 i0 _ Tryz.underlying52 hi hz0 .i64 .i64 0 n (by omega) (by omega) (by rw [hz2]; omega) (by omega)
  rw [h, hz1, Int.toNat_natCast, made_one rfl]
  rfl
theorem own_far {base k sz n : Nat} {w : World} {v : Value} {e T : TypeId} {xs ys : List Value} (h : w.ownsRow base e sz v n xs) (hb : Blk w k ys T) (hT : T ≠ e) : v.ownBlock ≠ some k := by
  intro he
  rcases h.2 with ⟨rfl, _⟩ | ⟨g, cap, cur, rfl, _, hg, _⟩
  · simp [Value.ownBlock] at he
  · simp only [Value.ownBlock, Option.some.injEq] at he
    subst he
    unfold Blk at hb
    rw [hb] at hg
    injection hg with hg
    injection hg with _ h2 _
    exact hT h2
theorem fst_step {f : Fl} {Y : List Fl} {bs : List Bool} {k : Nat} {g : Fl} {b : Bool} (h1 : Y[k]? = some g) (h2 : bs[k]? = some b) : fstU f (Y.drop k) (bs.drop k) k = if !b && f.eqb g then some k else fstU f (Y.drop (k + 1)) (bs.drop (k + 1)) (k + 1) := by
  rw [drop_get h1, drop_get h2, fstU]
theorem fst_end {f : Fl} {Y : List Fl} {bs : List Bool} {k : Nat} (h : Y.length ≤ k) : fstU f (Y.drop k) (bs.drop k) k = none := by
  rw [List.drop_of_length_le h, fstU]
  intro g ys b bs h
  cases h
theorem mtc_some {X Y : List Fl} {bs : List Bool} {u : List Int} {i j : Nat} {f : Fl} {M : List Bool × List Int} (h : mtcGo Y (X.drop i) bs u = M) (hf : X[i]? = some f) (hj : fstU f Y bs 0 = some j) : mtcGo Y (X.drop (i + 1)) (bs.set j true) u = M := by
  rw [drop_get hf, mtcGo, hj] at h
  exact h
theorem mtc_none {X Y : List Fl} {bs : List Bool} {u : List Int} {i : Nat} {f : Fl} {M : List Bool × List Int} (h : mtcGo Y (X.drop i) bs u = M) (hf : X[i]? = some f) (hj : fstU f Y bs 0 = none) : mtcGo Y (X.drop (i + 1)) bs (u ++ [f.s.node]) = M := by
  rw [drop_get hf, mtcGo, hj] at h
  exact h
theorem res_step {Y : List Fl} {bs : List Bool} {k : Nat} {g : Fl} {b : Bool} {l U : List Int} (h : l ++ (resF (Y.drop k) (bs.drop k)).map (fun g => g.s.node) = U) (h1 : Y[k]? = some g) (h2 : bs[k]? = some b) :
    (b = true → l ++ (resF (Y.drop (k + 1)) (bs.drop (k + 1))).map (fun g => g.s.node) = U) ∧ (b = false → (l ++ [g.s.node]) ++ (resF (Y.drop (k + 1)) (bs.drop (k + 1))).map (fun g => g.s.node) = U) := by
  rw [drop_get h1, drop_get h2, resF] at h
  constructor
  · rintro rfl
    exact h
  · rintro rfl
    rw [List.append_assoc]
    exact h
set_option maxHeartbeats 16000000 in
set_option maxRecDepth 100000 in
theorem walk_DamageNodes (xs : List St) (vx : Value) (ys : List St) (vy : Value) (w : World) (hx : Row w.heap.size 15 St.enc w vx xs) (k1 : ∀ s ∈ xs, s.Wf) (hy : Row w.heap.size 15 St.enc w vy ys) (k2 : ∀ s ∈ ys, s.Wf) :
  Calls Tryz.prog 8 #[vx, vy] w fun e w' => e = .returned (.bool true) ∧ Below w.heap.size w w' := by
 obtain ⟨iI, hi0, hz0, hz1, hz2⟩ := info_parts infoI
 obtain ⟨s1, cap1, rfl, hmax1⟩ := hx.shape
 obtain ⟨s2, cap2, rfl, hmax2⟩ := hy.shape
 have NC := fun W (h : Below w.heap.size w W) => dnodes_any xs ys _ _ W ((hx.below h).mono h.size) ((hy.below h).mono h.size) k1 k2
 have FX := fun W (h : Below w.heap.size w W) => lflat_any xs _ W ((hx.below h).mono h.size) k1
 have FY := fun W (h : Below w.heap.size w W) => lflat_any ys _ W ((hy.below h).mono h.size) k2
 have hE : dmgE xs ys = if chkL xs = 0 then chkL ys else chkL xs := rfl
 have hN0 : dmgE xs ys ≠ 0 → nodN xs ys = [] := fun h => if_neg h
 have hN1 : dmgE xs ys = 0 → nodN xs ys = nodL (flts xs) (flts ys) := fun h => if_pos h
 have lX : chkL xs = 0 → (flts xs).length ≤ 16384 := fun h => flts_le h
 have lY : chkL ys = 0 → (flts ys).length ≤ 16384 := fun h => flts_le h
 obtain ⟨NL, hNL⟩ : ∃ l, nodN xs ys = l := ⟨_, rfl⟩
 obtain ⟨E, hEe⟩ : ∃ l, dmgE xs ys = l := ⟨_, rfl⟩
 obtain ⟨E1, hE1⟩ : ∃ l, chkL xs = l := ⟨_, rfl⟩
 obtain ⟨E2, hE2⟩ : ∃ l, chkL ys = l := ⟨_, rfl⟩
 rw [hEe, hNL] at NC
 rw [hE1] at FX
 rw [hE2] at FY
 rw [hEe, hE1, hE2] at hE
 rw [hEe, hNL] at hN0 hN1
 rw [hE1] at lX
 rw [hE2] at lY
 obtain ⟨n1, en1⟩ : ∃ n, xs.length = n := ⟨_, rfl⟩
 obtain ⟨n2, en2⟩ : ∃ n, ys.length = n := ⟨_, rfl⟩
 rw [en1] at hmax1 NC FX ⊢
 rw [en2] at hmax2 NC FY ⊢
 unfold maxLen at hmax1 hmax2
 replace NC := Lib.hid NC
 replace FX := Lib.hid FX
 replace FY := Lib.hid FY
 have lX0 := Lib.hid lX
 clear lX
 have lY0 := Lib.hid lY
 clear lY
 replace hN0 := Lib.hid hN0
 replace hN1 := Lib.hid hN1
 replace hE := Lib.hid hE
 clear hx hy hNL hEe hE1 hE2 en1 en2 k1 k2
 have AW := Lib.hid (dalive_any w)
 go_enter Tryz.func8, Tryz.ntmps8
 go_upto_region 4 with (go_at_call 19; (with_reducible refine AW.out.mono ?_); rintro e w1 ⟨rfl, hb1⟩)
 clear AW
 by_cases g1 : 60 < n1
 ·have g1i : (60 : Int) < n1 := by omega
  go_wp2
  go_ret
  exact ⟨rfl, hb1⟩
 ·have g1i : ¬ (60 : Int) < n1 := by omega
  by_cases g2 : 60 < n2
  ·have g2i : (60 : Int) < n2 := by omega
   go_wp2
   go_ret
   exact ⟨rfl, hb1⟩
  ·have g2i : ¬ (60 : Int) < n2 := by omega
   replace NC := Lib.hid (NC.out w1 hb1)
   go_upto_region 7 with (go_at_call 21; (with_reducible refine NC.out.mono ?_); rintro e w2 ⟨hb2, v6, rfl, O6⟩)
   have hb02 := hb1.trans (hb2.mono hb1.size)
   replace FX := Lib.hid (FX.out w2 hb02)
   clear NC hb1 hb2 g1 g2 g1i g2i
   go_upto_region 8 with (go_at_call 36; (with_reducible refine FX.out.mono ?_); rintro e w3 ⟨hb3, v8, v9, rfl, O8, O9, _⟩)
   have hb03 := hb02.trans (hb3.mono hb02.size)
   replace FY := Lib.hid (FY.out w3 hb03)
   clear FX
   go_upto_region 9 with (go_at_call 36; (with_reducible refine FY.out.mono ?_); rintro e w4 ⟨hb4, v11, v12, rfl, O11, O12, _⟩)
   have hb04 := hb03.trans (hb4.mono hb03.size)
   have O6 := ownsRow_below O6 (hb3.trans (hb4.mono hb3.size)) (Nat.le_refl _)
   replace O8 := Owns.below O8 hb4 (Nat.le_refl _)
   replace O9 := OwnsR.below O9 hb4 (Nat.le_refl _)
   clear FY hb02 hb03 hb3 hb4
   obtain ⟨s6, c6, hv6⟩ := own_slice O6
   subst hv6
   by_cases c1 : E1 = 0
   ·by_cases c2 : E2 = 0
    ·subst c1 c2
     have hE0 : E = 0 := by rw [hE.out]; rfl
     subst hE0
     clear hN0 hE
     have lX := lX0.out rfl
     have lY := lY0.out rfl
     have hN2 := hN1.out rfl
     clear lX0 lY0 hN1
     have rl : Rise NL := by rw [hN2]; exact (nod_is _ _).1
     have um : ∀ n, n ∈ unlN (flts xs) (flts ys) ↔ n ∈ NL := fun n => by rw [hN2]; exact unl_mem _ _ n
     clear hN2
     have fl1 : (flR xs).length = (flS xs).length := flsr_len
     have fl2 : (flR ys).length = (flS ys).length := flsr_len
     have fl3 := flts_len xs
     have fl4 := flts_len ys
     obtain ⟨nX, hnX⟩ : ∃ n, (flts xs).length = n := ⟨_, rfl⟩
     obtain ⟨nY, hnY⟩ : ∃ n, (flts ys).length = n := ⟨_, rfl⟩
     obtain ⟨nl, hnl⟩ : ∃ n, NL.length = n := ⟨_, rfl⟩
     have P6 := (OwnsI.row (base := w1.heap.size) (l := NL) O6 (Nat.le_refl _))
     have P8 := O8.row (Nat.le_refl _)
     have P9 := O9.row (Nat.le_refl _)
     have P11 := O11.row (Nat.le_refl _)
     have P12 := O12.row (Nat.le_refl _)
     obtain ⟨s8, c8, hv8⟩ := own_slice O8
     obtain ⟨s9, c9, hv9⟩ := own_slice O9
     obtain ⟨s11, c11, hv11⟩ := own_slice O11
     obtain ⟨s12, c12, hv12⟩ := own_slice O12
     rw [← fl3, hnX] at hv8
     rw [fl1, ← fl3, hnX] at hv9
     rw [← fl4, hnY] at hv11
     rw [fl2, ← fl4, hnY] at hv12
     rw [hnl] at P6 ⊢
     subst hv8 hv9 hv11 hv12
     have e8 := fun h0 => row_st P8 h0
     have e9 := fun h0 => row_re P9 h0
     have e11 := fun h0 => row_st P11 h0
     have e12 := fun h0 => row_re P12 h0
     rw [← fl3, hnX] at e8
     rw [fl1, ← fl3, hnX] at e9
     rw [← fl4, hnY] at e11
     rw [fl2, ← fl4, hnY] at e12
     have gX := fun i f (h : (flts xs)[i]? = some f) => flts_get h
     have gY := fun i f (h : (flts ys)[i]? = some f) => flts_get h
     obtain ⟨X, hX⟩ : ∃ l, flts xs = l := ⟨_, rfl⟩
     obtain ⟨Y, hY⟩ : ∃ l, flts ys = l := ⟨_, rfl⟩
     rw [hX] at um gX hnX lX
     rw [hY] at um gY hnY lY
     rw [hnX] at lX
     rw [hnY] at lY
     obtain ⟨_, _, ee6, hm6, e6⟩ := encI_at hnl P6
     simp only [Value.slice.injEq] at ee6
     obtain ⟨rfl, _, rfl⟩ := ee6
     unfold maxLen at hm6
     replace e6 := Lib.hid e6
     replace e8 := Lib.hid e8
     replace e9 := Lib.hid e9
     replace e11 := Lib.hid e11
     replace e12 := Lib.hid e12
     replace gX := Lib.hid gX
     replace gY := Lib.hid gY
     replace P6 := Lib.hid P6
     replace hnX := Lib.hid hnX
     replace hnY := Lib.hid hnY
     replace hnl := Lib.hid hnl
     replace um := Lib.hid um
     replace rl := Lib.hid rl
     replace hb04 := Lib.hid hb04
     clear O6 O8 O9 O11 O12 P8 P9 P11 P12 fl1 fl2 fl3 fl4 hX hY
     go_upto_region 14 with fail
     go_loopw [14] (fun iv wr => ∃ j : Nat, (j + 1 ≤ nl ∨ j = 0) ∧ iv = .int .i64 ((j : Int) + 1) ∧ Below w4.heap.size w4 wr) (fun iv _ => nl - (intOf iv).toNat)
     case atStart => exact ⟨0, .inr rfl, rfl, Below.refl _ _⟩
     case round =>
      obtain ⟨j, hj, rfl, hbr⟩ := hrel
      obtain ⟨wv, rfl⟩ : ∃ u, u = wr := ⟨_, rfl⟩
      have zr := hbr.size
      by_cases hjn : j + 1 < nl
      ·have hjj : (j : Int) + 1 < nl := by omega
       obtain ⟨g, o, rfl, hg, hc1, hel⟩ := e6.out (by omega)
       obtain ⟨a, ha⟩ := get_at hnl.out (show j < nl by omega)
       obtain ⟨b, hb⟩ := get_at hnl.out hjn
       have hab := rise_lt rl.out (Nat.lt_succ_self j) ha hb
       have z1 := (hbr.cell (p := ⟨g, o + j, none⟩) hg).trans (hel j a ha)
       have z2 := (hbr.cell (p := ⟨g, o + (j + 1), none⟩) hg).trans (hel (j + 1) b hb)
       have ya : g < wv.heap.size := by omega
       have hab1 : ¬ b ≤ a := by omega
       have hj2 : j < nl := by omega
       have hab2 : decide (b ≤ a) = false := decide_eq_false hab1
       clear ha hb hel
       go_upto_region 16 with fail
       refine wp_region_steady (Held wv 0 []) (by kernel_rfl) (by kernel_rfl) ⟨belt, (by (try simp) <;> omega), (by first | exact trivial | (simp only [Cells]; go_simp))⟩ ?_
       repeat (first | (refine' wpSteady_do _ _ _; rotate_left; (focus rfl); (focus (intro w1 hS R hR; have hc := hS.cells; simp only [Cells] at hc; obtain ⟨hco, hfo⟩ := bcell hS.old; go_simp; (try go_bits); first | exact hR _ hS | fail)); simp only [pu]) | (refine wpSteady_pass ?_ ?_; (focus rfl); simp only [pu]))
       refine wpSteady_nil (fun uA hSA => ?_)
       have hcA := hSA.cells; have hbA := hSA.old; have hzA := hSA.size; clear hSA; simp only [Cells] at hcA; obtain ⟨hcoA, hfoA⟩ := bcell hbA
       go_wp2
       go_roundw
       case rel => exact ⟨j + 1, .inl (by omega), by go_num, hbr.trans (hbA.mono zr)⟩
       case measure => simp [intOf]; omega
      ·have hjj : ¬ (j : Int) + 1 < nl := by omega
       have MKB := make_bools nY lY
       have MKR : ∀ w, (Instr.makeSlice 52 (.int .i64 0) (.int .i64 ((nX : Int) + (nY : Int)))).run Tryz.prog w = .ok (.slice (some ⟨w.heap.size, 0, none⟩) 0 (nX + nY)) (w.alloc (.cells (List.replicate (nX + nY) (.int .i64 0)).toArray 3)) := fun w => by
        rw [← Int.natCast_add]
        exact make_room (nX + nY) (by omega) w
       go_upto_region 20 with fail
       clear MKB MKR hj hjn hjj
       obtain ⟨W20, hW20⟩ : ∃ W, (wv.alloc (Obj.cells (Array.replicate nY (.bool false)) 4)).alloc (Obj.cells (Array.replicate (nX + nY) (.int .i64 0)) 3) = W := ⟨_, rfl⟩
       obtain ⟨b15, hb15⟩ : ∃ b, wv.heap.size = b := ⟨_, rfl⟩
       have B15 : Blk W20 b15 ((List.replicate nY false).map Value.bool) 4 := by
        rw [← hW20]
        refine Blk.alloc ?_ _
        have h := Blk.new' (w := wv) (b := b15) (cs := (List.replicate nY false).map Value.bool) (e := 4) hb15.symm
        rw [List.map_replicate] at h ⊢
        simpa using h
       have O16 : OwnsI w4.heap.size W20 (.slice (some ⟨b15 + 1, 0, none⟩) 0 (nX + nY)) [] := by
        refine ⟨rfl, .inr ⟨b15 + 1, nX + nY, Array.replicate (nX + nY) (.int .i64 0), rfl, by omega, ?_, Nat.zero_le _, by unfold maxLen; omega, by simp, rfl⟩⟩
        have h := Blk.new' (w := wv.alloc (Obj.cells (Array.replicate nY (.bool false)) 4)) (b := b15 + 1) (cs := List.replicate (nX + nY) (.int .i64 0)) (e := 3) (by simp [hb15])
        rw [← hW20]
        unfold Blk at h
        simpa using h
       have h20 : Below w4.heap.size w4 W20 := by rw [← hW20]; exact (hbr.alloc zr _).alloc (by simp; omega) _
       rw [hW20, hb15]
       have hbb : w4.heap.size ≤ b15 := by omega
       clear hW20 hb15 hbr zr
       obtain ⟨MT, hMT⟩ : ∃ M, mtcGo Y X (List.replicate Y.length false) [] = M := ⟨_, rfl⟩
       obtain ⟨UN, hUN⟩ : ∃ U, unlN X Y = U := ⟨_, rfl⟩
       have hU : MT.2 ++ (resF Y MT.1).map (fun g => g.s.node) = UN := by rw [← hUN, ← hMT]; rfl
       rw [hnY.out] at hMT
       rw [hUN] at um
       replace hMT := Lib.hid hMT
       replace hU := Lib.hid hU
       clear hUN
       go_upto_region 21 with fail
       go_loopw [16, 17] (fun v16 iv wr => ∃ (i : Nat) (bs : List Bool) (u : List Int), i ≤ nX ∧ iv = .int .i64 i ∧ Hid (mtcGo Y (X.drop i) bs u = MT) ∧ bs.length = nY ∧ Blk wr b15 (bs.map Value.bool) 4 ∧ OwnsI w4.heap.size wr v16 u ∧ u.length ≤ i ∧ Below w4.heap.size w4 wr) (fun _ iv _ => nX - (intOf iv).toNat)
       case atStart => exact ⟨0, List.replicate nY false, [], Nat.zero_le _, rfl, Lib.hid (by rw [List.drop_zero]; exact hMT.out), List.length_replicate .., B15, O16, Nat.le_refl _, h20⟩
       case round =>
        clear hMT B15 O16 h20
        obtain ⟨i, bs, u, hi, rfl, hm, hbl, B15, O16, hul, hbr⟩ := hrel
        obtain ⟨wv, rfl⟩ : ∃ x, x = wr := ⟨_, rfl⟩
        obtain ⟨s16, c16, hv16⟩ := own_slice O16
        obtain ⟨nu, hnu⟩ : ∃ n, u.length = n := ⟨_, rfl⟩
        rw [hnu] at hv16 hul
        subst hv16
        by_cases hin : i < nX
        ·have hii : (i : Int) < nX := by omega
         obtain ⟨f, hf⟩ := get_at hnX.out hin
         obtain ⟨f1, f2⟩ := gX.out i f hf
         obtain ⟨q8, p8, d8, ee8, y8, hq8, _, x8⟩ := e8.out (by omega)
         obtain ⟨q9, p9, d9, ee9, y9, hq9, _, x9⟩ := e9.out (by omega)
         simp only [Value.slice.injEq] at ee8 ee9
         obtain ⟨rfl, _, rfl⟩ := ee8
         obtain ⟨rfl, _, rfl⟩ := ee9
         obtain ⟨S0, S1, S2, S3, S4, S5, S6, S7, S8, S9, S10, S11, S12, S13, S14⟩ := x8 i f.s f1
         obtain ⟨T0, T1, T2, T3⟩ := x9 i f.r f2
         obtain ⟨F, hF⟩ : ∃ F, fstU f Y bs 0 = F := ⟨_, rfl⟩
         have hF0 := Lib.hid (show fstU f (Y.drop 0) (bs.drop 0) 0 = F from by rw [List.drop_zero, List.drop_zero]; exact hF)
         have hms := fun j (h : F = some j) => mtc_some hm.out hf (by rw [hF]; exact h)
         have hmn := fun (h : F = none) => mtc_none hm.out hf (by rw [hF]; exact h)
         replace hms := Lib.hid hms
         replace hmn := Lib.hid hmn
         replace hbl := Lib.hid hbl
         replace hnu := Lib.hid hnu
         obtain ⟨⟨fk, ⟨fx, fy, fw, fh⟩, ⟨fc0, fc1, fc2, fc3⟩, ⟨fd0, fd1, fd2, fd3⟩, ft, fn⟩, ⟨fq0, fq1, fq2, fq3⟩⟩ := f
         simp only at S0 S1 S2 S3 S4 S5 S6 S7 S8 S9 S10 S11 S12 S13 S14 T0 T1 T2 T3
         clear x8 x9 f1 f2 hF hf hm
         go_upto_region 25 with fail
         go_loopw [18, 19] (fun fv kv wi => ∃ k : Nat, k ≤ nY ∧ kv = .int .i64 k ∧ Below w4.heap.size w4 wi ∧ OwnsI w4.heap.size wi (.slice s16 nu c16) u ∧ ((fv = .bool false ∧ Blk wi b15 (bs.map Value.bool) 4 ∧ Hid (fstU ⟨⟨fk, ⟨fx, fy, fw, fh⟩, ⟨fc0, fc1, fc2, fc3⟩, ⟨fd0, fd1, fd2, fd3⟩, ft, fn⟩, ⟨fq0, fq1, fq2, fq3⟩⟩ (Y.drop k) (bs.drop k) k = F)) ∨ (∃ j, fv = .bool true ∧ Hid (F = some j) ∧ Blk wi b15 ((bs.set j true).map Value.bool) 4))) (fun _ kv _ => nY - (intOf kv).toNat)
         case atStart => exact ⟨0, Nat.zero_le _, rfl, hbr, O16, .inl ⟨rfl, B15, hF0⟩⟩
         case round =>
          clear hbr O16 B15 hF0
          obtain ⟨k, hk, rfl, hbi, O16, hcase⟩ := hrel
          obtain ⟨wi0, rfl⟩ : ∃ x, x = wr := ⟨_, rfl⟩
          rcases hcase with ⟨rfl, B15, hF1⟩ | ⟨j, rfl, hFj, B15⟩
          ·by_cases hkn : k < nY
           ·have hkk : (k : Int) < nY := by omega
            obtain ⟨g, hg⟩ := get_at hnY.out hkn
            obtain ⟨bb, hbe⟩ := get_at hbl.out hkn
            have hF2 := hF1.out
            rw [fst_step hg hbe] at hF2
            have z15 := B15.cell (o := k) (v := .bool bb) (by rw [List.getElem?_map, hbe]; rfl)
            have y15 := B15.lt
            obtain ⟨hci, hfi⟩ := bcell hbi
            have zi := hbi.size
            clear hF1
            cases bb
            ·simp only [Bool.not_false, Bool.true_and] at hF2
             obtain ⟨g1, g2⟩ := gY.out k g hg
             obtain ⟨q11, p11, d11, ee11, y11, hq11, _, x11⟩ := e11.out (by omega)
             obtain ⟨q12, p12, d12, ee12, y12, hq12, _, x12⟩ := e12.out (by omega)
             simp only [Value.slice.injEq] at ee11 ee12
             obtain ⟨rfl, _, rfl⟩ := ee11
             obtain ⟨rfl, _, rfl⟩ := ee12
             obtain ⟨G0, G1, G2, G3, G4, G5, G6, G7, G8, G9, G10, G11, G12, G13, G14⟩ := x11 k g.s g1
             obtain ⟨H0, H1, H2, H3⟩ := x12 k g.r g2
             obtain ⟨⟨gk, ⟨gx, gy, gw, gh⟩, ⟨gc0, gc1, gc2, gc3⟩, ⟨gd0, gd1, gd2, gd3⟩, gt, gn⟩, ⟨gq0, gq1, gq2, gq3⟩⟩ := g
             simp only at G0 G1 G2 G3 G4 G5 G6 G7 G8 G9 G10 G11 G12 G13 G14 H0 H1 H2 H3
             have v8 : q8 < wi0.heap.size := by omega
             have v9 : q9 < wi0.heap.size := by omega
             have v11 : q11 < wi0.heap.size := by omega
             have v12 : q12 < wi0.heap.size := by omega
             replace hbe := Lib.hid hbe
             clear x11 x12 g1 g2 hg
             cases hs : St.eqb ⟨fk, ⟨fx, fy, fw, fh⟩, ⟨fc0, fc1, fc2, fc3⟩, ⟨fd0, fd1, fd2, fd3⟩, ft, fn⟩ ⟨gk, ⟨gx, gy, gw, gh⟩, ⟨gc0, gc1, gc2, gc3⟩, ⟨gd0, gd1, gd2, gd3⟩, gt, gn⟩
             ·have hF3 := Lib.hid (show _ = F from by unfold Fl.eqb at hF2; simp only [hs, Bool.false_and, Bool.false_eq_true, if_false] at hF2; exact hF2)
              clear hF2
              go_upto_region 27 with fail
              refine wp_region_steady (Held wi0 0 []) (by kernel_rfl) (by kernel_rfl) ⟨belt, (by (try simp) <;> omega), (by first | exact trivial | (simp only [Cells]; go_simp))⟩ ?_
              repeat (first | (refine' wpSteady_do _ _ _; rotate_left; (focus rfl); (focus (intro w1 hS R hR; have hc := hS.cells; simp only [Cells] at hc; obtain ⟨hco, hfo⟩ := bcell hS.old; go_simp; (try go_bits); first | exact hR _ hS | fail)); simp only [pu]) | (refine wpSteady_pass ?_ ?_; (focus rfl); simp only [pu]))
              refine wpSteady_nil (fun uA hSA => ?_)
              have hcA := hSA.cells; have hbA := hSA.old; have hzA := hSA.size; clear hSA; simp only [Cells] at hcA; obtain ⟨hcoA, hfoA⟩ := bcell hbA
              have B15n := B15.below hbA B15.lt
              have O16n : OwnsI w4.heap.size uA (.slice s16 nu c16) u := ownsRow_below O16 hbA (Nat.le_refl _)
              have hbn := hbi.trans (hbA.mono zi)
              clear B15 O16 hbi
              go_wp2
              go_roundw
              case rel => exact ⟨k + 1, by omega, by go_num, hbn, O16n, .inl ⟨rfl, B15n, hF3⟩⟩
              case measure => simp [intOf]; omega
             ·cases hr : eq4 fq0 fq1 fq2 fq3 gq0 gq1 gq2 gq3
              ·have hF3 := Lib.hid (show _ = F from by unfold Fl.eqb Re.eqb at hF2; simp only [hs, hr, Bool.true_and, Bool.false_eq_true, if_false] at hF2; exact hF2)
               clear hF2
               go_upto_region 27 with fail
               refine wp_region_steady (Held wi0 0 []) (by kernel_rfl) (by kernel_rfl) ⟨belt, (by (try simp) <;> omega), (by first | exact trivial | (simp only [Cells]; go_simp))⟩ ?_
               repeat (first | (refine' wpSteady_do _ _ _; rotate_left; (focus rfl); (focus (intro w1 hS R hR; have hc := hS.cells; simp only [Cells] at hc; obtain ⟨hco, hfo⟩ := bcell hS.old; go_simp; (try go_bits); first | exact hR _ hS | fail)); simp only [pu]) | (refine wpSteady_pass ?_ ?_; (focus rfl); simp only [pu]))
               refine wpSteady_nil (fun uA hSA => ?_)
               have hcA := hSA.cells; have hbA := hSA.old; have hzA := hSA.size; clear hSA; simp only [Cells] at hcA; obtain ⟨hcoA, hfoA⟩ := bcell hbA
               have B15n := B15.below hbA B15.lt
               have O16n : OwnsI w4.heap.size uA (.slice s16 nu c16) u := ownsRow_below O16 hbA (Nat.le_refl _)
               have hbn := hbi.trans (hbA.mono zi)
               clear B15 O16 hbi
               go_wp2
               go_roundw
               case rel => exact ⟨k + 1, by omega, by go_num, hbn, O16n, .inl ⟨rfl, B15n, hF3⟩⟩
               case measure => simp [intOf]; omega
              ·have hF3 := Lib.hid (show F = some k from by unfold Fl.eqb Re.eqb at hF2; simp only [hs, hr, Bool.true_and, if_true] at hF2; exact hF2.symm)
               clear hF2
               go_upto_region 27 with fail
               refine wp_region_steady (Held wi0 0 []) (by kernel_rfl) (by kernel_rfl) ⟨belt, (by (try simp) <;> omega), (by first | exact trivial | (simp only [Cells]; go_simp))⟩ ?_
               repeat (first | (refine' wpSteady_do _ _ _; rotate_left; (focus rfl); (focus (intro w1 hS R hR; have hc := hS.cells; simp only [Cells] at hc; obtain ⟨hco, hfo⟩ := bcell hS.old; go_simp; (try go_bits); first | exact hR _ hS | fail)); simp only [pu]) | (refine wpSteady_pass ?_ ?_; (focus rfl); simp only [pu]))
               refine wpSteady_nil (fun uA hSA => ?_)
               have hcA := hSA.cells; have hbA := hSA.old; have hzA := hSA.size; clear hSA; simp only [Cells] at hcA; obtain ⟨hcoA, hfoA⟩ := bcell hbA
               have B15n := B15.below hbA y15
               have O16n : OwnsI w4.heap.size uA (.slice s16 nu c16) u := ownsRow_below O16 hbA (Nat.le_refl _)
               have hbn := hbi.trans (hbA.mono zi)
               have far := own_far O16n B15n (by decide)
               have z15n := B15n.cell (o := k) (v := .bool false) (by rw [List.getElem?_map, hbe.out]; rfl)
               clear z15 hci hfi B15 O16 hbi hcoA hfoA
               have y15n := B15n.lt
               have fr := B15n.free
               go_wp2
               go_roundw
               case rel => exact ⟨k + 1, by omega, by go_num, hbn.setCell (p := ⟨b15, k, none⟩) hbb _, own_other O16n (fun g hg he => far (by rw [hg]; exact congrArg some he)) _, .inr ⟨k, rfl, hF3, by have h := B15n.set k (.bool true); rw [List.map_set]; exact h⟩⟩
               case measure => simp [intOf]; omega
            ·have hF3 := Lib.hid (show _ = F from by simp only [Bool.not_true, Bool.false_and, Bool.false_eq_true, if_false] at hF2; exact hF2)
             clear hF2 hg hbe
             go_upto_region 27 with fail
             refine wp_region_steady (Held wi0 0 []) (by kernel_rfl) (by kernel_rfl) ⟨belt, (by (try simp) <;> omega), (by first | exact trivial | (simp only [Cells]; go_simp))⟩ ?_
             repeat (first | (refine' wpSteady_do _ _ _; rotate_left; (focus rfl); (focus (intro w1 hS R hR; have hc := hS.cells; simp only [Cells] at hc; obtain ⟨hco, hfo⟩ := bcell hS.old; go_simp; (try go_bits); first | exact hR _ hS | fail)); simp only [pu]) | (refine wpSteady_pass ?_ ?_; (focus rfl); simp only [pu]))
             refine wpSteady_nil (fun uA hSA => ?_)
             have hcA := hSA.cells; have hbA := hSA.old; have hzA := hSA.size; clear hSA; simp only [Cells] at hcA; obtain ⟨hcoA, hfoA⟩ := bcell hbA
             have B15n := B15.below hbA B15.lt
             have O16n : OwnsI w4.heap.size uA (.slice s16 nu c16) u := ownsRow_below O16 hbA (Nat.le_refl _)
             have hbn := hbi.trans (hbA.mono zi)
             clear B15 O16 hbi
             go_wp2
             go_roundw
             case rel => exact ⟨k + 1, by omega, by go_num, hbn, O16n, .inl ⟨rfl, B15n, hF3⟩⟩
             case measure => simp [intOf]; omega
           ·obtain rfl : k = nY := by omega
            have hkk : ¬ (k : Int) < k := by omega
            have hmj := Lib.hid (hmn.out (hF1.out.symm.trans (fst_end (by rw [hnY.out]; exact Nat.le_refl _))))
            have O16' : wi0.ownsRow w4.heap.size 3 1 (.slice s16 nu c16) nu (u.flatMap encI) := by have h := O16; unfold OwnsI at h; rw [hnu.out] at h; exact h
            have far := own_far O16 B15 (by decide)
            have lo := fun g hg => (own_in O16 g hg).1
            obtain ⟨hci, hfi⟩ := bcell hbi
            have zi := hbi.size
            replace O16' := Lib.hid O16'
            replace lo := Lib.hid lo
            clear hms hmn hF1 O16
            go_wp2_with (first
             | (at_builtin; refine wpList_append_own _ rfl _ _ _ rfl w4.heap.size 3 iI _ 1 8 Tryz.underlying52 hi0 hz0 hz1 hz2 rfl (by omega) _ nu _ (by rfl) (O16'.out.alloc _) ⟨wi0.heap.size, 0, none⟩ 1 1 [.int .i64 fn] (by rfl) rfl (cells_new wi0 [.int .i64 fn] 3) (by intro u hu; rw [List.mem_singleton.1 hu]; rfl) (by unfold maxLen; omega) (by omega) (by simp; omega) ?_; intro v5 w5 hown5 hgr5 _; replace hown5 := Lib.hid hown5; replace hgr5 := Lib.hid hgr5)
             | go_in)
            have B15n := (B15.alloc (.cells #[.int .i64 fn] 3)).keep hgr5.out far
            have hbn := (hbi.alloc zi (.cells #[.int .i64 fn] 3)).grown hgr5.out (by simp; omega) (fun g hg => lo.out g hg)
            clear B15 hbi far
            go_roundw
            case rel =>
             refine ⟨i + 1, bs, u ++ [fn], by omega, by go_num, hmj, hbl.out, B15n, ?_, by rw [List.length_append, hnu.out]; simp; omega, hbn⟩
             unfold OwnsI
             rw [List.length_append, hnu.out, List.flatMap_append]
             exact hown5.out
            case measure => simp [intOf]; omega
          ·have hmj := Lib.hid (hms.out j hFj.out)
           by_cases hkn : k < nY
           ·have hkk : (k : Int) < nY := by omega
            clear hms hmn
            go_wp2
            go_roundw
            case rel => exact ⟨i + 1, bs.set j true, u, by omega, by go_num, hmj, by rw [List.length_set]; exact hbl.out, B15, O16, by rw [hnu.out]; omega, hbi⟩
            case measure => simp [intOf]; omega
           ·obtain rfl : k = nY := by omega
            have hkk : ¬ (k : Int) < k := by omega
            clear hms hmn
            go_wp2
            go_roundw
            case rel => exact ⟨i + 1, bs.set j true, u, by omega, by go_num, hmj, by rw [List.length_set]; exact hbl.out, B15, O16, by rw [hnu.out]; omega, hbi⟩
            case measure => simp [intOf]; omega
        ·obtain rfl : i = nX := by omega
         have hii : ¬ (i : Int) < i := by omega
         have hm2 := hm.out
         rw [List.drop_of_length_le (by rw [hnX.out]; exact Nat.le_refl _), mtcGo] at hm2
         have hU2 : u ++ (resF Y bs).map (fun g => g.s.node) = UN := by rw [← hU.out, ← hm2]
         replace hbl := Lib.hid hbl
         replace hnu := Lib.hid hnu
         clear hm hm2 hU e8 e9 gX
         go_upto_region 33 with fail
         go_loopw [16, 20] (fun vv kv wr => ∃ (k : Nat) (l : List Int), k ≤ nY ∧ kv = .int .i64 k ∧ OwnsI w4.heap.size wr vv l ∧ Blk wr b15 (bs.map Value.bool) 4 ∧ Hid (l ++ (resF (Y.drop k) (bs.drop k)).map (fun g => g.s.node) = UN) ∧ l.length ≤ i + k ∧ Below w4.heap.size w4 wr) (fun _ kv _ => nY - (intOf kv).toNat)
         case atStart => exact ⟨0, u, Nat.zero_le _, rfl, O16, B15, Lib.hid (by rw [List.drop_zero, List.drop_zero]; exact hU2), by rw [hnu.out]; omega, hbr⟩
         case round =>
          clear hU2 O16 B15 hbr hnu hii
          obtain ⟨k, l, hk, rfl, O16, B15, hU2, hll, hbi⟩ := hrel
          obtain ⟨wi0, rfl⟩ : ∃ x, x = wr := ⟨_, rfl⟩
          obtain ⟨s16, c16, hv16⟩ := own_slice O16
          obtain ⟨nu, hnu⟩ : ∃ n, l.length = n := ⟨_, rfl⟩
          rw [hnu] at hv16 hll
          subst hv16
          have zi := hbi.size
          by_cases hkn : k < nY
          ·have hkk : (k : Int) < nY := by omega
           obtain ⟨g, hg⟩ := get_at hnY.out hkn
           obtain ⟨bb, hbe⟩ := get_at hbl.out hkn
           obtain ⟨r1, r2⟩ := res_step hU2.out hg hbe
           have z15 := B15.cell (o := k) (v := .bool bb) (by rw [List.getElem?_map, hbe]; rfl)
           have y15 := B15.lt
           clear hU2 hbe
           cases bb
           ·have hU3 := Lib.hid (r2 rfl)
            obtain ⟨g1, g2⟩ := gY.out k g hg
            obtain ⟨q11, p11, d11, ee11, y11, hq11, _, x11⟩ := e11.out (by omega)
            simp only [Value.slice.injEq] at ee11
            obtain ⟨rfl, _, rfl⟩ := ee11
            obtain ⟨_, _, _, _, _, _, _, _, _, _, _, _, _, _, G14⟩ := x11 k g.s g1
            have G14 := (hbi.cell (p := ⟨q11, p11 + k * 15 + 14, none⟩) y11).trans G14
            have O16' : wi0.ownsRow w4.heap.size 3 1 (.slice s16 nu c16) nu (l.flatMap encI) := by have h := O16; unfold OwnsI at h; rw [hnu] at h; exact h
            have far := own_far O16 B15 (by decide)
            have lo := fun g hg => (own_in O16 g hg).1
            have v11 : q11 < wi0.heap.size := by omega
            obtain ⟨fn, hfn⟩ : ∃ n, g.s.node = n := ⟨_, rfl⟩
            rw [hfn] at G14 hU3
            replace O16' := Lib.hid O16'
            replace lo := Lib.hid lo
            replace hnu := Lib.hid hnu
            clear x11 g1 g2 hg r1 r2 O16 hfn
            go_wp2_with (first
             | (at_builtin; refine wpList_append_own _ rfl _ _ _ rfl w4.heap.size 3 iI _ 1 8 Tryz.underlying52 hi0 hz0 hz1 hz2 rfl (by omega) _ nu _ (by rfl) (O16'.out.alloc _) ⟨wi0.heap.size, 0, none⟩ 1 1 [.int .i64 fn] (by rfl) rfl (cells_new wi0 [.int .i64 fn] 3) (by intro u hu; rw [List.mem_singleton.1 hu]; rfl) (by unfold maxLen; omega) (by omega) (by simp; omega) ?_; intro v5 w5 hown5 hgr5 _; replace hown5 := Lib.hid hown5; replace hgr5 := Lib.hid hgr5)
             | go_in)
            have B15n := (B15.alloc (.cells #[.int .i64 fn] 3)).keep hgr5.out far
            have hbn := (hbi.alloc zi (.cells #[.int .i64 fn] 3)).grown hgr5.out (by simp; omega) (fun g hg => lo.out g hg)
            clear B15 hbi far
            go_roundw
            case rel =>
             refine ⟨k + 1, l ++ [fn], by omega, by go_num, ?_, B15n, hU3, by rw [List.length_append, hnu.out]; simp; omega, hbn⟩
             unfold OwnsI
             rw [List.length_append, hnu.out, List.flatMap_append]
             exact hown5.out
            case measure => simp [intOf]; omega
           ·have hU3 := Lib.hid (r1 rfl)
            replace hnu := Lib.hid hnu
            clear hg r1 r2
            go_wp2
            go_roundw
            case rel => exact ⟨k + 1, l, by omega, by go_num, O16, B15, hU3, by rw [hnu.out]; omega, hbi⟩
            case measure => simp [intOf]; omega
          ·obtain rfl : k = nY := by omega
           have hkk : ¬ (k : Int) < k := by omega
           have hlU : l = UN := by
            have h := hU2.out
            rw [List.drop_of_length_le (show Y.length ≤ k by rw [hnY.out]; exact Nat.le_refl _)] at h
            have e : resF [] (bs.drop k) = [] := by cases bs.drop k <;> rfl
            rw [e, List.map_nil, List.append_nil] at h
            exact h
           subst hlU
           have P16 := (OwnsI.row (base := w4.heap.size) O16 (Nat.le_refl _))
           obtain ⟨_, _, ee16, hm16, e16⟩ := encI_at hnu P16
           simp only [Value.slice.injEq] at ee16
           obtain ⟨rfl, _, rfl⟩ := ee16
           unfold maxLen at hm16
           have P6i := (P6.out.below hbi).mono zi
           have hw0 := hb04.out.trans (hbi.mono hb04.out.size)
           replace e16 := Lib.hid e16
           replace P16 := Lib.hid P16
           replace P6i := Lib.hid P6i
           replace hnu := Lib.hid hnu
           replace hw0 := Lib.hid hw0
           clear hU2 O16 B15 P6 hk hkn hbl e11 e12 gY hnX hnY
           go_upto_region 38 with fail
           go_loopw [21] (fun mv wr => ∃ m : Nat, m ≤ nu ∧ mv = .int .i64 m ∧ Below wi0.heap.size wi0 wr) (fun mv _ => nu - (intOf mv).toNat)
           case atStart => exact ⟨0, Nat.zero_le _, rfl, Below.refl _ _⟩
           case round =>
            obtain ⟨m, hm, rfl, hbr⟩ := hrel
            have zr := hbr.size
            by_cases hmn : m < nu
            ·have hmm : (m : Int) < nu := by omega
             obtain ⟨g, o, rfl, hg, _, hel⟩ := e16.out (by omega)
             obtain ⟨c, hc⟩ := get_at hnu.out hmn
             have z1 := (hbr.cell (p := ⟨g, o + m, none⟩) hg).trans (hel m c hc)
             have ya : g < wr.heap.size := by omega
             have HC := has_any NL (.slice s6 nl c6) c wr ((P6i.out.below hbr).mono zr)
             rw [decide_eq_true ((um.out c).1 (List.mem_of_getElem? hc))] at HC
             replace HC := Lib.hid HC
             clear hel hc
             go_wp2_with (go_at_call 37; (with_reducible refine HC.out.mono ?_); rintro e w9 ⟨rfl, hb9⟩)
             go_roundw
             case rel => exact ⟨m + 1, by omega, by go_num, hbr.trans (hb9.mono zr)⟩
             case measure => simp [intOf]; omega
            ·obtain rfl : m = nu := by omega
             obtain ⟨W5, rfl⟩ : ∃ x, x = wr := ⟨_, rfl⟩
             have hmm : ¬ (m : Int) < m := by omega
             have P16n := Lib.hid ((P16.out.below hbr).mono zr)
             have P6n := Lib.hid ((P6i.out.below hbr).mono zr)
             have hw1 := Lib.hid (hw0.out.trans (hbr.mono hw0.out.size))
             have e6n := encI_at hnl.out P6n.out
             obtain ⟨_, _, ee6, _, e6n⟩ := e6n
             simp only [Value.slice.injEq] at ee6
             obtain ⟨rfl, _, rfl⟩ := ee6
             replace e6n := Lib.hid e6n
             clear e6 e16 P16 P6i hw0 hbr zr hm hmn
             go_upto_region 43 with fail
             go_loopw [22] (fun tv wq => ∃ t : Nat, t ≤ nl ∧ tv = .int .i64 t ∧ Below W5.heap.size W5 wq) (fun tv _ => nl - (intOf tv).toNat)
             case atStart => exact ⟨0, Nat.zero_le _, rfl, Below.refl _ _⟩
             case round =>
              obtain ⟨t, ht, rfl, hbq⟩ := hrel
              have zq := hbq.size
              by_cases htn : t < nl
              ·have htt : (t : Int) < nl := by omega
               obtain ⟨g, o, rfl, hg, _, hel⟩ := e6n.out (by omega)
               obtain ⟨c, hc⟩ := get_at hnl.out htn
               have z1 := (hbq.cell (p := ⟨g, o + t, none⟩) hg).trans (hel t c hc)
               have ya : g < wr.heap.size := by omega
               have HC := has_any l (.slice s16 m c16) c wr ((P16n.out.below hbq).mono zq)
               rw [decide_eq_true ((um.out c).2 (List.mem_of_getElem? hc))] at HC
               replace HC := Lib.hid HC
               clear hel hc
               go_wp2_with (go_at_call 37; (with_reducible refine HC.out.mono ?_); rintro e w9 ⟨rfl, hb9⟩)
               go_roundw
               case rel => exact ⟨t + 1, by omega, by go_num, hbq.trans (hb9.mono zq)⟩
               case measure => simp [intOf]; omega
              ·obtain rfl : t = nl := by omega
               have htt : ¬ (t : Int) < t := by omega
               go_wp2
               go_ret
               exact ⟨rfl, hw1.out.trans (hbq.mono hw1.out.size)⟩
    ·have hE0 : E = E2 := by rw [hE.out, if_pos c1]
     have hl0 : NL = [] := hN0.out (by rw [hE0]; exact c2)
     subst hl0 c1 hE0
     have ci : (E != 0) = true := by simpa using c2
     clear O6 O8 O9 O11 O12 hE hN0 hN1 lX0 lY0
     go_wp2
     go_ret
     exact ⟨rfl, hb04⟩
   ·have hE0 : E = E1 := by rw [hE.out, if_neg c1]
    have hl0 : NL = [] := hN0.out (by rw [hE0]; exact c1)
    subst hl0 hE0
    have ci : (E != 0) = true := by simpa using c1
    clear O6 O8 O9 O11 O12 hE hN0 hN1 lX0 lY0
    go_wp2
    go_ret
    exact ⟨rfl, hb04⟩
end Go.Proofs.YtfcphagmjijmkaaGreatDoor
