/-
  Cells: slices.Repeat at one cell; copy of rows of cells.
-/
import Derived.Laws.BitsLemmas
import Derived.Laws.CopyOwn
import Derived.Laws.CopyRow
import Derived.Laws.IdiomCopy
import Derived.Shelf.Spec.SlicesInsert
import Derived.Test.YtffmomgmkpmpkaaGreatDoorProg
import Derived.Test.YtffmomgmkpmpkaaGreatDoorKp27
import Derived.Test.YtffmomgmkpmpkaaGreatDoorKp28
namespace Go.Proofs.YtffmomgmkpmpkaaGreatDoor
open Go.RowKit
set_option linter.unusedVariables false
attribute [local go_sem] vwp vUpon_value vUpon_skip vUpon_enter vUpon_row
set_option linter.unusedSimpArgs false
set_option linter.unusedVariables false
/-- copy, at elements of any size, onto a row known whole. -/
theorem run_copy_big {P : Program} (w : World) (dT sT ty elem : TypeId) (sz g o dLen dCap : Nat) (a : Addr) (sLen sCap : Nat) (cur : Array Value) (t : TypeId) (cs : List Value)
    (hu : P.underlying dT = some (.slice elem)) (hs : (P.info? elem).map (·.size) = some sz)
    (hg : w.heap[g]? = some (.cells cur t (0, 0))) (hn : cs.length = Nat.min sLen dLen * sz)
    (hsrc : ∀ j v, cs[j]? = some v → w.cell? (a.add j) = some v) (hfit : o + cs.length ≤ cur.size) (h1 : ∀ v ∈ cs, v.oneCell' = true) :
    (Builtin.copy_ #[dT, sT] ty #[.slice (some ⟨g, o, none⟩) dLen dCap, .slice (some a) sLen sCap]).run P w =
      .ok (goInt (Nat.min sLen dLen : Nat)) (w.setRow g (cur.toList.take o ++ cs ++ cur.toList.drop (o + cs.length)).toArray) := by
  have hl := run_loadCells_list (P := P) w a cs hsrc
  have hst := run_storeCells_at P g o t cs 0 cur w hg (by simpa using hfit) h1
  rw [hn] at hl
  cases hq : P.info? elem with
  | none => simp [hq] at hs
  | some i =>
    have hi : i.size = sz := by simpa [hq] using hs
    simp [Builtin.copy_, run_underlying hu, Builtin.lenOf, Builtin.firstCells, sizeOf, typeInfo, hq, hi, hl, hst]
def Ce.zero : Ce := ⟨0, ⟨0, 0, 0, 0⟩, ⟨0, 0, 0, 0⟩, false, false⟩
def repL (c : Ce) (k N : Nat) : List Ce := List.replicate k c ++ List.replicate (N - k) Ce.zero
theorem repL_len (c : Ce) {k N : Nat} (h : k ≤ N) : (repL c k N).length = N := by simp [repL]; omega
theorem repL_full (c : Ce) (N : Nat) : repL c N N = List.replicate N c := by simp [repL]
theorem repL_step (c : Ce) {k m N : Nat} (h : k + m ≤ N) : ((repL c k N).flatMap Ce.enc).take (k * 11) ++ (List.replicate m c).flatMap Ce.enc ++ ((repL c k N).flatMap Ce.enc).drop (k * 11 + ((List.replicate m c).flatMap Ce.enc).length) = (repL c (k + m) N).flatMap Ce.enc := by
  have e1 : repL c k N = List.replicate k c ++ (List.replicate m Ce.zero ++ List.replicate (N - (k + m)) Ce.zero) := by
    unfold repL
    rw [List.replicate_append_replicate, show N - k = m + (N - (k + m)) by omega]
  have l1 : ((List.replicate k c).flatMap Ce.enc).length = k * 11 := by rw [flat_len Ce.enc_len, List.length_replicate]
  have l2 : ((List.replicate m c).flatMap Ce.enc).length = m * 11 := by rw [flat_len Ce.enc_len, List.length_replicate]
  have l3 : ((List.replicate m Ce.zero).flatMap Ce.enc).length = m * 11 := by rw [flat_len Ce.enc_len, List.length_replicate]
  rw [e1, List.flatMap_append, List.flatMap_append, l2]
  rw [List.take_append_of_le_length (by omega), List.take_of_length_le (by omega)]
  have e2 : ((List.replicate k c).flatMap Ce.enc ++ ((List.replicate m Ce.zero).flatMap Ce.enc ++ (List.replicate (N - (k + m)) Ce.zero).flatMap Ce.enc)).drop (k * 11 + m * 11) = (List.replicate (N - (k + m)) Ce.zero).flatMap Ce.enc := by
    rw [← List.append_assoc]
    exact List.drop_left' (by rw [List.length_append, l1, l3])
  rw [e2]
  unfold repL
  rw [← List.replicate_append_replicate, List.flatMap_append, List.flatMap_append]
theorem flat_one' {α : Type} {enc : α → List Value} {xs : List α} (h : ∀ y, ∀ u ∈ enc y, u.oneCell' = true) : ∀ u ∈ xs.flatMap enc, u.oneCell' = true := by
  intro u hu
  obtain ⟨y, _, hy⟩ := List.mem_flatMap.1 hu
  exact h y u hy
theorem madeCells_ce (n : Nat) : madeCells (.agg #[.int .i32 0, .int .u8 0, .int .u8 0, .int .u8 0, .int .u8 0, .int .u8 0, .int .u8 0, .int .u8 0, .int .u8 0, .bool false, .bool false] : Value).cells (n * 11) = ((List.replicate n Ce.zero).flatMap Ce.enc).toArray := by
 apply Array.ext'
 simp only
 apply List.ext_getElem?
 intro p
 have hz : ∀ i, i < 11 → (Ce.zero.enc)[i]? = some ((.agg #[.int .i32 0, .int .u8 0, .int .u8 0, .int .u8 0, .int .u8 0, .int .u8 0, .int .u8 0, .int .u8 0, .int .u8 0, .bool false, .bool false] : Value).cells)[i]! := by
  intro i hi
  match i, hi with
  | 0, _ => rfl
  | 1, _ => rfl
  | 2, _ => rfl
  | 3, _ => rfl
  | 4, _ => rfl
  | 5, _ => rfl
  | 6, _ => rfl
  | 7, _ => rfl
  | 8, _ => rfl
  | 9, _ => rfl
  | 10, _ => rfl
 have hsz : (.agg #[.int .i32 0, .int .u8 0, .int .u8 0, .int .u8 0, .int .u8 0, .int .u8 0, .int .u8 0, .int .u8 0, .int .u8 0, .bool false, .bool false] : Value).cells.size = 11 := rfl
 rw [flat_get Ce.enc_len (by omega)]
 by_cases hp : p < n * 11
 ·have h1 : p / 11 < n := by omega
  rw [List.getElem?_replicate, if_pos h1]
  simp only [Option.bind_some]
  rw [hz _ (by omega)]
  have : (madeCells (.agg #[.int .i32 0, .int .u8 0, .int .u8 0, .int .u8 0, .int .u8 0, .int .u8 0, .int .u8 0, .int .u8 0, .int .u8 0, .bool false, .bool false] : Value).cells (n * 11))[p]? = some ((.agg #[.int .i32 0, .int .u8 0, .int .u8 0, .int .u8 0, .int .u8 0, .int .u8 0, .int .u8 0, .int .u8 0, .int .u8 0, .bool false, .bool false] : Value).cells)[p % 11]! := by
   unfold madeCells
   rw [Array.getElem?_map, Array.getElem?_range, if_pos hp]
   simp only [Option.map_some]
   rw [hsz]
  simpa using this
 ·have h1 : ¬ p / 11 < n := by omega
  rw [List.getElem?_replicate, if_neg h1]
  have : (madeCells (.agg #[.int .i32 0, .int .u8 0, .int .u8 0, .int .u8 0, .int .u8 0, .int .u8 0, .int .u8 0, .int .u8 0, .int .u8 0, .bool false, .bool false] : Value).cells (n * 11))[p]? = none := by
   rw [Array.getElem?_eq_none]
   rw [size_madeCells]; omega
  simpa using this
theorem make_cells (c : Ce) (n : Nat) (hn : n ≤ 300000) (w : World) : (Instr.makeSlice 24 (.int .i64 n) (.int .i64 n)).run Tryz.prog w = .ok (.slice (some ⟨w.heap.size, 0, none⟩) n n) (w.alloc (.cells ((repL c 0 n).flatMap Ce.enc).toArray 52)) := by
  obtain ⟨i0, hi, hz0, hz1, hz2⟩ := info_parts infoCe
  have h := run_make (P := Tryz.prog) w 24 52 i0 _ Tryz.underlying24 hi hz0 .i64 .i64 n n (by omega) (Int.le_refl _) (by rw [hz2]; omega) (by omega)
  rw [h, hz1, Int.toNat_natCast, madeCells_ce]
  rfl
theorem sizeCe : (Tryz.prog.info? 52).map (·.size) = some 11 := by kernel_rfl
set_option maxHeartbeats 8000000 in
set_option maxRecDepth 100000 in
theorem repeat_any (c : Ce) (N : Nat) (bx : Nat) (w : World) (hB : Blk w bx c.enc 52) (hN : N ≤ 300000) : Calls Tryz.prog 65 #[.slice (some ⟨bx, 0, none⟩) 1 1, .int .i64 N] w fun e w' => ∃ v, e = .returned v ∧ OwnsC w.heap.size w' v (List.replicate N c) ∧ Below w.heap.size w w' := by
 obtain ⟨iM, hi0, hm0, hm1, hm2⟩ := info_parts infoCe
 have MU : ∀ w, Calls Tryz.prog 114 #[.int .u64 1, .int .u64 N] w fun e w' => e = .returned (.tuple #[.int .u64 0, .int .u64 N]) ∧ w' = w := fun w => by
  have := YtffmomgmkpmpkaaGreatDoor.mulX 1 N (by omega) (by omega) w
  rw [show (1 * N / 18446744073709551616 : Nat) = 0 by omega, show (1 * N % 18446744073709551616 : Nat) = N by omega] at this
  exact this
 have hN0 : ¬ (N : Int) < 0 := by omega
 have hN1 : ¬ (N : Int) > 9223372036854775807 := by omega
 have hxs := fun j v h => hB.cell (o := j) (v := v) h
 have ybx := hB.lt
 replace MU := Lib.hid MU
 replace hxs := Lib.hid hxs
 go_enter Tryz.func65, Tryz.ntmps65
 go_upto_region 6 with (go_at_call 114; (with_reducible refine (MU.out _).mono ?_); rintro e w1 ⟨rfl, rfl⟩)
 have hmk := fun w => make_cells c N hN w
 go_upto_region 7 with fail
 clear hmk
 obtain ⟨b, hb⟩ : ∃ b, w1.heap.size = b := ⟨_, rfl⟩
 obtain ⟨w2, hw2⟩ : ∃ w2, w1.alloc (.cells ((repL c 0 N).flatMap Ce.enc).toArray 52) = w2 := ⟨_, rfl⟩
 have B2 : Blk w2 b ((repL c 0 N).flatMap Ce.enc) 52 := by rw [← hw2, ← hb]; exact Blk.new' rfl
 have hb2 : Below w1.heap.size w1 w2 := by rw [← hw2]; exact (Below.refl _ _).alloc (Nat.le_refl _) _
 rw [hw2, hb]
 clear hw2
 have hsrc0 : ∀ j v, c.enc[j]? = some v → w2.cell? ⟨bx, j, none⟩ = some v := fun j v h => (hb2.cell (p := ⟨bx, j, none⟩) ybx).trans (hxs.out j v h)
 have y2 := B2.lt
 obtain ⟨k0, hk0⟩ : ∃ k0, Nat.min 1 N = k0 := ⟨_, rfl⟩
 have hk1 : k0 ≤ N := by rw [← hk0]; exact Nat.min_le_right 1 N
 have hk2 : 1 ≤ N → k0 = 1 := fun h => by rw [← hk0]; exact Nat.min_eq_left h
 have hk3 : k0 ≤ 1 := by rw [← hk0]; exact Nat.min_le_left 1 N
 have hr0 := run_copy_big (P := Tryz.prog) w2 24 24 3 52 11 b 0 N N ⟨bx, 0, none⟩ 1 1 _ 52 ((List.replicate k0 c).flatMap Ce.enc) Tryz.underlying24 sizeCe B2
  (by rw [flat_len Ce.enc_len, List.length_replicate, hk0]) (fun j v h => by
   rcases (show k0 = 0 ∨ k0 = 1 by omega) with e | e
   ·rw [e] at h; simp at h
   ·rw [e] at h
    have := hsrc0 j v (by simpa using h)
    cases j <;> simpa [Addr.add] using this)
  (by rw [flat_len Ce.enc_len, List.length_replicate, List.size_toArray, flat_len Ce.enc_len, repL_len c (Nat.zero_le _)]; omega) (flat_one' Ce.enc_one)
 rw [hk0] at hr0
 have e0 := repL_step c (k := 0) (m := k0) (N := N) (by omega)
 rw [Nat.zero_mul, Nat.zero_add] at e0
 rw [List.toList_toArray, Nat.zero_add, e0, Nat.zero_add] at hr0
 obtain ⟨w3, hw3⟩ : ∃ w3, w2.setRow b ((repL c k0 N).flatMap Ce.enc).toArray = w3 := ⟨_, rfl⟩
 rw [hw3] at hr0
 have B3 : Blk w3 b ((repL c k0 N).flatMap Ce.enc) 52 := by rw [← hw3]; exact setRow_heap w2 b _ _ _ _ B2
 have hb3 : Below w1.heap.size w1 w3 := by rw [← hw3]; exact below_setRow hb2 (by omega) _
 clear hw3 e0 B2 hb2 hsrc0 y2 hxs
 replace hk0 := Lib.hid hk0
 go_upto_region 8 with (refine wpList_copy_runI w2 rfl _ _ _ _ rfl _ _ (by rfl) (by rfl) hr0 ?_)
 clear hr0
 go_loopw [8] (fun nv wr => ∃ k : Nat, k0 ≤ k ∧ k ≤ N ∧ nv = .int .i64 k ∧ Hid (Blk wr b ((repL c k N).flatMap Ce.enc) 52) ∧ Below w1.heap.size w1 wr) (fun nv _ => N - (intOf nv).toNat)
 case atStart => exact ⟨k0, Nat.le_refl _, hk1, rfl, Lib.hid B3, hb3⟩
 case round =>
  clear B3 hb3
  obtain ⟨k, h1, h2, rfl, hB, hbr⟩ := hrel
  by_cases hk : k < N
  ·have hki : (k : Int) < N := by omega
   have hkN : (k : Int) ≤ N := by omega
   have hkn : ¬ N = k := by omega
   have hk4 := hk2 (by omega)
   go_upto_region 9 with fail
   obtain ⟨m, hm⟩ : ∃ m, Nat.min k (N - k) = m := ⟨_, rfl⟩
   have m1 : m ≤ k := by rw [← hm]; exact Nat.min_le_left _ _
   have m2 : m ≤ N - k := by rw [← hm]; exact Nat.min_le_right _ _
   have m3 : 1 ≤ m := by rw [← hm]; exact Nat.le_min.2 ⟨by omega, by omega⟩
   have hBB := hB.out
   have hr9 := run_copy_big (P := Tryz.prog) wr.drew 24 24 3 52 11 b (k * 11) (N - k) (N - k) ⟨b, 0, none⟩ k N _ 52 ((List.replicate m c).flatMap Ce.enc) Tryz.underlying24 sizeCe hBB
    (by rw [flat_len Ce.enc_len, List.length_replicate, hm]) (fun j v h => by
     have hjl := (List.getElem?_eq_some_iff.1 h).1
     rw [flat_len Ce.enc_len, List.length_replicate] at hjl
     have h2 : ((repL c k N).flatMap Ce.enc)[j]? = some v := by
      unfold repL
      rw [← h, show k = m + (k - m) by omega, ← List.replicate_append_replicate, List.append_assoc, List.flatMap_append, List.getElem?_append_left (by rw [flat_len Ce.enc_len, List.length_replicate]; omega)]
     have := hBB.cell h2
     cases j <;> simpa [Addr.add] using this)
    (by rw [flat_len Ce.enc_len, List.length_replicate, List.size_toArray, flat_len Ce.enc_len, repL_len c h2]; omega) (flat_one' Ce.enc_one)
   have e0 := repL_step c (k := k) (m := m) (N := N) (by omega)
   rw [List.toList_toArray, e0, hm] at hr9
   obtain ⟨w4, hw4⟩ : ∃ w4, wr.drew.setRow b ((repL c (k + m) N).flatMap Ce.enc).toArray = w4 := ⟨_, rfl⟩
   rw [hw4] at hr9
   have B4 : Blk w4 b ((repL c (k + m) N).flatMap Ce.enc) 52 := by rw [← hw4]; exact setRow_heap wr.drew b _ _ _ _ hBB
   have hb4 : Below w1.heap.size w1 w4 := by rw [← hw4]; exact below_setRow (Below.drew hbr) (by omega) _
   replace B4 := Lib.hid B4
   clear hw4 e0 hBB
   replace hr9 := Lib.hid hr9
   have km1 : IntKind.i64.wrap ((k : Int) + (m : Int)) = (k : Int) + (m : Int) := by rw [IntKind.wrap_i64]; omega
   refine held_begin (fun _ => True) (by kernel_rfl) trivial (fun hS => ?_)
   (refine' held_do (i := 0) _ (by kernel_rfl) (by kernel_rfl) (by kernel_rfl) _ _ trivial _ _; rotate_left 2; (focus exact geti); (focus exact fun _ _ _ h => h); (focus rfl); (focus (intro w1 hSS R hR; go_simp; (try go_bits); exact hR)); simp only [pu])
   (refine' held_do (i := 1) _ (by kernel_rfl) (by kernel_rfl) (by kernel_rfl) _ _ trivial _ _; rotate_left 2; (focus exact geti); (focus exact fun _ _ _ h => h); (focus rfl); (focus (intro w1 hSS R hR; go_simp; (try go_bits); exact hR)); simp only [pu])
   (refine' held_do (i := 2) _ (by kernel_rfl) (by kernel_rfl) (by kernel_rfl) _ _ trivial _ _; rotate_left 2; (focus exact geti); (focus exact fun _ _ _ h => h); (focus rfl); (focus (intro w1 hSS R hR; go_simp; (try go_bits); exact hR)); simp only [pu])
   (refine' held_do (i := 3) _ (by kernel_rfl) (by kernel_rfl) (by kernel_rfl) _ _ trivial _ _; rotate_left 2; (focus exact geti); (focus exact fun _ _ _ h => h); (focus rfl); (focus (intro w1 hSS R hR; go_simp; (try go_bits); exact hR)); simp only [pu])
   (refine' held_do (i := 4) _ (by kernel_rfl) (by kernel_rfl) (by kernel_rfl) _ _ trivial _ _; rotate_left 2; (focus exact geti); (focus exact fun _ _ _ h => h); (focus rfl); (focus (intro w1 hSS R hR; go_simp; (try go_bits); exact hR)); simp only [pu])
   (refine' held_do (i := 5) _ (by kernel_rfl) (by kernel_rfl) (by kernel_rfl) _ _ trivial _ _; rotate_left 2; (focus exact geti); (focus exact fun _ _ _ h => h); (focus rfl); (focus (intro w1 hSS R hR; go_simp; (try go_bits); exact hR)); simp only [pu])
   (refine' held_do (i := 6) _ (by kernel_rfl) (by kernel_rfl) (by kernel_rfl) _ _ trivial _ _; rotate_left 2; (focus exact geti); (focus exact fun _ _ _ h => h); (focus rfl); (focus (intro w1 hSS R hR; go_simp; (try go_bits); exact hR)); simp only [pu])
   (refine' held_one (i := 7) _ (by kernel_rfl) _ _; rotate_left; (focus exact geti); (focus rfl); intro K hK)
   refine wp_copy_runI wr.drew _ _ _ _ rfl _ _ (by rfl) (by rfl) hr9.out ?_
   refine hK _ _ trivial ?_
   clear hK
   simp only [goInt]
   (try simp only [pu])
   (refine' held_do (i := 8) _ (by kernel_rfl) (by kernel_rfl) (by kernel_rfl) _ _ trivial _ _; rotate_left 2; (focus exact geti); (focus exact fun _ _ _ h => h); (focus rfl); (focus (intro w1 hSS R hR; go_simp; (try go_bits); exact hR)); simp only [pu])
   (refine' held_do (i := 9) _ (by kernel_rfl) (by kernel_rfl) (by kernel_rfl) _ _ trivial _ _; rotate_left 2; (focus exact geti); (focus exact fun _ _ _ h => h); (focus rfl); (focus (intro w1 hSS R hR; go_simp; (try go_bits); exact hR)); simp only [pu])
   refine wpAnyH_done (by kernel_rfl) ?_ _
   go_wp2
   go_roundw
   case rel => exact ⟨k + m, by omega, by omega, by go_num, B4, hb4⟩
   case measure => simp [intOf]; omega
  ·obtain rfl : k = N := by omega
   have hki : ¬ (k : Int) < k := by omega
   have hB := hB.out
   rw [repL_full] at hB
   have ho : OwnsC b wr (.slice (some ⟨b, 0, none⟩) k k) (List.replicate k c) := by
    unfold OwnsC
    refine ⟨by rw [flat_len Ce.enc_len], .inr ⟨b, k, _, by rw [List.length_replicate], Nat.le_refl _, hB, by rw [List.length_replicate]; exact Nat.le_refl _, by unfold maxLen; omega, by rw [List.size_toArray, flat_len Ce.enc_len, List.length_replicate], ?_⟩⟩
    rw [List.toList_toArray, List.take_of_length_le]
    rw [flat_len Ce.enc_len]; exact Nat.le_refl _
   replace ho := Lib.hid ho
   go_wp2
   go_ret
   exact ⟨_, rfl, ho.out, hb ▸ hbr⟩
end Go.Proofs.YtffmomgmkpmpkaaGreatDoor

namespace Go.Proofs.YtffmomgmkpmpkaaGreatDoor
open Go.RowKit
set_option linter.unusedVariables false
attribute [local go_sem] vwp vUpon_value vUpon_skip vUpon_enter vUpon_row
set_option linter.unusedSimpArgs false
set_option linter.unusedVariables false
def blkCe (back : Co) : Ce := ⟨32, ⟨0, 0, 0, 0⟩, back, false, false⟩
def blankE (wd ht : Int) : Int := if fitsS wd ht then 0 else 150
def blankZ (z wd ht : Int) : Int := if fitsS wd ht then z else 0
def blankC (wd ht : Int) (back : Co) : List Ce := if fitsS wd ht then List.replicate (wd * ht).toNat (blkCe back) else []
set_option maxHeartbeats 8000000 in
set_option maxRecDepth 100000 in
theorem cblank_any (wd ht : Int) (back : Co) (w : World) (h1 : I64 wd) (h2 : I64 ht) : Calls Tryz.prog 25 #[.agg #[.int .i64 (wd), .int .i64 (ht)], .agg #[.int .u8 (back.r), .int .u8 (back.g), .int .u8 (back.b), .int .u8 (back.a)]] w (OutS w.heap.size (blankE wd ht) (blankZ wd wd ht) (blankZ ht wd ht) (blankC wd ht back) w) := by
 have X := cfits_any wd ht
 obtain ⟨E, hE⟩ : ∃ E, blankE wd ht = E := ⟨_, rfl⟩
 obtain ⟨Z1, hZ1⟩ : ∃ Z, blankZ wd wd ht = Z := ⟨_, rfl⟩
 obtain ⟨Z2, hZ2⟩ : ∃ Z, blankZ ht wd ht = Z := ⟨_, rfl⟩
 obtain ⟨RC, hRC⟩ : ∃ R, blankC wd ht back = R := ⟨_, rfl⟩
 rw [hE, hZ1, hZ2, hRC]
 unfold blankE at hE
 unfold blankZ at hZ1 hZ2
 unfold blankC at hRC
 obtain ⟨b0, b1, b2, b3⟩ := back
 dsimp only
 go_enter Tryz.func25, Tryz.ntmps25
 go_upto_region 1 with fail
 obtain ⟨W, hW⟩ : ∃ W, ((w.alloc (.cells #[.int .i64 wd, .int .i64 ht] 23)).alloc (.cells #[.int .u8 b0, .int .u8 b1, .int .u8 b2, .int .u8 b3] 44)).alloc (.cells #[.int .i64 0, .int .i64 0, .slice none 0 0] 26) = W := ⟨_, rfl⟩
 have B2 : Blk W w.heap.size [.int .i64 wd, .int .i64 ht] 23 := by rw [← hW]; exact ((Blk.new' rfl).alloc _).alloc _
 have B3 : Blk W (w.heap.size + 1) [.int .u8 b0, .int .u8 b1, .int .u8 b2, .int .u8 b3] 44 := by rw [← hW]; exact (Blk.new' (by simp)).alloc _
 have B4 : Blk W (w.heap.size + 1 + 1) [.int .i64 0, .int .i64 0, .slice none 0 0] 26 := by rw [← hW]; exact Blk.new' (by simp)
 have hbw : Below w.heap.size w W := by rw [← hW]; exact belt
 rw [hW]
 clear hW
 have yB2 := B2.lt
 have yB3 := B3.lt
 have yB4 := B4.lt
 have q0 := B2.cell (o := 0) rfl
 have q1 := B2.cell (o := 1) rfl
 cases hf : fitsS wd ht
 ·rw [hf] at X hE hZ1 hZ2 hRC
  simp only [Bool.false_eq_true, if_false] at hE hZ1 hZ2 hRC
  subst hE hZ1 hZ2 hRC
  replace X := Lib.hid X
  go_wp2_with (go_at_call 50; (with_reducible refine (X.out _ ‹_› ‹_›).mono ?_); rintro e w2 ⟨rfl, hb2⟩; replace B4 := B4.below hb2 yB4; replace hbw := hbw.trans (hb2.mono hbw.size); have k0 := B4.cell (o := 0) rfl; have k1 := B4.cell (o := 1) rfl; have k2 := B4.cell (o := 2) rfl; have kf := B4.free)
  clear k0 k1 k2 kf
  have HZ := Blk.put3 B4 rfl (.int .i64 0) (.int .i64 0) (.slice none 0 0)
  have hbZ : Below w.heap.size w (((w2.setCell ⟨(w.heap.size + 1 + 1), 0, none⟩ (.int .i64 0)).setCell ⟨(w.heap.size + 1 + 1), 1, none⟩ (.int .i64 0)).setCell ⟨(w.heap.size + 1 + 1), 2, none⟩ (.slice none 0 0)) := ((hbw.setCell (p := ⟨(w.heap.size + 1 + 1), 0, none⟩) (by show w.heap.size ≤ (w.heap.size + 1 + 1); omega) _).setCell (p := ⟨(w.heap.size + 1 + 1), 1, none⟩) (by show w.heap.size ≤ (w.heap.size + 1 + 1); omega) _).setCell (p := ⟨(w.heap.size + 1 + 1), 2, none⟩) (by show w.heap.size ≤ (w.heap.size + 1 + 1); omega) _
  generalize ((w2.setCell ⟨(w.heap.size + 1 + 1), 0, none⟩ (.int .i64 0)).setCell ⟨(w.heap.size + 1 + 1), 1, none⟩ (.int .i64 0)).setCell ⟨(w.heap.size + 1 + 1), 2, none⟩ (.slice none 0 0) = wZ at HZ hbZ ⊢
  have jz0 := HZ.cell (o := 0) rfl
  have jz1 := HZ.cell (o := 1) rfl
  have jz2 := HZ.cell (o := 2) rfl
  refine bodyPost_ret (v := .tuple #[.agg #[.int .i64 0, .int .i64 0, .slice none 0 0], .int .i64 150]) (by simp [results, Tryz.results25, go_sem, jz0, jz1, jz2]) rfl ⟨hbZ, _, rfl, OwnsC.nil _ _⟩
 ·rw [hf] at X hE hZ1 hZ2 hRC
  simp only [if_true] at hE hZ1 hZ2 hRC
  subst hE hZ1 hZ2
  obtain ⟨a1, a2, a3, a4, a5⟩ := fitsS_true.1 hf
  obtain ⟨N, hN⟩ : ∃ N : Nat, wd * ht = N := ⟨(wd * ht).toNat, by have := Int.mul_nonneg a1 a2; omega⟩
  rw [hN, Int.toNat_natCast] at hRC
  rw [hN] at a5
  subst hRC
  replace X := Lib.hid X
  go_upto_region 3 with (go_at_call 50; (with_reducible refine (X.out _ ‹_› ‹_›).mono ?_); rintro e w1 ⟨rfl, hb1⟩)
  replace B2 := B2.below hb1 yB2
  replace B3 := B3.below hb1 yB3
  replace B4 := B4.below hb1 yB4
  replace hbw := hbw.trans (hb1.mono hbw.size)
  clear q0 q1 hb1 yB2 yB3 yB4 X
  have yB2 := B2.lt
  have yB3 := B3.lt
  have yB4 := B4.lt
  have q0 := B2.cell (o := 0) rfl
  have q1 := B2.cell (o := 1) rfl
  have p0 := B3.cell (o := 0) rfl
  have p1 := B3.cell (o := 1) rfl
  have p2 := B3.cell (o := 2) rfl
  have p3 := B3.cell (o := 3) rfl
  have hCL : Held w 3 [(⟨w.heap.size, 0, none⟩, .int .i64 wd), (⟨w.heap.size, 1, none⟩, .int .i64 ht), (⟨w.heap.size + 1, 0, none⟩, .int .u8 (b0)), (⟨w.heap.size + 1, 1, none⟩, .int .u8 (b1)), (⟨w.heap.size + 1, 2, none⟩, .int .u8 (b2)), (⟨w.heap.size + 1, 3, none⟩, .int .u8 (b3))] w1.drew := ⟨Below.drew hbw, (show w.heap.size + 3 ≤ w1.heap.size by omega), ⟨q0, B2.free 0, q1, B2.free 1, p0, B3.free 0, p1, B3.free 1, p2, B3.free 2, p3, B3.free 3, trivial⟩⟩
  refine held_begin (Held w 3 [(⟨w.heap.size, 0, none⟩, .int .i64 wd), (⟨w.heap.size, 1, none⟩, .int .i64 ht), (⟨w.heap.size + 1, 0, none⟩, .int .u8 (b0)), (⟨w.heap.size + 1, 1, none⟩, .int .u8 (b1)), (⟨w.heap.size + 1, 2, none⟩, .int .u8 (b2)), (⟨w.heap.size + 1, 3, none⟩, .int .u8 (b3))]) (by kernel_rfl) hCL (fun hS => ?_)
  have B5 : Blk w1.drew (w.heap.size + 1 + 1) [.int .i64 0, .int .i64 0, .slice none 0 0] 26 := B4
  clear q0 q1 p0 p1 p2 p3 B2 B3 B4 yB2 yB3 yB4 hCL hbw
  generalize w1.drew = u0 at hS B5 ⊢
  (refine' hdo 0 hS ?_; simp only [pu])
  (refine' hdo 1 hS ?_; simp only [pu])
  (refine' hdo 2 hS ?_; simp only [pu])
  (refine' hdo 4 hS ?_; simp only [pu])
  (refine' hdo 5 hS ?_; simp only [pu])
  (refine' hdo 6 hS ?_; simp only [pu])
  (refine' hdo 7 hS ?_; simp only [pu])
  (refine' hdo 8 hS ?_; simp only [pu])
  (refine' held_one (i := 3) _ (by kernel_rfl) _ _; rotate_left; (focus exact geti); (focus rfl); intro K hK; go_simp)
  have hT := hS.below ((Below.refl u0.heap.size u0).alloc (Nat.le_refl _) (.cells #[.int .i32 32, .int .u8 0, .int .u8 0, .int .u8 0, .int .u8 0, .int .u8 b0, .int .u8 b1, .int .u8 b2, .int .u8 b3, .bool false, .bool false] 52))
  have B6 := B5.alloc (.cells #[.int .i32 32, .int .u8 0, .int .u8 0, .int .u8 0, .int .u8 0, .int .u8 b0, .int .u8 b1, .int .u8 b2, .int .u8 b3, .bool false, .bool false] 52)
  have Bx : Blk (u0.alloc (.cells #[.int .i32 32, .int .u8 0, .int .u8 0, .int .u8 0, .int .u8 0, .int .u8 b0, .int .u8 b1, .int .u8 b2, .int .u8 b3, .bool false, .bool false] 52)) u0.heap.size (blkCe ⟨b0, b1, b2, b3⟩).enc 52 := Blk.new' rfl
  generalize u0.alloc (.cells #[.int .i32 32, .int .u8 0, .int .u8 0, .int .u8 0, .int .u8 0, .int .u8 b0, .int .u8 b1, .int .u8 b2, .int .u8 b3, .bool false, .bool false] 52) = v2 at hT Bx B6 ⊢
  generalize u0.heap.size = bx at Bx ⊢
  have RP := Lib.hid (repeat_any (blkCe ⟨b0, b1, b2, b3⟩) N bx v2 Bx (by omega))
  have yB6 := B6.lt
  refine hK _ _ hT ?_
  clear hK hS B5
  (try simp only [pu])
  have hS := hT
  clear hT
  (refine' held_one (i := 9) _ (by kernel_rfl) _ _; rotate_left; (focus exact geti); (focus rfl); intro K hK; go_simp)
  refine RP.out.mono ?_
  rintro e v3 ⟨vr, rfl, hown, hb3⟩
  have hT := hS.below hb3
  have zv := hS.2.1
  have B7 := B6.below hb3 yB6
  obtain ⟨sr, cr, hsr⟩ := own_slice hown
  rw [List.length_replicate] at hsr
  subst hsr
  refine hK _ _ hT ?_
  clear hK hS hb3 RP B6 yB6
  (try simp only [pu])
  have hS := hT
  clear hT
  (refine' hdo 10 hS ?_; simp only [pu])
  replace hown := Lib.hid hown
  (refine' held_one (i := 11) _ (by kernel_rfl) _ _; rotate_left; (focus exact geti); (focus rfl); intro K hK)
  have k0 := B7.cell (o := 0) rfl
  have k1 := B7.cell (o := 1) rfl
  have k2 := B7.cell (o := 2) rfl
  have kf := B7.free
  have yB7 := B7.lt
  go_simp
  clear k0 k1 k2 kf
  have hT : Held w 3 [(⟨w.heap.size, 0, none⟩, .int .i64 wd), (⟨w.heap.size, 1, none⟩, .int .i64 ht), (⟨w.heap.size + 1, 0, none⟩, .int .u8 (b0)), (⟨w.heap.size + 1, 1, none⟩, .int .u8 (b1)), (⟨w.heap.size + 1, 2, none⟩, .int .u8 (b2)), (⟨w.heap.size + 1, 3, none⟩, .int .u8 (b3))] (((v3.setCell ⟨w.heap.size + 1 + 1, 0, none⟩ (.int .i64 wd)).setCell ⟨w.heap.size + 1 + 1, 1, none⟩ (.int .i64 ht)).setCell ⟨w.heap.size + 1 + 1, 2, none⟩ (.slice sr N cr)) := by
   refine ⟨((hS.1.setCell (p := ⟨w.heap.size + 1 + 1, 0, none⟩) (by show w.heap.size ≤ w.heap.size + 1 + 1; omega) _).setCell (p := ⟨w.heap.size + 1 + 1, 1, none⟩) (by show w.heap.size ≤ w.heap.size + 1 + 1; omega) _).setCell (p := ⟨w.heap.size + 1 + 1, 2, none⟩) (by show w.heap.size ≤ w.heap.size + 1 + 1; omega) _, by have := hS.2.1; simpa using this, ?_⟩
   have hc := hS.2.2
   simp only [Cells] at hc ⊢
   obtain ⟨c0, f0, c1, f1, c2, f2, c3, f3, c4, f4, c5, f5, _⟩ := hc
   have hne : ∀ (b o o' : Nat), b ≠ w.heap.size + 1 + 1 → (⟨b, o, none⟩ : Addr) ≠ ⟨w.heap.size + 1 + 1, o', none⟩ := fun b o o' hb e => by injection e with e; exact hb e
   refine ⟨?_, by simpa using f0, ?_, by simpa using f1, ?_, by simpa using f2, ?_, by simpa using f3, ?_, by simpa using f4, ?_, by simpa using f5, trivial⟩ <;> (rw [World.cell?_setCell_other _ _ _ _ (hne _ _ _ (by omega)).symm, World.cell?_setCell_other _ _ _ _ (hne _ _ _ (by omega)).symm, World.cell?_setCell_other _ _ _ _ (hne _ _ _ (by omega)).symm]; assumption)
  have hoZ := OwnsC.set_ne (OwnsC.set_ne (OwnsC.set_ne hown.out (b := w.heap.size + 1 + 1) (o := 0) (by omega) (.int .i64 wd)) (b := w.heap.size + 1 + 1) (o := 1) (by omega) (.int .i64 ht)) (b := w.heap.size + 1 + 1) (o := 2) (by omega) (.slice sr N cr)
  have HZ := Blk.put3 B7 rfl (.int .i64 wd) (.int .i64 ht) (.slice sr N cr)
  generalize ((v3.setCell ⟨w.heap.size + 1 + 1, 0, none⟩ (.int .i64 wd)).setCell ⟨w.heap.size + 1 + 1, 1, none⟩ (.int .i64 ht)).setCell ⟨w.heap.size + 1 + 1, 2, none⟩ (.slice sr N cr) = wZ at HZ hT hoZ ⊢
  refine hK _ _ hT ?_
  clear hK hS B7 yB7 hown
  (try simp only [pu])
  have hS := hT
  clear hT
  (refine' hdo 12 hS ?_; simp only [pu])
  refine wpAnyH_done (by kernel_rfl) ?_ _
  have jz0 := HZ.cell (o := 0) rfl
  have jz1 := HZ.cell (o := 1) rfl
  have jz2 := HZ.cell (o := 2) rfl
  go_wp2
  refine bodyPost_ret (v := .tuple #[.agg #[.int .i64 wd, .int .i64 ht, .slice sr N cr], .int .i64 0]) (by simp [results, Tryz.results25, go_sem, jz0, jz1, jz2]) rfl ⟨hS.1, _, rfl, own_less hoZ (by omega)⟩
end Go.Proofs.YtffmomgmkpmpkaaGreatDoor

namespace Go.Proofs.YtffmomgmkpmpkaaGreatDoor
open Go.RowKit
set_option linter.unusedVariables false
attribute [local go_sem] vwp vUpon_value vUpon_skip vUpon_enter vUpon_row
set_option linter.unusedSimpArgs false
set_option linter.unusedVariables false
theorem lrect_any (x y a b : Int) (w : World) : Calls Tryz.prog 39 #[.int .i64 x, .int .i64 y, .int .i64 a, .int .i64 b] w fun e w' => e = .returned (.agg #[.int .i64 x, .int .i64 y, .int .i64 a, .int .i64 b]) ∧ Below w.heap.size w w' := by
  go_enter Tryz.func39, Tryz.ntmps39
  go_wp2
  refine bodyPost_ret (v := .agg #[.int .i64 x, .int .i64 y, .int .i64 a, .int .i64 b]) (by simp [results, Tryz.results39, go_sem]) rfl ⟨rfl, belt⟩
end Go.Proofs.YtffmomgmkpmpkaaGreatDoor

namespace Go.Proofs.YtffmomgmkpmpkaaGreatDoor
open Go.RowKit
set_option linter.unusedVariables false
attribute [local go_sem] vwp vUpon_value vUpon_skip vUpon_enter vUpon_row
set_option linter.unusedSimpArgs false
set_option linter.unusedVariables false
def coZ : Co := ⟨0, 0, 0, 0⟩
def coW : Co := ⟨255, 255, 255, 255⟩
def awT1 : ByteArray := ⟨#[97, 98, 10, 99]⟩
def awT2 : ByteArray := ⟨#[228, 184, 128, 120]⟩
def awX : List UInt8 := [27, 91, 49, 59, 52, 72, 97, 98]
def awS1 : St := ⟨3, ⟨1, 0, 2, 2⟩, coW, coZ, awT1, 0⟩
def awS2 : St := ⟨3, ⟨3, 0, 1, 1⟩, coW, coZ, awT2, 0⟩
def awC0 : List Ce := blankC 4 2 coZ
def awCA : List Ce := drawC glyS 4 2 awC0 [awS1]
def awCC : List Ce := drawC glyS 4 2 awC0 [awS2]
def awL : List Rn := runsL 4 2 awC0 4 2 awCA
theorem aw_blank : blankE 4 2 = 0 ∧ blankZ 4 4 2 = 4 ∧ blankZ 2 4 2 = 2 := ⟨by kernel_rfl, by kernel_rfl, by kernel_rfl⟩
theorem aw_d1 : drawE 4 2 awC0 [awS1] = 0 ∧ drawZ 4 4 2 awC0 [awS1] = 4 ∧ drawZ 2 4 2 awC0 [awS1] = 2 := ⟨by kernel_rfl, by kernel_rfl, by kernel_rfl⟩
theorem aw_d2 : drawE 4 2 awC0 [awS2] = 0 ∧ drawZ 4 4 2 awC0 [awS2] = 4 ∧ drawZ 2 4 2 awC0 [awS2] = 2 := ⟨by kernel_rfl, by kernel_rfl, by kernel_rfl⟩
theorem aw_t : chkS 4 2 awCA = 0 ∧ txtL 4 2 awCA = [32, 97, 98, 32, 10, 32, 99, 32, 32, 10] := ⟨by kernel_rfl, by kernel_rfl⟩
theorem aw_l : runsE 4 2 awC0 4 2 awCA = 0 ∧ awL.length = 2 ∧ (awL[1]?).map (fun r => (r.x, r.y)) = some (1, 1) := ⟨by kernel_rfl, by kernel_rfl, by kernel_rfl⟩
theorem aw_x : escE awL = 0 := by kernel_rfl
theorem aw_r1 : readS 4 2 awC0 ((escT awL).data.toList) = (0, 0, 4, 2, awCA) := by kernel_rfl
theorem aw_r2 : readS 4 2 awC0 awX = (150, 7, 0, 0, []) := by kernel_rfl
theorem aw_c : awCC.length = 8 ∧ (awCC[3]?).map (fun c => (c.wide, c.rune)) = some (true, 19968) := ⟨by kernel_rfl, by kernel_rfl⟩
theorem aw_k : chkS 1 0 [] = 0 := by kernel_rfl
/-! ### bounds, by a check -/
def u8B (x : Int) : Bool := decide (0 ≤ x) && decide (x ≤ 255)
def coB (c : Co) : Bool := u8B c.r && (u8B c.g && (u8B c.b && u8B c.a))
theorem coB_wf {c : Co} (h : coB c = true) : c.Wf := by
  unfold coB u8B at h
  simp only [Bool.and_eq_true, decide_eq_true_eq] at h
  unfold Co.Wf U8
  omega
def ceB (l : List Ce) : Bool := l.all fun c => coB c.col && coB c.back
theorem ceB_wf {l : List Ce} (h : ceB l = true) : CeL l := by
  intro c hc
  have h := List.all_eq_true.1 h c hc
  simp only [Bool.and_eq_true] at h
  exact ⟨trivial, coB_wf h.1, coB_wf h.2⟩
def i64B (x : Int) : Bool := decide (-9223372036854775808 ≤ x) && decide (x ≤ 9223372036854775807)
theorem i64B_wf {x : Int} (h : i64B x = true) : I64 x := by
  unfold i64B at h
  simp only [Bool.and_eq_true, decide_eq_true_eq] at h
  exact h
def rnB (l : List Rn) : Bool := l.all fun r => i64B r.x && (i64B r.y && ceB r.cells)
theorem rnB_wf {l : List Rn} (h : rnB l = true) : ∀ r ∈ l, RnWf r := by
  intro r hr
  have h := List.all_eq_true.1 h r hr
  simp only [Bool.and_eq_true] at h
  exact ⟨i64B_wf h.1, i64B_wf h.2.1, ceB_wf h.2.2⟩
theorem aw_wf0 : CeL awC0 := ceB_wf (by kernel_rfl)
theorem aw_wfL : ∀ r ∈ awL, RnWf r := rnB_wf (by kernel_rfl)
theorem aw_wf1 : awS1.Wf := ⟨(by unfold U8; decide), ⟨i64B_wf rfl, i64B_wf rfl, i64B_wf rfl, i64B_wf rfl⟩, coB_wf rfl, coB_wf rfl, (by show 4 ≤ maxLen; unfold maxLen; omega), i64B_wf rfl⟩
theorem aw_wf2 : awS2.Wf := ⟨(by unfold U8; decide), ⟨i64B_wf rfl, i64B_wf rfl, i64B_wf rfl, i64B_wf rfl⟩, coB_wf rfl, coB_wf rfl, (by show 4 ≤ maxLen; unfold maxLen; omega), i64B_wf rfl⟩
theorem draw_lit (wd ht : Int) (cs : List Ce) (st : St) (v : Value) (W u : World) (g base : Nat) (h1 : I64 wd) (h2 : I64 ht) (ho : OwnsC base W v cs) (hc : CeL cs) (hs : st.Wf) (hu : Below W.heap.size W u) (hg : Blk u g st.enc 46) :
    Calls Tryz.prog 12 #[.agg #[.int .i64 (wd), .int .i64 (ht), v], .slice (some ⟨g, 0, none⟩) 1 1] u (OutS u.heap.size (drawE wd ht cs [st]) (drawZ wd wd ht cs [st]) (drawZ ht wd ht cs [st]) (drawC glyS wd ht cs [st]) u) :=
  cdraw_any glyS glyphs_any wd ht cs v [st] _ u h1 h2 ((ho.below hu (Nat.le_refl _)).row (Nat.le_refl _)) hc
    (Blk.row (xs := [st]) (cap := 1) St.enc_len hg (by show st.enc.take 15 = st.enc ++ []; rw [List.append_nil]; exact List.take_of_length_le (by rw [St.enc_len]; exact Nat.le_refl _)) (Nat.le_refl _) (by unfold maxLen; omega) hg.lt)
    (fun s h => by rw [List.mem_singleton] at h; subst h; exact hs)
/-- Runs of the call's own, as arguments. -/
theorem RunRows.at_ {base B : Nat} {W : World} {v : Value} {l : List Rn} (h : RunRows base W v l) (hB : W.heap.size ≤ B) : RunsAt B W v l := by
  obtain ⟨vs, hl, hr, hj, _⟩ := h
  refine ⟨l.zip vs, ?_, ?_, fun p hp => ?_⟩
  · rw [List.map_fst_zip]; omega
  · have hz : (l.zip vs).length = l.length := by rw [List.length_zip, hl, Nat.min_self]
    rw [← hz] at hr
    exact Row.own encRn_len hr hB (by omega)
  · obtain ⟨j, hjp⟩ := List.mem_iff_getElem?.1 hp
    rw [List.getElem?_zip_eq_some] at hjp
    exact (hj j p.2 p.1 hjp.2 hjp.1).row hB
theorem RunRows.slice {base : Nat} {W : World} {v : Value} {l : List Rn} (h : RunRows base W v l) : ∃ s cap, v = .slice s l.length cap := by
  obtain ⟨vs, hl, hr, hj, _⟩ := h
  exact own_slice hr
end Go.Proofs.YtffmomgmkpmpkaaGreatDoor
