/-
  Cells' laws: cells are written over, and grown (law15.spoil).
-/
import Derived.Lib.SlicesCompact
import Derived.Maps.AppendAt
import Derived.Test.YtffmomgmkpmpkaaGreatDoorProg
import Derived.Test.YtffmomgmkpmpkaaGreatDoorKu26
namespace Go.Proofs.YtffmomgmkpmpkaaGreatDoor
open Go.RowKit
set_option linter.unusedVariables false
attribute [local go_sem] vwp vUpon_value vUpon_skip vUpon_enter vUpon_row
set_option linter.unusedSimpArgs false
set_option linter.unusedVariables false
/-- A row of cells of the call's own, whatever they hold. -/
def AnyC (base : Nat) (w : World) (v : Value) (n : Nat) : Prop := ∃ zs, w.ownsRow base 52 11 v n zs
theorem AnyC.set {base n : Nat} {w : World} {v : Value} (h : AnyC base w v n) (b o : Nat) (u : Value) : AnyC base (w.setCell ⟨b, o, none⟩ u) v n := by
  obtain ⟨zs, hl, hr⟩ := h
  rcases hr with ⟨rfl, h0⟩ | ⟨g, cap, cur, rfl, hb, hg, hc, hm, hs, ht⟩
  · exact ⟨zs, hl, .inl ⟨rfl, h0⟩⟩
  · by_cases hga : g = b
    · subst hga
      refine ⟨(cur.setIfInBounds o u).toList.take (n * 11), ?_, .inr ⟨g, cap, _, rfl, hb, heap_setCell_same _ _ _ _ _ _ hg, hc, hm, by simpa using hs, rfl⟩⟩
      rw [List.length_take, Array.length_toList, Array.size_setIfInBounds]
      have : n * 11 ≤ cap * 11 := Nat.mul_le_mul_right _ hc
      omega
    · exact ⟨zs, hl, .inr ⟨g, cap, cur, rfl, hb, by rw [heap_setCell_other _ _ _ _ hga]; exact hg, hc, hm, hs, ht⟩⟩
theorem AnyC.cells {base n : Nat} {w : World} {v : Value} (h : AnyC base w v n) (h0 : 0 < n) : ∃ g cap, v = .slice (some ⟨g, 0, none⟩) n cap ∧ base ≤ g ∧ g < w.heap.size ∧ n ≤ cap ∧ cap ≤ maxLen ∧ (∀ o, o < n * 11 → ∃ u, w.cell? ⟨g, o, none⟩ = some u) ∧ ∀ o, w.frozen? ⟨g, o, none⟩ = false := by
  obtain ⟨zs, hl, hr⟩ := h
  rcases hr with ⟨_, h1⟩ | ⟨g, cap, cur, rfl, hb, hg, hc, hm, hs, ht⟩
  · omega
  · refine ⟨g, cap, rfl, hb, (Array.getElem?_eq_some_iff.1 hg).1, hc, hm, fun o ho => ?_, fun o => by simp [World.frozen?, hg]⟩
    have : n * 11 ≤ cap * 11 := Nat.mul_le_mul_right _ hc
    refine ⟨cur[o]'(by omega), ?_⟩
    simp only [World.cell?, hg]
    simp [Array.getElem?_eq_getElem (show o < cur.size by omega)]
theorem grownC_set {w wr : World} {o : Option Nat} (h : w.grownBy wr o) (b k : Nat) (u : Value) (hb : some b = o ∨ w.heap.size ≤ b) : w.grownBy (wr.setCell ⟨b, k, none⟩ u) o := by
  refine ⟨h.os, h.tape, h.output, by simpa using h.size, fun q hq hne => ?_⟩
  rw [heap_setCell_other _ _ _ _ (fun e => by
    rcases hb with hb | hb
    · exact hne (by rw [← hb]; exact congrArg some e)
    · have e : q = b := e
      omega)]
  exact h.block q hq hne
theorem grownC_alloc {w wr : World} {o : Option Nat} (h : w.grownBy wr o) (ob : Obj) : w.grownBy (wr.alloc ob) o :=
  ⟨h.os, h.tape, h.output, by have := h.size; simp; omega, fun q hq hne => (Below.heap_alloc wr ob q (by have := h.size; omega)).trans (h.block q hq hne)⟩
theorem grownC_grown {w wr w2 : World} {o o2 : Option Nat} (h : w.grownBy wr o) (h2 : wr.grownBy w2 o2) (hx : o2 = o ∨ ∀ k, o2 = some k → w.heap.size ≤ k) : w.grownBy w2 o := by
  refine ⟨h2.os.trans h.os, h2.tape.trans h.tape, h2.output.trans h.output, by have := h.size; have := h2.size; omega, fun q hq hne => ?_⟩
  refine (h2.block q (by have := h.size; omega) (fun e => ?_)).trans (h.block q hq hne)
  rcases hx with hx | hx
  · exact hne (e.trans hx)
  · have := hx q e.symm
    omega
/-- Where a row lies that was v0's to begin with. -/
def Near (w : World) (v0 v : Value) : Prop := v.ownBlock = v0.ownBlock ∨ ∃ k, v.ownBlock = some k ∧ w.heap.size ≤ k
set_option maxHeartbeats 4000000 in
set_option maxRecDepth 100000 in
theorem spoilC_any (base : Nat) (cs : List Ce) (v : Value) (w : World) (h : OwnsC base w v cs) (hm : cs.length ≤ 1000000) : Calls Tryz.prog 17 #[v] w fun e w' => e = .returned (.tuple #[]) ∧ w.grownBy w' v.ownBlock := by
 obtain ⟨iM, hi0, hm0, hm1, hm2⟩ := info_parts infoCe
 obtain ⟨n, en⟩ : ∃ n, cs.length = n := ⟨_, rfl⟩
 obtain ⟨s0, cap0, rfl⟩ := own_slice h
 obtain ⟨OB, hOB⟩ : ∃ o, (Value.slice s0 cs.length cap0).ownBlock = o := ⟨_, rfl⟩
 rw [hOB]
 have h0 : AnyC 0 w (.slice s0 cs.length cap0) cs.length := ⟨_, own_low h (Nat.zero_le _)⟩
 rw [en] at h0 hOB hm ⊢
 clear h
 replace h0 := Lib.hid h0
 replace hOB := Lib.hid hOB
 go_enter Tryz.func17, Tryz.ntmps17
 go_upto_region 1 with fail
 go_loopw [2] (fun iv wr => ∃ i : Nat, i ≤ n ∧ iv = .int .i64 i ∧ Hid (AnyC 0 wr (.slice s0 n cap0) n) ∧ Hid (w.grownBy wr OB)) (fun iv _ => n - (intOf iv).toNat)
 case atStart => exact ⟨0, Nat.zero_le _, rfl, h0, Lib.hid (grown_refl _ _)⟩
 case round =>
  clear h0
  obtain ⟨i, hi, rfl, hsp, hgr⟩ := hrel
  by_cases hin : i < n
  ·have hii : (i : Int) < n := by omega
   obtain ⟨g, cap, ev, hbg, hgl, hnc, hcm, hce, hf⟩ := hsp.out.cells (by omega)
   simp only [Value.slice.injEq] at ev
   obtain ⟨rfl, _, rfl⟩ := ev
   have hgb : some g = OB ∨ w.heap.size ≤ g := .inl (by rw [← hOB.out]; rfl)
   obtain ⟨u0, q0⟩ := hce (i * 11) (by omega)
   obtain ⟨u1, q1⟩ := hce (i * 11 + 1) (by omega)
   obtain ⟨u2, q2⟩ := hce (i * 11 + 2) (by omega)
   obtain ⟨u3, q3⟩ := hce (i * 11 + 3) (by omega)
   obtain ⟨u4, q4⟩ := hce (i * 11 + 4) (by omega)
   obtain ⟨u5, q5⟩ := hce (i * 11 + 5) (by omega)
   obtain ⟨u6, q6⟩ := hce (i * 11 + 6) (by omega)
   obtain ⟨u7, q7⟩ := hce (i * 11 + 7) (by omega)
   obtain ⟨u8, q8⟩ := hce (i * 11 + 8) (by omega)
   obtain ⟨u9, q9⟩ := hce (i * 11 + 9) (by omega)
   obtain ⟨u10, q10⟩ := hce (i * 11 + 10) (by omega)
   clear hce
   go_wp2
   go_roundw
   case rel => exact ⟨i + 1, by omega, by go_num, Lib.hid (by repeat (first | (with_reducible exact hsp.out) | (with_reducible refine AnyC.set ?_ _ _ _))), Lib.hid (by repeat (first | (with_reducible exact hgr.out) | (with_reducible refine grownC_set ?_ _ _ _ hgb)))⟩
   case measure => simp [intOf]; omega
  ·obtain rfl : n = i := by omega
   have hii : ¬ (n : Int) < n := by omega
   go_upto_region 5 with fail
   go_loopw [0, 3] (fun lv kv wr => ∃ k : Nat, k ≤ 4 ∧ kv = .int .i64 k ∧ Hid (AnyC 0 wr lv (n + k)) ∧ Hid (w.grownBy wr OB) ∧ Hid (Near w (.slice s0 n cap0) lv)) (fun _ kv _ => 4 - (intOf kv).toNat)
   case atStart => exact ⟨0, Nat.zero_le _, rfl, by simpa using hsp, hgr, Lib.hid (.inl rfl)⟩
   case round =>
    clear hsp hgr
    obtain ⟨k, hk, rfl, hsp, hgr, hnr⟩ := hrel
    obtain ⟨W, rfl⟩ : ∃ W, W = wr := ⟨_, rfl⟩
    by_cases hk4 : k < 4
    ·have hki : (k : Int) < 4 := by omega
     obtain ⟨zs, hzs⟩ := hsp.out
     obtain ⟨sl, cl, rfl⟩ := own_slice hzs
     have hza := hzs.alloc (.cells #[.int .i32 121, .int .u8 0, .int .u8 0, .int .u8 0, .int .u8 0, .int .u8 0, .int .u8 0, .int .u8 0, .int .u8 0, .bool false, .bool false] 52)
     have hga := grownC_alloc hgr.out (.cells #[.int .i32 121, .int .u8 0, .int .u8 0, .int .u8 0, .int .u8 0, .int .u8 0, .int .u8 0, .int .u8 0, .int .u8 0, .bool false, .bool false] 52)
     have hws := hgr.out.size
     replace hza := Lib.hid hza
     replace hga := Lib.hid hga
     clear hzs hsp
     go_wp2_with (at_builtin; refine wpList_append_own_at _ rfl _ _ _ rfl 0 52 iM _ 11 16 Tryz.underlying24 hi0 hm0 hm1 hm2 rfl (by omega) _ (n + k) zs (by rfl) hza.out ⟨W.heap.size, 0, none⟩ 1 1 [.int .i32 121, .int .u8 0, .int .u8 0, .int .u8 0, .int .u8 0, .int .u8 0, .int .u8 0, .int .u8 0, .int .u8 0, .bool false, .bool false] (by rfl) rfl (cells_new W [.int .i32 121, .int .u8 0, .int .u8 0, .int .u8 0, .int .u8 0, .int .u8 0, .int .u8 0, .int .u8 0, .int .u8 0, .bool false, .bool false] 52) (by simp [Value.oneCell']) (by unfold maxLen; omega) (by omega) (Nat.zero_le _) ?_; intro v7 w7 hown7 hgr7 _ hat7)
     have hnear : Near w (.slice s0 n cap0) v7 := by
      rcases hat7 with e | e
      ·rcases hnr.out with e2 | ⟨q, e2, e3⟩
       ·exact .inl (e.trans e2)
       ·exact .inr ⟨q, e.trans e2, e3⟩
      ·exact .inr ⟨_, e, by simp; omega⟩
     have hg7 : w.grownBy w7 OB := grownC_grown hga.out hgr7 (by
      rcases hnr.out with e2 | ⟨q, e2, e3⟩
      ·exact .inl (e2.trans hOB.out)
      ·exact .inr (fun j hj => by rw [e2] at hj; injection hj with hj; omega))
     go_roundw
     case rel => exact ⟨k + 1, by omega, by go_num, Lib.hid ⟨_, hown7⟩, Lib.hid hg7, Lib.hid hnear⟩
     case measure => simp [intOf]; omega
    ·obtain rfl : k = 4 := by omega
     obtain ⟨g, cap, rfl, hbg, hgl, hnc, hcm, hce, hf⟩ := hsp.out.cells (by omega)
     obtain ⟨u0, q0⟩ := hce 0 (by omega)
     have hgb : some g = OB ∨ w.heap.size ≤ g := by
      rcases hnr.out with e2 | ⟨q, e2, e3⟩
      ·exact .inl (by rw [← hOB.out, ← e2]; rfl)
      ·have : g = q := by simpa [Value.ownBlock] using e2
       exact .inr (by omega)
     have hf0 := hf 0
     clear hce hf
     go_wp2
     exact bodyPost_end (v := .tuple #[]) (by simp [results, Tryz.results17, go_sem]) rfl ⟨rfl, grownC_set hgr.out _ _ _ hgb⟩
end Go.Proofs.YtffmomgmkpmpkaaGreatDoor

namespace Go.Proofs.YtffmomgmkpmpkaaGreatDoor
open Go.RowKit
set_option linter.unusedVariables false
attribute [local go_sem] vwp vUpon_value vUpon_skip vUpon_enter vUpon_row
set_option linter.unusedSimpArgs false
set_option linter.unusedVariables false
def addL (l : List Rn) (cs : List Ce) : List Rn := l.dropLast ++ (l.getLast?.map fun r => (⟨r.x, r.y, r.cells ++ cs⟩ : Rn)).toList
theorem addL_snoc (l : List Rn) (r : Rn) (cs : List Ce) : addL (l ++ [r]) cs = l ++ [⟨r.x, r.y, r.cells ++ cs⟩] := by simp [addL]
def rrGo (xs ys : List Ce) (N : Nat) : Nat → Nat → Bool → List Rn → List Rn
  | 0, _, _, l => l
  | f + 1, i, o, l => if dif xs ys i = true then rrGo xs ys N f (i + 1) true (addL (if (o && !(i % N == 0)) = true then l else l ++ [⟨(i % N : Nat), (i / N : Nat), []⟩]) (ys[i]?).toList) else rrGo xs ys N f (i + 1) false l
theorem rr_step {xs ys : List Ce} {N n i : Nat} (h : i < n) (o : Bool) (l : List Rn) : rrGo xs ys N (n - i) i o l = if dif xs ys i = true then rrGo xs ys N (n - (i + 1)) (i + 1) true (addL (if (o && !(i % N == 0)) = true then l else l ++ [⟨(i % N : Nat), (i / N : Nat), []⟩]) (ys[i]?).toList) else rrGo xs ys N (n - (i + 1)) (i + 1) false l := by
  obtain ⟨k, hk⟩ : ∃ k, n - i = k + 1 := ⟨n - i - 1, by omega⟩
  rw [hk, show n - (i + 1) = k by omega, rrGo]
theorem rr_reset {xs ys : List Ce} {N i : Nat} (h : i % N = 0) (f : Nat) (l : List Rn) : rrGo xs ys N f i true l = rrGo xs ys N f i false l := by
  cases f with
  | zero => rfl
  | succ f => rw [rrGo, rrGo]; simp [h]
theorem dif_some {xs ys : List Ce} {k : Nat} (h : dif xs ys k = true) : ∃ c, ys[k]? = some c := by
  unfold dif at h
  cases hy : ys[k]? with
  | none =>
    rw [hy] at h
    cases hx : xs[k]? with
    | none => rw [hx] at h; cases h
    | some a => rw [hx] at h; cases h
  | some c => exact ⟨c, rfl⟩
theorem rr_row (xs ys : List Ce) (N y P : Nat) (hP : P = y * N) : ∀ k x, x + k = N →
  (∀ l f, rrGo xs ys N (k + f) (P + x) false l = rrGo xs ys N f (P + N) false (l ++ runRow xs ys P N y x)) ∧
  (0 < x → ∀ l x0 y0 cs f, rrGo xs ys N (k + f) (P + x) true (l ++ [⟨x0, y0, cs⟩]) = rrGo xs ys N f (P + N) false (l ++ [⟨x0, y0, cs ++ (ys.drop (P + x)).take (runTo xs ys P N x - x)⟩] ++ runRow xs ys P N y (runTo xs ys P N x + 1)))
 | 0, x, hx => by
  obtain rfl : x = N := by omega
  have h0 : (P + x) % x = 0 := by rw [hP, ← Nat.succ_mul]; exact Nat.mul_mod_left _ _
  have hr : runTo xs ys P x x = x := runTo_stop (fun h => by omega)
  refine ⟨fun l f => ?_, fun _ l x0 y0 cs f => ?_⟩
  ·rw [runRow_end (by omega), List.append_nil, Nat.zero_add]
  ·rw [hr, runRow_end (by omega), List.append_nil, Nat.zero_add, rr_reset h0]
   simp
 | k + 1, x, hx => by
  have hxN : x < N := by omega
  have hm : (P + x) % N = x := by rw [hP, Nat.add_comm, Nat.add_mul_mod_self_right]; exact Nat.mod_eq_of_lt hxN
  have hd : (P + x) / N = y := by rw [hP, Nat.add_comm, Nat.add_mul_div_right _ _ (by omega), Nat.div_eq_of_lt hxN, Nat.zero_add]
  obtain ⟨I1, I2⟩ := rr_row xs ys N y P hP k (x + 1) (by omega)
  replace I2 := I2 (by omega)
  have hf : ∀ f, k + 1 + f = (k + f) + 1 := fun f => by omega
  by_cases hdf : dif xs ys (P + x) = true
  ·obtain ⟨c, hc⟩ := dif_some hdf
   have hrt := runTo_step (N := N) hxN hdf
   have hb := (rEnd_bd xs ys P N (N - (x + 1)) (x + 1)).1
   have hb : x + 1 ≤ runTo xs ys P N (x + 1) := hb
   have htk : (ys.drop (P + x)).take (runTo xs ys P N (x + 1) - x) = c :: (ys.drop (P + (x + 1))).take (runTo xs ys P N (x + 1) - (x + 1)) := by
    rw [drop_get hc, show runTo xs ys P N (x + 1) - x = (runTo xs ys P N (x + 1) - (x + 1)) + 1 by omega, List.take_succ_cons]
    rfl
   refine ⟨fun l f => ?_, fun h0 l x0 y0 cs f => ?_⟩
   ·rw [hf, rrGo, if_pos hdf, hm, hd, hc, Bool.false_and, if_neg (by decide), addL_snoc]
    have h := I2 l x y [c] f
    rw [← Nat.add_assoc] at h
    rw [show ([] : List Ce) ++ (some c).toList = [c] from rfl, h, runRow_step hxN, hrt]
    rw [show runOne ys P y x (runTo xs ys P N (x + 1)) = [⟨x, y, (ys.drop (P + x)).take (runTo xs ys P N (x + 1) - x)⟩] from if_pos (by omega), htk]
    simp [Nat.add_assoc]
   ·rw [hf, rrGo, if_pos hdf, hm, hc, if_pos (by simp; omega), addL_snoc]
    have h := I2 l x0 y0 (cs ++ [c]) f
    rw [← Nat.add_assoc] at h
    dsimp only
    rw [show (some c).toList = [c] from rfl, h, hrt, htk]
    simp [Nat.add_assoc]
  ·have hrt : runTo xs ys P N x = x := runTo_stop (fun h => hdf h.2)
   have h1 := fun l f => (show rrGo xs ys N (k + f) (P + x + 1) false l = _ from I1 l f)
   refine ⟨fun l f => ?_, fun h0 l x0 y0 cs f => ?_⟩
   ·rw [hf, rrGo, if_neg hdf, h1, runRow_step hxN, hrt, show runOne ys P y x x = [] from if_neg (by omega), List.nil_append]
   ·rw [hf, rrGo, if_neg hdf, h1, hrt]
    simp
theorem rr_all (xs ys : List Ce) (N : Nat) : ∀ M y l, rrGo xs ys N (M * N) (y * N) false l = l ++ runsGo xs ys N M y
  | 0, y, l => by rw [Nat.zero_mul]; simp [rrGo, runsGo]
  | M + 1, y, l => by
    have h := (rr_row xs ys N y (y * N) rfl N 0 (by omega)).1 l (M * N)
    rw [Nat.add_zero] at h
    rw [Nat.succ_mul, Nat.add_comm, h, ← Nat.succ_mul, rr_all xs ys N M (y + 1), runsGo, List.append_assoc]
/-! ### the last run grows -/
structure LastRun (base : Nat) (W : World) (l : List Rn) (r : Rn) (vs : List Value) (u : Value) (g cap : Nat) : Prop where
  len : vs.length = l.length
  row : W.ownsRow base 67 3 (.slice (some ⟨g, 0, none⟩) (l.length + 1) cap) (l.length + 1) ((l.zip vs).flatMap encRn ++ encRn (r, u))
  each : ∀ (j : Nat) u r, vs[j]? = some u → l[j]? = some r → OwnsC base W u r.cells
  last : OwnsC base W u r.cells
  dis : ∀ (i j : Nat) u u', i < j → vs[i]? = some u → vs[j]? = some u' → ∀ g, u.ownBlock = some g → u'.ownBlock ≠ some g
  disl : ∀ (i : Nat) u', vs[i]? = some u' → ∀ g, u'.ownBlock = some g → u.ownBlock ≠ some g
theorem zip_len {l : List Rn} {vs : List Value} (h : vs.length = l.length) : ((l.zip vs).flatMap encRn).length = l.length * 3 := by
  rw [flat_len encRn_len, List.length_zip, h, Nat.min_self]
theorem RunRows.open_ {base : Nat} {W : World} {v : Value} {l : List Rn} {r : Rn} (h : RunRows base W v (l ++ [r])) : ∃ vs u g cap, v = .slice (some ⟨g, 0, none⟩) (l.length + 1) cap ∧ LastRun base W l r vs u g cap := by
  obtain ⟨ws, hl, hr, hj, hd⟩ := h
  rw [List.length_append, List.length_singleton] at hl hr
  obtain ⟨vs, u, rfl⟩ : ∃ vs u, ws = vs ++ [u] := by
    rcases List.eq_nil_or_concat ws with rfl | ⟨a, b, e⟩
    · simp at hl
    · exact ⟨a, b, by rw [e, List.concat_eq_append]⟩
  have hl2 : vs.length = l.length := by simpa using hl
  rw [List.zip_append hl2.symm, List.flatMap_append] at hr
  obtain ⟨s, c, rfl⟩ := own_slice hr
  obtain ⟨g, rfl, _⟩ := own_some hr (by omega)
  refine ⟨vs, u, g, c, rfl, hl2, ?_, fun j u' r' h1 h2 => ?_, ?_, fun i j u1 u2 hij h1 h2 => ?_, fun i u' h1 => ?_⟩
  · simpa using hr
  · exact hj j u' r' (by rw [List.getElem?_append_left (List.getElem?_eq_some_iff.1 h1).1]; exact h1) (by rw [List.getElem?_append_left (List.getElem?_eq_some_iff.1 h2).1]; exact h2)
  · exact hj l.length u r (by rw [← hl2]; simp) (by simp)
  · exact hd i j u1 u2 hij (by rw [List.getElem?_append_left (List.getElem?_eq_some_iff.1 h1).1]; exact h1) (by rw [List.getElem?_append_left (List.getElem?_eq_some_iff.1 h2).1]; exact h2)
  · exact hd i vs.length u' u (List.getElem?_eq_some_iff.1 h1).1 (by rw [List.getElem?_append_left (List.getElem?_eq_some_iff.1 h1).1]; exact h1) (by simp)
theorem LastRun.below {base B : Nat} {W W' : World} {l : List Rn} {r : Rn} {vs : List Value} {u : Value} {g cap : Nat} (h : LastRun base W l r vs u g cap) (hb : Below B W W') (hB : W.heap.size ≤ B) : LastRun base W' l r vs u g cap :=
  ⟨h.len, ownsRow_below h.row hb hB, fun j u r h1 h2 => (h.each j u r h1 h2).below hb hB, h.last.below hb hB, h.dis, h.disl⟩
theorem LastRun.cell {base : Nat} {W : World} {l : List Rn} {r : Rn} {vs : List Value} {u : Value} {g cap : Nat} (h : LastRun base W l r vs u g cap) : W.cell? ⟨g, l.length * 3 + 2, none⟩ = some u := by
  have := h.row.cellAt (l.length * 3 + 2) (by omega)
  rw [this, List.getElem?_append_right (by rw [zip_len h.len]; omega), zip_len h.len, Nat.add_sub_cancel_left]
  rfl
theorem LastRun.free {base : Nat} {W : World} {l : List Rn} {r : Rn} {vs : List Value} {u : Value} {g cap : Nat} (h : LastRun base W l r vs u g cap) : W.frozen? ⟨g, l.length * 3 + 2, none⟩ = false := h.row.frozenAt _
theorem LastRun.grow {base : Nat} {W W' : World} {l : List Rn} {r : Rn} {vs : List Value} {u u' : Value} {g cap : Nat} {c : Ce} (h : LastRun base W l r vs u g cap)
  (hu : OwnsC base W' u' (r.cells ++ [c])) (hg : W.grownBy W' u.ownBlock) (hat : ∀ k, u'.ownBlock = some k → u.ownBlock = some k ∨ W.heap.size ≤ k) :
  RunRows base (W'.setCell ⟨g, l.length * 3 + 2, none⟩ u') (.slice (some ⟨g, 0, none⟩) (l.length + 1) cap) (l ++ [⟨r.x, r.y, r.cells ++ [c]⟩]) := by
 have hrow := own_keep h.row hg (fun k hk => own_apart h.row h.last (by decide) k hk)
 have key : ∀ {u : Value} {cs : List Ce}, OwnsC base W' u cs → OwnsC base (W'.setCell ⟨g, l.length * 3 + 2, none⟩ u') u cs := fun {u cs} hh =>
  own_other hh (fun k hk e => own_apart hh hrow (by decide) k hk (by subst e; rfl)) _
 refine ⟨vs ++ [u'], by simp [h.len], ?_, fun j u1 r1 h1 h2 => ?_, fun i j u1 u2 hij h1 h2 => ?_⟩
 ·rw [List.zip_append h.len.symm, List.flatMap_append, List.length_append, List.length_singleton]
  have hp := own_put hrow (k := l.length * 3 + 2) (by omega) u'
  rw [List.set_append_right _ _ (by rw [zip_len h.len]; omega), zip_len h.len, Nat.add_sub_cancel_left] at hp
  simpa [encRn] using hp
 ·by_cases c1 : j < vs.length
  ·rw [List.getElem?_append_left c1] at h1
   rw [List.getElem?_append_left (by rw [← h.len]; exact c1)] at h2
   exact key (own_keep (h.each j u1 r1 h1 h2) hg (fun k hk => h.disl j u1 h1 k hk))
  ·have hjl := (List.getElem?_eq_some_iff.1 h1).1
   rw [List.length_append, List.length_singleton] at hjl
   obtain rfl : j = vs.length := by omega
   rw [List.getElem?_append_right (Nat.le_refl _), Nat.sub_self] at h1
   rw [h.len, List.getElem?_append_right (Nat.le_refl _), Nat.sub_self] at h2
   simp at h1 h2
   subst h1 h2
   exact key hu
 ·have hjl := (List.getElem?_eq_some_iff.1 h2).1
  rw [List.length_append, List.length_singleton] at hjl
  rw [List.getElem?_append_left (by omega)] at h1
  by_cases c1 : j < vs.length
  ·rw [List.getElem?_append_left c1] at h2
   exact h.dis i j u1 u2 hij h1 h2
  ·obtain rfl : j = vs.length := by omega
   rw [List.getElem?_append_right (Nat.le_refl _), Nat.sub_self] at h2
   simp at h2
   subst h2
   intro k hk hk2
   rcases hat k hk2 with e | e
   ·exact h.disl i u1 h1 k hk e
   ·obtain ⟨r1, hr1⟩ : ∃ r, l[i]? = some r := ⟨_, List.getElem?_eq_getElem (by rw [← h.len]; exact hij)⟩
    have := (own_block_lt (h.each i u1 r1 h1 hr1) k hk).2
    omega
end Go.Proofs.YtffmomgmkpmpkaaGreatDoor
