/-
  Cells: two equal lists of runs are the same.
-/
import Derived.Lib.SlicesCompact
import Derived.Test.YtffmomgmkpmpkaaGreatDoorProg
import Derived.Test.YtffmomgmkpmpkaaGreatDoorKu28
namespace Go.Proofs.YtffmomgmkpmpkaaGreatDoor
open Go.RowKit
set_option linter.unusedVariables false
attribute [local go_sem] vwp vUpon_value vUpon_skip vUpon_enter vUpon_row
set_option linter.unusedSimpArgs false
set_option linter.unusedVariables false
theorem neq_point (w : World) (a b a' b' : Int) : (binOp .neq 40 (.agg #[.int .i64 a, .int .i64 b]) (.agg #[.int .i64 a', .int .i64 b'])).run Tryz.prog w = .ok (.bool (!((a == a') && (b == b')))) w := by
  rw [run_neq_struct]
  have h := eq_point 9998 w a b a' b'
  rw [h]
  rfl
attribute [local go_sem high] neq_point
theorem RunRows.at {base B : Nat} {w : World} {v : Value} {l : List Rn} (h : RunRows base w v l) (hB : w.heap.size ≤ B) : RunsAt B w v l := by
  obtain ⟨vs, hl, hr, hj, _⟩ := h
  have e1 : (l.zip vs).map Prod.fst = l := by rw [List.map_fst_zip (by omega)]
  have e2 : (l.zip vs).length = l.length := by rw [List.length_zip, hl, Nat.min_self]
  refine ⟨l.zip vs, e1, ?_, fun p hp => ?_⟩
  · rw [← e2] at hr
    exact Row.own encRn_len hr hB (by omega)
  · obtain ⟨j, hjl, hj2⟩ := List.getElem_of_mem hp
    have hj3 : (l.zip vs)[j]? = some p := by rw [List.getElem?_eq_getElem hjl, hj2]
    rw [List.getElem?_zip_eq_some] at hj3
    exact (hj j _ _ hj3.2 hj3.1).row hB
set_option maxHeartbeats 8000000 in
set_option maxRecDepth 100000 in
theorem samr_any (l : List Rn) (v1 v2 : Value) (w : World) (h1 : RunsAt w.heap.size w v1 l) (h2 : RunsAt w.heap.size w v2 l) : Calls Tryz.prog 34 #[v1, v2] w fun e w' => e = .returned (.bool true) ∧ Below w.heap.size w w' := by
 obtain ⟨s0, ca, rfl, hmax⟩ := h1.shape
 obtain ⟨s1, cb, rfl, _⟩ := h2.shape
 have hop1 := fun h0 => h1.open_ h0
 have hop2 := fun h0 => h2.open_ h0
 obtain ⟨n, en⟩ : ∃ n, l.length = n := ⟨_, rfl⟩
 rw [en] at hop1 hop2 hmax ⊢
 unfold maxLen at hmax
 clear h1 h2
 replace hop1 := Lib.hid hop1
 replace hop2 := Lib.hid hop2
 replace en := Lib.hid en
 go_enter Tryz.func34, Tryz.ntmps34
 go_upto_region 4 with fail
 go_loopw [5] (fun iv wr => ∃ i : Nat, i ≤ n ∧ iv = .int .i64 i ∧ Hid (Below w.heap.size w wr)) (fun iv _ => n - (intOf iv).toNat)
 case atStart => exact ⟨0, Nat.zero_le _, rfl, Lib.hid (Below.refl _ _)⟩
 case round =>
  obtain ⟨i, hi, rfl, hb⟩ := hrel
  obtain ⟨W1, rfl⟩ : ∃ W1, W1 = wr := ⟨_, rfl⟩
  have zb := hb.out.size
  by_cases hin : i < n
  ·have hii : (i : Int) < n := by omega
   obtain ⟨g, o, c1, ea, hg, _, _, hel⟩ := hop1.out (by omega)
   simp only [Value.slice.injEq] at ea
   obtain ⟨rfl, _, rfl⟩ := ea
   obtain ⟨g', o', c2, eb, hg', _, _, hel'⟩ := hop2.out (by omega)
   simp only [Value.slice.injEq] at eb
   obtain ⟨rfl, _, rfl⟩ := eb
   obtain ⟨r, hr⟩ := get_at en.out hin
   obtain ⟨s, k, q0, q1, q2, hrow⟩ := hel i r hr
   obtain ⟨s', k', q0', q1', q2', hrow'⟩ := hel' i r hr
   obtain ⟨x, y, rc, rfl⟩ : ∃ x y c, r = ⟨x, y, c⟩ := ⟨_, _, _, rfl⟩
   dsimp only at q0 q1 q2 hrow q0' q1' q2' hrow'
   obtain ⟨m, hm⟩ : ∃ m, rc.length = m := ⟨_, rfl⟩
   rw [hm] at q2 hrow q2' hrow'
   obtain ⟨W2, hW2⟩ : ∃ W2, (W1.alloc (.cells #[.int .i64 0, .int .i64 0, .slice s m k] 26)).alloc (.cells #[.int .i64 0, .int .i64 0, .slice s' m k'] 26) = W2 := ⟨_, rfl⟩
   obtain ⟨b6, hb6⟩ : ∃ b, W1.heap.size = b := ⟨_, rfl⟩
   have B6 : Blk W2 b6 [.int .i64 0, .int .i64 0, .slice s m k] 26 := by rw [← hW2]; exact (Blk.new' hb6.symm).alloc _
   have B7 : Blk W2 (b6 + 1) [.int .i64 0, .int .i64 0, .slice s' m k'] 26 := by rw [← hW2]; exact Blk.new' (by simp; omega)
   have hb2 : Below w.heap.size w W2 := by rw [← hW2]; exact (hb.out.alloc (by omega) _).alloc (by simp; omega) _
   have p0 := (hb.out.cell (p := ⟨g, o + i * 3, none⟩) hg).trans q0
   have p1 := (hb.out.cell (p := ⟨g, o + i * 3 + 1, none⟩) hg).trans q1
   have p2 := (hb.out.cell (p := ⟨g, o + i * 3 + 2, none⟩) hg).trans q2
   have p0' := (hb.out.cell (p := ⟨g', o' + i * 3, none⟩) hg').trans q0'
   have p1' := (hb.out.cell (p := ⟨g', o' + i * 3 + 1, none⟩) hg').trans q1'
   have p2' := (hb.out.cell (p := ⟨g', o' + i * 3 + 2, none⟩) hg').trans q2'
   have CS := fun u (hu : Below W2.heap.size W2 u) => csame_any 0 0 0 0 rc rc (.slice s m k) (.slice s' m k') u (by have h := (hrow.below (hb2.trans (hu.mono hb2.size))).mono (Nat.le_trans hb2.size hu.size); exact h) (by have h := (hrow'.below (hb2.trans (hu.mono hb2.size))).mono (Nat.le_trans hb2.size hu.size); exact h)
   rw [show samS 0 0 rc 0 0 rc = true from samS_iff.2 ⟨rfl, rfl, rfl⟩] at CS
   replace CS := Lib.hid CS
   have yg : g < W1.heap.size := by omega
   have yg' : g' < W1.heap.size := by omega
   have hex : (((x == x) && (y == y)) : Bool) = true := by simp
   clear hr hel hel' hrow hrow'
   replace q0 := Lib.hid q0
   replace q1 := Lib.hid q1
   replace q0' := Lib.hid q0'
   replace q1' := Lib.hid q1'
   clear q2 q2'
   replace hm := Lib.hid hm
   replace hb2 := Lib.hid hb2
   replace B6 := Lib.hid B6
   replace B7 := Lib.hid B7
   replace hb6 := Lib.hid hb6
   replace hW2 := Lib.hid hW2
   go_upto_region 8 with fail
   rw [hW2.out, hb6.out]
   clear p0 p1 p2 p0' p1' p2'
   have z2 := hb2.out.size
   have p0 := (hb2.out.cell (p := ⟨g, o + i * 3, none⟩) hg).trans q0.out
   have p1 := (hb2.out.cell (p := ⟨g, o + i * 3 + 1, none⟩) hg).trans q1.out
   have p0' := (hb2.out.cell (p := ⟨g', o' + i * 3, none⟩) hg').trans q0'.out
   have p1' := (hb2.out.cell (p := ⟨g', o' + i * 3 + 1, none⟩) hg').trans q1'.out
   have yg2 : g < W2.heap.size := by omega
   have yg2' : g' < W2.heap.size := by omega
   have r0 := B6.out.cell (o := 0) rfl
   have r1 := B6.out.cell (o := 1) rfl
   have r2 := B6.out.cell (o := 2) rfl
   have t0 := B7.out.cell (o := 0) rfl
   have t1 := B7.out.cell (o := 1) rfl
   have t2 := B7.out.cell (o := 2) rfl
   have y6 := B6.out.lt
   have y7 := B7.out.lt
   refine wp_region_steady (Held W2 0 []) (by kernel_rfl) (by kernel_rfl) ⟨belt, (by (try simp) <;> omega), (by first | exact trivial | (simp only [Cells]; go_simp))⟩ ?_
   repeat (first | (refine' wpSteady_do _ _ _; rotate_left; (focus rfl); (focus (intro w1 hS R hR; have hc := hS.cells; simp only [Cells] at hc; obtain ⟨hco, hfo⟩ := bcell hS.old; go_simp; (try go_bits); first | exact hR _ hS | (go_at_call 14; (with_reducible refine (CS.out _ hS.old).mono ?_); rintro e w2 ⟨rfl, hb2⟩; exact ⟨_, rfl, hR _ (hS.below hb2)⟩))); simp only [pu]) | (refine wpSteady_pass ?_ ?_; (focus rfl); simp only [pu]))
   refine wpSteady_nil (fun uA hSA => ?_)
   have hcA := hSA.cells; have hbA := hSA.old; have hzA := hSA.size; clear hSA; simp only [Cells] at hcA; obtain ⟨hcoA, hfoA⟩ := bcell hbA
   have hb3 := Lib.hid (hb2.out.trans (hbA.mono z2))
   go_wp2
   exact ⟨⟨i + 1, by omega, by go_num, hb3⟩, by simp [intOf]; omega⟩
  ·obtain rfl : n = i := by omega
   have hii : ¬ (n : Int) < n := by omega
   go_wp2
   go_ret
   exact ⟨rfl, hb.out⟩
end Go.Proofs.YtffmomgmkpmpkaaGreatDoor

namespace Go.Proofs.YtffmomgmkpmpkaaGreatDoor
open Go.RowKit
set_option linter.unusedVariables false
attribute [local go_sem] vwp vUpon_value vUpon_skip vUpon_enter vUpon_row
set_option linter.unusedSimpArgs false
set_option linter.unusedVariables false
theorem wp_append_row {P : Program} {o : Oper} {a : Act} {K : Act → World → Prop} {Q : Exit → Act → World → Prop} (s x : Operand) (t : TypeId)
  (ho : o.op = .call { callee := .builtin .append, args := #[s, x], argTypes := #[t, t] })
  (base : Nat) (e : TypeId) (i : TypeInfo) (z : Value) (size bytes : Nat) (ht : P.underlying t = some (.slice e)) (hi : P.info? e = some i) (hz : i.zero = some z)
  (hsize : i.size = size) (hby : i.bytes = bytes) (hzs : z.cells.size = size) (hsz : 0 < size)
  (w : World) (v : Value) (n : Nat) (xs : List Value) (hs : a.eval s = v) (hown : w.ownsRow base e size v n xs)
  {α : Type} {enc : α → List Value} (he : ∀ y, (enc y).length = size) (h1 : ∀ y, ∀ u ∈ enc y, u.oneCell' = true) (B : Nat) (vx : Value) (ys : List α) (hrow : Row B size enc w vx ys) (hx : a.eval x = vx)
  (h63 : n + ys.length ≤ maxLen) (hbytes : (n + ys.length) * bytes ≤ 140737488355328) (hbase : base ≤ w.heap.size)
  (h : ∀ v' w', w'.ownsRow base e size v' (n + ys.length) (xs ++ ys.flatMap enc) → w.grownBy w' v.ownBlock → K (a.put o.dst v') w') :
  o.wp P a w K Q := by
 have hone : ∀ u ∈ ys.flatMap enc, u.oneCell' = true := by
  intro u hu
  obtain ⟨y, _, hy⟩ := List.mem_flatMap.1 hu
  exact h1 y u hy
 rcases Nat.eq_zero_or_pos ys.length with h0 | h0
 ·have hy : ys = [] := List.length_eq_zero_iff.1 h0
  subst hy
  obtain ⟨s0, cap, rfl, hl, hc, _⟩ := hrow
  cases s0 with
  | none =>
   have hrun := run_append_none (P := P) (w := w) base t o.type e i size ht hi v n cap xs hown
   unfold Oper.wp
   simp [execOp, ho, resolve, invoke, builtin, hs, hx, hrun, Result.andThen]
   exact h v w (by simpa using hown) (grown_refl _ _)
  | some ad =>
   refine wp_append_own w s x t ho base e i z size bytes ht hi hz hsize hby hzs hsz v n xs hs hown ad 0 cap [] (by simpa using hx) (by simp) (fun j u hj => by simp at hj) (fun u hu => by simp at hu) (by simpa using h63) (by simpa using hbytes) hbase (fun v' w' h2 h3 _ => h v' w' (by simpa using h2) h3)
 ·obtain ⟨b, o', cap, rfl, hb, hc⟩ := row_flat he hsz hrow h0
  refine wp_append_own w s x t ho base e i z size bytes ht hi hz hsize hby hzs hsz v n xs hs hown ⟨b, o', none⟩ ys.length cap (ys.flatMap enc) hx (flat_len he ys) (fun j u hj => ?_) hone h63 hbytes hbase (fun v' w' h2 h3 _ => h v' w' h2 h3)
  rw [show (⟨b, o', none⟩ : Addr).add j = ⟨b, o' + j, none⟩ by unfold Addr.add; split <;> simp_all]
  exact hc j u hj
set_option maxHeartbeats 8000000 in
set_option maxRecDepth 100000 in
theorem lruns_any (l : List Rn) (v : Value) (w : World) (hl : RunsAt w.heap.size w v l) (hbt : l.length * 40 ≤ 140737488355328) (hct : ∀ r ∈ l, r.cells.length * 16 ≤ 140737488355328) : Calls Tryz.prog 27 #[v] w fun e w' => ∃ v', e = .returned v' ∧ RunRows w.heap.size w' v' l ∧ Below w.heap.size w w' := by
 obtain ⟨iN, ni0, nz0, nz1, nz2⟩ := info_parts infoRn
 obtain ⟨iM, hi0, hm0, hm1, hm2⟩ := info_parts infoCe
 obtain ⟨s0, cap, rfl, hmax⟩ := hl.shape
 have hop := fun h0 => hl.open_ h0
 obtain ⟨n, en⟩ : ∃ n, l.length = n := ⟨_, rfl⟩
 rw [en] at hop hmax hbt ⊢
 unfold maxLen at hmax
 clear hl
 replace hop := Lib.hid hop
 replace en := Lib.hid en
 replace hct := Lib.hid hct
 go_enter Tryz.func27, Tryz.ntmps27
 go_upto_region 3 with fail
 go_loopw [3, 4] (fun mv iv wr => ∃ i : Nat, i ≤ n ∧ iv = .int .i64 i ∧ Hid (RunRows w.heap.size wr mv (l.take i)) ∧ Hid (Below w.heap.size w wr)) (fun _ iv _ => n - (intOf iv).toNat)
 case atStart => exact ⟨0, Nat.zero_le _, rfl, Lib.hid (RunRows.nil _ _), Lib.hid (Below.refl _ _)⟩
 case round =>
  obtain ⟨i, hi, rfl, hro, hb⟩ := hrel
  obtain ⟨W, rfl⟩ : ∃ W, W = wr := ⟨_, rfl⟩
  have zb := hb.out.size
  obtain ⟨sv, cv, hsv⟩ : ∃ sv cv, u3 = .slice sv (l.take i).length cv := by
   obtain ⟨vs, _, hr, _⟩ := hro.out
   exact own_slice hr
  have hti : (l.take i).length = i := by rw [List.length_take, en.out]; omega
  rw [hti] at hsv
  subst hsv
  by_cases hin : i < n
  ·have hii : (i : Int) < n := by omega
   obtain ⟨g, o, c1, ea, hg, _, _, hel⟩ := hop.out (by omega)
   simp only [Value.slice.injEq] at ea
   obtain ⟨rfl, _, rfl⟩ := ea
   obtain ⟨r, hr⟩ := get_at en.out hin
   obtain ⟨s, k, q0, q1, q2, hrow⟩ := hel i r hr
   have hcr := hct.out r (List.mem_of_getElem? hr)
   have htk : l.take (i + 1) = l.take i ++ [r] := by rw [List.take_add_one, hr]; rfl
   obtain ⟨x, y, rc, rfl⟩ : ∃ x y c, r = ⟨x, y, c⟩ := ⟨_, _, _, rfl⟩
   dsimp only at q0 q1 q2 hrow hcr
   obtain ⟨m, hm⟩ : ∃ m, rc.length = m := ⟨_, rfl⟩
   rw [hm] at q2 hrow hcr
   obtain ⟨vs, hvl, hrun4, hj, hdd⟩ := hro.out
   have hlo := own_block_lt hrun4
   rw [hti] at hrun4
   replace hlo := Lib.hid hlo
   replace hvl := Lib.hid hvl
   replace hj := Lib.hid hj
   replace hdd := Lib.hid hdd
   replace hrun4 := Lib.hid hrun4
   have p0 := (hb.out.cell (p := ⟨g, o + i * 3, none⟩) hg).trans q0
   have p1 := (hb.out.cell (p := ⟨g, o + i * 3 + 1, none⟩) hg).trans q1
   have p2 := (hb.out.cell (p := ⟨g, o + i * 3 + 2, none⟩) hg).trans q2
   have yg : g < W.heap.size := by omega
   clear q0 q1 q2 hr hel
   replace hm := Lib.hid hm
   replace hrow := Lib.hid hrow
   replace htk := Lib.hid htk
   replace hti := Lib.hid hti
   go_upto_region 6 with fail
   refine held_begin (Below w.heap.size W) (by kernel_rfl) (Below.drew (Below.refl _ _)) (fun hS => ?_)
   have hb0 : Below W.heap.size W W.drew := Below.drew (Below.refl _ _)
   generalize W.drew = u0 at hS hb0 ⊢
   have z0 := hb0.size
   (refine' held_do (i := 0) _ (by kernel_rfl) (by kernel_rfl) (by kernel_rfl) _ _ hS _ _; rotate_left 2; (focus exact geti); (focus exact fun _ _ _ h => h); (focus rfl); (focus (intro w1 hSS R hR; obtain ⟨hco, hfo⟩ := bcellB hSS; go_simp; (try go_bits); exact hR)); simp only [pu])
   (refine' held_do (i := 1) _ (by kernel_rfl) (by kernel_rfl) (by kernel_rfl) _ _ hS _ _; rotate_left 2; (focus exact geti); (focus exact fun _ _ _ h => h); (focus rfl); (focus (intro w1 hSS R hR; obtain ⟨hco, hfo⟩ := bcellB hSS; go_simp; (try go_bits); exact hR)); simp only [pu])
   (refine' held_do (i := 2) _ (by kernel_rfl) (by kernel_rfl) (by kernel_rfl) _ _ hS _ _; rotate_left 2; (focus exact geti); (focus exact fun _ _ _ h => h); (focus rfl); (focus (intro w1 hSS R hR; obtain ⟨hco, hfo⟩ := bcellB hSS; go_simp; (try go_bits); exact hR)); simp only [pu])
   (refine' held_do (i := 3) _ (by kernel_rfl) (by kernel_rfl) (by kernel_rfl) _ _ hS _ _; rotate_left 2; (focus exact geti); (focus exact fun _ _ _ h => h); (focus rfl); (focus (intro w1 hSS R hR; obtain ⟨hco, hfo⟩ := bcellB hSS; go_simp; (try go_bits); exact hR)); simp only [pu])
   (refine' held_do (i := 4) _ (by kernel_rfl) (by kernel_rfl) (by kernel_rfl) _ _ hS _ _; rotate_left 2; (focus exact geti); (focus exact fun _ _ _ h => h); (focus rfl); (focus (intro w1 hSS R hR; obtain ⟨hco, hfo⟩ := bcellB hSS; go_simp; (try go_bits); exact hR)); simp only [pu])
   (refine' held_do (i := 5) _ (by kernel_rfl) (by kernel_rfl) (by kernel_rfl) _ _ hS _ _; rotate_left 2; (focus exact geti); (focus exact fun _ _ _ h => h); (focus rfl); (focus (intro w1 hSS R hR; obtain ⟨hco, hfo⟩ := bcellB hSS; go_simp; (try go_bits); exact hR)); simp only [pu])
   (refine' held_do (i := 6) _ (by kernel_rfl) (by kernel_rfl) (by kernel_rfl) _ _ hS _ _; rotate_left 2; (focus exact geti); (focus exact fun _ _ _ h => h); (focus rfl); (focus (intro w1 hSS R hR; obtain ⟨hco, hfo⟩ := bcellB hSS; go_simp; (try go_bits); exact hR)); simp only [pu])
   (refine' held_do (i := 7) _ (by kernel_rfl) (by kernel_rfl) (by kernel_rfl) _ _ hS _ _; rotate_left 2; (focus exact geti); (focus exact fun _ _ _ h => h); (focus rfl); (focus (intro w1 hSS R hR; obtain ⟨hco, hfo⟩ := bcellB hSS; go_simp; (try go_bits); exact hR)); simp only [pu])
   (refine' held_do (i := 8) _ (by kernel_rfl) (by kernel_rfl) (by kernel_rfl) _ _ hS _ _; rotate_left 2; (focus exact geti); (focus exact fun _ _ _ h => h); (focus rfl); (focus (intro w1 hSS R hR; obtain ⟨hco, hfo⟩ := bcellB hSS; go_simp; (try go_bits); exact hR)); simp only [pu])
   (refine' held_do (i := 9) _ (by kernel_rfl) (by kernel_rfl) (by kernel_rfl) _ _ hS _ _; rotate_left 2; (focus exact geti); (focus exact fun _ _ _ h => h); (focus rfl); (focus (intro w1 hSS R hR; obtain ⟨hco, hfo⟩ := bcellB hSS; go_simp; (try go_bits); exact hR)); simp only [pu])
   (refine' held_do (i := 10) _ (by kernel_rfl) (by kernel_rfl) (by kernel_rfl) _ _ hS _ _; rotate_left 2; (focus exact geti); (focus exact fun _ _ _ h => h); (focus rfl); (focus (intro w1 hSS R hR; obtain ⟨hco, hfo⟩ := bcellB hSS; go_simp; (try go_bits); exact hR)); simp only [pu])
   (refine' held_do (i := 11) _ (by kernel_rfl) (by kernel_rfl) (by kernel_rfl) _ _ hS _ _; rotate_left 2; (focus exact geti); (focus exact fun _ _ _ h => h); (focus rfl); (focus (intro w1 hSS R hR; obtain ⟨hco, hfo⟩ := bcellB hSS; go_simp; (try go_bits); exact hR)); simp only [pu])
   (refine' held_one (i := 12) _ (by kernel_rfl) _ _; rotate_left; (focus exact geti); (focus rfl); intro K hK)
   refine wp_append_row _ _ _ rfl u0.heap.size 52 iM _ 11 16 Tryz.underlying24 hi0 hm0 hm1 hm2 rfl (by omega) u0 _ 0 [] (by rfl) (World.ownsRow_nil _ _ _ _) Ce.enc_len Ce.enc_one w.heap.size _ rc (hrow.out.below (hb.out.trans (hb0.mono zb))) (by rfl) (by have := hm.out; unfold maxLen; omega) (by have := hm.out; omega) (Nat.le_refl _) ?_
   intro vc w5 hown5 hgr5
   rw [Nat.zero_add, List.nil_append] at hown5
   have hc5 : OwnsC u0.heap.size w5 vc rc := hown5
   have hb5 : Below u0.heap.size u0 w5 := (Below.refl _ _).grown hgr5 (Nat.le_refl _) (fun g hg => by simp [Value.ownBlock] at hg)
   have hb05 := hb0.trans (hb5.mono z0)
   have z5 := hb05.size
   obtain ⟨sc, cc, rfl⟩ := own_slice hc5
   have hS5 : Below w.heap.size W w5 := hb05.mono zb
   clear hS
   have hS := hS5
   refine hK _ _ hS ?_
   clear hK
   (try simp only [pu])
   (refine' held_do (i := 13) _ (by kernel_rfl) (by kernel_rfl) (by kernel_rfl) _ _ hS _ _; rotate_left 2; (focus exact geti); (focus exact fun _ _ _ h => h); (focus rfl); (focus (intro w1 hSS R hR; obtain ⟨hco, hfo⟩ := bcellB hSS; go_simp; (try go_bits); exact hR)); simp only [pu])
   (refine' held_one (i := 14) _ (by kernel_rfl) _ _; rotate_left; (focus exact geti); (focus rfl); intro K hK; go_simp)
   obtain ⟨v1, hv⟩ : ∃ v, w5.alloc (.cells #[.int .i64 x, .int .i64 y, .slice sc rc.length cc] 67) = v := ⟨_, rfl⟩
   have BN := Blk.new_eq hv
   have hb1 : Below W.heap.size W v1 := by rw [← hv]; exact hb05.alloc z5 _
   have hc1 : OwnsC u0.heap.size v1 (.slice sc rc.length cc) rc := by rw [← hv]; exact hc5.alloc _
   rw [hv]
   have hT : Below w.heap.size W v1 := hb1.mono zb
   have hrun2 := ownsRow_below hrun4.out hb1 (Nat.le_refl _)
   clear hv
   have z1 := hb1.size
   refine hK _ _ hT ?_
   clear hK hS
   (try simp only [pu])
   (refine' held_one (i := 15) _ (by kernel_rfl) _ _; rotate_left; (focus exact geti); (focus rfl); intro K hK)
   refine wp_append_blk _ _ _ rfl w.heap.size 67 iN _ 3 40 Tryz.underlying59 ni0 nz0 nz1 nz2 rfl (by omega) v1 1 _ _ _ _ i _ (by rfl) hrun2 BN (by rfl) rfl (by intro u hu; simp only [List.mem_cons, List.not_mem_nil, or_false] at hu; rcases hu with rfl | rfl | rfl <;> rfl) (by omega) (by unfold maxLen; omega) (by omega) ?_
   intro v6 w6 hown6 hgr6 _ hlw6
   have hS : Below w.heap.size W w6 := hT.trans hlw6
   refine hK _ _ hS ?_
   clear hK
   (try simp only [pu])
   (refine' held_one (i := 16) _ (by kernel_rfl) _ _; rotate_left; (focus exact geti); (focus rfl); intro K hK; go_simp)
   refine hK _ _ hS ?_
   clear hK
   (try simp only [pu])
   refine wpAnyH_done (by kernel_rfl) ?_ _
   have hti' := hti.out
   have R6 : RunRows w.heap.size w6 v6 (l.take i ++ [⟨x, y, rc⟩]) :=
    RunRows.snoc (vs := vs) (W := v1) (u := .slice sc rc.length cc) hvl.out (fun j u r h1 h2 => (hj.out j u r h1 h2).below hb1 (Nat.le_refl _)) hdd.out (by rw [hti']; exact hrun2) (own_low hc1 (by omega)) (fun i' u' h1 g' hg' hg2 => by
     obtain ⟨ri, hri⟩ : ∃ r, (l.take i)[i']? = some r := ⟨_, List.getElem?_eq_getElem (by rw [← hvl.out]; exact (List.getElem?_eq_some_iff.1 h1).1)⟩
     have g1 := (own_block_lt (hj.out i' u' ri h1 hri) g' hg').2
     have g2 := (own_block_lt hc1 g' hg2).1
     omega) (by rw [hti']; exact hown6) hgr6
   rw [← htk.out] at R6
   have hb7 := Lib.hid (hb.out.trans hS)
   clear hlw6 hown6 hgr6 hrun2 BN
   replace R6 := Lib.hid R6
   go_wp2
   go_roundw
   case rel => exact ⟨i + 1, by omega, by go_num, R6, hb7⟩
   case measure => simp [intOf]; omega
  ·obtain rfl : n = i := by omega
   have hii : ¬ (n : Int) < n := by omega
   have hR := hro.out
   rw [List.take_of_length_le (by rw [en.out]; exact Nat.le_refl _)] at hR
   go_wp2
   go_ret
   exact ⟨_, rfl, hR, hb.out⟩
end Go.Proofs.YtffmomgmkpmpkaaGreatDoor

namespace Go.Proofs.YtffmomgmkpmpkaaGreatDoor
open Go.RowKit
set_option linter.unusedVariables false
attribute [local go_sem] vwp vUpon_value vUpon_skip vUpon_enter vUpon_row
set_option linter.unusedSimpArgs false
set_option linter.unusedVariables false
theorem KeptBut.grow {X : Nat → Prop} {A B C : World} {ob : Option Nat} (h : KeptBut X A B) (hg : B.grownBy C ob) (hx : ∀ g, ob = some g → X g) : KeptBut X A C :=
  h.trans ⟨hg.os, hg.tape, hg.output, hg.size, fun k hk hn => hg.block k hk (fun e => hn (hx k e.symm))⟩
theorem own_kept3 {w w' : World} {base sz n : Nat} {e : TypeId} {v : Value} {xs : List Value} {X : Nat → Prop} (h : w.ownsRow base e sz v n xs) (hk : KeptBut X w w') (hx : ∀ g, v.ownBlock = some g → ¬ X g) : w'.ownsRow base e sz v n xs := by
  refine ⟨h.1, ?_⟩
  rcases h.2 with ⟨a, b⟩ | ⟨g, cap, cur, rfl, hb, hg, r⟩
  · exact .inl ⟨a, b⟩
  · exact .inr ⟨g, cap, cur, rfl, hb, (hk.same g (Array.getElem?_eq_some_iff.1 hg).1 (hx g rfl)).trans hg, r⟩
/-- A row of runs whose blocks were made before w0 ended. -/
theorem RunRows.but {base : Nat} {w0 w w' : World} {v : Value} {l : List Rn} {X : Nat → Prop} (h : RunRows base w0 v l) (hb : Below w0.heap.size w0 w) (hk : KeptBut X w w') (hx : ∀ k, base ≤ k → k < w0.heap.size → ¬ X k) : RunRows base w' v l := by
  obtain ⟨vs, hl, hr, hj, hd⟩ := h
  have r := own_block_lt hr
  refine ⟨vs, hl, own_kept3 (ownsRow_below hr hb (Nat.le_refl _)) hk (fun g hg => hx g (r g hg).1 (r g hg).2), fun j u r' h1 h2 => ?_, hd⟩
  have r := own_block_lt (hj j u r' h1 h2)
  exact own_kept3 ((hj j u r' h1 h2).below hb (Nat.le_refl _)) hk (fun g hg => hx g (r g hg).1 (r g hg).2)
theorem runAt_len (ls ms : List Ce) (P N y : Nat) : ∀ f x, ∀ r ∈ runAt ls ms P N y f x, r.cells.length ≤ ms.length
  | 0, _, r, h => by cases h
  | f + 1, x, r, h => by
    rw [runAt] at h
    split at h
    · rcases List.mem_append.1 h with h | h
      · unfold runOne at h
        split at h
        · rw [List.mem_singleton.1 h]
          show ((ms.drop (P + x)).take _).length ≤ ms.length
          rw [List.length_take, List.length_drop]
          omega
        · cases h
      · exact runAt_len ls ms P N y f _ r h
    · cases h
theorem runsGo_len (ls ms : List Ce) (N : Nat) : ∀ n y, ∀ r ∈ runsGo ls ms N n y, r.cells.length ≤ ms.length
  | 0, _, r, h => by cases h
  | n + 1, y, r, h => by
    rw [runsGo] at h
    rcases List.mem_append.1 h with h | h
    · exact runAt_len _ _ _ _ _ _ _ r h
    · exact runsGo_len ls ms N n _ r h
theorem runsL_len {wa ha wb hb : Int} {xs ys : List Ce} : ∀ r ∈ runsL wa ha xs wb hb ys, r.cells.length ≤ ys.length := by
  intro r h
  unfold runsL at h
  split at h
  · exact runsGo_len _ _ _ _ _ r h
  · cases h
theorem putC_len {wd ht : Int} {cs : List Ce} {l : List Rn} : (putC wd ht cs l).length ≤ cs.length := by
  unfold putC
  split
  · rename_i h
    unfold putE at h
    split at h
    · rename_i h0
      obtain ⟨hfit, hlen, _⟩ := chkS_zero h0
      split at h
      · cases h
      · split at h
        · rename_i h1
          rw [putGo_len hfit l cs hlen (fun r hr => List.all_eq_true.1 h1 r hr)]
          exact Nat.le_refl _
        · cases h
    · exact absurd h (by decide)
  · exact Nat.zero_le _
end Go.Proofs.YtffmomgmkpmpkaaGreatDoor
