/-
  Where a stroke shows, within a rectangle: list.places.
-/
import Derived.Test.YtkmofpnefjgnkaaLisFl
namespace Go.Proofs.Ytkmofpnefjgnkaa
open Go.RowKit
set_option linter.unusedVariables false
attribute [local go_sem] vwp vUpon_value vUpon_skip vUpon_enter vUpon_row
set_option linter.unusedSimpArgs false
set_option linter.unusedVariables false
def sidesR (p : Re) : List Re := [⟨p.x, p.y, p.wd, 1⟩, ⟨p.x, p.y, 1, p.ht⟩, ⟨p.x + (p.wd - 1), p.y, 1, p.ht⟩, ⟨p.x, p.y + (p.ht - 1), p.wd, 1⟩]
def meets (l : List Re) (q : Re) : List Re := (l.map fun p => meetR p q).filter fun m => !m.eqb Re.none
def plcL (s : St) (q : Re) : List Re := if q.eqb Re.none || !drB s then [] else if s.kind = 3 then (if s.text.toList = [] then [] else [q]) else if s.col.a = 0 then [] else if s.kind = 1 then [q] else meets (sidesR s.rect) q
def TwoBox (w0 : World) (q1 q2 : Re) (v1 v2 : Value) (wx : World) : Prop := ∃ b1 b2, v1 = .pointer (some ⟨b1, 0, none⟩) ∧ v2 = .pointer (some ⟨b2, 0, none⟩) ∧ b1 ≠ b2 ∧ w0.heap.size ≤ b1 ∧ w0.heap.size ≤ b2 ∧ b1 < wx.heap.size ∧ b2 < wx.heap.size ∧ RBox wx b1 q1 ∧ RBox wx b2 q2 ∧ Below w0.heap.size w0 wx
theorem meets_le (l : List Re) (q : Re) : (meets l q).length ≤ l.length := by
  unfold meets
  have := List.length_filter_le (fun m : Re => !m.eqb Re.none) (l.map fun p => meetR p q)
  simpa using this
theorem plc_le (s : St) (q : Re) : (plcL s q).length ≤ 4 := by
  unfold plcL
  split
  · simp
  · split
    · split <;> simp
    · split
      · simp
      · split
        · simp
        · exact meets_le _ _
theorem plc_may {s : St} {q : Re} (hq : mayR q = true) : ∀ m ∈ plcL s q, mayR m = true := by
  unfold plcL
  intro m hm
  split at hm
  · simp at hm
  · split at hm
    · split at hm
      · simp at hm
      · simp at hm; subst hm; exact hq
    · split at hm
      · simp at hm
      · split at hm
        · simp at hm; subst hm; exact hq
        · unfold meets at hm
          obtain ⟨hm, _⟩ := List.mem_filter.1 hm
          obtain ⟨p, _, rfl⟩ := List.mem_map.1 hm
          exact meet_may _ _
theorem meets_snoc {l : List Re} {q p : Re} {k : Nat} (hp : l[k]? = some p) : meets (l.take (k + 1)) q = meets (l.take k) q ++ if (meetR p q).eqb Re.none then [] else [meetR p q] := by
  unfold meets
  rw [List.take_add_one, hp, List.map_append, List.filter_append]
  congr 1
  cases h : (meetR p q).eqb Re.none <;> simp [h]
theorem idx_side (a b c d : Re) (k : Nat) (p : Re) (hp : [a, b, c, d][k]? = some p) (w : World) : (Instr.index 83 (.agg #[.int .i64 (a).x, .int .i64 (a).y, .int .i64 (a).wd, .int .i64 (a).ht, .int .i64 (b).x, .int .i64 (b).y, .int .i64 (b).wd, .int .i64 (b).ht, .int .i64 (c).x, .int .i64 (c).y, .int .i64 (c).wd, .int .i64 (c).ht, .int .i64 (d).x, .int .i64 (d).y, .int .i64 (d).wd, .int .i64 (d).ht]) (.int .i64 k)).run Try.prog w = .ok (.agg #[.int .i64 (p).x, .int .i64 (p).y, .int .i64 (p).wd, .int .i64 (p).ht]) w := by
  have A := Try.underlying83
  have B := Try.underlying41
  have C := Try.sizeOf41 w
  rcases k with _ | _ | _ | _ | k
  · simp at hp; subst hp; simp [Instr.index, asIntOf, run_underlying A, part, isAgg, run_underlying B, C]
  · simp at hp; subst hp; simp [Instr.index, asIntOf, run_underlying A, part, isAgg, run_underlying B, C]
  · simp at hp; subst hp; simp [Instr.index, asIntOf, run_underlying A, part, isAgg, run_underlying B, C]
  · simp at hp; subst hp; simp [Instr.index, asIntOf, run_underlying A, part, isAgg, run_underlying B, C]
  · simp at hp
theorem ownR_one {base : Nat} {w : World} (q : Re) (h : base ≤ w.heap.size) : OwnsR base (w.alloc (.cells #[.int .i64 (q).x, .int .i64 (q).y, .int .i64 (q).wd, .int .i64 (q).ht] 41)) (.slice (some ⟨w.heap.size, 0, none⟩) 1 1) [q] :=
  Blk.ownsR (rs := [q]) (show Blk _ _ _ _ from Blk.new' (cs := [.int .i64 (q).x, .int .i64 (q).y, .int .i64 (q).wd, .int .i64 (q).ht]) rfl) rfl h (by unfold maxLen; omega)
attribute [local go_sem high] eql_rect neq_rect
theorem side_wf {r p : Re} (hm : mayR r = true) (hp : p ∈ sidesR r) : p.Wf := by
  have := may_bd hm
  unfold sidesR at hp
  simp only [List.mem_cons, List.not_mem_nil, or_false] at hp
  rcases hp with rfl | rfl | rfl | rfl <;> (unfold Re.Wf I64; simp only; omega)
set_option maxHeartbeats 2000000 in
set_option maxRecDepth 100000 in
theorem places_fr (kd x y wd ht cr cg cb ca : Int) (bk : Co) (tx : ByteArray) (nd : Int) (q : Re) (w : World)
    (D : Hid (∀ w, Calls Try.prog 43 #[.agg #[.int .u8 kd, .int .i64 x, .int .i64 y, .int .i64 wd, .int .i64 ht, .int .u8 cr, .int .u8 cg, .int .u8 cb, .int .u8 ca, .int .u8 bk.r, .int .u8 bk.g, .int .u8 bk.b, .int .u8 bk.a, .string tx, .int .i64 nd]] w fun e w' => e = .returned (.bool true) ∧ Below w.heap.size w w'))
    (hab : (ca == 0) = false) (h3b : (kd == 3) = false) (h1b : (kd == 1) = false) (h1 : eq4 q.x q.y q.wd q.ht 0 0 0 0 = false) (hm : mayR ⟨x, y, wd, ht⟩ = true) (hq : mayR q = true) :
    Calls Try.prog 46 #[.agg #[.int .u8 kd, .int .i64 x, .int .i64 y, .int .i64 wd, .int .i64 ht, .int .u8 cr, .int .u8 cg, .int .u8 cb, .int .u8 ca, .int .u8 bk.r, .int .u8 bk.g, .int .u8 bk.b, .int .u8 bk.a, .string tx, .int .i64 nd], .agg #[.int .i64 (q).x, .int .i64 (q).y, .int .i64 (q).wd, .int .i64 (q).ht]] w fun e w' => ∃ v, e = .returned v ∧ OwnsR w.heap.size w' v (meets (sidesR ⟨x, y, wd, ht⟩) q) ∧ Below w.heap.size w w' := by
  obtain ⟨iR, hr0, hr1, hr2, hr3⟩ := info_parts infoRe
  have hbd := may_bd hm
  simp only at hbd
  obtain ⟨bx0, bx1, by0, by1, bw0, bw1, bh0, bh1⟩ := hbd
  have hmh := Lib.hid hm
  clear hm
  go_enter Try.func46, Try.ntmps46
  go_upto_region 11 with (first | (go_at_call 43; (with_reducible refine (D.out _).mono ?_); rintro e w4 ⟨rfl, hb4⟩; obtain ⟨hc4, hf4⟩ := bcell hb4; have z4 := hb4.size; (try simp at z4); have l0 : w.heap.size < w4.heap.size := (by omega); have l1 : w.heap.size + 1 < w4.heap.size := (by omega)) | go_in)
  refine wp_region_steady (Held w4 0 []) (by kernel_rfl) (by kernel_rfl) ⟨(by repeat (first | exact Below.refl _ _ | assumption | refine Below.drew ?_ | refine Below.alloc ?_ (by (try simp) <;> omega) _ | refine Below.setCell ?_ (by (try simp) <;> omega) _ | (refine Below.trans ?_ (Below.mono (by assumption) (by (try simp) <;> omega))))), (by (try simp) <;> omega), (by first | exact trivial | (simp only [Cells]; go_simp))⟩ ?_
  repeat (first | (refine' wpSteady_do _ _ _; rotate_left; (focus rfl); (focus (intro w1 hS R hR; have hc := hS.cells; simp only [Cells] at hc; obtain ⟨hco, hfo⟩ := bcell hS.old; go_simp; (try go_bits); first | exact hR _ hS | fail)); simp only [Act.put, List.setIfInBounds_toArray, List.set_cons_zero, List.set_cons_succ]) | (refine wpSteady_pass ?_ ?_; (focus rfl); simp only [Act.put, List.setIfInBounds_toArray, List.set_cons_zero, List.set_cons_succ]))
  refine wpSteady_nil (fun uA hSA => ?_)
  have hcA := hSA.cells; have hbA := hSA.old; have hzA := hSA.size; clear hSA; simp only [Cells] at hcA; obtain ⟨hcoA, hfoA⟩ := bcell hbA
  go_upto_region 12 with fail
  have y0 : w.heap.size < w4.heap.size := by omega
  have cX : uA.cell? ⟨w.heap.size, 1, none⟩ = some (.int .i64 x) := by go_simp
  have cY : uA.cell? ⟨w.heap.size, 2, none⟩ = some (.int .i64 y) := by go_simp
  have r0 : uA.cell? ⟨w.heap.size + 1, 0, none⟩ = some (.int .i64 q.x) := by go_simp
  have r1 : uA.cell? ⟨w.heap.size + 1, 1, none⟩ = some (.int .i64 q.y) := by go_simp
  have r2 : uA.cell? ⟨w.heap.size + 1, 2, none⟩ = some (.int .i64 q.wd) := by go_simp
  have r3 : uA.cell? ⟨w.heap.size + 1, 3, none⟩ = some (.int .i64 q.ht) := by go_simp
  have hbw : Below w.heap.size w uA := (by repeat (first | exact Below.refl _ _ | assumption | refine Below.drew ?_ | refine Below.alloc ?_ (by (try simp) <;> omega) _ | refine Below.setCell ?_ (by (try simp) <;> omega) _ | (refine Below.trans ?_ (Below.mono (by assumption) (by (try simp) <;> omega)))))
  have yA0 : w.heap.size < uA.heap.size := by omega
  have yA1 : w.heap.size + 1 < uA.heap.size := by omega
  clear hcA hcoA hfoA hbA hzA hc4 hf4 hb4 z4 l0 l1 D h1 hab h3b h1b y0
  go_cut [7, 8] (fun v7 v8 wx => TwoBox uA ⟨x, y, wd, 1⟩ ⟨x, y, 1, ht⟩ v7 v8 wx)
  case first =>
    refine held_begin (Held uA 0 []) (by kernel_rfl) ⟨Below.drew (Below.refl _ _), Nat.le_refl _, trivial⟩ (fun hS => ?_)
    (first | (refine' held_do (i := 0) _ (by kernel_rfl) (by kernel_rfl) (by kernel_rfl) _ _ hS _ _; rotate_left 2; (focus (simp only [List.getElem?_toArray, List.getElem?_cons_succ, List.getElem?_cons_zero]; rfl)); (focus exact fun _ _ _ h => h); (focus rfl); (focus (intro w1 hSS R hR; have hc := hSS.2.2; (try simp only [Cells] at hc); obtain ⟨hco, hfo⟩ := bcell hSS.1; go_simp; (try go_bits); exact hR)); simp only [Act.put, List.setIfInBounds_toArray, List.set_cons_zero, List.set_cons_succ]) | (refine' held_pass (i := 0) _ (by kernel_rfl) (by kernel_rfl) (by kernel_rfl) _ _ hS _; rotate_left; (focus (simp only [List.getElem?_toArray, List.getElem?_cons_succ, List.getElem?_cons_zero]; rfl)); (focus exact fun _ _ _ h => h); (focus rfl); simp only [Act.put, List.setIfInBounds_toArray, List.set_cons_zero, List.set_cons_succ]))
    (first | (refine' held_do (i := 1) _ (by kernel_rfl) (by kernel_rfl) (by kernel_rfl) _ _ hS _ _; rotate_left 2; (focus (simp only [List.getElem?_toArray, List.getElem?_cons_succ, List.getElem?_cons_zero]; rfl)); (focus exact fun _ _ _ h => h); (focus rfl); (focus (intro w1 hSS R hR; have hc := hSS.2.2; (try simp only [Cells] at hc); obtain ⟨hco, hfo⟩ := bcell hSS.1; go_simp; (try go_bits); exact hR)); simp only [Act.put, List.setIfInBounds_toArray, List.set_cons_zero, List.set_cons_succ]) | (refine' held_pass (i := 1) _ (by kernel_rfl) (by kernel_rfl) (by kernel_rfl) _ _ hS _; rotate_left; (focus (simp only [List.getElem?_toArray, List.getElem?_cons_succ, List.getElem?_cons_zero]; rfl)); (focus exact fun _ _ _ h => h); (focus rfl); simp only [Act.put, List.setIfInBounds_toArray, List.set_cons_zero, List.set_cons_succ]))
    (first | (refine' held_do (i := 2) _ (by kernel_rfl) (by kernel_rfl) (by kernel_rfl) _ _ hS _ _; rotate_left 2; (focus (simp only [List.getElem?_toArray, List.getElem?_cons_succ, List.getElem?_cons_zero]; rfl)); (focus exact fun _ _ _ h => h); (focus rfl); (focus (intro w1 hSS R hR; have hc := hSS.2.2; (try simp only [Cells] at hc); obtain ⟨hco, hfo⟩ := bcell hSS.1; go_simp; (try go_bits); exact hR)); simp only [Act.put, List.setIfInBounds_toArray, List.set_cons_zero, List.set_cons_succ]) | (refine' held_pass (i := 2) _ (by kernel_rfl) (by kernel_rfl) (by kernel_rfl) _ _ hS _; rotate_left; (focus (simp only [List.getElem?_toArray, List.getElem?_cons_succ, List.getElem?_cons_zero]; rfl)); (focus exact fun _ _ _ h => h); (focus rfl); simp only [Act.put, List.setIfInBounds_toArray, List.set_cons_zero, List.set_cons_succ]))
    (first | (refine' held_do (i := 3) _ (by kernel_rfl) (by kernel_rfl) (by kernel_rfl) _ _ hS _ _; rotate_left 2; (focus (simp only [List.getElem?_toArray, List.getElem?_cons_succ, List.getElem?_cons_zero]; rfl)); (focus exact fun _ _ _ h => h); (focus rfl); (focus (intro w1 hSS R hR; have hc := hSS.2.2; (try simp only [Cells] at hc); obtain ⟨hco, hfo⟩ := bcell hSS.1; go_simp; (try go_bits); exact hR)); simp only [Act.put, List.setIfInBounds_toArray, List.set_cons_zero, List.set_cons_succ]) | (refine' held_pass (i := 3) _ (by kernel_rfl) (by kernel_rfl) (by kernel_rfl) _ _ hS _; rotate_left; (focus (simp only [List.getElem?_toArray, List.getElem?_cons_succ, List.getElem?_cons_zero]; rfl)); (focus exact fun _ _ _ h => h); (focus rfl); simp only [Act.put, List.setIfInBounds_toArray, List.set_cons_zero, List.set_cons_succ]))
    (first | (refine' held_do (i := 4) _ (by kernel_rfl) (by kernel_rfl) (by kernel_rfl) _ _ hS _ _; rotate_left 2; (focus (simp only [List.getElem?_toArray, List.getElem?_cons_succ, List.getElem?_cons_zero]; rfl)); (focus exact fun _ _ _ h => h); (focus rfl); (focus (intro w1 hSS R hR; have hc := hSS.2.2; (try simp only [Cells] at hc); obtain ⟨hco, hfo⟩ := bcell hSS.1; go_simp; (try go_bits); exact hR)); simp only [Act.put, List.setIfInBounds_toArray, List.set_cons_zero, List.set_cons_succ]) | (refine' held_pass (i := 4) _ (by kernel_rfl) (by kernel_rfl) (by kernel_rfl) _ _ hS _; rotate_left; (focus (simp only [List.getElem?_toArray, List.getElem?_cons_succ, List.getElem?_cons_zero]; rfl)); (focus exact fun _ _ _ h => h); (focus rfl); simp only [Act.put, List.setIfInBounds_toArray, List.set_cons_zero, List.set_cons_succ]))
    (first | (refine' held_do (i := 5) _ (by kernel_rfl) (by kernel_rfl) (by kernel_rfl) _ _ hS _ _; rotate_left 2; (focus (simp only [List.getElem?_toArray, List.getElem?_cons_succ, List.getElem?_cons_zero]; rfl)); (focus exact fun _ _ _ h => h); (focus rfl); (focus (intro w1 hSS R hR; have hc := hSS.2.2; (try simp only [Cells] at hc); obtain ⟨hco, hfo⟩ := bcell hSS.1; go_simp; (try go_bits); exact hR)); simp only [Act.put, List.setIfInBounds_toArray, List.set_cons_zero, List.set_cons_succ]) | (refine' held_pass (i := 5) _ (by kernel_rfl) (by kernel_rfl) (by kernel_rfl) _ _ hS _; rotate_left; (focus (simp only [List.getElem?_toArray, List.getElem?_cons_succ, List.getElem?_cons_zero]; rfl)); (focus exact fun _ _ _ h => h); (focus rfl); simp only [Act.put, List.setIfInBounds_toArray, List.set_cons_zero, List.set_cons_succ]))
    (first | (refine' held_do (i := 6) _ (by kernel_rfl) (by kernel_rfl) (by kernel_rfl) _ _ hS _ _; rotate_left 2; (focus (simp only [List.getElem?_toArray, List.getElem?_cons_succ, List.getElem?_cons_zero]; rfl)); (focus exact fun _ _ _ h => h); (focus rfl); (focus (intro w1 hSS R hR; have hc := hSS.2.2; (try simp only [Cells] at hc); obtain ⟨hco, hfo⟩ := bcell hSS.1; go_simp; (try go_bits); exact hR)); simp only [Act.put, List.setIfInBounds_toArray, List.set_cons_zero, List.set_cons_succ]) | (refine' held_pass (i := 6) _ (by kernel_rfl) (by kernel_rfl) (by kernel_rfl) _ _ hS _; rotate_left; (focus (simp only [List.getElem?_toArray, List.getElem?_cons_succ, List.getElem?_cons_zero]; rfl)); (focus exact fun _ _ _ h => h); (focus rfl); simp only [Act.put, List.setIfInBounds_toArray, List.set_cons_zero, List.set_cons_succ]))
    (first | (refine' held_do (i := 7) _ (by kernel_rfl) (by kernel_rfl) (by kernel_rfl) _ _ hS _ _; rotate_left 2; (focus (simp only [List.getElem?_toArray, List.getElem?_cons_succ, List.getElem?_cons_zero]; rfl)); (focus exact fun _ _ _ h => h); (focus rfl); (focus (intro w1 hSS R hR; have hc := hSS.2.2; (try simp only [Cells] at hc); obtain ⟨hco, hfo⟩ := bcell hSS.1; go_simp; (try go_bits); exact hR)); simp only [Act.put, List.setIfInBounds_toArray, List.set_cons_zero, List.set_cons_succ]) | (refine' held_pass (i := 7) _ (by kernel_rfl) (by kernel_rfl) (by kernel_rfl) _ _ hS _; rotate_left; (focus (simp only [List.getElem?_toArray, List.getElem?_cons_succ, List.getElem?_cons_zero]; rfl)); (focus exact fun _ _ _ h => h); (focus rfl); simp only [Act.put, List.setIfInBounds_toArray, List.set_cons_zero, List.set_cons_succ]))
    (first | (refine' held_do (i := 8) _ (by kernel_rfl) (by kernel_rfl) (by kernel_rfl) _ _ hS _ _; rotate_left 2; (focus (simp only [List.getElem?_toArray, List.getElem?_cons_succ, List.getElem?_cons_zero]; rfl)); (focus exact fun _ _ _ h => h); (focus rfl); (focus (intro w1 hSS R hR; have hc := hSS.2.2; (try simp only [Cells] at hc); obtain ⟨hco, hfo⟩ := bcell hSS.1; go_simp; (try go_bits); exact hR)); simp only [Act.put, List.setIfInBounds_toArray, List.set_cons_zero, List.set_cons_succ]) | (refine' held_pass (i := 8) _ (by kernel_rfl) (by kernel_rfl) (by kernel_rfl) _ _ hS _; rotate_left; (focus (simp only [List.getElem?_toArray, List.getElem?_cons_succ, List.getElem?_cons_zero]; rfl)); (focus exact fun _ _ _ h => h); (focus rfl); simp only [Act.put, List.setIfInBounds_toArray, List.set_cons_zero, List.set_cons_succ]))
    (first | (refine' held_do (i := 9) _ (by kernel_rfl) (by kernel_rfl) (by kernel_rfl) _ _ hS _ _; rotate_left 2; (focus (simp only [List.getElem?_toArray, List.getElem?_cons_succ, List.getElem?_cons_zero]; rfl)); (focus exact fun _ _ _ h => h); (focus rfl); (focus (intro w1 hSS R hR; have hc := hSS.2.2; (try simp only [Cells] at hc); obtain ⟨hco, hfo⟩ := bcell hSS.1; go_simp; (try go_bits); exact hR)); simp only [Act.put, List.setIfInBounds_toArray, List.set_cons_zero, List.set_cons_succ]) | (refine' held_pass (i := 9) _ (by kernel_rfl) (by kernel_rfl) (by kernel_rfl) _ _ hS _; rotate_left; (focus (simp only [List.getElem?_toArray, List.getElem?_cons_succ, List.getElem?_cons_zero]; rfl)); (focus exact fun _ _ _ h => h); (focus rfl); simp only [Act.put, List.setIfInBounds_toArray, List.set_cons_zero, List.set_cons_succ]))
    (first | (refine' held_do (i := 10) _ (by kernel_rfl) (by kernel_rfl) (by kernel_rfl) _ _ hS _ _; rotate_left 2; (focus (simp only [List.getElem?_toArray, List.getElem?_cons_succ, List.getElem?_cons_zero]; rfl)); (focus exact fun _ _ _ h => h); (focus rfl); (focus (intro w1 hSS R hR; have hc := hSS.2.2; (try simp only [Cells] at hc); obtain ⟨hco, hfo⟩ := bcell hSS.1; go_simp; (try go_bits); exact hR)); simp only [Act.put, List.setIfInBounds_toArray, List.set_cons_zero, List.set_cons_succ]) | (refine' held_pass (i := 10) _ (by kernel_rfl) (by kernel_rfl) (by kernel_rfl) _ _ hS _; rotate_left; (focus (simp only [List.getElem?_toArray, List.getElem?_cons_succ, List.getElem?_cons_zero]; rfl)); (focus exact fun _ _ _ h => h); (focus rfl); simp only [Act.put, List.setIfInBounds_toArray, List.set_cons_zero, List.set_cons_succ]))
    (first | (refine' held_do (i := 11) _ (by kernel_rfl) (by kernel_rfl) (by kernel_rfl) _ _ hS _ _; rotate_left 2; (focus (simp only [List.getElem?_toArray, List.getElem?_cons_succ, List.getElem?_cons_zero]; rfl)); (focus exact fun _ _ _ h => h); (focus rfl); (focus (intro w1 hSS R hR; have hc := hSS.2.2; (try simp only [Cells] at hc); obtain ⟨hco, hfo⟩ := bcell hSS.1; go_simp; (try go_bits); exact hR)); simp only [Act.put, List.setIfInBounds_toArray, List.set_cons_zero, List.set_cons_succ]) | (refine' held_pass (i := 11) _ (by kernel_rfl) (by kernel_rfl) (by kernel_rfl) _ _ hS _; rotate_left; (focus (simp only [List.getElem?_toArray, List.getElem?_cons_succ, List.getElem?_cons_zero]; rfl)); (focus exact fun _ _ _ h => h); (focus rfl); simp only [Act.put, List.setIfInBounds_toArray, List.set_cons_zero, List.set_cons_succ]))
    (refine' held_two (i := 12) (j := 13) rfl rfl (by kernel_rfl) _ _ _ _; (focus rfl); (focus rfl))
    · intro K hK
      go_simp
      refine hK _ _ ⟨(by repeat (first | exact Below.refl _ _ | assumption | refine Below.drew ?_ | refine Below.alloc ?_ (by (try simp) <;> omega) _ | refine Below.setCell ?_ (by (try simp) <;> omega) _ | (refine Below.trans ?_ (Below.mono (by assumption) (by (try simp) <;> omega))))), by (try simp) <;> omega, trivial⟩ ?_
      clear hK
      (try simp only [Act.put, List.setIfInBounds_toArray, List.set_cons_zero, List.set_cons_succ])
      (refine' held_one (i := 13) _ (by kernel_rfl) _ _; rotate_left; (focus (simp only [List.getElem?_toArray, List.getElem?_cons_succ, List.getElem?_cons_zero]; rfl)); (focus rfl); intro K hK; go_simp)
      refine hK _ _ ⟨(by repeat (first | exact Below.refl _ _ | assumption | refine Below.drew ?_ | refine Below.alloc ?_ (by (try simp) <;> omega) _ | refine Below.setCell ?_ (by (try simp) <;> omega) _ | (refine Below.trans ?_ (Below.mono (by assumption) (by (try simp) <;> omega))))), by (try simp) <;> omega, trivial⟩ ?_
      clear hK
      (try simp only [Act.put, List.setIfInBounds_toArray, List.set_cons_zero, List.set_cons_succ])
      (refine' held_one (i := 14) _ (by kernel_rfl) _ _; rotate_left; (focus (simp only [List.getElem?_toArray, List.getElem?_cons_succ, List.getElem?_cons_zero]; rfl)); (focus rfl); intro K hK; go_simp)
      refine hK _ _ ⟨(by repeat (first | exact Below.refl _ _ | assumption | refine Below.drew ?_ | refine Below.alloc ?_ (by (try simp) <;> omega) _ | refine Below.setCell ?_ (by (try simp) <;> omega) _ | (refine Below.trans ?_ (Below.mono (by assumption) (by (try simp) <;> omega))))), by (try simp) <;> omega, trivial⟩ ?_
      clear hK
      (try simp only [Act.put, List.setIfInBounds_toArray, List.set_cons_zero, List.set_cons_succ])
      (refine' held_one (i := 15) _ (by kernel_rfl) _ _; rotate_left; (focus (simp only [List.getElem?_toArray, List.getElem?_cons_succ, List.getElem?_cons_zero]; rfl)); (focus rfl); intro K hK; go_simp)
      refine hK _ _ ⟨(by repeat (first | exact Below.refl _ _ | assumption | refine Below.drew ?_ | refine Below.alloc ?_ (by (try simp) <;> omega) _ | refine Below.setCell ?_ (by (try simp) <;> omega) _ | (refine Below.trans ?_ (Below.mono (by assumption) (by (try simp) <;> omega))))), by (try simp) <;> omega, trivial⟩ ?_
      clear hK
      (try simp only [Act.put, List.setIfInBounds_toArray, List.set_cons_zero, List.set_cons_succ])
      refine wpAnyH_done (by kernel_rfl) ?_ _
      go_wp2
      go_meet
      case rel => exact ⟨_, _, rfl, rfl, by omega, by omega, by omega, by (try simp) <;> omega, by (try simp) <;> omega, ⟨⟨by go_simp, by go_simp, by go_simp, by go_simp⟩, ⟨by go_simp, by go_simp, by go_simp, by go_simp⟩⟩, ⟨⟨by go_simp, by go_simp, by go_simp, by go_simp⟩, ⟨by go_simp, by go_simp, by go_simp, by go_simp⟩⟩, (by repeat (first | exact Below.refl _ _ | assumption | refine Below.drew ?_ | refine Below.alloc ?_ (by (try simp) <;> omega) _ | refine Below.setCell ?_ (by (try simp) <;> omega) _ | (refine Below.trans ?_ (Below.mono (by assumption) (by (try simp) <;> omega)))))⟩
    · intro K hK
      go_simp
      refine hK _ _ ⟨(by repeat (first | exact Below.refl _ _ | assumption | refine Below.drew ?_ | refine Below.alloc ?_ (by (try simp) <;> omega) _ | refine Below.setCell ?_ (by (try simp) <;> omega) _ | (refine Below.trans ?_ (Below.mono (by assumption) (by (try simp) <;> omega))))), by (try simp) <;> omega, trivial⟩ ?_
      clear hK
      (try simp only [Act.put, List.setIfInBounds_toArray, List.set_cons_zero, List.set_cons_succ])
      (refine' held_one (i := 12) _ (by kernel_rfl) _ _; rotate_left; (focus (simp only [List.getElem?_toArray, List.getElem?_cons_succ, List.getElem?_cons_zero]; rfl)); (focus rfl); intro K hK; go_simp)
      refine hK _ _ ⟨(by repeat (first | exact Below.refl _ _ | assumption | refine Below.drew ?_ | refine Below.alloc ?_ (by (try simp) <;> omega) _ | refine Below.setCell ?_ (by (try simp) <;> omega) _ | (refine Below.trans ?_ (Below.mono (by assumption) (by (try simp) <;> omega))))), by (try simp) <;> omega, trivial⟩ ?_
      clear hK
      (try simp only [Act.put, List.setIfInBounds_toArray, List.set_cons_zero, List.set_cons_succ])
      (refine' held_one (i := 14) _ (by kernel_rfl) _ _; rotate_left; (focus (simp only [List.getElem?_toArray, List.getElem?_cons_succ, List.getElem?_cons_zero]; rfl)); (focus rfl); intro K hK; go_simp)
      refine hK _ _ ⟨(by repeat (first | exact Below.refl _ _ | assumption | refine Below.drew ?_ | refine Below.alloc ?_ (by (try simp) <;> omega) _ | refine Below.setCell ?_ (by (try simp) <;> omega) _ | (refine Below.trans ?_ (Below.mono (by assumption) (by (try simp) <;> omega))))), by (try simp) <;> omega, trivial⟩ ?_
      clear hK
      (try simp only [Act.put, List.setIfInBounds_toArray, List.set_cons_zero, List.set_cons_succ])
      (refine' held_one (i := 15) _ (by kernel_rfl) _ _; rotate_left; (focus (simp only [List.getElem?_toArray, List.getElem?_cons_succ, List.getElem?_cons_zero]; rfl)); (focus rfl); intro K hK; go_simp)
      refine hK _ _ ⟨(by repeat (first | exact Below.refl _ _ | assumption | refine Below.drew ?_ | refine Below.alloc ?_ (by (try simp) <;> omega) _ | refine Below.setCell ?_ (by (try simp) <;> omega) _ | (refine Below.trans ?_ (Below.mono (by assumption) (by (try simp) <;> omega))))), by (try simp) <;> omega, trivial⟩ ?_
      clear hK
      (try simp only [Act.put, List.setIfInBounds_toArray, List.set_cons_zero, List.set_cons_succ])
      refine wpAnyH_done (by kernel_rfl) ?_ _
      go_wp2
      go_meet
      case rel => exact ⟨_, _, rfl, rfl, by omega, by omega, by omega, by (try simp) <;> omega, by (try simp) <;> omega, ⟨⟨by go_simp, by go_simp, by go_simp, by go_simp⟩, ⟨by go_simp, by go_simp, by go_simp, by go_simp⟩⟩, ⟨⟨by go_simp, by go_simp, by go_simp, by go_simp⟩, ⟨by go_simp, by go_simp, by go_simp, by go_simp⟩⟩, (by repeat (first | exact Below.refl _ _ | assumption | refine Below.drew ?_ | refine Below.alloc ?_ (by (try simp) <;> omega) _ | refine Below.setCell ?_ (by (try simp) <;> omega) _ | (refine Below.trans ?_ (Below.mono (by assumption) (by (try simp) <;> omega)))))⟩
  case rest =>
    obtain ⟨b1, b2, rfl, rfl, hne, g1, g2, g3, g4, ⟨⟨a0, a1, a2, a3⟩, ⟨f0, f1, f2, f3⟩⟩, ⟨⟨e0, e1, e2, e3⟩, ⟨d0, d1, d2, d3⟩⟩, hbc⟩ := hcut
    simp only at a0 a1 a2 a3 e0 e1 e2 e3
    obtain ⟨wb, hwb⟩ : ∃ wb : World, wb = wc := ⟨_, rfl⟩
    subst hwb
    go_upto_region 13 with fail
    go_cut [9, 10] (fun v9 v10 wx => TwoBox wb ⟨x, y, 1, ht⟩ ⟨x, y, wd, 1⟩ v9 v10 wx)
    case first =>
      refine held_begin (Held wb 0 []) (by kernel_rfl) ⟨Below.drew (Below.refl _ _), Nat.le_refl _, trivial⟩ (fun hS => ?_)
      (first | (refine' held_do (i := 0) _ (by kernel_rfl) (by kernel_rfl) (by kernel_rfl) _ _ hS _ _; rotate_left 2; (focus (simp only [List.getElem?_toArray, List.getElem?_cons_succ, List.getElem?_cons_zero]; rfl)); (focus exact fun _ _ _ h => h); (focus rfl); (focus (intro w1 hSS R hR; have hc := hSS.2.2; (try simp only [Cells] at hc); obtain ⟨hco, hfo⟩ := bcell hSS.1; go_simp; (try go_bits); exact hR)); simp only [Act.put, List.setIfInBounds_toArray, List.set_cons_zero, List.set_cons_succ]) | (refine' held_pass (i := 0) _ (by kernel_rfl) (by kernel_rfl) (by kernel_rfl) _ _ hS _; rotate_left; (focus (simp only [List.getElem?_toArray, List.getElem?_cons_succ, List.getElem?_cons_zero]; rfl)); (focus exact fun _ _ _ h => h); (focus rfl); simp only [Act.put, List.setIfInBounds_toArray, List.set_cons_zero, List.set_cons_succ]))
      (first | (refine' held_do (i := 1) _ (by kernel_rfl) (by kernel_rfl) (by kernel_rfl) _ _ hS _ _; rotate_left 2; (focus (simp only [List.getElem?_toArray, List.getElem?_cons_succ, List.getElem?_cons_zero]; rfl)); (focus exact fun _ _ _ h => h); (focus rfl); (focus (intro w1 hSS R hR; have hc := hSS.2.2; (try simp only [Cells] at hc); obtain ⟨hco, hfo⟩ := bcell hSS.1; go_simp; (try go_bits); exact hR)); simp only [Act.put, List.setIfInBounds_toArray, List.set_cons_zero, List.set_cons_succ]) | (refine' held_pass (i := 1) _ (by kernel_rfl) (by kernel_rfl) (by kernel_rfl) _ _ hS _; rotate_left; (focus (simp only [List.getElem?_toArray, List.getElem?_cons_succ, List.getElem?_cons_zero]; rfl)); (focus exact fun _ _ _ h => h); (focus rfl); simp only [Act.put, List.setIfInBounds_toArray, List.set_cons_zero, List.set_cons_succ]))
      (refine' held_two (i := 2) (j := 3) rfl rfl (by kernel_rfl) _ _ _ _; (focus rfl); (focus rfl))
      · intro K hK
        go_simp
        refine hK _ _ ⟨(by repeat (first | exact Below.refl _ _ | assumption | refine Below.drew ?_ | refine Below.alloc ?_ (by (try simp) <;> omega) _ | refine Below.setCell ?_ (by (try simp) <;> omega) _ | (refine Below.trans ?_ (Below.mono (by assumption) (by (try simp) <;> omega))))), by (try simp) <;> omega, trivial⟩ ?_
        clear hK
        (try simp only [Act.put, List.setIfInBounds_toArray, List.set_cons_zero, List.set_cons_succ])
        (refine' held_one (i := 3) _ (by kernel_rfl) _ _; rotate_left; (focus (simp only [List.getElem?_toArray, List.getElem?_cons_succ, List.getElem?_cons_zero]; rfl)); (focus rfl); intro K hK; go_simp)
        refine hK _ _ ⟨(by repeat (first | exact Below.refl _ _ | assumption | refine Below.drew ?_ | refine Below.alloc ?_ (by (try simp) <;> omega) _ | refine Below.setCell ?_ (by (try simp) <;> omega) _ | (refine Below.trans ?_ (Below.mono (by assumption) (by (try simp) <;> omega))))), by (try simp) <;> omega, trivial⟩ ?_
        clear hK
        (try simp only [Act.put, List.setIfInBounds_toArray, List.set_cons_zero, List.set_cons_succ])
        (refine' held_one (i := 4) _ (by kernel_rfl) _ _; rotate_left; (focus (simp only [List.getElem?_toArray, List.getElem?_cons_succ, List.getElem?_cons_zero]; rfl)); (focus rfl); intro K hK; go_simp)
        refine hK _ _ ⟨(by repeat (first | exact Below.refl _ _ | assumption | refine Below.drew ?_ | refine Below.alloc ?_ (by (try simp) <;> omega) _ | refine Below.setCell ?_ (by (try simp) <;> omega) _ | (refine Below.trans ?_ (Below.mono (by assumption) (by (try simp) <;> omega))))), by (try simp) <;> omega, trivial⟩ ?_
        clear hK
        (try simp only [Act.put, List.setIfInBounds_toArray, List.set_cons_zero, List.set_cons_succ])
        (refine' held_one (i := 5) _ (by kernel_rfl) _ _; rotate_left; (focus (simp only [List.getElem?_toArray, List.getElem?_cons_succ, List.getElem?_cons_zero]; rfl)); (focus rfl); intro K hK; go_simp)
        refine hK _ _ ⟨(by repeat (first | exact Below.refl _ _ | assumption | refine Below.drew ?_ | refine Below.alloc ?_ (by (try simp) <;> omega) _ | refine Below.setCell ?_ (by (try simp) <;> omega) _ | (refine Below.trans ?_ (Below.mono (by assumption) (by (try simp) <;> omega))))), by (try simp) <;> omega, trivial⟩ ?_
        clear hK
        (try simp only [Act.put, List.setIfInBounds_toArray, List.set_cons_zero, List.set_cons_succ])
        refine wpAnyH_done (by kernel_rfl) ?_ _
        go_wp2
        go_meet
        case rel => exact ⟨_, _, rfl, rfl, by omega, by omega, by omega, by (try simp) <;> omega, by (try simp) <;> omega, ⟨⟨by go_simp, by go_simp, by go_simp, by go_simp⟩, ⟨by go_simp, by go_simp, by go_simp, by go_simp⟩⟩, ⟨⟨by go_simp, by go_simp, by go_simp, by go_simp⟩, ⟨by go_simp, by go_simp, by go_simp, by go_simp⟩⟩, (by repeat (first | exact Below.refl _ _ | assumption | refine Below.drew ?_ | refine Below.alloc ?_ (by (try simp) <;> omega) _ | refine Below.setCell ?_ (by (try simp) <;> omega) _ | (refine Below.trans ?_ (Below.mono (by assumption) (by (try simp) <;> omega)))))⟩
      · intro K hK
        go_simp
        refine hK _ _ ⟨(by repeat (first | exact Below.refl _ _ | assumption | refine Below.drew ?_ | refine Below.alloc ?_ (by (try simp) <;> omega) _ | refine Below.setCell ?_ (by (try simp) <;> omega) _ | (refine Below.trans ?_ (Below.mono (by assumption) (by (try simp) <;> omega))))), by (try simp) <;> omega, trivial⟩ ?_
        clear hK
        (try simp only [Act.put, List.setIfInBounds_toArray, List.set_cons_zero, List.set_cons_succ])
        (refine' held_one (i := 2) _ (by kernel_rfl) _ _; rotate_left; (focus (simp only [List.getElem?_toArray, List.getElem?_cons_succ, List.getElem?_cons_zero]; rfl)); (focus rfl); intro K hK; go_simp)
        refine hK _ _ ⟨(by repeat (first | exact Below.refl _ _ | assumption | refine Below.drew ?_ | refine Below.alloc ?_ (by (try simp) <;> omega) _ | refine Below.setCell ?_ (by (try simp) <;> omega) _ | (refine Below.trans ?_ (Below.mono (by assumption) (by (try simp) <;> omega))))), by (try simp) <;> omega, trivial⟩ ?_
        clear hK
        (try simp only [Act.put, List.setIfInBounds_toArray, List.set_cons_zero, List.set_cons_succ])
        (refine' held_one (i := 4) _ (by kernel_rfl) _ _; rotate_left; (focus (simp only [List.getElem?_toArray, List.getElem?_cons_succ, List.getElem?_cons_zero]; rfl)); (focus rfl); intro K hK; go_simp)
        refine hK _ _ ⟨(by repeat (first | exact Below.refl _ _ | assumption | refine Below.drew ?_ | refine Below.alloc ?_ (by (try simp) <;> omega) _ | refine Below.setCell ?_ (by (try simp) <;> omega) _ | (refine Below.trans ?_ (Below.mono (by assumption) (by (try simp) <;> omega))))), by (try simp) <;> omega, trivial⟩ ?_
        clear hK
        (try simp only [Act.put, List.setIfInBounds_toArray, List.set_cons_zero, List.set_cons_succ])
        (refine' held_one (i := 5) _ (by kernel_rfl) _ _; rotate_left; (focus (simp only [List.getElem?_toArray, List.getElem?_cons_succ, List.getElem?_cons_zero]; rfl)); (focus rfl); intro K hK; go_simp)
        refine hK _ _ ⟨(by repeat (first | exact Below.refl _ _ | assumption | refine Below.drew ?_ | refine Below.alloc ?_ (by (try simp) <;> omega) _ | refine Below.setCell ?_ (by (try simp) <;> omega) _ | (refine Below.trans ?_ (Below.mono (by assumption) (by (try simp) <;> omega))))), by (try simp) <;> omega, trivial⟩ ?_
        clear hK
        (try simp only [Act.put, List.setIfInBounds_toArray, List.set_cons_zero, List.set_cons_succ])
        refine wpAnyH_done (by kernel_rfl) ?_ _
        go_wp2
        go_meet
        case rel => exact ⟨_, _, rfl, rfl, by omega, by omega, by omega, by (try simp) <;> omega, by (try simp) <;> omega, ⟨⟨by go_simp, by go_simp, by go_simp, by go_simp⟩, ⟨by go_simp, by go_simp, by go_simp, by go_simp⟩⟩, ⟨⟨by go_simp, by go_simp, by go_simp, by go_simp⟩, ⟨by go_simp, by go_simp, by go_simp, by go_simp⟩⟩, (by repeat (first | exact Below.refl _ _ | assumption | refine Below.drew ?_ | refine Below.alloc ?_ (by (try simp) <;> omega) _ | refine Below.setCell ?_ (by (try simp) <;> omega) _ | (refine Below.trans ?_ (Below.mono (by assumption) (by (try simp) <;> omega)))))⟩
    case rest =>
      obtain ⟨b3, b4, rfl, rfl, hne2, i1, i2, i3, i4, ⟨⟨m0, m1, m2, m3⟩, ⟨j0, j1, j2, j3⟩⟩, ⟨⟨k0, k1, k2, k3⟩, ⟨l0, l1, l2, l3⟩⟩, hbd⟩ := hcut
      simp only at m0 m1 m2 m3 k0 k1 k2 k3
      obtain ⟨hcd, hfd⟩ := bcell hbd
      have zb := hbc.size
      have zd := hbd.size
      have R0 : wc.cell? ⟨w.heap.size + 1, 0, none⟩ = some (.int .i64 q.x) := (hbd.cell (p := ⟨w.heap.size + 1, 0, none⟩) (Nat.lt_of_lt_of_le yA1 zb)).trans ((hbc.cell (p := ⟨w.heap.size + 1, 0, none⟩) yA1).trans r0)
      have R1 : wc.cell? ⟨w.heap.size + 1, 1, none⟩ = some (.int .i64 q.y) := (hbd.cell (p := ⟨w.heap.size + 1, 1, none⟩) (Nat.lt_of_lt_of_le yA1 zb)).trans ((hbc.cell (p := ⟨w.heap.size + 1, 1, none⟩) yA1).trans r1)
      have R2 : wc.cell? ⟨w.heap.size + 1, 2, none⟩ = some (.int .i64 q.wd) := (hbd.cell (p := ⟨w.heap.size + 1, 2, none⟩) (Nat.lt_of_lt_of_le yA1 zb)).trans ((hbc.cell (p := ⟨w.heap.size + 1, 2, none⟩) yA1).trans r2)
      have R3 : wc.cell? ⟨w.heap.size + 1, 3, none⟩ = some (.int .i64 q.ht) := (hbd.cell (p := ⟨w.heap.size + 1, 3, none⟩) (Nat.lt_of_lt_of_le yA1 zb)).trans ((hbc.cell (p := ⟨w.heap.size + 1, 3, none⟩) yA1).trans r3)
      have n13 : b1 ≠ b3 := by omega
      have n14 : b1 ≠ b4 := by omega
      have n23 : b2 ≠ b3 := by omega
      have n24 : b2 ≠ b4 := by omega
      have n13' : b3 ≠ b1 := by omega
      have n14' : b4 ≠ b1 := by omega
      have n23' : b3 ≠ b2 := by omega
      have n24' : b4 ≠ b2 := by omega
      have n34 : b4 ≠ b3 := by omega
      have nq3 : w.heap.size + 1 ≠ b3 := by omega
      have nq4 : w.heap.size + 1 ≠ b4 := by omega
      have hbW0 := hbw.trans ((hbc.trans (hbd.mono zb)).mono hbw.size)
      clear r0 r1 r2 r3 cX cY
      go_wp2
      have hbW := (hbW0.setCell (p := ⟨b3, 0, none⟩) (by show w.heap.size ≤ b3; omega) (.int .i64 (x + (wd - 1)))).setCell (p := ⟨b4, 1, none⟩) (by show w.heap.size ≤ b4; omega) (.int .i64 (y + (ht - 1)))
      have Q0 : ((wc.setCell ⟨b3, 0, none⟩ (.int .i64 (x + (wd - 1)))).setCell ⟨b4, 1, none⟩ (.int .i64 (y + (ht - 1)))).cell? ⟨w.heap.size + 1, 0, none⟩ = some (.int .i64 q.x) := by go_simp
      have Q1 : ((wc.setCell ⟨b3, 0, none⟩ (.int .i64 (x + (wd - 1)))).setCell ⟨b4, 1, none⟩ (.int .i64 (y + (ht - 1)))).cell? ⟨w.heap.size + 1, 1, none⟩ = some (.int .i64 q.y) := by go_simp
      have Q2 : ((wc.setCell ⟨b3, 0, none⟩ (.int .i64 (x + (wd - 1)))).setCell ⟨b4, 1, none⟩ (.int .i64 (y + (ht - 1)))).cell? ⟨w.heap.size + 1, 2, none⟩ = some (.int .i64 q.wd) := by go_simp
      have Q3 : ((wc.setCell ⟨b3, 0, none⟩ (.int .i64 (x + (wd - 1)))).setCell ⟨b4, 1, none⟩ (.int .i64 (y + (ht - 1)))).cell? ⟨w.heap.size + 1, 3, none⟩ = some (.int .i64 q.ht) := by go_simp
      have I4 := fun k p hp => idx_side ⟨x, y, wd, 1⟩ ⟨x, y, 1, ht⟩ ⟨x + (wd - 1), y, 1, ht⟩ ⟨x, y + (ht - 1), wd, 1⟩ k p hp
      simp only at I4
      have hsd : sidesR ⟨x, y, wd, ht⟩ = [⟨x, y, wd, 1⟩, ⟨x, y, 1, ht⟩, ⟨x + (wd - 1), y, 1, ht⟩, ⟨x, y + (ht - 1), wd, 1⟩] := rfl
      have hsl : (sidesR ⟨x, y, wd, ht⟩).length = 4 := rfl
      have hwf := fun p hp => side_wf (p := p) hmh.out hp
      rw [← hsd] at I4
      clear hsd
      generalize hSD : sidesR ⟨x, y, wd, ht⟩ = SD at I4 hsl hwf
      replace hSD := Lib.hid hSD
      have yW : w.heap.size + 1 < ((wc.setCell ⟨b3, 0, none⟩ (.int .i64 (x + (wd - 1)))).setCell ⟨b4, 1, none⟩ (.int .i64 (y + (ht - 1)))).heap.size := by simp; omega
      replace I4 := Lib.hid I4
      replace hsl := Lib.hid hsl
      replace hwf := Lib.hid hwf
      clear m0 m1 m2 m3 k0 k1 k2 k3 j0 j1 j2 j3 l0 l1 l2 l3 hcd hfd R0 R1 R2 R3 a0 a1 a2 a3 e0 e1 e2 e3 f0 f1 f2 f3 d0 d1 d2 d3 hbW0 hbd hbc hbw n13 n14 n23 n24 n13' n14' n23' n24' n34 nq3 nq4 zb zd i1 i2 i3 i4 g1 g2 g3 g4 hne hne2
      generalize (wc.setCell ⟨b3, 0, none⟩ (.int .i64 (x + (wd - 1)))).setCell ⟨b4, 1, none⟩ (.int .i64 (y + (ht - 1))) = W at hbW Q0 Q1 Q2 Q3 yW ⊢
      go_loopw [11, 87] (fun v i wr => ∃ k : Nat, k ≤ 4 ∧ i = .int .i64 k ∧ OwnsR W.heap.size wr v (meets (SD.take k) q) ∧ Below W.heap.size W wr) (fun _ i _ => 4 - (intOf i).toNat)
      case atStart => exact ⟨0, by omega, rfl, World.ownsRow_nil _ _ _ _, Below.refl _ _⟩
      case round =>
        obtain ⟨k, hk, rfl, hown, hbr⟩ := hrel
        have zr := hbr.size
        obtain ⟨hcr, hfr⟩ := bcell hbr
        by_cases hkn : k < 4
        · obtain ⟨p, hp⟩ : ∃ p, SD[k]? = some p := ⟨SD[k]'(by have := hsl.out; omega), List.getElem?_eq_getElem _⟩
          have hI := I4.out k p hp
          have M := fun w => meet_any p q w (hwf.out p (List.mem_of_getElem? hp)) (may_wf hq)
          have hsn := meets_snoc (q := q) hp
          have hml := meets_le (SD.take k) q
          have hml4 : (meets (SD.take k) q).length ≤ 4 := by simp at hml; omega
          have hkk : (k : Int) < 4 := by omega
          unfold Re.eqb at hsn
          generalize meetR p q = m at M hsn
          have hcs : [.int .i64 m.x, .int .i64 m.y, .int .i64 m.wd, .int .i64 m.ht] = m.enc := rfl
          replace hcs := Lib.hid hcs
          replace M := Lib.hid M
          clear hp hml
          unfold OwnsR at hown
          obtain ⟨st0, cap0, rfl⟩ := own_slice hown
          have yr0 : w.heap.size + 1 < wr.heap.size := by omega
          cases hz : eq4 m.x m.y m.wd m.ht 0 0 0 0
          · have hsn' : meets (SD.take (k + 1)) q = meets (SD.take k) q ++ [m] := by rw [hsn]; rw [show eq4 m.x m.y m.wd m.ht Re.none.x Re.none.y Re.none.wd Re.none.ht = false from hz]; rfl
            replace hsn' := Lib.hid hsn'
            clear hsn
            go_upto_region 22 with (first
              | (go_at_call 45; (with_reducible refine (M.out _).mono ?_); rintro e w5 ⟨rfl, hb5⟩; obtain ⟨hc5, hf5⟩ := bcell hb5; have z5 := hb5.size; (try simp at z5); have y5 : wr.heap.size < w5.heap.size := (by omega); have hb5' : Below wr.heap.size wr w5 := (by repeat (first | exact Below.refl _ _ | assumption | refine Below.drew ?_ | refine Below.alloc ?_ (by (try simp) <;> omega) _ | refine Below.setCell ?_ (by (try simp) <;> omega) _ | (refine Below.trans ?_ (Below.mono (by assumption) (by (try simp) <;> omega))))))
              | go_in)
            have hb7 : Below wr.heap.size wr (w5.alloc (.cells #[.int .i64 m.x, .int .i64 m.y, .int .i64 m.wd, .int .i64 m.ht] 41)) := hb5'.alloc (by omega) _
            have c0 : (w5.alloc (.cells #[.int .i64 m.x, .int .i64 m.y, .int .i64 m.wd, .int .i64 m.ht] 41)).cell? ⟨w5.heap.size, 0, none⟩ = some (.int .i64 m.x) := by go_simp
            have c1 : (w5.alloc (.cells #[.int .i64 m.x, .int .i64 m.y, .int .i64 m.wd, .int .i64 m.ht] 41)).cell? ⟨w5.heap.size, 1, none⟩ = some (.int .i64 m.y) := by go_simp
            have c2 : (w5.alloc (.cells #[.int .i64 m.x, .int .i64 m.y, .int .i64 m.wd, .int .i64 m.ht] 41)).cell? ⟨w5.heap.size, 2, none⟩ = some (.int .i64 m.wd) := by go_simp
            have c3 : (w5.alloc (.cells #[.int .i64 m.x, .int .i64 m.y, .int .i64 m.wd, .int .i64 m.ht] 41)).cell? ⟨w5.heap.size, 3, none⟩ = some (.int .i64 m.ht) := by go_simp
            have h57 : w5.heap.size < (w5.alloc (.cells #[.int .i64 m.x, .int .i64 m.y, .int .i64 m.wd, .int .i64 m.ht] 41)).heap.size := by simp
            clear hc5 hf5 hb5
            generalize w5.alloc (.cells #[.int .i64 m.x, .int .i64 m.y, .int .i64 m.wd, .int .i64 m.ht] 41) = w7 at hb7 c0 c1 c2 c3 h57 ⊢
            have zr7 := hb7.size
            go_wp2_with (first
              | (at_builtin; refine wpList_append_new rfl _ _ _ rfl W.heap.size 41 iR _ 4 32 Try.underlying35 hr0 hr1 hr2 hr3 rfl (by omega) w7 1 _ _ _ _ (by rfl) (ownsRow_below hown hb7 (Nat.le_refl _)) (by rfl) rfl (by simp [Value.oneCell']) (by omega) (by unfold maxLen; omega) (by omega) ?_; intro v6 w6 hown6 hb6)
              | go_in)
            have hb6' : Below W.heap.size W w6 := (hbr.trans (hb7.mono zr)).trans hb6
            rw [flatR_snoc hcs.out] at hown6
            replace hown6 := Lib.hid hown6
            clear hb6
            go_wp2
            go_roundw
            case rel =>
              refine ⟨k + 1, by omega, by go_num, ?_, hb6'⟩
              unfold OwnsR
              rw [hsn'.out, List.length_append]
              exact hown6.out
            case measure => simp [intOf]; omega
          · have hsn' : meets (SD.take (k + 1)) q = meets (SD.take k) q := by rw [hsn]; rw [show eq4 m.x m.y m.wd m.ht Re.none.x Re.none.y Re.none.wd Re.none.ht = true from hz]; simp
            replace hsn' := Lib.hid hsn'
            clear hsn
            go_wp2_with (first
              | (go_at_call 45; (with_reducible refine (M.out _).mono ?_); rintro e w5 ⟨rfl, hb5⟩; obtain ⟨hc5, hf5⟩ := bcell hb5; have z5 := hb5.size; (try simp at z5); have y5 : wr.heap.size < w5.heap.size := (by omega); have hb5' : Below wr.heap.size wr w5 := (by repeat (first | exact Below.refl _ _ | assumption | refine Below.drew ?_ | refine Below.alloc ?_ (by (try simp) <;> omega) _ | refine Below.setCell ?_ (by (try simp) <;> omega) _ | (refine Below.trans ?_ (Below.mono (by assumption) (by (try simp) <;> omega))))))
              | go_in)
            have hb6' : Below wr.heap.size wr (w5.alloc (.cells #[.int .i64 m.x, .int .i64 m.y, .int .i64 m.wd, .int .i64 m.ht] 41)) := hb5'.alloc (by omega) _
            go_roundw
            case rel =>
              refine ⟨k + 1, by omega, by go_num, ?_, hbr.trans (hb6'.mono zr)⟩
              rw [hsn'.out]
              exact OwnsR.below hown hb6' (Nat.le_refl _)
            case measure => simp [intOf]; omega
        · obtain rfl : k = 4 := by omega
          rw [List.take_of_length_le (by have := hsl.out; omega)] at hown
          obtain ⟨st0, cap0, rfl⟩ := own_slice hown
          replace hown := Lib.hid hown
          go_wp2
          go_ret
          refine ⟨_, rfl, ?_, hbW.trans (hbr.mono hbW.size)⟩
          rw [hSD.out]
          exact own_less hown.out hbW.size
end Go.Proofs.Ytkmofpnefjgnkaa
