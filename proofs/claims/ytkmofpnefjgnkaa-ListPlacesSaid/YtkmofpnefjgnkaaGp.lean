/-
  XGp: XLisRd.
-/
import Derived.Test.YtkmofpnefjgnkaaGo
namespace Go.Proofs.Ytkmofpnefjgnkaa
open Go.RowKit
set_option linter.unusedVariables false
attribute [local go_sem] vwp vUpon_value vUpon_skip vUpon_enter vUpon_row
set_option linter.unusedSimpArgs false
set_option linter.unusedVariables false
section
set_option linter.unusedSimpArgs false
set_option linter.unusedVariables false
def allP (xs : List St) (R : List Re) : List Re := (xs.zip R).flatMap fun p => plcL p.1 p.2
theorem allP_snoc {xs : List St} {R : List Re} {k : Nat} {s : St} {q : Re} (hs : xs[k]? = some s) (hq : R[k]? = some q) : allP (xs.take (k + 1)) (R.take (k + 1)) = allP (xs.take k) (R.take k) ++ plcL s q := by
  have h1 := (List.getElem?_eq_some_iff.1 hs).1
  have h2 := (List.getElem?_eq_some_iff.1 hq).1
  unfold allP
  rw [List.take_add_one, List.take_add_one, hs, hq]
  rw [List.zip_append (by simp; omega), List.flatMap_append]
  congr 1
  simp
theorem allP_len : ∀ (xs : List St) (R : List Re), (allP xs R).length ≤ xs.length * 4
  | [], _ => by simp [allP]
  | s :: xs, [] => by simp [allP]
  | s :: xs, q :: R => by
    have ih := allP_len xs R
    have h := plc_le s q
    have e : allP (s :: xs) (q :: R) = plcL s q ++ allP xs R := by simp [allP]
    rw [e, List.length_append, List.length_cons]
    omega
theorem allP_may {xs : List St} {R : List Re} (h : ∀ q ∈ R, mayR q = true) : MayL (allP xs R) := by
  intro m hm
  unfold allP at hm
  obtain ⟨⟨s, q⟩, hp, hm⟩ := List.mem_flatMap.1 hm
  exact plc_may (h q (List.of_mem_zip hp).2) m hm
/-- What shows of a stroke is nothing, or a rectangle with places within one with places. -/
theorem shR_full {M : List Re} {s : St} (h : (shR M s).eqb Re.none = false) : emptyR (shR M s) = false ∧ emptyR s.rect = false := by
  unfold shR at h ⊢
  cases he : emptyR (shQ M s)
  · rw [he] at h
    simp only [Bool.false_eq_true, if_false] at h ⊢
    refine ⟨he, ?_⟩
    unfold shQ at he
    split at he
    · exact he
    · rename_i t _
      cases hs : emptyR s.rect
      · rfl
      · unfold meetR at he
        rw [hs] at he
        simp at he
        exact absurd he (by decide)
  · rw [he] at h
    simp only [if_true] at h
    exact absurd h (by decide)
theorem shGo_full : ∀ (xs : List St) (M : List Re) (k : Nat) (s : St) (q : Re), xs[k]? = some s → (shGo M xs)[k]? = some q → q.eqb Re.none = false → emptyR q = false ∧ emptyR s.rect = false
  | [], _, k, s, q, h, _, _ => by simp at h
  | t :: xs, M, 0, s, q, h, hq, hn => by
    simp at h
    subst h
    have e : shGo M (t :: xs) = shR M t :: shGo (shN M t) xs := by
      have := shGo_drop (M := M) (xs := t :: xs) (k := 0) (s := t) rfl
      simpa using this
    rw [e] at hq
    simp at hq
    subst hq
    exact shR_full hn
  | t :: xs, M, k + 1, s, q, h, hq, hn => by
    have e : shGo M (t :: xs) = shR M t :: shGo (shN M t) xs := by
      have := shGo_drop (M := M) (xs := t :: xs) (k := 0) (s := t) rfl
      simpa using this
    rw [e] at hq
    exact shGo_full xs (shN M t) k s q (by simpa using h) (by simpa using hq) hn
theorem shL_may {xs : List St} (h : chkL xs = 0) : ∀ q ∈ shL xs, mayR q = true := shGo_may xs [] (by simp) (fun s hs => err_may (chk_mem h s hs))
theorem err_kind {s : St} (h : errS s = 0) (hs : s.Wf) : 1 ≤ s.kind := by
  have h0 := hs.1.1
  by_cases c : 1 ≤ s.kind
  · exact c
  · have : s.kind = 0 := by omega
    unfold errS mis1 at h
    simp [this] at h
theorem blk_re {w : World} {b : Nat} {q : Re} {e : TypeId} (h : Blk w b q.enc e) : RMem w b 0 q := ⟨h.cell (o := 0) rfl, h.cell (o := 1) rfl, h.cell (o := 2) rfl, h.cell (o := 3) rfl⟩
theorem wp_append_row {P : Program} {Q : Exit → Act → World → Prop} {o : Oper} {a : Act} {K : Act → World → Prop} (s x : Operand) (t : TypeId)
    (ho : o.op = .call { callee := .builtin .append, args := #[s, x], argTypes := #[t, t] })
    (base : Nat) (e : TypeId) (i : TypeInfo) (z : Value) (size bytes : Nat) (ht : P.underlying t = some (.slice e)) (hi : P.info? e = some i) (hz : i.zero = some z)
    (hsize : i.size = size) (hby : i.bytes = bytes) (hzs : z.cells.size = size) (hsz : 0 < size)
    (w : World) (v : Value) (n : Nat) (xs : List Value) (hs : a.eval s = v) (hown : w.ownsRow base e size v n xs)
    {α : Type} {enc : α → List Value} (he : ∀ y, (enc y).length = size) (h1 : ∀ y, ∀ u ∈ enc y, u.oneCell' = true) (B : Nat) (vx : Value) (ys : List α) (hrow : Row B size enc w vx ys) (hx : a.eval x = vx)
    (h63 : n + ys.length ≤ maxLen) (hbytes : (n + ys.length) * bytes ≤ 140737488355328) (hbase : base ≤ w.heap.size)
    (h : ∀ v' w', w'.ownsRow base e size v' (n + ys.length) (xs ++ ys.flatMap enc) → w.grownBy w' v.ownBlock → K (a.put o.dst v') w') :
    o.wp P a w K Q := by
  have hone : ∀ u ∈ ys.flatMap enc, u.oneCell' = true := by
    intro u hu
    obtain ⟨y, _, hy⟩ := List.mem_flatMap.1 hu
    exact h1 y u hy
  rcases Nat.eq_zero_or_pos ys.length with h0 | h0
  · have hy : ys = [] := List.length_eq_zero_iff.1 h0
    subst hy
    obtain ⟨s0, cap, rfl, hl, hc, _⟩ := hrow
    cases s0 with
    | none =>
      have hrun := run_append_none (P := P) (w := w) base t o.type e i size ht hi v n cap xs hown
      unfold Oper.wp
      simp [execOp, ho, resolve, invoke, builtin, hs, hx, hrun, Result.andThen]
      exact h v w (by simpa using hown) (grown_refl _ _)
    | some ad =>
      refine wp_append_own w s x t ho base e i z size bytes ht hi hz hsize hby hzs hsz v n xs hs hown ad 0 cap [] (by simpa using hx) (by simp) (fun j u hj => by simp at hj) (fun u hu => by simp at hu) (by simpa using h63) (by simpa using hbytes) hbase (fun v' w' h2 h3 _ => h v' w' (by simpa using h2) h3)
  · obtain ⟨b, o', cap, rfl, hb, hc⟩ := row_flat he hsz hrow h0
    refine wp_append_own w s x t ho base e i z size bytes ht hi hz hsize hby hzs hsz v n xs hs hown ⟨b, o', none⟩ ys.length cap (ys.flatMap enc) hx (flat_len he ys) (fun j u hj => ?_) hone h63 hbytes hbase (fun v' w' h2 h3 _ => h v' w' h2 h3)
    rw [show (⟨b, o', none⟩ : Addr).add j = ⟨b, o' + j, none⟩ by unfold Addr.add; split <;> simp_all]
    exact hc j u hj
def bdE (xs : List St) : Int := if chkL xs = 0 then bothE (allP xs (shL xs)) [] 1 else chkL xs
def bdL (xs : List St) : List Re := if chkL xs = 0 then bothL (allP xs (shL xs)) [] 1 else []
set_option maxHeartbeats 4000000 in
set_option maxRecDepth 100000 in
theorem lbound_any (xs : List St) (v : Value) (w : World) (hl : Row w.heap.size 15 St.enc w v xs) (hw : ∀ s ∈ xs, s.Wf) : Calls Try.prog 24 #[v] w (FormPost (bdE xs) (bdL xs) w) := by
  obtain ⟨iR, hr0, hr1, hr2, hr3⟩ := info_parts infoRe
  have CK := lcheck_any xs v w hl hw
  unfold bdE bdL
  by_cases hc : chkL xs = 0
  · rw [if_pos hc, if_pos hc]
    rw [hc] at CK
    have SH := fun W (h : Below w.heap.size w W) => lshown_any xs v W ((hl.below h).mono h.size) hw hc
    have hRm := shL_may hc
    have l1 := chk_len hc
    have herr := chk_mem hc
    have hopen := fun h0 => row_st hl h0
    obtain ⟨s0, cap, rfl, hmax⟩ := hl.shape
    obtain ⟨R, hR⟩ : ∃ R, shL xs = R := ⟨_, rfl⟩
    obtain ⟨n, hn⟩ : ∃ n, xs.length = n := ⟨_, rfl⟩
    have hRl : R.length = n := by rw [← hR, shL_len, hn]
    have hAm : MayL (allP xs R) := allP_may (by rw [← hR]; exact hRm)
    have hAl := allP_len xs R
    rw [hR] at SH hRm ⊢
    have OF := fun v W h => of_any (allP xs R) v W h (fun q hq => may_wf (hAm q hq))
    obtain ⟨E, hE⟩ : ∃ E, bothE (allP xs R) [] 1 = E := ⟨_, rfl⟩
    obtain ⟨L, hL⟩ : ∃ E, bothL (allP xs R) [] 1 = E := ⟨_, rfl⟩
    rw [hE, hL] at OF ⊢
    rw [hn] at hopen l1 hAl SH CK ⊢
    replace CK := Lib.hid CK
    replace SH := Lib.hid SH
    replace OF := Lib.hid OF
    replace hopen := Lib.hid hopen
    replace hn := Lib.hid hn
    replace hRl := Lib.hid hRl
    replace hRm := Lib.hid hRm
    replace herr := Lib.hid herr
    replace hw := Lib.hid hw
    replace hAl := Lib.hid hAl
    clear hl hc hE hL hAm hR hmax
    go_enter Try.func24, Try.ntmps24
    go_wp2_with (first
      | (go_at_call 17; (with_reducible refine (CK.out).mono ?_); rintro e w1 ⟨rfl, hb1⟩)
      | (go_at_call 42; (with_reducible refine (SH.out _ hb1).mono ?_); rintro e w2 ⟨v2, rfl, oR, hb2⟩; obtain ⟨sr, cr, rfl⟩ := own_slice oR; have hw2 := hb1.trans (hb2.mono hb1.size); have oR := Lib.hid oR)
      | go_in)
    have hRo := fun h0 => row_re (oR.out.row (Nat.le_refl _)) h0
    rw [hRl.out] at hRo ⊢
    replace hRo := Lib.hid hRo
    have z2 := hw2.size
    clear hb1 hb2
    go_loopw [5, 16] (fun ov iv wr => ∃ k : Nat, k ≤ n ∧ iv = .int .i64 k ∧ OwnsR w2.heap.size wr ov (allP (xs.take k) (R.take k)) ∧ Below w2.heap.size w2 wr) (fun _ iv _ => n - (intOf iv).toNat)
    case atStart => exact ⟨0, Nat.zero_le _, rfl, World.ownsRow_nil _ _ _ _, Below.refl _ _⟩
    case round =>
      obtain ⟨k, hk, rfl, hown, hbr⟩ := hrel
      have zr := hbr.size
      have hwr := hw2.trans (hbr.mono z2)
      by_cases hkn : k < n
      · obtain ⟨b, p, cap', e, hb, _, _, hel⟩ := hopen.out (by omega)
        simp at e
        obtain ⟨rfl, rfl⟩ := e
        obtain ⟨br, pr, capr, e, hbr', _, _, helr⟩ := hRo.out (by omega)
        simp at e
        obtain ⟨rfl, rfl⟩ := e
        obtain ⟨s, hs⟩ := get_at hn.out hkn
        obtain ⟨q, hq⟩ := get_at hRl.out hkn
        obtain ⟨g0, g1, g2, g3, g4, g5, g6, g7, g8, g9, g10, g11, g12, g13, g14⟩ := hel k s hs
        obtain ⟨r0, r1, r2, r3⟩ := helr k q hq
        have hsn := allP_snoc hs hq
        have hql := hRm.out q (List.mem_of_getElem? hq)
        have hes := herr.out s (List.mem_of_getElem? hs)
        have PL := fun W => places_any s q W (hw.out s (List.mem_of_getElem? hs)) (err_may hes) hql
        have hpl := plc_le s q
        have hAk := allP_len (xs.take k) (R.take k)
        rw [List.length_take, Nat.min_eq_left (by have := hn.out; omega)] at hAk
        obtain ⟨hcr, hfr⟩ := bcell hbr
        obtain ⟨hcw, hfw⟩ := bcell hwr
        have hkk : (k : Int) < n := by omega
        obtain ⟨so, co, rfl⟩ := own_slice hown
        obtain ⟨m, hm⟩ : ∃ m, (allP (xs.take k) (R.take k)).length = m := ⟨_, rfl⟩
        have yb : b < wr.heap.size := by have := hwr.size; omega
        have ybr : br < wr.heap.size := by omega
        have x0 : wr.cell? ⟨b, p + k * 15, none⟩ = some (.int .u8 s.kind) := (hcw b _ hb).trans g0
        rw [hm] at hown hAk ⊢
        replace hown := Lib.hid hown
        replace hm := Lib.hid hm
        replace hsn := Lib.hid hsn
        replace PL := Lib.hid PL
        clear hel helr hs hq hql hes x0
        go_upto_region 8 with fail
        have hbB : Below wr.heap.size wr (wr.alloc (.cells #[.int .i64 q.x, .int .i64 q.y, .int .i64 q.wd, .int .i64 q.ht] 41)) := (Below.refl _ _).alloc (Nat.le_refl _) _
        have kb : Blk (wr.alloc (.cells #[.int .i64 q.x, .int .i64 q.y, .int .i64 q.wd, .int .i64 q.ht] 41)) wr.heap.size q.enc 41 := Blk.new' rfl
        generalize wr.alloc (.cells #[.int .i64 q.x, .int .i64 q.y, .int .i64 q.wd, .int .i64 q.ht] 41) = wB at hbB kb ⊢
        obtain ⟨t0, t1, t2, t3⟩ := blk_re kb
        have kl := kb.lt
        have kf := kb.free
        have hownB0 := Lib.hid hown.out
        have hwB : Below w.heap.size w wB := hwr.trans (hbB.mono hwr.size)
        have h2B : Below w2.heap.size w2 wB := hbr.trans (hbB.mono zr)
        obtain ⟨hcB, hfB⟩ := bcell hwB
        have ybB : b < wB.heap.size := by have := hwB.size; omega
        have hownB := OwnsR.below hown.out hbB (Nat.le_refl _)
        have z2B := h2B.size
        replace hownB := Lib.hid hownB
        clear hcw hfw hcr hfr kb r0 r1 r2 r3 hbB hwr hbr hown
        obtain ⟨hc2, hf2⟩ := bcell hw2
        have yb2 : b < w2.heap.size := by omega
        have lo := Lib.hid (fun g h => (own_block_lt hownB0.out g h).2)
        refine held_begin (Held w2 0 [(⟨wr.heap.size, 0, none⟩, .int .i64 q.x), (⟨wr.heap.size, 1, none⟩, .int .i64 q.y), (⟨wr.heap.size, 2, none⟩, .int .i64 q.wd), (⟨wr.heap.size, 3, none⟩, .int .i64 q.ht)]) (by kernel_rfl) ⟨Below.drew h2B, by simp; omega, by simp only [Cells]; go_simp⟩ (fun hS => ?_)
        (first | (refine' held_do (i := 0) _ (by kernel_rfl) (by kernel_rfl) (by kernel_rfl) _ _ hS _ _; rotate_left 2; (focus (simp only [List.getElem?_toArray, List.getElem?_cons_succ, List.getElem?_cons_zero]; rfl)); (focus exact fun _ _ _ h => h); (focus rfl); (focus (intro w1 hSS R hR; have hc := hSS.2.2; (try simp only [Cells] at hc); obtain ⟨hco, hfo⟩ := bcell hSS.1; go_simp; (try go_bits); exact hR)); simp only [Act.put, List.setIfInBounds_toArray, List.set_cons_zero, List.set_cons_succ]) | (refine' held_pass (i := 0) _ (by kernel_rfl) (by kernel_rfl) (by kernel_rfl) _ _ hS _; rotate_left; (focus (simp only [List.getElem?_toArray, List.getElem?_cons_succ, List.getElem?_cons_zero]; rfl)); (focus exact fun _ _ _ h => h); (focus rfl); simp only [Act.put, List.setIfInBounds_toArray, List.set_cons_zero, List.set_cons_succ]))
        (first | (refine' held_do (i := 1) _ (by kernel_rfl) (by kernel_rfl) (by kernel_rfl) _ _ hS _ _; rotate_left 2; (focus (simp only [List.getElem?_toArray, List.getElem?_cons_succ, List.getElem?_cons_zero]; rfl)); (focus exact fun _ _ _ h => h); (focus rfl); (focus (intro w1 hSS R hR; have hc := hSS.2.2; (try simp only [Cells] at hc); obtain ⟨hco, hfo⟩ := bcell hSS.1; go_simp; (try go_bits); exact hR)); simp only [Act.put, List.setIfInBounds_toArray, List.set_cons_zero, List.set_cons_succ]) | (refine' held_pass (i := 1) _ (by kernel_rfl) (by kernel_rfl) (by kernel_rfl) _ _ hS _; rotate_left; (focus (simp only [List.getElem?_toArray, List.getElem?_cons_succ, List.getElem?_cons_zero]; rfl)); (focus exact fun _ _ _ h => h); (focus rfl); simp only [Act.put, List.setIfInBounds_toArray, List.set_cons_zero, List.set_cons_succ]))
        (first | (refine' held_do (i := 2) _ (by kernel_rfl) (by kernel_rfl) (by kernel_rfl) _ _ hS _ _; rotate_left 2; (focus (simp only [List.getElem?_toArray, List.getElem?_cons_succ, List.getElem?_cons_zero]; rfl)); (focus exact fun _ _ _ h => h); (focus rfl); (focus (intro w1 hSS R hR; have hc := hSS.2.2; (try simp only [Cells] at hc); obtain ⟨hco, hfo⟩ := bcell hSS.1; go_simp; (try go_bits); exact hR)); simp only [Act.put, List.setIfInBounds_toArray, List.set_cons_zero, List.set_cons_succ]) | (refine' held_pass (i := 2) _ (by kernel_rfl) (by kernel_rfl) (by kernel_rfl) _ _ hS _; rotate_left; (focus (simp only [List.getElem?_toArray, List.getElem?_cons_succ, List.getElem?_cons_zero]; rfl)); (focus exact fun _ _ _ h => h); (focus rfl); simp only [Act.put, List.setIfInBounds_toArray, List.set_cons_zero, List.set_cons_succ]))
        (first | (refine' held_do (i := 3) _ (by kernel_rfl) (by kernel_rfl) (by kernel_rfl) _ _ hS _ _; rotate_left 2; (focus (simp only [List.getElem?_toArray, List.getElem?_cons_succ, List.getElem?_cons_zero]; rfl)); (focus exact fun _ _ _ h => h); (focus rfl); (focus (intro w1 hSS R hR; have hc := hSS.2.2; (try simp only [Cells] at hc); obtain ⟨hco, hfo⟩ := bcell hSS.1; go_simp; (try go_bits); exact hR)); simp only [Act.put, List.setIfInBounds_toArray, List.set_cons_zero, List.set_cons_succ]) | (refine' held_pass (i := 3) _ (by kernel_rfl) (by kernel_rfl) (by kernel_rfl) _ _ hS _; rotate_left; (focus (simp only [List.getElem?_toArray, List.getElem?_cons_succ, List.getElem?_cons_zero]; rfl)); (focus exact fun _ _ _ h => h); (focus rfl); simp only [Act.put, List.setIfInBounds_toArray, List.set_cons_zero, List.set_cons_succ]))
        (first | (refine' held_do (i := 4) _ (by kernel_rfl) (by kernel_rfl) (by kernel_rfl) _ _ hS _ _; rotate_left 2; (focus (simp only [List.getElem?_toArray, List.getElem?_cons_succ, List.getElem?_cons_zero]; rfl)); (focus exact fun _ _ _ h => h); (focus rfl); (focus (intro w1 hSS R hR; have hc := hSS.2.2; (try simp only [Cells] at hc); obtain ⟨hco, hfo⟩ := bcell hSS.1; go_simp; (try go_bits); exact hR)); simp only [Act.put, List.setIfInBounds_toArray, List.set_cons_zero, List.set_cons_succ]) | (refine' held_pass (i := 4) _ (by kernel_rfl) (by kernel_rfl) (by kernel_rfl) _ _ hS _; rotate_left; (focus (simp only [List.getElem?_toArray, List.getElem?_cons_succ, List.getElem?_cons_zero]; rfl)); (focus exact fun _ _ _ h => h); (focus rfl); simp only [Act.put, List.setIfInBounds_toArray, List.set_cons_zero, List.set_cons_succ]))
        (first | (refine' held_do (i := 5) _ (by kernel_rfl) (by kernel_rfl) (by kernel_rfl) _ _ hS _ _; rotate_left 2; (focus (simp only [List.getElem?_toArray, List.getElem?_cons_succ, List.getElem?_cons_zero]; rfl)); (focus exact fun _ _ _ h => h); (focus rfl); (focus (intro w1 hSS R hR; have hc := hSS.2.2; (try simp only [Cells] at hc); obtain ⟨hco, hfo⟩ := bcell hSS.1; go_simp; (try go_bits); exact hR)); simp only [Act.put, List.setIfInBounds_toArray, List.set_cons_zero, List.set_cons_succ]) | (refine' held_pass (i := 5) _ (by kernel_rfl) (by kernel_rfl) (by kernel_rfl) _ _ hS _; rotate_left; (focus (simp only [List.getElem?_toArray, List.getElem?_cons_succ, List.getElem?_cons_zero]; rfl)); (focus exact fun _ _ _ h => h); (focus rfl); simp only [Act.put, List.setIfInBounds_toArray, List.set_cons_zero, List.set_cons_succ]))
        (refine' held_one (i := 6) _ (by kernel_rfl) _ _; rotate_left; (focus (simp only [List.getElem?_toArray, List.getElem?_cons_succ, List.getElem?_cons_zero]; rfl)); (focus rfl); intro K hK; go_simp)
        refine (PL.out _).mono ?_
        rintro e w6 ⟨vp, rfl, op, hb6⟩
        have hS6 := hS.below hb6
        have hB6 : Below w2.heap.size w2 w6 := hS6.1
        refine hK _ _ hS6 ?_
        clear hK
        (try simp only [Act.put, List.setIfInBounds_toArray, List.set_cons_zero, List.set_cons_succ])
        have hown6 := OwnsR.below hownB.out (show Below wB.heap.size wB w6 from (Below.refl _ _).drew.trans (hb6.mono (by simp))) (Nat.le_refl _)
        unfold OwnsR at hown6
        rw [hm.out] at hown6
        have z6 := hB6.size
        (refine' held_one (i := 7) _ (by kernel_rfl) _ _; rotate_left; (focus (simp only [List.getElem?_toArray, List.getElem?_cons_succ, List.getElem?_cons_zero]; rfl)); (focus rfl); intro K hK)
        refine wp_append_row _ _ _ rfl w2.heap.size 41 iR _ 4 32 Try.underlying35 hr0 hr1 hr2 hr3 rfl (by omega) w6 _ _ _ (by rfl) hown6 Re.enc_len Re.enc_one w6.heap.size _ (plcL s q) (op.row (Nat.le_refl _)) (by rfl) (by unfold maxLen; omega) (by omega) (by omega) ?_
        intro v7 w7 hown7 hgr7
        have hB7 : Below w2.heap.size w2 w7 := hB6.grown hgr7 (by omega) (fun g h => (own_in hown6 g h).1)
        have hown7 : OwnsR w2.heap.size w7 v7 (allP (xs.take (k + 1)) (R.take (k + 1))) := by
          unfold OwnsR
          rw [hsn.out, List.length_append, List.flatMap_append, hm.out]
          exact hown7
        have hS7 := held_grown hS6 hgr7 (not_block lo.out (by simp)) hB7
        refine hK _ _ hS7 ?_
        clear hK
        (try simp only [Act.put, List.setIfInBounds_toArray, List.set_cons_zero, List.set_cons_succ])
        replace hown7 := Lib.hid hown7
        (refine' held_one (i := 8) _ (by kernel_rfl) _ _; rotate_left; (focus (simp only [List.getElem?_toArray, List.getElem?_cons_succ, List.getElem?_cons_zero]; rfl)); (focus rfl); intro K hK; go_simp)
        refine hK _ _ hS7 ?_
        clear hK
        (try simp only [Act.put, List.setIfInBounds_toArray, List.set_cons_zero, List.set_cons_succ])
        refine wpAnyH_done (by kernel_rfl) ?_ _
        clear hgr7 hown6
        go_wp2
        go_roundw
        case rel => exact ⟨k + 1, by omega, by go_num, hown7.out, hB7⟩
        case measure => simp [intOf]; omega
      · obtain rfl : k = n := by omega
        rw [List.take_of_length_le (by have := hn.out; omega), List.take_of_length_le (by have := hRl.out; omega)] at hown
        replace hown := Lib.hid hown
        go_wp2_with (first
          | (go_at_call 49; (with_reducible refine (OF.out _ _ (hown.out.row (Nat.le_refl _))).mono ?_); rintro e w8 ⟨hb8, v8, rfl, hc8⟩)
          | go_in)
        go_ret2
        exact ⟨hwr.trans (hb8.mono hwr.size), _, rfl, hc8.less hwr.size⟩
  · rw [if_neg hc, if_neg hc]
    have h0' : (chkL xs == 0) = false := by simp [hc]
    have h0n : (chkL xs != 0) = true := by simp [hc]
    generalize chkL xs = E at *
    replace CK := Lib.hid CK
    clear hl hw hc
    go_enter Try.func24, Try.ntmps24
    go_wp2_with (first
      | (go_at_call 17; (with_reducible refine (CK.out).mono ?_); rintro e w1 ⟨rfl, hb1⟩)
      | go_in)
    go_ret2
    exact ⟨hb1, _, rfl, CutR.nil _ _⟩
end
end Go.Proofs.Ytkmofpnefjgnkaa
