/-
  The document's answer: edges of lists.
-/
import Derived.Test.YtlklmncjicgbgaaRegCb
namespace Go.Proofs.Ytlklmncjicgbgaa
open Go.RowKit
set_option linter.unusedVariables false
attribute [local go_sem] vwp vUpon_value vUpon_skip vUpon_enter vUpon_row
set_option linter.unusedSimpArgs false
set_option linter.unusedVariables false
def edgF (down : Bool) (y : Int) (ts : List Int) (q : Re) : List Int := if down then edgY ts q else edgX y ts q
theorem edgF_len (down : Bool) (y : Int) (ts : List Int) (q : Re) : (edgF down y ts q).length ≤ ts.length + 2 := by
  have h1 := edgeI_len ts q.y
  have h2 := edgeI_len (edgeI ts q.y) (q.y + q.ht)
  have h3 := edgeI_len ts q.x
  have h4 := edgeI_len (edgeI ts q.x) (q.x + q.wd)
  unfold edgF edgY edgX
  split
  · split <;> omega
  · split
    · omega
    · split <;> omega
theorem edgF_fold (down : Bool) (y : Int) : ∀ (l : List Re) (ts : List Int), (l.foldl (edgF down y) ts).length ≤ ts.length + l.length * 2
  | [], ts => by simp
  | q :: l, ts => by
    have h1 := edgF_fold down y l (edgF down y ts q)
    have h2 := edgF_len down y ts q
    rw [List.foldl_cons, List.length_cons]
    omega
theorem edgF_step {l : List Re} {k : Nat} {q : Re} (h : l[k]? = some q) (down : Bool) (y : Int) (ts : List Int) : (l.drop k).foldl (edgF down y) ts = (l.drop (k + 1)).foldl (edgF down y) (edgF down y ts q) := by
  rw [drop_get h]; rfl
/-- Only the row that came in, or a new one, has turned. -/
def EdI (v : Value) (w : World) (tv : Value) (wr : World) : Prop := w.grownBy wr v.ownBlock ∧ ∀ g, tv.ownBlock = some g → v.ownBlock = some g ∨ w.heap.size ≤ g
theorem EdI.start (v : Value) (w : World) : EdI v w v w := ⟨grown_refl _ _, fun g hg => .inl hg⟩
theorem EdI.step {v tv v' : Value} {w wr w1 w2 : World} (h : EdI v w tv wr) (hb : Below wr.heap.size wr w1) (hg : w1.grownBy w2 tv.ownBlock) (tw : ∀ g, v'.ownBlock = some g → tv.ownBlock = some g ∨ w1.heap.size ≤ g) : EdI v w v' w2 := by
  obtain ⟨h1, h2⟩ := h
  have z1 := h1.size
  have z2 := hb.size
  refine ⟨⟨hg.os.trans (hb.os.trans h1.os), hg.tape.trans (hb.tape.trans h1.tape), hg.output.trans (hb.output.trans h1.output), Nat.le_trans (Nat.le_trans z1 z2) hg.size, fun k hk hne => ?_⟩, fun g hg' => ?_⟩
  · rw [hg.block k (by omega) (by
      intro e
      rcases h2 k e.symm with h | h
      · exact hne h.symm
      · omega), hb.block k (by omega), h1.block k hk hne]
  · rcases tw g hg' with h | h
    · exact h2 g h
    · exact .inr (by omega)
theorem EdI.stay {v tv : Value} {w wr w1 : World} (h : EdI v w tv wr) (hb : Below wr.heap.size wr w1) : EdI v w tv w1 :=
  h.step hb (grown_refl _ _) (fun g hg => .inl hg)
theorem grown_far {w w' : World} {r : Option Nat} (h : w.grownBy w' r) {b : Nat} (hb : b < w.heap.size) (hr : ∀ g, r = some g → g ≠ b) (o : Nat) : w'.cell? ⟨b, o, none⟩ = w.cell? ⟨b, o, none⟩ :=
  World.cell?_of_block (a := ⟨b, o, none⟩) (h.block b hb (fun e => hr b e.symm rfl))
theorem grown_below {B : Nat} {w w' : World} {r : Option Nat} (h : w.grownBy w' r) (hB : B ≤ w.heap.size) (hr : ∀ g, r = some g → B ≤ g) : Below B w w' :=
  ⟨h.os, h.tape, h.output, h.size, fun k hk => h.block k (by omega) (fun e => by have := hr k e.symm; omega)⟩
set_option maxHeartbeats 4000000 in
set_option maxRecDepth 100000 in
theorem kedges_any (ts : List Int) (l : List Re) (v vl : Value) (down : Bool) (y : Int) (B : Nat) (w : World) (ht : OwnsI B w v ts) (hl : Row B 4 Re.enc w vl l) (ml : MayL l) (hB : B ≤ w.heap.size) (h1 : ts.length ≤ 400000) (h2 : l.length ≤ 100000) :
    Calls Try.prog 48 #[v, vl, .bool down, .int .i64 y] w (EdgePost (l.foldl (edgF down y) ts) B v w) := by
  obtain ⟨s0, cap, rfl, hmax⟩ := hl.shape
  have hopen := fun h0 => row_re hl h0
  obtain ⟨n, en⟩ : ∃ n, l.length = n := ⟨_, rfl⟩
  rw [en] at hopen hmax h2 ⊢
  obtain ⟨R, hR⟩ : ∃ R, l.foldl (edgF down y) ts = R := ⟨_, rfl⟩
  rw [hR]
  have hgo := Lib.hid (show (l.drop 0).foldl (edgF down y) ts = R from hR)
  have ht0 := Lib.hid ht
  have hvB := Lib.hid (fun g h => (own_block_lt ht g h).1)
  clear hl hR
  replace hopen := Lib.hid hopen
  replace en := Lib.hid en
  replace ml := Lib.hid ml
  have hts := Lib.hid h1
  clear ht h1
  go_enter Try.func48, Try.ntmps48
  go_wp2
  go_loopw [0, 9] (fun tv iv wr => ∃ (k : Nat) (T : List Int), k ≤ n ∧ iv = .int .i64 k ∧ OwnsI B wr tv T ∧ Hid ((l.drop k).foldl (edgF down y) T = R) ∧ Hid (T.length ≤ 400000 + k * 2) ∧ EdI v w tv wr) (fun _ iv _ => n - (intOf iv).toNat)
  case atStart => exact ⟨0, ts, Nat.zero_le _, rfl, ht0.out, hgo, hts, EdI.start _ _⟩
  case round =>
    clear hgo ht0 hts
    obtain ⟨k, T, hk, rfl, hT, hgo, hTl, hI⟩ := hrel
    have hbr : Below B w wr := grown_below hI.1 hB hvB.out
    have zr := hbr.size
    by_cases hkn : k < n
    · obtain ⟨b, o, cap', e, yb, _, _, hel⟩ := hopen.out (by omega)
      simp at e
      obtain ⟨rfl, rfl⟩ := e
      obtain ⟨q, hq⟩ := get_at en.out hkn
      have hbd := may_bd (ml.out _ (List.mem_of_getElem? hq))
      obtain ⟨x, yy, wd, hgt⟩ := q
      obtain ⟨g0, g1, g2, g3⟩ := hel k _ hq
      simp only at g0 g1 g2 g3
      obtain ⟨x0, x1, y0, y1, a0, a1, b0, b1⟩ := hbd
      simp only at x0 x1 y0 y1 a0 a1 b0 b1
      have hgo := hgo.out
      rw [edgF_step hq] at hgo
      have hkk : (k : Int) < n := by omega
      have EM := fun w => kempty_any ⟨x, yy, wd, hgt⟩ w
      simp only at EM
      have hTl2 := Lib.hid (edgF_len down y T ⟨x, yy, wd, hgt⟩)
      have hTlt := Lib.hid (fun g h => Nat.ne_of_lt (own_block_lt hT g h).2)
      clear hel hq
      have ybr : b < wr.heap.size := by omega
      replace g0 := (hbr.cell (p := ⟨b, _, none⟩) yb).trans g0
      replace g1 := (hbr.cell (p := ⟨b, _, none⟩) yb).trans g1
      replace g2 := (hbr.cell (p := ⟨b, _, none⟩) yb).trans g2
      replace g3 := (hbr.cell (p := ⟨b, _, none⟩) yb).trans g3
      replace hT := Lib.hid hT
      clear hbr
      cases hn : noneR ⟨x, yy, wd, hgt⟩
      · rw [hn] at EM
        cases down
        · by_cases c1 : yy ≤ y
          · by_cases c2 : y < yy + hgt
            · have hgo := Lib.hid (show (l.drop (k + 1)).foldl (edgF false y) (edgeI (edgeI T x) (x + wd)) = R by
                rw [← hgo]; unfold edgF edgX inRow; rw [hn]; simp [c1, c2])
              replace hTl2 := Lib.hid (show (edgeI (edgeI T x) (x + wd)).length ≤ T.length + 2 by have := hTl2.out; unfold edgF edgX inRow at this; rw [hn] at this; simpa [c1, c2] using this)
              clear hn
              replace EM := Lib.hid EM
              replace hI := Lib.hid hI
              go_wp2_with (first | (go_at_call 66; (with_reducible refine (EM.out _).mono ?_); rintro e w1 ⟨rfl, hb1⟩; obtain ⟨hc1, hf1⟩ := bcell hb1; have hbr1 : Below wr.heap.size wr w1 := ((Below.refl _ _).alloc (Nat.le_refl _) _).trans (hb1.mono (by simp)); have l1 : wr.heap.size < w1.heap.size := (by have := hb1.size; simp at this; omega); have E1 := Lib.hid (OwnsI.below hT.out hbr1 (Nat.le_refl _))) | (go_at_call 71; (with_reducible refine (edge_any T _ _ B _ E1.out (by omega) (by have := hTl.out; omega)).mono ?_); rintro e w2 ⟨hg2, v2, rfl, hT2, tw2⟩; have hc2 := fun o => grown_far hg2 l1 hTlt.out o; have b2 := grown_below hg2 (B := B) (by omega) (fun g h => (own_block_lt E1.out g h).1); have hT2 := Lib.hid hT2; have tw2 := Lib.hid tw2; have hg2 := Lib.hid hg2) | (go_at_call 71; (with_reducible refine (edge_any (edgeI T x) _ v2 B _ hT2.out (by have := hg2.out.size; omega) (by have := hTl.out; have := edgeI_len T x; omega)).mono ?_); rintro e w3 ⟨hg3, v3, rfl, hT3, tw3⟩; have b3 := grown_below hg3 (B := B) (by have := hg2.out.size; omega) (fun g h => (own_block_lt hT2.out g h).1)) | go_in)
              go_roundw
              case rel => exact ⟨k + 1, _, by omega, by go_num, hT3, hgo, Lib.hid (by have := hTl.out; have := hTl2.out; omega), (hI.out.step hbr1 hg2.out tw2.out).step (Below.refl _ _) hg3 tw3⟩
              case measure => simp [intOf]; omega
            · have hgo := Lib.hid (show (l.drop (k + 1)).foldl (edgF false y) T = R by
                rw [← hgo]; unfold edgF edgX inRow; rw [hn]; simp [c1, c2])
              clear hn
              replace EM := Lib.hid EM
              replace hI := Lib.hid hI
              go_wp2_with (first | (go_at_call 66; (with_reducible refine (EM.out _).mono ?_); rintro e w1 ⟨rfl, hb1⟩; obtain ⟨hc1, hf1⟩ := bcell hb1; have hbr1 : Below wr.heap.size wr w1 := ((Below.refl _ _).alloc (Nat.le_refl _) _).trans (hb1.mono (by simp)); have l1 : wr.heap.size < w1.heap.size := (by have := hb1.size; simp at this; omega); have E1 := Lib.hid (OwnsI.below hT.out hbr1 (Nat.le_refl _))) | go_in)
              go_roundw
              case rel => exact ⟨k + 1, T, by omega, by go_num, E1.out, hgo, Lib.hid (by have := hTl.out; omega), hI.out.stay hbr1⟩
              case measure => simp [intOf]; omega
          · have hgo := Lib.hid (show (l.drop (k + 1)).foldl (edgF false y) T = R by
              rw [← hgo]; unfold edgF edgX inRow; rw [hn]; simp [c1])
            clear hn
            replace EM := Lib.hid EM
            replace hI := Lib.hid hI
            go_wp2_with (first | (go_at_call 66; (with_reducible refine (EM.out _).mono ?_); rintro e w1 ⟨rfl, hb1⟩; obtain ⟨hc1, hf1⟩ := bcell hb1; have hbr1 : Below wr.heap.size wr w1 := ((Below.refl _ _).alloc (Nat.le_refl _) _).trans (hb1.mono (by simp)); have l1 : wr.heap.size < w1.heap.size := (by have := hb1.size; simp at this; omega); have E1 := Lib.hid (OwnsI.below hT.out hbr1 (Nat.le_refl _))) | go_in)
            go_roundw
            case rel => exact ⟨k + 1, T, by omega, by go_num, E1.out, hgo, Lib.hid (by have := hTl.out; omega), hI.out.stay hbr1⟩
            case measure => simp [intOf]; omega
        · have hgo := Lib.hid (show (l.drop (k + 1)).foldl (edgF true y) (edgeI (edgeI T yy) (yy + hgt)) = R by
            rw [← hgo]; unfold edgF edgY; rw [hn]; simp)
          replace hTl2 := Lib.hid (show (edgeI (edgeI T yy) (yy + hgt)).length ≤ T.length + 2 by have := hTl2.out; unfold edgF edgY at this; rw [hn] at this; simpa using this)
          clear hn
          replace EM := Lib.hid EM
          replace hI := Lib.hid hI
          go_wp2_with (first | (go_at_call 66; (with_reducible refine (EM.out _).mono ?_); rintro e w1 ⟨rfl, hb1⟩; obtain ⟨hc1, hf1⟩ := bcell hb1; have hbr1 : Below wr.heap.size wr w1 := ((Below.refl _ _).alloc (Nat.le_refl _) _).trans (hb1.mono (by simp)); have l1 : wr.heap.size < w1.heap.size := (by have := hb1.size; simp at this; omega); have E1 := Lib.hid (OwnsI.below hT.out hbr1 (Nat.le_refl _))) | (go_at_call 71; (with_reducible refine (edge_any T _ _ B _ E1.out (by omega) (by have := hTl.out; omega)).mono ?_); rintro e w2 ⟨hg2, v2, rfl, hT2, tw2⟩; have hc2 := fun o => grown_far hg2 l1 hTlt.out o; have b2 := grown_below hg2 (B := B) (by omega) (fun g h => (own_block_lt E1.out g h).1); have hT2 := Lib.hid hT2; have tw2 := Lib.hid tw2; have hg2 := Lib.hid hg2) | (go_at_call 71; (with_reducible refine (edge_any (edgeI T yy) _ v2 B _ hT2.out (by have := hg2.out.size; omega) (by have := hTl.out; have := edgeI_len T yy; omega)).mono ?_); rintro e w3 ⟨hg3, v3, rfl, hT3, tw3⟩; have b3 := grown_below hg3 (B := B) (by have := hg2.out.size; omega) (fun g h => (own_block_lt hT2.out g h).1)) | go_in)
          go_roundw
          case rel => exact ⟨k + 1, _, by omega, by go_num, hT3, hgo, Lib.hid (by have := hTl.out; have := hTl2.out; omega), (hI.out.step hbr1 hg2.out tw2.out).step (Below.refl _ _) hg3 tw3⟩
          case measure => simp [intOf]; omega
      · rw [hn] at EM
        have hgo := Lib.hid (show (l.drop (k + 1)).foldl (edgF down y) T = R by
          rw [← hgo]; unfold edgF edgX edgY; rw [hn]; simp)
        clear hn
        replace EM := Lib.hid EM
        replace hI := Lib.hid hI
        go_wp2_with (first | (go_at_call 66; (with_reducible refine (EM.out _).mono ?_); rintro e w1 ⟨rfl, hb1⟩; obtain ⟨hc1, hf1⟩ := bcell hb1; have hbr1 : Below wr.heap.size wr w1 := ((Below.refl _ _).alloc (Nat.le_refl _) _).trans (hb1.mono (by simp)); have l1 : wr.heap.size < w1.heap.size := (by have := hb1.size; simp at this; omega); have E1 := Lib.hid (OwnsI.below hT.out hbr1 (Nat.le_refl _))) | go_in)
        go_roundw
        case rel => exact ⟨k + 1, T, by omega, by go_num, E1.out, hgo, Lib.hid (by have := hTl.out; omega), hI.out.stay hbr1⟩
        case measure => simp [intOf]; omega
    · obtain rfl : k = n := by omega
      have hgo := hgo.out
      rw [List.drop_eq_nil_of_le (by have := en.out; omega)] at hgo
      have hgo : T = R := hgo
      subst hgo
      replace hT := Lib.hid hT
      go_wp2
      go_ret
      exact ⟨hI.1, _, rfl, hT.out, hI.2⟩
end Go.Proofs.Ytlklmncjicgbgaa
