/-
  XGi: XLisX XLisY XLisFl XLisPl XLisPm.
-/
import Derived.Laws.CopyRow
import Derived.ScopeJumps
import Derived.Test.YtfcphagmjijmkaaGreatDoorDd15
namespace Go.Proofs.YtfcphagmjijmkaaGreatDoor
open Go.RowKit
set_option linter.unusedVariables false
set_option linter.unusedSimpArgs false
attribute [local go_sem] vwp vUpon_value vUpon_skip vUpon_enter vUpon_row
set_option maxHeartbeats 16000000
section
section
def shQ (M : List Re) (s : St) : Re := match M.getLast? with
 | none => s.rect
 | some t => meetR s.rect t
def shR (M : List Re) (s : St) : Re := if emptyR (shQ M s) then Re.none else shQ M s
def shN (M : List Re) (s : St) : List Re := if s.kind = 4 then M ++ [shR M s] else if s.kind = 5 then M.dropLast else M
def shGo : List Re → List St → List Re
 | _, [] => []
 | M, s :: r => shR M s :: shGo (shN M s) r
def shL (xs : List St) : List Re := shGo [] xs
theorem shGo_len : ∀ (xs : List St) (M : List Re), (shGo M xs).length = xs.length
 | [], _ => rfl
 | s :: xs, M => by simp [shGo, shGo_len xs]
theorem shL_len (xs : List St) : (shL xs).length = xs.length := shGo_len xs []
theorem shQ_may {M : List Re} {s : St} (hM : ∀ q ∈ M, mayR q = true) (hs : mayR s.rect = true) : mayR (shQ M s) = true := by
 unfold shQ
 split
 ·exact hs
 ·exact meet_may _ _
theorem shR_may {M : List Re} {s : St} (hM : ∀ q ∈ M, mayR q = true) (hs : mayR s.rect = true) : mayR (shR M s) = true := by
 unfold shR
 split
 ·exact Re.none_may
 ·exact shQ_may hM hs
theorem shN_may {M : List Re} {s : St} (hM : ∀ q ∈ M, mayR q = true) (hs : mayR s.rect = true) : ∀ q ∈ shN M s, mayR q = true := by
 intro q hq
 unfold shN at hq
 split at hq
 ·rcases List.mem_append.1 hq with h | h
  ·exact hM q h
  ·simp at h; subst h; exact shR_may hM hs
 ·split at hq
  ·exact hM q (List.dropLast_subset _ hq)
  ·exact hM q hq
theorem shGo_may : ∀ (xs : List St) (M : List Re), (∀ q ∈ M, mayR q = true) → (∀ s ∈ xs, mayR s.rect = true) → ∀ q ∈ shGo M xs, mayR q = true
 | [], M, _, _, q, hq => by simp [shGo] at hq
 | s :: xs, M, hM, hx, q, hq => by
  simp only [shGo, List.mem_cons] at hq
  rcases hq with rfl | hq
  ·exact shR_may hM (hx s (by simp))
  ·exact shGo_may xs _ (shN_may hM (hx s (by simp))) (fun t ht => hx t (by simp [ht])) q hq
theorem opn_len {M : List Re} {s : St} (h : ¬ opn M.length s < 0) : ((shN M s).length : Int) = opn M.length s ∧ (s.kind = 5 → 0 < M.length) := by
 unfold opn at h ⊢; unfold shN
 split
 ·rename_i h4
  exact ⟨by simp, fun h5 => by omega⟩
 ·rename_i h4
  rw [if_neg h4] at h
  split
  ·rename_i h5
   rw [if_pos h5] at h; exact ⟨by simp; omega, fun _ => by omega⟩
  ·rename_i h5
   exact ⟨rfl, fun h => absurd h h5⟩
theorem shN_le (M : List Re) (s : St) : (shN M s).length ≤ M.length + 1 := by
 unfold shN
 split
 ·simp
 ·split
  ·simp; omega
  ·omega
theorem chk_cons {o : Int} {xs : List St} {k : Nat} {s : St} (hs : xs[k]? = some s) (h : chkGo o (xs.drop k) = 0) : errS s = 0 ∧ ¬ opn o s < 0 ∧ chkGo (opn o s) (xs.drop (k + 1)) = 0 := by
 rw [go_step hs] at h
 by_cases h1 : errS s = 0
 ·rw [if_neg (by simp [h1])] at h
  by_cases h2 : opn o s < 0
  ·rw [if_pos h2] at h; cases h
  ·rw [if_neg h2] at h; exact ⟨h1, h2, h⟩
 ·rw [if_pos h1] at h; exact absurd h h1
theorem chk_go {xs : List St} (h : chkL xs = 0) : chkGo 0 xs = 0 := by
 unfold chkL at h
 split at h
 ·cases h
 ·exact h
theorem shGo_drop {M : List Re} {xs : List St} {k : Nat} {s : St} (hs : xs[k]? = some s) : shGo M (xs.drop k) = shR M s :: shGo (shN M s) (xs.drop (k + 1)) := by
 obtain ⟨hk, e⟩ := List.getElem?_eq_some_iff.1 hs; rw [List.drop_eq_getElem_cons hk, e]
 rfl
theorem madeCells_rects (n : Nat) : madeCells (Value.agg #[.int .i64 0, .int .i64 0, .int .i64 0, .int .i64 0]).cells (n * 4) = ((List.replicate n Re.none).flatMap Re.enc).toArray := by
 apply Array.ext'
 simp only
 apply List.ext_getElem?
 intro p
 have hz : ∀ i, i < 4 → (Re.none.enc)[i]? = some (Value.int .i64 0) := by
  intro i hi
  match i, hi with
  | 0, _ => rfl
  | 1, _ => rfl
  | 2, _ => rfl
  | 3, _ => rfl
 have hz' : ∀ i, i < 4 → ((Value.agg #[.int .i64 0, .int .i64 0, .int .i64 0, .int .i64 0]).cells)[i]! = Value.int .i64 0 := by
  intro i hi
  match i, hi with
  | 0, _ => rfl
  | 1, _ => rfl
  | 2, _ => rfl
  | 3, _ => rfl
 have hsz : ((Value.agg #[.int .i64 0, .int .i64 0, .int .i64 0, .int .i64 0]).cells).size = 4 := rfl; rw [flat_get Re.enc_len (by omega)]
 by_cases hp : p < n * 4
 ·have h1 : p / 4 < n := by omega
  rw [List.getElem?_replicate, if_pos h1]; simp only [Option.bind_some]; rw [hz _ (by omega)]
  have : (madeCells (Value.agg #[.int .i64 0, .int .i64 0, .int .i64 0, .int .i64 0]).cells (n * 4))[p]? = some (Value.int .i64 0) := by
   unfold madeCells; rw [Array.getElem?_map, Array.getElem?_range, if_pos hp]; simp only [Option.map_some]; rw [hsz, hz' _ (by omega)]
  simpa using this
 ·have h1 : ¬ p / 4 < n := by omega
  rw [List.getElem?_replicate, if_neg h1]
  have : (madeCells (Value.agg #[.int .i64 0, .int .i64 0, .int .i64 0, .int .i64 0]).cells (n * 4))[p]? = none := by
   rw [Array.getElem?_eq_none]; rw [size_madeCells]; omega
  simpa using this
theorem make_rects (n : Nat) (hn : n ≤ 16384) (w : World) : (Instr.makeSlice 25 (.int .i64 n) (.int .i64 n)).run Tryz.prog w = .ok (.slice (some ⟨w.heap.size, 0, none⟩) n n) (w.alloc (.cells ((List.replicate n Re.none).flatMap Re.enc).toArray 32)) := by
 obtain ⟨i0, hi, hz0, hz1, hz2⟩ := info_parts infoRe; have h := run_make (P := Tryz.prog) w 25 32 i0 _ Tryz.underlying25 hi hz0 .i64 .i64 n n (by omega) (Int.le_refl _) (by rw [hz2]; omega) (by omega); rw [h, hz1, Int.toNat_natCast, madeCells_rects]
theorem flat_put {D : List Re} {k : Nat} {p : Re} (q : Re) (h : D[k]? = some p) : ((((D.flatMap Re.enc).set (k * 4 + 0) (.int .i64 q.x)).set (k * 4 + 1) (.int .i64 q.y)).set (k * 4 + 2) (.int .i64 q.wd)).set (k * 4 + 3) (.int .i64 q.ht) = (D.set k q).flatMap Re.enc := by
 have hk := (List.getElem?_eq_some_iff.1 h).1
 have g : ∀ r : Re, (D.set k r)[k]? = some r := fun r => by rw [List.getElem?_set_self hk]
 rw [flat_set Re.enc_len 0 _ p ⟨q.x, p.y, p.wd, p.ht⟩ (by omega) rfl D k h,
  flat_set Re.enc_len 1 _ ⟨q.x, p.y, p.wd, p.ht⟩ ⟨q.x, q.y, p.wd, p.ht⟩ (by omega) rfl _ k (g _), List.set_set,
  flat_set Re.enc_len 2 _ ⟨q.x, q.y, p.wd, p.ht⟩ ⟨q.x, q.y, q.wd, p.ht⟩ (by omega) rfl _ k (g _), List.set_set,
  flat_set Re.enc_len 3 _ ⟨q.x, q.y, q.wd, p.ht⟩ q (by omega) rfl _ k (g _), List.set_set]
theorem own_pop {w : World} {base : Nat} {s : Option Addr} {cap : Nat} {M : List Re} (h : OwnsR base w (.slice s M.length cap) M) (h0 : 0 < M.length) : OwnsR base w (.slice s (M.length - 1) cap) M.dropLast := by
 rcases h.2 with ⟨e, _⟩ | ⟨g, cap', cur, e, hg, hh, hnc, hcm, hcur, htake⟩
 ·injection e with _ e2 _
  omega
 ·injection e with e1 _ e3
  subst e1; subst e3; unfold OwnsR; rw [List.length_dropLast]
  have hf : M.dropLast.flatMap Re.enc = (M.flatMap Re.enc).take ((M.length - 1) * 4) := by
   have hM : M = M.dropLast ++ [M.getLast (by intro h; rw [h] at h0; simp at h0)] := (List.dropLast_concat_getLast _).symm
   conv => rhs; rw [hM, List.flatMap_append]
   rw [List.take_append_of_le_length (by rw [flat_len Re.enc_len]; simp), List.take_of_length_le (by rw [flat_len Re.enc_len]; simp)]
  refine ⟨by rw [flat_len Re.enc_len, List.length_dropLast], .inr ⟨g, cap, cur, rfl, hg, hh, by omega, hcm, hcur, ?_⟩⟩; rw [hf, ← htake, List.take_take, Nat.min_eq_left (by omega)]
end
section
def RBox (w : World) (b : Nat) (q : Re) : Prop :=
 (w.cell? ⟨b, 0, none⟩ = some (.int .i64 q.x) ∧ w.cell? ⟨b, 1, none⟩ = some (.int .i64 q.y) ∧ w.cell? ⟨b, 2, none⟩ = some (.int .i64 q.wd) ∧ w.cell? ⟨b, 3, none⟩ = some (.int .i64 q.ht)) ∧
 (w.frozen? ⟨b, 0, none⟩ = false ∧ w.frozen? ⟨b, 1, none⟩ = false ∧ w.frozen? ⟨b, 2, none⟩ = false ∧ w.frozen? ⟨b, 3, none⟩ = false)
def ShCut (wr : World) (s : St) (q : Re) (wx : World) : Prop := wx.cell? ⟨wr.heap.size, 0, none⟩ = some (.int .u8 s.kind) ∧ RBox wx (wr.heap.size + 1) q ∧ wr.heap.size + 1 + 1 ≤ wx.heap.size ∧ Below wr.heap.size wr wx
def ShRel (w : World) (R : List Re) (xs : List St) (n k : Nat) (M : List Re) (st : Value) (wr : World) : Prop :=
 OwnsR (w.heap.size + 1) wr st M ∧ Blk wr w.heap.size ((R.take k ++ List.replicate (n - k) Re.none).flatMap Re.enc) 32 ∧ shGo M (xs.drop k) = R.drop k ∧ chkGo M.length (xs.drop k) = 0 ∧ (∀ q ∈ M, mayR q = true) ∧ M.length ≤ k ∧ Below w.heap.size w wr
theorem shQ_none (s : St) : shQ [] s = s.rect := rfl
theorem shQ_last {M : List Re} {s : St} (h : 0 < M.length) : ∃ t, M[M.length - 1]? = some t ∧ shQ M s = meetR s.rect t := by
 obtain ⟨t, ht⟩ : ∃ t, M[M.length - 1]? = some t := ⟨M[M.length - 1]'(by omega), List.getElem?_eq_getElem _⟩; refine ⟨t, ht, ?_⟩; unfold shQ; rw [List.getLast?_eq_getElem?, ht]
theorem drop_head {α : Type} {R : List α} {k : Nat} {a : α} {r : List α} (h : R.drop k = a :: r) : R[k]? = some a ∧ R.drop (k + 1) = r := by
 have h1 : (R.drop k)[0]? = some a := by rw [h]; rfl
 rw [List.getElem?_drop] at h1; refine ⟨by simpa using h1, ?_⟩
 have : (R.drop k).drop 1 = r := by rw [h]; rfl
 rw [List.drop_drop] at this; exact this
theorem blk_put {w : World} {b k : Nat} {D : List Re} {p : Re} {e : TypeId} (q : Re) (h : Blk w b (D.flatMap Re.enc) e) (hp : D[k]? = some p) :
  Blk ((((w.setCell ⟨b, k * 4, none⟩ (.int .i64 q.x)).setCell ⟨b, k * 4 + 1, none⟩ (.int .i64 q.y)).setCell ⟨b, k * 4 + 2, none⟩ (.int .i64 q.wd)).setCell ⟨b, k * 4 + 3, none⟩ (.int .i64 q.ht)) b ((D.set k q).flatMap Re.enc) e := by
 have := (((h.set (k * 4) (.int .i64 q.x)).set (k * 4 + 1) (.int .i64 q.y)).set (k * 4 + 2) (.int .i64 q.wd)).set (k * 4 + 3) (.int .i64 q.ht); rw [← flat_put q hp]; exact this
theorem mid_put {R : List Re} {k n : Nat} {q : Re} (h : R[k]? = some q) (hn : R.length = n) : (R.take k ++ List.replicate (n - k) Re.none).set k q = R.take (k + 1) ++ List.replicate (n - (k + 1)) Re.none := by
 obtain ⟨hk, e⟩ := List.getElem?_eq_some_iff.1 h
 have hl : (R.take k).length = k := by simp; omega
 rw [List.set_append, if_neg (by omega), hl, Nat.sub_self, List.take_add_one, h, show n - k = (n - (k + 1)) + 1 by omega, List.replicate_succ, List.set_cons_zero]
 simp
theorem mid_none {R : List Re} {k n : Nat} (hk : k < n) (hn : R.length = n) : (R.take k ++ List.replicate (n - k) Re.none)[k]? = some Re.none := by
 have hl : (R.take k).length = k := by simp; omega
 rw [List.getElem?_append_right (by omega), hl, Nat.sub_self, List.getElem?_replicate, if_pos (by omega)]
theorem shR_t {M : List Re} {s : St} (h : emptyR (shQ M s) = true) : shR M s = Re.none := by unfold shR; rw [if_pos h]
theorem shR_f {M : List Re} {s : St} (h : emptyR (shQ M s) = false) : shR M s = shQ M s := by unfold shR; rw [if_neg (by simp [h])]
theorem shN_4 {M : List Re} {s : St} (h : s.kind = 4) : shN M s = M ++ [shR M s] := by unfold shN; rw [if_pos h]
theorem shN_5 {M : List Re} {s : St} (h : s.kind = 5) : shN M s = M.dropLast := by unfold shN; rw [if_neg (by omega), if_pos h]
theorem shN_o {M : List Re} {s : St} (h : s.kind ≠ 4) (h5 : s.kind ≠ 5) : shN M s = M := by unfold shN; rw [if_neg h, if_neg h5]
set_option maxRecDepth 100000 in
theorem lshown_any (xs : List St) (v : Value) (w : World) (hl : Row w.heap.size 15 St.enc w v xs) (k1 : ∀ s ∈ xs, s.Wf) (hc : chkL xs = 0) : Calls Tryz.prog 83 #[v] w fun e w' => ∃ v', e = .returned v' ∧ OwnsR w.heap.size w' v' (shL xs) ∧ Below w.heap.size w w' := by
 obtain ⟨iR, hr0, hr1, hr2, hr3⟩ := info_parts infoRe; obtain ⟨s0, cap, rfl, hmax⟩ := hl.shape
 have hopen := fun h0 => row_st hl h0
 have hz := fun s hs => chk_mem hc s hs
 have l1 := chk_len hc; have hg0 := chk_go hc; obtain ⟨n, hn⟩ := exx (xs.length); obtain ⟨R, hR⟩ := exx (shL xs)
 have hRl : R.length = n := by rw [← hR, shL_len, hn]
 have hRg : shGo [] xs = R := hR; rw [hn] at hopen hmax l1 ⊢; rw [hR]; have hmk := make_rects n (by omega) w; clear hl hc hR; replace hopen := hdh hopen; replace hz := hdh hz; replace k1 := hdh k1; replace hn := hdh hn; replace hRl := hdh hRl; replace hRg := hdh hRg; replace hg0 := hdh hg0
 go_enter Tryz.func83, Tryz.ntmps83
 go_wp2
 go_loopg [4, 14] n (fun gg st i wr => ∃ (k : Nat) (M : List Re), k ≤ n ∧ n - k ≤ gg ∧ i = .int .i64 k ∧ ShRel w R xs n k M st wr)
 case atStart => exact ⟨0, [], Nat.zero_le _, by omega, rfl, World.ownsRow_nil _ _ _ _, by simpa using Blk.new _ _ _, by simpa using hRg.out, hg0.out, by simp, Nat.le_refl _, belt⟩
 case round =>
  obtain ⟨k, M, hk, hgg, rfl, hrel⟩ := hrel
  by_cases hkn : k < n
  ·obtain ⟨hown, hblk, hgo, hch, hM, hMk, hbr⟩ := hrel
   have zr := hbr.size; obtain ⟨b, p, cap', e, hb, _, _, hel⟩ := hopen.out (by omega)
   simp at e
   obtain ⟨rfl, rfl⟩ := e; obtain ⟨s, hs⟩ : ∃ s, xs[k]? = some s := ⟨xs[k]'(by have := hn.out; omega), List.getElem?_eq_getElem _⟩; obtain ⟨g0, g1, g2, g3, g4, g5, g6, g7, g8, g9, g10, g11, g12, g13, g14⟩ := hel k s hs; obtain ⟨hcr, hfr⟩ := bcell hbr; obtain ⟨he0, hop, hch'⟩ := chk_cons hs hch; rw [shGo_drop hs] at hgo; obtain ⟨hRk, hgo'⟩ := drop_head hgo.symm; obtain ⟨hlen, hpos⟩ := opn_len hop; have hmr := err_may he0; have hQ := shQ_may hM hmr; have hN := shN_may (s := s) hM hmr; have hle := shN_le M s
   have hMl : M.length ≤ 16384 := by omega
   have hkk : (k : Int) < n := by omega
   have yb : b < wr.heap.size := by omega
   obtain ⟨st0, cap0, rfl⟩ := own_slice hown; obtain ⟨m, hm⟩ := exx (M.length); clear hel hgo hch; replace hown := hdh hown; replace hRk := hdh hRk; replace hgo' := hdh hgo'; replace hch' := hdh hch'; replace hlen := hdh hlen; replace hpos := hdh hpos; replace he0 := hdh he0; replace hs := hdh hs; replace hM := hdh hM; replace hN := hdh hN; replace hQ := hdh hQ; replace hmr := hdh hmr; rw [hm] at hMl hle ⊢; replace hm := hdh hm
   go_upto_if 24 with fail
   go_cut [] (fun wx => ShCut wr s (shQ M s) wx)
   case first =>
    by_cases hm0 : 0 < m
    ·obtain ⟨t, ht, eQ⟩ := shQ_last (M := M) (s := s) (by have := hm.out; omega)
     have hmt := hM.out t (List.mem_of_getElem? ht)
     have A := fun w => gmeet_any s.rect t w (may_wf hmr.out) (may_wf hmt)
     have hown' := hown.out; obtain ⟨g, rfl, hg, hgl⟩ := own_addr hown' (by have := hm.out; omega); obtain ⟨r0, r1, r2, r3⟩ := own_rmem hown' ht; rw [hm.out] at r0 r1 r2 r3
     have hm1 : (0 : Int) < m := by omega
     have hm2 : (0 : Int) ≤ (m : Int) - 1 := by omega
     have hm3 : ((m : Int) - 1).toNat = m - 1 := by omega
     have hm4 : (m : Int) - 1 < m := by omega
     have hm5 : (1 : Int) ≤ m := by omega
     generalize meetR s.rect t = q at A eQ; replace A := hdh A; replace eQ := hdh eQ; clear ht hmt hown'; go_wp2; refine wp_region_steady_then (Held wr 2 [(⟨wr.heap.size, 0, none⟩, .int .u8 (s).kind), (⟨wr.heap.size + 1, 0, none⟩, .int .i64 (s.rect).x), (⟨wr.heap.size + 1, 1, none⟩, .int .i64 (s.rect).y), (⟨wr.heap.size + 1, 2, none⟩, .int .i64 (s.rect).wd), (⟨wr.heap.size + 1, 3, none⟩, .int .i64 (s.rect).ht)]) 7 (by kernel_rfl) (by kernel_rfl) (by decide) (by kernel_rfl) (by kernel_rfl) ⟨belt, (by (try simp) <;> omega), (by first | exact trivial | (simp only [Cells]; go_simp))⟩ ?_; simp only [List.take_succ_cons, List.take_zero]
     repeat (first | (refine' wpSteady_do _ _ _; rotate_left; (focus rfl); (focus (intro w1 hS R hR; have hc := hS.cells; simp only [Cells] at hc; obtain ⟨hco, hfo⟩ := bcell hS.old; go_simp; (try go_bits); first | exact hR _ hS | (go_at_call 51; (with_reducible refine cmm (A.out _) fun w2 hb2 => ?_); exact ⟨_, rfl, hR _ (hS.below hb2)⟩))); simp only [pu]) | (refine spa ?_; simp only [pu]))
     refine wpSteady_nil (fun u9 hS9 => ?_); obtain ⟨hc9, hb9, hz9, hco9, hfo9⟩ := hall hS9; clear hS9; simp only [Cells] at hc9; simp only [List.drop_succ_cons, List.drop_zero, List.drop_nil]; go_wp2; go_meet
     case rel =>
      rw [eQ.out]; exact ⟨by go_simp, ⟨⟨by go_simp, by go_simp, by go_simp, by go_simp⟩, ⟨by go_simp, by go_simp, by go_simp, by go_simp⟩⟩, by simp; omega, belt⟩
    ·have e : M = [] := List.length_eq_zero_iff.1 (by have := hm.out; omega)
     have hm1 : m = 0 := by omega
     subst e; subst hm1; go_wp2; go_meet
     case rel =>
      rw [shQ_none]; exact ⟨by go_simp, ⟨⟨by go_simp, by go_simp, by go_simp, by go_simp⟩, ⟨by go_simp, by go_simp, by go_simp, by go_simp⟩⟩, by simp, belt⟩
   case rest =>
    obtain ⟨x0, ⟨⟨x1, x2, x3, x4⟩, ⟨z1, z2, z3, z4⟩⟩, zc, hbc⟩ := hcut
    have E := fun w => empty_any (shQ M s) w (may_wf hQ.out)
    obtain ⟨q, hq⟩ := exx (shQ M s); obtain ⟨eb, heb⟩ := exx (emptyR q); rw [hq] at x1 x2 x3 x4 E; rw [heb] at E; replace E := hdh E
    have heb' : emptyR (shQ M s) = eb := by rw [hq]; exact heb
    replace hq := hdh hq; replace heb' := hdh heb'; clear heb; have ylt := hblk.lt; have hbrc := hbr.trans (hbc.mono zr); have zrc := hbrc.size; clear g0 g1 g2 g3 g4 g5 g6 g7 g8 g9 g10 g11 g12 g13 g14 hcr hfr; replace hblk := hdh hblk; replace hbr := hdh hbr
    have yl0 : wr.heap.size < wc.heap.size := by omega
    have yl1 : wr.heap.size + 1 < wc.heap.size := by omega
    go_upto_if 33 with (first
     | (go_at_call 52; (with_reducible refine cmm (E.out _) fun w2 hb2 => ?_); obtain ⟨hc2, hf2⟩ := bcell hb2; have z2 := hb2.size)
     | go_in)
    have y20 : wr.heap.size < w2.heap.size := by omega
    have y21 : wr.heap.size + 1 < w2.heap.size := by omega
    have hbc2 : Below wr.heap.size wr w2 := hbc.trans (hb2.mono hbc.size)
    go_cut [] (fun wx => ShCut wr s (shR M s) wx)
    case first =>
     cases eb
     ·go_wp2
      go_meet
      case rel =>
       rw [shR_f heb'.out, hq.out]; exact ⟨by go_simp, ⟨⟨by go_simp, by go_simp, by go_simp, by go_simp⟩, ⟨by go_simp, by go_simp, by go_simp, by go_simp⟩⟩, by omega, hbc2⟩
     ·go_wp2
      go_meet
      case rel =>
       rw [shR_t heb'.out]; exact ⟨by go_simp, ⟨⟨by go_simp; rfl, by go_simp; rfl, by go_simp; rfl, by go_simp; rfl⟩, ⟨by go_simp, by go_simp, by go_simp, by go_simp⟩⟩, by simp; omega, belt⟩
    case rest =>
     (try clear hb2); (try clear hc2); (try clear hf2); (try clear hbc2); (try clear x0 x1 x2 x3 x4); (try clear z1 z2 z3 z4); (try clear E); (try clear heb'); (try clear hq)
     obtain ⟨x0, ⟨⟨x1, x2, x3, x4⟩, ⟨z1, z2, z3, z4⟩⟩, zc, hbc⟩ := hcut; have hblk2 := hblk.out.below hbc ylt; have hown2 := hown.out.below hbc lrr; have hbrc := hbr.out.trans (hbc.mono zr); have zrc := hbrc.size; obtain ⟨r0, r1, r2, r3⟩ := blk_rmem hblk2 (mid_none hkn hRl.out); have hfz := hblk2.free; obtain ⟨q, hq⟩ := exx (shR M s); rw [hq] at x1 x2 x3 x4; replace hown2 := hdh hown2; replace hblk2 := hdh hblk2
     have yl0 : wr.heap.size < wc.heap.size := by omega
     have yl1 : wr.heap.size + 1 < wc.heap.size := by omega
     have hne : w.heap.size ≠ wr.heap.size := by omega
     have hne1 : w.heap.size ≠ wr.heap.size + 1 := by omega
     go_upto_region 13 with fail
     have hblk3 := blk_put (b := w.heap.size) q hblk2.out (mid_none hkn hRl.out); rw [mid_put (by rw [← hq]; exact hRk.out) hRl.out] at hblk3
     have hown3 : OwnsR (w.heap.size + 1) ((((wc.setCell ⟨w.heap.size, k * 4, none⟩ (.int .i64 q.x)).setCell ⟨w.heap.size, k * 4 + 1, none⟩ (.int .i64 q.y)).setCell ⟨w.heap.size, k * 4 + 2, none⟩ (.int .i64 q.wd)).setCell ⟨w.heap.size, k * 4 + 3, none⟩ (.int .i64 q.ht)) (.slice st0 M.length cap0) M := by
      have hne : ∀ g, (Value.slice st0 M.length cap0).ownBlock = some g → g ≠ w.heap.size := fun g hg => by have := (own_block_lt hown2.out g hg).1; omega
      exact own_other (own_other (own_other (own_other hown2.out hne _) hne _) hne _) hne _
     have hb3 : Below w.heap.size w ((((wc.setCell ⟨w.heap.size, k * 4, none⟩ (.int .i64 q.x)).setCell ⟨w.heap.size, k * 4 + 1, none⟩ (.int .i64 q.y)).setCell ⟨w.heap.size, k * 4 + 2, none⟩ (.int .i64 q.wd)).setCell ⟨w.heap.size, k * 4 + 3, none⟩ (.int .i64 q.ht)) := (((hbrc.setCell lrr _).setCell lrr _).setCell lrr _).setCell lrr _
     have c0 : ((((wc.setCell ⟨w.heap.size, k * 4, none⟩ (.int .i64 q.x)).setCell ⟨w.heap.size, k * 4 + 1, none⟩ (.int .i64 q.y)).setCell ⟨w.heap.size, k * 4 + 2, none⟩ (.int .i64 q.wd)).setCell ⟨w.heap.size, k * 4 + 3, none⟩ (.int .i64 q.ht)).cell? ⟨wr.heap.size, 0, none⟩ = some (.int .u8 s.kind) := by go_simp
     have c1 : ((((wc.setCell ⟨w.heap.size, k * 4, none⟩ (.int .i64 q.x)).setCell ⟨w.heap.size, k * 4 + 1, none⟩ (.int .i64 q.y)).setCell ⟨w.heap.size, k * 4 + 2, none⟩ (.int .i64 q.wd)).setCell ⟨w.heap.size, k * 4 + 3, none⟩ (.int .i64 q.ht)).cell? ⟨wr.heap.size + 1, 0, none⟩ = some (.int .i64 q.x) := by go_simp
     have c2 : ((((wc.setCell ⟨w.heap.size, k * 4, none⟩ (.int .i64 q.x)).setCell ⟨w.heap.size, k * 4 + 1, none⟩ (.int .i64 q.y)).setCell ⟨w.heap.size, k * 4 + 2, none⟩ (.int .i64 q.wd)).setCell ⟨w.heap.size, k * 4 + 3, none⟩ (.int .i64 q.ht)).cell? ⟨wr.heap.size + 1, 1, none⟩ = some (.int .i64 q.y) := by go_simp
     have c3 : ((((wc.setCell ⟨w.heap.size, k * 4, none⟩ (.int .i64 q.x)).setCell ⟨w.heap.size, k * 4 + 1, none⟩ (.int .i64 q.y)).setCell ⟨w.heap.size, k * 4 + 2, none⟩ (.int .i64 q.wd)).setCell ⟨w.heap.size, k * 4 + 3, none⟩ (.int .i64 q.ht)).cell? ⟨wr.heap.size + 1, 2, none⟩ = some (.int .i64 q.wd) := by go_simp
     have c4 : ((((wc.setCell ⟨w.heap.size, k * 4, none⟩ (.int .i64 q.x)).setCell ⟨w.heap.size, k * 4 + 1, none⟩ (.int .i64 q.y)).setCell ⟨w.heap.size, k * 4 + 2, none⟩ (.int .i64 q.wd)).setCell ⟨w.heap.size, k * 4 + 3, none⟩ (.int .i64 q.ht)).cell? ⟨wr.heap.size + 1, 3, none⟩ = some (.int .i64 q.ht) := by go_simp
     clear hblk2 hown2 hfz r0 r1 r2 r3 x0 x1 x2 x3 x4 z1 z2 z3 z4 hbc hbrc; generalize (((wc.setCell ⟨w.heap.size, k * 4, none⟩ (.int .i64 q.x)).setCell ⟨w.heap.size, k * 4 + 1, none⟩ (.int .i64 q.y)).setCell ⟨w.heap.size, k * 4 + 2, none⟩ (.int .i64 q.wd)).setCell ⟨w.heap.size, k * 4 + 3, none⟩ (.int .i64 q.ht) = w5 at hblk3 hown3 hb3 c0 c1 c2 c3 c4 ⊢; have z5 := hb3.size; have zlt5 : w.heap.size < w5.heap.size := hblk3.lt; have hm' := hm.out; unfold OwnsR at hown3; rw [hm'] at hown3; replace hblk3 := hdh hblk3
     by_cases q4 : s.kind = 4
     ·have eN := shN_4 (M := M) q4
      rw [hq] at eN; rw [q4] at c0; have hcs : [.int .i64 q.x, .int .i64 q.y, .int .i64 q.wd, .int .i64 q.ht] = q.enc := rfl; replace hcs := hdh hcs; replace eN := hdh eN; clear hm' q4
      go_wp2_with (first
       | (at_builtin; refine wpList_append_new rfl _ _ _ rfl (w.heap.size + 1) 32 iR _ 4 32 Tryz.underlying25 hr0 hr1 hr2 hr3 rfl (by omega) w5 1 _ _ _ _ (by rfl) hown3 (by rfl) rfl (by simp [Value.oneCell']) (by omega) (by unfold maxLen; omega) (by omega) ?_; intro v6 w6 hown6 hb6)
       | go_in)
      rw [flatR_snoc hcs.out, ← eN.out] at hown6; have hb6' : Below w.heap.size w w6 := hb3.trans (hb6.mono (by omega)); replace hown6 := hdh hown6; have hblk6 := hdh (hblk3.out.below hb6 (by omega)); clear hb6; go_wp2
      go_roundg (n - (k + 1))
      case measure => omega
      case rel =>
       refine ⟨k + 1, shN M s, by omega, by omega, by go_num, ?_, hblk6.out, hgo'.out.symm, ?_, hN.out, by have := hm.out; omega, hb6'⟩
       ·unfold OwnsR
        rw [show (shN M s).length = m + 1 by rw [eN.out]; simp [hm.out]]; exact hown6.out
       ·rw [hlen.out]; exact hch'.out
     ·by_cases q5 : s.kind = 5
      ·have eN := shN_5 (M := M) q5
       have hp := hpos.out q5; rw [q5] at c0; have hpop : OwnsR (w.heap.size + 1) w5 (.slice st0 (M.length - 1) cap0) M.dropLast := own_pop (by unfold OwnsR; rw [hm']; exact hown3) hp; rw [← eN, hm'] at hpop; rw [hm'] at hp; obtain ⟨g, rfl, hg, hgl⟩ := own_addr hown3 hp
       have hcap : m ≤ cap0 := by
        rcases hown3.2 with ⟨h1, _⟩ | ⟨g', cap', cur, e, _, _, hnc, _⟩
        ·cases h1
        ·injection e with _ _ e3; omega
       replace hown3 := hdh hown3; replace hpop := hdh hpop; replace eN := hdh eN; replace hm' := hdh hm'
       have p1 : (0 : Int) ≤ (m : Int) - 1 := by omega
       have p2 : (1 : Int) ≤ m := by omega
       have p3 : (m : Int) - 1 ≤ cap0 := by omega
       have p4 : ((m : Int) - 1).toNat = m - 1 := by omega
       clear q4 q5; go_wp2
       go_roundg (n - (k + 1))
       case measure => omega
       case rel =>
        refine ⟨k + 1, shN M s, by omega, by omega, by go_num, hpop.out, hblk3.out, hgo'.out.symm, ?_, hN.out, by have := hm.out; omega, hb3⟩; rw [hlen.out]; exact hch'.out
      ·have eN := shN_o (M := M) q4 q5
       replace hown3 := hdh hown3; replace eN := hdh eN; replace hm' := hdh hm'; go_wp2
       go_roundg (n - (k + 1))
       case measure => omega
       case rel =>
        refine ⟨k + 1, shN M s, by omega, by omega, by go_num, ?_, hblk3.out, hgo'.out.symm, ?_, hN.out, by have := hm.out; omega, hb3⟩
        ·unfold OwnsR
         rw [eN.out, hm'.out]; exact hown3.out
        ·rw [hlen.out]; exact hch'.out
  ·obtain rfl : k = n := by omega
   obtain ⟨hown, hblk, hgo, hch, hM, hMk, hbr⟩ := hrel; rw [Nat.sub_self, List.replicate_zero, List.append_nil, List.take_of_length_le (by have := hRl.out; omega)] at hblk; replace hown := hdh hown; replace hblk := hdh hblk; replace hgo := hdh hgo; replace hch := hdh hch; go_wp2; go_ret; exact ⟨_, rfl, Blk.ownsR hblk.out hRl.out lrr (by omega), hbr⟩
end
section
def drB (s : St) : Bool := decide (s.kind ≤ 3)
def fltS (xs : List St) : List St := xs.filter drB
def fltR (xs : List St) (rs : List Re) : List Re := ((xs.zip rs).filter fun p => drB p.1).map Prod.snd
theorem fltS_len (xs : List St) (rs : List Re) (h : rs.length = xs.length) : (fltR xs rs).length = (fltS xs).length := by
 unfold fltR fltS; rw [List.length_map]
 have : ∀ (xs : List St) (rs : List Re), rs.length = xs.length → ((xs.zip rs).filter fun p => drB p.1).length = (xs.filter drB).length := by
  intro xs
  induction xs with
  | nil => intro rs _; simp
  | cons s xs ih =>
   intro rs h
   cases rs with
   | nil => simp at h
   | cons r rs =>
    rw [List.zip_cons_cons, List.filter_cons, List.filter_cons]; have := ih rs (by simpa using h)
    cases hd : drB s
    ·simpa [hd] using this
    ·simpa [hd] using this
 exact this xs rs h
theorem fltS_le (xs : List St) : (fltS xs).length ≤ xs.length := List.length_filter_le _ _
theorem fltS_snoc {xs : List St} {k : Nat} {s : St} (hs : xs[k]? = some s) : fltS (xs.take (k + 1)) = fltS (xs.take k) ++ if drB s then [s] else [] := by
 unfold fltS; rw [List.take_add_one, hs, List.filter_append]
 congr 1
 simp [List.filter_cons]
theorem fltR_snoc {xs : List St} {rs : List Re} {k : Nat} {s : St} {q : Re} (hs : xs[k]? = some s) (hq : rs[k]? = some q) : fltR (xs.take (k + 1)) (rs.take (k + 1)) = fltR (xs.take k) (rs.take k) ++ if drB s then [q] else [] := by
 have h1 := (List.getElem?_eq_some_iff.1 hs).1; have h2 := (List.getElem?_eq_some_iff.1 hq).1; unfold fltR; rw [List.take_add_one, List.take_add_one, hs, hq]; rw [List.zip_append (by simp; omega), List.filter_append, List.map_append]
 congr 1
 cases hd : drB s <;> simp [hd]
def flS (xs : List St) : List St := if chkL xs = 0 then fltS xs else []
def flR (xs : List St) : List Re := if chkL xs = 0 then fltR xs (shL xs) else []
def OutF (base : Nat) (l : List St) (rs : List Re) (er : Int) (w : World) (e : Ending) (w' : World) : Prop := Below base w w' ∧ ∃ v u, e = .returned (.tuple #[v, u, .int .i64 er]) ∧ Owns base w' v l ∧ OwnsR base w' u rs ∧ Apart v u
def FlCut (w2 : World) (l : List St) (rs : List Re) (v u : Value) (wx : World) : Prop := Owns w2.heap.size wx v l ∧ OwnsR w2.heap.size wx u rs ∧ Apart v u ∧ Below w2.heap.size w2 wx
set_option maxRecDepth 100000 in
theorem lflat_any (xs : List St) (v : Value) (w : World) (hl : Row w.heap.size 15 St.enc w v xs) (k1 : ∀ s ∈ xs, s.Wf) : Calls Tryz.prog 36 #[v] w (OutF w.heap.size (flS xs) (flR xs) (chkL xs) w) := by
 obtain ⟨iR, hr0, hr1, hr2, hr3⟩ := info_parts infoRe; obtain ⟨iM, hi0, hm0, hm1, hm2⟩ := info_parts infoSt
 have C1 := fun w' (hb : Below w.heap.size w w') => lcheck_any xs v w' ((hl.below hb).mono hb.size) k1
 have K1 := fun w' (hb : Below w.heap.size w w') hc => lshown_any xs v w' ((hl.below hb).mono hb.size) k1 hc
 obtain ⟨s0, cap, rfl, hmax⟩ := hl.shape
 have hopen := fun h0 => row_st hl h0
 obtain ⟨n, en⟩ := exx (xs.length); clear hl
 by_cases c1 : chkL xs = 0
 ·have l1 := chk_len c1
  have hfS : flS xs = fltS xs := if_pos c1; have hfR : flR xs = fltR xs (shL xs) := if_pos c1; have hRl := shL_len xs; obtain ⟨R, hR⟩ := exx (shL xs)
  have K1 := fun w' hb => K1 w' hb c1
  rw [hfS, hfR]; rw [hR] at K1 hRl ⊢; rw [c1] at C1 ⊢; rw [en] at l1 hmax hopen C1 K1 hRl ⊢; replace C1 := hdh C1; replace K1 := hdh K1; replace hopen := hdh hopen; replace en := hdh en; replace hRl := hdh hRl; replace k1 := hdh k1; clear c1 hR hfS hfR
  go_enter Tryz.func36, Tryz.ntmps36
  go_wp2_with (first
   | (go_at_call 38; (with_reducible refine cmm (C1.out _ belt) fun w3 hb3 => ?_); have z3 := hb3.size)
   | (go_at_call 83; (with_reducible refine (K1.out _ hb3).mono ?_); rintro e w2 ⟨v2, rfl, hown2, hb2⟩; obtain ⟨s2, cap2, rfl⟩ := own_slice hown2; rw [hRl.out])
   | go_in)
  have hb02 : Below w.heap.size w w2 := hb3.trans (hb2.mono z3); have z02 := hb02.size; have hrow := hown2.row (Nat.le_refl w2.heap.size)
  have hopR := fun h0 => row_re hrow h0
  rw [hRl.out] at hopR; replace hopR := hdh hopR; clear hrow hown2 hb2 hb3 z3
  go_loopg [6, 7, 18] n (fun gg va vb i wr => ∃ (k : Nat), k ≤ n ∧ n - k ≤ gg ∧ i = .int .i64 k ∧ FlCut w2 (fltS (xs.take k)) (fltR (xs.take k) (R.take k)) va vb wr)
  case atStart => exact ⟨0, Nat.zero_le _, by omega, rfl, World.ownsRow_nil _ _ _ _, World.ownsRow_nil _ _ _ _, Apart.none _ _ _, Below.refl _ _⟩
  case round =>
   obtain ⟨k, hk, hgg, rfl, hown, hownR, hap, hbr⟩ := hrel; have zr := hbr.size; obtain ⟨hcr, hfr⟩ := bcell hbr
   by_cases hkn : k < n
   ·obtain ⟨b, p, cap', e, hb, _, _, hel⟩ := hopen.out (by omega)
    simp at e
    obtain ⟨rfl, rfl⟩ := e; obtain ⟨b2, p2, cap2', e, hb2, _, _, hel2⟩ := hopR.out (by omega)
    simp at e
    obtain ⟨rfl, rfl⟩ := e; obtain ⟨s, hs⟩ : ∃ s, xs[k]? = some s := ⟨xs[k]'(by have := en.out; omega), List.getElem?_eq_getElem _⟩; obtain ⟨q, hq⟩ : ∃ q, R[k]? = some q := ⟨R[k]'(by have := hRl.out; omega), List.getElem?_eq_getElem _⟩; obtain ⟨hcw, hfw⟩ := bcell hb02; obtain ⟨g0, g1, g2, g3, g4, g5, g6, g7, g8, g9, g10, g11, g12, g13, g14⟩ := hel k s hs; obtain ⟨j0, j1, j2, j3⟩ := hel2 k q hq; have eS := fltS_snoc hs; have eR := fltR_snoc hs hq
    have D := fun w => draws_any s w ((k1.out s (List.mem_of_getElem? hs)).1)
    have hkk : (k : Int) < n := by omega
    have yb : b < wr.heap.size := by omega
    have ybw : b < w2.heap.size := by omega
    have yb2 : b2 < wr.heap.size := by omega
    have hln1 : (fltS (xs.take k)).length ≤ n := by have := fltS_le (xs.take k); simp at this; omega
    have hln2 : (fltR (xs.take k) (R.take k)).length ≤ n := by rw [fltS_len _ _ (by have := hRl.out; have := en.out; simp; omega)]; omega
    clear hel hel2 hs hq; replace hown := hdh hown; replace hownR := hdh hownR; replace hap := hdh hap
    cases hd : drB s
    ·rw [show decide (s.kind ≤ 3) = false from hd] at D
     rw [hd] at eS eR; simp only [Bool.false_eq_true, if_false, List.append_nil] at eS eR; replace eS := hdh eS; replace eR := hdh eR; replace D := hdh D; clear hd
     go_wp2_with (first
      | (go_at_call 84; (with_reducible refine cmm (D.out _) fun w4 hb4 => ?_))
      | go_in)
     have hb4r : Below wr.heap.size wr w4 := belt
     go_roundg (n - (k + 1))
     case measure => omega
     case rel =>
      refine ⟨k + 1, by omega, by omega, by go_num, ?_, ?_, hap.out, hbr.trans (hb4r.mono zr)⟩
      ·rw [eS.out]; exact hown.out.below hb4r lrr
      ·rw [eR.out]; exact hownR.out.below hb4r lrr
    ·rw [show decide (s.kind ≤ 3) = true from hd] at D
     rw [hd] at eS eR; simp only [if_true] at eS eR; replace eS := hdh eS; replace eR := hdh eR; replace D := hdh D; clear hd
     go_upto_region 10 with (first
      | (go_at_call 84; (with_reducible refine cmm (D.out _) fun w4 hb4 => ?_))
      | go_in)
     have hb4r : Below wr.heap.size wr w4 := belt; have hb4w : Below w2.heap.size w2 w4 := hbr.trans (hb4r.mono zr)
     have zl4 : wr.heap.size < w4.heap.size := by have := hb4.size; simp at this; omega
     have x0 : w4.cell? ⟨wr.heap.size, 0, none⟩ = some (.int .i64 q.x) := by rw [hb4.cell (p := ⟨wr.heap.size, 0, none⟩) (by simp)]; go_simp
     have x1 : w4.cell? ⟨wr.heap.size, 1, none⟩ = some (.int .i64 q.y) := by rw [hb4.cell (p := ⟨wr.heap.size, 1, none⟩) (by simp)]; go_simp
     have x2 : w4.cell? ⟨wr.heap.size, 2, none⟩ = some (.int .i64 q.wd) := by rw [hb4.cell (p := ⟨wr.heap.size, 2, none⟩) (by simp)]; go_simp
     have x3 : w4.cell? ⟨wr.heap.size, 3, none⟩ = some (.int .i64 q.ht) := by rw [hb4.cell (p := ⟨wr.heap.size, 3, none⟩) (by simp)]; go_simp
     have f0 : w4.frozen? ⟨wr.heap.size, 0, none⟩ = false := by rw [hb4.frozen (p := ⟨wr.heap.size, 0, none⟩) (by simp)]; go_simp
     have f1 : w4.frozen? ⟨wr.heap.size, 1, none⟩ = false := by rw [hb4.frozen (p := ⟨wr.heap.size, 1, none⟩) (by simp)]; go_simp
     have f2 : w4.frozen? ⟨wr.heap.size, 2, none⟩ = false := by rw [hb4.frozen (p := ⟨wr.heap.size, 2, none⟩) (by simp)]; go_simp
     have f3 : w4.frozen? ⟨wr.heap.size, 3, none⟩ = false := by rw [hb4.frozen (p := ⟨wr.heap.size, 3, none⟩) (by simp)]; go_simp
     have own4 := hown.out.below hb4r lrr; have ownR4 := hownR.out.below hb4r lrr
     have lo1 := fun g hg => (own_in hown.out g hg).2
     have lo2 := fun g hg => (own_in hownR.out g hg).2
     clear hcr hfr hb4 hbr hb4r; replace own4 := hdh own4; replace ownR4 := hdh ownR4; replace lo1 := hdh lo1; replace lo2 := hdh lo2; have z24 := hb4w.size; refine held_begin (Held w2 0 [(⟨wr.heap.size, 0, none⟩, .int .i64 (q).x), (⟨wr.heap.size, 1, none⟩, .int .i64 (q).y), (⟨wr.heap.size, 2, none⟩, .int .i64 (q).wd), (⟨wr.heap.size, 3, none⟩, .int .i64 (q).ht)]) (by kernel_rfl) ⟨Below.drew hb4w, by simp; omega, by simp only [Cells]; go_simp⟩ (fun hS => ?_)
     (refine' hdo 0 hS ?_; simp only [pu])
     (refine' hdo 1 hS ?_; simp only [pu])
     (refine' hdo 2 hS ?_; simp only [pu])
     (refine' hdo 3 hS ?_; simp only [pu])
     (refine' hdo 4 hS ?_; simp only [pu])
     (refine' hdo 7 hS ?_; simp only [pu])
     (refine' hdo 8 hS ?_; simp only [pu])
     clear x0 x1 x2 x3 f0 f1 f2 f3; replace eS := hdh eS
     (refine' held_two (i := 5) (j := 9) rfl rfl (by kernel_rfl) _ _ _ _; (focus rfl); (focus rfl))
     ·intro K hK
      go_simp
      have hS1 := hS.below ((Below.refl _ _).alloc lrr (.cells #[.int .u8 s.kind, .int .i64 s.rect.x, .int .i64 s.rect.y, .int .i64 s.rect.wd, .int .i64 s.rect.ht, .int .u8 s.col.r, .int .u8 s.col.g, .int .u8 s.col.b, .int .u8 s.col.a, .int .u8 s.back.r, .int .u8 s.back.g, .int .u8 s.back.b, .int .u8 s.back.a, .string s.text, .int .i64 s.node] 36)); refine hK _ _ hS1 ?_; clear hK
      (try simp only [pu])
      (refine' held_two (i := 6) (j := 9) rfl rfl (by kernel_rfl) _ _ _ _; (focus rfl); (focus rfl))
      ·intro K hK
       refine wp_append_blk _ _ _ rfl w2.heap.size 36 iM _ 15 72 Tryz.underlying22 hi0 hm0 hm1 hm2 rfl (by omega) _ 1 _ _ _ _ _ _ (by rfl) (own4.out.alloc _) (Blk.new' rfl) (by rfl) (by rfl) (by simp [Value.oneCell']) (by omega) (by unfold maxLen; omega) (by simp; omega) ?_
       intro v5 w5 own5 gr5 at5 hb5
       have hS5 := held_grown hS1 gr5 (not_block lo1.out (by simp)) (hS1.1.trans (hb5.mono (by omega))); refine hK _ _ hS5 ?_; clear hK
       (try simp only [pu])
       have ownR5 := own_keep (ownR4.out.drew.alloc (.cells #[.int .u8 s.kind, .int .i64 s.rect.x, .int .i64 s.rect.y, .int .i64 s.rect.wd, .int .i64 s.rect.ht, .int .u8 s.col.r, .int .u8 s.col.g, .int .u8 s.col.b, .int .u8 s.col.a, .int .u8 s.back.r, .int .u8 s.back.g, .int .u8 s.back.b, .int .u8 s.back.a, .string s.text, .int .i64 s.node] 36)) gr5 (fun g h1 h2 => hap.out g h2 h1); have z5 := gr5.size
       simp at z5
       replace own5 := hdh own5; replace ownR5 := hdh ownR5
       (refine honn 9 fun K hK => ?_; go_simp)
       have hS6 := hS5.below ((Below.refl _ _).alloc lrr (.cells #[.int .i64 q.x, .int .i64 q.y, .int .i64 q.wd, .int .i64 q.ht] 32)); refine hK _ _ hS6 ?_; clear hK
       (try simp only [pu])
       (refine' held_one (i := 10) _ (by kernel_rfl) _ _; rotate_left; (focus exact geti); (focus rfl); intro K hK)
       refine wp_append_blk _ _ _ rfl w2.heap.size 32 iR _ 4 32 Tryz.underlying25 hr0 hr1 hr2 hr3 rfl (by omega) _ 1 _ _ _ _ _ _ (by rfl) (ownR5.out.alloc _) (Blk.new' rfl) (by rfl) (by rfl) (by simp [Value.oneCell']) (by omega) (by unfold maxLen; omega) (by simp; omega) ?_
       intro v6 w6 own6 gr6 at6 hb6
       have ap5 : Apart v5 _ := apart_next (C := w5.heap.size) hap.out lo1.out lo2.out (fun g h => (at5 g h).imp id (fun h => by simp at h; omega)) (fun g h => (own_in own5.out g h).2) (fun g h => .inl h); have own5' := own_keep (own5.out.alloc (.cells #[.int .i64 q.x, .int .i64 q.y, .int .i64 q.wd, .int .i64 q.ht] 32)) gr6 (fun g h1 h2 => ap5 g h1 h2); have ap6 : Apart v5 v6 := apart_next (C := w5.heap.size) hap.out lo1.out lo2.out (fun g h => (at5 g h).imp id (fun h => by simp at h; omega)) (fun g h => (own_in own5.out g h).2) (fun g h => (at6 g h).imp id (fun h => by simp at h; omega)); have hS7 := held_grown hS6 gr6 (not_block lo2.out (by simp)) (hS6.1.trans (hb6.mono (by omega)))
       refine hK _ _ hS7 ?_; clear hK
       (try simp only [pu])
       replace own5' := hdh own5'; replace own6 := hdh own6; replace ap6 := hdh ap6
       (refine honn 11 fun K hK => ?_; go_simp)
       refine hK _ _ hS7 ?_; clear hK
       (try simp only [pu])
       (refine honn 12 fun K hK => ?_; go_simp)
       refine hK _ _ hS7 ?_; clear hK
       (try simp only [pu])
       refine wpAnyH_done (by kernel_rfl) ?_ _; go_wp2
       go_roundg (n - (k + 1))
       case measure => omega
       case rel =>
        refine ⟨k + 1, by omega, by omega, by go_num, ?_, ?_, ap6.out, hS7.1⟩
        ·rw [eS.out]
         unfold Owns; rw [List.length_append, List.flatMap_append]; exact own5'.out
        ·rw [eR.out]
         unfold OwnsR; rw [List.length_append, List.flatMap_append]; exact own6.out
      ·intro K hK
       go_simp
       have hS6 := hS1.below ((Below.refl _ _).alloc lrr (.cells #[.int .i64 q.x, .int .i64 q.y, .int .i64 q.wd, .int .i64 q.ht] 32)); refine hK _ _ hS6 ?_; clear hK
       (try simp only [pu])
       (refine' held_one (i := 6) _ (by kernel_rfl) _ _; rotate_left; (focus exact geti); (focus rfl); intro K hK)
       refine wp_append_blk _ _ _ rfl w2.heap.size 36 iM _ 15 72 Tryz.underlying22 hi0 hm0 hm1 hm2 rfl (by omega) _ 1 _ _ _ _ _ _ (by rfl) ((own4.out.alloc _).alloc _) ((Blk.new' rfl).alloc _) (by rfl) (by rfl) (by simp [Value.oneCell']) (by omega) (by unfold maxLen; omega) (by simp; omega) ?_
       intro v5 w5 own5 gr5 at5 hb5
       have hS5 := held_grown hS6 gr5 (not_block lo1.out (by simp)) (hS6.1.trans (hb5.mono (by omega))); have blk5 := Blk.keep (b := w4.heap.size + 1) (cs := [.int .i64 q.x, .int .i64 q.y, .int .i64 q.wd, .int .i64 q.ht]) (e := 32) (by repeat (first | (with_reducible assumption) | (with_reducible refine Blk.drew ?_) | ((with_reducible refine Blk.new' ?_); (simp; done)) | (with_reducible refine Blk.alloc ?_ _) | ((with_reducible refine Blk.set_ne ?_ ?_ _); rotate_left; (focus (first | (simp; omega) | omega))))) gr5 (fun h => by have := lo1.out _ h; omega); refine hK _ _ hS5 ?_; clear hK
       (try simp only [pu])
       have ownR5 := own_keep ((ownR4.out.drew.alloc _).alloc _) gr5 (fun g h1 h2 => hap.out g h2 h1); have z5 := gr5.size
       simp at z5
       replace own5 := hdh own5; replace ownR5 := hdh ownR5
       (refine' held_one (i := 10) _ (by kernel_rfl) _ _; rotate_left; (focus exact geti); (focus rfl); intro K hK)
       refine wp_append_blk _ _ _ rfl w2.heap.size 32 iR _ 4 32 Tryz.underlying25 hr0 hr1 hr2 hr3 rfl (by omega) _ 1 _ _ _ _ _ _ (by rfl) ownR5.out blk5 (by rfl) (by rfl) (by simp [Value.oneCell']) (by omega) (by unfold maxLen; omega) (by omega) ?_
       intro v6 w6 own6 gr6 at6 hb6
       have hS6 := hS5; have ap5 : Apart v5 _ := apart_next (C := w5.heap.size) hap.out lo1.out lo2.out (fun g h => (at5 g h).imp id (fun h => by simp at h; omega)) (fun g h => (own_in own5.out g h).2) (fun g h => .inl h); have own5' := own_keep own5.out gr6 (fun g h1 h2 => ap5 g h1 h2); have ap6 : Apart v5 v6 := apart_next (C := w5.heap.size) hap.out lo1.out lo2.out (fun g h => (at5 g h).imp id (fun h => by simp at h; omega)) (fun g h => (own_in own5.out g h).2) at6; have hS7 := held_grown hS6 gr6 (not_block lo2.out (by simp)) (hS6.1.trans (hb6.mono (by omega))); refine hK _ _ hS7 ?_; clear hK
       (try simp only [pu])
       replace own5' := hdh own5'; replace own6 := hdh own6; replace ap6 := hdh ap6
       (refine honn 11 fun K hK => ?_; go_simp)
       refine hK _ _ hS7 ?_; clear hK
       (try simp only [pu])
       (refine honn 12 fun K hK => ?_; go_simp)
       refine hK _ _ hS7 ?_; clear hK
       (try simp only [pu])
       refine wpAnyH_done (by kernel_rfl) ?_ _; go_wp2
       go_roundg (n - (k + 1))
       case measure => omega
       case rel =>
        refine ⟨k + 1, by omega, by omega, by go_num, ?_, ?_, ap6.out, hS7.1⟩
        ·rw [eS.out]
         unfold Owns; rw [List.length_append, List.flatMap_append]; exact own5'.out
        ·rw [eR.out]
         unfold OwnsR; rw [List.length_append, List.flatMap_append]; exact own6.out
     ·intro K hK
      go_simp
      have hS1 := hS.below ((Below.refl _ _).alloc lrr (.cells #[.int .i64 q.x, .int .i64 q.y, .int .i64 q.wd, .int .i64 q.ht] 32)); refine hK _ _ hS1 ?_; clear hK
      (try simp only [pu])
      (refine honn 5 fun K hK => ?_; go_simp)
      have hS6 := hS1.below ((Below.refl _ _).alloc lrr (.cells #[.int .u8 s.kind, .int .i64 s.rect.x, .int .i64 s.rect.y, .int .i64 s.rect.wd, .int .i64 s.rect.ht, .int .u8 s.col.r, .int .u8 s.col.g, .int .u8 s.col.b, .int .u8 s.col.a, .int .u8 s.back.r, .int .u8 s.back.g, .int .u8 s.back.b, .int .u8 s.back.a, .string s.text, .int .i64 s.node] 36)); refine hK _ _ hS6 ?_; clear hK
      (try simp only [pu])
      (refine' held_one (i := 6) _ (by kernel_rfl) _ _; rotate_left; (focus exact geti); (focus rfl); intro K hK)
      refine wp_append_blk _ _ _ rfl w2.heap.size 36 iM _ 15 72 Tryz.underlying22 hi0 hm0 hm1 hm2 rfl (by omega) _ 1 _ _ _ _ _ _ (by rfl) ((own4.out.alloc _).alloc _) (Blk.new' (b := w4.heap.size + 1) (by simp)) (by rfl) (by rfl) (by simp [Value.oneCell']) (by omega) (by unfold maxLen; omega) (by simp; omega) ?_
      intro v5 w5 own5 gr5 at5 hb5
      have hS5 := held_grown hS6 gr5 (not_block lo1.out (by simp)) (hS6.1.trans (hb5.mono (by omega))); have blk5 := Blk.keep (b := w4.heap.size) (cs := [.int .i64 q.x, .int .i64 q.y, .int .i64 q.wd, .int .i64 q.ht]) (e := 32) (by repeat (first | (with_reducible assumption) | (with_reducible refine Blk.drew ?_) | ((with_reducible refine Blk.new' ?_); (simp; done)) | (with_reducible refine Blk.alloc ?_ _) | ((with_reducible refine Blk.set_ne ?_ ?_ _); rotate_left; (focus (first | (simp; omega) | omega))))) gr5 (fun h => by have := lo1.out _ h; omega); refine hK _ _ hS5 ?_; clear hK
      (try simp only [pu])
      have ownR5 := own_keep ((ownR4.out.drew.alloc _).alloc _) gr5 (fun g h1 h2 => hap.out g h2 h1); have z5 := gr5.size
      simp at z5
      replace own5 := hdh own5; replace ownR5 := hdh ownR5
      (refine' held_one (i := 10) _ (by kernel_rfl) _ _; rotate_left; (focus exact geti); (focus rfl); intro K hK)
      refine wp_append_blk _ _ _ rfl w2.heap.size 32 iR _ 4 32 Tryz.underlying25 hr0 hr1 hr2 hr3 rfl (by omega) _ 1 _ _ _ _ _ _ (by rfl) ownR5.out blk5 (by rfl) (by rfl) (by simp [Value.oneCell']) (by omega) (by unfold maxLen; omega) (by omega) ?_
      intro v6 w6 own6 gr6 at6 hb6
      have hS6 := hS5; have ap5 : Apart v5 _ := apart_next (C := w5.heap.size) hap.out lo1.out lo2.out (fun g h => (at5 g h).imp id (fun h => by simp at h; omega)) (fun g h => (own_in own5.out g h).2) (fun g h => .inl h); have own5' := own_keep own5.out gr6 (fun g h1 h2 => ap5 g h1 h2); have ap6 : Apart v5 v6 := apart_next (C := w5.heap.size) hap.out lo1.out lo2.out (fun g h => (at5 g h).imp id (fun h => by simp at h; omega)) (fun g h => (own_in own5.out g h).2) at6; have hS7 := held_grown hS6 gr6 (not_block lo2.out (by simp)) (hS6.1.trans (hb6.mono (by omega))); refine hK _ _ hS7 ?_; clear hK
      (try simp only [pu])
      replace own5' := hdh own5'; replace own6 := hdh own6; replace ap6 := hdh ap6
      (refine honn 11 fun K hK => ?_; go_simp)
      refine hK _ _ hS7 ?_; clear hK
      (try simp only [pu])
      (refine honn 12 fun K hK => ?_; go_simp)
      refine hK _ _ hS7 ?_; clear hK
      (try simp only [pu])
      refine wpAnyH_done (by kernel_rfl) ?_ _; go_wp2
      go_roundg (n - (k + 1))
      case measure => omega
      case rel =>
       refine ⟨k + 1, by omega, by omega, by go_num, ?_, ?_, ap6.out, hS7.1⟩
       ·rw [eS.out]
        unfold Owns; rw [List.length_append, List.flatMap_append]; exact own5'.out
       ·rw [eR.out]
        unfold OwnsR; rw [List.length_append, List.flatMap_append]; exact own6.out
   ·obtain rfl : k = n := by omega
    rw [List.take_of_length_le (by have := en.out; omega), List.take_of_length_le (by have := hRl.out; omega)] at hownR; rw [List.take_of_length_le (by have := en.out; omega)] at hown; replace hown := hdh hown; replace hownR := hdh hownR; replace hap := hdh hap; go_wp2; go_ret3; exact ⟨hb02.trans (hbr.mono z02), _, _, rfl, own_less hown.out z02, own_less hownR.out z02, hap.out⟩
 ·have hfS : flS xs = [] := if_neg c1
  have hfR : flR xs = [] := if_neg c1
  have hcb : (chkL xs == 0) = false := by simp [c1]
  rw [hfS, hfR]; rw [en] at C1 ⊢; replace C1 := hdh C1; clear c1 K1
  go_enter Tryz.func36, Tryz.ntmps36
  go_wp2_with (first
   | (go_at_call 38; (with_reducible refine cmm (C1.out _ belt) fun w3 hb3 => ?_))
   | go_in)
  go_ret3; exact ⟨hb3, _, _, rfl, Owns.nil _ _, World.ownsRow_nil _ _ _ _, Apart.none _ _ _⟩
end
section
def sidesR (p : Re) : List Re := [⟨p.x, p.y, p.wd, 1⟩, ⟨p.x, p.y, 1, p.ht⟩, ⟨p.x + (p.wd - 1), p.y, 1, p.ht⟩, ⟨p.x, p.y + (p.ht - 1), p.wd, 1⟩]
def meets (l : List Re) (q : Re) : List Re := (l.map fun p => meetR p q).filter fun m => !m.eqb Re.none
def plcL (s : St) (q : Re) : List Re := if q.eqb Re.none || !drB s then [] else if s.kind = 3 then (if s.text.toList = [] then [] else [q]) else if s.col.a = 0 then [] else if s.kind = 1 then [q] else meets (sidesR s.rect) q
def TwoBox (w0 : World) (q1 q2 : Re) (v1 v2 : Value) (wx : World) : Prop := ∃ b1 b2, v1 = .pointer (some ⟨b1, 0, none⟩) ∧ v2 = .pointer (some ⟨b2, 0, none⟩) ∧ b1 ≠ b2 ∧ w0.heap.size ≤ b1 ∧ w0.heap.size ≤ b2 ∧ b1 < wx.heap.size ∧ b2 < wx.heap.size ∧ RBox wx b1 q1 ∧ RBox wx b2 q2 ∧ Below w0.heap.size w0 wx
theorem meets_le (l : List Re) (q : Re) : (meets l q).length ≤ l.length := by
 unfold meets; have := List.length_filter_le (fun m : Re => !m.eqb Re.none) (l.map fun p => meetR p q)
 simpa using this
theorem meets_snoc {l : List Re} {q p : Re} {k : Nat} (hp : l[k]? = some p) : meets (l.take (k + 1)) q = meets (l.take k) q ++ if (meetR p q).eqb Re.none then [] else [meetR p q] := by
 unfold meets; rw [List.take_add_one, hp, List.map_append, List.filter_append]
 congr 1
 cases h : (meetR p q).eqb Re.none <;> simp [h]
attribute [local go_sem high] eql_rect neq_rect
theorem side_wf {r p : Re} (hm : mayR r = true) (hp : p ∈ sidesR r) : p.Wf := by
 have := may_bd hm; unfold sidesR at hp; simp only [List.mem_cons, List.not_mem_nil, or_false] at hp
 rcases hp with rfl | rfl | rfl | rfl <;> (unfold Re.Wf I64; simp only; omega)
end
end
def edgeP (q : Re) (x y : Int) : Bool := x == q.x || y == q.y || x == q.x + q.wd - 1 || y == q.y + q.ht - 1
def paintP (s : St) (x y : Int) (out : List St) : List St :=
 if s.kind = 1 then (if s.col.a = 255 then [s] else if 0 < s.col.a then out ++ [s] else out)
 else if s.kind = 2 then (if edgeP s.rect x y && decide (0 < s.col.a) then out ++ [s] else out)
 else (if s.text.toList = [] then out else out ++ [s])
def atGo (x y : Int) : List St → Bool → List Bool → List St → List St
 | [], _, _, out => out
 | s :: l, b, cl, out =>
  if s.kind = 4 then atGo x y l (b && hasR s.rect x y) (b :: cl) out
  else if s.kind = 5 then (match cl with
   | [] => []
   | c :: cl => atGo x y l c cl out)
  else atGo x y l b cl (if b && hasR s.rect x y then paintP s x y out else out)
def atL (xs : List St) (x y : Int) : List St := atGo x y xs true [] []
theorem at_cons (x y : Int) (s : St) (l : List St) (b : Bool) (cl : List Bool) (out : List St) : atGo x y (s :: l) b cl out =
  if s.kind = 4 then atGo x y l (b && hasR s.rect x y) (b :: cl) out
  else if s.kind = 5 then (match cl with
   | [] => []
   | c :: cl => atGo x y l c cl out)
  else atGo x y l b cl (if b && hasR s.rect x y then paintP s x y out else out) := by cases cl <;> rfl
end Go.Proofs.YtfcphagmjijmkaaGreatDoor
