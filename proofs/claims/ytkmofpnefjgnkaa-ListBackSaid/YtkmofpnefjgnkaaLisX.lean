/-
  Where strokes show: plain; rows of rectangles.
-/
import Derived.Test.YtkmofpnefjgnkaaLisW
import Derived.Laws.OwnMore
namespace Go.Proofs.Ytkmofpnefjgnkaa
open Go.RowKit
set_option linter.unusedVariables false
attribute [local go_sem] vwp vUpon_value vUpon_skip vUpon_enter vUpon_row
set_option linter.unusedSimpArgs false
set_option linter.unusedVariables false
/-- Where one shows, within the innermost of what is cut. -/
def shQ (M : List Re) (s : St) : Re := match M.getLast? with
  | none => s.rect
  | some t => meetR s.rect t
def shR (M : List Re) (s : St) : Re := if emptyR (shQ M s) then Re.none else shQ M s
def shN (M : List Re) (s : St) : List Re := if s.kind = 4 then M ++ [shR M s] else if s.kind = 5 then M.dropLast else M
def shGo : List Re → List St → List Re
  | _, [] => []
  | M, s :: r => shR M s :: shGo (shN M s) r
def shL (xs : List St) : List Re := shGo [] xs
theorem shGo_len : ∀ (xs : List St) (M : List Re), (shGo M xs).length = xs.length
  | [], _ => rfl
  | s :: xs, M => by simp [shGo, shGo_len xs]
theorem shL_len (xs : List St) : (shL xs).length = xs.length := shGo_len xs []
theorem shQ_may {M : List Re} {s : St} (hM : ∀ q ∈ M, mayR q = true) (hs : mayR s.rect = true) : mayR (shQ M s) = true := by
  unfold shQ
  split
  · exact hs
  · exact meet_may _ _
theorem shR_may {M : List Re} {s : St} (hM : ∀ q ∈ M, mayR q = true) (hs : mayR s.rect = true) : mayR (shR M s) = true := by
  unfold shR
  split
  · exact Re.none_may
  · exact shQ_may hM hs
theorem shN_may {M : List Re} {s : St} (hM : ∀ q ∈ M, mayR q = true) (hs : mayR s.rect = true) : ∀ q ∈ shN M s, mayR q = true := by
  intro q hq
  unfold shN at hq
  split at hq
  · rcases List.mem_append.1 hq with h | h
    · exact hM q h
    · simp at h; subst h; exact shR_may hM hs
  · split at hq
    · exact hM q (List.dropLast_subset _ hq)
    · exact hM q hq
theorem shGo_may : ∀ (xs : List St) (M : List Re), (∀ q ∈ M, mayR q = true) → (∀ s ∈ xs, mayR s.rect = true) → ∀ q ∈ shGo M xs, mayR q = true
  | [], M, _, _, q, hq => by simp [shGo] at hq
  | s :: xs, M, hM, hx, q, hq => by
    simp only [shGo, List.mem_cons] at hq
    rcases hq with rfl | hq
    · exact shR_may hM (hx s (by simp))
    · exact shGo_may xs _ (shN_may hM (hx s (by simp))) (fun t ht => hx t (by simp [ht])) q hq
theorem opn_len {M : List Re} {s : St} (h : ¬ opn M.length s < 0) : ((shN M s).length : Int) = opn M.length s ∧ (s.kind = 5 → 0 < M.length) := by
  unfold opn at h ⊢
  unfold shN
  split
  · rename_i h4
    exact ⟨by simp, fun h5 => by omega⟩
  · rename_i h4
    rw [if_neg h4] at h
    split
    · rename_i h5
      rw [if_pos h5] at h
      exact ⟨by simp; omega, fun _ => by omega⟩
    · rename_i h5
      exact ⟨rfl, fun h => absurd h h5⟩
theorem shN_le (M : List Re) (s : St) : (shN M s).length ≤ M.length + 1 := by
  unfold shN
  split
  · simp
  · split
    · simp; omega
    · omega
/-- One step of the list's own check. -/
theorem chk_cons {o : Int} {xs : List St} {k : Nat} {s : St} (hs : xs[k]? = some s) (h : chkGo o (xs.drop k) = 0) : errS s = 0 ∧ ¬ opn o s < 0 ∧ chkGo (opn o s) (xs.drop (k + 1)) = 0 := by
  rw [go_step hs] at h
  by_cases h1 : errS s = 0
  · rw [if_neg (by simp [h1])] at h
    by_cases h2 : opn o s < 0
    · rw [if_pos h2] at h; cases h
    · rw [if_neg h2] at h; exact ⟨h1, h2, h⟩
  · rw [if_pos h1] at h; exact absurd h h1
theorem chk_go {xs : List St} (h : chkL xs = 0) : chkGo 0 xs = 0 := by
  unfold chkL at h
  split at h
  · cases h
  · exact h
theorem shGo_drop {M : List Re} {xs : List St} {k : Nat} {s : St} (hs : xs[k]? = some s) : shGo M (xs.drop k) = shR M s :: shGo (shN M s) (xs.drop (k + 1)) := by
  obtain ⟨hk, e⟩ := List.getElem?_eq_some_iff.1 hs
  rw [List.drop_eq_getElem_cons hk, e]
  rfl
theorem Re.enc_len (q : Re) : q.enc.length = 4 := rfl
theorem Re.enc_one (q : Re) : ∀ u ∈ q.enc, u.oneCell' = true := by
  intro u hu
  simp only [Re.enc, List.mem_cons, List.not_mem_nil, or_false] at hu
  rcases hu with rfl | rfl | rfl | rfl <;> rfl
theorem infoRe : (Try.prog.info? 41).map (fun i => (i.zero, i.size, i.bytes)) = some (some (.agg #[.int .i64 0, .int .i64 0, .int .i64 0, .int .i64 0]), 4, 32) := by kernel_rfl
theorem madeCells_rects (n : Nat) : madeCells (Value.agg #[.int .i64 0, .int .i64 0, .int .i64 0, .int .i64 0]).cells (n * 4) = ((List.replicate n Re.none).flatMap Re.enc).toArray := by
  apply Array.ext'
  simp only
  apply List.ext_getElem?
  intro p
  have hz : ∀ i, i < 4 → (Re.none.enc)[i]? = some (Value.int .i64 0) := by
    intro i hi
    match i, hi with
    | 0, _ => rfl
    | 1, _ => rfl
    | 2, _ => rfl
    | 3, _ => rfl
  have hz' : ∀ i, i < 4 → ((Value.agg #[.int .i64 0, .int .i64 0, .int .i64 0, .int .i64 0]).cells)[i]! = Value.int .i64 0 := by
    intro i hi
    match i, hi with
    | 0, _ => rfl
    | 1, _ => rfl
    | 2, _ => rfl
    | 3, _ => rfl
  have hsz : ((Value.agg #[.int .i64 0, .int .i64 0, .int .i64 0, .int .i64 0]).cells).size = 4 := rfl
  rw [flat_get Re.enc_len (by omega)]
  by_cases hp : p < n * 4
  · have h1 : p / 4 < n := by omega
    rw [List.getElem?_replicate, if_pos h1]
    simp only [Option.bind_some]
    rw [hz _ (by omega)]
    have : (madeCells (Value.agg #[.int .i64 0, .int .i64 0, .int .i64 0, .int .i64 0]).cells (n * 4))[p]? = some (Value.int .i64 0) := by
      unfold madeCells
      rw [Array.getElem?_map, Array.getElem?_range, if_pos hp]
      simp only [Option.map_some]
      rw [hsz, hz' _ (by omega)]
    simpa using this
  · have h1 : ¬ p / 4 < n := by omega
    rw [List.getElem?_replicate, if_neg h1]
    have : (madeCells (Value.agg #[.int .i64 0, .int .i64 0, .int .i64 0, .int .i64 0]).cells (n * 4))[p]? = none := by
      rw [Array.getElem?_eq_none]
      rw [size_madeCells]; omega
    simpa using this
theorem make_rects (n : Nat) (hn : n ≤ 16384) (w : World) : (Instr.makeSlice 35 (.int .i64 n) (.int .i64 n)).run Try.prog w = .ok (.slice (some ⟨w.heap.size, 0, none⟩) n n) (w.alloc (.cells ((List.replicate n Re.none).flatMap Re.enc).toArray 41)) := by
  obtain ⟨i0, hi, hz0, hz1, hz2⟩ := info_parts infoRe
  have h := run_make (P := Try.prog) w 35 41 i0 _ Try.underlying35 hi hz0 .i64 .i64 n n (by omega) (Int.le_refl _) (by rw [hz2]; omega) (by omega)
  rw [h, hz1, Int.toNat_natCast, madeCells_rects]
/-- Four stores are one rectangle. -/
theorem flat_put {D : List Re} {k : Nat} {p : Re} (q : Re) (h : D[k]? = some p) : ((((D.flatMap Re.enc).set (k * 4 + 0) (.int .i64 q.x)).set (k * 4 + 1) (.int .i64 q.y)).set (k * 4 + 2) (.int .i64 q.wd)).set (k * 4 + 3) (.int .i64 q.ht) = (D.set k q).flatMap Re.enc := by
  have hk := (List.getElem?_eq_some_iff.1 h).1
  have g : ∀ r : Re, (D.set k r)[k]? = some r := fun r => by rw [List.getElem?_set_self hk]
  rw [flat_set Re.enc_len 0 _ p ⟨q.x, p.y, p.wd, p.ht⟩ (by omega) rfl D k h,
    flat_set Re.enc_len 1 _ ⟨q.x, p.y, p.wd, p.ht⟩ ⟨q.x, q.y, p.wd, p.ht⟩ (by omega) rfl _ k (g _), List.set_set,
    flat_set Re.enc_len 2 _ ⟨q.x, q.y, p.wd, p.ht⟩ ⟨q.x, q.y, q.wd, p.ht⟩ (by omega) rfl _ k (g _), List.set_set,
    flat_set Re.enc_len 3 _ ⟨q.x, q.y, q.wd, p.ht⟩ q (by omega) rfl _ k (g _), List.set_set]
theorem take_put {D : List Re} {k : Nat} (q : Re) (h : k < D.length) : (D.set k q).take (k + 1) = D.take k ++ [q] := by
  rw [List.take_add_one, List.getElem?_set_self h, List.take_set_of_le (Nat.le_refl _)]
  rfl
/-- A row of the call's own, of rectangles. -/
def OwnsR (base : Nat) (w : World) (v : Value) (rs : List Re) : Prop := w.ownsRow base 41 4 v rs.length (rs.flatMap Re.enc)
theorem OwnsR.row {base B : Nat} {w : World} {v : Value} {rs : List Re} (h : OwnsR base w v rs) (hB : w.heap.size ≤ B) : Row B 4 Re.enc w v rs := Row.own Re.enc_len h hB (by omega)
theorem OwnsR.below {base B : Nat} {w w' : World} {v : Value} {rs : List Re} (h : OwnsR base w v rs) (hb : Below B w w') (hB : w.heap.size ≤ B) : OwnsR base w' v rs := ownsRow_below h hb hB
theorem Blk.ownsR {base g : Nat} {w : World} {rs : List Re} {n : Nat} (h : Blk w g (rs.flatMap Re.enc) 41) (hn : rs.length = n) (hg : base ≤ g) (hm : n ≤ maxLen) : OwnsR base w (.slice (some ⟨g, 0, none⟩) n n) rs := by
  unfold OwnsR
  rw [hn]
  refine ⟨by rw [flat_len Re.enc_len, hn], .inr ⟨g, n, _, rfl, hg, h, Nat.le_refl _, hm, ?_, ?_⟩⟩
  · simp [flat_len Re.enc_len, hn]
  · rw [List.take_of_length_le (by rw [flat_len Re.enc_len, hn]; omega)]
/-- A store elsewhere leaves it. -/
theorem own_other {w : World} {base n sz : Nat} {e : TypeId} {v : Value} {cs : List Value} (h : w.ownsRow base e sz v n cs) {a : Addr} (ha : ∀ g, v.ownBlock = some g → g ≠ a.block) (u : Value) : (w.setCell a u).ownsRow base e sz v n cs := by
  obtain ⟨h1, h2⟩ := h
  refine ⟨h1, ?_⟩
  rcases h2 with h2 | ⟨g, cap, cur, rfl, hg, hh, r⟩
  · exact .inl h2
  · refine .inr ⟨g, cap, cur, rfl, hg, ?_, r⟩
    rw [heap_setCell_other _ _ _ _ (ha g rfl)]
    exact hh
theorem own_block_lt {w : World} {base n sz : Nat} {e : TypeId} {v : Value} {cs : List Value} (h : w.ownsRow base e sz v n cs) : ∀ g, v.ownBlock = some g → base ≤ g ∧ g < w.heap.size := by
  intro g hg
  rcases h.2 with ⟨rfl, _⟩ | ⟨g', cap, cur, rfl, hb, hh, _⟩
  · cases hg
  · simp [Value.ownBlock] at hg
    subst hg
    exact ⟨hb, lt_of_block hh⟩
/-- The last is taken off. -/
theorem own_pop {w : World} {base : Nat} {s : Option Addr} {cap : Nat} {M : List Re} (h : OwnsR base w (.slice s M.length cap) M) (h0 : 0 < M.length) : OwnsR base w (.slice s (M.length - 1) cap) M.dropLast := by
  rcases h.2 with ⟨e, _⟩ | ⟨g, cap', cur, e, hg, hh, hnc, hcm, hcur, htake⟩
  · injection e with _ e2 _
    omega
  · injection e with e1 _ e3
    subst e1
    subst e3
    unfold OwnsR
    rw [List.length_dropLast]
    have hf : M.dropLast.flatMap Re.enc = (M.flatMap Re.enc).take ((M.length - 1) * 4) := by
      have hM : M = M.dropLast ++ [M.getLast (by intro h; rw [h] at h0; simp at h0)] := (List.dropLast_concat_getLast _).symm
      conv => rhs; rw [hM, List.flatMap_append]
      rw [List.take_append_of_le_length (by rw [flat_len Re.enc_len]; simp), List.take_of_length_le (by rw [flat_len Re.enc_len]; simp)]
    refine ⟨by rw [flat_len Re.enc_len, List.length_dropLast], .inr ⟨g, cap, cur, rfl, hg, hh, by omega, hcm, hcur, ?_⟩⟩
    rw [hf, ← htake, List.take_take, Nat.min_eq_left (by omega)]
/-- The cells of one of its rectangles. -/
def RMem (w : World) (b p : Nat) (q : Re) : Prop := w.cell? ⟨b, p, none⟩ = some (.int .i64 q.x) ∧ w.cell? ⟨b, p + 1, none⟩ = some (.int .i64 q.y) ∧ w.cell? ⟨b, p + 2, none⟩ = some (.int .i64 q.wd) ∧ w.cell? ⟨b, p + 3, none⟩ = some (.int .i64 q.ht)
theorem row_re {B : Nat} {w : World} {v : Value} {rs : List Re} (h : Row B 4 Re.enc w v rs) (h0 : 0 < rs.length) :
    ∃ b o cap, v = .slice (some ⟨b, o, none⟩) rs.length cap ∧ b < B ∧ rs.length ≤ cap ∧ cap ≤ maxLen ∧ ∀ j q, rs[j]? = some q → RMem w b (o + j * 4) q := by
  obtain ⟨b, o, cap, e, hb, h1, h2, hx⟩ := h.open_ h0
  exact ⟨b, o, cap, e, hb, h1, h2, fun j s hj => ⟨hx j s hj 0 _ rfl, hx j s hj 1 _ rfl, hx j s hj 2 _ rfl, hx j s hj 3 _ rfl⟩⟩
theorem own_rmem {w : World} {base g n cap k : Nat} {rs : List Re} {q : Re} (h : OwnsR base w (.slice (some ⟨g, 0, none⟩) n cap) rs) (hs : rs[k]? = some q) : RMem w g (k * 4) q := by
  obtain ⟨b, o, cap', e, _, _, _, hx⟩ := row_re (h.row (Nat.le_refl _)) (by have := (List.getElem?_eq_some_iff.1 hs).1; omega)
  injection e with e _ _
  injection e with e
  injection e with e1 e2 _
  subst e1
  subst e2
  have := hx k q hs
  rwa [Nat.zero_add] at this
end Go.Proofs.Ytkmofpnefjgnkaa
