/-
  Rows of rectangles beside one another: their forms; the law's 'row'.
-/
import Derived.Test.YtlklmncjicgbgaaRegCj
import Derived.Test.YtlklmncjicgbgaaRegBj
import Derived.OwnWalk
namespace Go.Proofs.Ytlklmncjicgbgaa
open Go.RowKit
set_option linter.unusedVariables false
attribute [local go_sem] vwp vUpon_value vUpon_skip vUpon_enter vUpon_row
set_option linter.unusedSimpArgs false
set_option linter.unusedVariables false
def oneR (i : Nat) : Re := ⟨2 * (i : Int), 0, 1, 1⟩
def rowR (n : Nat) : List Re := (List.range n).map oneR
theorem rowR_len (n : Nat) : (rowR n).length = n := by unfold rowR; simp
theorem rowR_at {n i : Nat} (h : i < n) : (rowR n)[i]? = some (oneR i) := by unfold rowR; simp [h]
theorem rowR_succ (n : Nat) : rowR (n + 1) = rowR n ++ [oneR n] := by unfold rowR; rw [List.range_succ, List.map_append]; rfl
theorem rowR_take {n k : Nat} (h : k ≤ n) : (rowR n).take k = rowR k := by
  unfold rowR
  rw [← List.map_take, List.take_range, Nat.min_eq_left h]
theorem rowR_may {n : Nat} (h : n ≤ 8000) : MayL (rowR n) := by
  intro q hq
  unfold rowR at hq
  obtain ⟨i, hi, rfl⟩ := List.mem_map.1 hq
  have := List.mem_range.1 hi
  refine may_mk ?_ ?_ ?_ ?_ ?_ ?_ <;> simp only [oneR, InM] <;> omega
def rowS' (n k : Nat) : List Sp := (List.range' k n).map fun (i : Nat) => (2 * (i : Int), 2 * (i : Int) + 1)
theorem rowS_can : ∀ n k, CanS (rowS' n k)
  | 0, k => trivial
  | 1, k => by
    show CanS [(2 * (k : Int), 2 * (k : Int) + 1)]
    simp only [CanS]; omega
  | n + 2, k => by
    have ih := rowS_can (n + 1) (k + 1)
    have e : rowS' (n + 2) k = (2 * (k : Int), 2 * (k : Int) + 1) :: (2 * ((k + 1 : Nat) : Int), 2 * ((k + 1 : Nat) : Int) + 1) :: rowS' n (k + 1 + 1) := rfl
    have e2 : rowS' (n + 1) (k + 1) = (2 * ((k + 1 : Nat) : Int), 2 * ((k + 1 : Nat) : Int) + 1) :: rowS' n (k + 1 + 1) := rfl
    rw [e2] at ih
    rw [e]
    unfold CanS
    refine ⟨by simp only; omega, by simp only; omega, ih⟩
theorem rowR_rects (n : Nat) : rectsOf 0 1 (rowS' n 0) = rowR n := by
  unfold rectsOf rowS' rowR oneR
  rw [List.map_map, ← List.range_eq_range']
  apply List.map_congr_left
  intro i _
  simp only [Function.comp]
  congr 1
  omega
/-- A row is its own form. -/
theorem rowR_form (n : Nat) (h : n ≤ 8000) : formR (rowR n) [] 1 = rowR n := by
  have hs := (rowR_may h).sane
  cases n with
  | zero => rfl
  | succ n =>
    obtain ⟨h1, h2⟩ := bands_spec hs sane_nil 1
    have hne : rowS' (n + 1) 0 ≠ [] := by unfold rowS'; simp
    have hc : CanB [((0 : Int), (1 : Int), rowS' (n + 1) 0)] := by
      simp only [CanB]
      exact ⟨by simp only; omega, hne, rowS_can _ _⟩
    have hu := canB_unique h1 hc (fun x z => by
      rw [h2 x z, kept_one]
      have : flatB [((0 : Int), (1 : Int), rowS' (n + 1) 0)] = rowR (n + 1) := by
        unfold flatB
        simp only [List.flatMap_cons, List.flatMap_nil, List.append_nil]
        exact rowR_rects (n + 1)
      rw [← this, has_flat])
    unfold formR
    rw [hu]
    unfold flatB
    simp only [List.flatMap_cons, List.flatMap_nil, List.append_nil]
    exact rowR_rects (n + 1)
theorem rowR_same (n : Nat) (h : n + 1 ≤ 8000) : formR (rowR n) [oneR n] 1 = rowR (n + 1) := by
  have h1 := rowR_may (n := n) (by omega)
  have h2 : MayL [oneR n] := fun q hq => rowR_may h q (by rw [rowR_succ]; exact List.mem_append_right _ hq)
  rw [← rowR_form (n + 1) h]
  exact form_same h1.sane h2.sane (rowR_may h).sane sane_nil (fun x z => by
    rw [want1, want1, has_nil, Bool.or_false, rowR_succ, has_append])
theorem twin_form (n : Nat) (q : Re) (hq : mayR q = true) (h : 0 < n) : formR (List.replicate n q) [] 1 = formR [q] [] 1 := by
  have h1 : MayL (List.replicate n q) := fun p hp => by rw [(List.mem_replicate.1 hp).2]; exact hq
  have h2 : MayL [q] := fun p hp => by rw [List.mem_singleton.1 hp]; exact hq
  exact form_same h1.sane sane_nil h2.sane sane_nil (fun x z => by
    rw [has_mem (a := List.replicate n q) (b := [q]) (fun p => by simp [List.mem_replicate]; omega) x z])
theorem madeCells_rects (n : Nat) : madeCells (Value.agg #[.int .i64 0, .int .i64 0, .int .i64 0, .int .i64 0]).cells (n * 4) = ((List.replicate n Re.none).flatMap Re.enc).toArray := by
  apply Array.ext'
  simp only
  apply List.ext_getElem?
  intro p
  have hz : ∀ i, i < 4 → (Re.none.enc)[i]? = some (Value.int .i64 0) := by
    intro i hi
    match i, hi with
    | 0, _ => rfl
    | 1, _ => rfl
    | 2, _ => rfl
    | 3, _ => rfl
  have hz' : ∀ i, i < 4 → ((Value.agg #[.int .i64 0, .int .i64 0, .int .i64 0, .int .i64 0]).cells)[i]! = Value.int .i64 0 := by
    intro i hi
    match i, hi with
    | 0, _ => rfl
    | 1, _ => rfl
    | 2, _ => rfl
    | 3, _ => rfl
  have hsz : ((Value.agg #[.int .i64 0, .int .i64 0, .int .i64 0, .int .i64 0]).cells).size = 4 := rfl
  rw [flat_get Re.enc_len (by omega)]
  by_cases hp : p < n * 4
  · have h1 : p / 4 < n := by omega
    rw [List.getElem?_replicate, if_pos h1]
    simp only [Option.bind_some]
    rw [hz _ (by omega)]
    have : (madeCells (Value.agg #[.int .i64 0, .int .i64 0, .int .i64 0, .int .i64 0]).cells (n * 4))[p]? = some (Value.int .i64 0) := by
      unfold madeCells
      rw [Array.getElem?_map, Array.getElem?_range, if_pos hp]
      simp only [Option.map_some]
      rw [hsz, hz' _ (by omega)]
    simpa using this
  · have h1 : ¬ p / 4 < n := by omega
    rw [List.getElem?_replicate, if_neg h1]
    have : (madeCells (Value.agg #[.int .i64 0, .int .i64 0, .int .i64 0, .int .i64 0]).cells (n * 4))[p]? = none := by
      rw [Array.getElem?_eq_none]
      rw [size_madeCells]; omega
    simpa using this
/-- What is made, as a row. -/
theorem made_rects {w : World} {base g n : Nat} (h : w.ownsRow base 49 4 (.slice (some ⟨g, 0, none⟩) n n) n (madeCells (Value.agg #[.int .i64 0, .int .i64 0, .int .i64 0, .int .i64 0]).cells (n * 4)).toList) : CutR base w (.slice (some ⟨g, 0, none⟩) n n) (List.replicate n Re.none) := by
  rw [madeCells_rects] at h
  refine CutR.own ?_
  unfold OwnsR
  rw [List.length_replicate]
  exact h
/-- Four stores are one rectangle. -/
theorem CutR.put4 {base g n cap k : Nat} {w : World} {l : List Re} {p : Re} (h : CutR base w (.slice (some ⟨g, 0, none⟩) n cap) l) (hs : l[k]? = some p) (q : Re) :
    CutR base ((((w.setCell ⟨g, k * 4, none⟩ (.int .i64 q.x)).setCell ⟨g, k * 4 + 1, none⟩ (.int .i64 q.y)).setCell ⟨g, k * 4 + 2, none⟩ (.int .i64 q.wd)).setCell ⟨g, k * 4 + 3, none⟩ (.int .i64 q.ht)) (.slice (some ⟨g, 0, none⟩) n cap) (l.set k q) := by
  have hk := (List.getElem?_eq_some_iff.1 hs).1
  have at_ : ∀ r : Re, (l.set k r)[k]? = some r := fun r => by rw [List.getElem?_set_self hk]
  have h1 := h.put (i := 0) (u := .int .i64 q.x) (q' := ⟨q.x, p.y, p.wd, p.ht⟩) hs (by omega) rfl
  have h2 := h1.put (i := 1) (u := .int .i64 q.y) (q' := ⟨q.x, q.y, p.wd, p.ht⟩) (at_ _) (by omega) rfl
  rw [List.set_set] at h2
  have h3 := h2.put (i := 2) (u := .int .i64 q.wd) (q' := ⟨q.x, q.y, q.wd, p.ht⟩) (at_ _) (by omega) rfl
  rw [List.set_set] at h3
  have h4 := h3.put (i := 3) (u := .int .i64 q.ht) (q' := q) (at_ _) (by omega) rfl
  rw [List.set_set] at h4
  exact h4
theorem fill_set {k n : Nat} {F : List Re} {q : Re} (hF : F.length = n) (h : F[k]? = some q) (hk : k < n) : (F.take k ++ List.replicate (n - k) Re.none)[k]? = some Re.none ∧ (F.take k ++ List.replicate (n - k) Re.none).set k q = F.take (k + 1) ++ List.replicate (n - (k + 1)) Re.none := by
  constructor
  · rw [List.getElem?_append_right (by rw [List.length_take]; omega), List.length_take, Nat.min_eq_left (by omega), Nat.sub_self, List.getElem?_replicate, if_pos (by omega)]
  · rw [List.set_append_right _ _ (by rw [List.length_take]; omega), List.length_take, Nat.min_eq_left (by omega), Nat.sub_self, List.take_add_one, h]
    obtain ⟨m, hm⟩ : ∃ m, n - k = m + 1 := ⟨n - k - 1, by omega⟩
    rw [hm, List.replicate_succ, List.set_cons_zero, show n - (k + 1) = m by omega]
    simp
def RowRPost (n : Nat) (w : World) (e : Ending) (w' : World) : Prop := Below w.heap.size w w' ∧ ∃ g, e = .returned (.slice (some ⟨g, 0, none⟩) n n) ∧ CutR w.heap.size w' (.slice (some ⟨g, 0, none⟩) n n) (rowR n)
set_option maxHeartbeats 1000000 in
set_option maxRecDepth 100000 in
theorem lrow_any (n : Nat) (hn : n ≤ 5000) (w : World) : Calls Try.prog 37 #[.int .i64 n] w (RowRPost n w) := by
  obtain ⟨iM, hi0, hm0, hm1, hm2⟩ := info_parts infoRe
  go_enter Try.func37, Try.ntmps37
  go_wp2_with (first | (at_make; refine wpList_make_full w rfl _ _ _ rfl w.heap.size 49 iM _ 4 Try.underlying22 hi0 hm0 hm1 .i64 .i64 _ _ n rfl rfl (by omega) (by omega) (by rw [hm2]; omega) (by unfold maxLen; omega) (Nat.le_refl _) ?_; intro w2 hown2 hg2) | go_in)
  have hb2 : Below w.heap.size w w2 := (Below.refl _ _).grown hg2 (Nat.le_refl _) (fun k e => by cases e)
  have hcut := made_rects hown2
  have hst : Hid (CutR w.heap.size w2 (.slice (some ⟨w.heap.size, 0, none⟩) n n) ((rowR n).take 0 ++ List.replicate (n - 0) Re.none)) := Lib.hid (by simpa using hcut)
  obtain ⟨g, hgw⟩ : ∃ g, w.heap.size = g := ⟨_, rfl⟩
  have hgg : w.heap.size ≤ g := by omega
  have hst : Hid (CutR w.heap.size w2 (.slice (some ⟨g, 0, none⟩) n n) ((rowR n).take 0 ++ List.replicate (n - 0) Re.none)) := by rw [← hgw]; exact hst
  rw [hgw]
  clear hown2 hg2 hcut hgw
  go_loopw [4] (fun iv wr => ∃ k : Nat, k ≤ n ∧ iv = .int .i64 k ∧ Hid (CutR w.heap.size wr (.slice (some ⟨g, 0, none⟩) n n) ((rowR n).take k ++ List.replicate (n - k) Re.none)) ∧ Below w.heap.size w wr) (fun iv _ => n - (intOf iv).toNat)
  case atStart => exact ⟨0, Nat.zero_le _, rfl, hst, hb2⟩
  case round =>
    clear hst hb2
    obtain ⟨k, hk, rfl, hcut, hbr⟩ := hrel
    have zr := hbr.size
    by_cases hkn : k < n
    · obtain ⟨f1, f2⟩ := fill_set (rowR_len n) (rowR_at hkn) hkn
      obtain ⟨r0, r1, r2, r3⟩ := hcut.out.rmem f1
      have hfz := hcut.out.free
      have hkk : (k : Int) < n := by omega
      replace f1 := Lib.hid f1
      replace f2 := Lib.hid f2
      go_wp2
      go_roundw
      case rel =>
        refine ⟨k + 1, by omega, by go_num, Lib.hid ?_, ?_⟩
        · rw [← f2.out]
          exact hcut.out.put4 f1.out (oneR k)
        · exact ((((hbr.setCell hgg _).setCell hgg _).setCell hgg _).setCell hgg _)
      case measure => simp [intOf]; omega
    · obtain rfl : k = n := by omega
      have hc := hcut.out
      rw [List.take_of_length_le (by rw [rowR_len]; omega), Nat.sub_self, List.replicate_zero, List.append_nil] at hc
      replace hc := Lib.hid hc
      go_wp2
      go_ret
      exact ⟨hbr, g, rfl, hc.out⟩
end Go.Proofs.Ytlklmncjicgbgaa
