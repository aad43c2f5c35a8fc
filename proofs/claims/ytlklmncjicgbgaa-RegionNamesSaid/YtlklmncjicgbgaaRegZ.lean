/-
  region.rows: where bands can begin and end.
-/
import Derived.Test.YtlklmncjicgbgaaRegT
import Derived.Test.YtlklmncjicgbgaaRegC
import Derived.Test.YtlklmncjicgbgaaRegD
namespace Go.Proofs.Ytlklmncjicgbgaa
open Go.RowKit
set_option linter.unusedVariables false
attribute [local go_sem] vwp vUpon_value vUpon_skip vUpon_enter vUpon_row
set_option linter.unusedSimpArgs false
set_option linter.unusedVariables false
def yOf (q : Re) : List Int := if noneR q then [] else [q.y, q.y + q.ht]
def ysL (ls : List (List Re)) : List Int := ls.flatMap fun l => l.flatMap yOf
theorem yOf_len (l : List Re) : (l.flatMap yOf).length ≤ l.length * 2 := by
  induction l with
  | nil => simp
  | cons q l ih =>
    rw [List.flatMap_cons, List.length_append, List.length_cons]
    have : (yOf q).length ≤ 2 := by unfold yOf; split <;> simp
    omega
theorem mem_yOf {l : List Re} {x : Int} : x ∈ l.flatMap yOf ↔ ∃ q ∈ l, OnY q x := by
  rw [List.mem_flatMap]
  constructor
  · rintro ⟨q, hq, h⟩
    refine ⟨q, hq, ?_⟩
    unfold yOf at h
    unfold OnY
    cases hn : noneR q
    · rw [hn] at h; simpa using h
    · rw [hn] at h; simp at h
  · rintro ⟨q, hq, h1, h2⟩
    refine ⟨q, hq, ?_⟩
    unfold yOf
    rw [h1]
    simpa using h2
theorem ys_two (a b : List Re) : onceI (ysL [a, b]) = edgesY a b := by
  obtain ⟨h1, h2⟩ := onceI_spec (ysL [a, b])
  refine rise_unique h1 (edgesY_rise a b) (fun x => ?_)
  rw [h2, mem_edgesY]
  unfold ysL
  simp only [List.flatMap_cons, List.flatMap_nil, List.append_nil, List.mem_append, mem_yOf]
  constructor
  · rintro (⟨q, hq, h⟩ | ⟨q, hq, h⟩)
    · exact ⟨q, .inl hq, h⟩
    · exact ⟨q, .inr hq, h⟩
  · rintro ⟨q, hq | hq, h⟩
    · exact .inl ⟨q, hq, h⟩
    · exact .inr ⟨q, hq, h⟩
theorem ysL_snoc {ls : List (Value × List Re)} {k : Nat} {p : Value × List Re} (h : ls[k]? = some p) : ysL (sndL (ls.take (k + 1))) = ysL (sndL (ls.take k)) ++ p.2.flatMap yOf := by
  unfold ysL sndL
  rw [List.take_add_one, h, List.map_append, List.flatMap_append]
  simp
theorem yOf_snoc {l : List Re} {j : Nat} {q : Re} (h : l[j]? = some q) : (l.take (j + 1)).flatMap yOf = (l.take j).flatMap yOf ++ yOf q := by
  rw [List.take_add_one, h, List.flatMap_append]
  simp
theorem ysL_len : ∀ (ls : List (Value × List Re)), (∀ p ∈ ls, p.2.length ≤ 100000) → (ysL (sndL ls)).length ≤ ls.length * 200000
  | [], _ => by simp [ysL, sndL]
  | p :: ls, h => by
    have ih := ysL_len ls (fun q hq => h q (by simp [hq]))
    have h1 := h p (by simp)
    have h2 := yOf_len p.2
    have e : ysL (sndL (p :: ls)) = p.2.flatMap yOf ++ ysL (sndL ls) := by simp [ysL, sndL]
    rw [e, List.length_append, List.length_cons]
    omega
def RowsPost (ys : List Int) (w : World) (e : Ending) (w' : World) : Prop := Below w.heap.size w w' ∧ ∃ v, e = .returned v ∧ OwnsI w.heap.size w' v ys
set_option maxHeartbeats 2000000 in
set_option maxRecDepth 100000 in
theorem rows_any (ls : List (Value × List Re)) (g n : Nat) (w : World) (hn : n ≤ 2) (h : Lists w g n ls) (hm : ∀ p ∈ ls, MayL p.2 ∧ p.2.length ≤ 100000) : Calls Try.prog 44 #[.slice (some ⟨g, 0, none⟩) n n] w (RowsPost (onceI (ysL (sndL ls))) w) := by
  obtain ⟨iI, hi0, hm0, hm1, hm2⟩ := info_parts infoIn
  obtain ⟨en, hg, hc⟩ := h
  obtain ⟨ns, hns⟩ : ∃ ns, ysL (sndL ls) = ns := ⟨_, rfl⟩
  have hnl : ns.length ≤ 400000 := by rw [← hns]; have := ysL_len ls (fun p hp => (hm p hp).2); omega
  have SO := fun w1 v1 (h : OwnsI w.heap.size w1 v1 ns) (h2 : Below w.heap.size w w1) => isort_any ns v1 w1 w.heap.size h (by omega) h2.size
  have CO := fun w1 v1 (h : OwnsI w.heap.size w1 v1 (srtI ns)) (h2 : Below w.heap.size w w1) => icompact_any (srtI ns) v1 w1 w.heap.size h (by rw [srtI_len]; omega) h2.size
  rw [hns]
  unfold onceI
  obtain ⟨R, hR⟩ : ∃ R, Lib.compact (srtI ns) = R := ⟨_, rfl⟩
  rw [hR] at CO ⊢
  have hlen : ∀ k, (ysL (sndL (ls.take k))).length ≤ 400000 := fun k => by
    have := ysL_len (ls.take k) (fun p hp => (hm p (List.mem_of_mem_take hp)).2)
    simp at this
    have : min k ls.length ≤ 2 := by omega
    omega
  clear hR
  replace hc := Lib.hid hc
  replace en := Lib.hid en
  replace hm := Lib.hid hm
  replace hns := Lib.hid hns
  replace SO := Lib.hid SO
  replace CO := Lib.hid CO
  replace hlen := Lib.hid hlen
  go_enter Try.func44, Try.ntmps44
  go_wp2
  go_loopw [3, 10] (fun ov iv wr => ∃ k : Nat, k ≤ n ∧ iv = .int .i64 k ∧ OwnsI w.heap.size wr ov (ysL (sndL (ls.take k))) ∧ Below w.heap.size w wr) (fun _ iv _ => n - (intOf iv).toNat)
  case atStart => exact ⟨0, Nat.zero_le _, rfl, OwnsI.nil _ _, Below.refl _ _⟩
  case round =>
    obtain ⟨k, hk, rfl, hown, hbr⟩ := hrel
    have zr := hbr.size
    obtain ⟨hcr, hfr⟩ := bcell hbr
    by_cases hkn : k < n
    · obtain ⟨⟨v, l⟩, hp⟩ := get_at en.out hkn
      obtain ⟨c0, hrow, hwf⟩ := hc.out k _ hp
      obtain ⟨hml, hll⟩ := hm.out _ (List.mem_of_getElem? hp)
      have hsn := ysL_snoc hp
      have hpre := hlen.out k
      simp only at c0 hrow hml hll hsn
      obtain ⟨s, cap, rfl, hmax⟩ := hrow.shape
      have hopen := fun h0 => row_re hrow h0
      obtain ⟨m, em⟩ : ∃ m, l.length = m := ⟨_, rfl⟩
      rw [em] at hopen hmax c0 hll
      obtain ⟨P, hP⟩ : ∃ P, ysL (sndL (ls.take k)) = P := ⟨_, rfl⟩
      rw [hP] at hown hsn hpre
      clear hp hrow hwf hP
      have yg : g < wr.heap.size := by omega
      have hkk : (k : Int) < n := by omega
      replace hopen := Lib.hid hopen
      replace em := Lib.hid em
      replace hml := Lib.hid hml
      replace hsn := Lib.hid hsn
      go_wp2
      obtain ⟨W1, hW1⟩ : ∃ W1 : World, W1 = wr := ⟨_, rfl⟩
      subst hW1
      go_loopw [3, 16] (fun ov iv wr => ∃ j : Nat, j ≤ m ∧ iv = .int .i64 j ∧ OwnsI w.heap.size wr ov (P ++ (l.take j).flatMap yOf) ∧ Below w.heap.size w wr) (fun _ iv _ => m - (intOf iv).toNat)
      case atStart => exact ⟨0, Nat.zero_le _, rfl, by simpa using hown, hbr⟩
      case round =>
        obtain ⟨j, hj, rfl, hown, hb2⟩ := hrel
        clear hcr hfr
        have z2 := hb2.size
        obtain ⟨hcr, hfr⟩ := bcell hb2
        by_cases hjm : j < m
        · obtain ⟨b, o, cap', e, hb, _, _, hel⟩ := hopen.out (by omega)
          simp at e
          obtain ⟨rfl, rfl⟩ := e
          obtain ⟨q, hq⟩ := get_at em.out hjm
          obtain ⟨g0, g1, g2, g3⟩ := hel j q hq
          have hqm := hml.out q (List.mem_of_getElem? hq)
          have A := fun w => empty_any q w (may_wf hqm)
          rw [empty_none hqm] at A
          have hsj := yOf_snoc hq
          have hjj : (j : Int) < m := by omega
          have yb : b < wr.heap.size := by omega
          have hbd := may_bd hqm
          have hln : (P ++ (l.take j).flatMap yOf).length ≤ 800000 := by
            have h1 := yOf_len (l.take j)
            have h2 : (l.take j).length ≤ j := by rw [List.length_take]; exact Nat.min_le_left _ _
            rw [List.length_append]
            omega
          clear hel hq
          have hyo : yOf q = if noneR q = true then [] else [q.y, q.y + q.ht] := rfl
          rw [hyo] at hsj
          clear hyo
          cases hn : noneR q
          · rw [hn] at A hsj
            rw [if_neg (by decide)] at hsj
            replace hsj := Lib.hid hsj
            replace A := Lib.hid A
            obtain ⟨D, hD⟩ : ∃ D, P ++ (l.take j).flatMap yOf = D := ⟨_, rfl⟩
            rw [hD] at hown hln
            replace hD := Lib.hid hD
            unfold OwnsI at hown
            obtain ⟨st0, cap0, rfl⟩ := own_slice hown
            clear hn
            go_upto_region 9 with (first
              | (go_at_call 61; (with_reducible refine (A.out _).mono ?_); rintro e w5 ⟨rfl, hb5⟩)
              | go_in)
            have z5 := hb5.size
            simp at z5
            have hb7 : Below wr.heap.size wr w5 := (by repeat (first | exact Below.refl _ _ | assumption | refine Below.drew ?_ | refine Below.alloc ?_ (by (try simp) <;> omega) _ | refine Below.setCell ?_ (by (try simp) <;> omega) _ | (refine Below.trans ?_ (Below.mono (by assumption) (by (try simp) <;> omega)))))
            have e1 : w5.cell? ⟨wr.heap.size, 1, none⟩ = some (.int .i64 q.y) := by rw [hb5.cell (p := ⟨wr.heap.size, 1, none⟩) (by simp)]; go_simp
            have e3 : w5.cell? ⟨wr.heap.size, 3, none⟩ = some (.int .i64 q.ht) := by rw [hb5.cell (p := ⟨wr.heap.size, 3, none⟩) (by simp)]; go_simp
            have h57 : wr.heap.size < w5.heap.size := by omega
            clear g0 g1 g2 g3 hcr hfr hb5
            go_wp2_with (first
              | (at_builtin; refine wpList_append_new rfl _ _ _ rfl w.heap.size 3 iI _ 1 8 Try.underlying58 hi0 hm0 hm1 hm2 rfl (by omega) w5 2 _ _ _ _ (by rfl) (ownsRow_below hown hb7 (Nat.le_refl _)) (by rfl) rfl (by simp [Value.oneCell']) (by omega) (by unfold maxLen; omega) (by omega) ?_; intro v6 w6 hown6 hb6)
              | go_in)
            have hb6' : Below w.heap.size w w6 := (hb2.trans (hb7.mono z2)).trans hb6
            rw [flatI2 _ q.y (q.y + q.ht) rfl] at hown6
            replace hown6 := Lib.hid hown6
            clear hb6
            go_wp2
            go_roundw
            case rel =>
              refine ⟨j + 1, by omega, by go_num, ?_, hb6'⟩
              unfold OwnsI
              rw [hsj.out, ← List.append_assoc, hD.out, List.length_append]
              exact hown6.out
            case measure => simp [intOf]; omega
          · rw [hn] at A hsj
            rw [if_pos rfl, List.append_nil] at hsj
            replace hsj := Lib.hid hsj
            replace A := Lib.hid A
            replace hown := Lib.hid hown
            clear hn
            go_wp2_with (first
              | (go_at_call 61; (with_reducible refine (A.out _).mono ?_); rintro e w5 ⟨rfl, hb5⟩)
              | go_in)
            have hb7 : Below wr.heap.size wr w5 := (by repeat (first | exact Below.refl _ _ | assumption | refine Below.drew ?_ | refine Below.alloc ?_ (by (try simp) <;> omega) _ | refine Below.setCell ?_ (by (try simp) <;> omega) _ | (refine Below.trans ?_ (Below.mono (by assumption) (by (try simp) <;> omega)))))
            go_roundw
            case rel => exact ⟨j + 1, by omega, by go_num, by rw [hsj.out]; exact hown.out.below hb7 (Nat.le_refl _), hb2.trans (hb7.mono z2)⟩
            case measure => simp [intOf]; omega
        · obtain rfl : j = m := by omega
          rw [List.take_of_length_le (by have := em.out; omega)] at hown
          replace hown := Lib.hid hown
          go_wp2
          go_roundw
          case rel => exact ⟨k + 1, by omega, by go_num, by rw [hsn.out]; exact hown.out, hb2⟩
          case measure => simp [intOf]; omega
    · obtain rfl : k = n := by omega
      rw [List.take_of_length_le (by have := en.out; omega), hns.out] at hown
      replace hown := Lib.hid hown
      go_wp2_with (first
        | (go_at_call 67; (with_reducible refine (SO.out _ _ hown.out hbr).mono ?_); rintro e w3 ⟨rfl, ow3, gr3⟩; have hb03 := hbr.grown gr3 zr (fun g hg => (hown.out.lt g hg).1); replace ow3 := Lib.hid ow3)
        | (go_at_call 68; (with_reducible refine (CO.out _ _ ow3.out hb03).mono ?_); rintro e w4 ⟨v4, rfl, ow4, gr4⟩; have hb04 := hb03.grown gr4 hb03.size (fun g hg => (ow3.out.lt g hg).1); replace ow4 := Lib.hid ow4)
        | go_in)
      go_ret
      exact ⟨hb04, _, rfl, ow4.out⟩
end Go.Proofs.Ytlklmncjicgbgaa
