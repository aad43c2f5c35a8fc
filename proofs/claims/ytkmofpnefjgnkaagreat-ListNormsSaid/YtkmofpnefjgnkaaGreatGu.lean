/-
  XGu: XLisSb.
-/
import Derived.Test.YtkmofpnefjgnkaaGreatGt
namespace Go.Proofs.YtkmofpnefjgnkaaGreat
open Go.RowKit
set_option linter.unusedVariables false
attribute [local go_sem] vwp vUpon_value vUpon_skip vUpon_enter vUpon_row
set_option linter.unusedSimpArgs false
set_option linter.unusedVariables false
section
set_option linter.unusedSimpArgs false
set_option linter.unusedVariables false
theorem own_popS {base : Nat} {w : World} {g m cap : Nat} {xs : List St} {c : St} (h : Owns base w (.slice (some ⟨g, 0, none⟩) m cap) (xs ++ [c])) (hm : (xs ++ [c]).length = m) : Owns base w (.slice (some ⟨g, 0, none⟩) (m - 1) cap) xs := by
  have hx : xs.length = m - 1 := by rw [← hm]; simp
  unfold Owns at *
  rw [hm] at h
  rw [hx]
  have hxl : (xs.flatMap St.enc).length = (m - 1) * 15 := by rw [flat_len St.enc_len, hx]
  have hm1 : 1 ≤ m := by rw [← hm]; simp
  rcases h.2 with ⟨h0, _⟩ | ⟨g', cap', cur, hv, hg, hh, hnc, hcm, hcur, htake⟩
  · cases h0
  · injection hv with hv _ hc
    injection hv with hv
    injection hv with hv
    subst hc
    subst hv
    refine ⟨hxl, .inr ⟨g, cap, cur, rfl, hg, hh, by omega, hcm, hcur, ?_⟩⟩
    have e : (m - 1) * 15 ≤ m * 15 := by omega
    have e2 : List.take ((m - 1) * 15) (cur.toList.take (m * 15)) = cur.toList.take ((m - 1) * 15) := by rw [List.take_take, Nat.min_eq_left e]
    rw [htake, List.flatMap_append, List.take_left' hxl] at e2
    exact e2.symm
theorem bGo_push {O r : List St} {s : St} (h : ∀ c, O.getLast? = some c → pairB c s = false) : bGo O.reverse (s :: r) = bGo (O ++ [s]).reverse r := by
  rcases List.eq_nil_or_concat O with rfl | ⟨O', c, rfl⟩
  · rfl
  · have := h c (by simp)
    simp only [List.concat_eq_append, List.reverse_append, List.reverse_cons, List.reverse_nil, List.nil_append, List.cons_append]
    rw [bGo, if_neg (by rw [this]; decide)]
theorem bGo_pop {O r : List St} {c s : St} (h : pairB c s = true) : bGo (O ++ [c]).reverse (s :: r) = bGo O.reverse r := by
  simp only [List.reverse_append, List.reverse_cons, List.reverse_nil, List.nil_append, List.cons_append]
  rw [bGo, if_pos h]
set_option maxHeartbeats 4000000 in
set_option maxRecDepth 100000 in
theorem kbusy_any (xs : List St) (v : Value) (w : World) (hl : Row w.heap.size 15 St.enc w v xs) (hm : xs.length ≤ 100000) : Calls Tryz.prog 36 #[v] w fun e w' => ∃ v', e = .returned v' ∧ Owns w.heap.size w' v' (busyL xs) ∧ Below w.heap.size w w' := by
  obtain ⟨iM, hi0, hm0, hm1, hm2⟩ := info_parts infoSt
  obtain ⟨s0, cap, rfl, hmax⟩ := hl.shape
  have hopen := fun h0 => row_st hl h0
  clear hl
  obtain ⟨n, en⟩ : ∃ n, xs.length = n := ⟨_, rfl⟩
  rw [en] at hopen hm hmax ⊢
  obtain ⟨B, hB⟩ : ∃ B, busyL xs = B := ⟨_, rfl⟩
  rw [hB]
  have hBg : bGo ([] : List St).reverse (xs.drop 0) = B := hB
  replace hopen := Lib.hid hopen
  replace en := Lib.hid en
  replace hBg := Lib.hid hBg
  clear hB
  go_enter Tryz.func36, Tryz.ntmps36
  go_wp2
  go_loopw [3, 4] (fun vo i wr => ∃ k : Nat, k ≤ n ∧ i = .int .i64 k ∧ ∃ O, Owns w.heap.size wr vo O ∧ Hid (bGo O.reverse (xs.drop k) = B) ∧ O.length ≤ k ∧ Below w.heap.size w wr) (fun _ i _ => n - (intOf i).toNat)
  case atStart => exact ⟨0, Nat.zero_le _, rfl, [], World.ownsRow_nil _ _ _ _, hBg, Nat.le_refl _, Below.refl _ _⟩
  case round =>
    obtain ⟨k, hk, rfl, O, hown, hgo, hOk, hbr⟩ := hrel
    clear hBg
    have zr := hbr.size
    obtain ⟨hcr, hfr⟩ := bcell hbr
    obtain ⟨so, co, rfl⟩ := own_slice hown
    obtain ⟨m, hmO⟩ : ∃ m, O.length = m := ⟨_, rfl⟩
    rw [hmO] at hown hOk ⊢
    replace hmO := Lib.hid hmO
    by_cases hkn : k < n
    · obtain ⟨b, p, cap', e, hb, _, _, hel⟩ := hopen.out (by omega)
      simp at e
      obtain ⟨rfl, rfl⟩ := e
      obtain ⟨s, hs⟩ := get_at en.out hkn
      obtain ⟨g0, g1, g2, g3, g4, g5, g6, g7, g8, g9, g10, g11, g12, g13, g14⟩ := hel k s hs
      have hgo1 := hgo.out
      rw [drop_get hs] at hgo1
      have hgo := Lib.hid hgo1
      have hkk : (k : Int) < n := by omega
      have yb : b < wr.heap.size := by omega
      clear hel hs hgo1
      by_cases q5 : s.kind = 5
      · have q5b : (s.kind == 5) = true := by simp [q5]
        rcases List.eq_nil_or_concat O with rfl | ⟨O', c, rfl⟩
        · have hm00 : m = 0 := by rw [← hmO.out]; rfl
          subst hm00
          replace hown := Lib.hid hown
          clear q5
          have hgo2 := hgo.out
          rw [bGo_push (fun c h => by simp at h)] at hgo2
          replace hgo2 := Lib.hid hgo2
          have hown0 := hown.out
          unfold Owns at hown0
          rw [hmO.out] at hown0
          clear hgo
          go_wp2_with (first
            | (at_builtin; go_loud (refine wpList_append_new rfl _ _ _ rfl w.heap.size 48 iM _ 15 72 Tryz.underlying22 hi0 hm0 hm1 hm2 rfl (by omega) wr 1 _ _ _ _ (by rfl) hown0 (by rfl) rfl (by simp [Value.oneCell']) (by omega) (by unfold maxLen; omega) (by omega) ?_; intro v9 w9 hown9 hb9))
            | go_in)
          have hcs : [.int .u8 (s).kind, .int .i64 (s).rect.x, .int .i64 (s).rect.y, .int .i64 (s).rect.wd, .int .i64 (s).rect.ht, .int .u8 (s).col.r, .int .u8 (s).col.g, .int .u8 (s).col.b, .int .u8 (s).col.a, .int .u8 (s).back.r, .int .u8 (s).back.g, .int .u8 (s).back.b, .int .u8 (s).back.a, .string (s).text, .int .i64 (s).node] = s.enc := rfl
          rw [flat_snoc hcs] at hown9
          replace hown9 := Lib.hid hown9
          go_roundw
          case rel =>
            refine ⟨k + 1, by omega, by go_num, ([] : List St) ++ [s], ?_, hgo2, (by rw [List.length_append, hmO.out]; first | (simp; done) | (simp; omega)), hbr.trans hb9⟩
            unfold Owns; rw [List.length_append, hmO.out]; exact hown9.out
          case measure => simp [intOf]; omega
        · rw [List.concat_eq_append] at hown hmO hgo
          have hmx : 1 ≤ m := by have := hmO.out; simp at this; omega
          have hown' := hown
          unfold Owns at hown'
          rw [hmO.out] at hown'
          obtain ⟨g, rfl, hg, hgl⟩ := own_addr hown' hmx
          have hcl : (O' ++ [c])[m - 1]? = some c := by
            have := hmO.out
            simp at this
            rw [List.getElem?_append_right (by omega), show m - 1 - O'.length = 0 by omega]; rfl
          have hO : Owns w.heap.size wr (.slice (some ⟨g, 0, none⟩) m co) (O' ++ [c]) := hown
          obtain ⟨j0, _⟩ := own_smem hO hcl
          have p2 : (0 : Int) < m := by omega
          have p3 : (m : Int) - 1 < m := by omega
          have p4 : ((m : Int) - 1).toNat = m - 1 := by omega
          have p5 : (0 : Int) ≤ (m : Int) - 1 := by omega
          have hco := (own_len hown').1
          clear hown'
          have p6 : (m : Int) - 1 ≤ co := by omega
          by_cases q4 : c.kind = 4
          · have q4b : (c.kind == 4) = true := by simp [q4]
            have hp : pairB c s = true := by unfold pairB; simp [q4, q5]
            have hgo2 := hgo.out
            rw [bGo_pop hp] at hgo2
            have hpop := Lib.hid (own_popS hO hmO.out)
            replace hgo2 := Lib.hid hgo2
            have hl' : O'.length ≤ k + 1 := by have := hmO.out; simp at this; omega
            clear hO hown hgo hcl hp q5 q4
            go_wp2
            go_roundw
            case rel => exact ⟨k + 1, by omega, by go_num, O', hpop.out, hgo2, hl', hbr⟩
            case measure => simp [intOf]; omega
          · have q4b : (c.kind == 4) = false := by simp [q4]
            replace hown := Lib.hid hown
            obtain ⟨O, hOO⟩ : ∃ O, O' ++ [c] = O := ⟨_, rfl⟩
            have hp : ∀ d, O.getLast? = some d → pairB d s = false := by
              intro d hd
              rw [← hOO] at hd
              simp at hd
              subst hd
              unfold pairB; simp [q4]
            rw [hOO] at hown hmO hgo
            replace hp := Lib.hid hp
            clear hO hcl hOO q4 q5
            have hgo2 := hgo.out
            rw [bGo_push hp.out] at hgo2
            replace hgo2 := Lib.hid hgo2
            have hown0 := hown.out
            unfold Owns at hown0
            rw [hmO.out] at hown0
            clear hgo
            go_wp2_with (first
              | (at_builtin; go_loud (refine wpList_append_new rfl _ _ _ rfl w.heap.size 48 iM _ 15 72 Tryz.underlying22 hi0 hm0 hm1 hm2 rfl (by omega) wr 1 _ _ _ _ (by rfl) hown0 (by rfl) rfl (by simp [Value.oneCell']) (by omega) (by unfold maxLen; omega) (by omega) ?_; intro v9 w9 hown9 hb9))
              | go_in)
            have hcs : [.int .u8 (s).kind, .int .i64 (s).rect.x, .int .i64 (s).rect.y, .int .i64 (s).rect.wd, .int .i64 (s).rect.ht, .int .u8 (s).col.r, .int .u8 (s).col.g, .int .u8 (s).col.b, .int .u8 (s).col.a, .int .u8 (s).back.r, .int .u8 (s).back.g, .int .u8 (s).back.b, .int .u8 (s).back.a, .string (s).text, .int .i64 (s).node] = s.enc := rfl
            rw [flat_snoc hcs] at hown9
            replace hown9 := Lib.hid hown9
            go_roundw
            case rel =>
              refine ⟨k + 1, by omega, by go_num, O ++ [s], ?_, hgo2, (by rw [List.length_append, hmO.out]; first | (simp; done) | (simp; omega)), hbr.trans hb9⟩
              unfold Owns; rw [List.length_append, hmO.out]; exact hown9.out
            case measure => simp [intOf]; omega
      · have q5b : (s.kind == 5) = false := by simp [q5]
        have hp : ∀ d, O.getLast? = some d → pairB d s = false := fun d hd => by unfold pairB; simp [q5]
        replace hown := Lib.hid hown
        replace hp := Lib.hid hp
        clear q5
        have hgo2 := hgo.out
        rw [bGo_push hp.out] at hgo2
        replace hgo2 := Lib.hid hgo2
        have hown0 := hown.out
        unfold Owns at hown0
        rw [hmO.out] at hown0
        clear hgo
        go_wp2_with (first
          | (at_builtin; go_loud (refine wpList_append_new rfl _ _ _ rfl w.heap.size 48 iM _ 15 72 Tryz.underlying22 hi0 hm0 hm1 hm2 rfl (by omega) wr 1 _ _ _ _ (by rfl) hown0 (by rfl) rfl (by simp [Value.oneCell']) (by omega) (by unfold maxLen; omega) (by omega) ?_; intro v9 w9 hown9 hb9))
          | go_in)
        have hcs : [.int .u8 (s).kind, .int .i64 (s).rect.x, .int .i64 (s).rect.y, .int .i64 (s).rect.wd, .int .i64 (s).rect.ht, .int .u8 (s).col.r, .int .u8 (s).col.g, .int .u8 (s).col.b, .int .u8 (s).col.a, .int .u8 (s).back.r, .int .u8 (s).back.g, .int .u8 (s).back.b, .int .u8 (s).back.a, .string (s).text, .int .i64 (s).node] = s.enc := rfl
        rw [flat_snoc hcs] at hown9
        replace hown9 := Lib.hid hown9
        go_roundw
        case rel =>
          refine ⟨k + 1, by omega, by go_num, O ++ [s], ?_, hgo2, (by rw [List.length_append, hmO.out]; first | (simp; done) | (simp; omega)), hbr.trans hb9⟩
          unfold Owns; rw [List.length_append, hmO.out]; exact hown9.out
        case measure => simp [intOf]; omega
    · obtain rfl : k = n := by omega
      have hgo1 := hgo.out
      rw [List.drop_eq_nil_of_le (by have := en.out; omega)] at hgo1
      have hBO : B = O := by
        rw [← hgo1]
        cases h : O.reverse with
        | nil => simp at h; subst h; rfl
        | cons a l => rw [bGo, ← h, List.reverse_reverse]
      subst hBO
      replace hown := Lib.hid hown
      clear hgo hgo1
      go_wp2
      go_ret
      exact ⟨_, rfl, hown.out, hbr⟩
end
end Go.Proofs.YtkmofpnefjgnkaaGreat
