/-
  Moved of the document's answer.
-/
import Derived.Test.YtkmofpnefjgnkaaLisP
namespace Go.Proofs.Ytkmofpnefjgnkaa
open Go.RowKit
set_option linter.unusedVariables false
attribute [local go_sem] vwp vUpon_value vUpon_skip vUpon_enter vUpon_row
set_option linter.unusedSimpArgs false
set_option linter.unusedVariables false
theorem take_snoc {α β : Type} (f : α → β) {xs : List α} {k : Nat} {x : α} (h : xs[k]? = some x) : (xs.take (k + 1)).map f = (xs.take k).map f ++ [f x] := by
  obtain ⟨hk, e⟩ := List.getElem?_eq_some_iff.1 h
  rw [List.take_add_one, List.getElem?_eq_getElem hk, e]
  simp
theorem flat_snoc {l : List St} {t : St} {cs : List Value} (h : cs = t.enc) : l.flatMap St.enc ++ cs = (l ++ [t]).flatMap St.enc := by
  subst h
  rw [List.flatMap_append]
  simp
theorem mvS_ne {px py : Int} {s : St} (h : s.kind ≠ 5) : mvS px py s = ⟨s.kind, ⟨s.rect.x + cl px, s.rect.y + cl py, s.rect.wd, s.rect.ht⟩, s.col, s.back, s.text, s.node⟩ := by unfold mvS; rw [if_neg h]; rfl
theorem mvS_eq {px py : Int} {s : St} (h : s.kind = 5) : mvS px py s = s := by unfold mvS; rw [if_pos h]
set_option maxHeartbeats 2000000 in
set_option maxRecDepth 100000 in
theorem rmoved_any (xs : List St) (v1 : Value) (px py : Int) (w : World) (h1 : Row w.heap.size 15 St.enc w v1 xs) (k1 : ∀ s ∈ xs, s.Wf) (hpx : I64 px) (hpy : I64 py) : Calls Try.prog 11 #[v1, .agg #[.int .i64 px, .int .i64 py]] w (OutU w.heap.size (mvL px py xs) (mvE px py xs) w) := by
  obtain ⟨iM, hi0, hm0, hm1, hm2⟩ := info_parts infoSt
  have C1 := fun w' (hb : Below w.heap.size w w') => rcheck_any xs v1 w' ((h1.below hb).mono hb.size) k1
  obtain ⟨s1, cc1, rfl, hmax1⟩ := h1.shape
  have hopen := fun h0 => row_st h1 h0
  clear h1
  obtain ⟨n, en⟩ : ∃ n, xs.length = n := ⟨_, rfl⟩
  obtain ⟨eR, hR1⟩ : ∃ e, mvE px py xs = e := ⟨_, rfl⟩
  obtain ⟨lR, hR2⟩ : ∃ l, mvL px py xs = l := ⟨_, rfl⟩
  rw [hR1, hR2]
  replace hR1 := Lib.hid hR1
  replace hR2 := Lib.hid hR2
  obtain ⟨px0, px1⟩ := hpx
  obtain ⟨py0, py1⟩ := hpy
  by_cases c1 : chkL xs = 0
  · have l1 := chk_len c1
    have hz := fun s hs => chk_mem c1 s hs
    rw [c1] at C1
    rw [en] at l1 hopen hmax1 C1 ⊢
    replace C1 := Lib.hid C1
    replace hopen := Lib.hid hopen
    replace en := Lib.hid en
    replace hz := Lib.hid hz
    replace k1 := Lib.hid k1
    replace c1 := Lib.hid c1
    have bX := cl_bd px
    have bY := cl_bd py
    obtain ⟨X, hX⟩ : ∃ X, cl px = X := ⟨_, rfl⟩
    obtain ⟨Y, hY⟩ : ∃ Y, cl py = Y := ⟨_, rfl⟩
    rw [hX] at bX
    rw [hY] at bY
    obtain ⟨X0, X1⟩ := bX
    obtain ⟨Y0, Y1⟩ := bY
    have mX : min (max px (-32769)) 32769 = X := hX
    have mY : min (max py (-32769)) 32769 = Y := hY
    replace hX := Lib.hid hX
    replace hY := Lib.hid hY
    go_enter Try.func11, Try.ntmps11
    go_wp2_with (first
      | (go_at_call 36; (with_reducible refine (C1.out _ (by repeat (first | exact Below.refl _ _ | assumption | refine Below.drew ?_ | refine Below.alloc ?_ (by (try simp) <;> omega) _ | refine Below.setCell ?_ (by (try simp) <;> omega) _ | (refine Below.trans ?_ (Below.mono (by assumption) (by (try simp) <;> omega)))))).mono ?_); rintro e w3 ⟨rfl, hb3⟩; have z3 := hb3.size; (try simp at z3); obtain ⟨hc3, hf3⟩ := bcell hb3; have lt3 : w.heap.size < w3.heap.size := (by omega))
      | go_in)
    refine wp_region_steady (Held w3 0 []) (by kernel_rfl) (by kernel_rfl) ⟨(by repeat (first | exact Below.refl _ _ | assumption | refine Below.drew ?_ | refine Below.alloc ?_ (by (try simp) <;> omega) _ | refine Below.setCell ?_ (by (try simp) <;> omega) _ | (refine Below.trans ?_ (Below.mono (by assumption) (by (try simp) <;> omega))))), (by (try simp) <;> omega), (by first | exact trivial | (simp only [Cells]; go_simp))⟩ ?_
    repeat (first | (refine' wpSteady_do _ _ _; rotate_left; (focus rfl); (focus (intro w1 hS R hR; have hc := hS.cells; simp only [Cells] at hc; obtain ⟨hco, hfo⟩ := bcell hS.old; go_simp; (try go_bits); first | exact hR _ hS | fail)); simp only [Act.put, List.setIfInBounds_toArray, List.set_cons_zero, List.set_cons_succ]) | (refine wpSteady_pass ?_ ?_; (focus rfl); simp only [Act.put, List.setIfInBounds_toArray, List.set_cons_zero, List.set_cons_succ]))
    refine wpSteady_nil (fun uA hSA => ?_)
    have hcA := hSA.cells; have hbA := hSA.old; have hzA := hSA.size; clear hSA; simp only [Cells] at hcA; obtain ⟨hcoA, hfoA⟩ := bcell hbA
    clear mX mY
    have hbA3 : Below w.heap.size w uA := (by repeat (first | exact Below.refl _ _ | assumption | refine Below.drew ?_ | refine Below.alloc ?_ (by (try simp) <;> omega) _ | refine Below.setCell ?_ (by (try simp) <;> omega) _ | (refine Below.trans ?_ (Below.mono (by assumption) (by (try simp) <;> omega)))))
    go_wp2
    clear hcA hcoA hfoA hbA hzA hc3 hf3 lt3 z3 hb3
    go_loopw [9, 10] (fun v i wr => ∃ k : Nat, k ≤ n ∧ i = .int .i64 k ∧ wr.ownsRow w.heap.size 45 15 v k (((xs.take k).map (mvS px py)).flatMap St.enc) ∧ (∀ (j : Nat) s, j < k → xs[j]? = some s → mayR (mvS px py s).rect = true) ∧ Below w.heap.size w wr) (fun _ i _ => n - (intOf i).toNat)
    case atStart => exact ⟨0, Nat.zero_le _, rfl, World.ownsRow_nil _ _ _ _, (fun _ _ h => absurd h (Nat.not_lt_zero _)), hbA3⟩
    case round =>
      obtain ⟨k, hk, rfl, hown, hall, hbr⟩ := hrel
      have zr := hbr.size
      obtain ⟨hcr, hfr⟩ := bcell hbr
      by_cases hkn : k < n
      · obtain ⟨b, p, cap', e, hb, _, _, hel⟩ := hopen.out (by omega)
        simp at e
        obtain ⟨rfl, rfl⟩ := e
        obtain ⟨s, hs⟩ : ∃ s, xs[k]? = some s := ⟨xs[k]'(by have := en.out; omega), List.getElem?_eq_getElem _⟩
        obtain ⟨g0, g1, g2, g3, g4, g5, g6, g7, g8, g9, g10, g11, g12, g13, g14⟩ := hel k s hs
        have hkk : (k : Int) < n := by omega
        have yb : b < wr.heap.size := by omega
        have hzs := hz.out s (List.mem_of_getElem? hs)
        have hws := (k1.out s (List.mem_of_getElem? hs)).2.1
        have hsn := take_snoc (mvS px py) hs
        have hno := ok_not (px := px) (py := py) hs
        have hmay := err_may hzs
        obtain ⟨b0, b1, b2, b3, _⟩ := may_bd hmay
        have hall' : mayR (mvS px py s).rect = true → (∀ (j : Nat) t, j < k + 1 → xs[j]? = some t → mayR (mvS px py t).rect = true) := fun hm j t hj ht => by
          rcases Nat.lt_succ_iff_lt_or_eq.1 hj with hj | rfl
          · exact hall j t hj ht
          · rw [hs] at ht; obtain rfl := Option.some.inj ht; exact hm
        replace hall' := Lib.hid hall'
        clear hel hs hall
        by_cases q5 : s.kind = 5
        · have hm := open_may (px := px) (py := py) hzs q5
          have hmv := mvS_eq (px := px) (py := py) q5
          have M := fun w => may_any s.rect w hws
          rw [hmay] at M
          replace hall' := hall'.out hm
          rw [hmv] at hsn
          have hcs : [.int .u8 5, .int .i64 s.rect.x, .int .i64 s.rect.y, .int .i64 s.rect.wd, .int .i64 s.rect.ht, .int .u8 s.col.r, .int .u8 s.col.g, .int .u8 s.col.b, .int .u8 s.col.a, .int .u8 s.back.r, .int .u8 s.back.g, .int .u8 s.back.b, .int .u8 s.back.a, .string s.text, .int .i64 s.node] = s.enc := by rw [← q5]; rfl
          replace hcs := Lib.hid hcs
          replace hall' := Lib.hid hall'
          replace M := Lib.hid M
          replace hsn := Lib.hid hsn
          clear hno hmay hmv hm hzs hws b0 b1 b2 b3
          go_wp2_with (first
            | (go_at_call 39; (with_reducible refine (M.out _).mono ?_); rintro e w4 ⟨rfl, hb4⟩; obtain ⟨hc4, hf4⟩ := bcell hb4; have hz4 := hb4.size; (try simp at hz4); (try have lt4 : w.heap.size < w4.heap.size := (by omega)))
            | (at_builtin; refine wpList_append_new rfl _ _ _ rfl w.heap.size 45 iM _ 15 72 Try.underlying22 hi0 hm0 hm1 hm2 rfl (by omega) w4 1 _ _ _ _ (by rfl) (ownsRow_below hown (show Below wr.heap.size wr w4 from (by repeat (first | exact Below.refl _ _ | assumption | refine Below.drew ?_ | refine Below.alloc ?_ (by (try simp) <;> omega) _ | refine Below.setCell ?_ (by (try simp) <;> omega) _ | (refine Below.trans ?_ (Below.mono (by assumption) (by (try simp) <;> omega)))))) (Nat.le_refl _)) (by rfl) rfl (by simp [Value.oneCell']) (by omega) (by unfold maxLen; omega) (by omega) ?_; intro v5 w5 hown5 hb5)
            | go_in)
          have hb05 : Below w.heap.size w w5 := (hbr.trans ((show Below wr.heap.size wr w4 from (by repeat (first | exact Below.refl _ _ | assumption | refine Below.drew ?_ | refine Below.alloc ?_ (by (try simp) <;> omega) _ | refine Below.setCell ?_ (by (try simp) <;> omega) _ | (refine Below.trans ?_ (Below.mono (by assumption) (by (try simp) <;> omega)))))).mono zr)).trans hb5
          rw [flat_snoc hcs.out, ← hsn.out] at hown5
          replace hown5 := Lib.hid hown5
          go_wp2
          go_roundw
          case rel => exact ⟨k + 1, by omega, by go_num, hown5.out, hall'.out, hb05⟩
          case measure => simp [intOf]; omega
        · have hmv := mvS_ne (px := px) (py := py) q5
          rw [hX.out, hY.out] at hmv
          have M := fun w => may_any ⟨s.rect.x + X, s.rect.y + Y, s.rect.wd, s.rect.ht⟩ w ⟨⟨by simp only; omega, by simp only; omega⟩, ⟨by simp only; omega, by simp only; omega⟩, hws.2.2.1, hws.2.2.2⟩
          simp only at M
          have hmr : mayR (mvS px py s).rect = mayR ⟨s.rect.x + X, s.rect.y + Y, s.rect.wd, s.rect.ht⟩ := by rw [hmv]
          rw [hmr] at hno hall'
          rw [hmv] at hsn
          have hcs : [.int .u8 s.kind, .int .i64 (s.rect.x + X), .int .i64 (s.rect.y + Y), .int .i64 s.rect.wd, .int .i64 s.rect.ht, .int .u8 s.col.r, .int .u8 s.col.g, .int .u8 s.col.b, .int .u8 s.col.a, .int .u8 s.back.r, .int .u8 s.back.g, .int .u8 s.back.b, .int .u8 s.back.a, .string s.text, .int .i64 s.node] = St.enc ⟨s.kind, ⟨s.rect.x + X, s.rect.y + Y, s.rect.wd, s.rect.ht⟩, s.col, s.back, s.text, s.node⟩ := rfl
          replace hcs := Lib.hid hcs
          replace hsn := Lib.hid hsn
          clear hmay hzs hws hmv hmr
          cases hm : mayR ⟨s.rect.x + X, s.rect.y + Y, s.rect.wd, s.rect.ht⟩
          · rw [hm] at M
            have hf := hno hm
            obtain ⟨e1, e2⟩ := mv_b (px := px) (py := py) c1.out hf
            rw [hR1.out] at e1
            rw [hR2.out] at e2
            subst e1
            subst e2
            replace M := Lib.hid M
            clear hno hf hm hall'
            go_wp2_with (first
              | (go_at_call 39; (with_reducible refine (M.out _).mono ?_); rintro e w4 ⟨rfl, hb4⟩; obtain ⟨hc4, hf4⟩ := bcell hb4; have hz4 := hb4.size; (try simp at hz4); (try have lt4 : w.heap.size < w4.heap.size := (by omega)))
              | go_in)
            go_ret2
            exact ⟨hbr.trans ((show Below wr.heap.size wr w4 from (by repeat (first | exact Below.refl _ _ | assumption | refine Below.drew ?_ | refine Below.alloc ?_ (by (try simp) <;> omega) _ | refine Below.setCell ?_ (by (try simp) <;> omega) _ | (refine Below.trans ?_ (Below.mono (by assumption) (by (try simp) <;> omega)))))).mono zr), _, rfl, Owns.nil _ _⟩
          · rw [hm] at M
            replace hall' := hall'.out hm
            replace hall' := Lib.hid hall'
            replace M := Lib.hid M
            clear hno hm
            go_wp2_with (first
              | (go_at_call 39; (with_reducible refine (M.out _).mono ?_); rintro e w4 ⟨rfl, hb4⟩; obtain ⟨hc4, hf4⟩ := bcell hb4; have hz4 := hb4.size; (try simp at hz4); (try have lt4 : w.heap.size < w4.heap.size := (by omega)))
              | (at_builtin; refine wpList_append_new rfl _ _ _ rfl w.heap.size 45 iM _ 15 72 Try.underlying22 hi0 hm0 hm1 hm2 rfl (by omega) w4 1 _ _ _ _ (by rfl) (ownsRow_below hown (show Below wr.heap.size wr w4 from (by repeat (first | exact Below.refl _ _ | assumption | refine Below.drew ?_ | refine Below.alloc ?_ (by (try simp) <;> omega) _ | refine Below.setCell ?_ (by (try simp) <;> omega) _ | (refine Below.trans ?_ (Below.mono (by assumption) (by (try simp) <;> omega)))))) (Nat.le_refl _)) (by rfl) rfl (by simp [Value.oneCell']) (by omega) (by unfold maxLen; omega) (by omega) ?_; intro v5 w5 hown5 hb5)
              | go_in)
            have hb05 : Below w.heap.size w w5 := (hbr.trans ((show Below wr.heap.size wr w4 from (by repeat (first | exact Below.refl _ _ | assumption | refine Below.drew ?_ | refine Below.alloc ?_ (by (try simp) <;> omega) _ | refine Below.setCell ?_ (by (try simp) <;> omega) _ | (refine Below.trans ?_ (Below.mono (by assumption) (by (try simp) <;> omega)))))).mono zr)).trans hb5
            rw [flat_snoc hcs.out, ← hsn.out] at hown5
            replace hown5 := Lib.hid hown5
            go_wp2
            go_roundw
            case rel => exact ⟨k + 1, by omega, by go_num, hown5.out, hall'.out, hb05⟩
            case measure => simp [intOf]; omega
      · obtain rfl : k = n := by omega
        have htk : xs.take k = xs := List.take_of_length_le (by have := en.out; omega)
        rw [htk] at hown
        have hok : okL px py xs = true := ok_all fun j s hs => hall j s (by have := (List.getElem?_eq_some_iff.1 hs).1; have := en.out; omega) hs
        obtain ⟨e1, e2⟩ := mv_c (px := px) (py := py) c1.out hok
        rw [hR1.out] at e1
        rw [hR2.out] at e2
        subst e1
        subst e2
        replace hown := Lib.hid hown
        clear hok htk hall
        go_wp2
        go_ret2
        refine ⟨hbr, _, rfl, ?_⟩
        unfold Owns
        rw [List.length_map, en.out]
        exact hown.out
  · have hcb : (chkL xs == 0) = false := by simp [c1]
    obtain ⟨e1, e2⟩ := mv_a (px := px) (py := py) c1
    rw [hR1.out] at e1
    rw [hR2.out] at e2
    subst e1
    subst e2
    rw [en] at C1 ⊢
    replace C1 := Lib.hid C1
    clear c1 hopen
    go_enter Try.func11, Try.ntmps11
    go_wp2_with (first
      | (go_at_call 36; (with_reducible refine (C1.out _ (by repeat (first | exact Below.refl _ _ | assumption | refine Below.drew ?_ | refine Below.alloc ?_ (by (try simp) <;> omega) _ | refine Below.setCell ?_ (by (try simp) <;> omega) _ | (refine Below.trans ?_ (Below.mono (by assumption) (by (try simp) <;> omega)))))).mono ?_); rintro e w3 ⟨rfl, hb3⟩; have z3 := hb3.size; (try simp at z3))
      | go_in)
    go_ret2
    exact ⟨(by repeat (first | exact Below.refl _ _ | assumption | refine Below.drew ?_ | refine Below.alloc ?_ (by (try simp) <;> omega) _ | refine Below.setCell ?_ (by (try simp) <;> omega) _ | (refine Below.trans ?_ (Below.mono (by assumption) (by (try simp) <;> omega))))), _, rfl, Owns.nil _ _⟩
end Go.Proofs.Ytkmofpnefjgnkaa
