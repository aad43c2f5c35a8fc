/-
  list.Moved.
-/
import Derived.Test.YtkmofpnefjgnkaaLisQ
namespace Go.Proofs.Ytkmofpnefjgnkaa
open Go.RowKit
set_option linter.unusedVariables false
attribute [local go_sem] vwp vUpon_value vUpon_skip vUpon_enter vUpon_row
set_option linter.unusedSimpArgs false
set_option linter.unusedVariables false
def max4 (a b c d : Int) : Int := max (max (max a b) c) d
theorem run_max_int4 {P : Program} (w : World) (ts : Array TypeId) (t : TypeId) (a b c d : Int) : (Builtin.max_ ts t #[.int .i64 a, .int .i64 b, .int .i64 c, .int .i64 d]).run P w = .ok (.int .i64 (max4 a b c d)) w := by
  have e : ∀ x y : Int, (if y > x then y else x) = max x y := by intro x y; split <;> omega
  simp [Builtin.max_, Builtin.max2, max4, e]
attribute [local go_sem high] run_max_int4
def farb (px py : Int) : Bool := decide (px > 32768) || (decide (px < -32768) || (decide (py > 32768) || decide (py < -32768)))
theorem farb_t {px py : Int} (h : farB px py) : farb px py = true := by
  unfold farB at h; unfold farb; simp; omega
theorem farb_f {px py : Int} (h : ¬ farB px py) : farb px py = false := by
  unfold farB at h; unfold farb; simp; omega
theorem step_open {f : St → St} {xs : List St} {k : Nat} {s : St} (hs : xs[k]? = some s) (hf : f s = s) : (xs.take k).map f ++ xs.drop k = (xs.take (k + 1)).map f ++ xs.drop (k + 1) := by
  obtain ⟨hk, e⟩ := List.getElem?_eq_some_iff.1 hs
  rw [take_snoc f hs, hf, List.drop_eq_getElem_cons hk, e, List.append_assoc]
  rfl
theorem mid_get {f : St → St} {xs : List St} {k : Nat} {s : St} (hs : xs[k]? = some s) : ((xs.take k).map f ++ xs.drop k)[k]? = some s := by
  obtain ⟨hk, e⟩ := List.getElem?_eq_some_iff.1 hs
  rw [List.getElem?_append_right (by simp; omega)]
  simp
  rw [Nat.min_eq_left (by omega), Nat.sub_self, Nat.add_zero]; exact hs
theorem mid_set {f : St → St} {xs : List St} {k : Nat} {s t : St} (hs : xs[k]? = some s) (hf : f s = t) (u : St) : (((xs.take k).map f ++ xs.drop k).set k u).set k t = (xs.take (k + 1)).map f ++ xs.drop (k + 1) := by
  obtain ⟨hk, e⟩ := List.getElem?_eq_some_iff.1 hs
  rw [List.set_set, take_snoc f hs, hf, List.set_append, if_neg (by simp; omega)]
  simp [Nat.min_eq_left (Nat.le_of_lt hk)]
  rw [List.drop_eq_getElem_cons hk]
  rfl
theorem own_slice {w : World} {base : Nat} {e : TypeId} {size n : Nat} {v : Value} {xs : List Value} (h : w.ownsRow base e size v n xs) : ∃ s cap, v = .slice s n cap := by
  rcases h.2 with ⟨rfl, rfl⟩ | ⟨g, cap, cur, rfl, _⟩
  · exact ⟨_, _, rfl⟩
  · exact ⟨_, _, rfl⟩
theorem own_addr {w : World} {base : Nat} {e : TypeId} {size n cap : Nat} {s : Option Addr} {xs : List Value} (h : w.ownsRow base e size (.slice s n cap) n xs) (hn : 0 < n) : ∃ g, s = some ⟨g, 0, none⟩ ∧ base ≤ g ∧ g < w.heap.size := by
  rcases h.2 with ⟨h1, h2⟩ | ⟨g, cap, cur, e, hg, hh, _⟩
  · omega
  · injection e with e _ _
    exact ⟨g, e, hg, lt_of_block hh⟩
set_option maxHeartbeats 2000000 in
set_option maxRecDepth 100000 in
theorem lmoved_any (xs : List St) (v1 : Value) (px py : Int) (w : World) (h1 : Row w.heap.size 15 St.enc w v1 xs) (k1 : ∀ s ∈ xs, s.Wf) (hpx : I64 px) (hpy : I64 py) : Calls Try.prog 10 #[v1, .agg #[.int .i64 px, .int .i64 py]] w (OutU w.heap.size (mvL px py xs) (mvE px py xs) w) := by
  obtain ⟨iM, hi0, hm0, hm1, hm2⟩ := info_parts infoSt
  have C1 := fun w' (hb : Below w.heap.size w w') => lcheck_any xs v1 w' ((h1.below hb).mono hb.size) k1
  have K1 := fun w' (hb : Below w.heap.size w w') hm => clone_any xs v1 w' ((h1.below hb).mono hb.size) hm
  obtain ⟨s1, cc1, rfl, hmax1⟩ := h1.shape
  clear h1
  obtain ⟨n, en⟩ : ∃ n, xs.length = n := ⟨_, rfl⟩
  obtain ⟨eR, hR1⟩ : ∃ e, mvE px py xs = e := ⟨_, rfl⟩
  obtain ⟨lR, hR2⟩ : ∃ l, mvL px py xs = l := ⟨_, rfl⟩
  rw [hR1, hR2]
  replace hR1 := Lib.hid hR1
  replace hR2 := Lib.hid hR2
  obtain ⟨px0, px1⟩ := hpx
  obtain ⟨py0, py1⟩ := hpy
  by_cases c1 : chkL xs = 0
  · have l1 := chk_len c1
    have hz := fun s hs => chk_mem c1 s hs
    have K1 := fun w' hb => K1 w' hb (by omega)
    rw [c1] at C1
    rw [en] at l1 hmax1 C1 K1 ⊢
    replace C1 := Lib.hid C1
    replace K1 := Lib.hid K1
    replace en := Lib.hid en
    replace hz := Lib.hid hz
    replace k1 := Lib.hid k1
    replace c1 := Lib.hid c1
    go_enter Try.func10, Try.ntmps10
    go_upto_region 5 with (first
      | (go_at_call 17; (with_reducible refine (C1.out _ (by repeat (first | exact Below.refl _ _ | assumption | refine Below.drew ?_ | refine Below.alloc ?_ (by (try simp) <;> omega) _ | refine Below.setCell ?_ (by (try simp) <;> omega) _ | (refine Below.trans ?_ (Below.mono (by assumption) (by (try simp) <;> omega)))))).mono ?_); rintro e w3 ⟨rfl, hb3⟩; have z3 := hb3.size; (try simp at z3); have hb03 : Below w.heap.size w w3 := (by repeat (first | exact Below.refl _ _ | assumption | refine Below.drew ?_ | refine Below.alloc ?_ (by (try simp) <;> omega) _ | refine Below.setCell ?_ (by (try simp) <;> omega) _ | (refine Below.trans ?_ (Below.mono (by assumption) (by (try simp) <;> omega))))); have z03 := hb03.size)
      | (go_at_call 37; (with_reducible refine (K1.out _ hb03).mono ?_); rintro e w4 ⟨v4, rfl, hown4, hb4⟩)
      | go_in)
    have p0 : w4.cell? ⟨w.heap.size, 0, none⟩ = some (.int .i64 px) := (hb4.cell (p := ⟨w.heap.size, 0, none⟩) (by show w.heap.size < w3.heap.size; omega)).trans ((hb3.cell (p := ⟨w.heap.size, 0, none⟩) (by simp)).trans (World.cell?_alloc_at _ _ _ _ rfl))
    have p1 : w4.cell? ⟨w.heap.size, 1, none⟩ = some (.int .i64 py) := (hb4.cell (p := ⟨w.heap.size, 1, none⟩) (by show w.heap.size < w3.heap.size; omega)).trans ((hb3.cell (p := ⟨w.heap.size, 1, none⟩) (by simp)).trans (World.cell?_alloc_at _ _ _ _ rfl))
    go_cut [8] (fun c wx => wx = w4 ∧ c = .bool (farb px py))
    case first =>
      have key1 : 32768 < max4 px (wrap64 (-px)) py (wrap64 (-py)) → farb px py = true := fun h => farb_t (by unfold max4 wrap64 at h; unfold farB; omega)
      have key2 : ¬ 32768 < max4 px (wrap64 (-px)) py (wrap64 (-py)) → farb px py = decide (min px py < -32768) := fun h => by
        by_cases hm : min px py < -32768
        · rw [farb_t (by unfold farB; omega)]; simpa using hm
        · rw [farb_f (by unfold max4 wrap64 at h; unfold farB; omega)]; simpa using hm
      replace key1 := Lib.hid key1
      replace key2 := Lib.hid key2
      by_cases hq : 32768 < max4 px (wrap64 (-px)) py (wrap64 (-py))
      · have e := key1.out hq
        replace e := Lib.hid e
        go_wp2
        go_meet
        case rel => exact ⟨rfl, by rw [e.out]⟩
      · have e := key2.out hq
        replace e := Lib.hid e
        go_wp2
        go_meet
        case rel => exact ⟨rfl, by rw [e.out]⟩
    case rest =>
      obtain ⟨e1, e2⟩ := hcut
      subst e1
      subst e2
      unfold Owns at hown4
      rw [en.out] at hown4
      obtain ⟨s4, cap4, rfl⟩ := own_slice hown4
      clear hb3
      have hbw4 : Below w.heap.size w wc := hb03.trans (hb4.mono z03)
      replace hb4 := Lib.hid hb4
      obtain ⟨fb, hfb⟩ : ∃ fb, farb px py = fb := ⟨_, rfl⟩
      rw [hfb]
      go_wp2
      go_loopw [39] (fun i wr => ∃ k : Nat, k ≤ n ∧ i = .int .i64 k ∧ wr.ownsRow w3.heap.size 45 15 (.slice s4 n cap4) n (((xs.take k).map (mvS px py) ++ xs.drop k).flatMap St.enc) ∧ (∀ (j : Nat) s, j < k → xs[j]? = some s → mayR (mvS px py s).rect = true) ∧ Below w3.heap.size wc wr) (fun i _ => n - (intOf i).toNat)
      case atStart => exact ⟨0, Nat.zero_le _, rfl, by simpa using hown4, (fun _ _ h => absurd h (Nat.not_lt_zero _)), Below.refl _ _⟩
      case round =>
        obtain ⟨k, hk, rfl, hown, hall, hbr⟩ := hrel
        clear hown4
        have zr := hbr.size
        have hbR : Below w.heap.size w wr := hbw4.trans (hbr.mono z03)
        have hwl : w.heap.size < w3.heap.size := by omega
        have zwr := Nat.le_trans hb4.out.size zr
        have hp0 : wr.cell? ⟨w.heap.size, 0, none⟩ = some (.int .i64 px) := (hbr.cell (p := ⟨w.heap.size, 0, none⟩) hwl).trans p0
        have hp1 : wr.cell? ⟨w.heap.size, 1, none⟩ = some (.int .i64 py) := (hbr.cell (p := ⟨w.heap.size, 1, none⟩) hwl).trans p1
        by_cases hkn : k < n
        · obtain ⟨s, hs⟩ : ∃ s, xs[k]? = some s := ⟨xs[k]'(by have := en.out; omega), List.getElem?_eq_getElem _⟩
          obtain ⟨g, rfl, hg, hgl⟩ := own_addr hown (by omega)
          have hget := mid_get (f := mvS px py) hs
          have hlen : ((xs.take k).map (mvS px py) ++ xs.drop k).length = n := by have := en.out; simp; omega
          have hsm : SMem wr g (k * 15) s := own_smem (base := w3.heap.size) (n := n) (cap := cap4) (by unfold Owns; rw [hlen]; exact hown) hget
          have hfz := own_free hown
          obtain ⟨g0, g1, g2, g3, g4, g5, g6, g7, g8, g9, g10, g11, g12, g13, g14⟩ := hsm
          have hkk : (k : Int) < n := by omega
          have hzs := hz.out s (List.mem_of_getElem? hs)
          have hws := (k1.out s (List.mem_of_getElem? hs)).2.1
          have hno := ok_not (px := px) (py := py) hs
          have hall' : mayR (mvS px py s).rect = true → (∀ (j : Nat) t, j < k + 1 → xs[j]? = some t → mayR (mvS px py t).rect = true) := fun hm j t hj ht => by
            rcases Nat.lt_succ_iff_lt_or_eq.1 hj with hj | rfl
            · exact hall j t hj ht
            · rw [hs] at ht; obtain rfl := Option.some.inj ht; exact hm
          replace hall' := Lib.hid hall'
          clear hall
          by_cases q5 : s.kind = 5
          · have hm := open_may (px := px) (py := py) hzs q5
            have hmv := mvS_eq (px := px) (py := py) q5
            rw [step_open hs hmv] at hown
            replace hown := Lib.hid hown
            replace hall' := hall'.out hm
            replace hall' := Lib.hid hall'
            clear hno hmv hm hzs hws hs hget
            go_wp2
            go_roundw
            case rel => exact ⟨k + 1, by omega, by go_num, hown.out, hall'.out, hbr⟩
            case measure => simp [intOf]; omega
          · cases fb
            · have hf : ¬ farB px py := fun h => by rw [farb_t h] at hfb; cases hfb
              obtain ⟨eX, eY⟩ := near_cl hf
              have hmv := mvS_ne (px := px) (py := py) q5
              rw [eX, eY] at hmv
              unfold farB at hf
              have n1 : -32768 ≤ px := by omega
              have n2 : px ≤ 32768 := by omega
              have n3 : -32768 ≤ py := by omega
              have n4 : py ≤ 32768 := by omega
              obtain ⟨b0, b1, b2, b3, _⟩ := may_bd (err_may hzs)
              have M := fun w => gcheck_any ⟨s.rect.x + px, s.rect.y + py, s.rect.wd, s.rect.ht⟩ w ⟨⟨by simp only; omega, by simp only; omega⟩, ⟨by simp only; omega, by simp only; omega⟩, hws.2.2.1, hws.2.2.2⟩
              simp only at M
              have hmr : mayR (mvS px py s).rect = mayR ⟨s.rect.x + px, s.rect.y + py, s.rect.wd, s.rect.ht⟩ := by rw [hmv]
              rw [hmr] at hno hall'
              have hset := mid_set (f := mvS px py) hs hmv ⟨s.kind, ⟨s.rect.x + px, s.rect.y, s.rect.wd, s.rect.ht⟩, s.col, s.back, s.text, s.node⟩
              have f1 := flat_set St.enc_len 1 (.int .i64 (s.rect.x + px)) s ⟨s.kind, ⟨s.rect.x + px, s.rect.y, s.rect.wd, s.rect.ht⟩, s.col, s.back, s.text, s.node⟩ (by omega) rfl _ k hget
              have f2 := flat_set St.enc_len 2 (.int .i64 (s.rect.y + py)) ⟨s.kind, ⟨s.rect.x + px, s.rect.y, s.rect.wd, s.rect.ht⟩, s.col, s.back, s.text, s.node⟩ ⟨s.kind, ⟨s.rect.x + px, s.rect.y + py, s.rect.wd, s.rect.ht⟩, s.col, s.back, s.text, s.node⟩ (by omega) rfl (((xs.take k).map (mvS px py) ++ xs.drop k).set k ⟨s.kind, ⟨s.rect.x + px, s.rect.y, s.rect.wd, s.rect.ht⟩, s.col, s.back, s.text, s.node⟩) k (by rw [List.getElem?_set_self (by rw [hlen]; exact hkn)])
              have hk15 : k * 15 + 15 ≤ n * 15 := by omega
              rw [hset] at f2
              replace f2 := Lib.hid f2
              replace M := Lib.hid M
              replace hws := Lib.hid hws
              replace hno := Lib.hid hno
              replace hmv := Lib.hid hmv
              have hget2 : (((xs.take k).map (mvS px py) ++ xs.drop k).set k ⟨s.kind, ⟨s.rect.x + px, s.rect.y, s.rect.wd, s.rect.ht⟩, s.col, s.back, s.text, s.node⟩)[k]? = some ⟨s.kind, ⟨s.rect.x + px, s.rect.y, s.rect.wd, s.rect.ht⟩, s.col, s.back, s.text, s.node⟩ := List.getElem?_set_self (by rw [hlen]; exact hkn)
              have hlen2 : (((xs.take k).map (mvS px py) ++ xs.drop k).set k ⟨s.kind, ⟨s.rect.x + px, s.rect.y, s.rect.wd, s.rect.ht⟩, s.col, s.back, s.text, s.node⟩).length = n := by rw [List.length_set]; exact hlen
              have hget3 : ((xs.take (k + 1)).map (mvS px py) ++ xs.drop (k + 1))[k]? = some ⟨s.kind, ⟨s.rect.x + px, s.rect.y + py, s.rect.wd, s.rect.ht⟩, s.col, s.back, s.text, s.node⟩ := by rw [← hset]; exact List.getElem?_set_self (by rw [hlen2]; exact hkn)
              have hlen3 : ((xs.take (k + 1)).map (mvS px py) ++ xs.drop (k + 1)).length = n := by rw [← hset, List.length_set]; exact hlen2
              replace hget2 := Lib.hid hget2
              replace hlen2 := Lib.hid hlen2
              replace hget3 := Lib.hid hget3
              replace hlen3 := Lib.hid hlen3
              replace hlen := Lib.hid hlen
              replace f1 := Lib.hid f1
              clear hmr hset eX eY hget hs hzs hf
              replace hown := Lib.hid hown
              have ybx : w.heap.size < wr.heap.size := by omega
              go_wp2
              refine wp_region_steady_then (Held wr 0 []) 14 (by kernel_rfl) (by kernel_rfl) (by decide) (by kernel_rfl) (by kernel_rfl) ⟨(by repeat (first | exact Below.refl _ _ | assumption | refine Below.drew ?_ | refine Below.alloc ?_ (by (try simp) <;> omega) _ | refine Below.setCell ?_ (by (try simp) <;> omega) _ | (refine Below.trans ?_ (Below.mono (by assumption) (by (try simp) <;> omega))))), (by (try simp) <;> omega), (by first | exact trivial | (simp only [Cells]; go_simp))⟩ ?_
              simp only [List.take_succ_cons, List.take_zero]
              repeat (first | (refine' wpSteady_do _ _ _; rotate_left; (focus rfl); (focus (intro w1 hS R hR; have hc := hS.cells; simp only [Cells] at hc; obtain ⟨hco, hfo⟩ := bcell hS.old; go_simp; (try go_bits); first | exact hR _ hS | fail)); simp only [Act.put, List.setIfInBounds_toArray, List.set_cons_zero, List.set_cons_succ]) | (refine wpSteady_pass ?_ ?_; (focus rfl); simp only [Act.put, List.setIfInBounds_toArray, List.set_cons_zero, List.set_cons_succ]))
              refine wpSteady_nil (fun uA hSA => ?_)
              have hcA := hSA.cells; have hbA := hSA.old; have hzA := hSA.size; clear hSA; simp only [Cells] at hcA; obtain ⟨hcoA, hfoA⟩ := bcell hbA
              simp only [List.drop_succ_cons, List.drop_zero, List.drop_nil]
              go_wp2
              have hown5 := own_put (k := k * 15 + 1) (ownsRow_below hown.out hbA (Nat.le_refl _)) (by omega) (.int .i64 (s.rect.x + px))
              rw [f1.out] at hown5
              have hb5 : Below w3.heap.size wc (uA.setCell ⟨g, k * 15 + 1, none⟩ (.int .i64 (s.rect.x + px))) := (hbr.trans (hbA.mono zwr)).setCell hg _
              clear hcA hcoA hfoA hbA hzA g0 g1 g2 g3 g4 g5 g6 g7 g8 g9 g10 g11 g12 g13 g14 hfz hp0 hp1 ybx hgl
              generalize uA.setCell ⟨g, k * 15 + 1, none⟩ (.int .i64 (s.rect.x + px)) = w5 at hown5 hb5 ⊢
              have hfz := own_free hown5
              have hgl : g < w5.heap.size := (own_addr hown5 (by omega)).elim fun g' h => by
                obtain ⟨e, _, hl⟩ := h
                injection e with e
                injection e with e _ _
                rw [e]; exact hl
              obtain ⟨g0, g1, g2, g3, g4, g5, g6, g7, g8, g9, g10, g11, g12, g13, g14⟩ := own_smem (base := w3.heap.size) (n := n) (cap := cap4) (by unfold Owns; rw [hlen2.out]; exact hown5) hget2.out
              have hp0 : w5.cell? ⟨w.heap.size, 0, none⟩ = some (.int .i64 px) := (hb5.cell (p := ⟨w.heap.size, 0, none⟩) hwl).trans p0
              have hp1 : w5.cell? ⟨w.heap.size, 1, none⟩ = some (.int .i64 py) := (hb5.cell (p := ⟨w.heap.size, 1, none⟩) hwl).trans p1
              simp only at g0 g1 g2 g3 g4 g5 g6 g7 g8 g9 g10 g11 g12 g13 g14
              have zw5 : w3.heap.size ≤ w5.heap.size := Nat.le_trans hb4.out.size hb5.size
              have ybx : w.heap.size < w5.heap.size := by omega
              replace hown5 := Lib.hid hown5
              refine wp_region_steady_then (Held w5 0 []) 14 (by kernel_rfl) (by kernel_rfl) (by decide) (by kernel_rfl) (by kernel_rfl) ⟨(by repeat (first | exact Below.refl _ _ | assumption | refine Below.drew ?_ | refine Below.alloc ?_ (by (try simp) <;> omega) _ | refine Below.setCell ?_ (by (try simp) <;> omega) _ | (refine Below.trans ?_ (Below.mono (by assumption) (by (try simp) <;> omega))))), (by (try simp) <;> omega), (by first | exact trivial | (simp only [Cells]; go_simp))⟩ ?_
              simp only [List.take_succ_cons, List.take_zero]
              repeat (first | (refine' wpSteady_do _ _ _; rotate_left; (focus rfl); (focus (intro w1 hS R hR; have hc := hS.cells; simp only [Cells] at hc; obtain ⟨hco, hfo⟩ := bcell hS.old; go_simp; (try go_bits); first | exact hR _ hS | fail)); simp only [Act.put, List.setIfInBounds_toArray, List.set_cons_zero, List.set_cons_succ]) | (refine wpSteady_pass ?_ ?_; (focus rfl); simp only [Act.put, List.setIfInBounds_toArray, List.set_cons_zero, List.set_cons_succ]))
              refine wpSteady_nil (fun uB hSB => ?_)
              have hcB := hSB.cells; have hbB := hSB.old; have hzB := hSB.size; clear hSB; simp only [Cells] at hcB; obtain ⟨hcoB, hfoB⟩ := bcell hbB
              simp only [List.drop_succ_cons, List.drop_zero, List.drop_nil]
              have hown6 : (uB.setCell ⟨g, k * 15 + 1 + 1, none⟩ (.int .i64 (s.rect.y + py))).ownsRow _ _ _ _ _ _ := own_put (k := k * 15 + 2) (ownsRow_below hown5.out hbB (Nat.le_refl _)) (by omega) (.int .i64 (s.rect.y + py))
              rw [f2.out] at hown6
              have hb6 : Below w3.heap.size wc (uB.setCell ⟨g, k * 15 + 1 + 1, none⟩ (.int .i64 (s.rect.y + py))) := (hb5.trans (hbB.mono zw5)).setCell hg _
              have hbR6 : Below w.heap.size w (uB.setCell ⟨g, k * 15 + 1 + 1, none⟩ (.int .i64 (s.rect.y + py))) := hbw4.trans (hb6.mono z03)
              have zw6 := hbR6.size
              replace hown6 := Lib.hid hown6
              replace hb6 := Lib.hid hb6
              cases hm : mayR ⟨s.rect.x + px, s.rect.y + py, s.rect.wd, s.rect.ht⟩
              · replace M := M.out
                rw [hm] at M
                replace M := Lib.hid M
                obtain ⟨e1, e2⟩ := mv_b (px := px) (py := py) c1.out (hno.out hm)
                rw [hR1.out] at e1
                rw [hR2.out] at e2
                subst e1
                subst e2
                clear hm hall'
                go_wp2_with (first
                  | (go_at_call 38; (with_reducible refine (M.out _).mono ?_); rintro e w7 ⟨rfl, hb7⟩)
                  | go_in)
                go_ret2
                exact ⟨hbR6.trans (hb7.mono zw6), _, rfl, Owns.nil _ _⟩
              · replace M := M.out
                rw [hm] at M
                replace M := Lib.hid M
                replace hall' := hall'.out hm
                replace hall' := Lib.hid hall'
                clear hm
                go_wp2_with (first
                  | (go_at_call 38; (with_reducible refine (M.out _).mono ?_); rintro e w7 ⟨rfl, hb7⟩)
                  | go_in)
                go_roundw
                case rel => exact ⟨k + 1, by omega, by go_num, ownsRow_below hown6.out hb7 (Nat.le_refl _), hall'.out, hb6.out.trans (hb7.mono (Nat.le_trans hb4.out.size hb6.out.size))⟩
                case measure => simp [intOf]; omega
            · have hf : farB px py := by
                cases hd : decide (px > 32768) <;> cases hd2 : decide (px < -32768) <;> cases hd3 : decide (py > 32768) <;> cases hd4 : decide (py < -32768) <;> simp at hd hd2 hd3 hd4 <;> unfold farB <;> first | omega | (exfalso; rw [farb_f (by unfold farB; omega)] at hfb; cases hfb)
              have hmf := hno (far_not hf hzs q5)
              obtain ⟨e1, e2⟩ := mv_b (px := px) (py := py) c1.out hmf
              rw [hR1.out] at e1
              rw [hR2.out] at e2
              subst e1
              subst e2
              clear hno hmf hf hall' hws hs hget
              go_wp2
              go_ret2
              exact ⟨hbR, _, rfl, Owns.nil _ _⟩
        · obtain rfl : k = n := by omega
          have htk : (xs.take k).map (mvS px py) ++ xs.drop k = xs.map (mvS px py) := by
            rw [List.take_of_length_le (by have := en.out; omega), List.drop_eq_nil_of_le (by have := en.out; omega), List.append_nil]
          rw [htk] at hown
          have hok : okL px py xs = true := ok_all fun j s hs => hall j s (by have := (List.getElem?_eq_some_iff.1 hs).1; have := en.out; omega) hs
          obtain ⟨e1, e2⟩ := mv_c (px := px) (py := py) c1.out hok
          rw [hR1.out] at e1
          rw [hR2.out] at e2
          subst e1
          subst e2
          replace hown := Lib.hid hown
          clear hok htk hall
          go_wp2
          go_ret2
          refine ⟨hbR, _, rfl, Owns.less (base := w3.heap.size) ?_ (by omega)⟩
          unfold Owns
          rw [List.length_map, en.out]
          exact hown.out
  · have hcb : (chkL xs == 0) = false := by simp [c1]
    obtain ⟨e1, e2⟩ := mv_a (px := px) (py := py) c1
    rw [hR1.out] at e1
    rw [hR2.out] at e2
    subst e1
    subst e2
    rw [en] at C1 ⊢
    replace C1 := Lib.hid C1
    clear c1 K1
    go_enter Try.func10, Try.ntmps10
    go_wp2_with (first
      | (go_at_call 17; (with_reducible refine (C1.out _ (by repeat (first | exact Below.refl _ _ | assumption | refine Below.drew ?_ | refine Below.alloc ?_ (by (try simp) <;> omega) _ | refine Below.setCell ?_ (by (try simp) <;> omega) _ | (refine Below.trans ?_ (Below.mono (by assumption) (by (try simp) <;> omega)))))).mono ?_); rintro e w3 ⟨rfl, hb3⟩; have z3 := hb3.size; (try simp at z3))
      | go_in)
    go_ret2
    exact ⟨(by repeat (first | exact Below.refl _ _ | assumption | refine Below.drew ?_ | refine Below.alloc ?_ (by (try simp) <;> omega) _ | refine Below.setCell ?_ (by (try simp) <;> omega) _ | (refine Below.trans ?_ (Below.mono (by assumption) (by (try simp) <;> omega))))), _, rfl, Owns.nil _ _⟩
end Go.Proofs.Ytkmofpnefjgnkaa
