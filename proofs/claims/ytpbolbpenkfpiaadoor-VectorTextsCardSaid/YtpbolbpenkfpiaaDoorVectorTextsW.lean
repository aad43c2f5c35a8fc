/-
  The law VectorTexts, walked.
-/
import Derived.Test.YtpbolbpenkfpiaaDoorVecL
namespace Go.Proofs.YtpbolbpenkfpiaaDoor
open Go.RowKit
set_option linter.unusedVariables false
attribute [local go_sem] vwp vUpon_value vUpon_skip vUpon_enter vUpon_row
set_option linter.unusedSimpArgs false
set_option linter.unusedVariables false
attribute [local go_sem high] eql_stroke
def mark : St := ⟨0, ⟨0, 0, 0, 0⟩, ⟨0, 0, 0, 0⟩, ⟨0, 0, 0, 0⟩, ⟨#[]⟩, 77⟩
theorem flat_snoc' {l : List St} {t : St} {cs : List Value} (h : cs = t.enc) : l.flatMap St.enc ++ cs = (l ++ [t]).flatMap St.enc := by
  subst h
  rw [List.flatMap_append]
  simp
theorem row_cut' {B : Nat} {w : World} {s : Option Addr} {n cap : Nat} {xs ys : List St} (h : Row B 15 St.enc w (.slice s (xs ++ ys).length cap) (xs ++ ys)) (hn : xs.length = n) : Row B 15 St.enc w (.slice s n cap) xs := by
  obtain ⟨s', cap', e, hl, hc, h⟩ := h
  injection e with e1 _ e2
  subst e1
  subst e2
  refine ⟨s, cap, by rw [hn], by rw [List.length_append] at hl; omega, hc, fun h0 => ?_⟩
  obtain ⟨b, o, hs, hlt, hx⟩ := h (by rw [List.length_append]; omega)
  refine ⟨b, o, hs, hlt, fun j x hj => hx j x ?_⟩
  rw [List.getElem?_append_left (List.getElem?_eq_some_iff.1 hj).1]
  exact hj
set_option maxHeartbeats 4000000 in
set_option maxRecDepth 100000 in
theorem walk_VectorTexts (xs : List St) (v : Value) (W H : Int) (t : ByteArray) (w : World) (hl : Row w.heap.size 15 St.enc w v xs) (hw : ∀ s ∈ xs, s.Wf) (h1 : I64 W) (h2 : I64 H) (hD : DigT w) :
    Calls Tryd.prog 3 #[v, .agg #[.int .i64 W, .int .i64 H], .string t] w fun e w' => e = .returned (.bool true) ∧ Below w.heap.size w w' := by
  obtain ⟨iM, hi0, hm0, hm1, hm2⟩ := info_parts infoSt
  have hX := fun W (h : Below w.heap.size w W) => (hl.below h).mono h.size
  obtain ⟨s0, cap, rfl, hmax⟩ := hl.shape
  obtain ⟨n, en⟩ : ∃ n, xs.length = n := ⟨_, rfl⟩
  rw [en] at hX hmax ⊢
  unfold maxLen at hmax
  by_cases q1 : 17000 < n
  · have d1 : decide ((300 : Int) < n) = true := by simp; omega
    have d2 : decide ((n : Int) ≤ 16384) = false := by simp; omega
    have d3 : decide ((17000 : Int) < n) = true := by simp; omega
    clear hX hl
    go_enter Tryd.func3, Tryd.ntmps3
    go_wp2
    go_ret
    exact ⟨rfl, (by repeat (first | exact Below.refl _ _ | assumption | refine Below.drew ?_ | refine Below.alloc ?_ (by (try simp) <;> omega) _ | refine Below.setCell ?_ (by (try simp) <;> omega) _))⟩
  have d3 : decide ((17000 : Int) < n) = false := by simp; omega
  by_cases q2 : 300 < n ∧ n ≤ 16384
  · have d1 : decide ((300 : Int) < n) = true := by simp; omega
    have d2 : decide ((n : Int) ≤ 16384) = true := by simp; omega
    clear hX hl
    go_enter Tryd.func3, Tryd.ntmps3
    go_wp2
    go_ret
    exact ⟨rfl, (by repeat (first | exact Below.refl _ _ | assumption | refine Below.drew ?_ | refine Below.alloc ?_ (by (try simp) <;> omega) _ | refine Below.setCell ?_ (by (try simp) <;> omega) _))⟩
  have d12 : (decide ((300 : Int) < n) = true ∧ decide ((n : Int) ≤ 16384) = false) ∨ decide ((300 : Int) < n) = false := by
    by_cases h : 300 < n
    · left; exact ⟨by simp; omega, by simp; omega⟩
    · right; simp; omega
  by_cases q3 : 100000 < t.size
  · have d4 : decide ((100000 : Int) < t.size) = true := by simp; omega
    clear hX hl
    rcases d12 with ⟨d1, d2⟩ | d1
    · go_enter Tryd.func3, Tryd.ntmps3
      go_wp2
      go_ret
      exact ⟨rfl, (by repeat (first | exact Below.refl _ _ | assumption | refine Below.drew ?_ | refine Below.alloc ?_ (by (try simp) <;> omega) _ | refine Below.setCell ?_ (by (try simp) <;> omega) _))⟩
    · go_enter Tryd.func3, Tryd.ntmps3
      go_wp2
      go_ret
      exact ⟨rfl, (by repeat (first | exact Below.refl _ _ | assumption | refine Below.drew ?_ | refine Below.alloc ?_ (by (try simp) <;> omega) _ | refine Below.setCell ?_ (by (try simp) <;> omega) _))⟩
  have d4 : decide ((100000 : Int) < t.size) = false := by simp; omega
  have hcs : [.int .u8 0, .int .i64 0, .int .i64 0, .int .i64 0, .int .i64 0, .int .u8 0, .int .u8 0, .int .u8 0, .int .u8 0, .int .u8 0, .int .u8 0, .int .u8 0, .int .u8 0, .string ⟨#[]⟩, .int .i64 77] = mark.enc := rfl
  replace hcs := Lib.hid hcs
  replace hX := Lib.hid hX
  replace en := Lib.hid en
  have n17 : n ≤ 17000 := by omega
  have x17 : xs.length ≤ 17000 := by have := en.out; omega
  have t10 : t.size ≤ 100000 := by omega
  clear q1 q2 q3 hl
  rcases d12 with ⟨d1, d2⟩ | d1
  · go_enter Tryd.func3, Tryd.ntmps3
    go_upto_region 4 with fail
    have hw1 : Below w.heap.size w (w.alloc (.cells #[.int .i64 W, .int .i64 H] 24)) := (by repeat (first | exact Below.refl _ _ | assumption | refine Below.drew ?_ | refine Below.alloc ?_ (by (try simp) <;> omega) _ | refine Below.setCell ?_ (by (try simp) <;> omega) _ | (refine Below.trans ?_ (Below.mono (by assumption) (by (try simp) <;> omega)))))
    have hbx : Blk (w.alloc (.cells #[.int .i64 W, .int .i64 H] 24)) w.heap.size [.int .i64 W, .int .i64 H] 24 := Blk.new' rfl
    obtain ⟨w1, hw1'⟩ : ∃ w1, w.alloc (.cells #[.int .i64 W, .int .i64 H] 24) = w1 := ⟨_, rfl⟩
    rw [hw1'] at hw1 hbx ⊢
    clear hw1'
    have z1 := hw1.size
    have y1 := hbx.lt
    have hrow := hX.out _ hw1
    have hnil : World.ownsRow w1 w1.heap.size 32 15 (.slice none 0 0) 0 [] := World.ownsRow_nil _ _ _ _
    replace hrow := Lib.hid hrow
    replace hnil := Lib.hid hnil
    replace hbx := Lib.hid hbx
    go_upto_region 6 with (first
      | (at_builtin; refine wpList_append_row rfl _ _ _ rfl w1.heap.size 32 iM _ 15 72 Tryd.underlying22 hi0 hm0 hm1 hm2 rfl (by omega) w1 _ _ _ (by rfl) hnil.out St.enc_len St.enc_one w1.heap.size _ xs hrow.out (by rfl) (by unfold maxLen; omega) (by omega) (Nat.le_refl _) ?_; intro v3 w3 hown3 hgr3)
      | (have hb3 : Below w1.heap.size w1 w3 := (Below.refl _ _).grown hgr3 (Nat.le_refl _) (fun k hk => by simp [Value.ownBlock] at hk); (at_builtin; refine wpList_append_new rfl _ _ _ rfl w1.heap.size 32 iM _ 15 72 Tryd.underlying22 hi0 hm0 hm1 hm2 rfl (by omega) w3 1 _ _ _ _ (by rfl) hown3 (by rfl) rfl (by simp [Value.oneCell']) (by omega) (by unfold maxLen; omega) hgr3.size ?_; intro v4 w4 hown4 hb4))
      | go_in)
    have hb3 : Below w1.heap.size w1 w3 := (Below.refl _ _).grown hgr3 (Nat.le_refl _) (fun k hk => by simp [Value.ownBlock] at hk)
    rw [Nat.zero_add, List.nil_append, flat_snoc' hcs.out] at hown4
    have hb14 := hb3.trans hb4
    have hB4 := hbx.out.below hb14 y1
    have h04 := hw1.trans (hb14.mono z1)
    have z4 := h04.size
    have o4 : Owns w1.heap.size w4 v4 (xs ++ [mark]) := by
      unfold Owns
      rw [List.length_append]
      exact hown4
    have rM : Row w4.heap.size 15 St.enc w4 v4 (xs ++ [mark]) := o4.row (Nat.le_refl _)
    obtain ⟨b, o, c, rfl, hb, hcap, hcm, hx⟩ := row_st rM (by simp)
    have hlen : (xs ++ [mark]).length = n + 1 := by simp [en.out]
    have hcut : Row w4.heap.size 15 St.enc w4 (.slice (some ⟨b, o, none⟩) n c) xs := row_cut' rM en.out
    obtain ⟨g0, g1, g2, g3, g4, g5, g6, g7, g8, g9, g10, g11, g12, g13, g14⟩ := hx n mark (by rw [List.getElem?_append_right (by have := en.out; omega), en.out, Nat.sub_self]; rfl)
    simp only [mark] at g0 g1 g2 g3 g4 g5 g6 g7 g8 g9 g10 g11 g12 g13 g14
    rw [hlen] at hcap ⊢
    have P0 := hB4.cell (o := 0) rfl
    have P1 := hB4.cell (o := 1) rfl
    have yB := hB4.lt
    have VT := fun W' (h : Below w4.heap.size w4 W') => vtext_any xs _ W H W' ((hcut.below h).mono h.size) hw (hD.below (h04.trans (h.mono z4)) (Nat.le_refl _)) h1 h2
    have KT := fun W' (h : Below w4.heap.size w4 W') => ktext_any xs (.slice s0 n cap) W H W' (hX.out _ (h04.trans (h.mono z4))) hw h1 h2
    have RS := fun W' (h : Below w4.heap.size w4 W') => rsame_any xs xs _ (.slice s0 n cap) W' ((hcut.below h).mono h.size) (hX.out _ (h04.trans (h.mono z4))) (by omega) (by omega)
    rw [sameL_refl] at RS
    have PV := fun W' => vplains_any t W' t10
    have PK := fun W' => kplain_any t W' t10
    have EV := fun W' => vescape_any t W' t10
    have EK := fun W' => kescape_any t W' t10
    obtain ⟨⟨A, E⟩, hR⟩ : ∃ R, txR xs W H = R := ⟨_, rfl⟩
    obtain ⟨⟨A2, E2, E3⟩, hP⟩ : ∃ R, plS t = R := ⟨_, rfl⟩
    obtain ⟨X, hX2⟩ : ∃ R, escS t = R := ⟨_, rfl⟩
    rw [hR] at VT KT
    rw [hP] at PV PK
    rw [hX2] at EV EK
    obtain ⟨S1, hS1⟩ : ∃ S : ByteArray, (⟨A.toArray⟩ : ByteArray) = S := ⟨_, rfl⟩
    obtain ⟨S2, hS2⟩ : ∃ S : ByteArray, (⟨A2.toArray⟩ : ByteArray) = S := ⟨_, rfl⟩
    replace VT := Lib.hid VT
    replace KT := Lib.hid KT
    replace RS := Lib.hid RS
    replace PV := Lib.hid PV
    replace PK := Lib.hid PK
    replace EV := Lib.hid EV
    replace EK := Lib.hid EK
    have i1 : (n : Int) ≤ n + 1 := by omega
    have i3 : (n : Int) ≤ c := by omega
    have i4 : (n : Int) < n + 1 := by omega
    have h23 := Below.refl w4.heap.size w4
    clear hR hP hX2 hS1 hS2 hx rM hcut hown3 hgr3 hown4 hb3 hb4 hb14 o4 hB4 hrow hnil hbx hX hlen
    refine wp_region_steady (Held w4 0 []) (by kernel_rfl) (by kernel_rfl) ⟨(by repeat (first | exact Below.refl _ _ | assumption | refine Below.drew ?_ | refine Below.alloc ?_ (by (try simp) <;> omega) _ | refine Below.setCell ?_ (by (try simp) <;> omega) _ | (refine Below.trans ?_ (Below.mono (by assumption) (by (try simp) <;> omega))))), (by (try simp) <;> omega), (by first | exact trivial | (simp only [Cells]; go_simp))⟩ ?_
    repeat (first | (refine' wpSteady_do _ _ _; rotate_left; (focus rfl); (focus (intro w1 hS R hR; have hc := hS.cells; simp only [Cells] at hc; obtain ⟨hco, hfo⟩ := bcell hS.old; go_simp; (try go_bits); (try (rw [if_neg (by omega)]; go_simp)); first | exact hR _ hS | (go_at_call 4; (with_reducible refine (VT.out _ (h23.trans hS.old)).mono ?_); rintro e w2 ⟨rfl, hb2⟩; exact ⟨_, rfl, hR _ (hS.below hb2)⟩))); simp only [Act.put, List.setIfInBounds_toArray, List.set_cons_zero, List.set_cons_succ]) | (refine wpSteady_pass ?_ ?_; (focus rfl); simp only [Act.put, List.setIfInBounds_toArray, List.set_cons_zero, List.set_cons_succ]))
    refine wpSteady_nil (fun uA hSA => ?_)
    have hcA := hSA.cells; have hbA := hSA.old; have hzA := hSA.size; clear hSA; simp only [Cells] at hcA; obtain ⟨hcoA, hfoA⟩ := bcell hbA
    have h4A := hbA
    have z4A := h4A.size
    clear hcA hbA hzA
    go_upto_region 10 with (first
      | (go_at_call 5; (with_reducible refine (KT.out _ h4A).mono ?_); rintro e w5 ⟨rfl, hb5⟩; have h45 := h4A.trans (hb5.mono z4A); have z45 := h45.size)
      | (go_at_call 6; (with_reducible refine (PV.out _).mono ?_); rintro e w6 ⟨rfl, hb6⟩; have h46 := h45.trans (hb6.mono z45); have z46 := h46.size)
      | (go_at_call 7; (with_reducible refine (PK.out _).mono ?_); rintro e w7 ⟨rfl, hb7⟩; have h47 := h46.trans (hb7.mono z46); have z47 := h47.size)
      | go_in)
    clear hb5 hb6 hb7 hcoA hfoA h4A z4A h45 z45 h46 z46
    have eE : (E == E) = true := by simp
    have eE2 : (E2 == E2) = true := by simp
    have eE3 : (E3 == E3) = true := by simp
    have hEq : St.eqb ⟨0, ⟨0, 0, 0, 0⟩, ⟨0, 0, 0, 0⟩, ⟨0, 0, 0, 0⟩, ⟨#[]⟩, 77⟩ ⟨0, ⟨0, 0, 0, 0⟩, ⟨0, 0, 0, 0⟩, ⟨0, 0, 0, 0⟩, ⟨#[]⟩, 77⟩ = true := St.eqb_refl _
    go_wp2_with (first
      | (go_at_call 8; (with_reducible refine (EV.out _).mono ?_); rintro e w8 ⟨rfl, hb8⟩; have h48 := h47.trans (hb8.mono z47); have z48 := h48.size)
      | (go_at_call 9; (with_reducible refine (EK.out _).mono ?_); rintro e w9 ⟨rfl, hb9⟩; have h49 := h48.trans (hb9.mono z48); have z49 := h49.size)
      | (go_at_call 10; (with_reducible refine (RS.out _ h49).mono ?_); rintro e w10 ⟨rfl, hb10⟩; have h410 := h49.trans (hb10.mono z49); have z410 := h410.size; obtain ⟨hc10, hf10⟩ := bcell h410)
      | go_in)
    go_ret
    exact ⟨rfl, h04.trans (h410.mono z4)⟩
  · go_enter Tryd.func3, Tryd.ntmps3
    go_upto_region 4 with fail
    have hw1 : Below w.heap.size w (w.alloc (.cells #[.int .i64 W, .int .i64 H] 24)) := (by repeat (first | exact Below.refl _ _ | assumption | refine Below.drew ?_ | refine Below.alloc ?_ (by (try simp) <;> omega) _ | refine Below.setCell ?_ (by (try simp) <;> omega) _ | (refine Below.trans ?_ (Below.mono (by assumption) (by (try simp) <;> omega)))))
    have hbx : Blk (w.alloc (.cells #[.int .i64 W, .int .i64 H] 24)) w.heap.size [.int .i64 W, .int .i64 H] 24 := Blk.new' rfl
    obtain ⟨w1, hw1'⟩ : ∃ w1, w.alloc (.cells #[.int .i64 W, .int .i64 H] 24) = w1 := ⟨_, rfl⟩
    rw [hw1'] at hw1 hbx ⊢
    clear hw1'
    have z1 := hw1.size
    have y1 := hbx.lt
    have hrow := hX.out _ hw1
    have hnil : World.ownsRow w1 w1.heap.size 32 15 (.slice none 0 0) 0 [] := World.ownsRow_nil _ _ _ _
    replace hrow := Lib.hid hrow
    replace hnil := Lib.hid hnil
    replace hbx := Lib.hid hbx
    go_upto_region 6 with (first
      | (at_builtin; refine wpList_append_row rfl _ _ _ rfl w1.heap.size 32 iM _ 15 72 Tryd.underlying22 hi0 hm0 hm1 hm2 rfl (by omega) w1 _ _ _ (by rfl) hnil.out St.enc_len St.enc_one w1.heap.size _ xs hrow.out (by rfl) (by unfold maxLen; omega) (by omega) (Nat.le_refl _) ?_; intro v3 w3 hown3 hgr3)
      | (have hb3 : Below w1.heap.size w1 w3 := (Below.refl _ _).grown hgr3 (Nat.le_refl _) (fun k hk => by simp [Value.ownBlock] at hk); (at_builtin; refine wpList_append_new rfl _ _ _ rfl w1.heap.size 32 iM _ 15 72 Tryd.underlying22 hi0 hm0 hm1 hm2 rfl (by omega) w3 1 _ _ _ _ (by rfl) hown3 (by rfl) rfl (by simp [Value.oneCell']) (by omega) (by unfold maxLen; omega) hgr3.size ?_; intro v4 w4 hown4 hb4))
      | go_in)
    have hb3 : Below w1.heap.size w1 w3 := (Below.refl _ _).grown hgr3 (Nat.le_refl _) (fun k hk => by simp [Value.ownBlock] at hk)
    rw [Nat.zero_add, List.nil_append, flat_snoc' hcs.out] at hown4
    have hb14 := hb3.trans hb4
    have hB4 := hbx.out.below hb14 y1
    have h04 := hw1.trans (hb14.mono z1)
    have z4 := h04.size
    have o4 : Owns w1.heap.size w4 v4 (xs ++ [mark]) := by
      unfold Owns
      rw [List.length_append]
      exact hown4
    have rM : Row w4.heap.size 15 St.enc w4 v4 (xs ++ [mark]) := o4.row (Nat.le_refl _)
    obtain ⟨b, o, c, rfl, hb, hcap, hcm, hx⟩ := row_st rM (by simp)
    have hlen : (xs ++ [mark]).length = n + 1 := by simp [en.out]
    have hcut : Row w4.heap.size 15 St.enc w4 (.slice (some ⟨b, o, none⟩) n c) xs := row_cut' rM en.out
    obtain ⟨g0, g1, g2, g3, g4, g5, g6, g7, g8, g9, g10, g11, g12, g13, g14⟩ := hx n mark (by rw [List.getElem?_append_right (by have := en.out; omega), en.out, Nat.sub_self]; rfl)
    simp only [mark] at g0 g1 g2 g3 g4 g5 g6 g7 g8 g9 g10 g11 g12 g13 g14
    rw [hlen] at hcap ⊢
    have P0 := hB4.cell (o := 0) rfl
    have P1 := hB4.cell (o := 1) rfl
    have yB := hB4.lt
    have VT := fun W' (h : Below w4.heap.size w4 W') => vtext_any xs _ W H W' ((hcut.below h).mono h.size) hw (hD.below (h04.trans (h.mono z4)) (Nat.le_refl _)) h1 h2
    have KT := fun W' (h : Below w4.heap.size w4 W') => ktext_any xs (.slice s0 n cap) W H W' (hX.out _ (h04.trans (h.mono z4))) hw h1 h2
    have RS := fun W' (h : Below w4.heap.size w4 W') => rsame_any xs xs _ (.slice s0 n cap) W' ((hcut.below h).mono h.size) (hX.out _ (h04.trans (h.mono z4))) (by omega) (by omega)
    rw [sameL_refl] at RS
    have PV := fun W' => vplains_any t W' t10
    have PK := fun W' => kplain_any t W' t10
    have EV := fun W' => vescape_any t W' t10
    have EK := fun W' => kescape_any t W' t10
    obtain ⟨⟨A, E⟩, hR⟩ : ∃ R, txR xs W H = R := ⟨_, rfl⟩
    obtain ⟨⟨A2, E2, E3⟩, hP⟩ : ∃ R, plS t = R := ⟨_, rfl⟩
    obtain ⟨X, hX2⟩ : ∃ R, escS t = R := ⟨_, rfl⟩
    rw [hR] at VT KT
    rw [hP] at PV PK
    rw [hX2] at EV EK
    obtain ⟨S1, hS1⟩ : ∃ S : ByteArray, (⟨A.toArray⟩ : ByteArray) = S := ⟨_, rfl⟩
    obtain ⟨S2, hS2⟩ : ∃ S : ByteArray, (⟨A2.toArray⟩ : ByteArray) = S := ⟨_, rfl⟩
    replace VT := Lib.hid VT
    replace KT := Lib.hid KT
    replace RS := Lib.hid RS
    replace PV := Lib.hid PV
    replace PK := Lib.hid PK
    replace EV := Lib.hid EV
    replace EK := Lib.hid EK
    have i1 : (n : Int) ≤ n + 1 := by omega
    have i3 : (n : Int) ≤ c := by omega
    have i4 : (n : Int) < n + 1 := by omega
    have h23 := Below.refl w4.heap.size w4
    clear hR hP hX2 hS1 hS2 hx rM hcut hown3 hgr3 hown4 hb3 hb4 hb14 o4 hB4 hrow hnil hbx hX hlen
    refine wp_region_steady (Held w4 0 []) (by kernel_rfl) (by kernel_rfl) ⟨(by repeat (first | exact Below.refl _ _ | assumption | refine Below.drew ?_ | refine Below.alloc ?_ (by (try simp) <;> omega) _ | refine Below.setCell ?_ (by (try simp) <;> omega) _ | (refine Below.trans ?_ (Below.mono (by assumption) (by (try simp) <;> omega))))), (by (try simp) <;> omega), (by first | exact trivial | (simp only [Cells]; go_simp))⟩ ?_
    repeat (first | (refine' wpSteady_do _ _ _; rotate_left; (focus rfl); (focus (intro w1 hS R hR; have hc := hS.cells; simp only [Cells] at hc; obtain ⟨hco, hfo⟩ := bcell hS.old; go_simp; (try go_bits); (try (rw [if_neg (by omega)]; go_simp)); first | exact hR _ hS | (go_at_call 4; (with_reducible refine (VT.out _ (h23.trans hS.old)).mono ?_); rintro e w2 ⟨rfl, hb2⟩; exact ⟨_, rfl, hR _ (hS.below hb2)⟩))); simp only [Act.put, List.setIfInBounds_toArray, List.set_cons_zero, List.set_cons_succ]) | (refine wpSteady_pass ?_ ?_; (focus rfl); simp only [Act.put, List.setIfInBounds_toArray, List.set_cons_zero, List.set_cons_succ]))
    refine wpSteady_nil (fun uA hSA => ?_)
    have hcA := hSA.cells; have hbA := hSA.old; have hzA := hSA.size; clear hSA; simp only [Cells] at hcA; obtain ⟨hcoA, hfoA⟩ := bcell hbA
    have h4A := hbA
    have z4A := h4A.size
    clear hcA hbA hzA
    go_upto_region 10 with (first
      | (go_at_call 5; (with_reducible refine (KT.out _ h4A).mono ?_); rintro e w5 ⟨rfl, hb5⟩; have h45 := h4A.trans (hb5.mono z4A); have z45 := h45.size)
      | (go_at_call 6; (with_reducible refine (PV.out _).mono ?_); rintro e w6 ⟨rfl, hb6⟩; have h46 := h45.trans (hb6.mono z45); have z46 := h46.size)
      | (go_at_call 7; (with_reducible refine (PK.out _).mono ?_); rintro e w7 ⟨rfl, hb7⟩; have h47 := h46.trans (hb7.mono z46); have z47 := h47.size)
      | go_in)
    clear hb5 hb6 hb7 hcoA hfoA h4A z4A h45 z45 h46 z46
    have eE : (E == E) = true := by simp
    have eE2 : (E2 == E2) = true := by simp
    have eE3 : (E3 == E3) = true := by simp
    have hEq : St.eqb ⟨0, ⟨0, 0, 0, 0⟩, ⟨0, 0, 0, 0⟩, ⟨0, 0, 0, 0⟩, ⟨#[]⟩, 77⟩ ⟨0, ⟨0, 0, 0, 0⟩, ⟨0, 0, 0, 0⟩, ⟨0, 0, 0, 0⟩, ⟨#[]⟩, 77⟩ = true := St.eqb_refl _
    go_wp2_with (first
      | (go_at_call 8; (with_reducible refine (EV.out _).mono ?_); rintro e w8 ⟨rfl, hb8⟩; have h48 := h47.trans (hb8.mono z47); have z48 := h48.size)
      | (go_at_call 9; (with_reducible refine (EK.out _).mono ?_); rintro e w9 ⟨rfl, hb9⟩; have h49 := h48.trans (hb9.mono z48); have z49 := h49.size)
      | (go_at_call 10; (with_reducible refine (RS.out _ h49).mono ?_); rintro e w10 ⟨rfl, hb10⟩; have h410 := h49.trans (hb10.mono z49); have z410 := h410.size; obtain ⟨hc10, hf10⟩ := bcell h410)
      | go_in)
    go_ret
    exact ⟨rfl, h04.trans (h410.mono z4)⟩
end Go.Proofs.YtpbolbpenkfpiaaDoor
