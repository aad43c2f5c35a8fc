/-
  The document's answer: kept, spans of a row.
-/
import Derived.Test.YtlklmncjicgbgaaRegCc
import Derived.Test.YtlklmncjicgbgaaRegY
namespace Go.Proofs.Ytlklmncjicgbgaa
open Go.RowKit
set_option linter.unusedVariables false
attribute [local go_sem] vwp vUpon_value vUpon_skip vUpon_enter vUpon_row
set_option linter.unusedSimpArgs false
set_option linter.unusedVariables false
set_option maxHeartbeats 2000000 in
theorem kkept_any (a b : List Re) (va vb : Value) (what x y : Int) (w : World) (ha : Row w.heap.size 4 Re.enc w va a) (hb : Row w.heap.size 4 Re.enc w vb b) (ma : MayL a) (mb : MayL b) (hw : what = 1 ∨ what = 2 ∨ what = 3) :
    Calls Try.prog 72 #[va, vb, .int .i64 what, .int .i64 x, .int .i64 y] w fun e w' => e = .returned (.bool (keptB a b what x y)) ∧ Below w.heap.size w w' := by
  have A := khas_any a va x y w ha ma
  have B := fun W (h : Below w.heap.size w W) => khas_any b vb x y W ((hb.below h).mono h.size) mb
  unfold keptB
  obtain ⟨o, ho⟩ : ∃ o, hasL a x y = o := ⟨_, rfl⟩
  obtain ⟨p, hp⟩ : ∃ p, hasL b x y = p := ⟨_, rfl⟩
  simp only [ho] at A
  simp only [hp] at B
  rw [ho, hp]
  clear ha hb ho hp ma mb
  obtain ⟨r, hr⟩ : ∃ r, wantB what o p = r := ⟨_, rfl⟩
  rw [hr]
  rcases hw with rfl | rfl | rfl <;> cases o <;> cases p <;> simp [wantB] at hr <;> subst hr
  all_goals
    replace A := Lib.hid A
    replace B := Lib.hid B
    go_enter Try.func72, Try.ntmps72
    go_wp2_with (first
      | (go_at_call 65; (with_reducible refine (A.out).mono ?_); rintro e w1 ⟨rfl, hb1⟩)
      | (go_at_call 65; (with_reducible refine (B.out _ hb1).mono ?_); rintro e w2 ⟨rfl, hb2⟩)
      | go_in)
    go_ret
    exact ⟨rfl, hb1.trans (hb2.mono hb1.size)⟩
theorem endsS_last : ∀ {M : List Sp} {p : Nat} {t : Sp}, M[p]? = some t → (endsS M)[2 * p + 1]? = some t.2
  | [], p, t, h => by simp at h
  | s :: M, 0, t, h => by simp at h; subst h; rfl
  | s :: M, p + 1, t, h => by
    have := endsS_last (M := M) (p := p) (t := t) (by simpa using h)
    rw [show endsS (s :: M) = s.1 :: s.2 :: endsS M from rfl, show 2 * (p + 1) + 1 = (2 * p + 1) + 1 + 1 by omega, List.getElem?_cons_succ, List.getElem?_cons_succ]
    exact this
theorem endsS_set : ∀ {M : List Sp} {p : Nat} {t : Sp} {y : Int}, M[p]? = some t → endsS (M.set p (t.1, y)) = (endsS M).set (2 * p + 1) y
  | [], p, t, y, h => by simp at h
  | s :: M, 0, t, y, h => by simp at h; subst h; rfl
  | s :: M, p + 1, t, y, h => by
    have := endsS_set (M := M) (p := p) (t := t) (y := y) (by simpa using h)
    rw [List.set_cons_succ, show endsS (s :: M.set p (t.1, y)) = s.1 :: s.2 :: endsS (M.set p (t.1, y)) from rfl, this, show endsS (s :: M) = s.1 :: s.2 :: endsS M from rfl, show 2 * (p + 1) + 1 = (2 * p + 1) + 1 + 1 by omega, List.set_cons_succ, List.set_cons_succ]
theorem endsS_app (M : List Sp) (x y : Int) : endsS (M ++ [(x, y)]) = endsS M ++ [x, y] := by
  unfold endsS
  rw [List.flatMap_append]
  rfl
theorem own_unfzI {w : World} {base g n cap : Nat} {C : List Int} (h : OwnsI base w (.slice (some ⟨g, 0, none⟩) n cap) C) (o : Nat) : w.frozen? ⟨g, o, none⟩ = false := by
  rcases h.2 with ⟨h0, _⟩ | ⟨g', cap', cur, hv, hg, hh, _⟩
  · cases h0
  · injection hv with hv _ _
    injection hv with hv
    injection hv with hv _ _
    subst hv
    simp [World.frozen?, hh]
theorem own_putI {w : World} {base g n cap k : Nat} {C : List Int} (h : OwnsI base w (.slice (some ⟨g, 0, none⟩) n cap) C) (hn : C.length = n) (hk : k < n) (u : Int) : OwnsI base (w.setCell ⟨g, k, none⟩ (.int .i64 u)) (.slice (some ⟨g, 0, none⟩) n cap) (C.set k u) := by
  unfold OwnsI at *
  rw [List.length_set, hn]
  rw [hn] at h
  have := own_put h (k := k) (by omega) (.int .i64 u)
  rw [flatVI] at this ⊢
  rw [List.map_set]
  exact this
theorem own_lessI {w : World} {base B : Nat} {v : Value} {C : List Int} (h : OwnsI base w v C) (hB : B ≤ base) : OwnsI B w v C := by
  unfold OwnsI at *
  obtain ⟨h1, h2⟩ := h
  refine ⟨h1, ?_⟩
  rcases h2 with h2 | ⟨g, cap, cur, hv, hg, r⟩
  · exact .inl h2
  · exact .inr ⟨g, cap, cur, hv, by omega, r⟩
theorem edgF_false (y : Int) : edgF false y = edgX y := by funext t q; rfl
theorem edgF_true (y : Int) : edgF true y = edgY := by funext t q; rfl
theorem edgesX_len (a b : List Re) (y : Int) : (edgesX a b y).length ≤ a.length * 2 + b.length * 2 := by
  unfold edgesX
  have h1 := edgF_fold false y a []
  have h2 := edgF_fold false y b (a.foldl (edgX y) [])
  rw [edgF_false] at h1 h2
  simp at h1
  omega
def SpansPost (l : List Sp) (w : World) (e : Ending) (w' : World) : Prop := Below w.heap.size w w' ∧ ∃ v, e = .returned v ∧ OwnsI w.heap.size w' v (endsS l)
set_option maxHeartbeats 4000000 in
set_option maxRecDepth 100000 in
theorem kspans_any (a b : List Re) (va vb : Value) (what y0 : Int) (w : World) (ha : Row w.heap.size 4 Re.enc w va a) (hb : Row w.heap.size 4 Re.enc w vb b) (ma : MayL a) (mb : MayL b) (la : a.length ≤ 100000) (lb : b.length ≤ 100000) (hw : what = 1 ∨ what = 2 ∨ what = 3) :
    Calls Try.prog 49 #[va, vb, .int .i64 what, .int .i64 y0] w (SpansPost (spansP a b what y0) w) := by
  obtain ⟨iS, hi0, hm0, hm1, hm2⟩ := info_parts infoIn
  have E1 := kedges_any [] a (.slice none 0 0) va false y0 w.heap.size w (OwnsI.nil _ _) ha ma (Nat.le_refl _) (by simp) la
  have E2 := fun w1 v1 (h : OwnsI w.heap.size w1 v1 (a.foldl (edgF false y0) [])) (h2 : Below w.heap.size w w1) => kedges_any (a.foldl (edgF false y0) []) b v1 vb false y0 w.heap.size w1 h (hb.below h2) mb h2.size (by have := edgF_fold false y0 a []; simp at this; omega) lb
  obtain ⟨X1, hX1⟩ : ∃ X, a.foldl (edgF false y0) [] = X := ⟨_, rfl⟩
  obtain ⟨X, hX⟩ : ∃ X, edgesX a b y0 = X := ⟨_, rfl⟩
  have hXe : b.foldl (edgF false y0) X1 = X := by rw [← hX, ← hX1, edgF_false]; rfl
  have hXl : X.length ≤ 400000 := by rw [← hX]; have := edgesX_len a b y0; omega
  have hXin : ∀ x ∈ X, InM x := fun x hx => by rw [← hX] at hx; exact edgesX_in ma mb y0 x hx
  rw [hX1] at E1 E2
  rw [hXe] at E2
  obtain ⟨R, hR⟩ : ∃ R, spansP a b what y0 = R := ⟨_, rfl⟩
  have hgo : mixGo (fun x => keptB a b what x y0) [] (X.drop 0) = R := by rw [List.drop_zero, ← hX]; exact hR
  have KP := fun x W (h : Below w.heap.size w W) => kkept_any a b va vb what x y0 W ((ha.below h).mono h.size) ((hb.below h).mono h.size) ma mb hw
  obtain ⟨s1, c1, rfl, hmax1⟩ := ha.shape
  obtain ⟨s2, c2, rfl, hmax2⟩ := hb.shape
  unfold SpansPost
  rw [hR]
  replace E1 := Lib.hid E1
  replace E2 := Lib.hid E2
  replace KP := Lib.hid KP
  replace hgo := Lib.hid hgo
  replace hXin := Lib.hid hXin
  clear ha hb hX1 hX hXe hR hw
  go_enter Try.func49, Try.ntmps49
  go_wp2_with (first
    | (go_at_call 48; (with_reducible refine (E1.out).mono ?_); rintro e w1 ⟨gr1, v1, rfl, ow1, _⟩; have hb1 : Below w.heap.size w w1 := grown_below gr1 (Nat.le_refl _) (fun g h => by cases h); replace ow1 := Lib.hid ow1)
    | (go_at_call 48; (with_reducible refine (E2.out _ _ ow1.out hb1).mono ?_); rintro e w4 ⟨gr4, v4, rfl, ow4, _⟩; have hb04 : Below w.heap.size w w4 := hb1.trans (grown_below gr4 hb1.size (fun g h => (own_block_lt ow1.out g h).1)))
    | go_in)
  clear hb1 gr1 gr4 ow1 E1 E2
  obtain ⟨s4, c4, rfl⟩ := own_slice ow4
  have hX4 := fun (wr : World) (hb : Below w4.heap.size w4 wr) h0 => row_in ((ow4.row (Nat.le_refl _)).below hb) h0
  have z04 := hb04.size
  obtain ⟨L, hL⟩ : ∃ L, X.length = L := ⟨_, rfl⟩
  rw [hL] at hX4 hXl ⊢
  replace hX4 := Lib.hid hX4
  replace hL := Lib.hid hL
  clear ow4
  go_loopw [10, 11] (fun ov iv wr => ∃ (i : Nat) (M : List Sp), i ≤ L ∧ iv = .int .i64 i ∧ Hid (M.length ≤ i) ∧ Hid (mixGo (fun x => keptB a b what x y0) M (X.drop i) = R) ∧ OwnsI w4.heap.size wr ov (endsS M) ∧ Below w4.heap.size w4 wr) (fun _ iv _ => L - (intOf iv).toNat)
  case atStart => exact ⟨0, [], Nat.zero_le _, rfl, Lib.hid (Nat.zero_le _), hgo, OwnsI.nil _ _, Below.refl _ _⟩
  case round =>
    obtain ⟨i, M, hi, rfl, hMl, hgo, hown, hb4r⟩ := hrel
    have hbr := hb04.trans (hb4r.mono z04)
    have zr := hbr.size
    have z4r := hb4r.size
    by_cases hiL : i + 1 < L
    · obtain ⟨bb, o, cap', e, yb, _, _, hel⟩ := hX4.out w4 (Below.refl _ _) (by omega)
      simp at e
      obtain ⟨rfl, rfl⟩ := e
      obtain ⟨x, hx⟩ := get_at hL.out (show i < L by omega)
      obtain ⟨y, hy⟩ := get_at hL.out hiL
      have g0 := hel i x hx
      have g1 := hel (i + 1) y hy
      obtain ⟨hcr, hfr⟩ := bcell hb4r
      obtain ⟨x0, x1⟩ := id (hXin.out x (List.mem_of_getElem? hx))
      obtain ⟨y0', y1⟩ := id (hXin.out y (List.mem_of_getElem? hy))
      have KP := fun W (h : Below wr.heap.size wr W) => KP.out x W (hbr.trans (h.mono zr))
      have hgo := hgo.out
      rw [mix_step hx hy] at hgo
      have hii : (i : Int) < L := by omega
      have hii2 : (i : Int) + 1 < L := by omega
      have ybr : bb < wr.heap.size := by omega
      clear hel hx hy
      generalize keptB a b what x y0 = kb at KP hgo
      have kl : (endsS M).length ≤ 800000 := by rw [endsS_len]; have := hMl.out; omega
      cases kb
      · rw [if_neg (by decide)] at hgo
        replace hgo := Lib.hid hgo
        replace hown := Lib.hid hown
        replace KP := Lib.hid KP
        go_wp2_with (first | (go_at_call 72; (with_reducible refine (KP.out _ (Below.refl _ _)).mono ?_); rintro e wk ⟨rfl, hbk⟩; obtain ⟨hck, hfk⟩ := bcell hbk; have zk := hbk.size) | go_in)
        go_roundw
        case rel => exact ⟨i + 1, M, by omega, by go_num, Lib.hid (by have := hMl.out; omega), hgo, hown.out.below hbk (Nat.le_refl _), hb4r.trans (hbk.mono z4r)⟩
        case measure => simp [intOf]; omega
      · rw [if_pos rfl] at hgo
        obtain ⟨st0, cap0, rfl⟩ := own_slice hown
        obtain ⟨k, hk⟩ : ∃ k, (endsS M).length = k := ⟨_, rfl⟩
        rw [hk] at kl hown ⊢
        replace KP := Lib.hid KP
        rcases Nat.eq_zero_or_pos M.length with h0 | h0
        · have hM : M = [] := List.length_eq_zero_iff.1 h0
          rw [show putS M x y = M ++ [(x, y)] by rw [hM]; rfl] at hgo
          obtain rfl : k = 0 := by rw [← hk, hM]; rfl
          clear hM h0
          replace hgo := Lib.hid hgo
          replace hown := Lib.hid hown
          replace hk := Lib.hid hk
          go_wp2_with (first | (go_at_call 72; (with_reducible refine (KP.out _ (Below.refl _ _)).mono ?_); rintro e wk ⟨rfl, hbk⟩; obtain ⟨hck, hfk⟩ := bcell hbk; have zk := hbk.size) | go_in)
          have ybk : bb < wk.heap.size := by omega
          refine wp_region_steady (Held wk 0 []) (by kernel_rfl) (by kernel_rfl) ⟨(by repeat (first | exact Below.refl _ _ | assumption | refine Below.drew ?_ | refine Below.alloc ?_ (by (try simp) <;> omega) _ | refine Below.setCell ?_ (by (try simp) <;> omega) _ | (refine Below.trans ?_ (Below.mono (by assumption) (by (try simp) <;> omega))))), (by (try simp) <;> omega), (by first | exact trivial | (simp only [Cells]; go_simp))⟩ ?_
          repeat (first | (refine' wpSteady_do _ _ _; rotate_left; (focus rfl); (focus (intro w1 hS R hR; have hc := hS.cells; simp only [Cells] at hc; obtain ⟨hco, hfo⟩ := bcell hS.old; go_simp; (try go_bits); first | exact hR _ hS | fail)); simp only [Act.put, List.setIfInBounds_toArray, List.set_cons_zero, List.set_cons_succ]) | (refine wpSteady_pass ?_ ?_; (focus rfl); simp only [Act.put, List.setIfInBounds_toArray, List.set_cons_zero, List.set_cons_succ]))
          refine wpSteady_nil (fun uB hSB => ?_)
          have hcB := hSB.cells; have hbB := hSB.old; have hzB := hSB.size; clear hSB; simp only [Cells] at hcB; obtain ⟨hcoB, hfoB⟩ := bcell hbB
          go_wp2
          have hownB := (hown.out.below hbk (Nat.le_refl _)).below hbB (Nat.le_refl _)
          unfold OwnsI at hownB
          rw [hk.out] at hownB
          have hb4B := (hb4r.trans (hbk.mono z4r)).trans (hbB.mono (by have := hbk.size; omega))
          have zB := hb4B.size
          refine held_begin (Held w4 0 []) (by kernel_rfl) ⟨Below.drew hb4B, by simp; omega, trivial⟩ (fun hS => ?_)
          replace hownB := Lib.hid hownB
          (first | (refine' held_do (i := 0) _ (by kernel_rfl) (by kernel_rfl) (by kernel_rfl) _ _ hS _ _; rotate_left 2; (focus (simp only [List.getElem?_toArray, List.getElem?_cons_succ, List.getElem?_cons_zero]; rfl)); (focus exact fun _ _ _ h => h); (focus rfl); (focus (intro w1 hSS R hR; have hc := hSS.2.2; (try simp only [Cells] at hc); obtain ⟨hco, hfo⟩ := bcell hSS.1; go_simp; (try go_bits); exact hR)); simp only [Act.put, List.setIfInBounds_toArray, List.set_cons_zero, List.set_cons_succ]) | (refine' held_pass (i := 0) _ (by kernel_rfl) (by kernel_rfl) (by kernel_rfl) _ _ hS _; rotate_left; (focus (simp only [List.getElem?_toArray, List.getElem?_cons_succ, List.getElem?_cons_zero]; rfl)); (focus exact fun _ _ _ h => h); (focus rfl); simp only [Act.put, List.setIfInBounds_toArray, List.set_cons_zero, List.set_cons_succ]))
          (first | (refine' held_do (i := 1) _ (by kernel_rfl) (by kernel_rfl) (by kernel_rfl) _ _ hS _ _; rotate_left 2; (focus (simp only [List.getElem?_toArray, List.getElem?_cons_succ, List.getElem?_cons_zero]; rfl)); (focus exact fun _ _ _ h => h); (focus rfl); (focus (intro w1 hSS R hR; have hc := hSS.2.2; (try simp only [Cells] at hc); obtain ⟨hco, hfo⟩ := bcell hSS.1; go_simp; (try go_bits); exact hR)); simp only [Act.put, List.setIfInBounds_toArray, List.set_cons_zero, List.set_cons_succ]) | (refine' held_pass (i := 1) _ (by kernel_rfl) (by kernel_rfl) (by kernel_rfl) _ _ hS _; rotate_left; (focus (simp only [List.getElem?_toArray, List.getElem?_cons_succ, List.getElem?_cons_zero]; rfl)); (focus exact fun _ _ _ h => h); (focus rfl); simp only [Act.put, List.setIfInBounds_toArray, List.set_cons_zero, List.set_cons_succ]))
          (first | (refine' held_do (i := 2) _ (by kernel_rfl) (by kernel_rfl) (by kernel_rfl) _ _ hS _ _; rotate_left 2; (focus (simp only [List.getElem?_toArray, List.getElem?_cons_succ, List.getElem?_cons_zero]; rfl)); (focus exact fun _ _ _ h => h); (focus rfl); (focus (intro w1 hSS R hR; have hc := hSS.2.2; (try simp only [Cells] at hc); obtain ⟨hco, hfo⟩ := bcell hSS.1; go_simp; (try go_bits); exact hR)); simp only [Act.put, List.setIfInBounds_toArray, List.set_cons_zero, List.set_cons_succ]) | (refine' held_pass (i := 2) _ (by kernel_rfl) (by kernel_rfl) (by kernel_rfl) _ _ hS _; rotate_left; (focus (simp only [List.getElem?_toArray, List.getElem?_cons_succ, List.getElem?_cons_zero]; rfl)); (focus exact fun _ _ _ h => h); (focus rfl); simp only [Act.put, List.setIfInBounds_toArray, List.set_cons_zero, List.set_cons_succ]))
          (first | (refine' held_do (i := 3) _ (by kernel_rfl) (by kernel_rfl) (by kernel_rfl) _ _ hS _ _; rotate_left 2; (focus (simp only [List.getElem?_toArray, List.getElem?_cons_succ, List.getElem?_cons_zero]; rfl)); (focus exact fun _ _ _ h => h); (focus rfl); (focus (intro w1 hSS R hR; have hc := hSS.2.2; (try simp only [Cells] at hc); obtain ⟨hco, hfo⟩ := bcell hSS.1; go_simp; (try go_bits); exact hR)); simp only [Act.put, List.setIfInBounds_toArray, List.set_cons_zero, List.set_cons_succ]) | (refine' held_pass (i := 3) _ (by kernel_rfl) (by kernel_rfl) (by kernel_rfl) _ _ hS _; rotate_left; (focus (simp only [List.getElem?_toArray, List.getElem?_cons_succ, List.getElem?_cons_zero]; rfl)); (focus exact fun _ _ _ h => h); (focus rfl); simp only [Act.put, List.setIfInBounds_toArray, List.set_cons_zero, List.set_cons_succ]))
          (first | (refine' held_do (i := 4) _ (by kernel_rfl) (by kernel_rfl) (by kernel_rfl) _ _ hS _ _; rotate_left 2; (focus (simp only [List.getElem?_toArray, List.getElem?_cons_succ, List.getElem?_cons_zero]; rfl)); (focus exact fun _ _ _ h => h); (focus rfl); (focus (intro w1 hSS R hR; have hc := hSS.2.2; (try simp only [Cells] at hc); obtain ⟨hco, hfo⟩ := bcell hSS.1; go_simp; (try go_bits); exact hR)); simp only [Act.put, List.setIfInBounds_toArray, List.set_cons_zero, List.set_cons_succ]) | (refine' held_pass (i := 4) _ (by kernel_rfl) (by kernel_rfl) (by kernel_rfl) _ _ hS _; rotate_left; (focus (simp only [List.getElem?_toArray, List.getElem?_cons_succ, List.getElem?_cons_zero]; rfl)); (focus exact fun _ _ _ h => h); (focus rfl); simp only [Act.put, List.setIfInBounds_toArray, List.set_cons_zero, List.set_cons_succ]))
          (first | (refine' held_do (i := 5) _ (by kernel_rfl) (by kernel_rfl) (by kernel_rfl) _ _ hS _ _; rotate_left 2; (focus (simp only [List.getElem?_toArray, List.getElem?_cons_succ, List.getElem?_cons_zero]; rfl)); (focus exact fun _ _ _ h => h); (focus rfl); (focus (intro w1 hSS R hR; have hc := hSS.2.2; (try simp only [Cells] at hc); obtain ⟨hco, hfo⟩ := bcell hSS.1; go_simp; (try go_bits); exact hR)); simp only [Act.put, List.setIfInBounds_toArray, List.set_cons_zero, List.set_cons_succ]) | (refine' held_pass (i := 5) _ (by kernel_rfl) (by kernel_rfl) (by kernel_rfl) _ _ hS _; rotate_left; (focus (simp only [List.getElem?_toArray, List.getElem?_cons_succ, List.getElem?_cons_zero]; rfl)); (focus exact fun _ _ _ h => h); (focus rfl); simp only [Act.put, List.setIfInBounds_toArray, List.set_cons_zero, List.set_cons_succ]))
          (first | (refine' held_do (i := 6) _ (by kernel_rfl) (by kernel_rfl) (by kernel_rfl) _ _ hS _ _; rotate_left 2; (focus (simp only [List.getElem?_toArray, List.getElem?_cons_succ, List.getElem?_cons_zero]; rfl)); (focus exact fun _ _ _ h => h); (focus rfl); (focus (intro w1 hSS R hR; have hc := hSS.2.2; (try simp only [Cells] at hc); obtain ⟨hco, hfo⟩ := bcell hSS.1; go_simp; (try go_bits); exact hR)); simp only [Act.put, List.setIfInBounds_toArray, List.set_cons_zero, List.set_cons_succ]) | (refine' held_pass (i := 6) _ (by kernel_rfl) (by kernel_rfl) (by kernel_rfl) _ _ hS _; rotate_left; (focus (simp only [List.getElem?_toArray, List.getElem?_cons_succ, List.getElem?_cons_zero]; rfl)); (focus exact fun _ _ _ h => h); (focus rfl); simp only [Act.put, List.setIfInBounds_toArray, List.set_cons_zero, List.set_cons_succ]))
          (first | (refine' held_do (i := 7) _ (by kernel_rfl) (by kernel_rfl) (by kernel_rfl) _ _ hS _ _; rotate_left 2; (focus (simp only [List.getElem?_toArray, List.getElem?_cons_succ, List.getElem?_cons_zero]; rfl)); (focus exact fun _ _ _ h => h); (focus rfl); (focus (intro w1 hSS R hR; have hc := hSS.2.2; (try simp only [Cells] at hc); obtain ⟨hco, hfo⟩ := bcell hSS.1; go_simp; (try go_bits); exact hR)); simp only [Act.put, List.setIfInBounds_toArray, List.set_cons_zero, List.set_cons_succ]) | (refine' held_pass (i := 7) _ (by kernel_rfl) (by kernel_rfl) (by kernel_rfl) _ _ hS _; rotate_left; (focus (simp only [List.getElem?_toArray, List.getElem?_cons_succ, List.getElem?_cons_zero]; rfl)); (focus exact fun _ _ _ h => h); (focus rfl); simp only [Act.put, List.setIfInBounds_toArray, List.set_cons_zero, List.set_cons_succ]))
          (first | (refine' held_do (i := 8) _ (by kernel_rfl) (by kernel_rfl) (by kernel_rfl) _ _ hS _ _; rotate_left 2; (focus (simp only [List.getElem?_toArray, List.getElem?_cons_succ, List.getElem?_cons_zero]; rfl)); (focus exact fun _ _ _ h => h); (focus rfl); (focus (intro w1 hSS R hR; have hc := hSS.2.2; (try simp only [Cells] at hc); obtain ⟨hco, hfo⟩ := bcell hSS.1; go_simp; (try go_bits); exact hR)); simp only [Act.put, List.setIfInBounds_toArray, List.set_cons_zero, List.set_cons_succ]) | (refine' held_pass (i := 8) _ (by kernel_rfl) (by kernel_rfl) (by kernel_rfl) _ _ hS _; rotate_left; (focus (simp only [List.getElem?_toArray, List.getElem?_cons_succ, List.getElem?_cons_zero]; rfl)); (focus exact fun _ _ _ h => h); (focus rfl); simp only [Act.put, List.setIfInBounds_toArray, List.set_cons_zero, List.set_cons_succ]))
          (first | (refine' held_do (i := 9) _ (by kernel_rfl) (by kernel_rfl) (by kernel_rfl) _ _ hS _ _; rotate_left 2; (focus (simp only [List.getElem?_toArray, List.getElem?_cons_succ, List.getElem?_cons_zero]; rfl)); (focus exact fun _ _ _ h => h); (focus rfl); (focus (intro w1 hSS R hR; have hc := hSS.2.2; (try simp only [Cells] at hc); obtain ⟨hco, hfo⟩ := bcell hSS.1; go_simp; (try go_bits); exact hR)); simp only [Act.put, List.setIfInBounds_toArray, List.set_cons_zero, List.set_cons_succ]) | (refine' held_pass (i := 9) _ (by kernel_rfl) (by kernel_rfl) (by kernel_rfl) _ _ hS _; rotate_left; (focus (simp only [List.getElem?_toArray, List.getElem?_cons_succ, List.getElem?_cons_zero]; rfl)); (focus exact fun _ _ _ h => h); (focus rfl); simp only [Act.put, List.setIfInBounds_toArray, List.set_cons_zero, List.set_cons_succ]))
          (refine' held_one (i := 10) _ (by kernel_rfl) _ _; rotate_left; (focus (simp only [List.getElem?_toArray, List.getElem?_cons_succ, List.getElem?_cons_zero]; rfl)); (focus rfl); intro K hK; go_simp)
          have hS1 := hS.below ((Below.refl _ _).alloc (Nat.le_refl _) (.cells #[.int .i64 x, .int .i64 y] 3))
          refine hK _ _ hS1 ?_
          clear hK
          (try simp only [Act.put, List.setIfInBounds_toArray, List.set_cons_zero, List.set_cons_succ])
          (refine' held_one (i := 11) _ (by kernel_rfl) _ _; rotate_left; (focus (simp only [List.getElem?_toArray, List.getElem?_cons_succ, List.getElem?_cons_zero]; rfl)); (focus rfl); intro K hK)
          refine wp_append_blk _ _ _ rfl w4.heap.size 3 iS _ 1 8 Try.underlying58 hi0 hm0 hm1 hm2 rfl (by omega) _ 2 _ _ _ _ _ _ (by rfl) (hownB.out.drew.alloc _) (Blk.new' rfl) (by rfl) (by rfl) (by simp [Value.oneCell']) (by omega) (by unfold maxLen; omega) (by simp; omega) ?_
          intro v6 w6 own6 gr6 at6 hb6
          have hS2 : Held w4 0 [] w6 := ⟨hS1.1.trans hb6, Nat.le_trans hS1.2.1 gr6.size, trivial⟩
          refine hK _ _ hS2 ?_
          clear hK
          (try simp only [Act.put, List.setIfInBounds_toArray, List.set_cons_zero, List.set_cons_succ])
          have hown6 := own6
          rw [flatI2 _ x y rfl] at hown6
          clear own6
          replace hown6 := Lib.hid hown6
          (refine' held_one (i := 12) _ (by kernel_rfl) _ _; rotate_left; (focus (simp only [List.getElem?_toArray, List.getElem?_cons_succ, List.getElem?_cons_zero]; rfl)); (focus rfl); intro K hK; go_simp)
          refine hK _ _ hS2 ?_
          clear hK
          (try simp only [Act.put, List.setIfInBounds_toArray, List.set_cons_zero, List.set_cons_succ])
          refine wpAnyH_done (by kernel_rfl) ?_ _
          go_wp2
          go_roundw
          case rel =>
            refine ⟨i + 1, M ++ [(x, y)], by omega, by go_num, by rw [List.length_append]; have := hMl.out; simp <;> omega, hgo, ?_, hS2.1⟩
            rw [endsS_app]
            unfold OwnsI
            rw [List.length_append, hk.out]
            exact hown6.out
          case measure => simp [intOf]; omega
        · obtain ⟨p, hp⟩ : ∃ p, M.length = p + 1 := ⟨M.length - 1, by omega⟩
          obtain ⟨t, ht⟩ := get_at (k := p) hp (by omega)
          have htl := endsS_last ht
          have hm : k = 2 * p + 1 + 1 := by rw [← hk, endsS_len, hp]; omega
          obtain ⟨m, hme⟩ : ∃ m, 2 * p + 1 = m := ⟨_, rfl⟩
          rw [hme] at hm htl
          subst hm
          have hown' := hown
          unfold OwnsI at hown'
          rw [hk] at hown'
          obtain ⟨g, rfl, hgB, hgl⟩ := own_addr hown' (by omega)
          have j0 := own_int hown htl
          have hfz := own_unfzI hown
          have hpi : (0 : Int) < (m : Int) + 1 := by omega
          have hpi2 : (m : Int) < (m : Int) + 1 := by omega
          clear hown' h0 htl
          replace hown := Lib.hid hown
          replace hme := Lib.hid hme
          by_cases htx : t.2 = x
          · rw [putS_set hp ht htx] at hgo
            have hth := Lib.hid ht
            replace hgo := Lib.hid hgo
            have hkh := Lib.hid hk
            have hph := Lib.hid hp
            clear hk ht hp
            obtain ⟨t1, t2⟩ := t
            simp only at j0 htx
            subst htx
            go_wp2_with (first | (go_at_call 72; (with_reducible refine (KP.out _ (Below.refl _ _)).mono ?_); rintro e wk ⟨rfl, hbk⟩; obtain ⟨hck, hfk⟩ := bcell hbk; have zk := hbk.size) | go_in)
            have ybk : bb < wk.heap.size := by omega
            have ygk : g < wk.heap.size := by omega
            refine wp_region_steady (Held wk 0 []) (by kernel_rfl) (by kernel_rfl) ⟨(by repeat (first | exact Below.refl _ _ | assumption | refine Below.drew ?_ | refine Below.alloc ?_ (by (try simp) <;> omega) _ | refine Below.setCell ?_ (by (try simp) <;> omega) _ | (refine Below.trans ?_ (Below.mono (by assumption) (by (try simp) <;> omega))))), (by (try simp) <;> omega), (by first | exact trivial | (simp only [Cells]; go_simp))⟩ ?_
            repeat (first | (refine' wpSteady_do _ _ _; rotate_left; (focus rfl); (focus (intro w1 hS R hR; have hc := hS.cells; simp only [Cells] at hc; obtain ⟨hco, hfo⟩ := bcell hS.old; go_simp; (try go_bits); first | exact hR _ hS | fail)); simp only [Act.put, List.setIfInBounds_toArray, List.set_cons_zero, List.set_cons_succ]) | (refine wpSteady_pass ?_ ?_; (focus rfl); simp only [Act.put, List.setIfInBounds_toArray, List.set_cons_zero, List.set_cons_succ]))
            refine wpSteady_nil (fun uB hSB => ?_)
            have hcB := hSB.cells; have hbB := hSB.old; have hzB := hSB.size; clear hSB; simp only [Cells] at hcB; obtain ⟨hcoB, hfoB⟩ := bcell hbB
            have yB : bb < uB.heap.size := by omega
            have yBg : g < uB.heap.size := by omega
            have hfzB : ∀ o, uB.frozen? ⟨g, o, none⟩ = false := fun o => (hfoB g o ygk).trans ((hfk g o hgl).trans (hfz o))
            go_wp2
            go_roundw
            case rel =>
              refine ⟨i + 1, M.set p (t1, y), by omega, by go_num, Lib.hid (by rw [List.length_set]; have := hMl.out; omega), hgo, ?_, ?_⟩
              · rw [endsS_set hth.out, hme.out]
                exact own_putI ((hown.out.below hbk (Nat.le_refl _)).below hbB (Nat.le_refl _)) hkh.out (by omega) y
              · exact ((hb4r.trans (hbk.mono z4r)).trans (hbB.mono (by omega))).setCell (by simp; omega) _
            case measure => simp [intOf]; omega
          · rw [putS_app hp ht htx] at hgo
            replace hgo := Lib.hid hgo
            obtain ⟨t1, t2⟩ := t
            simp only at j0 htx
            have htx' : (t2 == x) = false := by simp [htx]
            have htx2 : decide (t2 = x) = false := by simp [htx]
            clear ht
            replace hp := Lib.hid hp
            replace hk := Lib.hid hk
            go_wp2_with (first | (go_at_call 72; (with_reducible refine (KP.out _ (Below.refl _ _)).mono ?_); rintro e wk ⟨rfl, hbk⟩; obtain ⟨hck, hfk⟩ := bcell hbk; have zk := hbk.size) | go_in)
            have ybk : bb < wk.heap.size := by omega
            have ygk : g < wk.heap.size := by omega
            refine wp_region_steady (Held wk 0 []) (by kernel_rfl) (by kernel_rfl) ⟨(by repeat (first | exact Below.refl _ _ | assumption | refine Below.drew ?_ | refine Below.alloc ?_ (by (try simp) <;> omega) _ | refine Below.setCell ?_ (by (try simp) <;> omega) _ | (refine Below.trans ?_ (Below.mono (by assumption) (by (try simp) <;> omega))))), (by (try simp) <;> omega), (by first | exact trivial | (simp only [Cells]; go_simp))⟩ ?_
            repeat (first | (refine' wpSteady_do _ _ _; rotate_left; (focus rfl); (focus (intro w1 hS R hR; have hc := hS.cells; simp only [Cells] at hc; obtain ⟨hco, hfo⟩ := bcell hS.old; go_simp; (try go_bits); first | exact hR _ hS | fail)); simp only [Act.put, List.setIfInBounds_toArray, List.set_cons_zero, List.set_cons_succ]) | (refine wpSteady_pass ?_ ?_; (focus rfl); simp only [Act.put, List.setIfInBounds_toArray, List.set_cons_zero, List.set_cons_succ]))
            refine wpSteady_nil (fun uB hSB => ?_)
            have hcB := hSB.cells; have hbB := hSB.old; have hzB := hSB.size; clear hSB; simp only [Cells] at hcB; obtain ⟨hcoB, hfoB⟩ := bcell hbB
            go_wp2
            have hownB := (hown.out.below hbk (Nat.le_refl _)).below hbB (Nat.le_refl _)
            unfold OwnsI at hownB
            rw [hk.out] at hownB
            have hb4B := (hb4r.trans (hbk.mono z4r)).trans (hbB.mono (by have := hbk.size; omega))
            have zB := hb4B.size
            refine held_begin (Held w4 0 []) (by kernel_rfl) ⟨Below.drew hb4B, by simp; omega, trivial⟩ (fun hS => ?_)
            replace hownB := Lib.hid hownB
            (first | (refine' held_do (i := 0) _ (by kernel_rfl) (by kernel_rfl) (by kernel_rfl) _ _ hS _ _; rotate_left 2; (focus (simp only [List.getElem?_toArray, List.getElem?_cons_succ, List.getElem?_cons_zero]; rfl)); (focus exact fun _ _ _ h => h); (focus rfl); (focus (intro w1 hSS R hR; have hc := hSS.2.2; (try simp only [Cells] at hc); obtain ⟨hco, hfo⟩ := bcell hSS.1; go_simp; (try go_bits); exact hR)); simp only [Act.put, List.setIfInBounds_toArray, List.set_cons_zero, List.set_cons_succ]) | (refine' held_pass (i := 0) _ (by kernel_rfl) (by kernel_rfl) (by kernel_rfl) _ _ hS _; rotate_left; (focus (simp only [List.getElem?_toArray, List.getElem?_cons_succ, List.getElem?_cons_zero]; rfl)); (focus exact fun _ _ _ h => h); (focus rfl); simp only [Act.put, List.setIfInBounds_toArray, List.set_cons_zero, List.set_cons_succ]))
            (first | (refine' held_do (i := 1) _ (by kernel_rfl) (by kernel_rfl) (by kernel_rfl) _ _ hS _ _; rotate_left 2; (focus (simp only [List.getElem?_toArray, List.getElem?_cons_succ, List.getElem?_cons_zero]; rfl)); (focus exact fun _ _ _ h => h); (focus rfl); (focus (intro w1 hSS R hR; have hc := hSS.2.2; (try simp only [Cells] at hc); obtain ⟨hco, hfo⟩ := bcell hSS.1; go_simp; (try go_bits); exact hR)); simp only [Act.put, List.setIfInBounds_toArray, List.set_cons_zero, List.set_cons_succ]) | (refine' held_pass (i := 1) _ (by kernel_rfl) (by kernel_rfl) (by kernel_rfl) _ _ hS _; rotate_left; (focus (simp only [List.getElem?_toArray, List.getElem?_cons_succ, List.getElem?_cons_zero]; rfl)); (focus exact fun _ _ _ h => h); (focus rfl); simp only [Act.put, List.setIfInBounds_toArray, List.set_cons_zero, List.set_cons_succ]))
            (first | (refine' held_do (i := 2) _ (by kernel_rfl) (by kernel_rfl) (by kernel_rfl) _ _ hS _ _; rotate_left 2; (focus (simp only [List.getElem?_toArray, List.getElem?_cons_succ, List.getElem?_cons_zero]; rfl)); (focus exact fun _ _ _ h => h); (focus rfl); (focus (intro w1 hSS R hR; have hc := hSS.2.2; (try simp only [Cells] at hc); obtain ⟨hco, hfo⟩ := bcell hSS.1; go_simp; (try go_bits); exact hR)); simp only [Act.put, List.setIfInBounds_toArray, List.set_cons_zero, List.set_cons_succ]) | (refine' held_pass (i := 2) _ (by kernel_rfl) (by kernel_rfl) (by kernel_rfl) _ _ hS _; rotate_left; (focus (simp only [List.getElem?_toArray, List.getElem?_cons_succ, List.getElem?_cons_zero]; rfl)); (focus exact fun _ _ _ h => h); (focus rfl); simp only [Act.put, List.setIfInBounds_toArray, List.set_cons_zero, List.set_cons_succ]))
            (first | (refine' held_do (i := 3) _ (by kernel_rfl) (by kernel_rfl) (by kernel_rfl) _ _ hS _ _; rotate_left 2; (focus (simp only [List.getElem?_toArray, List.getElem?_cons_succ, List.getElem?_cons_zero]; rfl)); (focus exact fun _ _ _ h => h); (focus rfl); (focus (intro w1 hSS R hR; have hc := hSS.2.2; (try simp only [Cells] at hc); obtain ⟨hco, hfo⟩ := bcell hSS.1; go_simp; (try go_bits); exact hR)); simp only [Act.put, List.setIfInBounds_toArray, List.set_cons_zero, List.set_cons_succ]) | (refine' held_pass (i := 3) _ (by kernel_rfl) (by kernel_rfl) (by kernel_rfl) _ _ hS _; rotate_left; (focus (simp only [List.getElem?_toArray, List.getElem?_cons_succ, List.getElem?_cons_zero]; rfl)); (focus exact fun _ _ _ h => h); (focus rfl); simp only [Act.put, List.setIfInBounds_toArray, List.set_cons_zero, List.set_cons_succ]))
            (first | (refine' held_do (i := 4) _ (by kernel_rfl) (by kernel_rfl) (by kernel_rfl) _ _ hS _ _; rotate_left 2; (focus (simp only [List.getElem?_toArray, List.getElem?_cons_succ, List.getElem?_cons_zero]; rfl)); (focus exact fun _ _ _ h => h); (focus rfl); (focus (intro w1 hSS R hR; have hc := hSS.2.2; (try simp only [Cells] at hc); obtain ⟨hco, hfo⟩ := bcell hSS.1; go_simp; (try go_bits); exact hR)); simp only [Act.put, List.setIfInBounds_toArray, List.set_cons_zero, List.set_cons_succ]) | (refine' held_pass (i := 4) _ (by kernel_rfl) (by kernel_rfl) (by kernel_rfl) _ _ hS _; rotate_left; (focus (simp only [List.getElem?_toArray, List.getElem?_cons_succ, List.getElem?_cons_zero]; rfl)); (focus exact fun _ _ _ h => h); (focus rfl); simp only [Act.put, List.setIfInBounds_toArray, List.set_cons_zero, List.set_cons_succ]))
            (first | (refine' held_do (i := 5) _ (by kernel_rfl) (by kernel_rfl) (by kernel_rfl) _ _ hS _ _; rotate_left 2; (focus (simp only [List.getElem?_toArray, List.getElem?_cons_succ, List.getElem?_cons_zero]; rfl)); (focus exact fun _ _ _ h => h); (focus rfl); (focus (intro w1 hSS R hR; have hc := hSS.2.2; (try simp only [Cells] at hc); obtain ⟨hco, hfo⟩ := bcell hSS.1; go_simp; (try go_bits); exact hR)); simp only [Act.put, List.setIfInBounds_toArray, List.set_cons_zero, List.set_cons_succ]) | (refine' held_pass (i := 5) _ (by kernel_rfl) (by kernel_rfl) (by kernel_rfl) _ _ hS _; rotate_left; (focus (simp only [List.getElem?_toArray, List.getElem?_cons_succ, List.getElem?_cons_zero]; rfl)); (focus exact fun _ _ _ h => h); (focus rfl); simp only [Act.put, List.setIfInBounds_toArray, List.set_cons_zero, List.set_cons_succ]))
            (first | (refine' held_do (i := 6) _ (by kernel_rfl) (by kernel_rfl) (by kernel_rfl) _ _ hS _ _; rotate_left 2; (focus (simp only [List.getElem?_toArray, List.getElem?_cons_succ, List.getElem?_cons_zero]; rfl)); (focus exact fun _ _ _ h => h); (focus rfl); (focus (intro w1 hSS R hR; have hc := hSS.2.2; (try simp only [Cells] at hc); obtain ⟨hco, hfo⟩ := bcell hSS.1; go_simp; (try go_bits); exact hR)); simp only [Act.put, List.setIfInBounds_toArray, List.set_cons_zero, List.set_cons_succ]) | (refine' held_pass (i := 6) _ (by kernel_rfl) (by kernel_rfl) (by kernel_rfl) _ _ hS _; rotate_left; (focus (simp only [List.getElem?_toArray, List.getElem?_cons_succ, List.getElem?_cons_zero]; rfl)); (focus exact fun _ _ _ h => h); (focus rfl); simp only [Act.put, List.setIfInBounds_toArray, List.set_cons_zero, List.set_cons_succ]))
            (first | (refine' held_do (i := 7) _ (by kernel_rfl) (by kernel_rfl) (by kernel_rfl) _ _ hS _ _; rotate_left 2; (focus (simp only [List.getElem?_toArray, List.getElem?_cons_succ, List.getElem?_cons_zero]; rfl)); (focus exact fun _ _ _ h => h); (focus rfl); (focus (intro w1 hSS R hR; have hc := hSS.2.2; (try simp only [Cells] at hc); obtain ⟨hco, hfo⟩ := bcell hSS.1; go_simp; (try go_bits); exact hR)); simp only [Act.put, List.setIfInBounds_toArray, List.set_cons_zero, List.set_cons_succ]) | (refine' held_pass (i := 7) _ (by kernel_rfl) (by kernel_rfl) (by kernel_rfl) _ _ hS _; rotate_left; (focus (simp only [List.getElem?_toArray, List.getElem?_cons_succ, List.getElem?_cons_zero]; rfl)); (focus exact fun _ _ _ h => h); (focus rfl); simp only [Act.put, List.setIfInBounds_toArray, List.set_cons_zero, List.set_cons_succ]))
            (first | (refine' held_do (i := 8) _ (by kernel_rfl) (by kernel_rfl) (by kernel_rfl) _ _ hS _ _; rotate_left 2; (focus (simp only [List.getElem?_toArray, List.getElem?_cons_succ, List.getElem?_cons_zero]; rfl)); (focus exact fun _ _ _ h => h); (focus rfl); (focus (intro w1 hSS R hR; have hc := hSS.2.2; (try simp only [Cells] at hc); obtain ⟨hco, hfo⟩ := bcell hSS.1; go_simp; (try go_bits); exact hR)); simp only [Act.put, List.setIfInBounds_toArray, List.set_cons_zero, List.set_cons_succ]) | (refine' held_pass (i := 8) _ (by kernel_rfl) (by kernel_rfl) (by kernel_rfl) _ _ hS _; rotate_left; (focus (simp only [List.getElem?_toArray, List.getElem?_cons_succ, List.getElem?_cons_zero]; rfl)); (focus exact fun _ _ _ h => h); (focus rfl); simp only [Act.put, List.setIfInBounds_toArray, List.set_cons_zero, List.set_cons_succ]))
            (first | (refine' held_do (i := 9) _ (by kernel_rfl) (by kernel_rfl) (by kernel_rfl) _ _ hS _ _; rotate_left 2; (focus (simp only [List.getElem?_toArray, List.getElem?_cons_succ, List.getElem?_cons_zero]; rfl)); (focus exact fun _ _ _ h => h); (focus rfl); (focus (intro w1 hSS R hR; have hc := hSS.2.2; (try simp only [Cells] at hc); obtain ⟨hco, hfo⟩ := bcell hSS.1; go_simp; (try go_bits); exact hR)); simp only [Act.put, List.setIfInBounds_toArray, List.set_cons_zero, List.set_cons_succ]) | (refine' held_pass (i := 9) _ (by kernel_rfl) (by kernel_rfl) (by kernel_rfl) _ _ hS _; rotate_left; (focus (simp only [List.getElem?_toArray, List.getElem?_cons_succ, List.getElem?_cons_zero]; rfl)); (focus exact fun _ _ _ h => h); (focus rfl); simp only [Act.put, List.setIfInBounds_toArray, List.set_cons_zero, List.set_cons_succ]))
            (refine' held_one (i := 10) _ (by kernel_rfl) _ _; rotate_left; (focus (simp only [List.getElem?_toArray, List.getElem?_cons_succ, List.getElem?_cons_zero]; rfl)); (focus rfl); intro K hK; go_simp)
            have hS1 := hS.below ((Below.refl _ _).alloc (Nat.le_refl _) (.cells #[.int .i64 x, .int .i64 y] 3))
            refine hK _ _ hS1 ?_
            clear hK
            (try simp only [Act.put, List.setIfInBounds_toArray, List.set_cons_zero, List.set_cons_succ])
            (refine' held_one (i := 11) _ (by kernel_rfl) _ _; rotate_left; (focus (simp only [List.getElem?_toArray, List.getElem?_cons_succ, List.getElem?_cons_zero]; rfl)); (focus rfl); intro K hK)
            refine wp_append_blk _ _ _ rfl w4.heap.size 3 iS _ 1 8 Try.underlying58 hi0 hm0 hm1 hm2 rfl (by omega) _ 2 _ _ _ _ _ _ (by rfl) (hownB.out.drew.alloc _) (Blk.new' rfl) (by rfl) (by rfl) (by simp [Value.oneCell']) (by omega) (by unfold maxLen; omega) (by simp; omega) ?_
            intro v6 w6 own6 gr6 at6 hb6
            have hS2 : Held w4 0 [] w6 := ⟨hS1.1.trans hb6, Nat.le_trans hS1.2.1 gr6.size, trivial⟩
            refine hK _ _ hS2 ?_
            clear hK
            (try simp only [Act.put, List.setIfInBounds_toArray, List.set_cons_zero, List.set_cons_succ])
            have hown6 := own6
            rw [flatI2 _ x y rfl] at hown6
            clear own6
            replace hown6 := Lib.hid hown6
            (refine' held_one (i := 12) _ (by kernel_rfl) _ _; rotate_left; (focus (simp only [List.getElem?_toArray, List.getElem?_cons_succ, List.getElem?_cons_zero]; rfl)); (focus rfl); intro K hK; go_simp)
            refine hK _ _ hS2 ?_
            clear hK
            (try simp only [Act.put, List.setIfInBounds_toArray, List.set_cons_zero, List.set_cons_succ])
            refine wpAnyH_done (by kernel_rfl) ?_ _
            go_wp2
            go_roundw
            case rel =>
              refine ⟨i + 1, M ++ [(x, y)], by omega, by go_num, by rw [List.length_append]; have := hMl.out; simp <;> omega, hgo, ?_, hS2.1⟩
              rw [endsS_app]
              unfold OwnsI
              rw [List.length_append, hk.out]
              exact hown6.out
            case measure => simp [intOf]; omega
    · have hgo := hgo.out
      rw [mix_end (by have := hL.out; omega)] at hgo
      subst hgo
      obtain ⟨st0, cap0, rfl⟩ := own_slice hown
      replace hown := Lib.hid hown
      have hii2 : ¬ (i : Int) + 1 < L := by omega
      go_wp2
      go_ret
      exact ⟨hbr, _, rfl, own_lessI hown.out z04⟩
end Go.Proofs.Ytlklmncjicgbgaa
