/-
  region.mixed: the spans of what is wanted of two rows.
-/
import Derived.Test.YtlklmncjicgbgaaRegX
import Derived.Test.YtlklmncjicgbgaaRegE
namespace Go.Proofs.Ytlklmncjicgbgaa
open Go.RowKit
set_option linter.unusedVariables false
attribute [local go_sem] vwp vUpon_value vUpon_skip vUpon_enter vUpon_row
set_option linter.unusedSimpArgs false
set_option linter.unusedVariables false
theorem putS_end : ∀ (A : List Sp) (t : Sp) (x y : Int), putS (A ++ [t]) x y = A ++ if t.2 = x then [(t.1, y)] else [t, (x, y)]
  | [], t, x, y => rfl
  | [a], t, x, y => rfl
  | a :: b :: A, t, x, y => by
    have := putS_end (b :: A) t x y
    show a :: putS (b :: (A ++ [t])) x y = _
    rw [List.cons_append] at this
    rw [this]; rfl
def keepM (sa sb : List Sp) (what x : Int) : Bool := wantB what (inSB sa x) (inSB sb x)
def mixP (sa sb : List Sp) (what : Int) : List Sp := mixGo (keepM sa sb what) [] (onceI (endsS sa ++ endsS sb))
theorem mix_step {keep : Int → Bool} {M : List Sp} {X : List Int} {i : Nat} {x y : Int} (h1 : X[i]? = some x) (h2 : X[i + 1]? = some y) : mixGo keep M (X.drop i) = mixGo keep (if keep x then putS M x y else M) (X.drop (i + 1)) := by
  rw [drop_get h1, drop_get h2]
  rfl
theorem mix_end {keep : Int → Bool} {M : List Sp} {X : List Int} {i : Nat} (h : X.length ≤ i + 1) : mixGo keep M (X.drop i) = M := by
  have : (X.drop i).length ≤ 1 := by simp; omega
  match hX : X.drop i, this with
  | [], _ => rfl
  | [a], _ => rfl
  | a :: b :: r, h => simp at h
theorem putS_len : ∀ (M : List Sp) (x y : Int), (putS M x y).length ≤ M.length + 1
  | [], _, _ => by simp [putS]
  | [t], x, y => by unfold putS; split <;> simp
  | t :: u :: r, x, y => by
    have := putS_len (u :: r) x y
    show (t :: putS (u :: r) x y).length ≤ _
    simp only [List.length_cons] at this ⊢
    omega
theorem putS_set {M : List Sp} {p : Nat} {t : Sp} {x y : Int} (hM : M.length = p + 1) (ht : M[p]? = some t) (h : t.2 = x) : putS M x y = M.set p (t.1, y) := by
  have e : M = M.take p ++ [t] := by
    have := List.take_add_one (l := M) (i := p)
    rw [ht, List.take_of_length_le (by omega)] at this
    exact this
  have hl : (M.take p).length = p := by simp; omega
  conv => lhs; rw [e]
  conv => rhs; rw [e]
  rw [putS_end, if_pos h, List.set_append_right _ _ (by omega), hl, Nat.sub_self]
  rfl
theorem putS_app {M : List Sp} {p : Nat} {t : Sp} {x y : Int} (hM : M.length = p + 1) (ht : M[p]? = some t) (h : ¬ t.2 = x) : putS M x y = M ++ [(x, y)] := by
  have e : M = M.take p ++ [t] := by
    have := List.take_add_one (l := M) (i := p)
    rw [ht, List.take_of_length_le (by omega)] at this
    exact this
  conv => lhs; rw [e]
  conv => rhs; rw [e]
  rw [putS_end, if_neg h]
  simp
/-- What 'mixed' hands out. -/
def MixPost (sa sb : List Sp) (what : Int) (w : World) (e : Ending) (w' : World) : Prop := Below w.heap.size w w' ∧ ∃ v, e = .returned v ∧ OwnsS w.heap.size w' v (mixP sa sb what)
set_option maxHeartbeats 4000000 in
set_option maxRecDepth 100000 in
theorem mixed_any (sa sb : List Sp) (va vb : Value) (what : Int) (fw : Nat) (w : World)
    (ha : Row w.heap.size 2 encS w va sa) (hb : Row w.heap.size 2 encS w vb sb) (ca : CanS sa) (cb : CanS sb) (ia : ∀ s ∈ sa, InM s.1 ∧ InM s.2) (ib : ∀ s ∈ sb, InM s.1 ∧ InM s.2) (la : sa.length ≤ 100000) (lb : sb.length ≤ 100000)
    (eg : ∀ args w, (callFunc fw args).run Try.prog w = .ok (.enter fw args) w) (hw : ∀ a b w, Calls Try.prog fw #[.bool a, .bool b] w fun e w' => e = .returned (.bool (wantB what a b)) ∧ Below w.heap.size w w') :
    Calls Try.prog 76 #[va, vb, .func (.func fw) #[] #[]] w (MixPost sa sb what w) := by
  obtain ⟨iS, hi0, hm0, hm1, hm2⟩ := info_parts infoSp
  have E1 := ends2_any [] sa (.slice none 0 0) va w.heap.size w (OwnsI.nil _ _) ha (Nat.le_refl _) (by simp) la
  rw [List.nil_append] at E1
  have E2 := fun w1 v1 (h : OwnsI w.heap.size w1 v1 (endsS sa)) (h2 : Below w.heap.size w w1) => ends2_any (endsS sa) sb v1 vb w.heap.size w1 h (hb.below h2) h2.size (by rw [endsS_len]; omega) lb
  obtain ⟨ns, hns⟩ : ∃ ns, endsS sa ++ endsS sb = ns := ⟨_, rfl⟩
  have hnl : ns.length ≤ 400000 := by rw [← hns, List.length_append, endsS_len, endsS_len]; omega
  have hnin : ∀ x ∈ ns, InM x := by
    intro x hx
    rw [← hns, List.mem_append, mem_endsS, mem_endsS] at hx
    rcases hx with ⟨s, hs, rfl | rfl⟩ | ⟨s, hs, rfl | rfl⟩
    · exact (ia s hs).1
    · exact (ia s hs).2
    · exact (ib s hs).1
    · exact (ib s hs).2
  have SO := fun w1 v1 (h : OwnsI w.heap.size w1 v1 ns) (h2 : Below w.heap.size w w1) => isort_any ns v1 w1 w.heap.size h (by omega) h2.size
  have CO := fun w1 v1 (h : OwnsI w.heap.size w1 v1 (srtI ns)) (h2 : Below w.heap.size w w1) => icompact_any (srtI ns) v1 w1 w.heap.size h (by rw [srtI_len]; omega) h2.size
  have WA := fun x hx w1 (h : Below w.heap.size w w1) => swithin_any sa x va w1 ((ha.below h).mono h.size) ca (fun s hs => (ia s hs).1) hx la
  have WB := fun x hx w1 (h : Below w.heap.size w w1) => swithin_any sb x vb w1 ((hb.below h).mono h.size) cb (fun s hs => (ib s hs).1) hx lb
  obtain ⟨X, hX⟩ : ∃ X, onceI ns = X := ⟨_, rfl⟩
  have hXl : X.length ≤ 400000 := by rw [← hX]; have := onceI_len ns; omega
  have hXin : ∀ x ∈ X, InM x := fun x hx => by rw [← hX] at hx; exact hnin x ((onceI_spec ns).2 x |>.1 hx)
  have hXd : Lib.compact (srtI ns) = X := hX
  obtain ⟨R, hR⟩ : ∃ R, mixP sa sb what = R := ⟨_, rfl⟩
  have hgo : mixGo (keepM sa sb what) [] (X.drop 0) = R := by rw [List.drop_zero, ← hX, ← hns]; exact hR
  obtain ⟨s1, c1, rfl, hmax1⟩ := ha.shape
  obtain ⟨s2, c2, rfl, hmax2⟩ := hb.shape
  unfold MixPost
  rw [hR]
  rw [hXd] at CO
  rw [hns] at E2
  replace E1 := Lib.hid E1
  replace E2 := Lib.hid E2
  replace SO := Lib.hid SO
  replace CO := Lib.hid CO
  replace WA := Lib.hid WA
  replace WB := Lib.hid WB
  replace hgo := Lib.hid hgo
  replace hXin := Lib.hid hXin
  replace hw := Lib.hid hw
  clear ha hb ca cb ia ib hns hX hXd hR hnin hnl
  go_enter Try.func76, Try.ntmps76
  go_wp2_with (first
    | (go_at_call 84; (with_reducible refine (E1.out).mono ?_); rintro e w1 ⟨v1, rfl, ow1, hb1⟩; replace ow1 := Lib.hid ow1)
    | (go_at_call 84; (with_reducible refine (E2.out _ _ ow1.out hb1).mono ?_); rintro e w2 ⟨v2, rfl, ow2, hb2⟩; replace ow2 := Lib.hid ow2; have hb02 := hb1.trans (hb2.mono (Nat.le_refl _)))
    | (go_at_call 67; (with_reducible refine (SO.out _ _ ow2.out hb02).mono ?_); rintro e w3 ⟨rfl, ow3, gr3⟩; have hb03 := hb02.grown gr3 hb02.size (fun g hg => (ow2.out.lt g hg).1); replace ow3 := Lib.hid ow3)
    | (go_at_call 68; (with_reducible refine (CO.out _ _ ow3.out hb03).mono ?_); rintro e w4 ⟨v4, rfl, ow4, gr4⟩; have hb04 := hb03.grown gr4 hb03.size (fun g hg => (ow3.out.lt g hg).1))
    | go_in)
  clear hb1 hb2 hb02 hb03 gr3 gr4 ow1 ow2 ow3 E1 E2 SO CO
  obtain ⟨s4, c4, rfl⟩ := own_slice ow4
  have hX4 := fun (wr : World) (hb : Below w4.heap.size w4 wr) h0 => row_in ((ow4.row (Nat.le_refl _)).below hb) h0
  have z04 := hb04.size
  obtain ⟨L, hL⟩ : ∃ L, X.length = L := ⟨_, rfl⟩
  rw [hL] at hX4 hXl ⊢
  replace hX4 := Lib.hid hX4
  replace hL := Lib.hid hL
  clear ow4
  go_loopw [8, 9] (fun ov iv wr => ∃ (i : Nat) (M : List Sp), i ≤ L ∧ iv = .int .i64 i ∧ M.length ≤ i ∧ Hid (mixGo (keepM sa sb what) M (X.drop i) = R) ∧ OwnsS w4.heap.size wr ov M ∧ Below w4.heap.size w4 wr) (fun _ iv _ => L - (intOf iv).toNat)
  case atStart => exact ⟨0, [], Nat.zero_le _, rfl, Nat.zero_le _, hgo, OwnsS.nil _ _, Below.refl _ _⟩
  case round =>
    obtain ⟨i, M, hi, rfl, hMl, hgo, hown, hb4r⟩ := hrel
    have hbr := hb04.trans (hb4r.mono z04)
    have zr := hbr.size
    have z4r := hb4r.size
    by_cases hiL : i + 1 < L
    · obtain ⟨b, o, cap', e, hb, _, _, hel⟩ := hX4.out w4 (Below.refl _ _) (by omega)
      simp at e
      obtain ⟨rfl, rfl⟩ := e
      obtain ⟨x, hx⟩ := get_at hL.out (show i < L by omega)
      obtain ⟨y, hy⟩ := get_at hL.out hiL
      have g0 := hel i x hx
      have g1 := hel (i + 1) y hy
      obtain ⟨hcr, hfr⟩ := bcell hb4r
      obtain ⟨x0, x1⟩ := id (hXin.out x (List.mem_of_getElem? hx))
      obtain ⟨y0, y1⟩ := id (hXin.out y (List.mem_of_getElem? hy))
      have WA := WA.out x (hXin.out x (List.mem_of_getElem? hx))
      have WB := WB.out x (hXin.out x (List.mem_of_getElem? hx))
      have hgo := hgo.out
      rw [mix_step hx hy] at hgo
      have hii : (i : Int) < L := by omega
      have hii2 : (i : Int) + 1 < L := by omega
      have yb : b < wr.heap.size := by omega
      clear hel hx hy
      unfold keepM at hgo
      generalize inSB sa x = ba at WA hgo
      generalize inSB sb x = bb at WB hgo
      have FW := hw.out ba bb
      generalize wantB what ba bb = kb at FW hgo
      replace WA := Lib.hid WA
      replace WB := Lib.hid WB
      replace FW := Lib.hid FW
      cases kb
      · rw [if_neg (by decide)] at hgo
        replace hgo := Lib.hid hgo
        replace hown := Lib.hid hown
        go_wp2
        refine wp_region_steady (Held wr 0 []) (by kernel_rfl) (by kernel_rfl) ⟨(by repeat (first | exact Below.refl _ _ | assumption | refine Below.drew ?_ | refine Below.alloc ?_ (by (try simp) <;> omega) _ | refine Below.setCell ?_ (by (try simp) <;> omega) _ | (refine Below.trans ?_ (Below.mono (by assumption) (by (try simp) <;> omega))))), (by (try simp) <;> omega), (by first | exact trivial | (simp only [Cells]; go_simp))⟩ ?_
        repeat (first | (refine' wpSteady_do _ _ _; rotate_left; (focus rfl); (focus (intro w1 hS R hR; have hc := hS.cells; simp only [Cells] at hc; obtain ⟨hco, hfo⟩ := bcell hS.old; go_simp; (try go_bits); first | exact hR _ hS | (first
                          | (go_at_call 85; (with_reducible refine (WA.out _ (hbr.trans (hS.old.mono zr))).mono ?_); rintro e w2 ⟨rfl, hb2⟩; exact ⟨_, rfl, hR _ (hS.below hb2)⟩)
                          | (go_at_call 85; (with_reducible refine (WB.out _ (hbr.trans (hS.old.mono zr))).mono ?_); rintro e w2 ⟨rfl, hb2⟩; exact ⟨_, rfl, hR _ (hS.below hb2)⟩)
                          | (go_at_fn fw; (with_reducible refine (FW.out _).mono ?_); rintro e w2 ⟨rfl, hb2⟩; exact ⟨_, rfl, hR _ (hS.below hb2)⟩)))); simp only [Act.put, List.setIfInBounds_toArray, List.set_cons_zero, List.set_cons_succ]) | (refine wpSteady_pass ?_ ?_; (focus rfl); simp only [Act.put, List.setIfInBounds_toArray, List.set_cons_zero, List.set_cons_succ]))
        refine wpSteady_nil (fun uA hSA => ?_)
        have hcA := hSA.cells; have hbA := hSA.old; have hzA := hSA.size; clear hSA; simp only [Cells] at hcA; obtain ⟨hcoA, hfoA⟩ := bcell hbA
        go_wp2
        go_roundw
        case rel => exact ⟨i + 1, M, by omega, by go_num, by omega, hgo, hown.out.below hbA (Nat.le_refl _), hb4r.trans (hbA.mono z4r)⟩
        case measure => simp [intOf]; omega
      · rw [if_pos rfl] at hgo
        obtain ⟨st0, cap0, rfl⟩ := own_slice hown
        obtain ⟨k, hk⟩ : ∃ k, M.length = k := ⟨_, rfl⟩
        rw [hk] at hMl hown ⊢
        cases k with
        | zero =>
          have hM : M = [] := List.length_eq_zero_iff.1 hk
          rw [show putS M x y = M ++ [(x, y)] by rw [hM]; rfl] at hgo
          clear hM
          replace hgo := Lib.hid hgo
          replace hown := Lib.hid hown
          replace hk := Lib.hid hk
          go_wp2
          refine wp_region_steady (Held wr 0 []) (by kernel_rfl) (by kernel_rfl) ⟨(by repeat (first | exact Below.refl _ _ | assumption | refine Below.drew ?_ | refine Below.alloc ?_ (by (try simp) <;> omega) _ | refine Below.setCell ?_ (by (try simp) <;> omega) _ | (refine Below.trans ?_ (Below.mono (by assumption) (by (try simp) <;> omega))))), (by (try simp) <;> omega), (by first | exact trivial | (simp only [Cells]; go_simp))⟩ ?_
          repeat (first | (refine' wpSteady_do _ _ _; rotate_left; (focus rfl); (focus (intro w1 hS R hR; have hc := hS.cells; simp only [Cells] at hc; obtain ⟨hco, hfo⟩ := bcell hS.old; go_simp; (try go_bits); first | exact hR _ hS | (first
                                | (go_at_call 85; (with_reducible refine (WA.out _ (hbr.trans (hS.old.mono zr))).mono ?_); rintro e w2 ⟨rfl, hb2⟩; exact ⟨_, rfl, hR _ (hS.below hb2)⟩)
                                | (go_at_call 85; (with_reducible refine (WB.out _ (hbr.trans (hS.old.mono zr))).mono ?_); rintro e w2 ⟨rfl, hb2⟩; exact ⟨_, rfl, hR _ (hS.below hb2)⟩)
                                | (go_at_fn fw; (with_reducible refine (FW.out _).mono ?_); rintro e w2 ⟨rfl, hb2⟩; exact ⟨_, rfl, hR _ (hS.below hb2)⟩)))); simp only [Act.put, List.setIfInBounds_toArray, List.set_cons_zero, List.set_cons_succ]) | (refine wpSteady_pass ?_ ?_; (focus rfl); simp only [Act.put, List.setIfInBounds_toArray, List.set_cons_zero, List.set_cons_succ]))
          refine wpSteady_nil (fun uA hSA => ?_)
          have hcA := hSA.cells; have hbA := hSA.old; have hzA := hSA.size; clear hSA; simp only [Cells] at hcA; obtain ⟨hcoA, hfoA⟩ := bcell hbA
          have yA : b < uA.heap.size := by omega
          clear WA WB FW
          go_wp2
          refine wp_region_steady (Held uA 0 []) (by kernel_rfl) (by kernel_rfl) ⟨(by repeat (first | exact Below.refl _ _ | assumption | refine Below.drew ?_ | refine Below.alloc ?_ (by (try simp) <;> omega) _ | refine Below.setCell ?_ (by (try simp) <;> omega) _ | (refine Below.trans ?_ (Below.mono (by assumption) (by (try simp) <;> omega))))), (by (try simp) <;> omega), (by first | exact trivial | (simp only [Cells]; go_simp))⟩ ?_
          repeat (first | (refine' wpSteady_do _ _ _; rotate_left; (focus rfl); (focus (intro w1 hS R hR; have hc := hS.cells; simp only [Cells] at hc; obtain ⟨hco, hfo⟩ := bcell hS.old; go_simp; (try go_bits); first | exact hR _ hS | fail)); simp only [Act.put, List.setIfInBounds_toArray, List.set_cons_zero, List.set_cons_succ]) | (refine wpSteady_pass ?_ ?_; (focus rfl); simp only [Act.put, List.setIfInBounds_toArray, List.set_cons_zero, List.set_cons_succ]))
          refine wpSteady_nil (fun uB hSB => ?_)
          have hcB := hSB.cells; have hbB := hSB.old; have hzB := hSB.size; clear hSB; simp only [Cells] at hcB; obtain ⟨hcoB, hfoB⟩ := bcell hbB
          go_wp2
          have hownB := (hown.out.below hbA (Nat.le_refl _)).below hbB (Nat.le_refl _)
          unfold OwnsS at hownB
          rw [hk.out] at hownB
          have hb4B := (hb4r.trans (hbA.mono z4r)).trans (hbB.mono (by omega))
          have zB := hb4B.size
          refine held_begin (Held w4 0 []) (by kernel_rfl) ⟨Below.drew hb4B, by simp; omega, trivial⟩ (fun hS => ?_)
          replace hownB := Lib.hid hownB
          (first | (refine' held_do (i := 0) _ (by kernel_rfl) (by kernel_rfl) (by kernel_rfl) _ _ hS _ _; rotate_left 2; (focus (simp only [List.getElem?_toArray, List.getElem?_cons_succ, List.getElem?_cons_zero]; rfl)); (focus exact fun _ _ _ h => h); (focus rfl); (focus (intro w1 hSS R hR; have hc := hSS.2.2; (try simp only [Cells] at hc); obtain ⟨hco, hfo⟩ := bcell hSS.1; go_simp; (try go_bits); exact hR)); simp only [Act.put, List.setIfInBounds_toArray, List.set_cons_zero, List.set_cons_succ]) | (refine' held_pass (i := 0) _ (by kernel_rfl) (by kernel_rfl) (by kernel_rfl) _ _ hS _; rotate_left; (focus (simp only [List.getElem?_toArray, List.getElem?_cons_succ, List.getElem?_cons_zero]; rfl)); (focus exact fun _ _ _ h => h); (focus rfl); simp only [Act.put, List.setIfInBounds_toArray, List.set_cons_zero, List.set_cons_succ]))
          (first | (refine' held_do (i := 1) _ (by kernel_rfl) (by kernel_rfl) (by kernel_rfl) _ _ hS _ _; rotate_left 2; (focus (simp only [List.getElem?_toArray, List.getElem?_cons_succ, List.getElem?_cons_zero]; rfl)); (focus exact fun _ _ _ h => h); (focus rfl); (focus (intro w1 hSS R hR; have hc := hSS.2.2; (try simp only [Cells] at hc); obtain ⟨hco, hfo⟩ := bcell hSS.1; go_simp; (try go_bits); exact hR)); simp only [Act.put, List.setIfInBounds_toArray, List.set_cons_zero, List.set_cons_succ]) | (refine' held_pass (i := 1) _ (by kernel_rfl) (by kernel_rfl) (by kernel_rfl) _ _ hS _; rotate_left; (focus (simp only [List.getElem?_toArray, List.getElem?_cons_succ, List.getElem?_cons_zero]; rfl)); (focus exact fun _ _ _ h => h); (focus rfl); simp only [Act.put, List.setIfInBounds_toArray, List.set_cons_zero, List.set_cons_succ]))
          (first | (refine' held_do (i := 2) _ (by kernel_rfl) (by kernel_rfl) (by kernel_rfl) _ _ hS _ _; rotate_left 2; (focus (simp only [List.getElem?_toArray, List.getElem?_cons_succ, List.getElem?_cons_zero]; rfl)); (focus exact fun _ _ _ h => h); (focus rfl); (focus (intro w1 hSS R hR; have hc := hSS.2.2; (try simp only [Cells] at hc); obtain ⟨hco, hfo⟩ := bcell hSS.1; go_simp; (try go_bits); exact hR)); simp only [Act.put, List.setIfInBounds_toArray, List.set_cons_zero, List.set_cons_succ]) | (refine' held_pass (i := 2) _ (by kernel_rfl) (by kernel_rfl) (by kernel_rfl) _ _ hS _; rotate_left; (focus (simp only [List.getElem?_toArray, List.getElem?_cons_succ, List.getElem?_cons_zero]; rfl)); (focus exact fun _ _ _ h => h); (focus rfl); simp only [Act.put, List.setIfInBounds_toArray, List.set_cons_zero, List.set_cons_succ]))
          (first | (refine' held_do (i := 3) _ (by kernel_rfl) (by kernel_rfl) (by kernel_rfl) _ _ hS _ _; rotate_left 2; (focus (simp only [List.getElem?_toArray, List.getElem?_cons_succ, List.getElem?_cons_zero]; rfl)); (focus exact fun _ _ _ h => h); (focus rfl); (focus (intro w1 hSS R hR; have hc := hSS.2.2; (try simp only [Cells] at hc); obtain ⟨hco, hfo⟩ := bcell hSS.1; go_simp; (try go_bits); exact hR)); simp only [Act.put, List.setIfInBounds_toArray, List.set_cons_zero, List.set_cons_succ]) | (refine' held_pass (i := 3) _ (by kernel_rfl) (by kernel_rfl) (by kernel_rfl) _ _ hS _; rotate_left; (focus (simp only [List.getElem?_toArray, List.getElem?_cons_succ, List.getElem?_cons_zero]; rfl)); (focus exact fun _ _ _ h => h); (focus rfl); simp only [Act.put, List.setIfInBounds_toArray, List.set_cons_zero, List.set_cons_succ]))
          (first | (refine' held_do (i := 4) _ (by kernel_rfl) (by kernel_rfl) (by kernel_rfl) _ _ hS _ _; rotate_left 2; (focus (simp only [List.getElem?_toArray, List.getElem?_cons_succ, List.getElem?_cons_zero]; rfl)); (focus exact fun _ _ _ h => h); (focus rfl); (focus (intro w1 hSS R hR; have hc := hSS.2.2; (try simp only [Cells] at hc); obtain ⟨hco, hfo⟩ := bcell hSS.1; go_simp; (try go_bits); exact hR)); simp only [Act.put, List.setIfInBounds_toArray, List.set_cons_zero, List.set_cons_succ]) | (refine' held_pass (i := 4) _ (by kernel_rfl) (by kernel_rfl) (by kernel_rfl) _ _ hS _; rotate_left; (focus (simp only [List.getElem?_toArray, List.getElem?_cons_succ, List.getElem?_cons_zero]; rfl)); (focus exact fun _ _ _ h => h); (focus rfl); simp only [Act.put, List.setIfInBounds_toArray, List.set_cons_zero, List.set_cons_succ]))
          (first | (refine' held_do (i := 5) _ (by kernel_rfl) (by kernel_rfl) (by kernel_rfl) _ _ hS _ _; rotate_left 2; (focus (simp only [List.getElem?_toArray, List.getElem?_cons_succ, List.getElem?_cons_zero]; rfl)); (focus exact fun _ _ _ h => h); (focus rfl); (focus (intro w1 hSS R hR; have hc := hSS.2.2; (try simp only [Cells] at hc); obtain ⟨hco, hfo⟩ := bcell hSS.1; go_simp; (try go_bits); exact hR)); simp only [Act.put, List.setIfInBounds_toArray, List.set_cons_zero, List.set_cons_succ]) | (refine' held_pass (i := 5) _ (by kernel_rfl) (by kernel_rfl) (by kernel_rfl) _ _ hS _; rotate_left; (focus (simp only [List.getElem?_toArray, List.getElem?_cons_succ, List.getElem?_cons_zero]; rfl)); (focus exact fun _ _ _ h => h); (focus rfl); simp only [Act.put, List.setIfInBounds_toArray, List.set_cons_zero, List.set_cons_succ]))
          (first | (refine' held_do (i := 6) _ (by kernel_rfl) (by kernel_rfl) (by kernel_rfl) _ _ hS _ _; rotate_left 2; (focus (simp only [List.getElem?_toArray, List.getElem?_cons_succ, List.getElem?_cons_zero]; rfl)); (focus exact fun _ _ _ h => h); (focus rfl); (focus (intro w1 hSS R hR; have hc := hSS.2.2; (try simp only [Cells] at hc); obtain ⟨hco, hfo⟩ := bcell hSS.1; go_simp; (try go_bits); exact hR)); simp only [Act.put, List.setIfInBounds_toArray, List.set_cons_zero, List.set_cons_succ]) | (refine' held_pass (i := 6) _ (by kernel_rfl) (by kernel_rfl) (by kernel_rfl) _ _ hS _; rotate_left; (focus (simp only [List.getElem?_toArray, List.getElem?_cons_succ, List.getElem?_cons_zero]; rfl)); (focus exact fun _ _ _ h => h); (focus rfl); simp only [Act.put, List.setIfInBounds_toArray, List.set_cons_zero, List.set_cons_succ]))
          (first | (refine' held_do (i := 7) _ (by kernel_rfl) (by kernel_rfl) (by kernel_rfl) _ _ hS _ _; rotate_left 2; (focus (simp only [List.getElem?_toArray, List.getElem?_cons_succ, List.getElem?_cons_zero]; rfl)); (focus exact fun _ _ _ h => h); (focus rfl); (focus (intro w1 hSS R hR; have hc := hSS.2.2; (try simp only [Cells] at hc); obtain ⟨hco, hfo⟩ := bcell hSS.1; go_simp; (try go_bits); exact hR)); simp only [Act.put, List.setIfInBounds_toArray, List.set_cons_zero, List.set_cons_succ]) | (refine' held_pass (i := 7) _ (by kernel_rfl) (by kernel_rfl) (by kernel_rfl) _ _ hS _; rotate_left; (focus (simp only [List.getElem?_toArray, List.getElem?_cons_succ, List.getElem?_cons_zero]; rfl)); (focus exact fun _ _ _ h => h); (focus rfl); simp only [Act.put, List.setIfInBounds_toArray, List.set_cons_zero, List.set_cons_succ]))
          (first | (refine' held_do (i := 8) _ (by kernel_rfl) (by kernel_rfl) (by kernel_rfl) _ _ hS _ _; rotate_left 2; (focus (simp only [List.getElem?_toArray, List.getElem?_cons_succ, List.getElem?_cons_zero]; rfl)); (focus exact fun _ _ _ h => h); (focus rfl); (focus (intro w1 hSS R hR; have hc := hSS.2.2; (try simp only [Cells] at hc); obtain ⟨hco, hfo⟩ := bcell hSS.1; go_simp; (try go_bits); exact hR)); simp only [Act.put, List.setIfInBounds_toArray, List.set_cons_zero, List.set_cons_succ]) | (refine' held_pass (i := 8) _ (by kernel_rfl) (by kernel_rfl) (by kernel_rfl) _ _ hS _; rotate_left; (focus (simp only [List.getElem?_toArray, List.getElem?_cons_succ, List.getElem?_cons_zero]; rfl)); (focus exact fun _ _ _ h => h); (focus rfl); simp only [Act.put, List.setIfInBounds_toArray, List.set_cons_zero, List.set_cons_succ]))
          (first | (refine' held_do (i := 9) _ (by kernel_rfl) (by kernel_rfl) (by kernel_rfl) _ _ hS _ _; rotate_left 2; (focus (simp only [List.getElem?_toArray, List.getElem?_cons_succ, List.getElem?_cons_zero]; rfl)); (focus exact fun _ _ _ h => h); (focus rfl); (focus (intro w1 hSS R hR; have hc := hSS.2.2; (try simp only [Cells] at hc); obtain ⟨hco, hfo⟩ := bcell hSS.1; go_simp; (try go_bits); exact hR)); simp only [Act.put, List.setIfInBounds_toArray, List.set_cons_zero, List.set_cons_succ]) | (refine' held_pass (i := 9) _ (by kernel_rfl) (by kernel_rfl) (by kernel_rfl) _ _ hS _; rotate_left; (focus (simp only [List.getElem?_toArray, List.getElem?_cons_succ, List.getElem?_cons_zero]; rfl)); (focus exact fun _ _ _ h => h); (focus rfl); simp only [Act.put, List.setIfInBounds_toArray, List.set_cons_zero, List.set_cons_succ]))
          (first | (refine' held_do (i := 10) _ (by kernel_rfl) (by kernel_rfl) (by kernel_rfl) _ _ hS _ _; rotate_left 2; (focus (simp only [List.getElem?_toArray, List.getElem?_cons_succ, List.getElem?_cons_zero]; rfl)); (focus exact fun _ _ _ h => h); (focus rfl); (focus (intro w1 hSS R hR; have hc := hSS.2.2; (try simp only [Cells] at hc); obtain ⟨hco, hfo⟩ := bcell hSS.1; go_simp; (try go_bits); exact hR)); simp only [Act.put, List.setIfInBounds_toArray, List.set_cons_zero, List.set_cons_succ]) | (refine' held_pass (i := 10) _ (by kernel_rfl) (by kernel_rfl) (by kernel_rfl) _ _ hS _; rotate_left; (focus (simp only [List.getElem?_toArray, List.getElem?_cons_succ, List.getElem?_cons_zero]; rfl)); (focus exact fun _ _ _ h => h); (focus rfl); simp only [Act.put, List.setIfInBounds_toArray, List.set_cons_zero, List.set_cons_succ]))
          (refine' held_one (i := 11) _ (by kernel_rfl) _ _; rotate_left; (focus (simp only [List.getElem?_toArray, List.getElem?_cons_succ, List.getElem?_cons_zero]; rfl)); (focus rfl); intro K hK; go_simp)
          have hS1 := hS.below ((Below.refl _ _).alloc (Nat.le_refl _) (.cells #[.int .i64 x, .int .i64 y] 63))
          refine hK _ _ hS1 ?_
          clear hK
          (try simp only [Act.put, List.setIfInBounds_toArray, List.set_cons_zero, List.set_cons_succ])
          (refine' held_one (i := 12) _ (by kernel_rfl) _ _; rotate_left; (focus (simp only [List.getElem?_toArray, List.getElem?_cons_succ, List.getElem?_cons_zero]; rfl)); (focus rfl); intro K hK)
          refine wp_append_blk _ _ _ rfl w4.heap.size 63 iS _ 2 16 Try.underlying60 hi0 hm0 hm1 hm2 rfl (by omega) _ 1 _ _ _ _ _ _ (by rfl) (hownB.out.drew.alloc _) (Blk.new' rfl) (by rfl) (by rfl) (by simp [Value.oneCell']) (by omega) (by unfold maxLen; omega) (by simp; omega) ?_
          intro v6 w6 own6 gr6 at6 hb6
          have hS2 : Held w4 0 [] w6 := ⟨hS1.1.trans hb6, Nat.le_trans hS1.2.1 gr6.size, trivial⟩
          refine hK _ _ hS2 ?_
          clear hK
          (try simp only [Act.put, List.setIfInBounds_toArray, List.set_cons_zero, List.set_cons_succ])
          have hown6 := own6
          rw [flatS_snoc (t := (x, y)) (cs := [.int .i64 x, .int .i64 y]) rfl] at hown6
          clear own6
          replace hown6 := Lib.hid hown6
          (refine' held_one (i := 13) _ (by kernel_rfl) _ _; rotate_left; (focus (simp only [List.getElem?_toArray, List.getElem?_cons_succ, List.getElem?_cons_zero]; rfl)); (focus rfl); intro K hK; go_simp)
          refine hK _ _ hS2 ?_
          clear hK
          (try simp only [Act.put, List.setIfInBounds_toArray, List.set_cons_zero, List.set_cons_succ])
          refine wpAnyH_done (by kernel_rfl) ?_ _
          go_wp2
          go_roundw
          case rel =>
            refine ⟨i + 1, M ++ [(x, y)], by omega, by go_num, by rw [List.length_append, hk.out]; simp <;> omega, hgo, ?_, hS2.1⟩
            unfold OwnsS
            rw [List.length_append, hk.out]
            exact hown6.out
          case measure => simp [intOf]; omega
        | succ p =>
          obtain ⟨t, ht⟩ := get_at (k := p) hk (by omega)
          have hown' := hown
          unfold OwnsS at hown'
          rw [hk] at hown'
          obtain ⟨g, rfl, hgB, hgl⟩ := own_addr hown' (by omega)
          obtain ⟨j0, j1⟩ := own_sp hown ht
          have hfz := own_unfz hown
          have hpi : (0 : Int) < (p : Int) + 1 := by omega
          have hpi2 : (p : Int) < (p : Int) + 1 := by omega
          clear hown'
          replace hown := Lib.hid hown
          by_cases htx : t.2 = x
          · rw [putS_set hk ht htx] at hgo
            have hth := Lib.hid ht
            replace hgo := Lib.hid hgo
            have hkh := Lib.hid hk
            clear hk ht
            obtain ⟨t1, t2⟩ := t
            simp only at j0 j1 htx
            subst htx
            go_wp2
            refine wp_region_steady (Held wr 0 []) (by kernel_rfl) (by kernel_rfl) ⟨(by repeat (first | exact Below.refl _ _ | assumption | refine Below.drew ?_ | refine Below.alloc ?_ (by (try simp) <;> omega) _ | refine Below.setCell ?_ (by (try simp) <;> omega) _ | (refine Below.trans ?_ (Below.mono (by assumption) (by (try simp) <;> omega))))), (by (try simp) <;> omega), (by first | exact trivial | (simp only [Cells]; go_simp))⟩ ?_
            repeat (first | (refine' wpSteady_do _ _ _; rotate_left; (focus rfl); (focus (intro w1 hS R hR; have hc := hS.cells; simp only [Cells] at hc; obtain ⟨hco, hfo⟩ := bcell hS.old; go_simp; (try go_bits); first | exact hR _ hS | (first
                                      | (go_at_call 85; (with_reducible refine (WA.out _ (hbr.trans (hS.old.mono zr))).mono ?_); rintro e w2 ⟨rfl, hb2⟩; exact ⟨_, rfl, hR _ (hS.below hb2)⟩)
                                      | (go_at_call 85; (with_reducible refine (WB.out _ (hbr.trans (hS.old.mono zr))).mono ?_); rintro e w2 ⟨rfl, hb2⟩; exact ⟨_, rfl, hR _ (hS.below hb2)⟩)
                                      | (go_at_fn fw; (with_reducible refine (FW.out _).mono ?_); rintro e w2 ⟨rfl, hb2⟩; exact ⟨_, rfl, hR _ (hS.below hb2)⟩)))); simp only [Act.put, List.setIfInBounds_toArray, List.set_cons_zero, List.set_cons_succ]) | (refine wpSteady_pass ?_ ?_; (focus rfl); simp only [Act.put, List.setIfInBounds_toArray, List.set_cons_zero, List.set_cons_succ]))
            refine wpSteady_nil (fun uA hSA => ?_)
            have hcA := hSA.cells; have hbA := hSA.old; have hzA := hSA.size; clear hSA; simp only [Cells] at hcA; obtain ⟨hcoA, hfoA⟩ := bcell hbA
            have yA : b < uA.heap.size := by omega
            have yAg : g < uA.heap.size := by omega
            clear WA WB FW
            go_wp2
            refine wp_region_steady (Held uA 0 []) (by kernel_rfl) (by kernel_rfl) ⟨(by repeat (first | exact Below.refl _ _ | assumption | refine Below.drew ?_ | refine Below.alloc ?_ (by (try simp) <;> omega) _ | refine Below.setCell ?_ (by (try simp) <;> omega) _ | (refine Below.trans ?_ (Below.mono (by assumption) (by (try simp) <;> omega))))), (by (try simp) <;> omega), (by first | exact trivial | (simp only [Cells]; go_simp))⟩ ?_
            repeat (first | (refine' wpSteady_do _ _ _; rotate_left; (focus rfl); (focus (intro w1 hS R hR; have hc := hS.cells; simp only [Cells] at hc; obtain ⟨hco, hfo⟩ := bcell hS.old; go_simp; (try go_bits); first | exact hR _ hS | fail)); simp only [Act.put, List.setIfInBounds_toArray, List.set_cons_zero, List.set_cons_succ]) | (refine wpSteady_pass ?_ ?_; (focus rfl); simp only [Act.put, List.setIfInBounds_toArray, List.set_cons_zero, List.set_cons_succ]))
            refine wpSteady_nil (fun uB hSB => ?_)
            have hcB := hSB.cells; have hbB := hSB.old; have hzB := hSB.size; clear hSB; simp only [Cells] at hcB; obtain ⟨hcoB, hfoB⟩ := bcell hbB
            have yB : b < uB.heap.size := by omega
            have yBg : g < uB.heap.size := by omega
            have hfzB : ∀ o, uB.frozen? ⟨g, o, none⟩ = false := fun o => (hfoB g o yAg).trans ((hfoA g o hgl).trans (hfz o))
            go_wp2
            go_roundw
            case rel =>
              refine ⟨i + 1, M.set p (t1, y), by omega, by go_num, by rw [List.length_set, hkh.out]; omega, hgo, ?_, ?_⟩
              · exact own_put1 ((hown.out.below hbA (Nat.le_refl _)).below hbB (Nat.le_refl _)) hkh.out hth.out y
              · exact ((hb4r.trans (hbA.mono z4r)).trans (hbB.mono (by omega))).setCell (by simp; omega) _
            case measure => simp [intOf]; omega
          · rw [putS_app hk ht htx] at hgo
            replace hgo := Lib.hid hgo
            obtain ⟨t1, t2⟩ := t
            simp only at j0 j1 htx
            have htx' : (t2 == x) = false := by simp [htx]
            have htx2 : decide (t2 = x) = false := by simp [htx]
            clear ht
            replace hk := Lib.hid hk
            go_wp2
            refine wp_region_steady (Held wr 0 []) (by kernel_rfl) (by kernel_rfl) ⟨(by repeat (first | exact Below.refl _ _ | assumption | refine Below.drew ?_ | refine Below.alloc ?_ (by (try simp) <;> omega) _ | refine Below.setCell ?_ (by (try simp) <;> omega) _ | (refine Below.trans ?_ (Below.mono (by assumption) (by (try simp) <;> omega))))), (by (try simp) <;> omega), (by first | exact trivial | (simp only [Cells]; go_simp))⟩ ?_
            repeat (first | (refine' wpSteady_do _ _ _; rotate_left; (focus rfl); (focus (intro w1 hS R hR; have hc := hS.cells; simp only [Cells] at hc; obtain ⟨hco, hfo⟩ := bcell hS.old; go_simp; (try go_bits); first | exact hR _ hS | (first
                                      | (go_at_call 85; (with_reducible refine (WA.out _ (hbr.trans (hS.old.mono zr))).mono ?_); rintro e w2 ⟨rfl, hb2⟩; exact ⟨_, rfl, hR _ (hS.below hb2)⟩)
                                      | (go_at_call 85; (with_reducible refine (WB.out _ (hbr.trans (hS.old.mono zr))).mono ?_); rintro e w2 ⟨rfl, hb2⟩; exact ⟨_, rfl, hR _ (hS.below hb2)⟩)
                                      | (go_at_fn fw; (with_reducible refine (FW.out _).mono ?_); rintro e w2 ⟨rfl, hb2⟩; exact ⟨_, rfl, hR _ (hS.below hb2)⟩)))); simp only [Act.put, List.setIfInBounds_toArray, List.set_cons_zero, List.set_cons_succ]) | (refine wpSteady_pass ?_ ?_; (focus rfl); simp only [Act.put, List.setIfInBounds_toArray, List.set_cons_zero, List.set_cons_succ]))
            refine wpSteady_nil (fun uA hSA => ?_)
            have hcA := hSA.cells; have hbA := hSA.old; have hzA := hSA.size; clear hSA; simp only [Cells] at hcA; obtain ⟨hcoA, hfoA⟩ := bcell hbA
            have yA : b < uA.heap.size := by omega
            have yAg : g < uA.heap.size := by omega
            clear WA WB FW
            go_wp2
            refine wp_region_steady (Held uA 0 []) (by kernel_rfl) (by kernel_rfl) ⟨(by repeat (first | exact Below.refl _ _ | assumption | refine Below.drew ?_ | refine Below.alloc ?_ (by (try simp) <;> omega) _ | refine Below.setCell ?_ (by (try simp) <;> omega) _ | (refine Below.trans ?_ (Below.mono (by assumption) (by (try simp) <;> omega))))), (by (try simp) <;> omega), (by first | exact trivial | (simp only [Cells]; go_simp))⟩ ?_
            repeat (first | (refine' wpSteady_do _ _ _; rotate_left; (focus rfl); (focus (intro w1 hS R hR; have hc := hS.cells; simp only [Cells] at hc; obtain ⟨hco, hfo⟩ := bcell hS.old; go_simp; (try go_bits); first | exact hR _ hS | fail)); simp only [Act.put, List.setIfInBounds_toArray, List.set_cons_zero, List.set_cons_succ]) | (refine wpSteady_pass ?_ ?_; (focus rfl); simp only [Act.put, List.setIfInBounds_toArray, List.set_cons_zero, List.set_cons_succ]))
            refine wpSteady_nil (fun uB hSB => ?_)
            have hcB := hSB.cells; have hbB := hSB.old; have hzB := hSB.size; clear hSB; simp only [Cells] at hcB; obtain ⟨hcoB, hfoB⟩ := bcell hbB
            go_wp2
            have hownB := (hown.out.below hbA (Nat.le_refl _)).below hbB (Nat.le_refl _)
            unfold OwnsS at hownB
            rw [hk.out] at hownB
            have hb4B := (hb4r.trans (hbA.mono z4r)).trans (hbB.mono (by omega))
            have zB := hb4B.size
            refine held_begin (Held w4 0 []) (by kernel_rfl) ⟨Below.drew hb4B, by simp; omega, trivial⟩ (fun hS => ?_)
            replace hownB := Lib.hid hownB
            (first | (refine' held_do (i := 0) _ (by kernel_rfl) (by kernel_rfl) (by kernel_rfl) _ _ hS _ _; rotate_left 2; (focus (simp only [List.getElem?_toArray, List.getElem?_cons_succ, List.getElem?_cons_zero]; rfl)); (focus exact fun _ _ _ h => h); (focus rfl); (focus (intro w1 hSS R hR; have hc := hSS.2.2; (try simp only [Cells] at hc); obtain ⟨hco, hfo⟩ := bcell hSS.1; go_simp; (try go_bits); exact hR)); simp only [Act.put, List.setIfInBounds_toArray, List.set_cons_zero, List.set_cons_succ]) | (refine' held_pass (i := 0) _ (by kernel_rfl) (by kernel_rfl) (by kernel_rfl) _ _ hS _; rotate_left; (focus (simp only [List.getElem?_toArray, List.getElem?_cons_succ, List.getElem?_cons_zero]; rfl)); (focus exact fun _ _ _ h => h); (focus rfl); simp only [Act.put, List.setIfInBounds_toArray, List.set_cons_zero, List.set_cons_succ]))
            (first | (refine' held_do (i := 1) _ (by kernel_rfl) (by kernel_rfl) (by kernel_rfl) _ _ hS _ _; rotate_left 2; (focus (simp only [List.getElem?_toArray, List.getElem?_cons_succ, List.getElem?_cons_zero]; rfl)); (focus exact fun _ _ _ h => h); (focus rfl); (focus (intro w1 hSS R hR; have hc := hSS.2.2; (try simp only [Cells] at hc); obtain ⟨hco, hfo⟩ := bcell hSS.1; go_simp; (try go_bits); exact hR)); simp only [Act.put, List.setIfInBounds_toArray, List.set_cons_zero, List.set_cons_succ]) | (refine' held_pass (i := 1) _ (by kernel_rfl) (by kernel_rfl) (by kernel_rfl) _ _ hS _; rotate_left; (focus (simp only [List.getElem?_toArray, List.getElem?_cons_succ, List.getElem?_cons_zero]; rfl)); (focus exact fun _ _ _ h => h); (focus rfl); simp only [Act.put, List.setIfInBounds_toArray, List.set_cons_zero, List.set_cons_succ]))
            (first | (refine' held_do (i := 2) _ (by kernel_rfl) (by kernel_rfl) (by kernel_rfl) _ _ hS _ _; rotate_left 2; (focus (simp only [List.getElem?_toArray, List.getElem?_cons_succ, List.getElem?_cons_zero]; rfl)); (focus exact fun _ _ _ h => h); (focus rfl); (focus (intro w1 hSS R hR; have hc := hSS.2.2; (try simp only [Cells] at hc); obtain ⟨hco, hfo⟩ := bcell hSS.1; go_simp; (try go_bits); exact hR)); simp only [Act.put, List.setIfInBounds_toArray, List.set_cons_zero, List.set_cons_succ]) | (refine' held_pass (i := 2) _ (by kernel_rfl) (by kernel_rfl) (by kernel_rfl) _ _ hS _; rotate_left; (focus (simp only [List.getElem?_toArray, List.getElem?_cons_succ, List.getElem?_cons_zero]; rfl)); (focus exact fun _ _ _ h => h); (focus rfl); simp only [Act.put, List.setIfInBounds_toArray, List.set_cons_zero, List.set_cons_succ]))
            (first | (refine' held_do (i := 3) _ (by kernel_rfl) (by kernel_rfl) (by kernel_rfl) _ _ hS _ _; rotate_left 2; (focus (simp only [List.getElem?_toArray, List.getElem?_cons_succ, List.getElem?_cons_zero]; rfl)); (focus exact fun _ _ _ h => h); (focus rfl); (focus (intro w1 hSS R hR; have hc := hSS.2.2; (try simp only [Cells] at hc); obtain ⟨hco, hfo⟩ := bcell hSS.1; go_simp; (try go_bits); exact hR)); simp only [Act.put, List.setIfInBounds_toArray, List.set_cons_zero, List.set_cons_succ]) | (refine' held_pass (i := 3) _ (by kernel_rfl) (by kernel_rfl) (by kernel_rfl) _ _ hS _; rotate_left; (focus (simp only [List.getElem?_toArray, List.getElem?_cons_succ, List.getElem?_cons_zero]; rfl)); (focus exact fun _ _ _ h => h); (focus rfl); simp only [Act.put, List.setIfInBounds_toArray, List.set_cons_zero, List.set_cons_succ]))
            (first | (refine' held_do (i := 4) _ (by kernel_rfl) (by kernel_rfl) (by kernel_rfl) _ _ hS _ _; rotate_left 2; (focus (simp only [List.getElem?_toArray, List.getElem?_cons_succ, List.getElem?_cons_zero]; rfl)); (focus exact fun _ _ _ h => h); (focus rfl); (focus (intro w1 hSS R hR; have hc := hSS.2.2; (try simp only [Cells] at hc); obtain ⟨hco, hfo⟩ := bcell hSS.1; go_simp; (try go_bits); exact hR)); simp only [Act.put, List.setIfInBounds_toArray, List.set_cons_zero, List.set_cons_succ]) | (refine' held_pass (i := 4) _ (by kernel_rfl) (by kernel_rfl) (by kernel_rfl) _ _ hS _; rotate_left; (focus (simp only [List.getElem?_toArray, List.getElem?_cons_succ, List.getElem?_cons_zero]; rfl)); (focus exact fun _ _ _ h => h); (focus rfl); simp only [Act.put, List.setIfInBounds_toArray, List.set_cons_zero, List.set_cons_succ]))
            (first | (refine' held_do (i := 5) _ (by kernel_rfl) (by kernel_rfl) (by kernel_rfl) _ _ hS _ _; rotate_left 2; (focus (simp only [List.getElem?_toArray, List.getElem?_cons_succ, List.getElem?_cons_zero]; rfl)); (focus exact fun _ _ _ h => h); (focus rfl); (focus (intro w1 hSS R hR; have hc := hSS.2.2; (try simp only [Cells] at hc); obtain ⟨hco, hfo⟩ := bcell hSS.1; go_simp; (try go_bits); exact hR)); simp only [Act.put, List.setIfInBounds_toArray, List.set_cons_zero, List.set_cons_succ]) | (refine' held_pass (i := 5) _ (by kernel_rfl) (by kernel_rfl) (by kernel_rfl) _ _ hS _; rotate_left; (focus (simp only [List.getElem?_toArray, List.getElem?_cons_succ, List.getElem?_cons_zero]; rfl)); (focus exact fun _ _ _ h => h); (focus rfl); simp only [Act.put, List.setIfInBounds_toArray, List.set_cons_zero, List.set_cons_succ]))
            (first | (refine' held_do (i := 6) _ (by kernel_rfl) (by kernel_rfl) (by kernel_rfl) _ _ hS _ _; rotate_left 2; (focus (simp only [List.getElem?_toArray, List.getElem?_cons_succ, List.getElem?_cons_zero]; rfl)); (focus exact fun _ _ _ h => h); (focus rfl); (focus (intro w1 hSS R hR; have hc := hSS.2.2; (try simp only [Cells] at hc); obtain ⟨hco, hfo⟩ := bcell hSS.1; go_simp; (try go_bits); exact hR)); simp only [Act.put, List.setIfInBounds_toArray, List.set_cons_zero, List.set_cons_succ]) | (refine' held_pass (i := 6) _ (by kernel_rfl) (by kernel_rfl) (by kernel_rfl) _ _ hS _; rotate_left; (focus (simp only [List.getElem?_toArray, List.getElem?_cons_succ, List.getElem?_cons_zero]; rfl)); (focus exact fun _ _ _ h => h); (focus rfl); simp only [Act.put, List.setIfInBounds_toArray, List.set_cons_zero, List.set_cons_succ]))
            (first | (refine' held_do (i := 7) _ (by kernel_rfl) (by kernel_rfl) (by kernel_rfl) _ _ hS _ _; rotate_left 2; (focus (simp only [List.getElem?_toArray, List.getElem?_cons_succ, List.getElem?_cons_zero]; rfl)); (focus exact fun _ _ _ h => h); (focus rfl); (focus (intro w1 hSS R hR; have hc := hSS.2.2; (try simp only [Cells] at hc); obtain ⟨hco, hfo⟩ := bcell hSS.1; go_simp; (try go_bits); exact hR)); simp only [Act.put, List.setIfInBounds_toArray, List.set_cons_zero, List.set_cons_succ]) | (refine' held_pass (i := 7) _ (by kernel_rfl) (by kernel_rfl) (by kernel_rfl) _ _ hS _; rotate_left; (focus (simp only [List.getElem?_toArray, List.getElem?_cons_succ, List.getElem?_cons_zero]; rfl)); (focus exact fun _ _ _ h => h); (focus rfl); simp only [Act.put, List.setIfInBounds_toArray, List.set_cons_zero, List.set_cons_succ]))
            (first | (refine' held_do (i := 8) _ (by kernel_rfl) (by kernel_rfl) (by kernel_rfl) _ _ hS _ _; rotate_left 2; (focus (simp only [List.getElem?_toArray, List.getElem?_cons_succ, List.getElem?_cons_zero]; rfl)); (focus exact fun _ _ _ h => h); (focus rfl); (focus (intro w1 hSS R hR; have hc := hSS.2.2; (try simp only [Cells] at hc); obtain ⟨hco, hfo⟩ := bcell hSS.1; go_simp; (try go_bits); exact hR)); simp only [Act.put, List.setIfInBounds_toArray, List.set_cons_zero, List.set_cons_succ]) | (refine' held_pass (i := 8) _ (by kernel_rfl) (by kernel_rfl) (by kernel_rfl) _ _ hS _; rotate_left; (focus (simp only [List.getElem?_toArray, List.getElem?_cons_succ, List.getElem?_cons_zero]; rfl)); (focus exact fun _ _ _ h => h); (focus rfl); simp only [Act.put, List.setIfInBounds_toArray, List.set_cons_zero, List.set_cons_succ]))
            (first | (refine' held_do (i := 9) _ (by kernel_rfl) (by kernel_rfl) (by kernel_rfl) _ _ hS _ _; rotate_left 2; (focus (simp only [List.getElem?_toArray, List.getElem?_cons_succ, List.getElem?_cons_zero]; rfl)); (focus exact fun _ _ _ h => h); (focus rfl); (focus (intro w1 hSS R hR; have hc := hSS.2.2; (try simp only [Cells] at hc); obtain ⟨hco, hfo⟩ := bcell hSS.1; go_simp; (try go_bits); exact hR)); simp only [Act.put, List.setIfInBounds_toArray, List.set_cons_zero, List.set_cons_succ]) | (refine' held_pass (i := 9) _ (by kernel_rfl) (by kernel_rfl) (by kernel_rfl) _ _ hS _; rotate_left; (focus (simp only [List.getElem?_toArray, List.getElem?_cons_succ, List.getElem?_cons_zero]; rfl)); (focus exact fun _ _ _ h => h); (focus rfl); simp only [Act.put, List.setIfInBounds_toArray, List.set_cons_zero, List.set_cons_succ]))
            (first | (refine' held_do (i := 10) _ (by kernel_rfl) (by kernel_rfl) (by kernel_rfl) _ _ hS _ _; rotate_left 2; (focus (simp only [List.getElem?_toArray, List.getElem?_cons_succ, List.getElem?_cons_zero]; rfl)); (focus exact fun _ _ _ h => h); (focus rfl); (focus (intro w1 hSS R hR; have hc := hSS.2.2; (try simp only [Cells] at hc); obtain ⟨hco, hfo⟩ := bcell hSS.1; go_simp; (try go_bits); exact hR)); simp only [Act.put, List.setIfInBounds_toArray, List.set_cons_zero, List.set_cons_succ]) | (refine' held_pass (i := 10) _ (by kernel_rfl) (by kernel_rfl) (by kernel_rfl) _ _ hS _; rotate_left; (focus (simp only [List.getElem?_toArray, List.getElem?_cons_succ, List.getElem?_cons_zero]; rfl)); (focus exact fun _ _ _ h => h); (focus rfl); simp only [Act.put, List.setIfInBounds_toArray, List.set_cons_zero, List.set_cons_succ]))
            (refine' held_one (i := 11) _ (by kernel_rfl) _ _; rotate_left; (focus (simp only [List.getElem?_toArray, List.getElem?_cons_succ, List.getElem?_cons_zero]; rfl)); (focus rfl); intro K hK; go_simp)
            have hS1 := hS.below ((Below.refl _ _).alloc (Nat.le_refl _) (.cells #[.int .i64 x, .int .i64 y] 63))
            refine hK _ _ hS1 ?_
            clear hK
            (try simp only [Act.put, List.setIfInBounds_toArray, List.set_cons_zero, List.set_cons_succ])
            (refine' held_one (i := 12) _ (by kernel_rfl) _ _; rotate_left; (focus (simp only [List.getElem?_toArray, List.getElem?_cons_succ, List.getElem?_cons_zero]; rfl)); (focus rfl); intro K hK)
            refine wp_append_blk _ _ _ rfl w4.heap.size 63 iS _ 2 16 Try.underlying60 hi0 hm0 hm1 hm2 rfl (by omega) _ 1 _ _ _ _ _ _ (by rfl) (hownB.out.drew.alloc _) (Blk.new' rfl) (by rfl) (by rfl) (by simp [Value.oneCell']) (by omega) (by unfold maxLen; omega) (by simp; omega) ?_
            intro v6 w6 own6 gr6 at6 hb6
            have hS2 : Held w4 0 [] w6 := ⟨hS1.1.trans hb6, Nat.le_trans hS1.2.1 gr6.size, trivial⟩
            refine hK _ _ hS2 ?_
            clear hK
            (try simp only [Act.put, List.setIfInBounds_toArray, List.set_cons_zero, List.set_cons_succ])
            have hown6 := own6
            rw [flatS_snoc (t := (x, y)) (cs := [.int .i64 x, .int .i64 y]) rfl] at hown6
            clear own6
            replace hown6 := Lib.hid hown6
            (refine' held_one (i := 13) _ (by kernel_rfl) _ _; rotate_left; (focus (simp only [List.getElem?_toArray, List.getElem?_cons_succ, List.getElem?_cons_zero]; rfl)); (focus rfl); intro K hK; go_simp)
            refine hK _ _ hS2 ?_
            clear hK
            (try simp only [Act.put, List.setIfInBounds_toArray, List.set_cons_zero, List.set_cons_succ])
            refine wpAnyH_done (by kernel_rfl) ?_ _
            go_wp2
            go_roundw
            case rel =>
              refine ⟨i + 1, M ++ [(x, y)], by omega, by go_num, by rw [List.length_append, hk.out]; simp <;> omega, hgo, ?_, hS2.1⟩
              unfold OwnsS
              rw [List.length_append, hk.out]
              exact hown6.out
            case measure => simp [intOf]; omega
    · have hgo := hgo.out
      rw [mix_end (by have := hL.out; omega)] at hgo
      subst hgo
      obtain ⟨st0, cap0, rfl⟩ := own_slice hown
      replace hown := Lib.hid hown
      have hii2 : ¬ (i : Int) + 1 < L := by omega
      go_wp2
      go_ret
      exact ⟨hbr, _, rfl, own_less hown.out z04⟩
end Go.Proofs.Ytlklmncjicgbgaa
