/-
  The document's Text: any colour.
-/
import Derived.Test.YthecbopffdpefaaDoorDooF
namespace Go.Proofs.YthecbopffdpefaaDoor
open Go.RowKit
set_option linter.unusedVariables false
attribute [local go_sem] vwp vUpon_value vUpon_skip vUpon_enter vUpon_row
set_option linter.unusedSimpArgs false
set_option linter.unusedVariables false
structure Nib where
  r1 : Nat
  r2 : Nat
  g1 : Nat
  g2 : Nat
  b1 : Nat
  b2 : Nat
  a1 : Nat
  a2 : Nat
structure Nib.Of (x : Nib) (r g b a : Int) : Prop where
  r : r = 16 * x.r1 + x.r2 ∧ x.r1 < 16 ∧ x.r2 < 16
  g : g = 16 * x.g1 + x.g2 ∧ x.g1 < 16 ∧ x.g2 < 16
  b : b = 16 * x.b1 + x.b2 ∧ x.b1 < 16 ∧ x.b2 < 16
  a : a = 16 * x.a1 + x.a2 ∧ x.a1 < 16 ∧ x.a2 < 16
theorem nib1 (n : Int) (h : U8 n) : n = 16 * ((n / 16).toNat : Int) + ((n % 16).toNat : Int) ∧ (n / 16).toNat < 16 ∧ (n % 16).toNat < 16 := by
  obtain ⟨h0, h1⟩ := h; omega
theorem nib_of (r g b a : Int) (h1 : U8 r) (h2 : U8 g) (h3 : U8 b) (h4 : U8 a) : ∃ x : Nib, x.Of r g b a :=
  ⟨⟨_, _, _, _, _, _, _, _⟩, ⟨nib1 r h1, nib1 g h2, nib1 b h3, nib1 a h4⟩⟩
def Nib.short (x : Nib) : Bool := decide (x.r1 = x.r2 ∧ x.g1 = x.g2 ∧ x.b1 = x.b2)
def Nib.full (x : Nib) : Bool := decide (x.a1 = 15 ∧ x.a2 = 15)
def Nib.tx (x : Nib) : ByteArray :=
  if x.full then (if x.short then ⟨#[35, hxU x.r1, hxU x.g1, hxU x.b1]⟩ else ⟨#[35, hxU x.r1, hxU x.r2, hxU x.g1, hxU x.g2, hxU x.b1, hxU x.b2]⟩)
  else ⟨#[35, hxU x.r1, hxU x.r2, hxU x.g1, hxU x.g2, hxU x.b1, hxU x.b2, hxU x.a1, hxU x.a2]⟩
theorem hx_inj (q m : Nat) (hq : q < 16) (hm : m < 16) : (((hxU q).toNat : Int) == ((hxU m).toNat : Int)) = decide (q = m) := by
  have key : (List.range 16).all (fun q => (List.range 16).all fun m => (((hxU q).toNat : Int) == ((hxU m).toNat : Int)) == decide (q = m)) = true := by decide +kernel
  have := List.all_eq_true.1 (List.all_eq_true.1 key q (List.mem_range.2 hq)) m (List.mem_range.2 hm)
  simpa using this
theorem tw_ix0 (q m : Nat) (w : World) : (Instr.index 9 (.string (tw q m)) (.int .i64 0)).run Tryd.prog w = .ok (.int .u8 ((hxU q).toNat : Int)) w := by
  have A := Tryd.underlying9
  have h : (tw q m)[0]? = some (hxU q) := rfl
  simp [Instr.index, asIntOf, run_underlying A, h]
theorem tw_ix1 (q m : Nat) (w : World) : (Instr.index 9 (.string (tw q m)) (.int .i64 1)).run Tryd.prog w = .ok (.int .u8 ((hxU m).toNat : Int)) w := by
  have A := Tryd.underlying9
  have h : (tw q m)[1]? = some (hxU m) := rfl
  simp [Instr.index, asIntOf, run_underlying A, h]
set_option maxHeartbeats 1000000 in
theorem rtext_any (r g b a : Int) (x : Nib) (w : World) (h : x.Of r g b a) : Calls Tryd.prog 12 #[.agg #[.int .u8 (r), .int .u8 (g), .int .u8 (b), .int .u8 (a)]] w fun e w' => e = .returned (.string x.tx) ∧ Below w.heap.size w w' := by
  obtain ⟨⟨er, hr1, hr2⟩, ⟨eg, hg1, hg2⟩, ⟨eb, hb1, hb2⟩, ⟨ea, ha1, ha2⟩⟩ := h
  have T1 := fun w => two_any r x.r1 x.r2 w er hr1 hr2
  have T2 := fun w => two_any g x.g1 x.g2 w eg hg1 hg2
  have T3 := fun w => two_any b x.b1 x.b2 w eb hb1 hb2
  have T4 := fun w => two_any a x.a1 x.a2 w ea ha1 ha2
  have J0 := fun w => tw_ix0 x.r1 x.r2 w
  have J1 := fun w => tw_ix1 x.r1 x.r2 w
  have J2 := fun w => tw_ix0 x.g1 x.g2 w
  have J3 := fun w => tw_ix1 x.g1 x.g2 w
  have J4 := fun w => tw_ix0 x.b1 x.b2 w
  have J5 := fun w => tw_ix1 x.b1 x.b2 w
  have Q0 := hx_inj x.r1 x.r2 hr1 hr2
  have Q1 := hx_inj x.g1 x.g2 hg1 hg2
  have Q2 := hx_inj x.b1 x.b2 hb1 hb2
  have S0 : (tw x.r1 x.r2).size = 2 := rfl
  have S1 : (tw x.g1 x.g2).size = 2 := rfl
  have S2 : (tw x.b1 x.b2).size = 2 := rfl
  have S3 : (tw x.a1 x.a2).size = 2 := rfl
  have X0 : (tw x.r1 x.r2).extract 0 1 = ⟨#[hxU x.r1]⟩ := rfl
  have X1 : (tw x.g1 x.g2).extract 0 1 = ⟨#[hxU x.g1]⟩ := rfl
  have X2 : (tw x.b1 x.b2).extract 0 1 = ⟨#[hxU x.b1]⟩ := rfl
  have ba : 0 ≤ a ∧ a ≤ 255 := by omega
  cases hf : x.full
  · have hne : (a == 255) = false := by
      unfold Nib.full at hf
      simp at hf ⊢
      omega
    have hlt : a < 255 := by simp at hne; omega
    have etx : x.tx = ⟨#[35, hxU x.r1, hxU x.r2, hxU x.g1, hxU x.g2, hxU x.b1, hxU x.b2, hxU x.a1, hxU x.a2]⟩ := by unfold Nib.tx; rw [hf]; rfl
    rw [etx]
    clear etx er eg eb ea hf
    replace T1 := Lib.hid T1
    replace T2 := Lib.hid T2
    replace T3 := Lib.hid T3
    replace T4 := Lib.hid T4
    go_enter Tryd.func12, Tryd.ntmps12
    go_wp2_with fail
    refine wp_region_steady (Held w 1 [(⟨w.heap.size, 0, none⟩, .int .u8 (r)), (⟨w.heap.size, 1, none⟩, .int .u8 (g)), (⟨w.heap.size, 2, none⟩, .int .u8 (b)), (⟨w.heap.size, 3, none⟩, .int .u8 (a))]) (by kernel_rfl) (by kernel_rfl) ⟨(by repeat (first | exact Below.refl _ _ | assumption | refine Below.drew ?_ | refine Below.alloc ?_ (by (try simp) <;> omega) _ | refine Below.setCell ?_ (by (try simp) <;> omega) _ | (refine Below.trans ?_ (Below.mono (by assumption) (by (try simp) <;> omega))))), (by (try simp) <;> omega), (by simp only [Cells]; go_simp)⟩ ?_
    repeat (first | (refine' wpSteady_do _ _ _; rotate_left; (focus rfl); (focus (intro w1 hS R hR; have hc := hS.cells; simp only [Cells] at hc; go_simp; (try go_bits); first | exact hR _ hS | first | (go_at_call 30; (with_reducible refine (T1.out _).mono ?_); rintro e w2 ⟨rfl, hb2⟩; exact ⟨_, rfl, hR _ (hS.below hb2)⟩) | (go_at_call 30; (with_reducible refine (T2.out _).mono ?_); rintro e w2 ⟨rfl, hb2⟩; exact ⟨_, rfl, hR _ (hS.below hb2)⟩) | (go_at_call 30; (with_reducible refine (T3.out _).mono ?_); rintro e w2 ⟨rfl, hb2⟩; exact ⟨_, rfl, hR _ (hS.below hb2)⟩))); simp only [Act.put, List.setIfInBounds_toArray, List.set_cons_zero, List.set_cons_succ]) | (refine wpSteady_pass ?_ ?_; (focus rfl); simp only [Act.put, List.setIfInBounds_toArray, List.set_cons_zero, List.set_cons_succ]))
    refine wpSteady_nil (fun uA hSA => ?_)
    have hcA := hSA.cells; have hbA := hSA.old; have hzA := hSA.size; clear hSA; simp only [Cells] at hcA
    go_wp2_with fail
    refine wp_region_steady (Held w 1 [(⟨w.heap.size, 0, none⟩, .int .u8 (r)), (⟨w.heap.size, 1, none⟩, .int .u8 (g)), (⟨w.heap.size, 2, none⟩, .int .u8 (b)), (⟨w.heap.size, 3, none⟩, .int .u8 (a))]) (by kernel_rfl) (by kernel_rfl) ⟨(by repeat (first | exact Below.refl _ _ | assumption | refine Below.drew ?_ | refine Below.alloc ?_ (by (try simp) <;> omega) _ | refine Below.setCell ?_ (by (try simp) <;> omega) _ | (refine Below.trans ?_ (Below.mono (by assumption) (by (try simp) <;> omega))))), (by (try simp) <;> omega), (by simp only [Cells]; go_simp)⟩ ?_
    repeat (first | (refine' wpSteady_do _ _ _; rotate_left; (focus rfl); (focus (intro w1 hS R hR; have hc := hS.cells; simp only [Cells] at hc; go_simp; (try go_bits); first | exact hR _ hS | fail)); simp only [Act.put, List.setIfInBounds_toArray, List.set_cons_zero, List.set_cons_succ]) | (refine wpSteady_pass ?_ ?_; (focus rfl); simp only [Act.put, List.setIfInBounds_toArray, List.set_cons_zero, List.set_cons_succ]))
    refine wpSteady_nil (fun uB hSB => ?_)
    have hcB := hSB.cells; have hbB := hSB.old; have hzB := hSB.size; clear hSB; simp only [Cells] at hcB
    go_wp2_with (first | (go_at_call 30; (with_reducible refine (T4.out _).mono ?_); rintro e w4 ⟨rfl, hb4⟩) | go_in)
    go_ret
    exact ⟨rfl, (by repeat (first | exact Below.refl _ _ | assumption | refine Below.drew ?_ | refine Below.alloc ?_ (by (try simp) <;> omega) _ | refine Below.setCell ?_ (by (try simp) <;> omega) _ | (refine Below.trans ?_ (Below.mono (by assumption) (by (try simp) <;> omega)))))⟩
  · have ea : a = 255 := by
      unfold Nib.full at hf
      simp at hf
      omega
    subst ea
    cases hsh : x.short
    · have etx : x.tx = ⟨#[35, hxU x.r1, hxU x.r2, hxU x.g1, hxU x.g2, hxU x.b1, hxU x.b2]⟩ := by unfold Nib.tx; rw [hf, hsh]; rfl
      rw [etx]
      unfold Nib.short at hsh
      have hh : (decide (x.r1 = x.r2) = false) ∨ (decide (x.r1 = x.r2) = true ∧ decide (x.g1 = x.g2) = false) ∨ (decide (x.r1 = x.r2) = true ∧ decide (x.g1 = x.g2) = true ∧ decide (x.b1 = x.b2) = false) := by
        simp at hsh
        by_cases c1 : x.r1 = x.r2
        · by_cases c2 : x.g1 = x.g2
          · exact .inr (.inr ⟨by simpa using c1, by simpa using c2, by simpa using hsh c1 c2⟩)
          · exact .inr (.inl ⟨by simpa using c1, by simpa using c2⟩)
        · exact .inl (by simpa using c1)
      clear etx er eg eb ea hf hsh
      replace T1 := Lib.hid T1
      replace T2 := Lib.hid T2
      replace T3 := Lib.hid T3
      clear T4
      rcases hh with c1 | ⟨c1, c2⟩ | ⟨c1, c2, c3⟩
      · rw [c1] at Q0
        clear c1
        go_enter Tryd.func12, Tryd.ntmps12
        go_wp2_with fail
        refine wp_region_steady (Held w 1 [(⟨w.heap.size, 0, none⟩, .int .u8 (r)), (⟨w.heap.size, 1, none⟩, .int .u8 (g)), (⟨w.heap.size, 2, none⟩, .int .u8 (b)), (⟨w.heap.size, 3, none⟩, .int .u8 (255))]) (by kernel_rfl) (by kernel_rfl) ⟨(by repeat (first | exact Below.refl _ _ | assumption | refine Below.drew ?_ | refine Below.alloc ?_ (by (try simp) <;> omega) _ | refine Below.setCell ?_ (by (try simp) <;> omega) _ | (refine Below.trans ?_ (Below.mono (by assumption) (by (try simp) <;> omega))))), (by (try simp) <;> omega), (by simp only [Cells]; go_simp)⟩ ?_
        repeat (first | (refine' wpSteady_do _ _ _; rotate_left; (focus rfl); (focus (intro w1 hS R hR; have hc := hS.cells; simp only [Cells] at hc; go_simp; (try go_bits); first | exact hR _ hS | first | (go_at_call 30; (with_reducible refine (T1.out _).mono ?_); rintro e w2 ⟨rfl, hb2⟩; exact ⟨_, rfl, hR _ (hS.below hb2)⟩) | (go_at_call 30; (with_reducible refine (T2.out _).mono ?_); rintro e w2 ⟨rfl, hb2⟩; exact ⟨_, rfl, hR _ (hS.below hb2)⟩) | (go_at_call 30; (with_reducible refine (T3.out _).mono ?_); rintro e w2 ⟨rfl, hb2⟩; exact ⟨_, rfl, hR _ (hS.below hb2)⟩))); simp only [Act.put, List.setIfInBounds_toArray, List.set_cons_zero, List.set_cons_succ]) | (refine wpSteady_pass ?_ ?_; (focus rfl); simp only [Act.put, List.setIfInBounds_toArray, List.set_cons_zero, List.set_cons_succ]))
        refine wpSteady_nil (fun uA hSA => ?_)
        have hcA := hSA.cells; have hbA := hSA.old; have hzA := hSA.size; clear hSA; simp only [Cells] at hcA
        go_wp2_with fail
        refine wp_region_steady (Held w 1 [(⟨w.heap.size, 0, none⟩, .int .u8 (r)), (⟨w.heap.size, 1, none⟩, .int .u8 (g)), (⟨w.heap.size, 2, none⟩, .int .u8 (b)), (⟨w.heap.size, 3, none⟩, .int .u8 (255))]) (by kernel_rfl) (by kernel_rfl) ⟨(by repeat (first | exact Below.refl _ _ | assumption | refine Below.drew ?_ | refine Below.alloc ?_ (by (try simp) <;> omega) _ | refine Below.setCell ?_ (by (try simp) <;> omega) _ | (refine Below.trans ?_ (Below.mono (by assumption) (by (try simp) <;> omega))))), (by (try simp) <;> omega), (by simp only [Cells]; go_simp)⟩ ?_
        repeat (first | (refine' wpSteady_do _ _ _; rotate_left; (focus rfl); (focus (intro w1 hS R hR; have hc := hS.cells; simp only [Cells] at hc; go_simp; (try go_bits); first | exact hR _ hS | fail)); simp only [Act.put, List.setIfInBounds_toArray, List.set_cons_zero, List.set_cons_succ]) | (refine wpSteady_pass ?_ ?_; (focus rfl); simp only [Act.put, List.setIfInBounds_toArray, List.set_cons_zero, List.set_cons_succ]))
        refine wpSteady_nil (fun uB hSB => ?_)
        have hcB := hSB.cells; have hbB := hSB.old; have hzB := hSB.size; clear hSB; simp only [Cells] at hcB
        go_wp2
        go_ret
        exact ⟨rfl, (by repeat (first | exact Below.refl _ _ | assumption | refine Below.drew ?_ | refine Below.alloc ?_ (by (try simp) <;> omega) _ | refine Below.setCell ?_ (by (try simp) <;> omega) _ | (refine Below.trans ?_ (Below.mono (by assumption) (by (try simp) <;> omega)))))⟩
      · rw [c1] at Q0
        rw [c2] at Q1
        clear c1 c2
        go_enter Tryd.func12, Tryd.ntmps12
        go_wp2_with fail
        refine wp_region_steady (Held w 1 [(⟨w.heap.size, 0, none⟩, .int .u8 (r)), (⟨w.heap.size, 1, none⟩, .int .u8 (g)), (⟨w.heap.size, 2, none⟩, .int .u8 (b)), (⟨w.heap.size, 3, none⟩, .int .u8 (255))]) (by kernel_rfl) (by kernel_rfl) ⟨(by repeat (first | exact Below.refl _ _ | assumption | refine Below.drew ?_ | refine Below.alloc ?_ (by (try simp) <;> omega) _ | refine Below.setCell ?_ (by (try simp) <;> omega) _ | (refine Below.trans ?_ (Below.mono (by assumption) (by (try simp) <;> omega))))), (by (try simp) <;> omega), (by simp only [Cells]; go_simp)⟩ ?_
        repeat (first | (refine' wpSteady_do _ _ _; rotate_left; (focus rfl); (focus (intro w1 hS R hR; have hc := hS.cells; simp only [Cells] at hc; go_simp; (try go_bits); first | exact hR _ hS | first | (go_at_call 30; (with_reducible refine (T1.out _).mono ?_); rintro e w2 ⟨rfl, hb2⟩; exact ⟨_, rfl, hR _ (hS.below hb2)⟩) | (go_at_call 30; (with_reducible refine (T2.out _).mono ?_); rintro e w2 ⟨rfl, hb2⟩; exact ⟨_, rfl, hR _ (hS.below hb2)⟩) | (go_at_call 30; (with_reducible refine (T3.out _).mono ?_); rintro e w2 ⟨rfl, hb2⟩; exact ⟨_, rfl, hR _ (hS.below hb2)⟩))); simp only [Act.put, List.setIfInBounds_toArray, List.set_cons_zero, List.set_cons_succ]) | (refine wpSteady_pass ?_ ?_; (focus rfl); simp only [Act.put, List.setIfInBounds_toArray, List.set_cons_zero, List.set_cons_succ]))
        refine wpSteady_nil (fun uA hSA => ?_)
        have hcA := hSA.cells; have hbA := hSA.old; have hzA := hSA.size; clear hSA; simp only [Cells] at hcA
        go_wp2_with fail
        refine wp_region_steady (Held w 1 [(⟨w.heap.size, 0, none⟩, .int .u8 (r)), (⟨w.heap.size, 1, none⟩, .int .u8 (g)), (⟨w.heap.size, 2, none⟩, .int .u8 (b)), (⟨w.heap.size, 3, none⟩, .int .u8 (255))]) (by kernel_rfl) (by kernel_rfl) ⟨(by repeat (first | exact Below.refl _ _ | assumption | refine Below.drew ?_ | refine Below.alloc ?_ (by (try simp) <;> omega) _ | refine Below.setCell ?_ (by (try simp) <;> omega) _ | (refine Below.trans ?_ (Below.mono (by assumption) (by (try simp) <;> omega))))), (by (try simp) <;> omega), (by simp only [Cells]; go_simp)⟩ ?_
        repeat (first | (refine' wpSteady_do _ _ _; rotate_left; (focus rfl); (focus (intro w1 hS R hR; have hc := hS.cells; simp only [Cells] at hc; go_simp; (try go_bits); first | exact hR _ hS | fail)); simp only [Act.put, List.setIfInBounds_toArray, List.set_cons_zero, List.set_cons_succ]) | (refine wpSteady_pass ?_ ?_; (focus rfl); simp only [Act.put, List.setIfInBounds_toArray, List.set_cons_zero, List.set_cons_succ]))
        refine wpSteady_nil (fun uB hSB => ?_)
        have hcB := hSB.cells; have hbB := hSB.old; have hzB := hSB.size; clear hSB; simp only [Cells] at hcB
        go_wp2
        go_ret
        exact ⟨rfl, (by repeat (first | exact Below.refl _ _ | assumption | refine Below.drew ?_ | refine Below.alloc ?_ (by (try simp) <;> omega) _ | refine Below.setCell ?_ (by (try simp) <;> omega) _ | (refine Below.trans ?_ (Below.mono (by assumption) (by (try simp) <;> omega)))))⟩
      · rw [c1] at Q0
        rw [c2] at Q1
        rw [c3] at Q2
        clear c1 c2 c3
        go_enter Tryd.func12, Tryd.ntmps12
        go_wp2_with fail
        refine wp_region_steady (Held w 1 [(⟨w.heap.size, 0, none⟩, .int .u8 (r)), (⟨w.heap.size, 1, none⟩, .int .u8 (g)), (⟨w.heap.size, 2, none⟩, .int .u8 (b)), (⟨w.heap.size, 3, none⟩, .int .u8 (255))]) (by kernel_rfl) (by kernel_rfl) ⟨(by repeat (first | exact Below.refl _ _ | assumption | refine Below.drew ?_ | refine Below.alloc ?_ (by (try simp) <;> omega) _ | refine Below.setCell ?_ (by (try simp) <;> omega) _ | (refine Below.trans ?_ (Below.mono (by assumption) (by (try simp) <;> omega))))), (by (try simp) <;> omega), (by simp only [Cells]; go_simp)⟩ ?_
        repeat (first | (refine' wpSteady_do _ _ _; rotate_left; (focus rfl); (focus (intro w1 hS R hR; have hc := hS.cells; simp only [Cells] at hc; go_simp; (try go_bits); first | exact hR _ hS | first | (go_at_call 30; (with_reducible refine (T1.out _).mono ?_); rintro e w2 ⟨rfl, hb2⟩; exact ⟨_, rfl, hR _ (hS.below hb2)⟩) | (go_at_call 30; (with_reducible refine (T2.out _).mono ?_); rintro e w2 ⟨rfl, hb2⟩; exact ⟨_, rfl, hR _ (hS.below hb2)⟩) | (go_at_call 30; (with_reducible refine (T3.out _).mono ?_); rintro e w2 ⟨rfl, hb2⟩; exact ⟨_, rfl, hR _ (hS.below hb2)⟩))); simp only [Act.put, List.setIfInBounds_toArray, List.set_cons_zero, List.set_cons_succ]) | (refine wpSteady_pass ?_ ?_; (focus rfl); simp only [Act.put, List.setIfInBounds_toArray, List.set_cons_zero, List.set_cons_succ]))
        refine wpSteady_nil (fun uA hSA => ?_)
        have hcA := hSA.cells; have hbA := hSA.old; have hzA := hSA.size; clear hSA; simp only [Cells] at hcA
        go_wp2_with fail
        refine wp_region_steady (Held w 1 [(⟨w.heap.size, 0, none⟩, .int .u8 (r)), (⟨w.heap.size, 1, none⟩, .int .u8 (g)), (⟨w.heap.size, 2, none⟩, .int .u8 (b)), (⟨w.heap.size, 3, none⟩, .int .u8 (255))]) (by kernel_rfl) (by kernel_rfl) ⟨(by repeat (first | exact Below.refl _ _ | assumption | refine Below.drew ?_ | refine Below.alloc ?_ (by (try simp) <;> omega) _ | refine Below.setCell ?_ (by (try simp) <;> omega) _ | (refine Below.trans ?_ (Below.mono (by assumption) (by (try simp) <;> omega))))), (by (try simp) <;> omega), (by simp only [Cells]; go_simp)⟩ ?_
        repeat (first | (refine' wpSteady_do _ _ _; rotate_left; (focus rfl); (focus (intro w1 hS R hR; have hc := hS.cells; simp only [Cells] at hc; go_simp; (try go_bits); first | exact hR _ hS | fail)); simp only [Act.put, List.setIfInBounds_toArray, List.set_cons_zero, List.set_cons_succ]) | (refine wpSteady_pass ?_ ?_; (focus rfl); simp only [Act.put, List.setIfInBounds_toArray, List.set_cons_zero, List.set_cons_succ]))
        refine wpSteady_nil (fun uB hSB => ?_)
        have hcB := hSB.cells; have hbB := hSB.old; have hzB := hSB.size; clear hSB; simp only [Cells] at hcB
        go_wp2
        go_ret
        exact ⟨rfl, (by repeat (first | exact Below.refl _ _ | assumption | refine Below.drew ?_ | refine Below.alloc ?_ (by (try simp) <;> omega) _ | refine Below.setCell ?_ (by (try simp) <;> omega) _ | (refine Below.trans ?_ (Below.mono (by assumption) (by (try simp) <;> omega)))))⟩
    · have etx : x.tx = ⟨#[35, hxU x.r1, hxU x.g1, hxU x.b1]⟩ := by unfold Nib.tx; rw [hf, hsh]; rfl
      rw [etx]
      unfold Nib.short at hsh
      simp at hsh
      obtain ⟨c1, c2, c3⟩ := hsh
      rw [decide_eq_true c1] at Q0
      rw [decide_eq_true c2] at Q1
      rw [decide_eq_true c3] at Q2
      clear etx er eg eb ea hf c1 c2 c3
      replace T1 := Lib.hid T1
      replace T2 := Lib.hid T2
      replace T3 := Lib.hid T3
      clear T4
      go_enter Tryd.func12, Tryd.ntmps12
      go_wp2_with fail
      refine wp_region_steady (Held w 1 [(⟨w.heap.size, 0, none⟩, .int .u8 (r)), (⟨w.heap.size, 1, none⟩, .int .u8 (g)), (⟨w.heap.size, 2, none⟩, .int .u8 (b)), (⟨w.heap.size, 3, none⟩, .int .u8 (255))]) (by kernel_rfl) (by kernel_rfl) ⟨(by repeat (first | exact Below.refl _ _ | assumption | refine Below.drew ?_ | refine Below.alloc ?_ (by (try simp) <;> omega) _ | refine Below.setCell ?_ (by (try simp) <;> omega) _ | (refine Below.trans ?_ (Below.mono (by assumption) (by (try simp) <;> omega))))), (by (try simp) <;> omega), (by simp only [Cells]; go_simp)⟩ ?_
      repeat (first | (refine' wpSteady_do _ _ _; rotate_left; (focus rfl); (focus (intro w1 hS R hR; have hc := hS.cells; simp only [Cells] at hc; go_simp; (try go_bits); first | exact hR _ hS | first | (go_at_call 30; (with_reducible refine (T1.out _).mono ?_); rintro e w2 ⟨rfl, hb2⟩; exact ⟨_, rfl, hR _ (hS.below hb2)⟩) | (go_at_call 30; (with_reducible refine (T2.out _).mono ?_); rintro e w2 ⟨rfl, hb2⟩; exact ⟨_, rfl, hR _ (hS.below hb2)⟩) | (go_at_call 30; (with_reducible refine (T3.out _).mono ?_); rintro e w2 ⟨rfl, hb2⟩; exact ⟨_, rfl, hR _ (hS.below hb2)⟩))); simp only [Act.put, List.setIfInBounds_toArray, List.set_cons_zero, List.set_cons_succ]) | (refine wpSteady_pass ?_ ?_; (focus rfl); simp only [Act.put, List.setIfInBounds_toArray, List.set_cons_zero, List.set_cons_succ]))
      refine wpSteady_nil (fun uA hSA => ?_)
      have hcA := hSA.cells; have hbA := hSA.old; have hzA := hSA.size; clear hSA; simp only [Cells] at hcA
      go_wp2_with fail
      refine wp_region_steady (Held w 1 [(⟨w.heap.size, 0, none⟩, .int .u8 (r)), (⟨w.heap.size, 1, none⟩, .int .u8 (g)), (⟨w.heap.size, 2, none⟩, .int .u8 (b)), (⟨w.heap.size, 3, none⟩, .int .u8 (255))]) (by kernel_rfl) (by kernel_rfl) ⟨(by repeat (first | exact Below.refl _ _ | assumption | refine Below.drew ?_ | refine Below.alloc ?_ (by (try simp) <;> omega) _ | refine Below.setCell ?_ (by (try simp) <;> omega) _ | (refine Below.trans ?_ (Below.mono (by assumption) (by (try simp) <;> omega))))), (by (try simp) <;> omega), (by simp only [Cells]; go_simp)⟩ ?_
      repeat (first | (refine' wpSteady_do _ _ _; rotate_left; (focus rfl); (focus (intro w1 hS R hR; have hc := hS.cells; simp only [Cells] at hc; go_simp; (try go_bits); first | exact hR _ hS | fail)); simp only [Act.put, List.setIfInBounds_toArray, List.set_cons_zero, List.set_cons_succ]) | (refine wpSteady_pass ?_ ?_; (focus rfl); simp only [Act.put, List.setIfInBounds_toArray, List.set_cons_zero, List.set_cons_succ]))
      refine wpSteady_nil (fun uB hSB => ?_)
      have hcB := hSB.cells; have hbB := hSB.old; have hzB := hSB.size; clear hSB; simp only [Cells] at hcB
      go_wp2_with fail
      refine wp_region_steady (Held w 1 [(⟨w.heap.size, 0, none⟩, .int .u8 (r)), (⟨w.heap.size, 1, none⟩, .int .u8 (g)), (⟨w.heap.size, 2, none⟩, .int .u8 (b)), (⟨w.heap.size, 3, none⟩, .int .u8 (255))]) (by kernel_rfl) (by kernel_rfl) ⟨(by repeat (first | exact Below.refl _ _ | assumption | refine Below.drew ?_ | refine Below.alloc ?_ (by (try simp) <;> omega) _ | refine Below.setCell ?_ (by (try simp) <;> omega) _ | (refine Below.trans ?_ (Below.mono (by assumption) (by (try simp) <;> omega))))), (by (try simp) <;> omega), (by simp only [Cells]; go_simp)⟩ ?_
      repeat (first | (refine' wpSteady_do _ _ _; rotate_left; (focus rfl); (focus (intro w1 hS R hR; have hc := hS.cells; simp only [Cells] at hc; go_simp; (try go_bits); first | exact hR _ hS | fail)); simp only [Act.put, List.setIfInBounds_toArray, List.set_cons_zero, List.set_cons_succ]) | (refine wpSteady_pass ?_ ?_; (focus rfl); simp only [Act.put, List.setIfInBounds_toArray, List.set_cons_zero, List.set_cons_succ]))
      refine wpSteady_nil (fun uD hSD => ?_)
      have hcD := hSD.cells; have hbD := hSD.old; have hzD := hSD.size; clear hSD; simp only [Cells] at hcD
      go_wp2
      go_ret
      exact ⟨rfl, (by repeat (first | exact Below.refl _ _ | assumption | refine Below.drew ?_ | refine Below.alloc ?_ (by (try simp) <;> omega) _ | refine Below.setCell ?_ (by (try simp) <;> omega) _ | (refine Below.trans ?_ (Below.mono (by assumption) (by (try simp) <;> omega)))))⟩
end Go.Proofs.YthecbopffdpefaaDoor
