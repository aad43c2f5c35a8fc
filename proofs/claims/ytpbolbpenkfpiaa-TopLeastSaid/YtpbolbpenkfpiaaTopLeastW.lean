/-
  The law TopLeast walked.
-/
import Derived.Test.YtpbolbpenkfpiaaLeaX
namespace Go.Proofs.Ytpbolbpenkfpiaa
open Go.RowKit
set_option linter.unusedVariables false
attribute [local go_sem] vwp vUpon_value vUpon_skip vUpon_enter vUpon_row
set_option linter.unusedSimpArgs false
theorem flat_encI (x : List Int) : x.flatMap encI = x.map (Value.int .i64) := by
  induction x with
  | nil => rfl
  | cons a x ih => rw [List.map_cons, List.flatMap_cons, ih]; rfl
theorem own_ints {w : World} {base B : Nat} {e : TypeId} {v : Value} {x : List Int} (h : w.ownsRow base e 1 v x.length (x.map (Value.int .i64))) (hB : w.heap.size ≤ B) : Row B 1 encI w v x :=
  Row.own (sz := 1) (e := e) (base := base) (fun _ => rfl) (by rw [flat_encI]; exact h) hB (by omega)
def b013 : List Bd := [⟨0, 1, 3⟩]
theorem v013 : Valid 2 b013 := by
  refine ⟨by decide, by decide, fun j b h => ?_⟩
  cases j with
  | zero => simp [b013] at h; subst h; exact ⟨by decide, by decide, by decide, by decide, by decide, by decide⟩
  | succ j => simp [b013] at h
theorem s013 : Sol 2 b013 [0, 3] := by
  refine ⟨rfl, fun v hv => ?_, fun j b h => ?_⟩
  · rcases (by omega : v = 0 ∨ v = 1) with rfl | rfl <;> decide
  · cases j with
    | zero => simp [b013] at h; subst h; decide
    | succ j => simp [b013] at h
theorem known_of (x : List Int) (h : Sol 2 b013 x) (hl : ∀ at_, Sol 2 b013 at_ → ∀ v, v < 2 → X x v ≤ X at_ v) : X x 0 = 0 ∧ X x 1 = 3 := by
  have a := hl _ s013 0 (by omega)
  have b := hl _ s013 1 (by omega)
  have c := h.pos 0 (by omega)
  have d := h.keeps 0 ⟨0, 1, 3⟩ rfl
  change X x 0 ≤ 0 at a
  change X x 1 ≤ 3 at b
  change X x 0 + 3 ≤ X x 1 at d
  omega
theorem known_ok (w0 : World) : Calls Try.prog 4 #[.int .i64 2, .slice (some ⟨w0.heap.size, 0, none⟩) 1 1] (w0.alloc (.cells #[.int .i64 0, .int .i64 1, .int .i64 3] 28)) fun e w' =>
    Below w0.heap.size w0 w' ∧ w0.heap.size < w'.heap.size ∧ ∃ g, e = .returned (.tuple #[.slice (some ⟨g, 0, none⟩) 2 2, .int .i64 0]) ∧ w0.heap.size < g ∧ g < w'.heap.size ∧ w'.cell? ⟨g, 0, none⟩ = some (.int .i64 0) ∧ w'.cell? ⟨g, 1, none⟩ = some (.int .i64 3) := by
  have hR : Row (w0.alloc (.cells #[.int .i64 0, .int .i64 1, .int .i64 3] 28)).heap.size 3 encB (w0.alloc (.cells #[.int .i64 0, .int .i64 1, .int .i64 3] 28)) (.slice (some ⟨w0.heap.size, 0, none⟩) 1 1) b013 :=
    Blk.row (xs := b013) (cap := 1) (sz := 3) (enc := encB) (fun _ => rfl) (Blk.new w0 [.int .i64 0, .int .i64 1, .int .i64 3] 28) rfl (Nat.le_refl _) (by simp [maxLen]) (by show w0.heap.size < (w0.heap.push _).size; simp)
  refine (solve_any 2 b013 _ _ hR v013).mono ?_
  rintro e w' ⟨hb, h⟩
  have hz := hb.size
  simp at hz
  rcases h with ⟨x, g, rfl, gl, kx, sx, lx, _⟩ | ⟨_, hno⟩
  · obtain ⟨x0, x1⟩ := known_of x sx lx
    simp at gl
    refine ⟨((Below.refl _ _).alloc (Nat.le_refl _) _).trans (hb.mono (by simp)), by omega, g, rfl, by omega, kx.lt, ?_, ?_⟩
    · rw [← x0]; exact kx.cell (map_at x 0 (by rw [sx.len]; omega))
    · rw [← x1]; exact kx.cell (map_at x 1 (by rw [sx.len]; omega))
  · exact absurd s013 (hno _)
theorem good_sol {N : Nat} {bs : List Bd} {x : List Int} (h : GoodX N bs x) (hl : x.length = N) : Sol N bs x := ⟨hl, fun v hv => (h.1 v hv).1, h.2⟩
set_option maxHeartbeats 4000000 in
set_option maxRecDepth 100000 in
theorem walk_TopLeast (n : Int) (bs : List Bd) (at_ : List Int) (v u : Value) (w : World) (hn : I64 n) (hr : Row w.heap.size 3 encB w v bs) (hwb : ∀ b ∈ bs, WfB b) (hx : Row w.heap.size 1 encI w u at_) (hwa : ∀ n ∈ at_, I64 n) :
    Calls Try.prog 3 #[.int .i64 n, v, u] w fun e w' => e = .returned (.bool true) ∧ Below w.heap.size w w' := by
  have HR := fun w' (hb : Below w.heap.size w w') => (hr.below hb).mono hb.size
  have HX := fun w' (hb : Below w.heap.size w w') => (hx.below hb).mono hb.size
  obtain ⟨s, cap, hv', hmax⟩ := hr.shape
  obtain ⟨s2, cap2, hu', hmax2⟩ := hx.shape
  have hopen2 := fun h0 => hx.open_ h0
  replace hopen2 := Lib.hid hopen2
  replace HR := Lib.hid HR
  replace HX := Lib.hid HX
  replace hwa := Lib.hid hwa
  replace hwb := Lib.hid hwb
  subst hv' hu'
  obtain ⟨L, hL⟩ : ∃ L, bs.length = L := ⟨_, rfl⟩
  obtain ⟨Z, hZ⟩ : ∃ Z, at_.length = Z := ⟨_, rfl⟩
  rw [hL] at HR hmax ⊢
  rw [hZ] at HX hmax2 hopen2 ⊢
  replace hL := Lib.hid hL
  replace hZ := Lib.hid hZ
  clear hr hx
  obtain ⟨n0, n1⟩ := hn
  go_enter Try.func3, Try.ntmps3
  go_wp2_with (first
    | (go_at_call 4; (with_reducible refine (known_ok w).mono ?_); rintro e w1 ⟨hb1, hz1, g, rfl, hg, hgl, k0, k1⟩))
  go_at_call 5
  refine (rcheck_any n bs _ _ (HR.out _ hb1) hwb.out).mono ?_
  rintro e w2 ⟨hb2, k, rfl, hk⟩
  have hB2 : Below w.heap.size w w2 := hb1.trans (hb2.mono hb1.size)
  clear k0 k1 hg hgl
  by_cases hk0 : k = 0
  · subst hk0
    obtain ⟨g0, hv⟩ := hk rfl
    obtain ⟨N, rfl⟩ := Int.eq_ofNat_of_zero_le g0
    rw [Int.toNat_natCast] at hv
    have hN1 := hv.n1
    clear hk g0 n0 n1 hb1 hb2 hz1
    go_wp2_with fail
    go_at_call 4
    refine (solve_any N bs _ _ (HR.out _ hB2) hv).mono ?_
    rintro e w3 ⟨hb3, hS⟩
    have hB3 : Below w.heap.size w w3 := hB2.trans (hb3.mono hB2.size)
    rcases hS with ⟨x, g, rfl, gl, kx, sx, lx, bx⟩ | ⟨rfl, hno⟩
    · -- they come to rest
      have hz3 := hB3.size
      have glt := kx.lt
      have hGX : GoodX N bs x := ⟨fun v hv => ⟨sx.pos v hv, bx v hv⟩, sx.keeps⟩
      have hxl := sx.len
      have hwx : ∀ n ∈ x, I64 n := by
        intro n hn
        obtain ⟨i, hi, rfl⟩ := List.mem_iff_getElem.1 hn
        have e : X x i = x[i] := by unfold X; rw [List.getD_eq_getElem?_getD, List.getElem?_eq_getElem hi]; rfl
        rw [← e]
        have := sx.pos i (by omega); have := bx i (by omega)
        exact ⟨by omega, by omega⟩
      replace hGX := Lib.hid hGX
      replace hwx := Lib.hid hwx
      replace lx := Lib.hid lx
      replace hxl := Lib.hid hxl
      replace bx := Lib.hid bx
      go_wp2_with fail
      go_at_call 6
      refine (loop_any N bs _ _ (HR.out _ hB3) hv).mono ?_
      rintro e w4 ⟨hb4, hL4⟩
      rcases hL4 with ⟨rfl, _⟩ | ⟨_, _, _, _, _, _, hno⟩
      · have hB4 : Below w.heap.size w w4 := hB3.trans (hb4.mono hz3)
        have kx4 := kx.below hb4 glt
        have hz4 := hB4.size
        have g4 := kx4.lt
        clear hb3 hb4 kx
        by_cases hlen : Z = N
        · subst hlen
          go_wp2_with fail
          go_at_call 7
          refine (keeps_any Z bs at_ _ _ _ (HX.out _ hB4) hwa.out (HR.out _ hB4) hv hZ.out).mono ?_
          rintro e w5 ⟨hb5, r, rfl, hr1, hr2⟩
          have hB5 : Below w.heap.size w w5 := hB4.trans (hb5.mono hz4)
          have kx5 := kx4.below hb5 g4
          have hz5 := hB5.size
          have g5 := kx5.lt
          replace hr1 := Lib.hid hr1
          clear hr2 hb5 kx4
          go_wp2_with fail
          go_at_call 7
          refine (keeps_any Z bs x _ _ _ (blk_row kx5 hxl.out hN1 g5) hwx.out (HR.out _ hB5) hv hxl.out).mono ?_
          rintro e w6 ⟨hb6, r2, rfl, _, hr3⟩
          obtain rfl := hr3 hGX.out
          have hB6 : Below w.heap.size w w6 := hB5.trans (hb6.mono hz5)
          have kx6 := kx5.below hb6 g5
          have hz6 := hB6.size
          have g6 := kx6.lt
          clear hb6 kx5 hr3
          cases r
          · go_wp2
            go_loopw [14] (fun i wr => i = .int .i64 0 ∧ wr = w6) (fun _ _ => 0)
            case atStart => exact ⟨rfl, rfl⟩
            case round =>
              obtain ⟨rfl, rfl⟩ := hrel
              go_wp2
              go_ret
              exact ⟨rfl, hB6⟩
          · have hsol := good_sol (hr1.out rfl) hZ.out
            have hcmp := lx.out _ hsol
            have hgood := hr1.out rfl
            replace hcmp := Lib.hid hcmp
            replace hgood := Lib.hid hgood
            clear hsol
            go_wp2
            go_loopw [14] (fun i wr => ∃ k : Nat, k ≤ Z ∧ i = .int .i64 k ∧ Below w6.heap.size w6 wr) (fun i _ => Z - (intOf i).toNat)
            case atStart => exact ⟨0, Nat.zero_le _, rfl, Below.refl _ _⟩
            case round =>
              obtain ⟨k, hk, rfl, hbr⟩ := hrel
              have zr := hbr.size
              by_cases hkZ : k < Z
              · obtain ⟨b2, o2, cap2', e, hbl, _, hcm, hcell⟩ := hopen2.out (by omega)
                simp at e
                obtain ⟨rfl, rfl⟩ := e
                have c1 := encI_at hcell k (by have := hZ.out; omega)
                have c2 := kx6.cell (map_at x k (by have := hxl.out; omega))
                have hle := hcmp.out k hkZ
                obtain ⟨hcr, hfr⟩ := bcell hbr
                obtain ⟨hc6, hf6⟩ := bcell hB6
                have hkk : (k : Int) < Z := by omega
                have y1 : b2 < wr.heap.size := by omega
                have y2 : b2 < w6.heap.size := by omega
                have y3 : g < wr.heap.size := by omega
                have p0 := hgood.out.1 k hkZ
                obtain ⟨p1, p2⟩ := p0
                have p3 := (sx.pos k hkZ)
                clear hcell
                go_wp2
                refine wp_region_steady (Held wr 0 []) (by kernel_rfl) (by kernel_rfl) ⟨(by repeat (first | exact Below.refl _ _ | assumption | refine Below.drew ?_ | refine Below.alloc ?_ (by (try simp) <;> omega) _ | refine Below.setCell ?_ (by (try simp) <;> omega) _ | (refine Below.trans ?_ (Below.mono (by assumption) (by (try simp) <;> omega))))), (by (try simp) <;> omega), (by first | exact trivial | (simp only [Cells]; go_simp))⟩ ?_
                repeat (first | (refine' wpSteady_do _ _ _; rotate_left; (focus rfl); (focus (intro w1 hS R hR; have hc := hS.cells; simp only [Cells] at hc; obtain ⟨hco, hfo⟩ := bcell hS.old; go_simp; (try go_bits); first | exact hR _ hS | fail)); simp only [Act.put, List.setIfInBounds_toArray, List.set_cons_zero, List.set_cons_succ]) | (refine wpSteady_pass ?_ ?_; (focus rfl); simp only [Act.put, List.setIfInBounds_toArray, List.set_cons_zero, List.set_cons_succ]))
                refine wpSteady_nil (fun uA hSA => ?_)
                have hcA := hSA.cells; have hbA := hSA.old; have hzA := hSA.size; clear hSA; simp only [Cells] at hcA; obtain ⟨hcoA, hfoA⟩ := bcell hbA
                go_wp2
                go_roundw
                case rel => exact ⟨k + 1, by omega, by go_num, hbr.trans (hbA.mono zr)⟩
                case measure => simp [intOf]; omega
              · obtain rfl : k = Z := by omega
                go_wp2
                go_ret
                exact ⟨rfl, hB6.trans (hbr.mono hz6)⟩
        · have hl1 : (Z == N) = false := by simpa using hlen
          have hl2 : ((Z : Int) == (N : Int)) = false := by simp; omega
          go_wp2_with fail
          go_at_call 7
          refine (keeps_any N bs x _ _ _ (blk_row kx4 hxl.out hN1 g4) hwx.out (HR.out _ hB4) hv hxl.out).mono ?_
          rintro e w6 ⟨hb6, r2, rfl, _, hr3⟩
          obtain rfl := hr3 hGX.out
          have hB6 : Below w.heap.size w w6 := hB4.trans (hb6.mono hz4)
          clear hb6 hr3
          go_wp2
          go_loopw [14] (fun i wr => i = .int .i64 0 ∧ wr = w6) (fun _ _ => 0)
          case atStart => exact ⟨rfl, rfl⟩
          case round =>
            obtain ⟨rfl, rfl⟩ := hrel
            go_wp2
            go_ret
            exact ⟨rfl, hB6⟩
      · exact absurd sx (hno x)
    · -- they don't
      have hz3 := hB3.size
      go_wp2_with fail
      go_at_call 6
      refine (loop_any N bs _ _ (HR.out _ hB3) hv).mono ?_
      rintro e w4 ⟨hb4, hL4⟩
      rcases hL4 with ⟨_, x, sx⟩ | ⟨out, vo, rfl, hown, hturn, hlen, _⟩
      · exact absurd sx (hno x)
      · have hB4 : Below w.heap.size w w4 := hB3.trans (hb4.mono hz3)
        have hz4 := hB4.size
        have hro := own_ints hown (Nat.le_refl _)
        obtain ⟨so, capo, hvo, hmo⟩ := hro.shape
        subst hvo
        replace hno := Lib.hid hno
        replace hown := Lib.hid hown
        by_cases hlen2 : Z = N
        · subst hlen2
          go_wp2_with fail
          go_at_call 7
          refine (keeps_any Z bs at_ _ _ _ (HX.out _ hB4) hwa.out (HR.out _ hB4) hv hZ.out).mono ?_
          rintro e w5 ⟨hb5, r, rfl, hr1, hr2⟩
          have hB5 : Below w.heap.size w w5 := hB4.trans (hb5.mono hz4)
          have hz5 := hB5.size
          have hr : r = false := by
            cases r
            · rfl
            · exact absurd (good_sol (hr1 rfl) hZ.out) (hno.out _)
          subst hr
          clear hr1 hr2
          go_wp2_with fail
          go_at_call 8
          refine (turns_any Z bs out _ _ _ ((hro.below hb5).mono hb5.size) (HR.out _ hB5) hv hturn (by omega)).mono ?_
          rintro e w6 ⟨rfl, hb6⟩
          go_wp2
          go_ret
          exact ⟨rfl, hB5.trans (hb6.mono hz5)⟩
        · have hl1 : (Z == N) = false := by simpa using hlen2
          have hl2 : ((Z : Int) == (N : Int)) = false := by simp; omega
          go_wp2_with fail
          go_at_call 8
          refine (turns_any N bs out _ _ _ hro (HR.out _ hB4) hv hturn (by omega)).mono ?_
          rintro e w6 ⟨rfl, hb6⟩
          go_wp2
          go_ret
          exact ⟨rfl, hB4.trans (hb6.mono hz4)⟩
  · have hkb : (k != 0) = true := by simpa using hk0
    clear hk hk0
    go_wp2
    go_ret
    exact ⟨rfl, hB2⟩
end Go.Proofs.Ytpbolbpenkfpiaa
