/-
  colour.Text walked: the long forms; both.
-/
import Derived.Test.YthecbopffdpefaaDoorDooI
namespace Go.Proofs.YthecbopffdpefaaDoor
open Go.RowKit
set_option linter.unusedVariables false
attribute [local go_sem] vwp vUpon_value vUpon_skip vUpon_enter vUpon_row
set_option linter.unusedSimpArgs false
set_option linter.unusedVariables false
def Nib.n1 (x : Nib) : Nat → Nat
  | 0 => x.r1
  | 1 => x.g1
  | 2 => x.b1
  | _ => x.a1
def Nib.n2 (x : Nib) : Nat → Nat
  | 0 => x.r2
  | 1 => x.g2
  | 2 => x.b2
  | _ => x.a2
def Nib.bs (x : Nib) : Nat → List Int
  | 0 => [35]
  | k + 1 => x.bs k ++ [dig (x.n1 k), dig (x.n2 k)]
theorem bs_three (x : Nib) : strOfNums (x.bs 3) = ⟨#[35, hxU x.r1, hxU x.r2, hxU x.g1, hxU x.g2, hxU x.b1, hxU x.b2]⟩ := by
  simp [strOfNums, dig, Nib.bs, Nib.n1, Nib.n2]
theorem bs_four (x : Nib) : strOfNums (x.bs 4) = ⟨#[35, hxU x.r1, hxU x.r2, hxU x.g1, hxU x.g2, hxU x.b1, hxU x.b2, hxU x.a1, hxU x.a2]⟩ := by
  simp [strOfNums, dig, Nib.bs, Nib.n1, Nib.n2]
theorem bs_snoc (x : Nib) (k : Nat) : vB (x.bs k) ++ [.int .u8 (dig (x.n1 k)), .int .u8 (dig (x.n2 k))] = vB (x.bs (k + 1)) := by
  simp [vB, Nib.bs]
theorem own_slice {w : World} {base : Nat} {e : TypeId} {size n : Nat} {v : Value} {xs : List Value} (h : w.ownsRow base e size v n xs) : ∃ s cap, v = .slice s n cap := by
  rcases h.2 with ⟨rfl, rfl⟩ | ⟨g, cap, cur, rfl, _⟩
  · exact ⟨_, _, rfl⟩
  · exact ⟨_, _, rfl⟩
set_option maxHeartbeats 2000000 in
theorem ltext_four (r g b a : Int) (x : Nib) (w : World) (h : x.Of r g b a) (ha : a < 255) : Calls Tryd.prog 11 #[.agg #[.int .u8 (r), .int .u8 (g), .int .u8 (b), .int .u8 (a)]] w fun e w' => e = .returned (.string (⟨#[35, hxU x.r1, hxU x.r2, hxU x.g1, hxU x.g2, hxU x.b1, hxU x.b2, hxU x.a1, hxU x.a2]⟩)) ∧ Below w.heap.size w w' := by
  obtain ⟨iB, hi0, hz0, hz1, hz2⟩ := info_parts infoB
  obtain ⟨⟨er, hr1, hr2⟩, ⟨eg, hg1, hg2⟩, ⟨eb, hb1, hb2⟩, ⟨ea, ha1, ha2⟩⟩ := h
  rw [← bs_four x]
  have hne255 : (a == 255) = false := by simp; omega
  replace er := Lib.hid er
  replace eg := Lib.hid eg
  replace eb := Lib.hid eb
  replace ea := Lib.hid ea
  go_enter Tryd.func11, Tryd.ntmps11
  go_wp2_with fail
  have h35 : (((w.alloc (.cells #[.int .u8 r, .int .u8 g, .int .u8 b, .int .u8 a] 23)).alloc (.cells #[.int .u8 35] 5)).alloc (.cells #[.int .u8 r, .int .u8 g, .int .u8 b, .int .u8 a] 5)).ownsRow (w.heap.size + 1) 5 1 (.slice (some ⟨w.heap.size + 1, 0, none⟩) 1 1) 1 (vB [35]) := by
    have := World.ownsRow_lit (base := w.heap.size + 1) (e := 5) (size := 1) (w.alloc (.cells #[.int .u8 r, .int .u8 g, .int .u8 b, .int .u8 a] 23)) #[.int .u8 35] 1 (by simp) (by unfold maxLen; omega) rfl
    have h2 : ((w.alloc (.cells #[.int .u8 r, .int .u8 g, .int .u8 b, .int .u8 a] 23)).alloc (.cells #[.int .u8 35] 5)).ownsRow (w.heap.size + 1) 5 1 (.slice (some ⟨w.heap.size + 1, 0, none⟩) 1 1) 1 (vB [35]) := by simpa [vB] using this
    exact h2.alloc _
  have hbl : (((w.alloc (.cells #[.int .u8 r, .int .u8 g, .int .u8 b, .int .u8 a] 23)).alloc (.cells #[.int .u8 35] 5)).alloc (.cells #[.int .u8 r, .int .u8 g, .int .u8 b, .int .u8 a] 5)).heap[w.heap.size + 1 + 1]? = some (.cells #[.int .u8 r, .int .u8 g, .int .u8 b, .int .u8 a] 5 (0, 0)) := by
    have := heap_alloc_new ((w.alloc (.cells #[.int .u8 r, .int .u8 g, .int .u8 b, .int .u8 a] 23)).alloc (.cells #[.int .u8 35] 5)) (.cells #[.int .u8 r, .int .u8 g, .int .u8 b, .int .u8 a] 5)
    simpa using this
  have hbv : Below w.heap.size w (((w.alloc (.cells #[.int .u8 r, .int .u8 g, .int .u8 b, .int .u8 a] 23)).alloc (.cells #[.int .u8 35] 5)).alloc (.cells #[.int .u8 r, .int .u8 g, .int .u8 b, .int .u8 a] 5)) := (((Below.refl _ _).alloc (Nat.le_refl _) _).alloc (by simp) _).alloc (by simp; omega) _
  have hsz : w.heap.size + 1 + 1 < (((w.alloc (.cells #[.int .u8 r, .int .u8 g, .int .u8 b, .int .u8 a] 23)).alloc (.cells #[.int .u8 35] 5)).alloc (.cells #[.int .u8 r, .int .u8 g, .int .u8 b, .int .u8 a] 5)).heap.size := by simp
  obtain ⟨wv, hwv⟩ : ∃ wv, ((w.alloc (.cells #[.int .u8 r, .int .u8 g, .int .u8 b, .int .u8 a] 23)).alloc (.cells #[.int .u8 35] 5)).alloc (.cells #[.int .u8 r, .int .u8 g, .int .u8 b, .int .u8 a] 5) = wv := ⟨_, rfl⟩
  rw [hwv] at h35 hbl hbv hsz ⊢
  clear hwv
  replace h35 := Lib.hid h35
  replace hbl := Lib.hid hbl
  replace hbv := Lib.hid hbv
  go_loopw [3, 58] (fun vb i wr => ∃ k : Nat, k ≤ 4 ∧ i = .int .i64 k ∧ Hid (wr.ownsRow (w.heap.size + 1) 5 1 vb (1 + 2 * k) (vB (x.bs k)) ∧ (∀ g, vb.ownBlock = some g → g ≠ w.heap.size + 1 + 1) ∧ wr.heap[w.heap.size + 1 + 1]? = some (.cells #[.int .u8 r, .int .u8 g, .int .u8 b, .int .u8 a] 5 (0, 0)) ∧ Below w.heap.size w wr ∧ w.heap.size + 1 + 1 < wr.heap.size)) (fun _ i _ => 4 - (intOf i).toNat)
  case atStart => exact ⟨0, Nat.zero_le _, rfl, Lib.hid ⟨h35.out, (fun g hg => by simp [Value.ownBlock] at hg; omega), hbl.out, hbv.out, hsz⟩⟩
  case round =>
    obtain ⟨k, hk, rfl, hh⟩ := hrel
    obtain ⟨hown, hne, hblk, hbr, hlt⟩ := hh.out
    clear hh h35 hbl hbv hsz
    by_cases hkn : k < 4
    · obtain ⟨v, hv, n10, n20, hve⟩ : ∃ v : Int, wr.cell? ⟨w.heap.size + 1 + 1, k, none⟩ = some (.int .u8 v) ∧ x.n1 k < 16 ∧ x.n2 k < 16 ∧ v = 16 * (x.n1 k : Int) + x.n2 k := by
        have hc : ∀ j u, (#[.int .u8 r, .int .u8 g, .int .u8 b, .int .u8 a] : Array Value)[j]? = some u → wr.cell? ⟨w.heap.size + 1 + 1, j, none⟩ = some u := fun j u hj => by simp only [World.cell?, hblk]; simpa using hj
        rcases (by omega : k = 0 ∨ k = 1 ∨ k = 2 ∨ k = 3) with rfl | rfl | rfl | rfl
        · exact ⟨r, hc 0 _ rfl, hr1, hr2, er.out⟩
        · exact ⟨g, hc 1 _ rfl, hg1, hg2, eg.out⟩
        · exact ⟨b, hc 2 _ rfl, hb1, hb2, eb.out⟩
        · first | omega | exact ⟨a, hc 3 _ rfl, ha1, ha2, ea.out⟩
      have hkk : (k : Int) < 4 := by omega
      have hsn := bs_snoc x k
      have D0 := fun w => dig_ix (x.n1 k) n10 w
      have D1 := fun w => dig_ix (x.n2 k) n20 w
      have q1 : bits .and .u8 v 15 = (x.n2 k : Int) := by rw [hve]; exact and15b _ _ n10 n20
      have q0 : v / 16 = (x.n1 k : Int) := by omega
      have v0 : 0 ≤ v := by omega
      have v1 : v ≤ 255 := by omega
      replace hsn := Lib.hid hsn
      obtain ⟨s5, c5, rfl⟩ := own_slice hown
      generalize dig (x.n1 k) = d0 at *
      generalize dig (x.n2 k) = d1 at *
      clear hve
      replace hown := Lib.hid hown
      replace hblk := Lib.hid hblk
      replace hne := Lib.hid hne
      go_wp2_with fail
      refine held_begin (fun w' => True) (by kernel_rfl) trivial (fun hS => ?_)
      (first | (refine' held_do (i := 0) _ (by kernel_rfl) (by kernel_rfl) (by kernel_rfl) _ _ hS _ _; rotate_left 2; (focus (simp only [List.getElem?_toArray, List.getElem?_cons_succ, List.getElem?_cons_zero]; rfl)); (focus exact fun _ _ _ h => h); (focus rfl); (focus (intro w1 hSS R hR; have hc := hSS; (try simp only [Held, Cells] at hc); go_simp; (try go_bits); exact hR)); simp only [Act.put, List.setIfInBounds_toArray, List.set_cons_zero, List.set_cons_succ]) | (refine' held_pass (i := 0) _ (by kernel_rfl) (by kernel_rfl) (by kernel_rfl) _ _ hS _; rotate_left; (focus (simp only [List.getElem?_toArray, List.getElem?_cons_succ, List.getElem?_cons_zero]; rfl)); (focus exact fun _ _ _ h => h); (focus rfl); simp only [Act.put, List.setIfInBounds_toArray, List.set_cons_zero, List.set_cons_succ]))
      (first | (refine' held_do (i := 1) _ (by kernel_rfl) (by kernel_rfl) (by kernel_rfl) _ _ hS _ _; rotate_left 2; (focus (simp only [List.getElem?_toArray, List.getElem?_cons_succ, List.getElem?_cons_zero]; rfl)); (focus exact fun _ _ _ h => h); (focus rfl); (focus (intro w1 hSS R hR; have hc := hSS; (try simp only [Held, Cells] at hc); go_simp; (try go_bits); exact hR)); simp only [Act.put, List.setIfInBounds_toArray, List.set_cons_zero, List.set_cons_succ]) | (refine' held_pass (i := 1) _ (by kernel_rfl) (by kernel_rfl) (by kernel_rfl) _ _ hS _; rotate_left; (focus (simp only [List.getElem?_toArray, List.getElem?_cons_succ, List.getElem?_cons_zero]; rfl)); (focus exact fun _ _ _ h => h); (focus rfl); simp only [Act.put, List.setIfInBounds_toArray, List.set_cons_zero, List.set_cons_succ]))
      (first | (refine' held_do (i := 2) _ (by kernel_rfl) (by kernel_rfl) (by kernel_rfl) _ _ hS _ _; rotate_left 2; (focus (simp only [List.getElem?_toArray, List.getElem?_cons_succ, List.getElem?_cons_zero]; rfl)); (focus exact fun _ _ _ h => h); (focus rfl); (focus (intro w1 hSS R hR; have hc := hSS; (try simp only [Held, Cells] at hc); go_simp; (try go_bits); exact hR)); simp only [Act.put, List.setIfInBounds_toArray, List.set_cons_zero, List.set_cons_succ]) | (refine' held_pass (i := 2) _ (by kernel_rfl) (by kernel_rfl) (by kernel_rfl) _ _ hS _; rotate_left; (focus (simp only [List.getElem?_toArray, List.getElem?_cons_succ, List.getElem?_cons_zero]; rfl)); (focus exact fun _ _ _ h => h); (focus rfl); simp only [Act.put, List.setIfInBounds_toArray, List.set_cons_zero, List.set_cons_succ]))
      (first | (refine' held_do (i := 3) _ (by kernel_rfl) (by kernel_rfl) (by kernel_rfl) _ _ hS _ _; rotate_left 2; (focus (simp only [List.getElem?_toArray, List.getElem?_cons_succ, List.getElem?_cons_zero]; rfl)); (focus exact fun _ _ _ h => h); (focus rfl); (focus (intro w1 hSS R hR; have hc := hSS; (try simp only [Held, Cells] at hc); go_simp; (try go_bits); exact hR)); simp only [Act.put, List.setIfInBounds_toArray, List.set_cons_zero, List.set_cons_succ]) | (refine' held_pass (i := 3) _ (by kernel_rfl) (by kernel_rfl) (by kernel_rfl) _ _ hS _; rotate_left; (focus (simp only [List.getElem?_toArray, List.getElem?_cons_succ, List.getElem?_cons_zero]; rfl)); (focus exact fun _ _ _ h => h); (focus rfl); simp only [Act.put, List.setIfInBounds_toArray, List.set_cons_zero, List.set_cons_succ]))
      (first | (refine' held_do (i := 4) _ (by kernel_rfl) (by kernel_rfl) (by kernel_rfl) _ _ hS _ _; rotate_left 2; (focus (simp only [List.getElem?_toArray, List.getElem?_cons_succ, List.getElem?_cons_zero]; rfl)); (focus exact fun _ _ _ h => h); (focus rfl); (focus (intro w1 hSS R hR; have hc := hSS; (try simp only [Held, Cells] at hc); go_simp; (try go_bits); exact hR)); simp only [Act.put, List.setIfInBounds_toArray, List.set_cons_zero, List.set_cons_succ]) | (refine' held_pass (i := 4) _ (by kernel_rfl) (by kernel_rfl) (by kernel_rfl) _ _ hS _; rotate_left; (focus (simp only [List.getElem?_toArray, List.getElem?_cons_succ, List.getElem?_cons_zero]; rfl)); (focus exact fun _ _ _ h => h); (focus rfl); simp only [Act.put, List.setIfInBounds_toArray, List.set_cons_zero, List.set_cons_succ]))
      (first | (refine' held_do (i := 5) _ (by kernel_rfl) (by kernel_rfl) (by kernel_rfl) _ _ hS _ _; rotate_left 2; (focus (simp only [List.getElem?_toArray, List.getElem?_cons_succ, List.getElem?_cons_zero]; rfl)); (focus exact fun _ _ _ h => h); (focus rfl); (focus (intro w1 hSS R hR; have hc := hSS; (try simp only [Held, Cells] at hc); go_simp; (try go_bits); exact hR)); simp only [Act.put, List.setIfInBounds_toArray, List.set_cons_zero, List.set_cons_succ]) | (refine' held_pass (i := 5) _ (by kernel_rfl) (by kernel_rfl) (by kernel_rfl) _ _ hS _; rotate_left; (focus (simp only [List.getElem?_toArray, List.getElem?_cons_succ, List.getElem?_cons_zero]; rfl)); (focus exact fun _ _ _ h => h); (focus rfl); simp only [Act.put, List.setIfInBounds_toArray, List.set_cons_zero, List.set_cons_succ]))
      (first | (refine' held_do (i := 6) _ (by kernel_rfl) (by kernel_rfl) (by kernel_rfl) _ _ hS _ _; rotate_left 2; (focus (simp only [List.getElem?_toArray, List.getElem?_cons_succ, List.getElem?_cons_zero]; rfl)); (focus exact fun _ _ _ h => h); (focus rfl); (focus (intro w1 hSS R hR; have hc := hSS; (try simp only [Held, Cells] at hc); go_simp; (try go_bits); exact hR)); simp only [Act.put, List.setIfInBounds_toArray, List.set_cons_zero, List.set_cons_succ]) | (refine' held_pass (i := 6) _ (by kernel_rfl) (by kernel_rfl) (by kernel_rfl) _ _ hS _; rotate_left; (focus (simp only [List.getElem?_toArray, List.getElem?_cons_succ, List.getElem?_cons_zero]; rfl)); (focus exact fun _ _ _ h => h); (focus rfl); simp only [Act.put, List.setIfInBounds_toArray, List.set_cons_zero, List.set_cons_succ]))
      (refine' held_one (i := 7) _ (by kernel_rfl) _ _; rotate_left; (focus (simp only [List.getElem?_toArray, List.getElem?_cons_succ, List.getElem?_cons_zero]; rfl)); (focus rfl); intro K hK; go_simp)
      refine hK _ _ trivial ?_
      clear hK
      (try simp only [Act.put, List.setIfInBounds_toArray, List.set_cons_zero, List.set_cons_succ])
      rw [show (wr.alloc (.cells #[.int .u8 d0, .int .u8 d1] 5)).drew = wr.drew.alloc (.cells [.int .u8 d0, .int .u8 d1].toArray 5) from rfl]
      (refine' held_one (i := 8) _ (by kernel_rfl) _ _; rotate_left; (focus (simp only [List.getElem?_toArray, List.getElem?_cons_succ, List.getElem?_cons_zero]; rfl)); (focus rfl); intro K hK)
      (refine wp_append_two _ _ _ rfl (w.heap.size + 1) 5 iB _ 1 1 Tryd.underlying53 hi0 hz0 hz1 hz2 rfl (by omega) wr.drew 2 _ _ _ _ (by rfl) hown.out.drew (by rfl) rfl (by simp [Value.oneCell']) (by omega) (by unfold maxLen; omega) (by simp; omega) ?_; intro v4 w4 hown4 hgr4 hat4 hb4)
      refine hK _ _ trivial ?_
      clear hK
      (try simp only [Act.put, List.setIfInBounds_toArray, List.set_cons_zero, List.set_cons_succ])
      (refine' held_one (i := 9) _ (by kernel_rfl) _ _; rotate_left; (focus (simp only [List.getElem?_toArray, List.getElem?_cons_succ, List.getElem?_cons_zero]; rfl)); (focus rfl); intro K hK; go_simp)
      refine hK _ _ trivial ?_
      clear hK
      (try simp only [Act.put, List.setIfInBounds_toArray, List.set_cons_zero, List.set_cons_succ])
      refine wpAnyH_done (by kernel_rfl) ?_ _
      have hblk4 : w4.heap[w.heap.size + 1 + 1]? = some (.cells #[.int .u8 r, .int .u8 g, .int .u8 b, .int .u8 a] 5 (0, 0)) := (hgr4.block _ (by simpa using hlt) (fun e => hne.out _ e.symm rfl)).trans hblk.out
      have hne4 : ∀ g, v4.ownBlock = some g → g ≠ w.heap.size + 1 + 1 := fun g hg => by
        rcases hat4 g hg with h3 | h3
        · exact hne.out g h3
        · simp at h3; omega
      have hb04 : Below w.heap.size w w4 := hbr.drew.trans (hb4.mono (by omega))
      have hlt4 : w.heap.size + 1 + 1 < w4.heap.size := Nat.lt_of_lt_of_le hlt (by have := hgr4.size; simpa using this)
      rw [hsn.out, show 1 + 2 * k + 2 = 1 + 2 * (k + 1) by omega] at hown4
      replace hown4 := Lib.hid hown4
      clear hblk hne hown hgr4 hat4 hb4
      replace hblk4 := Lib.hid hblk4
      replace hne4 := Lib.hid hne4
      go_wp2
      go_roundw
      case rel => exact ⟨k + 1, by omega, by go_num, Lib.hid ⟨hown4.out, hne4.out, hblk4.out, hb04, hlt4⟩⟩
      case measure => simp [intOf]; omega
    · obtain rfl : k = 4 := by omega
      obtain ⟨g4, cap4, e4, hcv4⟩ := own_text hown (by omega)
      subst e4
      clear hown hne hblk
      go_wp2
      go_ret
      exact ⟨rfl, hbr⟩
set_option maxHeartbeats 4000000 in
theorem ltext_three (r g b : Int) (x : Nib) (w : World) (h : x.Of r g b 255) (hs : x.short = false) : Calls Tryd.prog 11 #[.agg #[.int .u8 (r), .int .u8 (g), .int .u8 (b), .int .u8 (255)]] w fun e w' => e = .returned (.string (⟨#[35, hxU x.r1, hxU x.r2, hxU x.g1, hxU x.g2, hxU x.b1, hxU x.b2]⟩)) ∧ Below w.heap.size w w' := by
  obtain ⟨iB, hi0, hz0, hz1, hz2⟩ := info_parts infoB
  obtain ⟨⟨er, hr1, hr2⟩, ⟨eg, hg1, hg2⟩, ⟨eb, hb1, hb2⟩, ea⟩ := h
  clear ea
  rw [← bs_three x]
  have R := fun w => short_any r w ⟨by omega, by omega⟩
  have G := fun w => short_any g w ⟨by omega, by omega⟩
  have B := fun w => short_any b w ⟨by omega, by omega⟩
  rw [nib17 r _ _ er hr1 hr2] at R
  rw [nib17 g _ _ eg hg1 hg2] at G
  rw [nib17 b _ _ eb hb1 hb2] at B
  unfold Nib.short at hs
  have hh : (decide (x.r1 = x.r2) = false) ∨ (decide (x.r1 = x.r2) = true ∧ decide (x.g1 = x.g2) = false) ∨ (decide (x.r1 = x.r2) = true ∧ decide (x.g1 = x.g2) = true ∧ decide (x.b1 = x.b2) = false) := by
    simp at hs
    by_cases c1 : x.r1 = x.r2
    · by_cases c2 : x.g1 = x.g2
      · exact .inr (.inr ⟨by simpa using c1, by simpa using c2, by simpa using hs c1 c2⟩)
      · exact .inr (.inl ⟨by simpa using c1, by simpa using c2⟩)
    · exact .inl (by simpa using c1)
  clear hs
  replace er := Lib.hid er
  replace eg := Lib.hid eg
  replace eb := Lib.hid eb
  rcases hh with c1 | ⟨c1, c2⟩ | ⟨c1, c2, c3⟩
  · rw [c1] at R
    clear c1 G B
    (try replace R := Lib.hid R)
    (try replace G := Lib.hid G)
    (try replace B := Lib.hid B)
    go_enter Tryd.func11, Tryd.ntmps11
    go_wp2_with (first | (go_at_call 29; (with_reducible refine (R.out _).mono ?_); rintro e w1 ⟨rfl, rfl⟩) | (go_at_call 29; (with_reducible refine (G.out _).mono ?_); rintro e w1 ⟨rfl, rfl⟩) | (go_at_call 29; (with_reducible refine (B.out _).mono ?_); rintro e w1 ⟨rfl, rfl⟩) | fail)
    have h35 : (((w.alloc (.cells #[.int .u8 r, .int .u8 g, .int .u8 b, .int .u8 255] 23)).alloc (.cells #[.int .u8 35] 5)).alloc (.cells #[.int .u8 r, .int .u8 g, .int .u8 b, .int .u8 255] 5)).ownsRow (w.heap.size + 1) 5 1 (.slice (some ⟨w.heap.size + 1, 0, none⟩) 1 1) 1 (vB [35]) := by
      have := World.ownsRow_lit (base := w.heap.size + 1) (e := 5) (size := 1) (w.alloc (.cells #[.int .u8 r, .int .u8 g, .int .u8 b, .int .u8 255] 23)) #[.int .u8 35] 1 (by simp) (by unfold maxLen; omega) rfl
      have h2 : ((w.alloc (.cells #[.int .u8 r, .int .u8 g, .int .u8 b, .int .u8 255] 23)).alloc (.cells #[.int .u8 35] 5)).ownsRow (w.heap.size + 1) 5 1 (.slice (some ⟨w.heap.size + 1, 0, none⟩) 1 1) 1 (vB [35]) := by simpa [vB] using this
      exact h2.alloc _
    have hbl : (((w.alloc (.cells #[.int .u8 r, .int .u8 g, .int .u8 b, .int .u8 255] 23)).alloc (.cells #[.int .u8 35] 5)).alloc (.cells #[.int .u8 r, .int .u8 g, .int .u8 b, .int .u8 255] 5)).heap[w.heap.size + 1 + 1]? = some (.cells #[.int .u8 r, .int .u8 g, .int .u8 b, .int .u8 255] 5 (0, 0)) := by
      have := heap_alloc_new ((w.alloc (.cells #[.int .u8 r, .int .u8 g, .int .u8 b, .int .u8 255] 23)).alloc (.cells #[.int .u8 35] 5)) (.cells #[.int .u8 r, .int .u8 g, .int .u8 b, .int .u8 255] 5)
      simpa using this
    have hbv : Below w.heap.size w (((w.alloc (.cells #[.int .u8 r, .int .u8 g, .int .u8 b, .int .u8 255] 23)).alloc (.cells #[.int .u8 35] 5)).alloc (.cells #[.int .u8 r, .int .u8 g, .int .u8 b, .int .u8 255] 5)) := (((Below.refl _ _).alloc (Nat.le_refl _) _).alloc (by simp) _).alloc (by simp; omega) _
    have hsz : w.heap.size + 1 + 1 < (((w.alloc (.cells #[.int .u8 r, .int .u8 g, .int .u8 b, .int .u8 255] 23)).alloc (.cells #[.int .u8 35] 5)).alloc (.cells #[.int .u8 r, .int .u8 g, .int .u8 b, .int .u8 255] 5)).heap.size := by simp
    obtain ⟨wv, hwv⟩ : ∃ wv, ((w.alloc (.cells #[.int .u8 r, .int .u8 g, .int .u8 b, .int .u8 255] 23)).alloc (.cells #[.int .u8 35] 5)).alloc (.cells #[.int .u8 r, .int .u8 g, .int .u8 b, .int .u8 255] 5) = wv := ⟨_, rfl⟩
    rw [hwv] at h35 hbl hbv hsz ⊢
    clear hwv
    replace h35 := Lib.hid h35
    replace hbl := Lib.hid hbl
    replace hbv := Lib.hid hbv
    go_loopw [3, 58] (fun vb i wr => ∃ k : Nat, k ≤ 3 ∧ i = .int .i64 k ∧ Hid (wr.ownsRow (w.heap.size + 1) 5 1 vb (1 + 2 * k) (vB (x.bs k)) ∧ (∀ g, vb.ownBlock = some g → g ≠ w.heap.size + 1 + 1) ∧ wr.heap[w.heap.size + 1 + 1]? = some (.cells #[.int .u8 r, .int .u8 g, .int .u8 b, .int .u8 255] 5 (0, 0)) ∧ Below w.heap.size w wr ∧ w.heap.size + 1 + 1 < wr.heap.size)) (fun _ i _ => 3 - (intOf i).toNat)
    case atStart => exact ⟨0, Nat.zero_le _, rfl, Lib.hid ⟨h35.out, (fun g hg => by simp [Value.ownBlock] at hg; omega), hbl.out, hbv.out, hsz⟩⟩
    case round =>
      obtain ⟨k, hk, rfl, hh⟩ := hrel
      obtain ⟨hown, hne, hblk, hbr, hlt⟩ := hh.out
      clear hh h35 hbl hbv hsz
      by_cases hkn : k < 3
      · obtain ⟨v, hv, n10, n20, hve⟩ : ∃ v : Int, wr.cell? ⟨w.heap.size + 1 + 1, k, none⟩ = some (.int .u8 v) ∧ x.n1 k < 16 ∧ x.n2 k < 16 ∧ v = 16 * (x.n1 k : Int) + x.n2 k := by
          have hc : ∀ j u, (#[.int .u8 r, .int .u8 g, .int .u8 b, .int .u8 255] : Array Value)[j]? = some u → wr.cell? ⟨w.heap.size + 1 + 1, j, none⟩ = some u := fun j u hj => by simp only [World.cell?, hblk]; simpa using hj
          rcases (by omega : k = 0 ∨ k = 1 ∨ k = 2 ∨ k = 3) with rfl | rfl | rfl | rfl
          · exact ⟨r, hc 0 _ rfl, hr1, hr2, er.out⟩
          · exact ⟨g, hc 1 _ rfl, hg1, hg2, eg.out⟩
          · exact ⟨b, hc 2 _ rfl, hb1, hb2, eb.out⟩
          · first | omega | exact ⟨255, hc 3 _ rfl, ha1, ha2, ea.out⟩
        have hkk : (k : Int) < 3 := by omega
        have hsn := bs_snoc x k
        have D0 := fun w => dig_ix (x.n1 k) n10 w
        have D1 := fun w => dig_ix (x.n2 k) n20 w
        have q1 : bits .and .u8 v 15 = (x.n2 k : Int) := by rw [hve]; exact and15b _ _ n10 n20
        have q0 : v / 16 = (x.n1 k : Int) := by omega
        have v0 : 0 ≤ v := by omega
        have v1 : v ≤ 255 := by omega
        replace hsn := Lib.hid hsn
        obtain ⟨s5, c5, rfl⟩ := own_slice hown
        generalize dig (x.n1 k) = d0 at *
        generalize dig (x.n2 k) = d1 at *
        clear hve
        replace hown := Lib.hid hown
        replace hblk := Lib.hid hblk
        replace hne := Lib.hid hne
        go_wp2_with fail
        refine held_begin (fun w' => True) (by kernel_rfl) trivial (fun hS => ?_)
        (first | (refine' held_do (i := 0) _ (by kernel_rfl) (by kernel_rfl) (by kernel_rfl) _ _ hS _ _; rotate_left 2; (focus (simp only [List.getElem?_toArray, List.getElem?_cons_succ, List.getElem?_cons_zero]; rfl)); (focus exact fun _ _ _ h => h); (focus rfl); (focus (intro w1 hSS R hR; have hc := hSS; (try simp only [Held, Cells] at hc); go_simp; (try go_bits); exact hR)); simp only [Act.put, List.setIfInBounds_toArray, List.set_cons_zero, List.set_cons_succ]) | (refine' held_pass (i := 0) _ (by kernel_rfl) (by kernel_rfl) (by kernel_rfl) _ _ hS _; rotate_left; (focus (simp only [List.getElem?_toArray, List.getElem?_cons_succ, List.getElem?_cons_zero]; rfl)); (focus exact fun _ _ _ h => h); (focus rfl); simp only [Act.put, List.setIfInBounds_toArray, List.set_cons_zero, List.set_cons_succ]))
        (first | (refine' held_do (i := 1) _ (by kernel_rfl) (by kernel_rfl) (by kernel_rfl) _ _ hS _ _; rotate_left 2; (focus (simp only [List.getElem?_toArray, List.getElem?_cons_succ, List.getElem?_cons_zero]; rfl)); (focus exact fun _ _ _ h => h); (focus rfl); (focus (intro w1 hSS R hR; have hc := hSS; (try simp only [Held, Cells] at hc); go_simp; (try go_bits); exact hR)); simp only [Act.put, List.setIfInBounds_toArray, List.set_cons_zero, List.set_cons_succ]) | (refine' held_pass (i := 1) _ (by kernel_rfl) (by kernel_rfl) (by kernel_rfl) _ _ hS _; rotate_left; (focus (simp only [List.getElem?_toArray, List.getElem?_cons_succ, List.getElem?_cons_zero]; rfl)); (focus exact fun _ _ _ h => h); (focus rfl); simp only [Act.put, List.setIfInBounds_toArray, List.set_cons_zero, List.set_cons_succ]))
        (first | (refine' held_do (i := 2) _ (by kernel_rfl) (by kernel_rfl) (by kernel_rfl) _ _ hS _ _; rotate_left 2; (focus (simp only [List.getElem?_toArray, List.getElem?_cons_succ, List.getElem?_cons_zero]; rfl)); (focus exact fun _ _ _ h => h); (focus rfl); (focus (intro w1 hSS R hR; have hc := hSS; (try simp only [Held, Cells] at hc); go_simp; (try go_bits); exact hR)); simp only [Act.put, List.setIfInBounds_toArray, List.set_cons_zero, List.set_cons_succ]) | (refine' held_pass (i := 2) _ (by kernel_rfl) (by kernel_rfl) (by kernel_rfl) _ _ hS _; rotate_left; (focus (simp only [List.getElem?_toArray, List.getElem?_cons_succ, List.getElem?_cons_zero]; rfl)); (focus exact fun _ _ _ h => h); (focus rfl); simp only [Act.put, List.setIfInBounds_toArray, List.set_cons_zero, List.set_cons_succ]))
        (first | (refine' held_do (i := 3) _ (by kernel_rfl) (by kernel_rfl) (by kernel_rfl) _ _ hS _ _; rotate_left 2; (focus (simp only [List.getElem?_toArray, List.getElem?_cons_succ, List.getElem?_cons_zero]; rfl)); (focus exact fun _ _ _ h => h); (focus rfl); (focus (intro w1 hSS R hR; have hc := hSS; (try simp only [Held, Cells] at hc); go_simp; (try go_bits); exact hR)); simp only [Act.put, List.setIfInBounds_toArray, List.set_cons_zero, List.set_cons_succ]) | (refine' held_pass (i := 3) _ (by kernel_rfl) (by kernel_rfl) (by kernel_rfl) _ _ hS _; rotate_left; (focus (simp only [List.getElem?_toArray, List.getElem?_cons_succ, List.getElem?_cons_zero]; rfl)); (focus exact fun _ _ _ h => h); (focus rfl); simp only [Act.put, List.setIfInBounds_toArray, List.set_cons_zero, List.set_cons_succ]))
        (first | (refine' held_do (i := 4) _ (by kernel_rfl) (by kernel_rfl) (by kernel_rfl) _ _ hS _ _; rotate_left 2; (focus (simp only [List.getElem?_toArray, List.getElem?_cons_succ, List.getElem?_cons_zero]; rfl)); (focus exact fun _ _ _ h => h); (focus rfl); (focus (intro w1 hSS R hR; have hc := hSS; (try simp only [Held, Cells] at hc); go_simp; (try go_bits); exact hR)); simp only [Act.put, List.setIfInBounds_toArray, List.set_cons_zero, List.set_cons_succ]) | (refine' held_pass (i := 4) _ (by kernel_rfl) (by kernel_rfl) (by kernel_rfl) _ _ hS _; rotate_left; (focus (simp only [List.getElem?_toArray, List.getElem?_cons_succ, List.getElem?_cons_zero]; rfl)); (focus exact fun _ _ _ h => h); (focus rfl); simp only [Act.put, List.setIfInBounds_toArray, List.set_cons_zero, List.set_cons_succ]))
        (first | (refine' held_do (i := 5) _ (by kernel_rfl) (by kernel_rfl) (by kernel_rfl) _ _ hS _ _; rotate_left 2; (focus (simp only [List.getElem?_toArray, List.getElem?_cons_succ, List.getElem?_cons_zero]; rfl)); (focus exact fun _ _ _ h => h); (focus rfl); (focus (intro w1 hSS R hR; have hc := hSS; (try simp only [Held, Cells] at hc); go_simp; (try go_bits); exact hR)); simp only [Act.put, List.setIfInBounds_toArray, List.set_cons_zero, List.set_cons_succ]) | (refine' held_pass (i := 5) _ (by kernel_rfl) (by kernel_rfl) (by kernel_rfl) _ _ hS _; rotate_left; (focus (simp only [List.getElem?_toArray, List.getElem?_cons_succ, List.getElem?_cons_zero]; rfl)); (focus exact fun _ _ _ h => h); (focus rfl); simp only [Act.put, List.setIfInBounds_toArray, List.set_cons_zero, List.set_cons_succ]))
        (first | (refine' held_do (i := 6) _ (by kernel_rfl) (by kernel_rfl) (by kernel_rfl) _ _ hS _ _; rotate_left 2; (focus (simp only [List.getElem?_toArray, List.getElem?_cons_succ, List.getElem?_cons_zero]; rfl)); (focus exact fun _ _ _ h => h); (focus rfl); (focus (intro w1 hSS R hR; have hc := hSS; (try simp only [Held, Cells] at hc); go_simp; (try go_bits); exact hR)); simp only [Act.put, List.setIfInBounds_toArray, List.set_cons_zero, List.set_cons_succ]) | (refine' held_pass (i := 6) _ (by kernel_rfl) (by kernel_rfl) (by kernel_rfl) _ _ hS _; rotate_left; (focus (simp only [List.getElem?_toArray, List.getElem?_cons_succ, List.getElem?_cons_zero]; rfl)); (focus exact fun _ _ _ h => h); (focus rfl); simp only [Act.put, List.setIfInBounds_toArray, List.set_cons_zero, List.set_cons_succ]))
        (refine' held_one (i := 7) _ (by kernel_rfl) _ _; rotate_left; (focus (simp only [List.getElem?_toArray, List.getElem?_cons_succ, List.getElem?_cons_zero]; rfl)); (focus rfl); intro K hK; go_simp)
        refine hK _ _ trivial ?_
        clear hK
        (try simp only [Act.put, List.setIfInBounds_toArray, List.set_cons_zero, List.set_cons_succ])
        rw [show (wr.alloc (.cells #[.int .u8 d0, .int .u8 d1] 5)).drew = wr.drew.alloc (.cells [.int .u8 d0, .int .u8 d1].toArray 5) from rfl]
        (refine' held_one (i := 8) _ (by kernel_rfl) _ _; rotate_left; (focus (simp only [List.getElem?_toArray, List.getElem?_cons_succ, List.getElem?_cons_zero]; rfl)); (focus rfl); intro K hK)
        (refine wp_append_two _ _ _ rfl (w.heap.size + 1) 5 iB _ 1 1 Tryd.underlying53 hi0 hz0 hz1 hz2 rfl (by omega) wr.drew 2 _ _ _ _ (by rfl) hown.out.drew (by rfl) rfl (by simp [Value.oneCell']) (by omega) (by unfold maxLen; omega) (by simp; omega) ?_; intro v4 w4 hown4 hgr4 hat4 hb4)
        refine hK _ _ trivial ?_
        clear hK
        (try simp only [Act.put, List.setIfInBounds_toArray, List.set_cons_zero, List.set_cons_succ])
        (refine' held_one (i := 9) _ (by kernel_rfl) _ _; rotate_left; (focus (simp only [List.getElem?_toArray, List.getElem?_cons_succ, List.getElem?_cons_zero]; rfl)); (focus rfl); intro K hK; go_simp)
        refine hK _ _ trivial ?_
        clear hK
        (try simp only [Act.put, List.setIfInBounds_toArray, List.set_cons_zero, List.set_cons_succ])
        refine wpAnyH_done (by kernel_rfl) ?_ _
        have hblk4 : w4.heap[w.heap.size + 1 + 1]? = some (.cells #[.int .u8 r, .int .u8 g, .int .u8 b, .int .u8 255] 5 (0, 0)) := (hgr4.block _ (by simpa using hlt) (fun e => hne.out _ e.symm rfl)).trans hblk.out
        have hne4 : ∀ g, v4.ownBlock = some g → g ≠ w.heap.size + 1 + 1 := fun g hg => by
          rcases hat4 g hg with h3 | h3
          · exact hne.out g h3
          · simp at h3; omega
        have hb04 : Below w.heap.size w w4 := hbr.drew.trans (hb4.mono (by omega))
        have hlt4 : w.heap.size + 1 + 1 < w4.heap.size := Nat.lt_of_lt_of_le hlt (by have := hgr4.size; simpa using this)
        rw [hsn.out, show 1 + 2 * k + 2 = 1 + 2 * (k + 1) by omega] at hown4
        replace hown4 := Lib.hid hown4
        clear hblk hne hown hgr4 hat4 hb4
        replace hblk4 := Lib.hid hblk4
        replace hne4 := Lib.hid hne4
        go_wp2
        go_roundw
        case rel => exact ⟨k + 1, by omega, by go_num, Lib.hid ⟨hown4.out, hne4.out, hblk4.out, hb04, hlt4⟩⟩
        case measure => simp [intOf]; omega
      · obtain rfl : k = 3 := by omega
        obtain ⟨g4, cap4, e4, hcv4⟩ := own_text hown (by omega)
        subst e4
        clear hown hne hblk
        go_wp2
        go_ret
        exact ⟨rfl, hbr⟩
  · rw [c1] at R
    rw [c2] at G
    clear c1 c2 B
    (try replace R := Lib.hid R)
    (try replace G := Lib.hid G)
    (try replace B := Lib.hid B)
    go_enter Tryd.func11, Tryd.ntmps11
    go_wp2_with (first | (go_at_call 29; (with_reducible refine (R.out _).mono ?_); rintro e w1 ⟨rfl, rfl⟩) | (go_at_call 29; (with_reducible refine (G.out _).mono ?_); rintro e w1 ⟨rfl, rfl⟩) | (go_at_call 29; (with_reducible refine (B.out _).mono ?_); rintro e w1 ⟨rfl, rfl⟩) | fail)
    have h35 : (((w.alloc (.cells #[.int .u8 r, .int .u8 g, .int .u8 b, .int .u8 255] 23)).alloc (.cells #[.int .u8 35] 5)).alloc (.cells #[.int .u8 r, .int .u8 g, .int .u8 b, .int .u8 255] 5)).ownsRow (w.heap.size + 1) 5 1 (.slice (some ⟨w.heap.size + 1, 0, none⟩) 1 1) 1 (vB [35]) := by
      have := World.ownsRow_lit (base := w.heap.size + 1) (e := 5) (size := 1) (w.alloc (.cells #[.int .u8 r, .int .u8 g, .int .u8 b, .int .u8 255] 23)) #[.int .u8 35] 1 (by simp) (by unfold maxLen; omega) rfl
      have h2 : ((w.alloc (.cells #[.int .u8 r, .int .u8 g, .int .u8 b, .int .u8 255] 23)).alloc (.cells #[.int .u8 35] 5)).ownsRow (w.heap.size + 1) 5 1 (.slice (some ⟨w.heap.size + 1, 0, none⟩) 1 1) 1 (vB [35]) := by simpa [vB] using this
      exact h2.alloc _
    have hbl : (((w.alloc (.cells #[.int .u8 r, .int .u8 g, .int .u8 b, .int .u8 255] 23)).alloc (.cells #[.int .u8 35] 5)).alloc (.cells #[.int .u8 r, .int .u8 g, .int .u8 b, .int .u8 255] 5)).heap[w.heap.size + 1 + 1]? = some (.cells #[.int .u8 r, .int .u8 g, .int .u8 b, .int .u8 255] 5 (0, 0)) := by
      have := heap_alloc_new ((w.alloc (.cells #[.int .u8 r, .int .u8 g, .int .u8 b, .int .u8 255] 23)).alloc (.cells #[.int .u8 35] 5)) (.cells #[.int .u8 r, .int .u8 g, .int .u8 b, .int .u8 255] 5)
      simpa using this
    have hbv : Below w.heap.size w (((w.alloc (.cells #[.int .u8 r, .int .u8 g, .int .u8 b, .int .u8 255] 23)).alloc (.cells #[.int .u8 35] 5)).alloc (.cells #[.int .u8 r, .int .u8 g, .int .u8 b, .int .u8 255] 5)) := (((Below.refl _ _).alloc (Nat.le_refl _) _).alloc (by simp) _).alloc (by simp; omega) _
    have hsz : w.heap.size + 1 + 1 < (((w.alloc (.cells #[.int .u8 r, .int .u8 g, .int .u8 b, .int .u8 255] 23)).alloc (.cells #[.int .u8 35] 5)).alloc (.cells #[.int .u8 r, .int .u8 g, .int .u8 b, .int .u8 255] 5)).heap.size := by simp
    obtain ⟨wv, hwv⟩ : ∃ wv, ((w.alloc (.cells #[.int .u8 r, .int .u8 g, .int .u8 b, .int .u8 255] 23)).alloc (.cells #[.int .u8 35] 5)).alloc (.cells #[.int .u8 r, .int .u8 g, .int .u8 b, .int .u8 255] 5) = wv := ⟨_, rfl⟩
    rw [hwv] at h35 hbl hbv hsz ⊢
    clear hwv
    replace h35 := Lib.hid h35
    replace hbl := Lib.hid hbl
    replace hbv := Lib.hid hbv
    go_loopw [3, 58] (fun vb i wr => ∃ k : Nat, k ≤ 3 ∧ i = .int .i64 k ∧ Hid (wr.ownsRow (w.heap.size + 1) 5 1 vb (1 + 2 * k) (vB (x.bs k)) ∧ (∀ g, vb.ownBlock = some g → g ≠ w.heap.size + 1 + 1) ∧ wr.heap[w.heap.size + 1 + 1]? = some (.cells #[.int .u8 r, .int .u8 g, .int .u8 b, .int .u8 255] 5 (0, 0)) ∧ Below w.heap.size w wr ∧ w.heap.size + 1 + 1 < wr.heap.size)) (fun _ i _ => 3 - (intOf i).toNat)
    case atStart => exact ⟨0, Nat.zero_le _, rfl, Lib.hid ⟨h35.out, (fun g hg => by simp [Value.ownBlock] at hg; omega), hbl.out, hbv.out, hsz⟩⟩
    case round =>
      obtain ⟨k, hk, rfl, hh⟩ := hrel
      obtain ⟨hown, hne, hblk, hbr, hlt⟩ := hh.out
      clear hh h35 hbl hbv hsz
      by_cases hkn : k < 3
      · obtain ⟨v, hv, n10, n20, hve⟩ : ∃ v : Int, wr.cell? ⟨w.heap.size + 1 + 1, k, none⟩ = some (.int .u8 v) ∧ x.n1 k < 16 ∧ x.n2 k < 16 ∧ v = 16 * (x.n1 k : Int) + x.n2 k := by
          have hc : ∀ j u, (#[.int .u8 r, .int .u8 g, .int .u8 b, .int .u8 255] : Array Value)[j]? = some u → wr.cell? ⟨w.heap.size + 1 + 1, j, none⟩ = some u := fun j u hj => by simp only [World.cell?, hblk]; simpa using hj
          rcases (by omega : k = 0 ∨ k = 1 ∨ k = 2 ∨ k = 3) with rfl | rfl | rfl | rfl
          · exact ⟨r, hc 0 _ rfl, hr1, hr2, er.out⟩
          · exact ⟨g, hc 1 _ rfl, hg1, hg2, eg.out⟩
          · exact ⟨b, hc 2 _ rfl, hb1, hb2, eb.out⟩
          · first | omega | exact ⟨255, hc 3 _ rfl, ha1, ha2, ea.out⟩
        have hkk : (k : Int) < 3 := by omega
        have hsn := bs_snoc x k
        have D0 := fun w => dig_ix (x.n1 k) n10 w
        have D1 := fun w => dig_ix (x.n2 k) n20 w
        have q1 : bits .and .u8 v 15 = (x.n2 k : Int) := by rw [hve]; exact and15b _ _ n10 n20
        have q0 : v / 16 = (x.n1 k : Int) := by omega
        have v0 : 0 ≤ v := by omega
        have v1 : v ≤ 255 := by omega
        replace hsn := Lib.hid hsn
        obtain ⟨s5, c5, rfl⟩ := own_slice hown
        generalize dig (x.n1 k) = d0 at *
        generalize dig (x.n2 k) = d1 at *
        clear hve
        replace hown := Lib.hid hown
        replace hblk := Lib.hid hblk
        replace hne := Lib.hid hne
        go_wp2_with fail
        refine held_begin (fun w' => True) (by kernel_rfl) trivial (fun hS => ?_)
        (first | (refine' held_do (i := 0) _ (by kernel_rfl) (by kernel_rfl) (by kernel_rfl) _ _ hS _ _; rotate_left 2; (focus (simp only [List.getElem?_toArray, List.getElem?_cons_succ, List.getElem?_cons_zero]; rfl)); (focus exact fun _ _ _ h => h); (focus rfl); (focus (intro w1 hSS R hR; have hc := hSS; (try simp only [Held, Cells] at hc); go_simp; (try go_bits); exact hR)); simp only [Act.put, List.setIfInBounds_toArray, List.set_cons_zero, List.set_cons_succ]) | (refine' held_pass (i := 0) _ (by kernel_rfl) (by kernel_rfl) (by kernel_rfl) _ _ hS _; rotate_left; (focus (simp only [List.getElem?_toArray, List.getElem?_cons_succ, List.getElem?_cons_zero]; rfl)); (focus exact fun _ _ _ h => h); (focus rfl); simp only [Act.put, List.setIfInBounds_toArray, List.set_cons_zero, List.set_cons_succ]))
        (first | (refine' held_do (i := 1) _ (by kernel_rfl) (by kernel_rfl) (by kernel_rfl) _ _ hS _ _; rotate_left 2; (focus (simp only [List.getElem?_toArray, List.getElem?_cons_succ, List.getElem?_cons_zero]; rfl)); (focus exact fun _ _ _ h => h); (focus rfl); (focus (intro w1 hSS R hR; have hc := hSS; (try simp only [Held, Cells] at hc); go_simp; (try go_bits); exact hR)); simp only [Act.put, List.setIfInBounds_toArray, List.set_cons_zero, List.set_cons_succ]) | (refine' held_pass (i := 1) _ (by kernel_rfl) (by kernel_rfl) (by kernel_rfl) _ _ hS _; rotate_left; (focus (simp only [List.getElem?_toArray, List.getElem?_cons_succ, List.getElem?_cons_zero]; rfl)); (focus exact fun _ _ _ h => h); (focus rfl); simp only [Act.put, List.setIfInBounds_toArray, List.set_cons_zero, List.set_cons_succ]))
        (first | (refine' held_do (i := 2) _ (by kernel_rfl) (by kernel_rfl) (by kernel_rfl) _ _ hS _ _; rotate_left 2; (focus (simp only [List.getElem?_toArray, List.getElem?_cons_succ, List.getElem?_cons_zero]; rfl)); (focus exact fun _ _ _ h => h); (focus rfl); (focus (intro w1 hSS R hR; have hc := hSS; (try simp only [Held, Cells] at hc); go_simp; (try go_bits); exact hR)); simp only [Act.put, List.setIfInBounds_toArray, List.set_cons_zero, List.set_cons_succ]) | (refine' held_pass (i := 2) _ (by kernel_rfl) (by kernel_rfl) (by kernel_rfl) _ _ hS _; rotate_left; (focus (simp only [List.getElem?_toArray, List.getElem?_cons_succ, List.getElem?_cons_zero]; rfl)); (focus exact fun _ _ _ h => h); (focus rfl); simp only [Act.put, List.setIfInBounds_toArray, List.set_cons_zero, List.set_cons_succ]))
        (first | (refine' held_do (i := 3) _ (by kernel_rfl) (by kernel_rfl) (by kernel_rfl) _ _ hS _ _; rotate_left 2; (focus (simp only [List.getElem?_toArray, List.getElem?_cons_succ, List.getElem?_cons_zero]; rfl)); (focus exact fun _ _ _ h => h); (focus rfl); (focus (intro w1 hSS R hR; have hc := hSS; (try simp only [Held, Cells] at hc); go_simp; (try go_bits); exact hR)); simp only [Act.put, List.setIfInBounds_toArray, List.set_cons_zero, List.set_cons_succ]) | (refine' held_pass (i := 3) _ (by kernel_rfl) (by kernel_rfl) (by kernel_rfl) _ _ hS _; rotate_left; (focus (simp only [List.getElem?_toArray, List.getElem?_cons_succ, List.getElem?_cons_zero]; rfl)); (focus exact fun _ _ _ h => h); (focus rfl); simp only [Act.put, List.setIfInBounds_toArray, List.set_cons_zero, List.set_cons_succ]))
        (first | (refine' held_do (i := 4) _ (by kernel_rfl) (by kernel_rfl) (by kernel_rfl) _ _ hS _ _; rotate_left 2; (focus (simp only [List.getElem?_toArray, List.getElem?_cons_succ, List.getElem?_cons_zero]; rfl)); (focus exact fun _ _ _ h => h); (focus rfl); (focus (intro w1 hSS R hR; have hc := hSS; (try simp only [Held, Cells] at hc); go_simp; (try go_bits); exact hR)); simp only [Act.put, List.setIfInBounds_toArray, List.set_cons_zero, List.set_cons_succ]) | (refine' held_pass (i := 4) _ (by kernel_rfl) (by kernel_rfl) (by kernel_rfl) _ _ hS _; rotate_left; (focus (simp only [List.getElem?_toArray, List.getElem?_cons_succ, List.getElem?_cons_zero]; rfl)); (focus exact fun _ _ _ h => h); (focus rfl); simp only [Act.put, List.setIfInBounds_toArray, List.set_cons_zero, List.set_cons_succ]))
        (first | (refine' held_do (i := 5) _ (by kernel_rfl) (by kernel_rfl) (by kernel_rfl) _ _ hS _ _; rotate_left 2; (focus (simp only [List.getElem?_toArray, List.getElem?_cons_succ, List.getElem?_cons_zero]; rfl)); (focus exact fun _ _ _ h => h); (focus rfl); (focus (intro w1 hSS R hR; have hc := hSS; (try simp only [Held, Cells] at hc); go_simp; (try go_bits); exact hR)); simp only [Act.put, List.setIfInBounds_toArray, List.set_cons_zero, List.set_cons_succ]) | (refine' held_pass (i := 5) _ (by kernel_rfl) (by kernel_rfl) (by kernel_rfl) _ _ hS _; rotate_left; (focus (simp only [List.getElem?_toArray, List.getElem?_cons_succ, List.getElem?_cons_zero]; rfl)); (focus exact fun _ _ _ h => h); (focus rfl); simp only [Act.put, List.setIfInBounds_toArray, List.set_cons_zero, List.set_cons_succ]))
        (first | (refine' held_do (i := 6) _ (by kernel_rfl) (by kernel_rfl) (by kernel_rfl) _ _ hS _ _; rotate_left 2; (focus (simp only [List.getElem?_toArray, List.getElem?_cons_succ, List.getElem?_cons_zero]; rfl)); (focus exact fun _ _ _ h => h); (focus rfl); (focus (intro w1 hSS R hR; have hc := hSS; (try simp only [Held, Cells] at hc); go_simp; (try go_bits); exact hR)); simp only [Act.put, List.setIfInBounds_toArray, List.set_cons_zero, List.set_cons_succ]) | (refine' held_pass (i := 6) _ (by kernel_rfl) (by kernel_rfl) (by kernel_rfl) _ _ hS _; rotate_left; (focus (simp only [List.getElem?_toArray, List.getElem?_cons_succ, List.getElem?_cons_zero]; rfl)); (focus exact fun _ _ _ h => h); (focus rfl); simp only [Act.put, List.setIfInBounds_toArray, List.set_cons_zero, List.set_cons_succ]))
        (refine' held_one (i := 7) _ (by kernel_rfl) _ _; rotate_left; (focus (simp only [List.getElem?_toArray, List.getElem?_cons_succ, List.getElem?_cons_zero]; rfl)); (focus rfl); intro K hK; go_simp)
        refine hK _ _ trivial ?_
        clear hK
        (try simp only [Act.put, List.setIfInBounds_toArray, List.set_cons_zero, List.set_cons_succ])
        rw [show (wr.alloc (.cells #[.int .u8 d0, .int .u8 d1] 5)).drew = wr.drew.alloc (.cells [.int .u8 d0, .int .u8 d1].toArray 5) from rfl]
        (refine' held_one (i := 8) _ (by kernel_rfl) _ _; rotate_left; (focus (simp only [List.getElem?_toArray, List.getElem?_cons_succ, List.getElem?_cons_zero]; rfl)); (focus rfl); intro K hK)
        (refine wp_append_two _ _ _ rfl (w.heap.size + 1) 5 iB _ 1 1 Tryd.underlying53 hi0 hz0 hz1 hz2 rfl (by omega) wr.drew 2 _ _ _ _ (by rfl) hown.out.drew (by rfl) rfl (by simp [Value.oneCell']) (by omega) (by unfold maxLen; omega) (by simp; omega) ?_; intro v4 w4 hown4 hgr4 hat4 hb4)
        refine hK _ _ trivial ?_
        clear hK
        (try simp only [Act.put, List.setIfInBounds_toArray, List.set_cons_zero, List.set_cons_succ])
        (refine' held_one (i := 9) _ (by kernel_rfl) _ _; rotate_left; (focus (simp only [List.getElem?_toArray, List.getElem?_cons_succ, List.getElem?_cons_zero]; rfl)); (focus rfl); intro K hK; go_simp)
        refine hK _ _ trivial ?_
        clear hK
        (try simp only [Act.put, List.setIfInBounds_toArray, List.set_cons_zero, List.set_cons_succ])
        refine wpAnyH_done (by kernel_rfl) ?_ _
        have hblk4 : w4.heap[w.heap.size + 1 + 1]? = some (.cells #[.int .u8 r, .int .u8 g, .int .u8 b, .int .u8 255] 5 (0, 0)) := (hgr4.block _ (by simpa using hlt) (fun e => hne.out _ e.symm rfl)).trans hblk.out
        have hne4 : ∀ g, v4.ownBlock = some g → g ≠ w.heap.size + 1 + 1 := fun g hg => by
          rcases hat4 g hg with h3 | h3
          · exact hne.out g h3
          · simp at h3; omega
        have hb04 : Below w.heap.size w w4 := hbr.drew.trans (hb4.mono (by omega))
        have hlt4 : w.heap.size + 1 + 1 < w4.heap.size := Nat.lt_of_lt_of_le hlt (by have := hgr4.size; simpa using this)
        rw [hsn.out, show 1 + 2 * k + 2 = 1 + 2 * (k + 1) by omega] at hown4
        replace hown4 := Lib.hid hown4
        clear hblk hne hown hgr4 hat4 hb4
        replace hblk4 := Lib.hid hblk4
        replace hne4 := Lib.hid hne4
        go_wp2
        go_roundw
        case rel => exact ⟨k + 1, by omega, by go_num, Lib.hid ⟨hown4.out, hne4.out, hblk4.out, hb04, hlt4⟩⟩
        case measure => simp [intOf]; omega
      · obtain rfl : k = 3 := by omega
        obtain ⟨g4, cap4, e4, hcv4⟩ := own_text hown (by omega)
        subst e4
        clear hown hne hblk
        go_wp2
        go_ret
        exact ⟨rfl, hbr⟩
  · rw [c1] at R
    rw [c2] at G
    rw [c3] at B
    clear c1 c2 c3
    (try replace R := Lib.hid R)
    (try replace G := Lib.hid G)
    (try replace B := Lib.hid B)
    go_enter Tryd.func11, Tryd.ntmps11
    go_wp2_with (first | (go_at_call 29; (with_reducible refine (R.out _).mono ?_); rintro e w1 ⟨rfl, rfl⟩) | (go_at_call 29; (with_reducible refine (G.out _).mono ?_); rintro e w1 ⟨rfl, rfl⟩) | (go_at_call 29; (with_reducible refine (B.out _).mono ?_); rintro e w1 ⟨rfl, rfl⟩) | fail)
    have h35 : (((w.alloc (.cells #[.int .u8 r, .int .u8 g, .int .u8 b, .int .u8 255] 23)).alloc (.cells #[.int .u8 35] 5)).alloc (.cells #[.int .u8 r, .int .u8 g, .int .u8 b, .int .u8 255] 5)).ownsRow (w.heap.size + 1) 5 1 (.slice (some ⟨w.heap.size + 1, 0, none⟩) 1 1) 1 (vB [35]) := by
      have := World.ownsRow_lit (base := w.heap.size + 1) (e := 5) (size := 1) (w.alloc (.cells #[.int .u8 r, .int .u8 g, .int .u8 b, .int .u8 255] 23)) #[.int .u8 35] 1 (by simp) (by unfold maxLen; omega) rfl
      have h2 : ((w.alloc (.cells #[.int .u8 r, .int .u8 g, .int .u8 b, .int .u8 255] 23)).alloc (.cells #[.int .u8 35] 5)).ownsRow (w.heap.size + 1) 5 1 (.slice (some ⟨w.heap.size + 1, 0, none⟩) 1 1) 1 (vB [35]) := by simpa [vB] using this
      exact h2.alloc _
    have hbl : (((w.alloc (.cells #[.int .u8 r, .int .u8 g, .int .u8 b, .int .u8 255] 23)).alloc (.cells #[.int .u8 35] 5)).alloc (.cells #[.int .u8 r, .int .u8 g, .int .u8 b, .int .u8 255] 5)).heap[w.heap.size + 1 + 1]? = some (.cells #[.int .u8 r, .int .u8 g, .int .u8 b, .int .u8 255] 5 (0, 0)) := by
      have := heap_alloc_new ((w.alloc (.cells #[.int .u8 r, .int .u8 g, .int .u8 b, .int .u8 255] 23)).alloc (.cells #[.int .u8 35] 5)) (.cells #[.int .u8 r, .int .u8 g, .int .u8 b, .int .u8 255] 5)
      simpa using this
    have hbv : Below w.heap.size w (((w.alloc (.cells #[.int .u8 r, .int .u8 g, .int .u8 b, .int .u8 255] 23)).alloc (.cells #[.int .u8 35] 5)).alloc (.cells #[.int .u8 r, .int .u8 g, .int .u8 b, .int .u8 255] 5)) := (((Below.refl _ _).alloc (Nat.le_refl _) _).alloc (by simp) _).alloc (by simp; omega) _
    have hsz : w.heap.size + 1 + 1 < (((w.alloc (.cells #[.int .u8 r, .int .u8 g, .int .u8 b, .int .u8 255] 23)).alloc (.cells #[.int .u8 35] 5)).alloc (.cells #[.int .u8 r, .int .u8 g, .int .u8 b, .int .u8 255] 5)).heap.size := by simp
    obtain ⟨wv, hwv⟩ : ∃ wv, ((w.alloc (.cells #[.int .u8 r, .int .u8 g, .int .u8 b, .int .u8 255] 23)).alloc (.cells #[.int .u8 35] 5)).alloc (.cells #[.int .u8 r, .int .u8 g, .int .u8 b, .int .u8 255] 5) = wv := ⟨_, rfl⟩
    rw [hwv] at h35 hbl hbv hsz ⊢
    clear hwv
    replace h35 := Lib.hid h35
    replace hbl := Lib.hid hbl
    replace hbv := Lib.hid hbv
    go_loopw [3, 58] (fun vb i wr => ∃ k : Nat, k ≤ 3 ∧ i = .int .i64 k ∧ Hid (wr.ownsRow (w.heap.size + 1) 5 1 vb (1 + 2 * k) (vB (x.bs k)) ∧ (∀ g, vb.ownBlock = some g → g ≠ w.heap.size + 1 + 1) ∧ wr.heap[w.heap.size + 1 + 1]? = some (.cells #[.int .u8 r, .int .u8 g, .int .u8 b, .int .u8 255] 5 (0, 0)) ∧ Below w.heap.size w wr ∧ w.heap.size + 1 + 1 < wr.heap.size)) (fun _ i _ => 3 - (intOf i).toNat)
    case atStart => exact ⟨0, Nat.zero_le _, rfl, Lib.hid ⟨h35.out, (fun g hg => by simp [Value.ownBlock] at hg; omega), hbl.out, hbv.out, hsz⟩⟩
    case round =>
      obtain ⟨k, hk, rfl, hh⟩ := hrel
      obtain ⟨hown, hne, hblk, hbr, hlt⟩ := hh.out
      clear hh h35 hbl hbv hsz
      by_cases hkn : k < 3
      · obtain ⟨v, hv, n10, n20, hve⟩ : ∃ v : Int, wr.cell? ⟨w.heap.size + 1 + 1, k, none⟩ = some (.int .u8 v) ∧ x.n1 k < 16 ∧ x.n2 k < 16 ∧ v = 16 * (x.n1 k : Int) + x.n2 k := by
          have hc : ∀ j u, (#[.int .u8 r, .int .u8 g, .int .u8 b, .int .u8 255] : Array Value)[j]? = some u → wr.cell? ⟨w.heap.size + 1 + 1, j, none⟩ = some u := fun j u hj => by simp only [World.cell?, hblk]; simpa using hj
          rcases (by omega : k = 0 ∨ k = 1 ∨ k = 2 ∨ k = 3) with rfl | rfl | rfl | rfl
          · exact ⟨r, hc 0 _ rfl, hr1, hr2, er.out⟩
          · exact ⟨g, hc 1 _ rfl, hg1, hg2, eg.out⟩
          · exact ⟨b, hc 2 _ rfl, hb1, hb2, eb.out⟩
          · first | omega | exact ⟨255, hc 3 _ rfl, ha1, ha2, ea.out⟩
        have hkk : (k : Int) < 3 := by omega
        have hsn := bs_snoc x k
        have D0 := fun w => dig_ix (x.n1 k) n10 w
        have D1 := fun w => dig_ix (x.n2 k) n20 w
        have q1 : bits .and .u8 v 15 = (x.n2 k : Int) := by rw [hve]; exact and15b _ _ n10 n20
        have q0 : v / 16 = (x.n1 k : Int) := by omega
        have v0 : 0 ≤ v := by omega
        have v1 : v ≤ 255 := by omega
        replace hsn := Lib.hid hsn
        obtain ⟨s5, c5, rfl⟩ := own_slice hown
        generalize dig (x.n1 k) = d0 at *
        generalize dig (x.n2 k) = d1 at *
        clear hve
        replace hown := Lib.hid hown
        replace hblk := Lib.hid hblk
        replace hne := Lib.hid hne
        go_wp2_with fail
        refine held_begin (fun w' => True) (by kernel_rfl) trivial (fun hS => ?_)
        (first | (refine' held_do (i := 0) _ (by kernel_rfl) (by kernel_rfl) (by kernel_rfl) _ _ hS _ _; rotate_left 2; (focus (simp only [List.getElem?_toArray, List.getElem?_cons_succ, List.getElem?_cons_zero]; rfl)); (focus exact fun _ _ _ h => h); (focus rfl); (focus (intro w1 hSS R hR; have hc := hSS; (try simp only [Held, Cells] at hc); go_simp; (try go_bits); exact hR)); simp only [Act.put, List.setIfInBounds_toArray, List.set_cons_zero, List.set_cons_succ]) | (refine' held_pass (i := 0) _ (by kernel_rfl) (by kernel_rfl) (by kernel_rfl) _ _ hS _; rotate_left; (focus (simp only [List.getElem?_toArray, List.getElem?_cons_succ, List.getElem?_cons_zero]; rfl)); (focus exact fun _ _ _ h => h); (focus rfl); simp only [Act.put, List.setIfInBounds_toArray, List.set_cons_zero, List.set_cons_succ]))
        (first | (refine' held_do (i := 1) _ (by kernel_rfl) (by kernel_rfl) (by kernel_rfl) _ _ hS _ _; rotate_left 2; (focus (simp only [List.getElem?_toArray, List.getElem?_cons_succ, List.getElem?_cons_zero]; rfl)); (focus exact fun _ _ _ h => h); (focus rfl); (focus (intro w1 hSS R hR; have hc := hSS; (try simp only [Held, Cells] at hc); go_simp; (try go_bits); exact hR)); simp only [Act.put, List.setIfInBounds_toArray, List.set_cons_zero, List.set_cons_succ]) | (refine' held_pass (i := 1) _ (by kernel_rfl) (by kernel_rfl) (by kernel_rfl) _ _ hS _; rotate_left; (focus (simp only [List.getElem?_toArray, List.getElem?_cons_succ, List.getElem?_cons_zero]; rfl)); (focus exact fun _ _ _ h => h); (focus rfl); simp only [Act.put, List.setIfInBounds_toArray, List.set_cons_zero, List.set_cons_succ]))
        (first | (refine' held_do (i := 2) _ (by kernel_rfl) (by kernel_rfl) (by kernel_rfl) _ _ hS _ _; rotate_left 2; (focus (simp only [List.getElem?_toArray, List.getElem?_cons_succ, List.getElem?_cons_zero]; rfl)); (focus exact fun _ _ _ h => h); (focus rfl); (focus (intro w1 hSS R hR; have hc := hSS; (try simp only [Held, Cells] at hc); go_simp; (try go_bits); exact hR)); simp only [Act.put, List.setIfInBounds_toArray, List.set_cons_zero, List.set_cons_succ]) | (refine' held_pass (i := 2) _ (by kernel_rfl) (by kernel_rfl) (by kernel_rfl) _ _ hS _; rotate_left; (focus (simp only [List.getElem?_toArray, List.getElem?_cons_succ, List.getElem?_cons_zero]; rfl)); (focus exact fun _ _ _ h => h); (focus rfl); simp only [Act.put, List.setIfInBounds_toArray, List.set_cons_zero, List.set_cons_succ]))
        (first | (refine' held_do (i := 3) _ (by kernel_rfl) (by kernel_rfl) (by kernel_rfl) _ _ hS _ _; rotate_left 2; (focus (simp only [List.getElem?_toArray, List.getElem?_cons_succ, List.getElem?_cons_zero]; rfl)); (focus exact fun _ _ _ h => h); (focus rfl); (focus (intro w1 hSS R hR; have hc := hSS; (try simp only [Held, Cells] at hc); go_simp; (try go_bits); exact hR)); simp only [Act.put, List.setIfInBounds_toArray, List.set_cons_zero, List.set_cons_succ]) | (refine' held_pass (i := 3) _ (by kernel_rfl) (by kernel_rfl) (by kernel_rfl) _ _ hS _; rotate_left; (focus (simp only [List.getElem?_toArray, List.getElem?_cons_succ, List.getElem?_cons_zero]; rfl)); (focus exact fun _ _ _ h => h); (focus rfl); simp only [Act.put, List.setIfInBounds_toArray, List.set_cons_zero, List.set_cons_succ]))
        (first | (refine' held_do (i := 4) _ (by kernel_rfl) (by kernel_rfl) (by kernel_rfl) _ _ hS _ _; rotate_left 2; (focus (simp only [List.getElem?_toArray, List.getElem?_cons_succ, List.getElem?_cons_zero]; rfl)); (focus exact fun _ _ _ h => h); (focus rfl); (focus (intro w1 hSS R hR; have hc := hSS; (try simp only [Held, Cells] at hc); go_simp; (try go_bits); exact hR)); simp only [Act.put, List.setIfInBounds_toArray, List.set_cons_zero, List.set_cons_succ]) | (refine' held_pass (i := 4) _ (by kernel_rfl) (by kernel_rfl) (by kernel_rfl) _ _ hS _; rotate_left; (focus (simp only [List.getElem?_toArray, List.getElem?_cons_succ, List.getElem?_cons_zero]; rfl)); (focus exact fun _ _ _ h => h); (focus rfl); simp only [Act.put, List.setIfInBounds_toArray, List.set_cons_zero, List.set_cons_succ]))
        (first | (refine' held_do (i := 5) _ (by kernel_rfl) (by kernel_rfl) (by kernel_rfl) _ _ hS _ _; rotate_left 2; (focus (simp only [List.getElem?_toArray, List.getElem?_cons_succ, List.getElem?_cons_zero]; rfl)); (focus exact fun _ _ _ h => h); (focus rfl); (focus (intro w1 hSS R hR; have hc := hSS; (try simp only [Held, Cells] at hc); go_simp; (try go_bits); exact hR)); simp only [Act.put, List.setIfInBounds_toArray, List.set_cons_zero, List.set_cons_succ]) | (refine' held_pass (i := 5) _ (by kernel_rfl) (by kernel_rfl) (by kernel_rfl) _ _ hS _; rotate_left; (focus (simp only [List.getElem?_toArray, List.getElem?_cons_succ, List.getElem?_cons_zero]; rfl)); (focus exact fun _ _ _ h => h); (focus rfl); simp only [Act.put, List.setIfInBounds_toArray, List.set_cons_zero, List.set_cons_succ]))
        (first | (refine' held_do (i := 6) _ (by kernel_rfl) (by kernel_rfl) (by kernel_rfl) _ _ hS _ _; rotate_left 2; (focus (simp only [List.getElem?_toArray, List.getElem?_cons_succ, List.getElem?_cons_zero]; rfl)); (focus exact fun _ _ _ h => h); (focus rfl); (focus (intro w1 hSS R hR; have hc := hSS; (try simp only [Held, Cells] at hc); go_simp; (try go_bits); exact hR)); simp only [Act.put, List.setIfInBounds_toArray, List.set_cons_zero, List.set_cons_succ]) | (refine' held_pass (i := 6) _ (by kernel_rfl) (by kernel_rfl) (by kernel_rfl) _ _ hS _; rotate_left; (focus (simp only [List.getElem?_toArray, List.getElem?_cons_succ, List.getElem?_cons_zero]; rfl)); (focus exact fun _ _ _ h => h); (focus rfl); simp only [Act.put, List.setIfInBounds_toArray, List.set_cons_zero, List.set_cons_succ]))
        (refine' held_one (i := 7) _ (by kernel_rfl) _ _; rotate_left; (focus (simp only [List.getElem?_toArray, List.getElem?_cons_succ, List.getElem?_cons_zero]; rfl)); (focus rfl); intro K hK; go_simp)
        refine hK _ _ trivial ?_
        clear hK
        (try simp only [Act.put, List.setIfInBounds_toArray, List.set_cons_zero, List.set_cons_succ])
        rw [show (wr.alloc (.cells #[.int .u8 d0, .int .u8 d1] 5)).drew = wr.drew.alloc (.cells [.int .u8 d0, .int .u8 d1].toArray 5) from rfl]
        (refine' held_one (i := 8) _ (by kernel_rfl) _ _; rotate_left; (focus (simp only [List.getElem?_toArray, List.getElem?_cons_succ, List.getElem?_cons_zero]; rfl)); (focus rfl); intro K hK)
        (refine wp_append_two _ _ _ rfl (w.heap.size + 1) 5 iB _ 1 1 Tryd.underlying53 hi0 hz0 hz1 hz2 rfl (by omega) wr.drew 2 _ _ _ _ (by rfl) hown.out.drew (by rfl) rfl (by simp [Value.oneCell']) (by omega) (by unfold maxLen; omega) (by simp; omega) ?_; intro v4 w4 hown4 hgr4 hat4 hb4)
        refine hK _ _ trivial ?_
        clear hK
        (try simp only [Act.put, List.setIfInBounds_toArray, List.set_cons_zero, List.set_cons_succ])
        (refine' held_one (i := 9) _ (by kernel_rfl) _ _; rotate_left; (focus (simp only [List.getElem?_toArray, List.getElem?_cons_succ, List.getElem?_cons_zero]; rfl)); (focus rfl); intro K hK; go_simp)
        refine hK _ _ trivial ?_
        clear hK
        (try simp only [Act.put, List.setIfInBounds_toArray, List.set_cons_zero, List.set_cons_succ])
        refine wpAnyH_done (by kernel_rfl) ?_ _
        have hblk4 : w4.heap[w.heap.size + 1 + 1]? = some (.cells #[.int .u8 r, .int .u8 g, .int .u8 b, .int .u8 255] 5 (0, 0)) := (hgr4.block _ (by simpa using hlt) (fun e => hne.out _ e.symm rfl)).trans hblk.out
        have hne4 : ∀ g, v4.ownBlock = some g → g ≠ w.heap.size + 1 + 1 := fun g hg => by
          rcases hat4 g hg with h3 | h3
          · exact hne.out g h3
          · simp at h3; omega
        have hb04 : Below w.heap.size w w4 := hbr.drew.trans (hb4.mono (by omega))
        have hlt4 : w.heap.size + 1 + 1 < w4.heap.size := Nat.lt_of_lt_of_le hlt (by have := hgr4.size; simpa using this)
        rw [hsn.out, show 1 + 2 * k + 2 = 1 + 2 * (k + 1) by omega] at hown4
        replace hown4 := Lib.hid hown4
        clear hblk hne hown hgr4 hat4 hb4
        replace hblk4 := Lib.hid hblk4
        replace hne4 := Lib.hid hne4
        go_wp2
        go_roundw
        case rel => exact ⟨k + 1, by omega, by go_num, Lib.hid ⟨hown4.out, hne4.out, hblk4.out, hb04, hlt4⟩⟩
        case measure => simp [intOf]; omega
      · obtain rfl : k = 3 := by omega
        obtain ⟨g4, cap4, e4, hcv4⟩ := own_text hown (by omega)
        subst e4
        clear hown hne hblk
        go_wp2
        go_ret
        exact ⟨rfl, hbr⟩
/-- P4.2. -/
theorem ltext_any (r g b a : Int) (x : Nib) (w : World) (h : x.Of r g b a) : Calls Tryd.prog 11 #[.agg #[.int .u8 (r), .int .u8 (g), .int .u8 (b), .int .u8 (a)]] w fun e w' => e = .returned (.string x.tx) ∧ Below w.heap.size w w' := by
  cases hf : x.full
  · have etx : x.tx = ⟨#[35, hxU x.r1, hxU x.r2, hxU x.g1, hxU x.g2, hxU x.b1, hxU x.b2, hxU x.a1, hxU x.a2]⟩ := by unfold Nib.tx; rw [hf]; rfl
    rw [etx]
    refine ltext_four r g b a x w h ?_
    obtain ⟨e, h1, h2⟩ := h.a
    unfold Nib.full at hf
    simp at hf
    omega
  · have ea : a = 255 := by
      obtain ⟨e, h1, h2⟩ := h.a
      unfold Nib.full at hf
      simp at hf
      omega
    subst ea
    cases hsh : x.short
    · have etx : x.tx = ⟨#[35, hxU x.r1, hxU x.r2, hxU x.g1, hxU x.g2, hxU x.b1, hxU x.b2]⟩ := by unfold Nib.tx; rw [hf, hsh]; rfl
      rw [etx]
      exact ltext_three r g b x w h hsh
    · have etx : x.tx = ⟨#[35, hxU x.r1, hxU x.g1, hxU x.b1]⟩ := by unfold Nib.tx; rw [hf, hsh]; rfl
      rw [etx]
      exact ltext_short r g b x w h hsh
end Go.Proofs.YthecbopffdpefaaDoor
