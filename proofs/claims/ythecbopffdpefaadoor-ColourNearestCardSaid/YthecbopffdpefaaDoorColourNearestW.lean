/-
  The law ColourNearest walked.
-/
import Derived.Test.YthecbopffdpefaaDoorDooM
import Derived.Test.YthecbopffdpefaaDoorAlo
import Derived.Test.YthecbopffdpefaaDoorColourLightW
namespace Go.Proofs.YthecbopffdpefaaDoor
open Go.RowKit
set_option linter.unusedVariables false
attribute [local go_sem] vwp vUpon_value vUpon_skip vUpon_enter vUpon_row
set_option linter.unusedSimpArgs false
set_option linter.unusedVariables false
theorem ovA_back (a : Int) (h : U8 a) : ovA a 255 = 255 := by
  obtain ⟨h0, h1⟩ := h
  unfold ovA
  split
  · rfl
  · omega
attribute [local go_sem high] eql_colour neq_colour
set_option maxRecDepth 8000 in
set_option maxHeartbeats 4000000 in
theorem walk_ColourNearest (r g b a : Int) (w : World) (h1 : U8 r) (h2 : U8 g) (h3 : U8 b) (h4 : U8 a) :
    Calls Tryd.prog 7 #[.agg #[.int .u8 (r), .int .u8 (g), .int .u8 (b), .int .u8 (a)]] w fun e w' => e = .returned (.bool true) ∧ Below w.heap.size w w' := by
  have k1 := ov_bd a 255 r 0 h4 u255 h1 u0
  have k2 := ov_bd a 255 g 0 h4 u255 h2 u0
  have k3 := ov_bd a 255 b 0 h4 u255 h3 u0
  have OV := fun w => over_any r g b a 0 0 0 255 w h1 h2 h3 h4 u0 u0 u0 u255
  have SX := fun w => six_any r g b a w h1 h2 h3 h4
  have MY := fun w => many_any r g b a w h1 h2 h3 h4
  rw [ovA_back a h4] at OV
  unfold numN at SX MY
  generalize ov a 255 r 0 = fr at *
  generalize ov a 255 g 0 = fg at *
  generalize ov a 255 b 0 = fb at *
  have sI := bestN_is (dist fr fg fb) 16 (by omega)
  have mI := bestN_is (dist fr fg fb) 256 (by omega)
  have sl := bestN_lt (dist fr fg fb) 16 (by omega)
  have ml := bestN_lt (dist fr fg fb) 256 (by omega)
  obtain ⟨s, hs⟩ : ∃ s, bestN (dist fr fg fb) 16 = s := ⟨_, rfl⟩
  obtain ⟨m, hm⟩ : ∃ m, bestN (dist fr fg fb) 256 = m := ⟨_, rfl⟩
  rw [hs] at SX sI sl
  rw [hm] at MY mI ml
  clear hs hm h1 h2 h3 h4
  have BF : ∀ k : Nat, k < 16 → ∀ w, Calls Tryd.prog 23 #[.int .u8 k, .bool false] w fun e w' => e = .returned (.agg #[.int .u8 (bkR k), .int .u8 (bkG k), .int .u8 (bkB k), .int .u8 (255)]) ∧ Below w.heap.size w w' := fun k hk w => by
    have := back_few (k : Int) w ⟨by omega, by omega⟩
    rwa [show (k : Int) % 16 = k by omega] at this
  have BF' : ∀ k : Nat, k < 256 → ∀ w, Calls Tryd.prog 23 #[.int .u8 k, .bool false] w fun e w' => e = .returned (.agg #[.int .u8 (bkR ((k % 16 : Nat) : Int)), .int .u8 (bkG ((k % 16 : Nat) : Int)), .int .u8 (bkB ((k % 16 : Nat) : Int)), .int .u8 (255)]) ∧ Below w.heap.size w w' := fun k hk w => by
    have := back_few (k : Int) w ⟨by omega, by omega⟩
    rwa [show (k : Int) % 16 = ((k % 16 : Nat) : Int) by omega] at this
  have BM : ∀ k : Nat, k < 256 → ∀ w, Calls Tryd.prog 23 #[.int .u8 k, .bool true] w fun e w' => e = .returned (.agg #[.int .u8 (bkR k), .int .u8 (bkG k), .int .u8 (bkB k), .int .u8 (255)]) ∧ Below w.heap.size w w' := fun k hk w => back_many (k : Int) w ⟨by omega, by omega⟩
  have FA : ∀ k : Nat, k < 256 → ∀ w, Calls Tryd.prog 22 #[.agg #[.int .u8 (fr), .int .u8 (fg), .int .u8 (fb), .int .u8 (255)], .agg #[.int .u8 (bkR k), .int .u8 (bkG k), .int .u8 (bkB k), .int .u8 (255)]] w fun e w' => e = .returned (.int .i64 (dist fr fg fb k)) ∧ Below w.heap.size w w' := fun k hk w => by
    obtain ⟨x, y, z⟩ := bk_bd (k : Int) ⟨by omega, by omega⟩
    exact lfar_any fr fg fb 255 _ _ _ 255 w k1 k2 k3 x y z
  have BFs := Lib.hid (BF s (by omega))
  have BMm := Lib.hid (BM m (by omega))
  have FAs := Lib.hid (FA s (by omega))
  have FAm := Lib.hid (FA m (by omega))
  have key0 := (mI s (by omega)).1
  replace sI := Lib.hid sI
  replace mI := Lib.hid mI
  replace BF := Lib.hid BF
  replace BF' := Lib.hid BF'
  replace BM := Lib.hid BM
  replace FA := Lib.hid FA
  replace k1 := Lib.hid k1
  replace k2 := Lib.hid k2
  replace k3 := Lib.hid k3
  replace OV := Lib.hid OV
  replace SX := Lib.hid SX
  replace MY := Lib.hid MY
  go_enter Tryd.func7, Tryd.ntmps7
  go_wp2_with fail
  refine wp_region_tame (Held w 1 [(⟨w.heap.size, 0, none⟩, .int .u8 (r)), (⟨w.heap.size, 1, none⟩, .int .u8 (g)), (⟨w.heap.size, 2, none⟩, .int .u8 (b)), (⟨w.heap.size, 3, none⟩, .int .u8 (a))]) (fun _ => .cells #[.int .u8 0, .int .u8 0, .int .u8 0, .int .u8 0] 23 (0, 0)) (w.heap.size + 1) 3 4 (by kernel_rfl) (by kernel_rfl) (by omega) (by decide) (by kernel_rfl) (by kernel_rfl) (Held.stab _ _ _) (by (try simp) <;> omega) ⟨(by repeat (first | exact Below.refl _ _ | assumption | refine Below.drew ?_ | refine Below.alloc ?_ (by (try simp) <;> omega) _ | refine Below.setCell ?_ (by (try simp) <;> omega) _ | (refine Below.trans ?_ (Below.mono (by assumption) (by (try simp) <;> omega))))), (by (try simp) <;> omega), (by first | exact trivial | (simp only [Cells]; go_simp))⟩ ?_
  simp only [List.take_succ_cons, List.take_zero, List.drop_succ_cons, List.drop_zero]
  repeat (first | (refine' wpStB_do _ _ _; rotate_left; (focus rfl); (focus (intro w1 hS R hR; have hc := hS.cells; simp only [Cells] at hc; obtain ⟨hco, hfo⟩ := bcell hS.old; go_simp; (try go_bits); first | exact hR _ (Below.refl _ _) | ((go_at_call 19; (with_reducible refine (c_any _ _ _ _ _).mono ?_); rintro e w2 ⟨rfl, hb2⟩; exact ⟨_, rfl, hR _ hb2⟩)) | ((go_at_call 13; (with_reducible refine (OV.out _).mono ?_); rintro e w2 ⟨rfl, hb2⟩; exact ⟨_, rfl, hR _ hb2⟩)))); simp only [Act.put, List.setIfInBounds_toArray, List.set_cons_zero, List.set_cons_succ]) | (refine wpStB_pass ?_ ?_; (focus rfl); simp only [Act.put, List.setIfInBounds_toArray, List.set_cons_zero, List.set_cons_succ]))
  refine wpStB_nil ?_
  (refine wpNews_do rfl (by intro w1 hS R hR; go_simp; exact hR) ?_; intro b3 hnb3; simp only [Act.put, List.setIfInBounds_toArray, List.set_cons_zero, List.set_cons_succ]; simp only [ptrTo])
  refine wpNews_nil ?_
  intro w9 hS hU hN
  have hb9 : w.heap.size + 1 ≤ b3 := Nat.le_of_not_lt hnb3
  have hl9 : b3 < w9.heap.size := hN b3 (.inr rfl)
  have hc := hS.cells; have hb := hS.old; have hz := hS.size; clear hS hN; simp only [Cells] at hc
  obtain ⟨hc0, hf0, hc1, hf1, hc2, hf2, hc3, hf3, _⟩ := hc
  have q0 : w9.cell? ⟨b3, 0, none⟩ = some (.int .u8 0) := new_cell hU.2 rfl
  have q1 : w9.cell? ⟨b3, 1, none⟩ = some (.int .u8 0) := new_cell hU.2 rfl
  have q2 : w9.cell? ⟨b3, 2, none⟩ = some (.int .u8 0) := new_cell hU.2 rfl
  have q3 : w9.cell? ⟨b3, 3, none⟩ = some (.int .u8 0) := new_cell hU.2 rfl
  have g0 := new_free hU.2 0
  have g1 := new_free hU.2 1
  have g2 := new_free hU.2 2
  have g3 := new_free hU.2 3
  clear hU hnb3
  have ne : ¬ w.heap.size = b3 := by omega
  have ne' : ¬ b3 = w.heap.size := by omega
  go_wp2_with fail
  have hbW : Below w.heap.size w ((((w9.setCell ⟨b3, 0, none⟩ (.int .u8 fr)).setCell ⟨b3, 1, none⟩ (.int .u8 fg)).setCell ⟨b3, 2, none⟩ (.int .u8 fb)).setCell ⟨b3, 3, none⟩ (.int .u8 255)) := (by repeat (first | exact Below.refl _ _ | assumption | refine Below.drew ?_ | refine Below.alloc ?_ (by (try simp) <;> omega) _ | refine Below.setCell ?_ (by (try simp) <;> omega) _ | (refine Below.trans ?_ (Below.mono (by assumption) (by (try simp) <;> omega)))))
  have lx : w.heap.size < ((((w9.setCell ⟨b3, 0, none⟩ (.int .u8 fr)).setCell ⟨b3, 1, none⟩ (.int .u8 fg)).setCell ⟨b3, 2, none⟩ (.int .u8 fb)).setCell ⟨b3, 3, none⟩ (.int .u8 255)).heap.size := by simp; omega
  have lb : b3 < ((((w9.setCell ⟨b3, 0, none⟩ (.int .u8 fr)).setCell ⟨b3, 1, none⟩ (.int .u8 fg)).setCell ⟨b3, 2, none⟩ (.int .u8 fb)).setCell ⟨b3, 3, none⟩ (.int .u8 255)).heap.size := by simp; omega
  have x0 : ((((w9.setCell ⟨b3, 0, none⟩ (.int .u8 fr)).setCell ⟨b3, 1, none⟩ (.int .u8 fg)).setCell ⟨b3, 2, none⟩ (.int .u8 fb)).setCell ⟨b3, 3, none⟩ (.int .u8 255)).cell? ⟨w.heap.size, 0, none⟩ = some (.int .u8 r) := by go_simp
  have x1 : ((((w9.setCell ⟨b3, 0, none⟩ (.int .u8 fr)).setCell ⟨b3, 1, none⟩ (.int .u8 fg)).setCell ⟨b3, 2, none⟩ (.int .u8 fb)).setCell ⟨b3, 3, none⟩ (.int .u8 255)).cell? ⟨w.heap.size, 1, none⟩ = some (.int .u8 g) := by go_simp
  have x2 : ((((w9.setCell ⟨b3, 0, none⟩ (.int .u8 fr)).setCell ⟨b3, 1, none⟩ (.int .u8 fg)).setCell ⟨b3, 2, none⟩ (.int .u8 fb)).setCell ⟨b3, 3, none⟩ (.int .u8 255)).cell? ⟨w.heap.size, 2, none⟩ = some (.int .u8 b) := by go_simp
  have x3 : ((((w9.setCell ⟨b3, 0, none⟩ (.int .u8 fr)).setCell ⟨b3, 1, none⟩ (.int .u8 fg)).setCell ⟨b3, 2, none⟩ (.int .u8 fb)).setCell ⟨b3, 3, none⟩ (.int .u8 255)).cell? ⟨w.heap.size, 3, none⟩ = some (.int .u8 a) := by go_simp
  have f0 : ((((w9.setCell ⟨b3, 0, none⟩ (.int .u8 fr)).setCell ⟨b3, 1, none⟩ (.int .u8 fg)).setCell ⟨b3, 2, none⟩ (.int .u8 fb)).setCell ⟨b3, 3, none⟩ (.int .u8 255)).cell? ⟨b3, 0, none⟩ = some (.int .u8 fr) := by go_simp
  have f1 : ((((w9.setCell ⟨b3, 0, none⟩ (.int .u8 fr)).setCell ⟨b3, 1, none⟩ (.int .u8 fg)).setCell ⟨b3, 2, none⟩ (.int .u8 fb)).setCell ⟨b3, 3, none⟩ (.int .u8 255)).cell? ⟨b3, 1, none⟩ = some (.int .u8 fg) := by go_simp
  have f2 : ((((w9.setCell ⟨b3, 0, none⟩ (.int .u8 fr)).setCell ⟨b3, 1, none⟩ (.int .u8 fg)).setCell ⟨b3, 2, none⟩ (.int .u8 fb)).setCell ⟨b3, 3, none⟩ (.int .u8 255)).cell? ⟨b3, 2, none⟩ = some (.int .u8 fb) := by go_simp
  have f3 : ((((w9.setCell ⟨b3, 0, none⟩ (.int .u8 fr)).setCell ⟨b3, 1, none⟩ (.int .u8 fg)).setCell ⟨b3, 2, none⟩ (.int .u8 fb)).setCell ⟨b3, 3, none⟩ (.int .u8 255)).cell? ⟨b3, 3, none⟩ = some (.int .u8 255) := by go_simp
  generalize ((((w9.setCell ⟨b3, 0, none⟩ (.int .u8 fr)).setCell ⟨b3, 1, none⟩ (.int .u8 fg)).setCell ⟨b3, 2, none⟩ (.int .u8 fb)).setCell ⟨b3, 3, none⟩ (.int .u8 255)) = W at *
  clear hc0 hc1 hc2 hc3 hf0 hf1 hf2 hf3 q0 q1 q2 q3 g0 g1 g2 g3 hb hz hl9
  refine wp_region_steady (Held W 0 []) (by kernel_rfl) (by kernel_rfl) ⟨(by repeat (first | exact Below.refl _ _ | assumption | refine Below.drew ?_ | refine Below.alloc ?_ (by (try simp) <;> omega) _ | refine Below.setCell ?_ (by (try simp) <;> omega) _ | (refine Below.trans ?_ (Below.mono (by assumption) (by (try simp) <;> omega))))), (by (try simp) <;> omega), (by first | exact trivial | (simp only [Cells]; go_simp))⟩ ?_
  repeat (first | (refine' wpSteady_do _ _ _; rotate_left; (focus rfl); (focus (intro w1 hS R hR; have hc := hS.cells; simp only [Cells] at hc; obtain ⟨hco, hfo⟩ := bcell hS.old; go_simp; (try go_bits); first | exact hR _ hS | ((go_at_call 20; (with_reducible refine (SX.out _).mono ?_); rintro e w2 ⟨rfl, hb2⟩; exact ⟨_, rfl, hR _ (hS.below hb2)⟩)) | ((go_at_call 21; (with_reducible refine (MY.out _).mono ?_); rintro e w2 ⟨rfl, hb2⟩; exact ⟨_, rfl, hR _ (hS.below hb2)⟩)))); simp only [Act.put, List.setIfInBounds_toArray, List.set_cons_zero, List.set_cons_succ]) | (refine wpSteady_pass ?_ ?_; (focus rfl); simp only [Act.put, List.setIfInBounds_toArray, List.set_cons_zero, List.set_cons_succ]))
  refine wpSteady_nil (fun uA hSA => ?_)
  have hcA := hSA.cells; have hbA := hSA.old; have hzA := hSA.size; clear hSA; simp only [Cells] at hcA; obtain ⟨hcoA, hfoA⟩ := bcell hbA
  have s15 : (s : Int) ≤ 15 := by omega
  have s0 : (0 : Int) ≤ s := by omega
  have s15' : decide ((15 : Int) < s) = false := by simpa using s15
  have m0 : (0 : Int) ≤ m := by omega
  have m255 : (m : Int) ≤ 255 := by omega
  have lbA : b3 < uA.heap.size := by omega
  go_wp2_with (go_at_call 16; (with_reducible refine (alive_any _).mono ?_); rintro e w3 ⟨rfl, hb3⟩; obtain ⟨hc3, hf3⟩ := bcell hb3; have z3 := hb3.size)
  have y0 : w3.cell? ⟨b3, 0, none⟩ = some (.int .u8 fr) := by rw [hc3 _ _ lbA, hcoA _ _ lb]; exact f0
  have y1 : w3.cell? ⟨b3, 1, none⟩ = some (.int .u8 fg) := by rw [hc3 _ _ lbA, hcoA _ _ lb]; exact f1
  have y2 : w3.cell? ⟨b3, 2, none⟩ = some (.int .u8 fb) := by rw [hc3 _ _ lbA, hcoA _ _ lb]; exact f2
  have y3 : w3.cell? ⟨b3, 3, none⟩ = some (.int .u8 255) := by rw [hc3 _ _ lbA, hcoA _ _ lb]; exact f3
  have hB3 : Below w.heap.size w w3 := (hbW.trans (hbA.mono hbW.size)).trans (hb3.mono (Nat.le_trans hbW.size hbA.size))
  have lb3 : b3 < w3.heap.size := by omega
  clear x0 x1 x2 x3 f0 f1 f2 f3 hc3 hf3 hcoA hfoA hbA hb3 hbW lx lb lbA z3 hcA hzA
  have S0 : (0 : Int) ≤ dist fr fg fb s ∧ dist fr fg fb s ≤ 585225 := dist_bd fr fg fb s k1.out k2.out k3.out (by omega)
  have M0 : (0 : Int) ≤ dist fr fg fb m ∧ dist fr fg fb m ≤ 585225 := dist_bd fr fg fb m k1.out k2.out k3.out (by omega)
  obtain ⟨S00, S01⟩ := S0
  obtain ⟨M00, M01⟩ := M0
  obtain ⟨ds, eds⟩ : ∃ x, dist fr fg fb s = x := ⟨_, rfl⟩
  obtain ⟨dm, edm⟩ : ∃ x, dist fr fg fb m = x := ⟨_, rfl⟩
  rw [eds] at FAs sI S00 S01 key0
  rw [edm] at FAm mI M00 M01 key0
  replace eds := Lib.hid eds
  replace edm := Lib.hid edm
  refine wp_region_steady (Held w3 0 []) (by kernel_rfl) (by kernel_rfl) ⟨(by repeat (first | exact Below.refl _ _ | assumption | refine Below.drew ?_ | refine Below.alloc ?_ (by (try simp) <;> omega) _ | refine Below.setCell ?_ (by (try simp) <;> omega) _ | (refine Below.trans ?_ (Below.mono (by assumption) (by (try simp) <;> omega))))), (by (try simp) <;> omega), (by first | exact trivial | (simp only [Cells]; go_simp))⟩ ?_
  repeat (first | (refine' wpSteady_do _ _ _; rotate_left; (focus rfl); (focus (intro w1 hS R hR; have hc := hS.cells; simp only [Cells] at hc; obtain ⟨hco, hfo⟩ := bcell hS.old; go_simp; (try go_bits); first | exact hR _ hS | ((go_at_call 23; (with_reducible refine (BFs.out _).mono ?_); rintro e w2 ⟨rfl, hb2⟩; exact ⟨_, rfl, hR _ (hS.below hb2)⟩)) | ((go_at_call 23; (with_reducible refine (BMm.out _).mono ?_); rintro e w2 ⟨rfl, hb2⟩; exact ⟨_, rfl, hR _ (hS.below hb2)⟩)) | ((go_at_call 22; (with_reducible refine (FAs.out _).mono ?_); rintro e w2 ⟨rfl, hb2⟩; exact ⟨_, rfl, hR _ (hS.below hb2)⟩)) | ((go_at_call 22; (with_reducible refine (FAm.out _).mono ?_); rintro e w2 ⟨rfl, hb2⟩; exact ⟨_, rfl, hR _ (hS.below hb2)⟩)))); simp only [Act.put, List.setIfInBounds_toArray, List.set_cons_zero, List.set_cons_succ]) | (refine wpSteady_pass ?_ ?_; (focus rfl); simp only [Act.put, List.setIfInBounds_toArray, List.set_cons_zero, List.set_cons_succ]))
  refine wpSteady_nil (fun uB hSB => ?_)
  have hcB := hSB.cells; have hbB := hSB.old; have hzB := hSB.size; clear hSB; simp only [Cells] at hcB; obtain ⟨hcoB, hfoB⟩ := bcell hbB
  have lbB : b3 < uB.heap.size := by omega
  go_wp2_with fail
  have v0 : uB.cell? ⟨b3, 0, none⟩ = some (.int .u8 fr) := by rw [hcoB _ _ lb3]; exact y0
  have v1 : uB.cell? ⟨b3, 1, none⟩ = some (.int .u8 fg) := by rw [hcoB _ _ lb3]; exact y1
  have v2 : uB.cell? ⟨b3, 2, none⟩ = some (.int .u8 fb) := by rw [hcoB _ _ lb3]; exact y2
  have v3 : uB.cell? ⟨b3, 3, none⟩ = some (.int .u8 255) := by rw [hcoB _ _ lb3]; exact y3
  have hBB : Below w.heap.size w uB := hB3.trans (hbB.mono hB3.size)
  clear y0 y1 y2 y3 hcoB hfoB hbB lb3 hB3 hzB hcB BFs FAs FAm OV SX
  go_loopw [8] (fun i wr => ∃ k : Nat, k ≤ 256 ∧ i = .int .i64 k ∧ Below uB.heap.size uB wr) (fun i _ => 256 - (intOf i).toNat)
  case atStart => exact ⟨0, by omega, rfl, Below.refl _ _⟩
  case round =>
    obtain ⟨k, hk, rfl, hbr⟩ := hrel
    obtain ⟨hcr, hfr⟩ := bcell hbr
    have zr := hbr.size
    have lr : b3 < wr.heap.size := by omega
    have r0 : wr.cell? ⟨b3, 0, none⟩ = some (.int .u8 fr) := by rw [hcr _ _ lbB]; exact v0
    have r1 : wr.cell? ⟨b3, 1, none⟩ = some (.int .u8 fg) := by rw [hcr _ _ lbB]; exact v1
    have r2 : wr.cell? ⟨b3, 2, none⟩ = some (.int .u8 fb) := by rw [hcr _ _ lbB]; exact v2
    have r3 : wr.cell? ⟨b3, 3, none⟩ = some (.int .u8 255) := by rw [hcr _ _ lbB]; exact v3
    clear hcr hfr v0 v1 v2 v3
    by_cases hlt : k < 256
    · have BA1 := Lib.hid (BM.out k hlt)
      have FA1 := Lib.hid (FA.out k hlt)
      have D0 : (0 : Int) ≤ dist fr fg fb k ∧ dist fr fg fb k ≤ 585225 := dist_bd fr fg fb k k1.out k2.out k3.out hlt
      obtain ⟨D00, D01⟩ := D0
      have mk := mI.out k hlt
      have hlt' : (k : Int) < 256 := by omega
      have kk0 : (0 : Int) ≤ k := by omega
      have kk1 : (k : Int) ≤ 255 := by omega
      by_cases h16 : k < 16
      · have sk := sI.out k h16
        have BA2 := Lib.hid (BF.out k h16)
        have S6 : ∀ w, Calls Tryd.prog 20 #[.agg #[.int .u8 (bkR k), .int .u8 (bkG k), .int .u8 (bkB k), .int .u8 (255)]] w fun e w' => e = .returned (.int .u8 k) ∧ Below w.heap.size w w' := fun w => by
          obtain ⟨x, y, z⟩ := bk_bd (k : Int) ⟨by omega, by omega⟩
          have h := six_any _ _ _ 255 w x y z u255
          unfold numN at h
          rw [ov_full _ _ x, ov_full _ _ y, ov_full _ _ z, few_self k h16] at h
          exact h
        replace S6 := Lib.hid S6
        obtain ⟨dk, edk⟩ : ∃ x, dist fr fg fb k = x := ⟨_, rfl⟩
        rw [edk] at FA1 D00 D01 mk sk
        replace edk := Lib.hid edk
        have E1 := eq4_refl (bkR k) (bkG k) (bkB k) 255
        have i16 : decide ((k : Int) < 16) = true := by simp; omega
        have i16' : decide (k < 16) = true := by simpa using h16
        have t1 : (k : Int) % 16 = k := by omega
        have t2 : (k : Int).tmod 16 = k := by rw [Int.tmod_eq_emod_of_nonneg kk0]; omega
        have e1 : decide (dk < dm) = false := by simpa using mk.1
        have e2 : decide (dk < ds) = false := by simpa using sk.1
        by_cases c1 : dk = dm
        · have c1' : (dk == dm) = true := by simpa using c1
          have d1 : decide ((k : Int) < m) = false := by simp; exact Nat.le_of_not_lt fun h => by have := mk.2 h; omega
          have d1' : decide (k < m) = false := by simp; exact Nat.le_of_not_lt fun h => by have := mk.2 h; omega
          by_cases c2 : dk = ds
          · have c2' : (dk == ds) = true := by simpa using c2
            have d2 : decide ((k : Int) < s) = false := by simp; exact Nat.le_of_not_lt fun h => by have := sk.2 h; omega
            have d2' : decide (k < s) = false := by simp; exact Nat.le_of_not_lt fun h => by have := sk.2 h; omega
            clear c1 c2 mk sk h16 hlt
            have FA2 := FA1
            go_wp2_with (first | (go_at_call 23; (with_reducible refine (BA1.out _).mono ?_); rintro e w1 ⟨rfl, hb1⟩; obtain ⟨hc1, hf1⟩ := bcell hb1; have z1 := hb1.size; (try simp at z1); have l1 : b3 < w1.heap.size := (by omega)) | (have _ := w4; go_at_call 22; (with_reducible refine (FA2.out _).mono ?_); rintro e w5 ⟨rfl, hb5⟩; obtain ⟨hc5, hf5⟩ := bcell hb5; have z5 := hb5.size; (try simp at z5); have l5 : b3 < w5.heap.size := (by omega); have l5' : w1.heap.size < w5.heap.size := (by omega); have l5'' : w4.heap.size < w5.heap.size := (by omega)) | (go_at_call 22; (with_reducible refine (FA1.out _).mono ?_); rintro e w2 ⟨rfl, hb2⟩; obtain ⟨hc2, hf2⟩ := bcell hb2; have z2 := hb2.size; (try simp at z2); have l2 : b3 < w2.heap.size := (by omega); have l2' : w1.heap.size < w2.heap.size := (by omega)) | (go_at_call 23; (with_reducible refine (BA2.out _).mono ?_); rintro e w4 ⟨rfl, hb4⟩; obtain ⟨hc4, hf4⟩ := bcell hb4; have z4 := hb4.size; (try simp at z4); have l4 : b3 < w4.heap.size := (by omega); have l4' : w1.heap.size < w4.heap.size := (by omega)) | go_in)
            have p0 : w5.cell? ⟨w1.heap.size, 0, none⟩ = some (.int .u8 (bkR k)) := by rw [hc5 _ _ (by simp; omega)]; go_simp
            have p1 : w5.cell? ⟨w1.heap.size, 1, none⟩ = some (.int .u8 (bkG k)) := by rw [hc5 _ _ (by simp; omega)]; go_simp
            have p2 : w5.cell? ⟨w1.heap.size, 2, none⟩ = some (.int .u8 (bkB k)) := by rw [hc5 _ _ (by simp; omega)]; go_simp
            have p3 : w5.cell? ⟨w1.heap.size, 3, none⟩ = some (.int .u8 255) := by rw [hc5 _ _ (by simp; omega)]; go_simp
            have p4 : w5.cell? ⟨w4.heap.size, 0, none⟩ = some (.int .u8 (bkR k)) := by rw [hc5 _ _ (by simp)]; go_simp
            have p5 : w5.cell? ⟨w4.heap.size, 1, none⟩ = some (.int .u8 (bkG k)) := by rw [hc5 _ _ (by simp)]; go_simp
            have p6 : w5.cell? ⟨w4.heap.size, 2, none⟩ = some (.int .u8 (bkB k)) := by rw [hc5 _ _ (by simp)]; go_simp
            have p7 : w5.cell? ⟨w4.heap.size, 3, none⟩ = some (.int .u8 255) := by rw [hc5 _ _ (by simp)]; go_simp
            have hb05 : Below uB.heap.size uB w5 := (by repeat (first | exact Below.refl _ _ | assumption | refine Below.drew ?_ | refine Below.alloc ?_ (by (try simp) <;> omega) _ | refine Below.setCell ?_ (by (try simp) <;> omega) _ | (refine Below.trans ?_ (Below.mono (by assumption) (by (try simp) <;> omega)))))
            clear hb1 hb2 hb4 hb5 hc1 hc2 hc4 hc5 hf1 hf2 hf4 hf5 hbr r0 r1 r2 r3
            refine wp_region_steady (Held w5 0 []) (by kernel_rfl) (by kernel_rfl) ⟨(by repeat (first | exact Below.refl _ _ | assumption | refine Below.drew ?_ | refine Below.alloc ?_ (by (try simp) <;> omega) _ | refine Below.setCell ?_ (by (try simp) <;> omega) _ | (refine Below.trans ?_ (Below.mono (by assumption) (by (try simp) <;> omega))))), (by (try simp) <;> omega), (by first | exact trivial | (simp only [Cells]; go_simp))⟩ ?_
            repeat (first | (refine' wpSteady_do _ _ _; rotate_left; (focus rfl); (focus (intro w1 hS R hR; have hc := hS.cells; simp only [Cells] at hc; obtain ⟨hco, hfo⟩ := bcell hS.old; go_simp; (try go_bits); first | exact hR _ hS | ((go_at_call 23; (with_reducible refine (BA2.out _).mono ?_); rintro e w2 ⟨rfl, hb2⟩; exact ⟨_, rfl, hR _ (hS.below hb2)⟩)) | ((go_at_call 20; (with_reducible refine (S6.out _).mono ?_); rintro e w2 ⟨rfl, hb2⟩; exact ⟨_, rfl, hR _ (hS.below hb2)⟩)))); simp only [Act.put, List.setIfInBounds_toArray, List.set_cons_zero, List.set_cons_succ]) | (refine wpSteady_pass ?_ ?_; (focus rfl); simp only [Act.put, List.setIfInBounds_toArray, List.set_cons_zero, List.set_cons_succ]))
            refine wpSteady_nil (fun uC hSC => ?_)
            have hcC := hSC.cells; have hbC := hSC.old; have hzC := hSC.size; clear hSC; simp only [Cells] at hcC; obtain ⟨hcoC, hfoC⟩ := bcell hbC
            have hbC' : Below uB.heap.size uB uC := hb05.trans (hbC.mono hb05.size)
            clear hb05 hbC hcoC hfoC
            go_wp2
            go_roundw
            case rel => exact ⟨k + 1, by omega, by go_num, hbC'⟩
            case measure => simp [intOf]; omega
          · have c2' : (dk == ds) = false := by simpa using c2
            clear c1 c2 mk sk h16 hlt
            have FA2 := FA1
            go_wp2_with (first | (go_at_call 23; (with_reducible refine (BA1.out _).mono ?_); rintro e w1 ⟨rfl, hb1⟩; obtain ⟨hc1, hf1⟩ := bcell hb1; have z1 := hb1.size; (try simp at z1); have l1 : b3 < w1.heap.size := (by omega)) | (have _ := w4; go_at_call 22; (with_reducible refine (FA2.out _).mono ?_); rintro e w5 ⟨rfl, hb5⟩; obtain ⟨hc5, hf5⟩ := bcell hb5; have z5 := hb5.size; (try simp at z5); have l5 : b3 < w5.heap.size := (by omega); have l5' : w1.heap.size < w5.heap.size := (by omega); have l5'' : w4.heap.size < w5.heap.size := (by omega)) | (go_at_call 22; (with_reducible refine (FA1.out _).mono ?_); rintro e w2 ⟨rfl, hb2⟩; obtain ⟨hc2, hf2⟩ := bcell hb2; have z2 := hb2.size; (try simp at z2); have l2 : b3 < w2.heap.size := (by omega); have l2' : w1.heap.size < w2.heap.size := (by omega)) | (go_at_call 23; (with_reducible refine (BA2.out _).mono ?_); rintro e w4 ⟨rfl, hb4⟩; obtain ⟨hc4, hf4⟩ := bcell hb4; have z4 := hb4.size; (try simp at z4); have l4 : b3 < w4.heap.size := (by omega); have l4' : w1.heap.size < w4.heap.size := (by omega)) | go_in)
            have p0 : w5.cell? ⟨w1.heap.size, 0, none⟩ = some (.int .u8 (bkR k)) := by rw [hc5 _ _ (by simp; omega)]; go_simp
            have p1 : w5.cell? ⟨w1.heap.size, 1, none⟩ = some (.int .u8 (bkG k)) := by rw [hc5 _ _ (by simp; omega)]; go_simp
            have p2 : w5.cell? ⟨w1.heap.size, 2, none⟩ = some (.int .u8 (bkB k)) := by rw [hc5 _ _ (by simp; omega)]; go_simp
            have p3 : w5.cell? ⟨w1.heap.size, 3, none⟩ = some (.int .u8 255) := by rw [hc5 _ _ (by simp; omega)]; go_simp
            have p4 : w5.cell? ⟨w4.heap.size, 0, none⟩ = some (.int .u8 (bkR k)) := by rw [hc5 _ _ (by simp)]; go_simp
            have p5 : w5.cell? ⟨w4.heap.size, 1, none⟩ = some (.int .u8 (bkG k)) := by rw [hc5 _ _ (by simp)]; go_simp
            have p6 : w5.cell? ⟨w4.heap.size, 2, none⟩ = some (.int .u8 (bkB k)) := by rw [hc5 _ _ (by simp)]; go_simp
            have p7 : w5.cell? ⟨w4.heap.size, 3, none⟩ = some (.int .u8 255) := by rw [hc5 _ _ (by simp)]; go_simp
            have hb05 : Below uB.heap.size uB w5 := (by repeat (first | exact Below.refl _ _ | assumption | refine Below.drew ?_ | refine Below.alloc ?_ (by (try simp) <;> omega) _ | refine Below.setCell ?_ (by (try simp) <;> omega) _ | (refine Below.trans ?_ (Below.mono (by assumption) (by (try simp) <;> omega)))))
            clear hb1 hb2 hb4 hb5 hc1 hc2 hc4 hc5 hf1 hf2 hf4 hf5 hbr r0 r1 r2 r3
            refine wp_region_steady (Held w5 0 []) (by kernel_rfl) (by kernel_rfl) ⟨(by repeat (first | exact Below.refl _ _ | assumption | refine Below.drew ?_ | refine Below.alloc ?_ (by (try simp) <;> omega) _ | refine Below.setCell ?_ (by (try simp) <;> omega) _ | (refine Below.trans ?_ (Below.mono (by assumption) (by (try simp) <;> omega))))), (by (try simp) <;> omega), (by first | exact trivial | (simp only [Cells]; go_simp))⟩ ?_
            repeat (first | (refine' wpSteady_do _ _ _; rotate_left; (focus rfl); (focus (intro w1 hS R hR; have hc := hS.cells; simp only [Cells] at hc; obtain ⟨hco, hfo⟩ := bcell hS.old; go_simp; (try go_bits); first | exact hR _ hS | ((go_at_call 23; (with_reducible refine (BA2.out _).mono ?_); rintro e w2 ⟨rfl, hb2⟩; exact ⟨_, rfl, hR _ (hS.below hb2)⟩)) | ((go_at_call 20; (with_reducible refine (S6.out _).mono ?_); rintro e w2 ⟨rfl, hb2⟩; exact ⟨_, rfl, hR _ (hS.below hb2)⟩)))); simp only [Act.put, List.setIfInBounds_toArray, List.set_cons_zero, List.set_cons_succ]) | (refine wpSteady_pass ?_ ?_; (focus rfl); simp only [Act.put, List.setIfInBounds_toArray, List.set_cons_zero, List.set_cons_succ]))
            refine wpSteady_nil (fun uC hSC => ?_)
            have hcC := hSC.cells; have hbC := hSC.old; have hzC := hSC.size; clear hSC; simp only [Cells] at hcC; obtain ⟨hcoC, hfoC⟩ := bcell hbC
            have hbC' : Below uB.heap.size uB uC := hb05.trans (hbC.mono hb05.size)
            clear hb05 hbC hcoC hfoC
            go_wp2
            go_roundw
            case rel => exact ⟨k + 1, by omega, by go_num, hbC'⟩
            case measure => simp [intOf]; omega
        · have c1' : (dk == dm) = false := by simpa using c1
          by_cases c2 : dk = ds
          · have c2' : (dk == ds) = true := by simpa using c2
            have d2 : decide ((k : Int) < s) = false := by simp; exact Nat.le_of_not_lt fun h => by have := sk.2 h; omega
            have d2' : decide (k < s) = false := by simp; exact Nat.le_of_not_lt fun h => by have := sk.2 h; omega
            clear c1 c2 mk sk h16 hlt
            have FA2 := FA1
            go_wp2_with (first | (go_at_call 23; (with_reducible refine (BA1.out _).mono ?_); rintro e w1 ⟨rfl, hb1⟩; obtain ⟨hc1, hf1⟩ := bcell hb1; have z1 := hb1.size; (try simp at z1); have l1 : b3 < w1.heap.size := (by omega)) | (have _ := w4; go_at_call 22; (with_reducible refine (FA2.out _).mono ?_); rintro e w5 ⟨rfl, hb5⟩; obtain ⟨hc5, hf5⟩ := bcell hb5; have z5 := hb5.size; (try simp at z5); have l5 : b3 < w5.heap.size := (by omega); have l5' : w1.heap.size < w5.heap.size := (by omega); have l5'' : w4.heap.size < w5.heap.size := (by omega)) | (go_at_call 22; (with_reducible refine (FA1.out _).mono ?_); rintro e w2 ⟨rfl, hb2⟩; obtain ⟨hc2, hf2⟩ := bcell hb2; have z2 := hb2.size; (try simp at z2); have l2 : b3 < w2.heap.size := (by omega); have l2' : w1.heap.size < w2.heap.size := (by omega)) | (go_at_call 23; (with_reducible refine (BA2.out _).mono ?_); rintro e w4 ⟨rfl, hb4⟩; obtain ⟨hc4, hf4⟩ := bcell hb4; have z4 := hb4.size; (try simp at z4); have l4 : b3 < w4.heap.size := (by omega); have l4' : w1.heap.size < w4.heap.size := (by omega)) | go_in)
            have p0 : w5.cell? ⟨w1.heap.size, 0, none⟩ = some (.int .u8 (bkR k)) := by rw [hc5 _ _ (by simp; omega)]; go_simp
            have p1 : w5.cell? ⟨w1.heap.size, 1, none⟩ = some (.int .u8 (bkG k)) := by rw [hc5 _ _ (by simp; omega)]; go_simp
            have p2 : w5.cell? ⟨w1.heap.size, 2, none⟩ = some (.int .u8 (bkB k)) := by rw [hc5 _ _ (by simp; omega)]; go_simp
            have p3 : w5.cell? ⟨w1.heap.size, 3, none⟩ = some (.int .u8 255) := by rw [hc5 _ _ (by simp; omega)]; go_simp
            have p4 : w5.cell? ⟨w4.heap.size, 0, none⟩ = some (.int .u8 (bkR k)) := by rw [hc5 _ _ (by simp)]; go_simp
            have p5 : w5.cell? ⟨w4.heap.size, 1, none⟩ = some (.int .u8 (bkG k)) := by rw [hc5 _ _ (by simp)]; go_simp
            have p6 : w5.cell? ⟨w4.heap.size, 2, none⟩ = some (.int .u8 (bkB k)) := by rw [hc5 _ _ (by simp)]; go_simp
            have p7 : w5.cell? ⟨w4.heap.size, 3, none⟩ = some (.int .u8 255) := by rw [hc5 _ _ (by simp)]; go_simp
            have hb05 : Below uB.heap.size uB w5 := (by repeat (first | exact Below.refl _ _ | assumption | refine Below.drew ?_ | refine Below.alloc ?_ (by (try simp) <;> omega) _ | refine Below.setCell ?_ (by (try simp) <;> omega) _ | (refine Below.trans ?_ (Below.mono (by assumption) (by (try simp) <;> omega)))))
            clear hb1 hb2 hb4 hb5 hc1 hc2 hc4 hc5 hf1 hf2 hf4 hf5 hbr r0 r1 r2 r3
            refine wp_region_steady (Held w5 0 []) (by kernel_rfl) (by kernel_rfl) ⟨(by repeat (first | exact Below.refl _ _ | assumption | refine Below.drew ?_ | refine Below.alloc ?_ (by (try simp) <;> omega) _ | refine Below.setCell ?_ (by (try simp) <;> omega) _ | (refine Below.trans ?_ (Below.mono (by assumption) (by (try simp) <;> omega))))), (by (try simp) <;> omega), (by first | exact trivial | (simp only [Cells]; go_simp))⟩ ?_
            repeat (first | (refine' wpSteady_do _ _ _; rotate_left; (focus rfl); (focus (intro w1 hS R hR; have hc := hS.cells; simp only [Cells] at hc; obtain ⟨hco, hfo⟩ := bcell hS.old; go_simp; (try go_bits); first | exact hR _ hS | ((go_at_call 23; (with_reducible refine (BA2.out _).mono ?_); rintro e w2 ⟨rfl, hb2⟩; exact ⟨_, rfl, hR _ (hS.below hb2)⟩)) | ((go_at_call 20; (with_reducible refine (S6.out _).mono ?_); rintro e w2 ⟨rfl, hb2⟩; exact ⟨_, rfl, hR _ (hS.below hb2)⟩)))); simp only [Act.put, List.setIfInBounds_toArray, List.set_cons_zero, List.set_cons_succ]) | (refine wpSteady_pass ?_ ?_; (focus rfl); simp only [Act.put, List.setIfInBounds_toArray, List.set_cons_zero, List.set_cons_succ]))
            refine wpSteady_nil (fun uC hSC => ?_)
            have hcC := hSC.cells; have hbC := hSC.old; have hzC := hSC.size; clear hSC; simp only [Cells] at hcC; obtain ⟨hcoC, hfoC⟩ := bcell hbC
            have hbC' : Below uB.heap.size uB uC := hb05.trans (hbC.mono hb05.size)
            clear hb05 hbC hcoC hfoC
            go_wp2
            go_roundw
            case rel => exact ⟨k + 1, by omega, by go_num, hbC'⟩
            case measure => simp [intOf]; omega
          · have c2' : (dk == ds) = false := by simpa using c2
            clear c1 c2 mk sk h16 hlt
            have FA2 := FA1
            go_wp2_with (first | (go_at_call 23; (with_reducible refine (BA1.out _).mono ?_); rintro e w1 ⟨rfl, hb1⟩; obtain ⟨hc1, hf1⟩ := bcell hb1; have z1 := hb1.size; (try simp at z1); have l1 : b3 < w1.heap.size := (by omega)) | (have _ := w4; go_at_call 22; (with_reducible refine (FA2.out _).mono ?_); rintro e w5 ⟨rfl, hb5⟩; obtain ⟨hc5, hf5⟩ := bcell hb5; have z5 := hb5.size; (try simp at z5); have l5 : b3 < w5.heap.size := (by omega); have l5' : w1.heap.size < w5.heap.size := (by omega); have l5'' : w4.heap.size < w5.heap.size := (by omega)) | (go_at_call 22; (with_reducible refine (FA1.out _).mono ?_); rintro e w2 ⟨rfl, hb2⟩; obtain ⟨hc2, hf2⟩ := bcell hb2; have z2 := hb2.size; (try simp at z2); have l2 : b3 < w2.heap.size := (by omega); have l2' : w1.heap.size < w2.heap.size := (by omega)) | (go_at_call 23; (with_reducible refine (BA2.out _).mono ?_); rintro e w4 ⟨rfl, hb4⟩; obtain ⟨hc4, hf4⟩ := bcell hb4; have z4 := hb4.size; (try simp at z4); have l4 : b3 < w4.heap.size := (by omega); have l4' : w1.heap.size < w4.heap.size := (by omega)) | go_in)
            have p0 : w5.cell? ⟨w1.heap.size, 0, none⟩ = some (.int .u8 (bkR k)) := by rw [hc5 _ _ (by simp; omega)]; go_simp
            have p1 : w5.cell? ⟨w1.heap.size, 1, none⟩ = some (.int .u8 (bkG k)) := by rw [hc5 _ _ (by simp; omega)]; go_simp
            have p2 : w5.cell? ⟨w1.heap.size, 2, none⟩ = some (.int .u8 (bkB k)) := by rw [hc5 _ _ (by simp; omega)]; go_simp
            have p3 : w5.cell? ⟨w1.heap.size, 3, none⟩ = some (.int .u8 255) := by rw [hc5 _ _ (by simp; omega)]; go_simp
            have p4 : w5.cell? ⟨w4.heap.size, 0, none⟩ = some (.int .u8 (bkR k)) := by rw [hc5 _ _ (by simp)]; go_simp
            have p5 : w5.cell? ⟨w4.heap.size, 1, none⟩ = some (.int .u8 (bkG k)) := by rw [hc5 _ _ (by simp)]; go_simp
            have p6 : w5.cell? ⟨w4.heap.size, 2, none⟩ = some (.int .u8 (bkB k)) := by rw [hc5 _ _ (by simp)]; go_simp
            have p7 : w5.cell? ⟨w4.heap.size, 3, none⟩ = some (.int .u8 255) := by rw [hc5 _ _ (by simp)]; go_simp
            have hb05 : Below uB.heap.size uB w5 := (by repeat (first | exact Below.refl _ _ | assumption | refine Below.drew ?_ | refine Below.alloc ?_ (by (try simp) <;> omega) _ | refine Below.setCell ?_ (by (try simp) <;> omega) _ | (refine Below.trans ?_ (Below.mono (by assumption) (by (try simp) <;> omega)))))
            clear hb1 hb2 hb4 hb5 hc1 hc2 hc4 hc5 hf1 hf2 hf4 hf5 hbr r0 r1 r2 r3
            refine wp_region_steady (Held w5 0 []) (by kernel_rfl) (by kernel_rfl) ⟨(by repeat (first | exact Below.refl _ _ | assumption | refine Below.drew ?_ | refine Below.alloc ?_ (by (try simp) <;> omega) _ | refine Below.setCell ?_ (by (try simp) <;> omega) _ | (refine Below.trans ?_ (Below.mono (by assumption) (by (try simp) <;> omega))))), (by (try simp) <;> omega), (by first | exact trivial | (simp only [Cells]; go_simp))⟩ ?_
            repeat (first | (refine' wpSteady_do _ _ _; rotate_left; (focus rfl); (focus (intro w1 hS R hR; have hc := hS.cells; simp only [Cells] at hc; obtain ⟨hco, hfo⟩ := bcell hS.old; go_simp; (try go_bits); first | exact hR _ hS | ((go_at_call 23; (with_reducible refine (BA2.out _).mono ?_); rintro e w2 ⟨rfl, hb2⟩; exact ⟨_, rfl, hR _ (hS.below hb2)⟩)) | ((go_at_call 20; (with_reducible refine (S6.out _).mono ?_); rintro e w2 ⟨rfl, hb2⟩; exact ⟨_, rfl, hR _ (hS.below hb2)⟩)))); simp only [Act.put, List.setIfInBounds_toArray, List.set_cons_zero, List.set_cons_succ]) | (refine wpSteady_pass ?_ ?_; (focus rfl); simp only [Act.put, List.setIfInBounds_toArray, List.set_cons_zero, List.set_cons_succ]))
            refine wpSteady_nil (fun uC hSC => ?_)
            have hcC := hSC.cells; have hbC := hSC.old; have hzC := hSC.size; clear hSC; simp only [Cells] at hcC; obtain ⟨hcoC, hfoC⟩ := bcell hbC
            have hbC' : Below uB.heap.size uB uC := hb05.trans (hbC.mono hb05.size)
            clear hb05 hbC hcoC hfoC
            go_wp2
            go_roundw
            case rel => exact ⟨k + 1, by omega, by go_num, hbC'⟩
            case measure => simp [intOf]; omega
      · obtain ⟨q, hq⟩ : ∃ q, k % 16 = q := ⟨_, rfl⟩
        have hq16 : q < 16 := by omega
        have BA2 := BF'.out k hlt
        rw [hq] at BA2
        replace BA2 := Lib.hid BA2
        have BA3 := Lib.hid (BF.out q hq16)
        have FA2 := Lib.hid (FA.out q (by omega))
        have D2 : (0 : Int) ≤ dist fr fg fb q ∧ dist fr fg fb q ≤ 585225 := dist_bd fr fg fb q k1.out k2.out k3.out (by omega)
        obtain ⟨dk, edk⟩ : ∃ x, dist fr fg fb k = x := ⟨_, rfl⟩
        rw [edk] at FA1 D00 D01 mk
        replace edk := Lib.hid edk
        obtain ⟨dq, edq⟩ : ∃ x, dist fr fg fb q = x := ⟨_, rfl⟩
        rw [edq] at FA2 D2
        obtain ⟨D20, D21⟩ := D2
        replace edq := Lib.hid edq
        have E1 := eq4_refl (bkR q) (bkG q) (bkB q) 255
        have i16 : decide ((k : Int) < 16) = false := by simp; omega
        have i16' : decide (k < 16) = false := by simpa using h16
        have t1 : (k : Int) % 16 = (q : Int) := by omega
        have t2 : (k : Int).tmod 16 = (q : Int) := by rw [Int.tmod_eq_emod_of_nonneg kk0]; omega
        have e1 : decide (dk < dm) = false := by simpa using mk.1
        by_cases c1 : dk = dm
        · have c1' : (dk == dm) = true := by simpa using c1
          have d1 : decide ((k : Int) < m) = false := by simp; exact Nat.le_of_not_lt fun h => by have := mk.2 h; omega
          have d1' : decide (k < m) = false := by simp; exact Nat.le_of_not_lt fun h => by have := mk.2 h; omega
          clear c1 mk h16 hlt hq
          go_wp2_with (first | (go_at_call 23; (with_reducible refine (BA1.out _).mono ?_); rintro e w1 ⟨rfl, hb1⟩; obtain ⟨hc1, hf1⟩ := bcell hb1; have z1 := hb1.size; (try simp at z1); have l1 : b3 < w1.heap.size := (by omega)) | (have _ := w4; go_at_call 22; (with_reducible refine (FA2.out _).mono ?_); rintro e w5 ⟨rfl, hb5⟩; obtain ⟨hc5, hf5⟩ := bcell hb5; have z5 := hb5.size; (try simp at z5); have l5 : b3 < w5.heap.size := (by omega); have l5' : w1.heap.size < w5.heap.size := (by omega); have l5'' : w4.heap.size < w5.heap.size := (by omega)) | (go_at_call 22; (with_reducible refine (FA1.out _).mono ?_); rintro e w2 ⟨rfl, hb2⟩; obtain ⟨hc2, hf2⟩ := bcell hb2; have z2 := hb2.size; (try simp at z2); have l2 : b3 < w2.heap.size := (by omega); have l2' : w1.heap.size < w2.heap.size := (by omega)) | (go_at_call 23; (with_reducible refine (BA2.out _).mono ?_); rintro e w4 ⟨rfl, hb4⟩; obtain ⟨hc4, hf4⟩ := bcell hb4; have z4 := hb4.size; (try simp at z4); have l4 : b3 < w4.heap.size := (by omega); have l4' : w1.heap.size < w4.heap.size := (by omega)) | go_in)
          have p0 : w5.cell? ⟨w1.heap.size, 0, none⟩ = some (.int .u8 (bkR k)) := by rw [hc5 _ _ (by simp; omega)]; go_simp
          have p1 : w5.cell? ⟨w1.heap.size, 1, none⟩ = some (.int .u8 (bkG k)) := by rw [hc5 _ _ (by simp; omega)]; go_simp
          have p2 : w5.cell? ⟨w1.heap.size, 2, none⟩ = some (.int .u8 (bkB k)) := by rw [hc5 _ _ (by simp; omega)]; go_simp
          have p3 : w5.cell? ⟨w1.heap.size, 3, none⟩ = some (.int .u8 255) := by rw [hc5 _ _ (by simp; omega)]; go_simp
          have p4 : w5.cell? ⟨w4.heap.size, 0, none⟩ = some (.int .u8 (bkR q)) := by rw [hc5 _ _ (by simp)]; go_simp
          have p5 : w5.cell? ⟨w4.heap.size, 1, none⟩ = some (.int .u8 (bkG q)) := by rw [hc5 _ _ (by simp)]; go_simp
          have p6 : w5.cell? ⟨w4.heap.size, 2, none⟩ = some (.int .u8 (bkB q)) := by rw [hc5 _ _ (by simp)]; go_simp
          have p7 : w5.cell? ⟨w4.heap.size, 3, none⟩ = some (.int .u8 255) := by rw [hc5 _ _ (by simp)]; go_simp
          have hb05 : Below uB.heap.size uB w5 := (by repeat (first | exact Below.refl _ _ | assumption | refine Below.drew ?_ | refine Below.alloc ?_ (by (try simp) <;> omega) _ | refine Below.setCell ?_ (by (try simp) <;> omega) _ | (refine Below.trans ?_ (Below.mono (by assumption) (by (try simp) <;> omega)))))
          clear hb1 hb2 hb4 hb5 hc1 hc2 hc4 hc5 hf1 hf2 hf4 hf5 hbr r0 r1 r2 r3
          refine wp_region_steady (Held w5 0 []) (by kernel_rfl) (by kernel_rfl) ⟨(by repeat (first | exact Below.refl _ _ | assumption | refine Below.drew ?_ | refine Below.alloc ?_ (by (try simp) <;> omega) _ | refine Below.setCell ?_ (by (try simp) <;> omega) _ | (refine Below.trans ?_ (Below.mono (by assumption) (by (try simp) <;> omega))))), (by (try simp) <;> omega), (by first | exact trivial | (simp only [Cells]; go_simp))⟩ ?_
          repeat (first | (refine' wpSteady_do _ _ _; rotate_left; (focus rfl); (focus (intro w1 hS R hR; have hc := hS.cells; simp only [Cells] at hc; obtain ⟨hco, hfo⟩ := bcell hS.old; go_simp; (try go_bits); first | exact hR _ hS | ((go_at_call 23; (with_reducible refine (BA3.out _).mono ?_); rintro e w2 ⟨rfl, hb2⟩; exact ⟨_, rfl, hR _ (hS.below hb2)⟩)))); simp only [Act.put, List.setIfInBounds_toArray, List.set_cons_zero, List.set_cons_succ]) | (refine wpSteady_pass ?_ ?_; (focus rfl); simp only [Act.put, List.setIfInBounds_toArray, List.set_cons_zero, List.set_cons_succ]))
          refine wpSteady_nil (fun uC hSC => ?_)
          have hcC := hSC.cells; have hbC := hSC.old; have hzC := hSC.size; clear hSC; simp only [Cells] at hcC; obtain ⟨hcoC, hfoC⟩ := bcell hbC
          have hbC' : Below uB.heap.size uB uC := hb05.trans (hbC.mono hb05.size)
          clear hb05 hbC hcoC hfoC
          go_wp2
          go_roundw
          case rel => exact ⟨k + 1, by omega, by go_num, hbC'⟩
          case measure => simp [intOf]; omega
        · have c1' : (dk == dm) = false := by simpa using c1
          clear c1 mk h16 hlt hq
          go_wp2_with (first | (go_at_call 23; (with_reducible refine (BA1.out _).mono ?_); rintro e w1 ⟨rfl, hb1⟩; obtain ⟨hc1, hf1⟩ := bcell hb1; have z1 := hb1.size; (try simp at z1); have l1 : b3 < w1.heap.size := (by omega)) | (have _ := w4; go_at_call 22; (with_reducible refine (FA2.out _).mono ?_); rintro e w5 ⟨rfl, hb5⟩; obtain ⟨hc5, hf5⟩ := bcell hb5; have z5 := hb5.size; (try simp at z5); have l5 : b3 < w5.heap.size := (by omega); have l5' : w1.heap.size < w5.heap.size := (by omega); have l5'' : w4.heap.size < w5.heap.size := (by omega)) | (go_at_call 22; (with_reducible refine (FA1.out _).mono ?_); rintro e w2 ⟨rfl, hb2⟩; obtain ⟨hc2, hf2⟩ := bcell hb2; have z2 := hb2.size; (try simp at z2); have l2 : b3 < w2.heap.size := (by omega); have l2' : w1.heap.size < w2.heap.size := (by omega)) | (go_at_call 23; (with_reducible refine (BA2.out _).mono ?_); rintro e w4 ⟨rfl, hb4⟩; obtain ⟨hc4, hf4⟩ := bcell hb4; have z4 := hb4.size; (try simp at z4); have l4 : b3 < w4.heap.size := (by omega); have l4' : w1.heap.size < w4.heap.size := (by omega)) | go_in)
          have p0 : w5.cell? ⟨w1.heap.size, 0, none⟩ = some (.int .u8 (bkR k)) := by rw [hc5 _ _ (by simp; omega)]; go_simp
          have p1 : w5.cell? ⟨w1.heap.size, 1, none⟩ = some (.int .u8 (bkG k)) := by rw [hc5 _ _ (by simp; omega)]; go_simp
          have p2 : w5.cell? ⟨w1.heap.size, 2, none⟩ = some (.int .u8 (bkB k)) := by rw [hc5 _ _ (by simp; omega)]; go_simp
          have p3 : w5.cell? ⟨w1.heap.size, 3, none⟩ = some (.int .u8 255) := by rw [hc5 _ _ (by simp; omega)]; go_simp
          have p4 : w5.cell? ⟨w4.heap.size, 0, none⟩ = some (.int .u8 (bkR q)) := by rw [hc5 _ _ (by simp)]; go_simp
          have p5 : w5.cell? ⟨w4.heap.size, 1, none⟩ = some (.int .u8 (bkG q)) := by rw [hc5 _ _ (by simp)]; go_simp
          have p6 : w5.cell? ⟨w4.heap.size, 2, none⟩ = some (.int .u8 (bkB q)) := by rw [hc5 _ _ (by simp)]; go_simp
          have p7 : w5.cell? ⟨w4.heap.size, 3, none⟩ = some (.int .u8 255) := by rw [hc5 _ _ (by simp)]; go_simp
          have hb05 : Below uB.heap.size uB w5 := (by repeat (first | exact Below.refl _ _ | assumption | refine Below.drew ?_ | refine Below.alloc ?_ (by (try simp) <;> omega) _ | refine Below.setCell ?_ (by (try simp) <;> omega) _ | (refine Below.trans ?_ (Below.mono (by assumption) (by (try simp) <;> omega)))))
          clear hb1 hb2 hb4 hb5 hc1 hc2 hc4 hc5 hf1 hf2 hf4 hf5 hbr r0 r1 r2 r3
          refine wp_region_steady (Held w5 0 []) (by kernel_rfl) (by kernel_rfl) ⟨(by repeat (first | exact Below.refl _ _ | assumption | refine Below.drew ?_ | refine Below.alloc ?_ (by (try simp) <;> omega) _ | refine Below.setCell ?_ (by (try simp) <;> omega) _ | (refine Below.trans ?_ (Below.mono (by assumption) (by (try simp) <;> omega))))), (by (try simp) <;> omega), (by first | exact trivial | (simp only [Cells]; go_simp))⟩ ?_
          repeat (first | (refine' wpSteady_do _ _ _; rotate_left; (focus rfl); (focus (intro w1 hS R hR; have hc := hS.cells; simp only [Cells] at hc; obtain ⟨hco, hfo⟩ := bcell hS.old; go_simp; (try go_bits); first | exact hR _ hS | ((go_at_call 23; (with_reducible refine (BA3.out _).mono ?_); rintro e w2 ⟨rfl, hb2⟩; exact ⟨_, rfl, hR _ (hS.below hb2)⟩)))); simp only [Act.put, List.setIfInBounds_toArray, List.set_cons_zero, List.set_cons_succ]) | (refine wpSteady_pass ?_ ?_; (focus rfl); simp only [Act.put, List.setIfInBounds_toArray, List.set_cons_zero, List.set_cons_succ]))
          refine wpSteady_nil (fun uC hSC => ?_)
          have hcC := hSC.cells; have hbC := hSC.old; have hzC := hSC.size; clear hSC; simp only [Cells] at hcC; obtain ⟨hcoC, hfoC⟩ := bcell hbC
          have hbC' : Below uB.heap.size uB uC := hb05.trans (hbC.mono hb05.size)
          clear hb05 hbC hcoC hfoC
          go_wp2
          go_roundw
          case rel => exact ⟨k + 1, by omega, by go_num, hbC'⟩
          case measure => simp [intOf]; omega
    · obtain rfl : k = 256 := by omega
      have ml' := ml
      obtain ⟨x, y, z⟩ := bk_bd (m : Int) ⟨by omega, by omega⟩
      obtain ⟨n, hn⟩ : ∃ n, bestN (dist (bkR m) (bkG m) (bkB m)) 256 = n := ⟨_, rfl⟩
      have hnl : n < 256 := hn ▸ bestN_lt (dist (bkR m) (bkG m) (bkB m)) 256 (by omega)
      have MM : ∀ w, Calls Tryd.prog 21 #[.agg #[.int .u8 (bkR m), .int .u8 (bkG m), .int .u8 (bkB m), .int .u8 (255)]] w fun e w' => e = .returned (.int .u8 n) ∧ Below w.heap.size w w' := fun w => by
        have h := many_any _ _ _ 255 w x y z u255
        unfold numN at h
        rw [ov_full _ _ x, ov_full _ _ y, ov_full _ _ z, hn] at h
        exact h
      have BN := BM.out n hnl
      obtain ⟨q1, q2, q3⟩ := many_self m ml n hn.symm
      rw [q1, q2, q3] at BN
      replace MM := Lib.hid MM
      replace BN := Lib.hid BN
      have E1 := eq4_refl (bkR m) (bkG m) (bkB m) 255
      have g1 : decide (dm ≤ ds) = true := by simpa using key0
      clear q1 q2 q3 hn x y z
      have hB := hbr
      clear hbr
      go_wp2_with (first
        | (go_at_call 23; (with_reducible refine (BN.out _).mono ?_); (rintro e w2 ⟨rfl, hb2⟩; replace hB := hB.trans (hb2.mono hB.size); clear hb2))
        | (go_at_call 23; (with_reducible refine (BMm.out _).mono ?_); (rintro e w2 ⟨rfl, hb2⟩; replace hB := hB.trans (hb2.mono hB.size); clear hb2))
        | (go_at_call 21; (with_reducible refine (MM.out _).mono ?_); (rintro e w2 ⟨rfl, hb2⟩; replace hB := hB.trans (hb2.mono hB.size); clear hb2))
        | go_in)
      go_ret
      exact ⟨rfl, hBB.trans (hB.mono hBB.size)⟩
end Go.Proofs.YthecbopffdpefaaDoor
