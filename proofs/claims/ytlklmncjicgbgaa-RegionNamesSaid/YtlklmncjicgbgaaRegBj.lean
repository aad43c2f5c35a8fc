/-
  'alive' of the law: the program's answers at a few lists.
-/
import Derived.Test.YtlklmncjicgbgaaRegBi
import Derived.Test.YtlklmncjicgbgaaRegBh
namespace Go.Proofs.Ytlklmncjicgbgaa
open Go.RowKit
set_option linter.unusedVariables false
attribute [local go_sem] vwp vUpon_value vUpon_skip vUpon_enter vUpon_row
set_option linter.unusedSimpArgs false
set_option linter.unusedVariables false
attribute [local go_sem high] eql_rect
theorem rect_any (x y a b : Int) (w : World) : Calls Try.prog 38 #[.int .i64 x, .int .i64 y, .int .i64 a, .int .i64 b] w fun e w' => e = .returned (.agg #[.int .i64 x, .int .i64 y, .int .i64 a, .int .i64 b]) ∧ Below w.heap.size w w' := by
  go_enter Try.func38, Try.ntmps38
  go_wp2
  refine bodyPost_ret (v := .agg #[.int .i64 x, .int .i64 y, .int .i64 a, .int .i64 b]) (by simp [results, Try.results38, go_sem]) rfl ⟨rfl, (by repeat (first | exact Below.refl _ _ | assumption | refine Below.drew ?_ | refine Below.alloc ?_ (by (try simp) <;> omega) _ | refine Below.setCell ?_ (by (try simp) <;> omega) _ | (refine Below.trans ?_ (Below.mono (by assumption) (by (try simp) <;> omega)))))⟩
/-- Rectangles laid by the call itself. -/
theorem lit_row {w : World} {l : List Re} {n : Nat} {cs : Array Value} (hc : cs.toList = l.flatMap Re.enc) (hn : l.length = n) (hm : n ≤ 1000) : Row (w.alloc (.cells cs 49)).heap.size 4 Re.enc (w.alloc (.cells cs 49)) (.slice (some ⟨w.heap.size, 0, none⟩) n n) l := by
  have hb : Blk (w.alloc (.cells cs 49)) w.heap.size (l.flatMap Re.enc) 49 := by
    rw [← hc]
    exact Blk.new' rfl
  exact (Blk.ownsR (base := 0) hb hn (Nat.zero_le _) (by unfold maxLen; omega)).row (Nat.le_refl _)
def liF : List Re := [⟨0, 0, 2, 1⟩, ⟨0, 1, 3, 1⟩, ⟨1, 2, 2, 1⟩]
def liL : List Re := [⟨0, 0, 3, 1⟩, ⟨0, 1, 1, 1⟩, ⟨2, 1, 1, 1⟩, ⟨0, 2, 3, 1⟩]
theorem lit_of : bothE [⟨0, 0, 2, 2⟩, ⟨1, 1, 2, 2⟩] [] 1 = 0 ∧ bothL [⟨0, 0, 2, 2⟩, ⟨1, 1, 2, 2⟩] [] 1 = liF := ⟨by kernel_rfl, by kernel_rfl⟩
theorem lit_less : bothE [⟨0, 0, 3, 3⟩] [⟨1, 1, 1, 1⟩] 3 = 0 ∧ bothL [⟨0, 0, 3, 3⟩] [⟨1, 1, 1, 1⟩] 3 = liL := ⟨by kernel_rfl, by kernel_rfl⟩
theorem lit_area : areaE liF = 7 ∧ chkR liF = 0 := ⟨by kernel_rfl, by kernel_rfl⟩
theorem lit_bound : bndE [⟨0, 0, 1, 1⟩, ⟨4, 5, 2, 1⟩] = ⟨0, 0, 6, 6⟩ ∧ chkR [⟨0, 0, 1, 1⟩, ⟨4, 5, 2, 1⟩] = 0 := ⟨by kernel_rfl, by kernel_rfl⟩
theorem lit_same : samE [⟨0, 0, 2, 1⟩] [⟨0, 0, 1, 1⟩, ⟨1, 0, 1, 1⟩] = true ∧ askR [⟨0, 0, 2, 1⟩] [⟨0, 0, 1, 1⟩, ⟨1, 0, 1, 1⟩] = 0 := ⟨by kernel_rfl, by kernel_rfl⟩
theorem lit_has : hasE liF 2 2 = true := by kernel_rfl
theorem lit_check : isFormE liF = 0 ∧ isFormE [⟨0, 0, -1, 2⟩] = 5 := ⟨by kernel_rfl, by kernel_rfl⟩
theorem wf_small {l : List Re} (h : l.all (fun q => decide (-1000 ≤ q.x ∧ q.x ≤ 1000 ∧ -1000 ≤ q.y ∧ q.y ≤ 1000 ∧ -1000 ≤ q.wd ∧ q.wd ≤ 1000 ∧ -1000 ≤ q.ht ∧ q.ht ≤ 1000)) = true) : WfL l := by
  intro q hq
  have := List.all_eq_true.1 h q hq
  simp only [decide_eq_true_eq] at this
  unfold Re.Wf I64
  omega
set_option maxHeartbeats 4000000 in
set_option maxRecDepth 100000 in
theorem alive_any (w : World) : Calls Try.prog 8 #[] w fun e w' => e = .returned (.bool true) ∧ Below w.heap.size w w' := by
  have OF : ∀ W : World, Calls Try.prog 22 #[.slice (some ⟨W.heap.size, 0, none⟩) 2 2] (W.alloc (.cells #[.int .i64 0, .int .i64 0, .int .i64 2, .int .i64 2, .int .i64 1, .int .i64 1, .int .i64 2, .int .i64 2] 49)) (FormPost 0 liF (W.alloc (.cells #[.int .i64 0, .int .i64 0, .int .i64 2, .int .i64 2, .int .i64 1, .int .i64 1, .int .i64 2, .int .i64 2] 49))) := fun W => by
    have := of_any [⟨0, 0, 2, 2⟩, ⟨1, 1, 2, 2⟩] _ _ (lit_row (w := W) (cs := #[.int .i64 0, .int .i64 0, .int .i64 2, .int .i64 2, .int .i64 1, .int .i64 1, .int .i64 2, .int .i64 2]) rfl (n := 2) rfl (by omega)) (wf_small rfl)
    rw [lit_of.1, lit_of.2] at this
    exact this
  have LE : ∀ W1 W2 : World, Below (W1.alloc (.cells #[.int .i64 0, .int .i64 0, .int .i64 3, .int .i64 3] 49)).heap.size (W1.alloc (.cells #[.int .i64 0, .int .i64 0, .int .i64 3, .int .i64 3] 49)) W2 → Calls Try.prog 13 #[.slice (some ⟨W1.heap.size, 0, none⟩) 1 1, .slice (some ⟨W2.heap.size, 0, none⟩) 1 1] (W2.alloc (.cells #[.int .i64 1, .int .i64 1, .int .i64 1, .int .i64 1] 49)) (FormPost 0 liL (W2.alloc (.cells #[.int .i64 1, .int .i64 1, .int .i64 1, .int .i64 1] 49))) := fun W1 W2 hb => by
    have h1 := lit_row (w := W1) (cs := #[.int .i64 0, .int .i64 0, .int .i64 3, .int .i64 3]) (l := [⟨0, 0, 3, 3⟩]) rfl (n := 1) rfl (by omega)
    have h2 := lit_row (w := W2) (cs := #[.int .i64 1, .int .i64 1, .int .i64 1, .int .i64 1]) (l := [⟨1, 1, 1, 1⟩]) rfl (n := 1) rfl (by omega)
    have hb2 : Below W2.heap.size W2 (W2.alloc (.cells #[.int .i64 1, .int .i64 1, .int .i64 1, .int .i64 1] 49)) := (Below.refl _ _).alloc (Nat.le_refl _) _
    have := less_any [⟨0, 0, 3, 3⟩] [⟨1, 1, 1, 1⟩] _ _ _ ((((h1.below hb).mono hb.size).below hb2).mono hb2.size) h2 (wf_small rfl) (wf_small rfl)
    rw [lit_less.1, lit_less.2] at this
    exact this
  have BO : ∀ W : World, Calls Try.prog 30 #[.slice (some ⟨W.heap.size, 0, none⟩) 2 2] (W.alloc (.cells #[.int .i64 0, .int .i64 0, .int .i64 1, .int .i64 1, .int .i64 4, .int .i64 5, .int .i64 2, .int .i64 1] 49)) fun e w' => e = .returned (.tuple #[.agg #[.int .i64 0, .int .i64 0, .int .i64 6, .int .i64 6], .int .i64 0]) ∧ Below (W.alloc (.cells #[.int .i64 0, .int .i64 0, .int .i64 1, .int .i64 1, .int .i64 4, .int .i64 5, .int .i64 2, .int .i64 1] 49)).heap.size (W.alloc (.cells #[.int .i64 0, .int .i64 0, .int .i64 1, .int .i64 1, .int .i64 4, .int .i64 5, .int .i64 2, .int .i64 1] 49)) w' := fun W => by
    have := rbound_any [⟨0, 0, 1, 1⟩, ⟨4, 5, 2, 1⟩] _ _ (lit_row (w := W) (cs := #[.int .i64 0, .int .i64 0, .int .i64 1, .int .i64 1, .int .i64 4, .int .i64 5, .int .i64 2, .int .i64 1]) rfl (n := 2) rfl (by omega)) (wf_small rfl)
    rw [lit_bound.1, lit_bound.2] at this
    exact this
  have SA : ∀ W1 W2 : World, Below (W1.alloc (.cells #[.int .i64 0, .int .i64 0, .int .i64 2, .int .i64 1] 49)).heap.size (W1.alloc (.cells #[.int .i64 0, .int .i64 0, .int .i64 2, .int .i64 1] 49)) W2 → Calls Try.prog 14 #[.slice (some ⟨W1.heap.size, 0, none⟩) 1 1, .slice (some ⟨W2.heap.size, 0, none⟩) 2 2] (W2.alloc (.cells #[.int .i64 0, .int .i64 0, .int .i64 1, .int .i64 1, .int .i64 1, .int .i64 0, .int .i64 1, .int .i64 1] 49)) fun e w' => e = .returned (.tuple #[.bool true, .int .i64 0]) ∧ Below (W2.alloc (.cells #[.int .i64 0, .int .i64 0, .int .i64 1, .int .i64 1, .int .i64 1, .int .i64 0, .int .i64 1, .int .i64 1] 49)).heap.size (W2.alloc (.cells #[.int .i64 0, .int .i64 0, .int .i64 1, .int .i64 1, .int .i64 1, .int .i64 0, .int .i64 1, .int .i64 1] 49)) w' := fun W1 W2 hb => by
    have h1 := lit_row (w := W1) (cs := #[.int .i64 0, .int .i64 0, .int .i64 2, .int .i64 1]) (l := [⟨0, 0, 2, 1⟩]) rfl (n := 1) rfl (by omega)
    have h2 := lit_row (w := W2) (cs := #[.int .i64 0, .int .i64 0, .int .i64 1, .int .i64 1, .int .i64 1, .int .i64 0, .int .i64 1, .int .i64 1]) (l := [⟨0, 0, 1, 1⟩, ⟨1, 0, 1, 1⟩]) rfl (n := 2) rfl (by omega)
    have hb2 : Below W2.heap.size W2 (W2.alloc (.cells #[.int .i64 0, .int .i64 0, .int .i64 1, .int .i64 1, .int .i64 1, .int .i64 0, .int .i64 1, .int .i64 1] 49)) := (Below.refl _ _).alloc (Nat.le_refl _) _
    have := same_any [⟨0, 0, 2, 1⟩] [⟨0, 0, 1, 1⟩, ⟨1, 0, 1, 1⟩] _ _ _ ((((h1.below hb).mono hb.size).below hb2).mono hb2.size) h2 (wf_small rfl) (wf_small rfl)
    rw [lit_same.1, lit_same.2] at this
    exact this
  have C2 : ∀ W : World, Calls Try.prog 23 #[.slice (some ⟨W.heap.size, 0, none⟩) 1 1] (W.alloc (.cells #[.int .i64 0, .int .i64 0, .int .i64 (-1), .int .i64 2] 49)) fun e w' => e = .returned (.int .i64 5) ∧ Below (W.alloc (.cells #[.int .i64 0, .int .i64 0, .int .i64 (-1), .int .i64 2] 49)).heap.size (W.alloc (.cells #[.int .i64 0, .int .i64 0, .int .i64 (-1), .int .i64 2] 49)) w' := fun W => by
    have := rgcheck_any [⟨0, 0, -1, 2⟩] _ _ (lit_row (w := W) (cs := #[.int .i64 0, .int .i64 0, .int .i64 (-1), .int .i64 2]) rfl (n := 1) rfl (by omega)) (wf_small rfl)
    rw [lit_check.2] at this
    exact this
  have AR := fun (W : World) v (h : Row W.heap.size 4 Re.enc W v liF) => rarea_any liF v W h (wf_small rfl)
  rw [lit_area.1, lit_area.2] at AR
  have HA := fun (W : World) v (h : Row W.heap.size 4 Re.enc W v liF) => rhas_any liF v 2 2 W h (wf_small rfl) (by unfold I64; omega) (by unfold I64; omega)
  rw [lit_has, lit_area.2] at HA
  have C1 := fun (W : World) v (h : Row W.heap.size 4 Re.enc W v liF) => rgcheck_any liF v W h (wf_small rfl)
  rw [lit_check.1] at C1
  replace OF := Lib.hid OF
  replace LE := Lib.hid LE
  replace BO := Lib.hid BO
  replace SA := Lib.hid SA
  replace C2 := Lib.hid C2
  replace AR := Lib.hid AR
  replace HA := Lib.hid HA
  replace C1 := Lib.hid C1
  go_enter Try.func8, Try.ntmps8
  go_upto_region 2 with (first
    | (go_at_call 38; (with_reducible refine (rect_any 0 0 2 2 _).mono ?_); rintro e a1 ⟨rfl, hba1⟩; have hza1 := hba1.size; (try simp at hza1))
    | (go_at_call 38; (with_reducible refine (rect_any 1 1 2 2 _).mono ?_); rintro e a2 ⟨rfl, hba2⟩; have hza2 := hba2.size; (try simp at hza2))
    | (go_at_call 22; (with_reducible refine (OF.out _).mono ?_); rintro e w1 ⟨hb1, vf, rfl, hcf⟩; have hw1 : Below w.heap.size w w1 := (by repeat (first | exact Below.refl _ _ | assumption | refine Below.drew ?_ | refine Below.alloc ?_ (by (try simp) <;> omega) _ | refine Below.setCell ?_ (by (try simp) <;> omega) _ | (refine Below.trans ?_ (Below.mono (by assumption) (by (try simp) <;> omega))))))
    | go_in)
  have hcf := hcf.less (Nat.zero_le _)
  rcases hcf with ⟨_, h⟩ | hcf0
  · simp [liF] at h
  have hcf : CutR 0 w1 vf liF := .inr hcf0
  obtain ⟨gf, kf, _, rfl, _, hgf, hk3, hkm, _⟩ := hcf0
  rw [show liF.length = 3 from rfl] at hcf hk3 ⊢
  clear hba1 hba2 hb1 OF
  replace hcf := Lib.hid hcf
  have z1 := hw1.size
  go_upto_region 3 with (first
    | (go_at_call 38; (with_reducible refine (rect_any 0 0 3 3 _).mono ?_); rintro e b1 ⟨rfl, hbb1⟩; have hzb1 := hbb1.size; (try simp at hzb1))
    | (go_at_call 38; (with_reducible refine (rect_any 1 1 1 1 _).mono ?_); rintro e b2 ⟨rfl, hbb2⟩; have hzb2 := hbb2.size; (try simp at hzb2))
    | (go_at_call 13; (with_reducible refine (LE.out _ _ (by assumption)).mono ?_); rintro e w2 ⟨hb2, vl, rfl, hcl⟩; have hw12 : Below w1.heap.size w1 w2 := (by repeat (first | exact Below.refl _ _ | assumption | refine Below.drew ?_ | refine Below.alloc ?_ (by (try simp) <;> omega) _ | refine Below.setCell ?_ (by (try simp) <;> omega) _ | (refine Below.trans ?_ (Below.mono (by assumption) (by (try simp) <;> omega))))))
    | go_in)
  have hcl := hcl.less (Nat.zero_le _)
  rcases hcl with ⟨_, h⟩ | hcl0
  · simp [liL] at h
  have hcl : CutR 0 w2 vl liL := .inr hcl0
  obtain ⟨gl, kl, _, rfl, _, hgl, hl3, hlm, _⟩ := hcl0
  rw [show liL.length = 4 from rfl] at hcl hl3 ⊢
  have hcf2 := hcf.out.below hw12 (Nat.le_refl _)
  have hw2 : Below w.heap.size w w2 := hw1.trans (hw12.mono z1)
  have z2 := hw2.size
  replace hcl := Lib.hid hcl
  replace hcf2 := Lib.hid hcf2
  clear hbb1 hbb2 hb2 LE hw12 hcf
  go_upto_region 4 with (first
    | (go_at_call 28; (with_reducible refine (AR.out _ _ (hcf2.out.row (Nat.le_refl _))).mono ?_); rintro e w3 ⟨rfl, hb3⟩)
    | go_in)
  have hcf3 := Lib.hid (hcf2.out.below hb3 (Nat.le_refl _))
  have hcl3 := Lib.hid (hcl.out.below hb3 (Nat.le_refl _))
  have hw3 : Below w.heap.size w w3 := hw2.trans (hb3.mono z2)
  have z3 := hw3.size
  clear hb3 hcf2 hcl hw1 hw2 AR
  go_upto_region 5 with (first
    | (go_at_call 38; (with_reducible refine (rect_any 0 0 1 1 _).mono ?_); rintro e c1 ⟨rfl, hbc1⟩; have hzc1 := hbc1.size; (try simp at hzc1))
    | (go_at_call 38; (with_reducible refine (rect_any 4 5 2 1 _).mono ?_); rintro e c2 ⟨rfl, hbc2⟩; have hzc2 := hbc2.size; (try simp at hzc2))
    | (go_at_call 30; (with_reducible refine (BO.out _).mono ?_); rintro e w4 ⟨rfl, hb4⟩; have hw34 : Below w3.heap.size w3 w4 := (by repeat (first | exact Below.refl _ _ | assumption | refine Below.drew ?_ | refine Below.alloc ?_ (by (try simp) <;> omega) _ | refine Below.setCell ?_ (by (try simp) <;> omega) _ | (refine Below.trans ?_ (Below.mono (by assumption) (by (try simp) <;> omega))))))
    | go_in)
  have hw35 : Below w3.heap.size w3 (w4.alloc (.cells #[.int .i64 0, .int .i64 0, .int .i64 6, .int .i64 6] 49)) := hw34.alloc hw34.size _
  have hbx : Blk (w4.alloc (.cells #[.int .i64 0, .int .i64 0, .int .i64 6, .int .i64 6] 49)) w4.heap.size (Re.enc ⟨0, 0, 6, 6⟩) 49 := Blk.new' rfl
  generalize w4.alloc (.cells #[.int .i64 0, .int .i64 0, .int .i64 6, .int .i64 6] 49) = w5 at hw35 hbx ⊢
  have hcf5 := Lib.hid (hcf3.out.below hw35 (Nat.le_refl _))
  have hcl5 := Lib.hid (hcl3.out.below hw35 (Nat.le_refl _))
  have hw5 : Below w.heap.size w w5 := hw3.trans (hw35.mono z3)
  have z5 := hw5.size
  have hbx5 := Lib.hid hbx
  obtain ⟨bx, hbxe⟩ : ∃ bx, w4.heap.size = bx := ⟨_, rfl⟩
  rw [hbxe] at hbx5 ⊢
  have y5 := hbx5.out.lt
  clear hbx hbxe hw34 hw35 hbc1 hbc2 hb4 hcf3 hcl3 hw3 BO
  go_upto_region 6 with (first
    | (go_at_call 38; (with_reducible refine (rect_any 0 0 2 1 _).mono ?_); rintro e d1 ⟨rfl, hbd1⟩; have hzd1 := hbd1.size; (try simp at hzd1))
    | (go_at_call 38; (with_reducible refine (rect_any 0 0 1 1 _).mono ?_); rintro e d2 ⟨rfl, hbd2⟩; have hzd2 := hbd2.size; (try simp at hzd2))
    | (go_at_call 38; (with_reducible refine (rect_any 1 0 1 1 _).mono ?_); rintro e d3 ⟨rfl, hbd3⟩; have hzd3 := hbd3.size; (try simp at hzd3))
    | (go_at_call 14; (with_reducible refine (SA.out _ _ (by first | assumption | (exact hbd2.trans (hbd3.mono hbd2.size)))).mono ?_); rintro e w6 ⟨rfl, hb6⟩; have hw56 : Below w5.heap.size w5 w6 := (by repeat (first | exact Below.refl _ _ | assumption | refine Below.drew ?_ | refine Below.alloc ?_ (by (try simp) <;> omega) _ | refine Below.setCell ?_ (by (try simp) <;> omega) _ | (refine Below.trans ?_ (Below.mono (by assumption) (by (try simp) <;> omega))))))
    | go_in)
  have hcf6 := Lib.hid (hcf5.out.below hw56 (Nat.le_refl _))
  have hcl6 := Lib.hid (hcl5.out.below hw56 (Nat.le_refl _))
  have hbx6 := Lib.hid (hbx5.out.below hw56 y5)
  have hw6 : Below w.heap.size w w6 := hw5.trans (hw56.mono z5)
  have z6 := hw6.size
  clear hbd1 hbd2 hbd3 hb6 hw56 hcf5 hcl5 hbx5 hw5 SA
  go_upto_region 9 with (first
    | (go_at_call 26; (with_reducible refine (HA.out _ _ (hcf6.out.row (Nat.le_refl _))).mono ?_); rintro e w7 ⟨rfl, hb7⟩)
    | go_in)
  have hcf7 := hcf6.out.below hb7 (Nat.le_refl _)
  have hcl7 := hcl6.out.below hb7 (Nat.le_refl _)
  have hbx7 := hbx6.out.below hb7 (by have := hbx6.out.lt; exact this)
  have hw7 : Below w.heap.size w w7 := hw6.trans (hb7.mono z6)
  have z7 := hw7.size
  obtain ⟨b, o, _, e, yf, _, _, hel⟩ := row_re (hcf7.row (Nat.le_refl _)) (by decide)
  injection e with e he1 he2
  injection e with e
  injection e with e1 e2 e3
  clear he1 he2
  subst e1
  subst e2
  obtain ⟨b, o, _, e, yl, _, _, hell⟩ := row_re (hcl7.row (Nat.le_refl _)) (by decide)
  injection e with e he1 he2
  injection e with e
  injection e with e1 e2 e3
  clear he1 he2
  subst e1
  subst e2
  have f0 : w7.cell? ⟨gf, 0, none⟩ = some (.int .i64 0) := (hel 0 ⟨0, 0, 2, 1⟩ rfl).1
  have f1 : w7.cell? ⟨gf, 1, none⟩ = some (.int .i64 0) := (hel 0 ⟨0, 0, 2, 1⟩ rfl).2.1
  have f2 : w7.cell? ⟨gf, 2, none⟩ = some (.int .i64 2) := (hel 0 ⟨0, 0, 2, 1⟩ rfl).2.2.1
  have f3 : w7.cell? ⟨gf, 3, none⟩ = some (.int .i64 1) := (hel 0 ⟨0, 0, 2, 1⟩ rfl).2.2.2
  have f4 : w7.cell? ⟨gf, 4, none⟩ = some (.int .i64 0) := (hel 1 ⟨0, 1, 3, 1⟩ rfl).1
  have f5 : w7.cell? ⟨gf, 5, none⟩ = some (.int .i64 1) := (hel 1 ⟨0, 1, 3, 1⟩ rfl).2.1
  have f6 : w7.cell? ⟨gf, 6, none⟩ = some (.int .i64 3) := (hel 1 ⟨0, 1, 3, 1⟩ rfl).2.2.1
  have f7 : w7.cell? ⟨gf, 7, none⟩ = some (.int .i64 1) := (hel 1 ⟨0, 1, 3, 1⟩ rfl).2.2.2
  have f8 : w7.cell? ⟨gf, 8, none⟩ = some (.int .i64 1) := (hel 2 ⟨1, 2, 2, 1⟩ rfl).1
  have f9 : w7.cell? ⟨gf, 9, none⟩ = some (.int .i64 2) := (hel 2 ⟨1, 2, 2, 1⟩ rfl).2.1
  have f10 : w7.cell? ⟨gf, 10, none⟩ = some (.int .i64 2) := (hel 2 ⟨1, 2, 2, 1⟩ rfl).2.2.1
  have f11 : w7.cell? ⟨gf, 11, none⟩ = some (.int .i64 1) := (hel 2 ⟨1, 2, 2, 1⟩ rfl).2.2.2
  have l0 : w7.cell? ⟨gl, 12, none⟩ = some (.int .i64 0) := (hell 3 ⟨0, 2, 3, 1⟩ rfl).1
  have l1 : w7.cell? ⟨gl, 13, none⟩ = some (.int .i64 2) := (hell 3 ⟨0, 2, 3, 1⟩ rfl).2.1
  have l2 : w7.cell? ⟨gl, 14, none⟩ = some (.int .i64 3) := (hell 3 ⟨0, 2, 3, 1⟩ rfl).2.2.1
  have l3 : w7.cell? ⟨gl, 15, none⟩ = some (.int .i64 1) := (hell 3 ⟨0, 2, 3, 1⟩ rfl).2.2.2
  have yb := hbx7.lt
  obtain ⟨x0, x1, x2, x3⟩ := blk_re hbx7
  have q1 : eq4 0 0 2 1 0 0 2 1 = true := rfl
  have q2 : eq4 0 1 3 1 0 1 3 1 = true := rfl
  have q3 : eq4 1 2 2 1 1 2 2 1 = true := rfl
  have q4 : eq4 0 2 3 1 0 2 3 1 = true := rfl
  have q5 : eq4 0 0 6 6 0 0 6 6 = true := rfl
  replace hcf7 := Lib.hid hcf7
  clear hel hell hcl7 hbx7 hcf6 hcl6 hbx6 hw6 hb7 HA hgf hgl z1 z2 z3 z5 z6
  refine wp_region_steady_then (Held w7 0 []) 48 (by kernel_rfl) (by kernel_rfl) (by decide) (by kernel_rfl) (by kernel_rfl) ⟨(by repeat (first | exact Below.refl _ _ | assumption | refine Below.drew ?_ | refine Below.alloc ?_ (by (try simp) <;> omega) _ | refine Below.setCell ?_ (by (try simp) <;> omega) _ | (refine Below.trans ?_ (Below.mono (by assumption) (by (try simp) <;> omega))))), (by (try simp) <;> omega), (by first | exact trivial | (simp only [Cells]; go_simp))⟩ ?_
  simp only [List.take_succ_cons, List.take_zero]
  repeat (first | (refine' wpSteady_do _ _ _; rotate_left; (focus rfl); (focus (intro w1 hS R hR; have hc := hS.cells; simp only [Cells] at hc; obtain ⟨hco, hfo⟩ := bcell hS.old; go_simp; (try go_bits); first | exact hR _ hS | (first
        | (go_at_call 38; (with_reducible refine (rect_any _ _ _ _ _).mono ?_); rintro e w8 ⟨rfl, hb8⟩; exact ⟨_, rfl, hR _ (hS.below hb8)⟩)
        | (go_at_call 23; (with_reducible refine (C1.out _ _ ((hcf7.out.below hS.old (Nat.le_refl _)).row (Nat.le_refl _))).mono ?_); rintro e w8 ⟨rfl, hb8⟩; exact ⟨_, rfl, hR _ (hS.below hb8)⟩)))); simp only [Act.put, List.setIfInBounds_toArray, List.set_cons_zero, List.set_cons_succ]) | (refine wpSteady_pass ?_ ?_; (focus rfl); simp only [Act.put, List.setIfInBounds_toArray, List.set_cons_zero, List.set_cons_succ]))
  refine wpSteady_nil (fun uA hSA => ?_)
  have hcA := hSA.cells; have hbA := hSA.old; have hzA := hSA.size; clear hSA; simp only [Cells] at hcA; obtain ⟨hcoA, hfoA⟩ := bcell hbA
  simp only [List.drop_succ_cons, List.drop_zero, List.drop_nil]
  go_wp2_with (first
    | (go_at_call 23; (with_reducible refine (C2.out _).mono ?_); rintro e w8 ⟨rfl, hb8⟩)
    | go_in)
  go_ret
  exact ⟨rfl, (hw7.trans (hbA.mono z7)).trans ((((Below.refl _ _).alloc (Nat.le_refl _) _).trans (hb8.mono (by simp))).mono (by have := hbA.size; omega))⟩
end Go.Proofs.Ytlklmncjicgbgaa
