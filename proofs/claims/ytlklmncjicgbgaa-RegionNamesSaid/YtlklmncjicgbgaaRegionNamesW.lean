/-
  The law RegionNames, walked.
-/
import Derived.Test.YtlklmncjicgbgaaRegNa
namespace Go.Proofs.Ytlklmncjicgbgaa
open Go.RowKit
set_option linter.unusedVariables false
attribute [local go_sem] vwp vUpon_value vUpon_skip vUpon_enter vUpon_row
set_option linter.unusedSimpArgs false
set_option linter.unusedVariables false
theorem eq_pointx (d : Nat) (w : World) (a b a' b' : Int) : (Op.equalIn (d + 2) 34 (.agg #[.int .i64 a, .int .i64 b]) (.agg #[.int .i64 a', .int .i64 b'])).run Try.prog w = .ok ((a == a') && (b == b')) w := by
  have A := Try.underlying34
  have B := Try.underlying3
  rw [run_equalIn_agg w (d + 1) _ _ _ (by simp [Program.fieldsOf, A]) (by kernel_rfl)]
  simp only [Program.fieldsOf, A]
  by_cases h0 : a = a' <;> by_cases h1 : b = b' <;> simp [Op.eqFields, part, isAgg, run_underlying B, run_equalIn_int _ _ _ _ _ _ _ B, h0, h1]
theorem eql_pointx (w : World) (a b a' b' : Int) : (binOp .eql 34 (.agg #[.int .i64 a, .int .i64 b]) (.agg #[.int .i64 a', .int .i64 b'])).run Try.prog w = .ok (.bool ((a == a') && (b == b'))) w := by
  rw [run_eql_struct, eq_pointx 9998]
  rfl
attribute [local go_sem high] eql_pointx
theorem isForm_of' {l : List Re} (m : MayL l) (ll : l.length ≤ 1024) (h : formR l [] 1 = l) : isFormE l = 0 := by
  have e1 : madeE l [] 1 = 0 := by unfold madeE; rw [h, if_neg (by omega)]
  have e2 : madeL l [] 1 = l := by unfold madeL; rw [h, if_neg (by omega)]
  unfold isFormE
  rw [if_pos (chk_of m ll), e1, e2, if_pos ⟨rfl, eqRs_refl l⟩]
theorem chk_many {l : List Re} (h : 1024 < l.length) : chkR l = 4 := by unfold chkR; rw [if_pos h]
theorem row_dropR {B : Nat} {w : World} {b o n cap : Nat} {xs : List Re} (h : Row B 4 Re.enc w (.slice (some ⟨b, o, none⟩) n cap) xs) (k : Nat) (hk : k ≤ n) : Row B 4 Re.enc w (.slice (some ⟨b, o + k * 4, none⟩) (n - k) (cap - k)) (xs.drop k) := by
  obtain ⟨s', c', e, hl, hc', hx⟩ := h
  injection e with e1 e3 e2
  subst e1
  subst e2
  refine ⟨_, cap - k, by rw [List.length_drop, e3], by rw [List.length_drop]; omega, by omega, fun h0 => ?_⟩
  rw [List.length_drop] at h0
  obtain ⟨b', o', hs, hlt, hx⟩ := hx (by omega)
  injection hs with hs
  injection hs with hs1 hs2 _
  subst hs1
  subst hs2
  refine ⟨b, _, rfl, hlt, fun j x hj i u hi => ?_⟩
  rw [List.getElem?_drop] at hj
  have := hx _ x hj i u hi
  rw [show o + (k + j) * 4 + i = o + k * 4 + j * 4 + i by omega] at this
  exact this
theorem row_1024 {B g : Nat} {W : World} {R5 R4 : List Re} (h : CutR B W (.slice (some ⟨g, 0, none⟩) 1025 1025) R5) (hl : R5.length = 1025) (ht : R5.take 1024 = R4) : Row W.heap.size 4 Re.enc W (.slice (some ⟨g, 0, none⟩) 1024 1025) R4 := by
  have h1 := h.row (Nat.le_refl _)
  rw [← hl] at h1
  have := row_take h1 1024 1025 (by rw [hl]; omega) (by omega) (by unfold maxLen; omega)
  rw [ht] at this
  exact this
theorem row_first {B g : Nat} {W : World} {R5 R1 : List Re} (h : CutR B W (.slice (some ⟨g, 0, none⟩) 1025 1025) R5) (hl : R5.length = 1025) (ht : R5.take 1 = R1) : Row W.heap.size 4 Re.enc W (.slice (some ⟨g, 0, none⟩) 1 1025) R1 := by
  have h1 := h.row (Nat.le_refl _)
  rw [← hl] at h1
  have := row_take h1 1 1025 (by rw [hl]; omega) (by omega) (by unfold maxLen; omega)
  rw [ht] at this
  exact this
theorem row_last {B g : Nat} {W : World} {R5 R1 : List Re} (h : CutR B W (.slice (some ⟨g, 0, none⟩) 1025 1025) R5) (ht : R5.drop 1024 = R1) : Row W.heap.size 4 Re.enc W (.slice (some ⟨g, 4096, none⟩) 1 1) R1 := by
  have := row_dropR (h.row (Nat.le_refl _)) 1024 (by omega)
  rw [ht] at this
  exact this
theorem CutR.keep {base : Nat} {w w' : World} {v : Value} {l : List Re} {ob : Option Nat} (h : CutR base w v l) (hg : w.grownBy w' ob) (hr : ∀ g, v.ownBlock = some g → ob ≠ some g) : CutR base w' v l := by
  rcases h with h | ⟨g, cap, cur, rfl, h2, h3, h4⟩
  · exact .inl h
  · exact .inr ⟨g, cap, cur, rfl, h2, (hg.block g (lt_of_block h3) (fun e => hr g rfl e.symm)).trans h3, h4⟩
def q0R : Re := ⟨0, 0, 1, 1⟩
theorem one0 : oneR 0 = q0R := rfl
def wideR : Re := ⟨-16384, -16384, 32768, 32768⟩
theorem lit_wide : areaE [wideR, wideR] = 1073741824 ∧ chkR [wideR, wideR] = 0 := ⟨by kernel_rfl, by kernel_rfl⟩
theorem lit_wider : areaE [⟨-16384, -16384, 32769, 32768⟩] = 0 ∧ chkR [⟨-16384, -16384, 32769, 32768⟩] = 5 := ⟨by kernel_rfl, by kernel_rfl⟩
theorem lit_m1 : movE 16383 (-16384) [q0R] = 0 ∧ movL 16383 (-16384) [q0R] = [⟨16383, -16384, 1, 1⟩] := ⟨by kernel_rfl, by kernel_rfl⟩
theorem lit_m2 : movE 16384 0 [q0R] = 5 ∧ movL 16384 0 [q0R] = [] := ⟨by kernel_rfl, by kernel_rfl⟩
theorem lit_m3 : movE 0 65537 [] = 2 ∧ movL 0 65537 [] = [] := ⟨by kernel_rfl, by kernel_rfl⟩
theorem lit_m4 : movE 0 (-65536) [] = 0 ∧ movL 0 (-65536) [] = [] := ⟨by kernel_rfl, by kernel_rfl⟩
theorem lit_s : samE [⟨0, 0, 2, 1⟩] [⟨0, 0, 3, 1⟩] = false ∧ askR [⟨0, 0, 2, 1⟩] [⟨0, 0, 3, 1⟩] = 0 := ⟨by kernel_rfl, by kernel_rfl⟩
theorem lit_one : areaM (formR [q0R] [] 1) = 1 := by kernel_rfl
theorem twins_area : areaE (List.replicate 1024 (q0R)) = 1 := by
  unfold areaE
  have hm : mayR (q0R) = true := by decide
  rw [chk_of (fun p hp => by rw [(List.mem_replicate.1 hp).2]; exact hm) (by rw [List.length_replicate]; omega), if_pos rfl, twin_form 1024 _ hm (by omega)]
  exact lit_one
set_option maxHeartbeats 8000000 in
set_option maxRecDepth 100000 in
theorem walk_RegionNames (w : World) : Calls Try.prog 7 #[] w fun e w' => e = .returned (.bool true) ∧ Below w.heap.size w w' := by
  obtain ⟨iM, hi0, hm0, hm1, hm2⟩ := info_parts infoRe
  obtain ⟨R5, h5⟩ : ∃ R, rowR 1025 = R := ⟨_, rfl⟩
  obtain ⟨R4, h4⟩ : ∃ R, rowR 1024 = R := ⟨_, rfl⟩
  have t4 : R5.take 1024 = R4 := by rw [← h5, ← h4]; exact rowR_take (by omega)
  have d4 : R5.drop 1024 = [oneR 1024] := by
    rw [← h5, show (1025 : Nat) = 1024 + 1 from rfl, rowR_succ, List.drop_append_of_le_length (by rw [rowR_len]; exact Nat.le_refl _), List.drop_eq_nil_of_le (by rw [rowR_len]; exact Nat.le_refl _)]
    rfl
  have t1 : R5.take 1 = [q0R] := by rw [← h5, rowR_take (by omega)]; rfl
  have g0 : R5[0]? = some (q0R) := by rw [← h5]; exact rowR_at (by omega)
  have m5 : MayL R5 := by rw [← h5]; exact rowR_may (by omega)
  have m4 : MayL R4 := by rw [← h4]; exact rowR_may (by omega)
  have l5 : R5.length = 1025 := by rw [← h5]; exact rowR_len _
  have l4 : R4.length = 1024 := by rw [← h4]; exact rowR_len _
  have f4 : formR R4 [] 1 = R4 := by rw [← h4]; exact rowR_form 1024 (by omega)
  have f5 : formR R4 [oneR 1024] 1 = R5 := by rw [← h4, ← h5]; exact rowR_same 1024 (by omega)
  have m1 : MayL [oneR 1024] := fun q hq => by rw [← d4] at hq; exact m5 q (List.mem_of_mem_drop hq)
  have e4 : bothE R4 [] 1 = 0 ∧ bothL R4 [] 1 = R4 := by
    obtain ⟨e1, e2⟩ := both_of (what := 1) m4 mayL_nil (by omega) (by simp) (by rw [f4]; omega)
    rw [f4] at e2
    exact ⟨e1, e2⟩
  have e5 : bothE R5 [] 1 = 4 ∧ bothL R5 [] 1 = [] := by
    have hc : askR R5 [] = 4 := by unfold askR; rw [chk_many (by omega), if_neg (by decide)]
    unfold bothE bothL
    rw [hc, if_neg (by decide), if_neg (by decide)]
    exact ⟨rfl, rfl⟩
  have eJ : bothE R4 [oneR 1024] 1 = 4 ∧ bothL R4 [oneR 1024] 1 = [] := by
    have hc : askR R4 [oneR 1024] = 0 := by unfold askR; rw [chk_of m4 (by omega), if_pos rfl, chk_of m1 (by simp)]
    unfold bothE bothL madeE madeL
    rw [hc, if_pos rfl, if_pos rfl, f5, if_pos (by omega), if_pos (by omega)]
    exact ⟨rfl, rfl⟩
  have eC := isForm_of' m4 (by omega) f4
  have RW : ∀ W : World, Calls Try.prog 37 #[.int .i64 1025] W fun e w' => Below W.heap.size W w' ∧ ∃ g, e = .returned (.slice (some ⟨g, 0, none⟩) 1025 1025) ∧ CutR W.heap.size w' (.slice (some ⟨g, 0, none⟩) 1025 1025) R5 := fun W => by rw [← h5]; exact lrow_any 1025 (by omega) W
  have OF := fun v W h => of_any R4 v W h (wf_may m4)
  rw [e4.1, e4.2] at OF
  have OG := fun v W h => of_any R5 v W h (wf_may m5)
  rw [e5.1, e5.2] at OG
  have JO := fun v1 v2 W h1 h2 => join_any R4 [oneR 1024] v1 v2 W h1 h2 (wf_may m4) (wf_may m1)
  rw [eJ.1, eJ.2] at JO
  have CH := fun v W h => rgcheck_any R4 v W h (wf_may m4)
  rw [eC] at CH
  have SA := fun v1 v2 W h1 h2 => same2_any R4 R4 v1 v2 W h1 h2 (by omega) (by omega)
  rw [eqRs_refl] at SA
  have M1 := fun v W h => rmoved_any [q0R] v 16383 (-16384) W h (wf_small rfl) (by unfold I64; omega) (by unfold I64; omega)
  rw [lit_m1.1, lit_m1.2] at M1
  have M2 := fun v W h => rmoved_any [q0R] v 16384 0 W h (wf_small rfl) (by unfold I64; omega) (by unfold I64; omega)
  rw [lit_m2.1, lit_m2.2] at M2
  have M3 := fun W => rmoved_any [] (.slice none 0 0) 0 65537 W (nilRow _ _) wf_nil (by unfold I64; omega) (by unfold I64; omega)
  rw [lit_m3.1, lit_m3.2] at M3
  have M4 := fun W => rmoved_any [] (.slice none 0 0) 0 (-65536) W (nilRow _ _) wf_nil (by unfold I64; omega) (by unfold I64; omega)
  rw [lit_m4.1, lit_m4.2] at M4
  have AW : ∀ W : World, Calls Try.prog 28 #[.slice (some ⟨W.heap.size, 0, none⟩) 2 2] (W.alloc (.cells #[.int .i64 (-16384), .int .i64 (-16384), .int .i64 32768, .int .i64 32768, .int .i64 (-16384), .int .i64 (-16384), .int .i64 32768, .int .i64 32768] 49)) fun e w' => e = .returned (.tuple #[.int .i64 1073741824, .int .i64 0]) ∧ Below (W.alloc (.cells #[.int .i64 (-16384), .int .i64 (-16384), .int .i64 32768, .int .i64 32768, .int .i64 (-16384), .int .i64 (-16384), .int .i64 32768, .int .i64 32768] 49)).heap.size (W.alloc (.cells #[.int .i64 (-16384), .int .i64 (-16384), .int .i64 32768, .int .i64 32768, .int .i64 (-16384), .int .i64 (-16384), .int .i64 32768, .int .i64 32768] 49)) w' := fun W => by
    have := rarea_any [wideR, wideR] _ _ (lit_row (w := W) (cs := #[.int .i64 (-16384), .int .i64 (-16384), .int .i64 32768, .int .i64 32768, .int .i64 (-16384), .int .i64 (-16384), .int .i64 32768, .int .i64 32768]) rfl (n := 2) rfl (by omega)) (fun q hq => by simp at hq; subst hq; unfold Re.Wf I64 wideR; simp)
    rw [lit_wide.1, lit_wide.2] at this
    exact this
  have AV : ∀ W : World, Calls Try.prog 28 #[.slice (some ⟨W.heap.size, 0, none⟩) 1 1] (W.alloc (.cells #[.int .i64 (-16384), .int .i64 (-16384), .int .i64 32769, .int .i64 32768] 49)) fun e w' => e = .returned (.tuple #[.int .i64 0, .int .i64 5]) ∧ Below (W.alloc (.cells #[.int .i64 (-16384), .int .i64 (-16384), .int .i64 32769, .int .i64 32768] 49)).heap.size (W.alloc (.cells #[.int .i64 (-16384), .int .i64 (-16384), .int .i64 32769, .int .i64 32768] 49)) w' := fun W => by
    have := rarea_any [⟨-16384, -16384, 32769, 32768⟩] _ _ (lit_row (w := W) (cs := #[.int .i64 (-16384), .int .i64 (-16384), .int .i64 32769, .int .i64 32768]) rfl (n := 1) rfl (by omega)) (fun q hq => by simp at hq; subst hq; unfold Re.Wf I64; simp)
    rw [lit_wider.1, lit_wider.2] at this
    exact this
  have SS : ∀ W1 W2 : World, Below (W1.alloc (.cells #[.int .i64 0, .int .i64 0, .int .i64 2, .int .i64 1] 49)).heap.size (W1.alloc (.cells #[.int .i64 0, .int .i64 0, .int .i64 2, .int .i64 1] 49)) W2 → Calls Try.prog 14 #[.slice (some ⟨W1.heap.size, 0, none⟩) 1 1, .slice (some ⟨W2.heap.size, 0, none⟩) 1 1] (W2.alloc (.cells #[.int .i64 0, .int .i64 0, .int .i64 3, .int .i64 1] 49)) fun e w' => e = .returned (.tuple #[.bool false, .int .i64 0]) ∧ Below (W2.alloc (.cells #[.int .i64 0, .int .i64 0, .int .i64 3, .int .i64 1] 49)).heap.size (W2.alloc (.cells #[.int .i64 0, .int .i64 0, .int .i64 3, .int .i64 1] 49)) w' := fun W1 W2 hb => by
    have h1 := lit_row (w := W1) (cs := #[.int .i64 0, .int .i64 0, .int .i64 2, .int .i64 1]) (l := [⟨0, 0, 2, 1⟩]) rfl (n := 1) rfl (by omega)
    have h2 := lit_row (w := W2) (cs := #[.int .i64 0, .int .i64 0, .int .i64 3, .int .i64 1]) (l := [⟨0, 0, 3, 1⟩]) rfl (n := 1) rfl (by omega)
    have hb2 : Below W2.heap.size W2 (W2.alloc (.cells #[.int .i64 0, .int .i64 0, .int .i64 3, .int .i64 1] 49)) := (Below.refl _ _).alloc (Nat.le_refl _) _
    have := same_any [⟨0, 0, 2, 1⟩] [⟨0, 0, 3, 1⟩] _ _ _ ((((h1.below hb).mono hb.size).below hb2).mono hb2.size) h2 (wf_small rfl) (wf_small rfl)
    rw [lit_s.1, lit_s.2] at this
    exact this
  have hmt : mayR (q0R) = true := by decide
  have TA := fun v W h => rarea_any (List.replicate 1024 (q0R)) v W h (fun q hq => by rw [(List.mem_replicate.1 hq).2]; exact may_wf hmt)
  rw [twins_area, chk_of (fun p hp => by rw [(List.mem_replicate.1 hp).2]; exact hmt) (by rw [List.length_replicate]; omega)] at TA
  have TB := fun v W h => rarea_any (List.replicate 1025 (q0R)) v W h (fun q hq => by rw [(List.mem_replicate.1 hq).2]; exact may_wf hmt)
  have tb4 : areaE (List.replicate 1025 (q0R)) = 0 := by unfold areaE; rw [chk_many (by rw [List.length_replicate]; omega), if_neg (by decide)]
  rw [tb4, chk_many (by rw [List.length_replicate]; omega)] at TB
  obtain ⟨T4, hT4⟩ : ∃ T, List.replicate 1024 (q0R) = T := ⟨_, rfl⟩
  obtain ⟨T5, hT5⟩ : ∃ T, List.replicate 1025 (q0R) = T := ⟨_, rfl⟩
  have tt : T5.take 1024 = T4 := by rw [← hT4, ← hT5, List.take_replicate]; rfl
  have tl : T5.length = 1025 := by rw [← hT5]; exact List.length_replicate
  have tg : ∀ k, k < 1025 → T5[k]? = some (q0R) := fun k hk => by rw [← hT5, List.getElem?_replicate, if_pos hk]
  rw [hT4] at TA
  rw [hT5] at TB
  clear h4 h5 hT4 hT5 f4 f5 e4 e5 eJ eC m5 m4 m1 tb4 hmt
  replace RW := Lib.hid RW
  replace t4 := Lib.hid t4
  replace d4 := Lib.hid d4
  replace t1 := Lib.hid t1
  replace g0 := Lib.hid g0
  replace l5 := Lib.hid l5
  replace l4 := Lib.hid l4
  replace OF := Lib.hid OF
  replace OG := Lib.hid OG
  replace JO := Lib.hid JO
  replace CH := Lib.hid CH
  replace SA := Lib.hid SA
  replace M1 := Lib.hid M1
  replace M2 := Lib.hid M2
  replace M3 := Lib.hid M3
  replace M4 := Lib.hid M4
  replace AW := Lib.hid AW
  replace AV := Lib.hid AV
  replace SS := Lib.hid SS
  replace TA := Lib.hid TA
  replace TB := Lib.hid TB
  replace tt := Lib.hid tt
  replace tl := Lib.hid tl
  replace tg := Lib.hid tg
  obtain ⟨N, hN⟩ : ∃ N : Nat, N = 1025 := ⟨_, rfl⟩
  have n0 : 1025 ≤ N := by omega
  have n1 : N ≤ 1025 := by omega
  replace hN := Lib.hid hN
  go_enter Try.func7, Try.ntmps7
  go_upto_region 5 with (first
    | (go_at_call 8; (with_reducible refine (alive_any _).mono ?_); rintro e w0 ⟨rfl, hb0⟩)
    | (go_at_call 37; (with_reducible refine (RW.out _).mono ?_); rintro e w1 ⟨hb1, g, rfl, hcr⟩; have hw1 := hb0.trans (hb1.mono hb0.size); have hcr := Lib.hid hcr)
    | go_in)
  have z1 := hw1.size
  clear hb0 hb1
  have x5 := row_1024 hcr.out l5.out t4.out
  replace x5 := Lib.hid x5
  go_upto_region 7 with (first
    | (go_at_call 22; (with_reducible refine (OF.out _ _ x5.out).mono ?_); rintro e w2 ⟨hb2, vf, rfl, hcf⟩; have hw2 := hw1.trans (hb2.mono hw1.size); have hcr := Lib.hid (hcr.out.below hb2 (Nat.le_refl _)); have hcf := Lib.hid hcf; have z2 := hb2.size; clear hb2)
    | (go_at_call 22; (with_reducible refine (OG.out _ _ (hcr.out.row (Nat.le_refl _))).mono ?_); rintro e w3 ⟨hb3, v3, rfl, hc3⟩; have hw3 := hw2.trans (hb3.mono hw2.size); have hcr := Lib.hid (hcr.out.below hb3 (Nat.le_refl _)); have hcf := Lib.hid (hcf.out.below hb3 (Nat.le_refl _)); have z3 := hb3.size; clear hb3 hc3)
    | go_in)
  clear x5
  refine wp_region_call (Held w3 0 []) 4 (by kernel_rfl) (by kernel_rfl) (by decide) (by kernel_rfl) (by kernel_rfl) ⟨(by repeat (first | exact Below.refl _ _ | assumption | refine Below.drew ?_ | refine Below.alloc ?_ (by (try simp) <;> omega) _ | refine Below.setCell ?_ (by (try simp) <;> omega) _ | (refine Below.trans ?_ (Below.mono (by assumption) (by (try simp) <;> omega))))), (by (try simp) <;> omega), trivial⟩ ?_
  simp only [List.take_succ_cons, List.take_zero]
  repeat (first | (refine' wpSteady_do _ _ _; rotate_left; (focus rfl); (focus (intro w1 hS R hR; have hc := hS.cells; simp only [Cells] at hc; obtain ⟨hco, hfo⟩ := bcell hS.old; go_simp; (try go_bits); first | exact hR _ hS | fail)); simp only [Act.put, List.setIfInBounds_toArray, List.set_cons_zero, List.set_cons_succ]) | (refine wpSteady_pass ?_ ?_; (focus rfl); simp only [Act.put, List.setIfInBounds_toArray, List.set_cons_zero, List.set_cons_succ]))
  refine wpSteady_nil (fun uA hSA => ?_)
  have hbA := hSA.old; have hzA := hSA.size; clear hSA; obtain ⟨hcoA, hfoA⟩ := bcell hbA
  intro K hK
  simp only [List.drop_succ_cons, List.drop_zero, List.take_succ_cons, List.take_zero]
  have hwA := hw3.trans (hbA.mono hw3.size)
  have hcr := Lib.hid (hcr.out.below hbA (Nat.le_refl _))
  have hcf := Lib.hid (hcf.out.below hbA (Nat.le_refl _))
  have zA := hbA.size
  clear hbA hcoA hfoA
  have xA := Lib.hid (row_1024 hcr.out l5.out t4.out)
  have xB := Lib.hid (row_last hcr.out d4.out)
  go_wp2_with fail
  refine (JO.out _ _ uA xA.out xB.out).mono ?_
  rintro e w4 ⟨hb4, v4, rfl, hc4⟩
  have hw4 := hwA.trans (hb4.mono hwA.size)
  have hcr := Lib.hid (hcr.out.below hb4 (Nat.le_refl _))
  have hcf := Lib.hid (hcf.out.below hb4 (Nat.le_refl _))
  have z4 := hb4.size
  clear hb4 hc4 xA xB
  go_wp2_with fail
  refine wpFrom_rest (Held w4 0 []) (by kernel_rfl) (by decide) ⟨Below.refl _ _, Nat.le_refl _, trivial⟩ ?_
  simp only [List.drop_succ_cons, List.drop_zero]
  repeat (first | (refine' wpSteady_do _ _ _; rotate_left; (focus rfl); (focus (intro w1 hS R hR; have hc := hS.cells; simp only [Cells] at hc; obtain ⟨hco, hfo⟩ := bcell hS.old; go_simp; (try go_bits); first | exact hR _ hS | fail)); simp only [Act.put, List.setIfInBounds_toArray, List.set_cons_zero, List.set_cons_succ]) | (refine wpSteady_pass ?_ ?_; (focus rfl); simp only [Act.put, List.setIfInBounds_toArray, List.set_cons_zero, List.set_cons_succ]))
  refine wpSteady_nil (fun uB hSB => ?_)
  have hbB := hSB.old; have hzB := hSB.size; clear hSB; obtain ⟨hcoB, hfoB⟩ := bcell hbB
  have hwB := hw4.trans (hbB.mono hw4.size)
  have hcr := Lib.hid (hcr.out.below hbB (Nat.le_refl _))
  have hcf := Lib.hid (hcf.out.below hbB (Nat.le_refl _))
  have zB := hbB.size
  clear hbB hcoB hfoB
  have xA := Lib.hid (row_1024 hcr.out l5.out t4.out)
  go_upto_region 10 with (first
    | (go_at_call 23; (with_reducible refine (CH.out _ _ xA.out).mono ?_); rintro e w5 ⟨rfl, hb5⟩)
    | go_in)
  clear xA
  have hb6 : Below w5.heap.size w5 (w5.alloc (.cells #[.int .i64 (-16384), .int .i64 (-16384), .int .i64 32768, .int .i64 32768] 49)) := (Below.refl _ _).alloc (Nat.le_refl _) _
  have kb : Blk (w5.alloc (.cells #[.int .i64 (-16384), .int .i64 (-16384), .int .i64 32768, .int .i64 32768] 49)) w5.heap.size [.int .i64 (-16384), .int .i64 (-16384), .int .i64 32768, .int .i64 32768] 49 := Blk.new' rfl
  generalize w5.alloc (.cells #[.int .i64 (-16384), .int .i64 (-16384), .int .i64 32768, .int .i64 32768] 49) = w6 at hb6 kb ⊢
  have q1 := Lib.hid (fun g1 h => ((hcr.out.below hb5 (Nat.le_refl _)).block g1 h).2)
  have q2 := Lib.hid (fun g1 h => ((hcf.out.below hb5 (Nat.le_refl _)).block g1 h).2)
  have hcr := Lib.hid ((hcr.out.below hb5 (Nat.le_refl _)).below hb6 (Nat.le_refl _))
  have hcf := Lib.hid ((hcf.out.below hb5 (Nat.le_refl _)).below hb6 (Nat.le_refl _))
  have hw6 := (hwB.trans (hb5.mono hwB.size)).trans (hb6.mono (by have := hwB.size; have := hb5.size; omega))
  obtain ⟨bw, hbw⟩ : ∃ b, w5.heap.size = b := ⟨_, rfl⟩
  rw [hbw] at kb q1 q2 ⊢
  have k0 := kb.cell (o := 0) rfl
  have k1 := kb.cell (o := 1) rfl
  have k2 := kb.cell (o := 2) rfl
  have k3 := kb.cell (o := 3) rfl
  have kl := kb.lt
  have kb := Lib.hid kb
  have z6 := hw6.size
  have hwbw : w.heap.size ≤ bw := by have := hwB.size; have := hb5.size; omega
  clear hb5 hb6 hbw
  go_upto_region 11 with (first
    | (go_at_call 28; (with_reducible refine (AW.out _).mono ?_); rintro e w7 ⟨rfl, hb7⟩)
    | go_in)
  have hb67 : Below w6.heap.size w6 w7 := ((Below.refl _ _).alloc (Nat.le_refl _) _).trans (hb7.mono (by simp))
  have kb7 := Lib.hid (kb.out.below hb67 kl)
  have hcr := Lib.hid (hcr.out.below hb67 (Nat.le_refl _))
  have hcf := Lib.hid (hcf.out.below hb67 (Nat.le_refl _))
  have hw7 := hw6.trans (hb67.mono z6)
  clear k0 k1 k2 k3 kb hb7
  have k2 := kb7.out.cell (o := 2) rfl
  have kf := kb7.out.free
  go_upto_region 12 with fail
  have kb8 := kb7.out.set 2 (.int .i64 32769)
  have hg8 := grown_set (grown_refl w7 (some bw)) rfl 2 (.int .i64 32769)
  have kl7 := kb7.out.lt
  have hcr := Lib.hid (CutR.keep hcr.out hg8 (fun g1 h1 h2 => by have := q1.out g1 h1; injection h2 with h2; omega))
  have hcf := Lib.hid (CutR.keep hcf.out hg8 (fun g1 h1 h2 => by have := q2.out g1 h1; injection h2 with h2; omega))
  have hw8 : Below w.heap.size w (w7.setCell ⟨bw, 2, none⟩ (.int .i64 32769)) := hw7.setCell hwbw _
  generalize w7.setCell ⟨bw, 2, none⟩ (.int .i64 32769) = w8 at hg8 kb8 hcr hcf hw8 ⊢
  have k0 := kb8.cell (o := 0) rfl
  have k1 := kb8.cell (o := 1) rfl
  have k2 := kb8.cell (o := 2) rfl
  have k3 := kb8.cell (o := 3) rfl
  have kl8 := kb8.lt
  clear kb7 kf hg8 kb8 hb67 kl7 q1 q2
  have z8 := hw8.size
  go_upto_region 13 with (first
    | (go_at_call 28; (with_reducible refine (AV.out _).mono ?_); rintro e w9 ⟨rfl, hb9⟩)
    | go_in)
  have hb89 : Below w8.heap.size w8 w9 := ((Below.refl _ _).alloc (Nat.le_refl _) _).trans (hb9.mono (by simp))
  have hcr := Lib.hid (hcr.out.below hb89 (Nat.le_refl _))
  have hcf := Lib.hid (hcf.out.below hb89 (Nat.le_refl _))
  have hw9 := hw8.trans (hb89.mono z8)
  clear k0 k1 k2 k3 hb9 hb89 kl8
  go_upto_region 19 with (first
    | (go_at_call 29; (with_reducible refine (M1.out _ _ (row_first hcr.out l5.out t1.out)).mono ?_); rintro e w10 ⟨hb10, vm, rfl, hcm⟩; obtain ⟨sm, cm, rfl⟩ := hcm.shape; rw [show ([(⟨16383, -16384, 1, 1⟩ : Re)] : List Re).length = 1 from rfl] at hcm; rw [show ([(⟨16383, -16384, 1, 1⟩ : Re)] : List Re).length = 1 from rfl]; obtain ⟨gm, rfl, hgm1, hgm2⟩ := hcm.addr (by omega); have hw10 := hw9.trans (hb10.mono hw9.size); have hcr := Lib.hid (hcr.out.below hb10 (Nat.le_refl _)); have hcf := Lib.hid (hcf.out.below hb10 (Nat.le_refl _)); have hcm := Lib.hid hcm; clear hb10)
    | (go_at_call 29; (with_reducible refine (M2.out _ _ (row_first hcr.out l5.out t1.out)).mono ?_); rintro e w11 ⟨hb11, v11, rfl, hc11⟩; have hw11 := hw10.trans (hb11.mono hw10.size); have hcr := Lib.hid (hcr.out.below hb11 (Nat.le_refl _)); have hcf := Lib.hid (hcf.out.below hb11 (Nat.le_refl _)); have hcm := Lib.hid (hcm.out.below hb11 (Nat.le_refl _)); clear hb11 hc11)
    | (go_at_call 29; (with_reducible refine (M3.out _).mono ?_); rintro e w12 ⟨hb12, v12, rfl, hc12⟩; have hw12 := hw11.trans (hb12.mono hw11.size); have hcr := Lib.hid (hcr.out.below hb12 (Nat.le_refl _)); have hcf := Lib.hid (hcf.out.below hb12 (Nat.le_refl _)); have hcm := Lib.hid (hcm.out.below hb12 (Nat.le_refl _)); clear hb12 hc12)
    | (go_at_call 29; (with_reducible refine (M4.out _).mono ?_); rintro e w13 ⟨hb13, v13, rfl, hc13⟩; have hw13 := hw12.trans (hb13.mono hw12.size); have hcr := Lib.hid (hcr.out.below hb13 (Nat.le_refl _)); have hcf := Lib.hid (hcf.out.below hb13 (Nat.le_refl _)); have hcm := Lib.hid (hcm.out.below hb13 (Nat.le_refl _)); clear hb13 hc13)
    | go_in)
  go_wp2_with (first
    | (at_make; refine wpList_make_full w13 rfl _ _ _ rfl w13.heap.size 49 iM _ 4 Try.underlying22 hi0 hm0 hm1 .i64 .i64 1025 1025 N rfl rfl (by omega) (by omega) (by rw [hm2]; omega) (by unfold maxLen; omega) (Nat.le_refl _) ?_; intro w2 hown2 hg2)
    | go_in)
  have hb2 : Below w13.heap.size w13 w2 := (Below.refl _ _).grown hg2 (Nat.le_refl _) (fun k e => by cases e)
  have hcut := made_rects hown2
  have hst : Hid (CutR w13.heap.size w2 (.slice (some ⟨w13.heap.size, 0, none⟩) N N) (T5.take 0 ++ List.replicate (N - 0) Re.none)) := Lib.hid (by simpa using hcut)
  have c13 := hcr.out.rmem g0.out
  obtain ⟨p0, p1, p2, p3⟩ := c13
  have p0 : w13.cell? ⟨g, 0, none⟩ = some (.int .i64 0) := by simpa [q0R] using p0
  have p1 : w13.cell? ⟨g, 1, none⟩ = some (.int .i64 0) := by simpa [q0R] using p1
  have p2 : w13.cell? ⟨g, 2, none⟩ = some (.int .i64 1) := by simpa [q0R] using p2
  have p3 : w13.cell? ⟨g, 3, none⟩ = some (.int .i64 1) := by simpa [q0R] using p3
  have gl : g < w13.heap.size := (hcr.out.block g rfl).2
  obtain ⟨B, hB⟩ : ∃ B, w13.heap.size = B := ⟨_, rfl⟩
  have hst : Hid (CutR w13.heap.size w2 (.slice (some ⟨B, 0, none⟩) N N) (T5.take 0 ++ List.replicate (N - 0) Re.none)) := by rw [← hB]; exact hst
  have hBB : w13.heap.size ≤ B := by omega
  rw [hB]
  clear hown2 hg2 hcut hB
  go_loopw [24] (fun iv wr => ∃ k : Nat, k ≤ N ∧ iv = .int .i64 k ∧ Hid (CutR w13.heap.size wr (.slice (some ⟨B, 0, none⟩) N N) (T5.take k ++ List.replicate (N - k) Re.none)) ∧ Below w13.heap.size w13 wr) (fun iv _ => N - (intOf iv).toNat)
  case atStart => exact ⟨0, Nat.zero_le _, rfl, hst, hb2⟩
  case round =>
    clear hst hb2
    obtain ⟨k, hk, rfl, hcut, hbr⟩ := hrel
    have zr := hbr.size
    by_cases hkn : k < N
    · obtain ⟨f1, f2⟩ := fill_set (n := N) (by have := tl.out; have := hN.out; omega) (tg.out k (by omega)) hkn
      obtain ⟨r0, r1, r2, r3⟩ := hcut.out.rmem f1
      have hfz := hcut.out.free
      have hkk : (k : Int) < N := by omega
      obtain ⟨hcr', hfr'⟩ := bcell hbr
      replace f1 := Lib.hid f1
      replace f2 := Lib.hid f2
      go_wp2
      go_roundw
      case rel =>
        refine ⟨k + 1, by omega, by go_num, Lib.hid ?_, ?_⟩
        · rw [← f2.out]
          exact hcut.out.put4 f1.out q0R
        · exact ((((hbr.setCell hBB _).setCell hBB _).setCell hBB _).setCell hBB _)
      case measure => simp [intOf]; omega
    · obtain rfl : k = N := by omega
      obtain rfl := hN.out
      have hc := hcut.out
      rw [List.take_of_length_le (by have := tl.out; omega), Nat.sub_self, List.replicate_zero, List.append_nil] at hc
      have hcr := Lib.hid (hcr.out.below hbr (Nat.le_refl _))
      have hcf := Lib.hid (hcf.out.below hbr (Nat.le_refl _))
      have hcm := Lib.hid (hcm.out.below hbr (Nat.le_refl _))
      have hwr := hw13.trans (hbr.mono hw13.size)
      have hc := Lib.hid hc
      clear p0 p1 p2 p3 hkn hcut hbr
      go_upto_region 26 with (first
        | (go_at_call 28; (with_reducible refine (TA.out _ _ (row_1024 hc.out tl.out tt.out)).mono ?_); rintro e w14 ⟨rfl, hb14⟩; have hw14 := hwr.trans (hb14.mono hwr.size); have hcr := Lib.hid (hcr.out.below hb14 (Nat.le_refl _)); have hcf := Lib.hid (hcf.out.below hb14 (Nat.le_refl _)); have hcm := Lib.hid (hcm.out.below hb14 (Nat.le_refl _)); have hc := Lib.hid (hc.out.below hb14 (Nat.le_refl _)); clear hb14)
        | (go_at_call 28; (with_reducible refine (TB.out _ _ (hc.out.row (Nat.le_refl _))).mono ?_); rintro e w15 ⟨rfl, hb15⟩; have hw15 := hw14.trans (hb15.mono hw14.size); have hcr := Lib.hid (hcr.out.below hb15 (Nat.le_refl _)); have hcf := Lib.hid (hcf.out.below hb15 (Nat.le_refl _)); have hcm := Lib.hid (hcm.out.below hb15 (Nat.le_refl _)); clear hb15)
        | go_in)
      have z15 := hw15.size
      go_upto_region 27 with (first
        | (go_at_call 38; (with_reducible refine (rect_any 0 0 2 1 _).mono ?_); rintro e a1 ⟨rfl, hba1⟩; have hza1 := hba1.size; (try simp at hza1))
        | (go_at_call 38; (with_reducible refine (rect_any 0 0 3 1 _).mono ?_); rintro e a2 ⟨rfl, hba2⟩; have hza2 := hba2.size; (try simp at hza2))
        | (go_at_call 14; (with_reducible refine (SS.out _ _ (by assumption)).mono ?_); rintro e w16 ⟨rfl, hb16⟩; have hb1516 : Below w15.heap.size w15 w16 := (by repeat (first | exact Below.refl _ _ | assumption | refine Below.drew ?_ | refine Below.alloc ?_ (by (try simp) <;> omega) _ | refine Below.setCell ?_ (by (try simp) <;> omega) _ | (refine Below.trans ?_ (Below.mono (by assumption) (by (try simp) <;> omega))))))
        | go_in)
      have hcr := Lib.hid (hcr.out.below hb1516 (Nat.le_refl _))
      have hcf := Lib.hid (hcf.out.below hb1516 (Nat.le_refl _))
      have hcm := Lib.hid (hcm.out.below hb1516 (Nat.le_refl _))
      have hw16 := hw15.trans (hb1516.mono z15)
      clear hba1 hba2 hb16 hb1516
      have xs := Lib.hid (row_1024 hcr.out l5.out t4.out)
      obtain ⟨p0, p1, p2, p3⟩ := hcm.out.rmem (k := 0) rfl
      have p0 : w16.cell? ⟨gm, 0, none⟩ = some (.int .i64 16383) := by simpa using p0
      have p1 : w16.cell? ⟨gm, 1, none⟩ = some (.int .i64 (-16384)) := by simpa using p1
      have gml : gm < w16.heap.size := (hcm.out.block gm rfl).2
      clear p2 p3
      go_wp2_with (first
        | (go_at_call 19; (with_reducible refine (SA.out _ _ _ (hcf.out.row (Nat.le_refl _)) xs.out).mono ?_); rintro e w17 ⟨rfl, hb17⟩; obtain ⟨hc17, hf17⟩ := bcell hb17)
        | go_in)
      go_ret
      exact ⟨rfl, hw16.trans (hb17.mono hw16.size)⟩
end Go.Proofs.Ytlklmncjicgbgaa
