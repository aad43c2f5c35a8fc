/-
  The law RegionPlaces, walked.
-/
import Derived.Test.YtlklmncjicgbgaaRegBl
namespace Go.Proofs.Ytlklmncjicgbgaa
open Go.RowKit
set_option linter.unusedVariables false
attribute [local go_sem] vwp vUpon_value vUpon_skip vUpon_enter vUpon_row
set_option linter.unusedSimpArgs false
set_option linter.unusedVariables false
theorem encS_one (s : Int × Int) : ∀ u ∈ encS s, u.oneCell' = true := by
  intro u hu
  simp only [encS, List.mem_cons, List.not_mem_nil, or_false] at hu
  rcases hu with rfl | rfl <;> rfl
theorem isForm_of {l : List Re} (m : MayL l) (ll : l.length ≤ 1024) (h : formR l [] 1 = l) : isFormE l = 0 := by
  have e1 : madeE l [] 1 = 0 := by unfold madeE; rw [h, if_neg (by omega)]
  have e2 : madeL l [] 1 = l := by unfold madeL; rw [h, if_neg (by omega)]
  unfold isFormE
  rw [if_pos (chk_of m ll), e1, e2, if_pos ⟨rfl, eqRs_refl l⟩]
theorem check_small (l : List Re) (v : Value) (w : World) (h : CutR 0 w v l) (m : MayL l) (ll : l.length ≤ 1024) (hf : formR l [] 1 = l) : Calls Try.prog 23 #[v] w fun e w' => e = .returned (.int .i64 0) ∧ Below w.heap.size w w' := by
  have := rgcheck_any l v w (h.row (Nat.le_refl _)) (wf_may m)
  rw [isForm_of m ll hf] at this
  exact this
theorem has_small (l : List Re) (v : Value) (x y : Int) (w : World) (h : Row w.heap.size 4 Re.enc w v l) (m : MayL l) (ll : l.length ≤ 1024) (hx : I64 x) (hy : I64 y) : Calls Try.prog 26 #[v, .agg #[.int .i64 x, .int .i64 y]] w fun e w' => e = .returned (.tuple #[.bool (hasL l x y), .int .i64 0]) ∧ Below w.heap.size w w' := by
  have := rhas_any l v x y w h (wf_may m) hx hy
  unfold hasE at this
  rw [chk_of m ll, if_pos rfl] at this
  exact this
theorem cut_none {base : Nat} {w : World} {v : Value} (h : CutR base w v []) : ∃ s cap, v = .slice s 0 cap := h.shape
set_option maxHeartbeats 8000000 in
set_option maxRecDepth 100000 in
theorem walk_RegionPlaces (a b : List Re) (va vb : Value) (px py : Int) (w : World) (ha : Row w.heap.size 4 Re.enc w va a) (hb : Row w.heap.size 4 Re.enc w vb b) (wa : WfL a) (wb : WfL b) (hpx : I64 px) (hpy : I64 py) :
    Calls Try.prog 4 #[va, vb, .agg #[.int .i64 px, .int .i64 py]] w fun e w' => e = .returned (.bool true) ∧ Below w.heap.size w w' := by
  obtain ⟨iP, hp0, hp1, hp2, hp3⟩ := info_parts infoPt
  obtain ⟨s1, c1, rfl, hm1⟩ := ha.shape
  obtain ⟨s2, c2, rfl, hm2⟩ := hb.shape
  by_cases b1 : 16 < a.length
  · have b1' : (16 : Int) < a.length := by omega
    clear ha hb
    go_enter Try.func4, Try.ntmps4
    go_wp2_with (first | (go_at_call 8; (with_reducible refine (alive_any _).mono ?_); rintro e w0 ⟨rfl, hb0⟩; have hw0 : Below w.heap.size w w0 := ((Below.refl _ _).alloc (Nat.le_refl _) _).trans (hb0.mono (by simp)); have z0 := hw0.size) | go_in)
    go_ret
    exact ⟨rfl, hw0⟩
  have b1' : ¬ (16 : Int) < a.length := by omega
  by_cases b2 : 16 < b.length
  · have b2' : (16 : Int) < b.length := by omega
    clear ha hb
    go_enter Try.func4, Try.ntmps4
    go_wp2_with (first | (go_at_call 8; (with_reducible refine (alive_any _).mono ?_); rintro e w0 ⟨rfl, hb0⟩; have hw0 : Below w.heap.size w w0 := ((Below.refl _ _).alloc (Nat.le_refl _) _).trans (hb0.mono (by simp)); have z0 := hw0.size) | go_in)
    go_ret
    exact ⟨rfl, hw0⟩
  have b2' : ¬ (16 : Int) < b.length := by omega
  have RA := fun W (h : Below w.heap.size w W) => (ha.below h).mono h.size
  have RB := fun W (h : Below w.heap.size w W) => (hb.below h).mono h.size
  by_cases h0 : askR a b = 0
  · have hca : chkR a = 0 := by unfold askR at h0; by_cases h : chkR a = 0; exact h; rw [if_neg h] at h0; exact h0
    have hcb : chkR b = 0 := by unfold askR at h0; rw [if_pos hca] at h0; exact h0
    obtain ⟨ma, _⟩ := chkR_may hca
    obtain ⟨mb, _⟩ := chkR_may hcb
    have fl : ∀ (y : List Re) (k : Int), MayL y → y.length ≤ 16 → (formR a y k).length ≤ 1024 := fun y k hy h2 => form_small k ma hy 32 (by omega) (by omega)
    obtain ⟨J, hJ⟩ : ∃ F, formR a b 1 = F := ⟨_, rfl⟩
    obtain ⟨M, hM⟩ : ∃ F, formR a b 2 = F := ⟨_, rfl⟩
    obtain ⟨L, hL⟩ : ∃ F, formR a b 3 = F := ⟨_, rfl⟩
    obtain ⟨O, hO⟩ : ∃ F, formR a [] 1 = F := ⟨_, rfl⟩
    have mJ : MayL J := hJ ▸ form_may ma mb 1
    have mM : MayL M := hM ▸ form_may ma mb 2
    have mL : MayL L := hL ▸ form_may ma mb 3
    have mO : MayL O := hO ▸ form_may ma mayL_nil 1
    have lJ : J.length ≤ 1024 := hJ ▸ fl b 1 mb (by omega)
    have lM : M.length ≤ 1024 := hM ▸ fl b 2 mb (by omega)
    have lL : L.length ≤ 1024 := hL ▸ fl b 3 mb (by omega)
    have lO : O.length ≤ 1024 := hO ▸ fl [] 1 mayL_nil (by simp)
    have eJ : formR J [] 1 = J := by rw [← hJ]; exact form_form ma.sane mb.sane 1
    have eM : formR M [] 1 = M := by rw [← hM]; exact form_form ma.sane mb.sane 2
    have eL : formR L [] 1 = L := by rw [← hL]; exact form_form ma.sane mb.sane 3
    have eO : formR O [] 1 = O := by rw [← hO]; exact form_form ma.sane sane_nil 1
    have pJ : ∀ x z, hasL J x z = (hasL a x z || hasL b x z) := fun x z => by rw [← hJ, form_places ma.sane mb.sane]; rfl
    have pM : ∀ x z, hasL M x z = (hasL a x z && hasL b x z) := fun x z => by rw [← hM, form_places ma.sane mb.sane]; rfl
    have pL : ∀ x z, hasL L x z = (hasL a x z && !hasL b x z) := fun x z => by rw [← hL, form_places ma.sane mb.sane]; rfl
    have pO : ∀ x z, hasL O x z = hasL a x z := fun x z => by rw [← hO, form_places ma.sane sane_nil, want1, has_nil, Bool.or_false]
    have C1 := Lib.hid (fun W (h : Below w.heap.size w W) => join_small a b _ _ W (RA W h) (RB W h) ma mb (by omega) (by omega) J hJ lJ)
    have C2 := Lib.hid (fun W (h : Below w.heap.size w W) => meet_small a b _ _ W (RA W h) (RB W h) ma mb (by omega) (by omega) M hM lM)
    have C3 := Lib.hid (fun W (h : Below w.heap.size w W) => less_small a b _ _ W (RA W h) (RB W h) ma mb (by omega) (by omega) L hL lL)
    have C4 := Lib.hid (fun W (h : Below w.heap.size w W) => of_small a _ W (RA W h) ma (by omega) O hO lO)
    have K1 := Lib.hid (fun W v (h : CutR 0 W v J) => check_small J v W h mJ lJ eJ)
    have K2 := Lib.hid (fun W v (h : CutR 0 W v M) => check_small M v W h mM lM eM)
    have K3 := Lib.hid (fun W v (h : CutR 0 W v L) => check_small L v W h mL lL eL)
    have K4 := Lib.hid (fun W v (h : CutR 0 W v O) => check_small O v W h mO lO eO)
    have N1 := Lib.hid (fun W (h : Below w.heap.size w W) => corners_any a _ W (RA W h) ma (by omega))
    have N2 := Lib.hid (fun W (h : Below w.heap.size w W) => corners_any b _ W (RB W h) mb (by omega))
    have RAh := Lib.hid RA
    have RBh := Lib.hid RB
    clear ha hb RA RB hJ hM hL hO eJ eM eL eO fl
    replace mJ := Lib.hid mJ
    replace mM := Lib.hid mM
    replace mL := Lib.hid mL
    replace mO := Lib.hid mO
    replace ma := Lib.hid ma
    replace mb := Lib.hid mb
    replace pJ := Lib.hid pJ
    replace pM := Lib.hid pM
    replace pL := Lib.hid pL
    replace pO := Lib.hid pO
    go_enter Try.func4, Try.ntmps4
    go_upto_region 12 with (first
      | (go_at_call 8; (with_reducible refine (alive_any _).mono ?_); rintro e w0 ⟨rfl, hb0⟩; have hw0 : Below w.heap.size w w0 := ((Below.refl _ _).alloc (Nat.le_refl _) _).trans (hb0.mono (by simp)); have z0 := hw0.size)
      | (go_at_call 11; (with_reducible refine (C1.out _ hw0).mono ?_); rintro e w1 ⟨hb1, v1, rfl, hc1⟩; have hw1 := hw0.trans (hb1.mono hw0.size); obtain ⟨t1, d1, rfl⟩ := hc1.shape)
      | (go_at_call 12; (with_reducible refine (C2.out _ hw1).mono ?_); rintro e w2 ⟨hb2, v2, rfl, hc2⟩; have hw2 := hw1.trans (hb2.mono hw1.size); obtain ⟨t2, d2, rfl⟩ := hc2.shape)
      | (go_at_call 13; (with_reducible refine (C3.out _ hw2).mono ?_); rintro e w3 ⟨hb3, v3, rfl, hc3⟩; have hw3 := hw2.trans (hb3.mono hw2.size); obtain ⟨t3, d3, rfl⟩ := hc3.shape)
      | (go_at_call 22; (with_reducible refine (C4.out _ hw3).mono ?_); rintro e w4 ⟨hb4, v4, rfl, hc4⟩; have hw4 := hw3.trans (hb4.mono hw3.size); obtain ⟨t4, d4, rfl⟩ := hc4.shape)
      | go_in)
    have h1 := Lib.hid ((((hc1.less (Nat.zero_le _)).below hb2 (Nat.le_refl _)).below hb3 (Nat.le_refl _)).below hb4 (Nat.le_refl _))
    have h2 := Lib.hid (((hc2.less (Nat.zero_le _)).below hb3 (Nat.le_refl _)).below hb4 (Nat.le_refl _))
    have h3 := Lib.hid ((hc3.less (Nat.zero_le _)).below hb4 (Nat.le_refl _))
    have h4 := Lib.hid (hc4.less (Nat.zero_le _))
    have q0 : w4.cell? ⟨w.heap.size, 0, none⟩ = some (.int .i64 px) := by
      have e : (w.alloc (.cells #[.int .i64 px, .int .i64 py] 34)).cell? ⟨w.heap.size, 0, none⟩ = some (.int .i64 px) := by go_simp
      have := (((hb0.trans (hb1.mono hb0.size)).trans (hb2.mono (by have := hb0.size; have := hb1.size; omega))).trans (hb3.mono (by have := hb0.size; have := hb1.size; have := hb2.size; omega))).trans (hb4.mono (by have := hb0.size; have := hb1.size; have := hb2.size; have := hb3.size; omega))
      exact (this.cell (p := ⟨w.heap.size, 0, none⟩) (by simp)).trans e
    have q1 : w4.cell? ⟨w.heap.size, 1, none⟩ = some (.int .i64 py) := by
      have e : (w.alloc (.cells #[.int .i64 px, .int .i64 py] 34)).cell? ⟨w.heap.size, 1, none⟩ = some (.int .i64 py) := by go_simp
      have := (((hb0.trans (hb1.mono hb0.size)).trans (hb2.mono (by have := hb0.size; have := hb1.size; omega))).trans (hb3.mono (by have := hb0.size; have := hb1.size; have := hb2.size; omega))).trans (hb4.mono (by have := hb0.size; have := hb1.size; have := hb2.size; have := hb3.size; omega))
      exact (this.cell (p := ⟨w.heap.size, 1, none⟩) (by simp)).trans e
    have y4 : w.heap.size < w4.heap.size := by have := hb0.size; simp at this; have := hb1.size; have := hb2.size; have := hb3.size; have := hb4.size; omega
    clear hb0 hb1 hb2 hb3 hb4 hc1 hc2 hc3 hc4 hw0 hw1 hw2 hw3 z0 C1 C2 C3 C4
    go_upto_region 14 with (first
      | (go_at_call 23; (with_reducible refine (K1.out _ _ h1.out).mono ?_); rintro e w5 ⟨rfl, hb5⟩; have g5 := hb5)
      | (go_at_call 23; (with_reducible refine (K2.out _ _ (h2.out.below g5 (Nat.le_refl _))).mono ?_); rintro e w6 ⟨rfl, hb6⟩; have g6 := g5.trans (hb6.mono g5.size))
      | (go_at_call 23; (with_reducible refine (K3.out _ _ (h3.out.below g6 (Nat.le_refl _))).mono ?_); rintro e w7 ⟨rfl, hb7⟩; have g7 := g6.trans (hb7.mono g6.size))
      | (go_at_call 23; (with_reducible refine (K4.out _ _ (h4.out.below g7 (Nat.le_refl _))).mono ?_); rintro e w8 ⟨rfl, hb8⟩; have g8 := g7.trans (hb8.mono g7.size))
      | go_in)
    have hw8 := hw4.trans (g8.mono hw4.size)
    clear hb5 hb6 hb7 hb8 g5 g6 g7 K1 K2 K3 K4
    go_upto_region 16 with (first
      | (go_at_call 24; (with_reducible refine (N1.out _ hw8).mono ?_); rintro e w9 ⟨hb9, v9, rfl, P, oP, iPts, lP⟩; obtain ⟨s9, c9, rfl⟩ := own_slice oP; have hw9 := hw8.trans (hb9.mono hw8.size); have oPh := Lib.hid oP; have iPh := Lib.hid iPts)
      | (go_at_call 24; (with_reducible refine (N2.out _ hw9).mono ?_); rintro e w10 ⟨hb10, v10, rfl, Q, oQ, iQts, lQ⟩; obtain ⟨s10, c10, rfl⟩ := own_slice oQ; have hw10 := hw9.trans (hb10.mono hw9.size); have oP10 := Lib.hid (oPh.out.below hb10 (Nat.le_refl _)); have oQh := Lib.hid oQ; have iQh := Lib.hid iQts; have z8_10 := Nat.le_trans hb9.size hb10.size)
      | (at_builtin; refine wpList_append_row rfl _ _ _ rfl w8.heap.size 34 iP _ 2 16 Try.underlying37 hp0 hp1 hp2 hp3 rfl (by omega) w10 _ _ _ (by rfl) oP10.out encS_len encS_one w10.heap.size _ Q (oQh.out.row (Nat.le_refl _)) (by rfl) (by unfold maxLen; omega) (by omega) z8_10 ?_; intro v11 w11 hown11 hgr11)
      | go_in)
    have z48 := g8.size
    have b811 : Below w8.heap.size w8 w11 := (hb9.trans (hb10.mono hb9.size)).grown hgr11 z8_10 (fun g hg => (oP10.out.lt g hg).1)
    have g411 : Below w4.heap.size w4 w11 := g8.trans (b811.mono g8.size)
    have p0 := (g411.cell (p := ⟨w.heap.size, 0, none⟩) y4).trans q0
    have p1 := (g411.cell (p := ⟨w.heap.size, 1, none⟩) y4).trans q1
    have yb : w.heap.size < w11.heap.size := by have := g411.size; omega
    have z811 := b811.size
    rw [← List.flatMap_append] at hown11
    obtain ⟨PQ, hPQ⟩ : ∃ PQ, P ++ Q = PQ := ⟨_, rfl⟩
    have hPQl : PQ.length = P.length + Q.length := by rw [← hPQ, List.length_append]
    have iPQ : Pts PQ := fun p hp => by
      rw [← hPQ] at hp
      rcases List.mem_append.1 hp with h | h
      · exact iPh.out p h
      · exact iQh.out p h
    rw [hPQ, ← hPQl] at hown11
    have lPQ : PQ.length ≤ 512 := by omega
    obtain ⟨s11, c11, rfl⟩ := own_slice hown11
    replace iPQ := Lib.hid iPQ
    replace hown11 := Lib.hid hown11
    have hw11 := hw8.trans (b811.mono hw8.size)
    clear hb9 hb10 hgr11 hPQ hPQl iPts iQts oP10 oPh oQh q0 q1 z8_10 hw9 hw10 g8 hw8
    go_upto_region 17 with (first
      | (at_builtin; refine wpList_append_new rfl _ _ _ rfl w8.heap.size 34 iP _ 2 16 Try.underlying37 hp0 hp1 hp2 hp3 rfl (by omega) w11 1 _ _ _ _ (by rfl) hown11.out (by rfl) rfl (by simp [Value.oneCell']) (by omega) (by unfold maxLen; omega) z811 ?_; intro v12 w12 hown12 hb12)
      | go_in)
    have hown12 := hown12
    rw [flatP_snoc (t := (px, py)) (cs := [.int .i64 px, .int .i64 py]) rfl] at hown12
    obtain ⟨AT, hAT⟩ : ∃ AT, PQ ++ [(px, py)] = AT := ⟨_, rfl⟩
    have hATl : AT.length = PQ.length + 1 := by rw [← hAT, List.length_append]; rfl
    have iAT : Pts AT := by rw [← hAT]; exact iPQ.out.snoc hpx hpy
    rw [hAT, ← hATl] at hown12
    have lAT : AT.length ≤ 600 := by omega
    have b812 : Below w8.heap.size w8 w12 := b811.trans hb12
    have g412 : Below w4.heap.size w4 w12 := by
      have : Below w4.heap.size w11 w12 := hb12.mono z48
      exact g411.trans this
    have hw12 : Below w.heap.size w w12 := hw4.trans (g412.mono hw4.size)
    have h1' := Lib.hid (h1.out.below g412 (Nat.le_refl _))
    have h2' := Lib.hid (h2.out.below g412 (Nat.le_refl _))
    have h3' := Lib.hid (h3.out.below g412 (Nat.le_refl _))
    have h4' := Lib.hid (h4.out.below g412 (Nat.le_refl _))
    have oAT : OwnsP w8.heap.size w12 _ AT := hown12
    obtain ⟨s12, c12, rfl⟩ := own_slice oAT
    have hopen := fun (h0 : 0 < AT.length) => (oAT.row (Nat.le_refl _)).open_ h0
    obtain ⟨n, hn⟩ : ∃ n, AT.length = n := ⟨_, rfl⟩
    rw [hn] at hopen lAT ⊢
    replace hopen := Lib.hid hopen
    replace hn := Lib.hid hn
    replace iAT := Lib.hid iAT
    clear h1 h2 h3 h4 hown12 oAT hb12 b811 g411 p0 p1 yb hAT hATl hown11 iPQ b812 g412 hw11
    go_wp2
    go_loopw [17] (fun iv wr => ∃ k : Nat, k ≤ n ∧ iv = .int .i64 k ∧ Below w12.heap.size w12 wr) (fun iv _ => n - (intOf iv).toNat)
    case atStart => exact ⟨0, Nat.zero_le _, rfl, Below.refl _ _⟩
    case round =>
      obtain ⟨k, hk, rfl, b0⟩ := hrel
      have hwr : Below w.heap.size w wr := hw12.trans (b0.mono hw12.size)
      by_cases hkn : k < n
      · obtain ⟨bk, o, cap', e, yb, _, _, hel⟩ := hopen.out (by omega)
        simp at e
        obtain ⟨rfl, rfl⟩ := e
        obtain ⟨⟨x, z⟩, hp⟩ := get_at hn.out hkn
        obtain ⟨hx, hz⟩ := iAT.out (x, z) (List.mem_of_getElem? hp)
        have g0 : w12.cell? ⟨bk, o + k * 2, none⟩ = some (.int .i64 x) := hel k (x, z) hp 0 _ rfl
        have g1 : w12.cell? ⟨bk, o + k * 2 + 1, none⟩ = some (.int .i64 z) := hel k (x, z) hp 1 _ rfl
        replace g0 := (b0.cell (p := ⟨bk, o + k * 2, none⟩) yb).trans g0
        replace g1 := (b0.cell (p := ⟨bk, o + k * 2 + 1, none⟩) yb).trans g1
        have yb' : bk < wr.heap.size := by have := b0.size; omega
        have hkk : (k : Int) < n := by omega
        obtain ⟨q, hq⟩ : ∃ q, hasL a x z = q := ⟨_, rfl⟩
        obtain ⟨r, hr⟩ : ∃ r, hasL b x z = r := ⟨_, rfl⟩
        have jJ : hasL J x z = (q || r) := by rw [pJ.out, hq, hr]
        have jM : hasL M x z = (q && r) := by rw [pM.out, hq, hr]
        have jL : hasL L x z = (q && !r) := by rw [pL.out, hq, hr]
        have jO : hasL O x z = q := by rw [pO.out, hq]
        have CA := fun W (h : Below wr.heap.size wr W) => covered_any a _ x z W (RAh.out W (hwr.trans (h.mono hwr.size))) ma.out (by omega) hx hz
        have CB := fun W (h : Below wr.heap.size wr W) => covered_any b _ x z W (RBh.out W (hwr.trans (h.mono hwr.size))) mb.out (by omega) hx hz
        have CJ := fun W (h : Below wr.heap.size wr W) => covered_any J _ x z W (((h1'.out.below b0 (Nat.le_refl _)).below h (Nat.le_refl _)).row (Nat.le_refl _)) mJ.out (by omega) hx hz
        have CM := fun W (h : Below wr.heap.size wr W) => covered_any M _ x z W (((h2'.out.below b0 (Nat.le_refl _)).below h (Nat.le_refl _)).row (Nat.le_refl _)) mM.out (by omega) hx hz
        have CL := fun W (h : Below wr.heap.size wr W) => covered_any L _ x z W (((h3'.out.below b0 (Nat.le_refl _)).below h (Nat.le_refl _)).row (Nat.le_refl _)) mL.out (by omega) hx hz
        have CO := fun W (h : Below wr.heap.size wr W) => covered_any O _ x z W (((h4'.out.below b0 (Nat.le_refl _)).below h (Nat.le_refl _)).row (Nat.le_refl _)) mO.out (by omega) hx hz
        have CH := fun W (h : Below wr.heap.size wr W) => has_small a _ x z W (RAh.out W (hwr.trans (h.mono hwr.size))) ma.out (by omega) hx hz
        simp only [hq, hr, jJ, jM, jL, jO] at CA CB CJ CM CL CO CH
        clear hq hr jJ jM jL jO hel hp hx hz h1' h2' h3' h4' RAh RBh hopen ma mb mJ mM mL mO pJ pM pL pO iAT hn
        have b20 : Below wr.heap.size wr wr := Below.refl _ _
        have fin : ∀ W, Below wr.heap.size wr W → Below w12.heap.size w12 W := fun W h => b0.trans (h.mono b0.size)
        replace fin := Lib.hid fin
        clear b0 hwr hw12
        cases q <;> cases r
        all_goals
          simp only [Bool.or_true, Bool.or_false, Bool.true_or, Bool.false_or, Bool.and_true, Bool.and_false, Bool.true_and, Bool.false_and, Bool.not_true, Bool.not_false] at CJ CM CL
          replace CA := Lib.hid CA
          replace CB := Lib.hid CB
          replace CJ := Lib.hid CJ
          replace CM := Lib.hid CM
          replace CL := Lib.hid CL
          replace CO := Lib.hid CO
          replace CH := Lib.hid CH
          go_wp2_with (first
            | (go_at_call 25; (with_reducible refine (CA.out _ b20).mono ?_); rintro e w21 ⟨rfl, hb21⟩; have b21 := b20.trans (hb21.mono b20.size); obtain ⟨hc21, hf21⟩ := bcell b21)
            | (go_at_call 25; (with_reducible refine (CB.out _ b21).mono ?_); rintro e w22 ⟨rfl, hb22⟩; have b22 := b21.trans (hb22.mono b21.size); obtain ⟨hc22, hf22⟩ := bcell b22)
            | (go_at_call 25; (with_reducible refine (CJ.out _ b22).mono ?_); rintro e w23 ⟨rfl, hb23⟩; have b23 := b22.trans (hb23.mono b22.size); obtain ⟨hc23, hf23⟩ := bcell b23)
            | (go_at_call 25; (with_reducible refine (CM.out _ b23).mono ?_); rintro e w24 ⟨rfl, hb24⟩; have b24 := b23.trans (hb24.mono b23.size); obtain ⟨hc24, hf24⟩ := bcell b24)
            | (go_at_call 25; (with_reducible refine (CL.out _ b24).mono ?_); rintro e w25 ⟨rfl, hb25⟩; have b25 := b24.trans (hb25.mono b24.size); obtain ⟨hc25, hf25⟩ := bcell b25)
            | (go_at_call 25; (with_reducible refine (CO.out _ b25).mono ?_); rintro e w26 ⟨rfl, hb26⟩; have b26 := b25.trans (hb26.mono b25.size); obtain ⟨hc26, hf26⟩ := bcell b26)
            | (go_at_call 26; (with_reducible refine (CH.out _ b26).mono ?_); rintro e w27 ⟨rfl, hb27⟩; have b27 := b26.trans (hb27.mono b26.size); obtain ⟨hc27, hf27⟩ := bcell b27)
            | go_in)
          go_roundw
          case rel => exact ⟨k + 1, by omega, by go_num, fin.out _ b27⟩
          case measure => simp [intOf]; omega
      · obtain rfl : k = n := by omega
        clear hopen
        go_wp2
        go_ret
        exact ⟨rfl, hwr⟩
  · have hc4 : ∀ l : List Re, l.length ≤ 16 → chkR l = 0 ∨ chkR l = 5 := fun l h => by
      unfold chkR
      rw [if_neg (by omega)]
      split
      · exact .inl rfl
      · exact .inr rfl
    have h5 : askR a b = 5 := by
      unfold askR at h0 ⊢
      rcases hc4 a (by omega) with h | h
      · rw [if_pos h] at h0 ⊢
        rcases hc4 b (by omega) with h | h
        · exact absurd h h0
        · exact h
      · rw [if_neg (by omega)]; exact h
    have eE : ∀ k, bothE a b k = 5 := fun k => by unfold bothE; rw [if_neg h0]; exact h5
    have eL : ∀ k, bothL a b k = [] := fun k => by unfold bothL; rw [if_neg h0]
    obtain ⟨H, hH, h05⟩ : ∃ H, bothE a [] 1 = H ∧ (H = 0 ∨ H = 5) := by
      refine ⟨_, rfl, ?_⟩
      rcases hc4 a (by omega) with h | h
      · exact .inl ((of_err (by omega)).1 h)
      · exact .inr (((of_err (by omega)).2 (by omega)).1.trans h)
    have C1 := fun W (h : Below w.heap.size w W) => join_any a b _ _ W (RA W h) (RB W h) wa wb
    have C2 := fun W (h : Below w.heap.size w W) => meet_any a b _ _ W (RA W h) (RB W h) wa wb
    have C3 := fun W (h : Below w.heap.size w W) => less_any a b _ _ W (RA W h) (RB W h) wa wb
    have C4 := fun W (h : Below w.heap.size w W) => of_any a _ W (RA W h) wa
    obtain ⟨LO, hLO⟩ : ∃ LO, bothL a [] 1 = LO := ⟨_, rfl⟩
    simp only [eE, eL] at C1 C2 C3
    simp only [hH, hLO] at C4
    clear hH hLO eE eL h5 h0 hc4 RA RB ha hb
    rcases h05 with rfl | rfl
    all_goals
      replace C1 := Lib.hid C1
      replace C2 := Lib.hid C2
      replace C3 := Lib.hid C3
      replace C4 := Lib.hid C4
      go_enter Try.func4, Try.ntmps4
      go_wp2_with (first
        | (go_at_call 8; (with_reducible refine (alive_any _).mono ?_); rintro e w0 ⟨rfl, hb0⟩; have hw0 : Below w.heap.size w w0 := ((Below.refl _ _).alloc (Nat.le_refl _) _).trans (hb0.mono (by simp)); have z0 := hw0.size)
        | (go_at_call 11; (with_reducible refine (C1.out _ hw0).mono ?_); rintro e w1 ⟨hb1, v1, rfl, hc1⟩; have hw1 := hw0.trans (hb1.mono hw0.size); obtain ⟨t1, d1, rfl⟩ := cut_none hc1)
        | (go_at_call 12; (with_reducible refine (C2.out _ hw1).mono ?_); rintro e w2 ⟨hb2, v2, rfl, hc2⟩; have hw2 := hw1.trans (hb2.mono hw1.size); obtain ⟨t2, d2, rfl⟩ := cut_none hc2)
        | (go_at_call 13; (with_reducible refine (C3.out _ hw2).mono ?_); rintro e w3 ⟨hb3, v3, rfl, hc3⟩; have hw3 := hw2.trans (hb3.mono hw2.size); obtain ⟨t3, d3, rfl⟩ := cut_none hc3)
        | (go_at_call 22; (with_reducible refine (C4.out _ hw3).mono ?_); rintro e w4 ⟨hb4, v4, rfl, hc4⟩; have hw4 := hw3.trans (hb4.mono hw3.size))
        | go_in)
      go_ret
      exact ⟨rfl, hw4⟩
end Go.Proofs.Ytlklmncjicgbgaa
