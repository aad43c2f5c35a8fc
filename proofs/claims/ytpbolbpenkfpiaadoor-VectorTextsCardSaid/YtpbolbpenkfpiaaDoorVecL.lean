/-
  The document's Text.
-/
import Derived.Test.YtpbolbpenkfpiaaDoorVecK
namespace Go.Proofs.YtpbolbpenkfpiaaDoor
open Go.RowKit
set_option linter.unusedVariables false
attribute [local go_sem] vwp vUpon_value vUpon_skip vUpon_enter vUpon_row
set_option linter.unusedSimpArgs false
set_option linter.unusedVariables false
theorem ownY_app {base : Nat} {w : World} {v : Value} {N : Nat} {out : List UInt8} {s : ByteArray} (h : w.ownsRow base 5 1 v (N + s.size) (Lib.byteCells out ++ Lib.strCells s)) (hN : out.length = N) : OwnsY base w v (out ++ s.data.toList) := by
  unfold OwnsY
  rw [List.length_append, hN, data_len, ← bytes_snocA]
  exact h
set_option maxHeartbeats 2000000 in
set_option maxRecDepth 100000 in
theorem ktext_any (xs : List St) (v : Value) (W H : Int) (w : World) (hl : Row w.heap.size 15 St.enc w v xs) (hw : ∀ s ∈ xs, s.Wf) (h1 : I64 W) (h2 : I64 H) :
    Calls Tryd.prog 5 #[v, .agg #[.int .i64 W, .int .i64 H]] w (TxPost (txR xs W H) w) := by
  obtain ⟨iB, hi0, hz0, hz1, hz2⟩ := info_parts infoB
  have C1 := fun w' (hb : Below w.heap.size w w') => rcheck_any xs v w' ((hl.below hb).mono hb.size) hw
  have SZ := fun w => ksized_any W H w h1 h2
  obtain ⟨s0, cap, rfl, hmax⟩ := hl.shape
  have hopen := fun h0 => row_st hl h0
  obtain ⟨n, hn⟩ : ∃ n, xs.length = n := ⟨_, rfl⟩
  rw [hn] at hopen hmax C1 ⊢
  have hw1 : Below w.heap.size w (w.alloc (.cells #[.int .i64 W, .int .i64 H] 24)) := (by repeat (first | exact Below.refl _ _ | assumption | refine Below.drew ?_ | refine Below.alloc ?_ (by (try simp) <;> omega) _ | refine Below.setCell ?_ (by (try simp) <;> omega) _ | (refine Below.trans ?_ (Below.mono (by assumption) (by (try simp) <;> omega)))))
  replace hw1 := Lib.hid hw1
  have hbx : Blk (w.alloc (.cells #[.int .i64 W, .int .i64 H] 24)) w.heap.size [.int .i64 W, .int .i64 H] 24 := Blk.new' rfl
  replace hbx := Lib.hid hbx
  unfold maxLen at hmax
  by_cases hc : chkL xs = 0
  · have hz := fun s hs => chk_mem hc s hs
    have l1 : n ≤ 16384 := by have := chk_len hc; omega
    rw [hc] at C1
    cases hs : sizedB W H
    · have e : txR xs W H = ([], 9) := by unfold txR; rw [if_pos hc, hs]; rfl
      rw [e]
      rw [hs] at SZ
      clear e hl hopen hc hz hs
      replace C1 := Lib.hid C1
      replace SZ := Lib.hid SZ
      go_enter Tryd.func5, Tryd.ntmps5
      go_wp2_with (first
        | (go_at_call 18; (with_reducible refine (C1.out _ hw1.out).mono ?_); rintro e w2 ⟨rfl, hb2⟩; have hw2 := hw1.out.trans (hb2.mono hw1.out.size); have z2 := hw2.size; have hB2 := hbx.out.below hb2 (by simp); have b20 := hB2.cell (o := 0) rfl; have b21 := hB2.cell (o := 1) rfl; have yy2 := hB2.lt; replace hB2 := Lib.hid hB2)
        | (go_at_call 19; (with_reducible refine (SZ.out _).mono ?_); rintro e w3 ⟨rfl, hb3⟩; have hw3 := hw2.trans (hb3.mono z2); have z3 := hw3.size; have hB3 := hB2.out.below hb3 yy2)
        | go_in)
      refine bodyPost_ret (v := .tuple #[.string ⟨#[]⟩, .int .i64 9]) (by simp [results, Tryd.results5, go_sem]) rfl ⟨rfl, hw3⟩
    · obtain ⟨G, hG⟩ : ∃ G, txGo xs (headS W H).data.toList = G := ⟨_, rfl⟩
      have e : txR xs W H = txEnd G := by unfold txR; rw [if_pos hc, if_pos hs, hG]
      rw [e]
      obtain ⟨R, hR⟩ : ∃ R, txEnd G = R := ⟨_, rfl⟩
      rw [hR]
      replace hR := Lib.hid hR
      have hhs := head_size hs
      rw [hs] at SZ
      have hWH : (0 ≤ W ∧ W ≤ 16384) ∧ (0 ≤ H ∧ H ≤ 16384) := by unfold sizedB at hs; simp at hs; omega
      obtain ⟨⟨w0, w1⟩, h0, h9⟩ := hWH
      clear e hl hc hs
      replace C1 := Lib.hid C1
      replace SZ := Lib.hid SZ
      replace hG := Lib.hid hG
      replace hz := Lib.hid hz
      replace hopen := Lib.hid hopen
      replace hn := Lib.hid hn
      replace hw := Lib.hid hw
      go_enter Tryd.func5, Tryd.ntmps5
      go_upto_region 7 with (first
        | (go_at_call 18; (with_reducible refine (C1.out _ hw1.out).mono ?_); rintro e w2 ⟨rfl, hb2⟩; have hw2 := hw1.out.trans (hb2.mono hw1.out.size); have z2 := hw2.size; have hB2 := hbx.out.below hb2 (by simp); have b20 := hB2.cell (o := 0) rfl; have b21 := hB2.cell (o := 1) rfl; have yy2 := hB2.lt; replace hB2 := Lib.hid hB2)
        | (go_at_call 19; (with_reducible refine (SZ.out _).mono ?_); rintro e w3 ⟨rfl, hb3⟩; have hw3 := hw2.trans (hb3.mono z2); have z3 := hw3.size; have hB3 := hB2.out.below hb3 yy2)
        | go_in)
      have b30 := hB3.cell (o := 0) rfl
      have b31 := hB3.cell (o := 1) rfl
      have yy3 := hB3.lt
      clear hb2 hb3 b20 b21 hB2 yy2 hw2 z2 C1 SZ hbx hw1 hB3
      have zW := num_size (n := W) (by omega) (by omega)
      have zH := num_size (n := H) (by omega) (by omega)
      have yW : (fldS ⟨#[119]⟩ (numS W)).size ≤ 20 := by rw [fld_size]; show 1 + _ + _ ≤ _; omega
      have yH : (fldS ⟨#[104]⟩ (numS H)).size ≤ 20 := by rw [fld_size]; show 1 + _ + _ ≤ _; omega
      have FW := fun w => field_any ⟨#[119]⟩ (numS W) w (by decide) (by omega)
      have FH := fun w => field_any ⟨#[104]⟩ (numS H) w (by decide) (by omega)
      have NW := fun w => number_any W w (by omega) (by omega)
      have NH := fun w => number_any H w (by omega) (by omega)
      replace FW := Lib.hid FW
      replace FH := Lib.hid FH
      replace NW := Lib.hid NW
      replace NH := Lib.hid NH
      refine wp_region_steady_then (Held w3 0 []) 12 (by kernel_rfl) (by kernel_rfl) (by decide) (by kernel_rfl) (by kernel_rfl) ⟨(by repeat (first | exact Below.refl _ _ | assumption | refine Below.drew ?_ | refine Below.alloc ?_ (by (try simp) <;> omega) _ | refine Below.setCell ?_ (by (try simp) <;> omega) _ | (refine Below.trans ?_ (Below.mono (by assumption) (by (try simp) <;> omega))))), (by (try simp) <;> omega), (by first | exact trivial | (simp only [Cells]; go_simp))⟩ ?_
      simp only [List.take_succ_cons, List.take_zero]
      repeat (first | (refine' wpSteady_do _ _ _; rotate_left; (focus rfl); (focus (intro w1 hS R hR; have hc := hS.cells; simp only [Cells] at hc; obtain ⟨hco, hfo⟩ := bcell hS.old; go_simp; (try go_bits); (try (rw [if_neg (by omega)]; go_simp)); first | exact hR _ hS | (go_at_call 21; (with_reducible refine (NW.out _).mono ?_); rintro e w2 ⟨rfl, rfl⟩; exact ⟨_, rfl, hR _ hS⟩) | (go_at_call 21; (with_reducible refine (NH.out _).mono ?_); rintro e w2 ⟨rfl, rfl⟩; exact ⟨_, rfl, hR _ hS⟩) | (go_at_call 20; (with_reducible refine (FW.out _).mono ?_); rintro e w2 ⟨rfl, rfl⟩; exact ⟨_, rfl, hR _ hS⟩) | (go_at_call 20; (with_reducible refine (FH.out _).mono ?_); rintro e w2 ⟨rfl, rfl⟩; exact ⟨_, rfl, hR _ hS⟩))); simp only [Act.put, List.setIfInBounds_toArray, List.set_cons_zero, List.set_cons_succ]) | (refine wpSteady_pass ?_ ?_; (focus rfl); simp only [Act.put, List.setIfInBounds_toArray, List.set_cons_zero, List.set_cons_succ]))
      refine wpSteady_nil (fun uA hSA => ?_)
      have hcA := hSA.cells; have hbA := hSA.old; have hzA := hSA.size; clear hSA; simp only [Cells] at hcA; obtain ⟨hcoA, hfoA⟩ := bcell hbA
      simp only [List.drop_succ_cons, List.drop_zero, List.drop_nil]
      have z3A := hbA.size
      have hnil : uA.ownsRow w3.heap.size 5 1 (.slice none 0 0) 0 [] := World.ownsRow_nil _ _ _ _
      replace hnil := Lib.hid hnil
      have hse : (headS W H).size ≤ 60 := hhs
      go_upto_region 8 with (first
        | (at_builtin; refine Lib.wpList_append_own_string uA rfl _ _ _ _ rfl w3.heap.size 5 iB Tryd.underlying44 Tryd.underlying9 hi0 hz0 hz1 hz2 _ _ _ (by rfl) hnil.out (headS W H) (by rfl) (by unfold maxLen; omega) (by omega) z3A ?_; intro v6 w6 hown6 hgr6 _)
        | go_in)
      have hlt6 := hnil.out.lt
      have hb6 : Below w3.heap.size uA w6 := (Below.refl _ _).grown hgr6 z3A (fun g hg => by cases hg)
      have hi6 : OwnsY w3.heap.size w6 v6 (headS W H).data.toList := by
        have := ownY_app (out := []) hown6 rfl
        simpa using this
      have h36 := (hbA.mono (Nat.le_refl _)).trans hb6
      replace hi6 := Lib.hid hi6
      have hh65 : (headS W H).data.toList.length ≤ 65536 := by rw [data_len]; omega
      clear hown6 hgr6 hlt6 hb6 hcA hcoA hfoA b30 b31 hbA hnil
      go_wp2
      go_loopw [7, 8] (fun ov iv wr => ∃ (k : Nat) (out : List UInt8), k ≤ n ∧ iv = .int .i64 k ∧ OwnsY w3.heap.size wr ov out ∧ out.length ≤ 65536 ∧ txGo (xs.drop k) out = G ∧ Below w3.heap.size w3 wr) (fun _ iv _ => n - (intOf iv).toNat)
      case atStart => exact ⟨0, _, Nat.zero_le _, rfl, hi6.out, hh65, hG.out, h36⟩
      case round =>
        obtain ⟨k, out, hk, rfl, hown, hol, hgo, hbr⟩ := hrel
        have zr := hbr.size
        have h0r := hw3.trans (hbr.mono z3)
        have z0r := h0r.size
        obtain ⟨N, hN⟩ : ∃ N, out.length = N := ⟨_, rfl⟩
        unfold OwnsY at hown
        rw [hN] at hown hol
        by_cases hkn : k < n
        · obtain ⟨b, p, cap', e, hb, _, _, hel⟩ := hopen.out (by omega)
          simp at e
          obtain ⟨rfl, rfl⟩ := e
          obtain ⟨s, hs⟩ : ∃ s, xs[k]? = some s := ⟨xs[k]'(by have := hn.out; omega), List.getElem?_eq_getElem _⟩
          obtain ⟨g0, g1, g2, g3, g4, g5, g6, g7, g8, g9, g10, g11, g12, g13, g14⟩ := hel k s hs
          obtain ⟨hcr, hfr⟩ := bcell h0r
          have he := hz.out s (List.mem_of_getElem? hs)
          have hws := hw.out s (List.mem_of_getElem? hs)
          have hsr := may_bd' (err_may he)
          rw [tx_step hs] at hgo
          have hls := line_size he hsr
          have L := fun w => kline_any s w he hws hsr
          have hkk : (k : Int) < n := by omega
          have yb : b < wr.heap.size := by omega
          clear hel hs he hws hsr
          replace L := Lib.hid L
          replace hown := Lib.hid hown
          replace hgo := Lib.hid hgo
          replace hN := Lib.hid hN
          go_upto_region 12 with (first
            | (go_at_call 22; (with_reducible refine (L.out _).mono ?_); rintro e w6 ⟨rfl, hb6⟩; have zr6 := hb6.size; have hown7 := Lib.hid (ownsRow_below hown.out hb6 (Nat.le_refl _)); have z36 : w3.heap.size ≤ w6.heap.size := (by omega))
            | (at_builtin; refine Lib.wpList_append_own_string w6 rfl _ _ _ _ rfl w3.heap.size 5 iB Tryd.underlying44 Tryd.underlying9 hi0 hz0 hz1 hz2 _ _ _ (by rfl) hown7.out (lineS s) (by rfl) (by unfold maxLen; omega) (by omega) z36 ?_; intro v7 w7 hown8 hgr8 _)
            | go_in)
          have hlt6 := hown7.out.lt
          have hb7 : Below w3.heap.size w6 w7 := (Below.refl _ _).grown hgr8 z36 (fun g hg => (hlt6 g hg).1)
          have h37 := (hbr.trans (hb6.mono zr)).trans hb7
          have hi7 : OwnsY w3.heap.size w7 v7 (out ++ (lineS s).data.toList) := ownY_app hown8 hN.out
          obtain ⟨O, hO⟩ : ∃ O, out ++ (lineS s).data.toList = O := ⟨_, rfl⟩
          rw [hO] at hi7
          have hg := hgo.out
          rw [hO] at hg
          obtain ⟨M, hM⟩ : ∃ M, O.length = M := ⟨_, rfl⟩
          rw [hM] at hg
          unfold OwnsY at hi7
          rw [hM] at hi7
          obtain ⟨s7, c7, rfl⟩ := own_slice hi7
          replace hi7 := Lib.hid hi7
          replace h37 := Lib.hid h37
          clear hown8 hgr8 hlt6 hb7 hb6 hcr hfr hO hown7
          by_cases hbig : 65536 < M
          · rw [if_pos hbig] at hg
            subst hg
            have hR := hR.out
            have hR : (([] : List UInt8), (3 : Int)) = R := hR
            subst hR
            have hbI : (65536 : Int) < M := by omega
            go_wp2
            refine bodyPost_ret (v := .tuple #[.string ⟨#[]⟩, .int .i64 3]) (by simp [results, Tryd.results5, go_sem]) rfl ⟨rfl, hw3.trans (h37.out.mono z3)⟩
          · rw [if_neg hbig] at hg
            replace hg := Lib.hid hg
            have hbI : ¬ (65536 : Int) < M := by omega
            replace hM := Lib.hid hM
            go_wp2
            go_roundw
            case rel => exact ⟨k + 1, O, by omega, by go_num, by unfold OwnsY; rw [hM.out]; exact hi7.out, by have := hM.out; omega, hg.out, h37.out⟩
            case measure => simp [intOf]; omega
        · obtain rfl : k = n := by omega
          rw [tx_fin (by have := hn.out; omega)] at hgo
          subst hgo
          replace hown := Lib.hid hown
          replace hN := Lib.hid hN
          have hfs : footS.size = 10 := rfl
          go_upto_region 15 with (first
            | (at_builtin; refine Lib.wpList_append_own_string wr rfl _ _ _ _ rfl w3.heap.size 5 iB Tryd.underlying44 Tryd.underlying9 hi0 hz0 hz1 hz2 _ _ _ (by rfl) hown.out footS (by rfl) (by unfold maxLen; omega) (by omega) zr ?_; intro v7 w7 hown8 hgr8 _)
            | go_in)
          have hlt6 := hown.out.lt
          have hb7 : Below w3.heap.size wr w7 := (Below.refl _ _).grown hgr8 zr (fun g hg => (hlt6 g hg).1)
          have h37 := hbr.trans hb7
          have hi7 : OwnsY w3.heap.size w7 v7 (out ++ footS.data.toList) := ownY_app hown8 hN.out
          have S := own_textY hi7
          obtain ⟨T, hT⟩ : ∃ T, out ++ footS.data.toList = T := ⟨_, rfl⟩
          have hR := hR.out
          unfold txEnd at hR
          simp only at hR
          rw [hT] at hR S hi7
          obtain ⟨M, hM⟩ : ∃ M, T.length = M := ⟨_, rfl⟩
          unfold OwnsY at hi7
          rw [hM] at hR hi7
          obtain ⟨s7, c7, rfl⟩ := own_slice hi7
          replace hi7 := Lib.hid hi7
          clear hM hown8 hgr8 hlt6 hb7 hT hfs
          by_cases hbig : 65536 < M
          · rw [if_pos hbig] at hR
            subst hR
            have hbI : (65536 : Int) < M := by omega
            go_wp2
            refine bodyPost_ret (v := .tuple #[.string ⟨#[]⟩, .int .i64 3]) (by simp [results, Tryd.results5, go_sem]) rfl ⟨rfl, hw3.trans (h37.mono z3)⟩
          · rw [if_neg hbig] at hR
            have hbI : ¬ (65536 : Int) < M := by omega
            subst hR
            go_wp2
            refine bodyPost_ret (v := .tuple #[.string ⟨T.toArray⟩, .int .i64 0]) (by simp [results, Tryd.results5, go_sem]) rfl ⟨rfl, hw3.trans (h37.mono z3)⟩
  · have e : txR xs W H = ([], chkL xs) := by unfold txR; rw [if_neg hc]
    rw [e]
    obtain ⟨E, hE⟩ : ∃ E, chkL xs = E := ⟨_, rfl⟩
    rw [hE] at C1 hc ⊢
    have hcb : (E == 0) = false := by simpa using hc
    have hcn : (E != 0) = true := by simpa using hc
    clear e hE hl hopen hc
    replace C1 := Lib.hid C1
    go_enter Tryd.func5, Tryd.ntmps5
    go_wp2_with (first
      | (go_at_call 18; (with_reducible refine (C1.out _ hw1.out).mono ?_); rintro e w2 ⟨rfl, hb2⟩; have hw2 := hw1.out.trans (hb2.mono hw1.out.size); have z2 := hw2.size; have hB2 := hbx.out.below hb2 (by simp); have b20 := hB2.cell (o := 0) rfl; have b21 := hB2.cell (o := 1) rfl; have yy2 := hB2.lt; replace hB2 := Lib.hid hB2)
      | go_in)
    refine bodyPost_ret (v := .tuple #[.string ⟨#[]⟩, .int .i64 E]) (by simp [results, Tryd.results5, go_sem]) rfl ⟨rfl, hw2⟩
end Go.Proofs.YtpbolbpenkfpiaaDoor
