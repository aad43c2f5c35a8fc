/-
  vector.Text.
-/
import Derived.Test.YtpbolbpenkfpiaaDoorVecJ
namespace Go.Proofs.YtpbolbpenkfpiaaDoor
open Go.RowKit
set_option linter.unusedVariables false
attribute [local go_sem] vwp vUpon_value vUpon_skip vUpon_enter vUpon_row
set_option linter.unusedSimpArgs false
set_option linter.unusedVariables false
def TxPost (R : List UInt8 × Int) (w : World) (e : Ending) (w' : World) : Prop := e = .returned (.tuple #[.string ⟨R.1.toArray⟩, .int .i64 R.2]) ∧ Below w.heap.size w w'
theorem data_len (b : ByteArray) : b.data.toList.length = b.size := by simp
theorem isB_len (out : List UInt8) (h : out.length ≤ 65536) : (Lib.byteCells out).length ≤ 65536 := by rw [bytes_len]; exact h
set_option maxHeartbeats 2000000 in
set_option maxRecDepth 100000 in
theorem vtext_any (xs : List St) (v : Value) (W H : Int) (w : World) (hl : Row w.heap.size 15 St.enc w v xs) (hw : ∀ s ∈ xs, s.Wf) (hD : DigT w) (h1 : I64 W) (h2 : I64 H) :
    Calls Tryd.prog 4 #[v, .agg #[.int .i64 W, .int .i64 H]] w (TxPost (txR xs W H) w) := by
  have C1 := fun w' (hb : Below w.heap.size w w') => lcheck_any xs v w' ((hl.below hb).mono hb.size) hw
  have SZ := fun w => vsized_any W H w h1 h2
  obtain ⟨s0, cap, rfl, hmax⟩ := hl.shape
  have hopen := fun h0 => row_st hl h0
  obtain ⟨n, hn⟩ : ∃ n, xs.length = n := ⟨_, rfl⟩
  rw [hn] at hopen hmax C1 ⊢
  have hw1 : Below w.heap.size w (w.alloc (.cells #[.int .i64 W, .int .i64 H] 24)) := (by repeat (first | exact Below.refl _ _ | assumption | refine Below.drew ?_ | refine Below.alloc ?_ (by (try simp) <;> omega) _ | refine Below.setCell ?_ (by (try simp) <;> omega) _ | (refine Below.trans ?_ (Below.mono (by assumption) (by (try simp) <;> omega)))))
  replace hw1 := Lib.hid hw1
  have hbx : Blk (w.alloc (.cells #[.int .i64 W, .int .i64 H] 24)) w.heap.size [.int .i64 W, .int .i64 H] 24 := Blk.new' rfl
  replace hbx := Lib.hid hbx
  unfold maxLen at hmax
  by_cases hc : chkL xs = 0
  · have hz := fun s hs => chk_mem hc s hs
    have l1 : n ≤ 16384 := by have := chk_len hc; omega
    rw [hc] at C1
    cases hs : sizedB W H
    · have e : txR xs W H = ([], 9) := by unfold txR; rw [if_pos hc, hs]; rfl
      rw [e]
      rw [hs] at SZ
      clear e hl hopen hc hz hs
      replace C1 := Lib.hid C1
      replace SZ := Lib.hid SZ
      go_enter Tryd.func4, Tryd.ntmps4
      go_wp2_with (first
        | (go_at_call 11; (with_reducible refine (C1.out _ hw1.out).mono ?_); rintro e w2 ⟨rfl, hb2⟩; have hw2 := hw1.out.trans (hb2.mono hw1.out.size); have z2 := hw2.size; have hB2 := hbx.out.below hb2 (by simp); have b20 := hB2.cell (o := 0) rfl; have b21 := hB2.cell (o := 1) rfl; have yy2 := hB2.lt; replace hB2 := Lib.hid hB2)
        | (go_at_call 12; (with_reducible refine (SZ.out _).mono ?_); rintro e w3 ⟨rfl, hb3⟩; have hw3 := hw2.trans (hb3.mono z2); have z3 := hw3.size; have hB3 := hB2.out.below hb3 yy2)
        | go_in)
      refine bodyPost_ret (v := .tuple #[.string ⟨#[]⟩, .int .i64 9]) (by simp [results, Tryd.results4, go_sem]) rfl ⟨rfl, hw3⟩
    · obtain ⟨G, hG⟩ : ∃ G, txGo xs (headS W H).data.toList = G := ⟨_, rfl⟩
      have e : txR xs W H = txEnd G := by unfold txR; rw [if_pos hc, if_pos hs, hG]
      rw [e]
      obtain ⟨R, hR⟩ : ∃ R, txEnd G = R := ⟨_, rfl⟩
      rw [hR]
      replace hR := Lib.hid hR
      have hhs := head_size hs
      rw [hs] at SZ
      have hWH : (0 ≤ W ∧ W ≤ 16384) ∧ (0 ≤ H ∧ H ≤ 16384) := by unfold sizedB at hs; simp at hs; omega
      obtain ⟨⟨w0, w1⟩, h0, h9⟩ := hWH
      clear e hl hc hs
      replace C1 := Lib.hid C1
      replace SZ := Lib.hid SZ
      replace hG := Lib.hid hG
      replace hz := Lib.hid hz
      replace hopen := Lib.hid hopen
      replace hn := Lib.hid hn
      replace hw := Lib.hid hw
      replace hD := Lib.hid hD
      go_enter Tryd.func4, Tryd.ntmps4
      go_upto_region 7 with (first
        | (go_at_call 11; (with_reducible refine (C1.out _ hw1.out).mono ?_); rintro e w2 ⟨rfl, hb2⟩; have hw2 := hw1.out.trans (hb2.mono hw1.out.size); have z2 := hw2.size; have hB2 := hbx.out.below hb2 (by simp); have b20 := hB2.cell (o := 0) rfl; have b21 := hB2.cell (o := 1) rfl; have yy2 := hB2.lt; replace hB2 := Lib.hid hB2)
        | (go_at_call 12; (with_reducible refine (SZ.out _).mono ?_); rintro e w3 ⟨rfl, hb3⟩; have hw3 := hw2.trans (hb3.mono z2); have z3 := hw3.size; have hB3 := hB2.out.below hb3 yy2)
        | go_in)
      have b30 := hB3.cell (o := 0) rfl
      have b31 := hB3.cell (o := 1) rfl
      have yy3 := hB3.lt
      clear hb2 hb3 b20 b21 hB2 yy2 hw2 z2 C1 SZ hbx hw1 hB3
      have hf0 : IsB w3.heap.size w3.heap.size [] (w3.alloc (.cells #[.pointer none, .slice none 0 0] 46)) := Lib.IsBuilderF.of (Lib.fresh_isBuilder _ _ _)
      have h34 : Below w3.heap.size w3 (w3.alloc (.cells #[.pointer none, .slice none 0 0] 46)) := (by repeat (first | exact Below.refl _ _ | assumption | refine Below.drew ?_ | refine Below.alloc ?_ (by (try simp) <;> omega) _ | refine Below.setCell ?_ (by (try simp) <;> omega) _ | (refine Below.trans ?_ (Below.mono (by assumption) (by (try simp) <;> omega)))))
      have b40 : (w3.alloc (.cells #[.pointer none, .slice none 0 0] 46)).cell? ⟨w.heap.size, 0, none⟩ = some (.int .i64 W) := (h34.cell (p := ⟨w.heap.size, 0, none⟩) yy3).trans b30
      have b41 : (w3.alloc (.cells #[.pointer none, .slice none 0 0] 46)).cell? ⟨w.heap.size, 1, none⟩ = some (.int .i64 H) := (h34.cell (p := ⟨w.heap.size, 1, none⟩) yy3).trans b31
      obtain ⟨w4, hw4⟩ : ∃ w4, w3.alloc (.cells #[.pointer none, .slice none 0 0] 46) = w4 := ⟨_, rfl⟩
      rw [hw4] at hf0 h34 b40 b41 ⊢
      have h04 := hw3.trans (h34.mono z3)
      have z4 := h04.size
      have z34 := h34.size
      have yy4 : w.heap.size < w4.heap.size := by omega
      have hD4 := Lib.hid (hD.out.below h04 (Nat.le_refl _))
      have zW := num_size (n := W) (by omega) (by omega)
      have zH := num_size (n := H) (by omega) (by omega)
      have eH := head_eq (numS W) (numS H)
      replace hf0 := Lib.hid hf0
      clear hw4 b30 b31
      refine wp_region_steady_then (Held w4 0 []) 10 (by kernel_rfl) (by kernel_rfl) (by decide) (by kernel_rfl) (by kernel_rfl) ⟨(by repeat (first | exact Below.refl _ _ | assumption | refine Below.drew ?_ | refine Below.alloc ?_ (by (try simp) <;> omega) _ | refine Below.setCell ?_ (by (try simp) <;> omega) _ | (refine Below.trans ?_ (Below.mono (by assumption) (by (try simp) <;> omega))))), (by (try simp) <;> omega), (by first | exact trivial | (simp only [Cells]; go_simp))⟩ ?_
      simp only [List.take_succ_cons, List.take_zero]
      repeat (first | (refine' wpSteady_do _ _ _; rotate_left; (focus rfl); (focus (intro w1 hS R hR; have hc := hS.cells; simp only [Cells] at hc; obtain ⟨hco, hfo⟩ := bcell hS.old; go_simp; (try go_bits); (try (rw [if_neg (by omega)]; go_simp)); first | exact hR _ hS | (go_at_call 14; (with_reducible refine (itoa_any _ _ (hD4.out.below hS.old (Nat.le_refl _)) (by omega) (by omega)).mono ?_); rintro e w2 ⟨rfl, hb2⟩; exact ⟨_, rfl, hR _ (hS.below hb2)⟩))); simp only [Act.put, List.setIfInBounds_toArray, List.set_cons_zero, List.set_cons_succ]) | (refine wpSteady_pass ?_ ?_; (focus rfl); simp only [Act.put, List.setIfInBounds_toArray, List.set_cons_zero, List.set_cons_succ]))
      refine wpSteady_nil (fun uA hSA => ?_)
      have hcA := hSA.cells; have hbA := hSA.old; have hzA := hSA.size; clear hSA; simp only [Cells] at hcA; obtain ⟨hcoA, hfoA⟩ := bcell hbA
      simp only [List.drop_succ_cons, List.drop_zero, List.drop_nil]
      have hiA := Lib.hid (isB_below hf0.out hbA (Nat.le_refl _))
      have h3A := h34.trans (hbA.mono z34)
      have z3A := h3A.size
      clear eH hcA hcoA hfoA b40 b41 hf0
      go_wp2_with fail
      refine (YtpbolbpenkfpiaaDoor.bwriteS w3.heap.size w3.heap.size _ (headS W H) uA hiA.out (by show 0 + _ ≤ _; omega) z3A).mono ?_
      rintro e w5 ⟨rfl, hi5, hb5, _⟩
      rw [bytes_snocA, List.nil_append] at hi5
      have h35 := h3A.trans hb5
      have hin : IsB w3.heap.size w3.heap.size (headS W H).data.toList w5 := .inr hi5
      replace hin := Lib.hid hin
      have hh65 : (headS W H).data.toList.length ≤ 65536 := by rw [data_len]; omega
      clear hi5 hiA hb5 h3A hbA
      go_wp2
      go_loopw [31] (fun iv wr => ∃ (k : Nat) (out : List UInt8), k ≤ n ∧ iv = .int .i64 k ∧ IsB w3.heap.size w3.heap.size out wr ∧ out.length ≤ 65536 ∧ txGo (xs.drop k) out = G ∧ Below w3.heap.size w3 wr) (fun iv _ => n - (intOf iv).toNat)
      case atStart => exact ⟨0, _, Nat.zero_le _, rfl, hin.out, hh65, hG.out, h35⟩
      case round =>
        obtain ⟨k, out, hk, rfl, hib, hol, hgo, hbr⟩ := hrel
        have zr := hbr.size
        have h0r := hw3.trans (hbr.mono z3)
        have z0r := h0r.size
        have hol' := isB_len out hol
        by_cases hkn : k < n
        · obtain ⟨b, p, cap', e, hb, _, _, hel⟩ := hopen.out (by omega)
          simp at e
          obtain ⟨rfl, rfl⟩ := e
          obtain ⟨s, hs⟩ : ∃ s, xs[k]? = some s := ⟨xs[k]'(by have := hn.out; omega), List.getElem?_eq_getElem _⟩
          obtain ⟨g0, g1, g2, g3, g4, g5, g6, g7, g8, g9, g10, g11, g12, g13, g14⟩ := hel k s hs
          obtain ⟨hcr, hfr⟩ := bcell h0r
          have he := hz.out s (List.mem_of_getElem? hs)
          have hws := hw.out s (List.mem_of_getElem? hs)
          have hsr := may_bd' (err_may he)
          rw [tx_step hs] at hgo
          have hls := line_size he hsr
          have L := fun w hD => vline_any s w hD he hws hsr
          have hkk : (k : Int) < n := by omega
          have yb : b < wr.heap.size := by omega
          clear hel hs he hws hsr
          have hDr := Lib.hid (hD.out.below h0r (Nat.le_refl _))
          replace L := Lib.hid L
          replace hib := Lib.hid hib
          replace hgo := Lib.hid hgo
          go_upto_region 12 with (first
            | (go_at_call 15; (with_reducible refine (L.out _ (hDr.out.below ((Below.refl _ _).alloc (Nat.le_refl _) _) (Nat.le_refl _))).mono ?_); rintro e w6 ⟨rfl, hb6⟩; have hr6 : Below wr.heap.size wr w6 := (by repeat (first | exact Below.refl _ _ | assumption | refine Below.drew ?_ | refine Below.alloc ?_ (by (try simp) <;> omega) _ | refine Below.setCell ?_ (by (try simp) <;> omega) _ | (refine Below.trans ?_ (Below.mono (by assumption) (by (try simp) <;> omega))))); have zr6 := hr6.size; have hib6 := Lib.hid (isB_below hib.out hr6 (Nat.le_refl _)))
            | (go_at_call 13; (with_reducible refine (YtpbolbpenkfpiaaDoor.bwriteS w3.heap.size w3.heap.size _ (lineS s) _ hib6.out (by omega) (by omega)).mono ?_); rintro e w7 ⟨rfl, hi7, hb7, _⟩)
            | go_in)
          rw [bytes_snocA] at hi7
          have hib7 : IsB w3.heap.size w3.heap.size (out ++ (lineS s).data.toList) w7 := .inr hi7
          have h37 := (hbr.trans (hr6.mono zr)).trans hb7
          obtain ⟨O, hO⟩ : ∃ O, out ++ (lineS s).data.toList = O := ⟨_, rfl⟩
          rw [hO] at hib7 hi7
          have hg := hgo.out
          rw [hO] at hg
          have LN := Tryd.Builder_Len_f w3.heap.size w3.heap.size _ w7 hib7
          rw [bytes_len] at LN
          replace LN := Lib.hid LN
          replace hib7 := Lib.hid hib7
          replace h37 := Lib.hid h37
          obtain ⟨M, hM⟩ : ∃ M, O.length = M := ⟨_, rfl⟩
          rw [hM] at LN hg
          clear hi7 hb7 hr6 hb6 hcr hfr hO
          by_cases hbig : 65536 < M
          · rw [if_pos hbig] at hg
            subst hg
            have hR := hR.out
            have hR : (([] : List UInt8), (3 : Int)) = R := hR
            subst hR
            have hbI : (65536 : Int) < M := by omega
            go_wp2_with (first
              | (go_at_call 16; (with_reducible refine (LN.out).mono ?_); rintro e w8 ⟨rfl, rfl⟩)
              | go_in)
            refine bodyPost_ret (v := .tuple #[.string ⟨#[]⟩, .int .i64 3]) (by simp [results, Tryd.results4, go_sem]) rfl ⟨rfl, hw3.trans (h37.out.mono z3)⟩
          · rw [if_neg hbig] at hg
            replace hg := Lib.hid hg
            have hbI : ¬ (65536 : Int) < M := by omega
            replace hM := Lib.hid hM
            go_wp2_with (first
              | (go_at_call 16; (with_reducible refine (LN.out).mono ?_); rintro e w8 ⟨rfl, rfl⟩)
              | go_in)
            go_roundw
            case rel => exact ⟨k + 1, O, by omega, by go_num, hib7.out, by have := hM.out; omega, hg.out, h37.out⟩
            case measure => simp [intOf]; omega
        · obtain rfl : k = n := by omega
          rw [tx_fin (by have := hn.out; omega)] at hgo
          subst hgo
          have WF : Calls Tryd.prog 13 #[.pointer (some ⟨w3.heap.size, 0, none⟩), .string ⟨#[60, 47, 115, 104, 97, 112, 101, 115, 62, 10]⟩] wr _ := YtpbolbpenkfpiaaDoor.bwriteS w3.heap.size w3.heap.size _ footS wr hib (by show _ + 10 ≤ _; omega) zr
          replace hib := Lib.hid hib
          replace WF := Lib.hid WF
          go_upto_region 16 with (first
            | (go_at_call 13; (with_reducible refine (WF.out).mono ?_); rintro e w7 ⟨rfl, hi7, hb7, _⟩)
            | go_in)
          rw [bytes_snocA] at hi7
          have hib7 : IsB w3.heap.size w3.heap.size (out ++ footS.data.toList) w7 := .inr hi7
          have h37 := hbr.trans hb7
          have z37 := h37.size
          have LN := Tryd.Builder_Len_f w3.heap.size w3.heap.size _ w7 hib7
          have S := Tryd.Builder_String_any_k w3.heap.size w3.heap.size _ w7 hib7 z37
          rw [bytes_len] at LN
          replace LN := Lib.hid LN
          replace S := Lib.hid S
          clear hi7 hib7 hb7
          obtain ⟨M, hM⟩ : ∃ M, (out ++ footS.data.toList).length = M := ⟨_, rfl⟩
          have hR := hR.out
          unfold txEnd at hR
          simp only at hR
          rw [hM] at hR LN
          clear hM
          by_cases hbig : 65536 < M
          · rw [if_pos hbig] at hR
            subst hR
            have hbI : (65536 : Int) < M := by omega
            go_wp2_with (first
              | (go_at_call 16; (with_reducible refine (LN.out).mono ?_); rintro e w8 ⟨rfl, rfl⟩)
              | go_in)
            refine bodyPost_ret (v := .tuple #[.string ⟨#[]⟩, .int .i64 3]) (by simp [results, Tryd.results4, go_sem]) rfl ⟨rfl, hw3.trans (h37.mono z3)⟩
          · rw [if_neg hbig] at hR
            have hbI : ¬ (65536 : Int) < M := by omega
            obtain ⟨T, hT⟩ : ∃ T, out ++ footS.data.toList = T := ⟨_, rfl⟩
            rw [hT] at hR S
            subst hR
            clear hT
            go_wp2_with (first
              | (go_at_call 16; (with_reducible refine (LN.out).mono ?_); rintro e w8 ⟨rfl, rfl⟩)
              | (go_at_call 17; (with_reducible refine (S.out).mono ?_); rintro e w9 ⟨rfl, _, hb9, _⟩)
              | go_in)
            refine bodyPost_ret (v := .tuple #[.string ⟨T.toArray⟩, .int .i64 0]) (by simp [results, Tryd.results4, go_sem]) rfl ⟨rfl, hw3.trans ((h37.trans hb9).mono z3)⟩
  · have e : txR xs W H = ([], chkL xs) := by unfold txR; rw [if_neg hc]
    rw [e]
    obtain ⟨E, hE⟩ : ∃ E, chkL xs = E := ⟨_, rfl⟩
    rw [hE] at C1 hc ⊢
    have hcb : (E == 0) = false := by simpa using hc
    have hcn : (E != 0) = true := by simpa using hc
    clear e hE hl hopen hc
    replace C1 := Lib.hid C1
    go_enter Tryd.func4, Tryd.ntmps4
    go_wp2_with (first
      | (go_at_call 11; (with_reducible refine (C1.out _ hw1.out).mono ?_); rintro e w2 ⟨rfl, hb2⟩; have hw2 := hw1.out.trans (hb2.mono hw1.out.size); have z2 := hw2.size; have hB2 := hbx.out.below hb2 (by simp); have b20 := hB2.cell (o := 0) rfl; have b21 := hB2.cell (o := 1) rfl; have yy2 := hB2.lt; replace hB2 := Lib.hid hB2)
      | go_in)
    refine bodyPost_ret (v := .tuple #[.string ⟨#[]⟩, .int .i64 E]) (by simp [results, Tryd.results4, go_sem]) rfl ⟨rfl, hw2⟩
end Go.Proofs.YtpbolbpenkfpiaaDoor
