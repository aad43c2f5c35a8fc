/-
  Cells: the document's lines of a text, what is written.
-/
import Derived.Test.YtfcphagmjijmkaaGreatDoorDm36
namespace Go.Proofs.YtfcphagmjijmkaaGreatDoor
open Go.RowKit
set_option linter.unusedVariables false
set_option linter.unusedSimpArgs false
attribute [local go_sem] vwp vUpon_value vUpon_skip vUpon_enter vUpon_row
set_option maxHeartbeats 16000000
def sumP (l : List Pc) : Int := (l.map Pc.cells).sum
theorem pcF_cells (s : ByteArray) : ∀ (n p : Nat), ∀ c ∈ pcF n s p, 0 ≤ c.cells ∧ c.cells ≤ 2
 | 0, p, c, h => by simp [pcF] at h
 | n + 1, p, c, h => by
  rw [pcF] at h
  split at h
  ·rcases List.mem_cons.1 h with rfl | h
   ·simp only [pcAt]; exact widR_bd _
   ·exact pcF_cells s n _ c h
  ·cases h
theorem pcs_cells (s : ByteArray) (p : Nat) : ∀ c ∈ pcsAt s p, 0 ≤ c.cells ∧ c.cells ≤ 2 := pcF_cells s _ p
theorem sumP_bd {l : List Pc} (h : ∀ c ∈ l, 0 ≤ c.cells ∧ c.cells ≤ 2) : 0 ≤ sumP l ∧ sumP l ≤ 2 * l.length := by
 induction l with
 | nil => simp [sumP]
 | cons a l ih =>
  have h1 := h a (List.mem_cons_self ..); have h2 := ih (fun c hc => h c (List.mem_cons_of_mem _ hc)); unfold sumP at *; rw [List.map_cons, List.sum_cons, List.length_cons]; omega
theorem sumP_take {l : List Pc} {k : Nat} {c : Pc} (h : l[k]? = some c) : sumP (l.take (k + 1)) = sumP (l.take k) + c.cells := by
 unfold sumP; rw [List.take_add_one, h]
 simp
theorem OwnsP.row {base B : Nat} {w : World} {v : Value} {l : List Pc} (h : OwnsP base w v l) (hB : w.heap.size ≤ B) : Row B 4 Pc.enc w v l := Row.own Pc.enc_len h hB (by omega)
theorem row_pc {B : Nat} {w : World} {v : Value} {xs : List Pc} (h : Row B 4 Pc.enc w v xs) (h0 : 0 < xs.length) :
  ∃ b o cap, v = .slice (some ⟨b, o, none⟩) xs.length cap ∧ b < B ∧ ∀ (k : Nat) c, xs[k]? = some c → w.cell? ⟨b, o + k * 4 + 2, none⟩ = some (.int .i32 c.first) ∧ w.cell? ⟨b, o + k * 4 + 3, none⟩ = some (.int .i64 c.cells) := by
 obtain ⟨b, o, cap, e, hb, _, _, hc⟩ := h.open_ h0; exact ⟨b, o, cap, e, hb, fun k c hk => ⟨hc k c hk 2 _ rfl, hc k c hk 3 _ rfl⟩⟩
set_option maxRecDepth 100000 in
theorem rcells_any (s : ByteArray) (w : World) (hm : s.size ≤ 100000) : Calls Tryz.prog 205 #[.string s] w fun e w' => e = .returned (.tuple #[.int .i64 (sumP (pcsAt s 0)), .int .i64 (pcsAt s 0).length]) ∧ Below w.heap.size w w' := by
 have P1 := rpieces_any s w hm; have hlen := pcsAt_len s 0; have hcl := pcs_cells s 0; generalize pcsAt s 0 = L at *; obtain ⟨m, em⟩ := exx (L.length); obtain ⟨Sm, hSm⟩ := exx (sumP L); rw [hSm, em]; rw [em] at hlen; replace P1 := hdh P1; replace hcl := hdh hcl
 go_enter Tryz.func205, Tryz.ntmps205
 go_upto_region 2 with (go_at_call 176; (with_reducible refine P1.out.mono ?_); rintro e w1 ⟨hb1, v, rfl, hown⟩)
 have hrow := hown.row lrr; obtain ⟨sv, cv, rfl, hmax⟩ := hrow.shape
 have hopen := fun h0 => row_pc hrow h0
 rw [em] at hopen ⊢; replace hopen := hdh hopen; replace em := hdh em; replace hSm := hdh hSm; clear hrow hown; go_wp2
 go_loopw [5, 6] (fun nv iv wr => ∃ k : Nat, k ≤ m ∧ iv = .int .i64 k ∧ nv = .int .i64 (sumP (L.take k)) ∧ wr = w1) (fun _ iv _ => m - (intOf iv).toNat)
 case atStart => exact ⟨0, Nat.zero_le _, rfl, rfl, rfl⟩
 case round =>
  obtain ⟨k, hk, rfl, rfl, rfl⟩ := hrel; have hem := em.out
  by_cases hkm : k < m
  ·obtain ⟨c, hc⟩ := get_at hem hkm
   obtain ⟨b, o, cap, e, hb, hel⟩ := hopen.out (by omega); simp only [Value.slice.injEq] at e; obtain ⟨rfl, _, rfl⟩ := e; obtain ⟨g2, g3⟩ := hel k c hc
   have hki : (k : Int) < m := by omega
   have hbd := sumP_bd (l := L.take k) (fun c hc => hcl.out c (List.mem_of_mem_take hc)); rw [List.length_take] at hbd; have hst := sumP_take hc; have hcb := hcl.out c (List.mem_of_getElem? hc); obtain ⟨T, hT⟩ := exx (sumP (L.take k)); rw [hT] at hbd hst ⊢
   have hmn : min k L.length ≤ 100000 := by omega
   have hT2 : T ≤ 200000 := by omega
   clear hel hopen; go_wp2; go_roundw
   case rel => exact ⟨k + 1, by omega, by go_num, by rw [hst], trivial⟩
   case measure => simp [intOf]; omega
  ·obtain rfl : k = m := by omega
   rw [List.take_of_length_le (by omega), hSm.out]
   have hki : ¬ (k : Int) < k := by omega
   go_wp2; go_ret2; exact ⟨rfl, hb1⟩
/-! ### lines -/
def encT (s : ByteArray) : List Value := [.string s]
theorem encT_len (s : ByteArray) : (encT s).length = 1 := rfl
theorem encT_one (s : ByteArray) : ∀ u ∈ encT s, u.oneCell' = true := by intro u hu; simp only [encT, List.mem_cons, List.not_mem_nil, or_false] at hu; subst hu; rfl
def OwnsT (base : Nat) (w : World) (v : Value) (l : List ByteArray) : Prop := w.ownsRow base 9 1 v l.length (l.flatMap encT)
theorem OwnsT.row {base B : Nat} {w : World} {v : Value} {l : List ByteArray} (h : OwnsT base w v l) (hB : w.heap.size ≤ B) : Row B 1 encT w v l := Row.own encT_len h hB (by omega)
theorem infoS : (Tryz.prog.info? 9).map (fun i => (i.zero, i.size, i.bytes)) = some (some (.string ⟨#[]⟩), 1, 16) := by kernel_rfl
set_option maxRecDepth 100000 in
theorem rpara_any (s : ByteArray) (w : World) : Calls Tryz.prog 204 #[.string s, .int .i64 0] w fun e w' => Below w.heap.size w w' ∧ ∃ v, e = .returned v ∧ OwnsT w.heap.size w' v [s] := by
 obtain ⟨iS, hi0, hz0, hz1, hz2⟩ := info_parts infoS; have hnil : (w.alloc (.cells #[.string s] 9)).ownsRow w.heap.size 9 1 (.slice none 0 0) 0 [] := World.ownsRow_nil _ _ _ _; replace hnil := hdh hnil
 have b1 : ([] : List Value).length + 1 ≤ maxLen := by unfold maxLen; simp
 go_enter Tryz.func204, Tryz.ntmps204
 go_wp2
 go_loopw [0, 5] (fun sv ov wr => sv = .string s ∧ ov = .slice none 0 0 ∧ wr = w) (fun _ _ _ => 0)
 case atStart => exact ⟨rfl, rfl, rfl⟩
 case round =>
  obtain ⟨rfl, rfl, rfl⟩ := hrel
  cases hs : (s.toList == [])
  ·go_wp2_with (at_builtin; refine wpList_append_own _ rfl _ _ _ rfl wr.heap.size 9 iS _ 1 16 Tryz.underlying230 hi0 hz0 hz1 hz2 rfl (by omega) _ 0 _ (by rfl) hnil.out ⟨wr.heap.size, 0, none⟩ 1 1 [.string s] (by rfl) rfl (cells_new wr [.string s] 9) (by intro u hu; simp only [List.mem_cons, List.not_mem_nil, or_false] at hu; subst hu; rfl) (by unfold maxLen; omega) (by omega) (by simp) ?_; intro v3 w3 hown3 hgr3 _; replace hown3 := hdh hown3; replace hgr3 := hdh hgr3)
   go_ret; refine ⟨?_, _, rfl, hown3.out⟩; exact (Below.alloc (Below.refl _ _) lrr _).grown hgr3.out (by simp) (fun g hg => by simp [Value.ownBlock] at hg)
  ·go_wp2_with (at_builtin; refine wpList_append_own _ rfl _ _ _ rfl wr.heap.size 9 iS _ 1 16 Tryz.underlying230 hi0 hz0 hz1 hz2 rfl (by omega) _ 0 _ (by rfl) hnil.out ⟨wr.heap.size, 0, none⟩ 1 1 [.string s] (by rfl) rfl (cells_new wr [.string s] 9) (by intro u hu; simp only [List.mem_cons, List.not_mem_nil, or_false] at hu; subst hu; rfl) (by unfold maxLen; omega) (by omega) (by simp) ?_; intro v3 w3 hown3 hgr3 _; replace hown3 := hdh hown3; replace hgr3 := hdh hgr3)
   go_ret; refine ⟨?_, _, rfl, hown3.out⟩; exact (Below.alloc (Below.refl _ _) lrr _).grown hgr3.out (by simp) (fun g hg => by simp [Value.ownBlock] at hg)
def restL (s : ByteArray) (f i : Nat) : List ByteArray := if i ≤ s.size then splB s (s.size - i) f i else []
set_option maxRecDepth 100000 in
theorem rlines_any (s : ByteArray) (w : World) (hm : s.size ≤ 100000) : Calls Tryz.prog 175 #[.string s, .int .i64 0] w fun e w' => Below w.heap.size w w' ∧ ∃ v m, e = .returned (.tuple #[v, .int .i64 m]) ∧ OwnsT w.heap.size w' v (linesB s) := by
  obtain ⟨iS, hi0, hz0, hz1, hz2⟩ := info_parts infoS; obtain ⟨n, hn⟩ := exx (w.heap.size); rw [hn]; have hsz := splB_size s s.size 0 0; obtain ⟨L, hL⟩ := exx (linesB s)
  have hll : L.length ≤ s.size + 1 := by rw [← hL]; exact splB_len _ _ _ _
  have hsz : ∀ x ∈ L, x.size ≤ s.size := by rw [← hL]; exact hsz
  have hgo0 : ([] : List ByteArray) ++ restL s 0 0 = L := by rw [← hL]; unfold restL; rw [if_pos (Nat.zero_le _)]; rfl
  rw [hL]; replace hL := hdh hL; replace hsz := hdh hsz; have hbn : Below n w w := Below.refl _ _
  have hnw : n ≤ w.heap.size := by omega
  replace hn := hdh hn
  go_enter Tryz.func175, Tryz.ntmps175
  go_wp2
  go_loopw [6, 7, 8] (fun ov fv iv wr => ∃ (i f : Nat) (out : List ByteArray), i ≤ s.size + 1 ∧ iv = .int .i64 i ∧ fv = .int .i64 f ∧ f ≤ i ∧ Hid (OwnsT n wr ov out) ∧ Hid (out ++ restL s f i = L) ∧ Below n w wr ∧ out.length ≤ i ∧ n ≤ wr.heap.size) (fun _ _ iv _ => s.size + 1 - (intOf iv).toNat)
  case atStart => exact ⟨0, 0, [], Nat.zero_le _, rfl, rfl, Nat.le_refl _, hdh (World.ownsRow_nil _ _ _ _), hdh hgo0, hbn, Nat.zero_le _, hnw⟩
  case round =>
    obtain ⟨i, f, out, hi, rfl, rfl, hfi, hown, hgo, hbr, hol, hnr⟩ := hrel; clear hgo0 hbn hnw; obtain ⟨sv, cv, hsv⟩ := own_slice hown.out; subst hsv
    have hfii : (f : Int) ≤ i := by omega
    by_cases c : i ≤ s.size
    · have hci : (i : Int) ≤ s.size := by omega
      by_cases c2 : i = s.size
      · have hei : ((i : Int) == (s.size : Int)) = true := by simp [c2]
        have hrest : restL s f i = s.extract f i :: restL s (i + 1) (i + 1) := by
          unfold restL; rw [if_pos c, if_neg (by omega), splB_end (by omega)]
        replace hrest := hdh hrest; replace c2 := hdh c2
        go_wp2_with (first | (go_at_call 204; (with_reducible refine (rpara_any _ _).mono ?_); rintro e w2 ⟨hb2, v2, rfl, hownq⟩; have hownp := ownsRow_below hown.out hb2 lrr; have hbp := hbr.trans (hb2.mono hnr); have zp := hb2.size; have hrowq := hownq.row lrr; replace hownp := hdh hownp; replace hrowq := hdh hrowq; clear hownq hb2) | (at_builtin; refine wpList_append_row rfl _ _ _ rfl n 9 iS _ 1 16 Tryz.underlying230 hi0 hz0 hz1 hz2 rfl (by omega) w2 _ _ _ (by rfl) hownp.out encT_len encT_one w2.heap.size _ [s.extract f i] hrowq.out (by rfl) (by unfold maxLen; simp only [List.length_cons, List.length_nil]; omega) (by simp only [List.length_cons, List.length_nil]; omega) (by omega) ?_; intro v3 w3 hown3 hgr3; replace hown3 := hdh hown3; replace hgr3 := hdh hgr3))
        (have hgr4 := hgr3.out
         have z3 := hgr4.size; go_roundw
         case rel =>
           refine ⟨i + 1, i + 1, out ++ [s.extract f i], by omega, by go_num, by go_num, by omega, hdh ?_, hdh (by rw [List.append_assoc, ← hgo.out, hrest.out]; rfl), (hbp.grown hgr4 (by omega) (fun g hg => by have := (hownp.out.lt g hg).1; omega)), by simp; omega, by omega⟩; have := hown3.out; unfold OwnsT
           simpa [encT] using this
         case measure => simp [intOf]; omega)
      · have hei : ((i : Int) == (s.size : Int)) = false := by simp; omega
        have X1 := fun w => sb_at s i i (by omega) rfl w
        by_cases c3 : s.get! i = 10
        · have hb10 : bAt s i = 10 := by unfold bAt; rw [c3]; rfl
          rw [hb10] at X1
          have hrest : restL s f i = s.extract f i :: restL s (i + 1) (i + 1) := by
            unfold restL; rw [if_pos c, if_pos (by omega), splB_hit (by omega) c3]
          replace hrest := hdh hrest
          go_wp2_with (first | (go_at_call 204; (with_reducible refine (rpara_any _ _).mono ?_); rintro e w2 ⟨hb2, v2, rfl, hownq⟩; have hownp := ownsRow_below hown.out hb2 lrr; have hbp := hbr.trans (hb2.mono hnr); have zp := hb2.size; have hrowq := hownq.row lrr; replace hownp := hdh hownp; replace hrowq := hdh hrowq; clear hownq hb2) | (at_builtin; refine wpList_append_row rfl _ _ _ rfl n 9 iS _ 1 16 Tryz.underlying230 hi0 hz0 hz1 hz2 rfl (by omega) w2 _ _ _ (by rfl) hownp.out encT_len encT_one w2.heap.size _ [s.extract f i] hrowq.out (by rfl) (by unfold maxLen; simp only [List.length_cons, List.length_nil]; omega) (by simp only [List.length_cons, List.length_nil]; omega) (by omega) ?_; intro v3 w3 hown3 hgr3; replace hown3 := hdh hown3; replace hgr3 := hdh hgr3))
          (have hgr4 := hgr3.out
           have z3 := hgr4.size; go_roundw
           case rel =>
             refine ⟨i + 1, i + 1, out ++ [s.extract f i], by omega, by go_num, by go_num, by omega, hdh ?_, hdh (by rw [List.append_assoc, ← hgo.out, hrest.out]; rfl), (hbp.grown hgr4 (by omega) (fun g hg => by have := (hownp.out.lt g hg).1; omega)), by simp; omega, by omega⟩; have := hown3.out; unfold OwnsT
             simpa [encT] using this
           case measure => simp [intOf]; omega)
        · have hb10 : bAt s i ≠ 10 := by
            intro h
            apply c3
            unfold bAt at h; exact UInt8.toNat_inj.1 h
          have hbe : ((bAt s i : Int) == 10) = false := by simp; omega
          generalize bAt s i = V at *
          have hrest : restL s f i = restL s f (i + 1) := by
            unfold restL; rw [if_pos c, if_pos (by omega), splB_miss (by omega) c3]
          rw [hrest] at hgo; clear hrest; go_wp2; go_roundw
          case rel => exact ⟨i + 1, f, out, by omega, by go_num, rfl, by omega, hown, hgo, hbr, by omega, hnr⟩
          case measure => simp [intOf]; omega
    · have hci : ¬ (i : Int) ≤ s.size := by omega
      have hg := hgo.out; unfold restL at hg; rw [if_neg c, List.append_nil] at hg; subst hg; have hrow := hown.out.row lrr
      have hopen := fun h0 => hrow.open_ h0
      obtain ⟨m, em⟩ := exx (out.length); rw [em] at hopen hll ⊢; replace hopen := hdh hopen; replace em := hdh em; clear hrow hgo hi hfi hfii hol; go_wp2; obtain ⟨W0, rfl⟩ : ∃ W0, W0 = wr := ⟨_, rfl⟩
      go_loopw [9, 10] (fun mv iv wy => ∃ (k : Nat) (mo : Int), k ≤ m ∧ iv = .int .i64 k ∧ mv = .int .i64 mo ∧ Below W0.heap.size W0 wy) (fun _ iv _ => m - (intOf iv).toNat)
      case atStart => exact ⟨0, 0, Nat.zero_le _, rfl, rfl, Below.refl _ _⟩
      case round =>
        obtain ⟨k, mo, hk, rfl, rfl, hbq⟩ := hrel; have zq := hbq.size; obtain ⟨hcq, hfq⟩ := bcell hbq; have hem := em.out
        by_cases hkm : k < m
        · obtain ⟨c, hc⟩ := get_at hem hkm
          obtain ⟨b, o, cap, e, hb, _, _, hel⟩ := hopen.out (by omega); simp only [Value.slice.injEq] at e; obtain ⟨rfl, _, rfl⟩ := e; have g0 := hel k c hc 0 _ rfl; have hcs := hsz.out c (List.mem_of_getElem? hc); rw [Nat.mul_one, Nat.add_zero] at g0
          have hki : (k : Int) < m := by omega
          have CC := fun w => rcells_any c w (by omega)
          obtain ⟨Z, hZ⟩ := exx (sumP (pcsAt c 0)); rw [hZ] at CC; clear hel hopen hZ; replace CC := hdh CC
          by_cases hmo : Z > mo
          · go_wp2_with (go_at_call 205; (with_reducible refine cmm (CC.out _) fun w3 hb3 => ?_))
            go_roundw
            case rel => exact ⟨k + 1, Z, by omega, by go_num, rfl, hbq.trans (hb3.mono zq)⟩
            case measure => simp [intOf]; omega
          · go_wp2_with (go_at_call 205; (with_reducible refine cmm (CC.out _) fun w3 hb3 => ?_))
            go_roundw
            case rel => exact ⟨k + 1, mo, by omega, by go_num, rfl, hbq.trans (hb3.mono zq)⟩
            case measure => simp [intOf]; omega
        · obtain rfl : k = m := by omega
          have hki : ¬ (k : Int) < k := by omega
          go_wp2; go_ret2; have := ownsRow_below hown.out hbq lrr; exact ⟨hbr.trans (hbq.mono hnr), _, ⟨_, rfl⟩, by unfold OwnsT; rw [hem] at this ⊢; exact this⟩
/-! ### what is written -/
theorem infoGlR : (Tryz.prog.info? 239).map (fun i => (i.zero, i.size, i.bytes)) = some (some (.agg #[.int .i32 0, .bool false, .bool false]), 3, 8) := by kernel_rfl
theorem infoGrR : (Tryz.prog.info? 235).map (fun i => (i.zero, i.size, i.bytes)) = some (some (.slice none 0 0), 1, 24) := by kernel_rfl
theorem GlyRows.below {tr tg : TypeId} {W W' : World} {base B : Nat} {v : Value} {g : List (List Gl)} (h : GlyRows tr tg base W v g) (hb : Below B W W') (hB : W.heap.size ≤ B) : GlyRows tr tg base W' v g := by
 obtain ⟨vs, hl, hr, hj⟩ := h; exact ⟨vs, hl, ownsRow_below hr hb hB, fun j u r h1 h2 => ownsRow_below (hj j u r h1 h2) hb hB⟩
theorem rowP_take {P : List Pc} {j : Nat} {c : Pc} (h : P[j]? = some c) : rowP (P.take (j + 1)) = rowP (P.take j) ++ glyR c.first c.cells := by
 unfold rowP; rw [List.take_add_one, h]
 simp
theorem rowP_len (P : List Pc) : (rowP P).length ≤ 2 * P.length := by
 induction P with
 | nil => simp [rowP]
 | cons c P ih =>
  have := glyR_len c.first c.cells
  rw [rowP_cons, List.length_append, List.length_cons]; omega
set_option maxRecDepth 100000 in
theorem written_any (s : ByteArray) (w : World) (hm : s.size ≤ 65536) : Calls Tryz.prog 127 #[.string s] w fun e w' => Below w.heap.size w w' ∧ ∃ v, e = .returned v ∧ GridO w' w.heap.size v (glyS s) := by
 obtain ⟨iG, hi0, hz0, hz1, hz2⟩ := info_parts infoGlR; obtain ⟨iR, ri0, rz0, rz1, rz2⟩ := info_parts infoGrR; have L1 := rlines_any s w (by omega); have hsz : ∀ x ∈ linesB s, x.size ≤ s.size := splB_size s s.size 0 0; have hll : (linesB s).length ≤ s.size + 1 := splB_len _ _ _ _; unfold glyS; obtain ⟨L, hL⟩ := exx (linesB s); rw [hL] at L1 hsz hll ⊢; clear hL; obtain ⟨n, hn⟩ := exx (w.heap.size); rw [hn] at L1 ⊢; obtain ⟨m, em⟩ := exx (L.length); replace L1 := hdh L1; replace hsz := hdh hsz; replace hn := hdh hn
 go_enter Tryz.func127, Tryz.ntmps127
 go_upto_region 4 with (go_at_call 175; (with_reducible refine L1.out.mono ?_); rintro e W0 ⟨hb1, v, mo, rfl, hown⟩)
 have hrow := hown.row lrr
 have hopen := fun h0 => hrow.open_ h0
 obtain ⟨sv, cv, rfl, hmax⟩ := hrow.shape; rw [em] at hopen hll hmax ⊢; replace hopen := hdh hopen; replace em := hdh em
 have hn0 : n ≤ W0.heap.size := by have := hb1.size; have := hn.out; omega
 replace hb1 := hdh hb1; clear hrow hown
 go_loopw [5, 6] (fun ov iv wr => ∃ k : Nat, k ≤ m ∧ iv = .int .i64 k ∧ Hid (GlyRows 235 239 W0.heap.size wr ov ((L.take k).map lineG)) ∧ Below W0.heap.size W0 wr) (fun _ iv _ => m - (intOf iv).toNat)
 case atStart => exact ⟨0, Nat.zero_le _, rfl, hdh (GlyRows.nil _ _ _ _), Below.refl _ _⟩
 case round =>
  obtain ⟨k, hk, rfl, hg, hbr⟩ := hrel; have zr := hbr.size; obtain ⟨hcr, hfr⟩ := bcell hbr; have hem := em.out
  by_cases hkm : k < m
  ·obtain ⟨x, hx⟩ := get_at hem hkm
   obtain ⟨b, o, cap, e, hb, _, _, hel⟩ := hopen.out (by omega); simp only [Value.slice.injEq] at e; obtain ⟨rfl, _, rfl⟩ := e; have g0 := hel k x hx 0 _ rfl; rw [Nat.mul_one, Nat.add_zero] at g0; have xz := hsz.out x (List.mem_of_getElem? hx)
   have hki : (k : Int) < m := by omega
   have P1 := rpieces_any x wr (by omega); have hpl := pcsAt_len x 0; have hrow0 := pcs_row x; obtain ⟨P, hP⟩ := exx (pcsAt x 0); rw [hP] at P1 hpl hrow0; clear hel hopen hP; replace P1 := hdh P1; replace hrow0 := hdh hrow0; replace hx := hdh hx
   go_upto_region 8 with (go_at_call 176; (with_reducible refine P1.out.mono ?_); rintro e w2 ⟨hb2, v2, rfl, hown2⟩)
   have hg2 := hg.out.below hb2 lrr; have hbr2 := hbr.trans (hb2.mono zr); have zr2 := hb2.size
   have zr2' : W0.heap.size ≤ w2.heap.size := by omega
   have hrow2 := hown2.row lrr; obtain ⟨s2, c2, rfl, _⟩ := hrow2.shape; obtain ⟨q, eq⟩ := exx (P.length)
   have hopen2 := fun h0 => row_pc hrow2 h0
   rw [eq] at hopen2 hpl ⊢; replace hopen2 := hdh hopen2; replace eq := hdh eq; replace hg2 := hdh hg2; replace hbr2 := hdh hbr2; clear hrow2 hown2 hg hbr hcr hfr hb2; go_wp2
   go_loopw [8, 9] (fun rv jv wy => ∃ j : Nat, j ≤ q ∧ jv = .int .i64 j ∧ Hid (wy.ownsRow w2.heap.size 239 3 rv (rowP (P.take j)).length ((rowP (P.take j)).flatMap Gl.enc)) ∧ Below w2.heap.size w2 wy) (fun _ jv _ => q - (intOf jv).toNat)
   case atStart => exact ⟨0, Nat.zero_le _, rfl, hdh (World.ownsRow_nil _ _ _ _), Below.refl _ _⟩
   case round =>
    obtain ⟨j, hj, rfl, hown, hby⟩ := hrel; have zy := hby.size; have eqq := eq.out; have rl := rowP_len (P.take j); rw [List.length_take] at rl; obtain ⟨sr, cr, hsr⟩ := own_slice hown.out; subst hsr; obtain ⟨row, hrow⟩ := exx (rowP (P.take j)); rw [hrow] at hown rl ⊢
    have rl2 : row.length ≤ 2 * j := by omega
    clear rl
    by_cases hjq : j < q
    ·obtain ⟨c, hc⟩ := get_at eqq hjq
     obtain ⟨b2, o2, cap2, e2, hb2, hel2⟩ := hopen2.out (by omega); simp only [Value.slice.injEq] at e2; obtain ⟨rfl, _, rfl⟩ := e2; obtain ⟨g2, g3⟩ := hel2 j c hc; have k2 := (hby.cell (p := ⟨b2, o2 + j * 4 + 2, none⟩) hb2).trans g2; have k3 := (hby.cell (p := ⟨b2, o2 + j * 4 + 3, none⟩) hb2).trans g3
     have hji : (j : Int) < q := by omega
     have hst := rowP_take hc; rw [hrow] at hst; obtain ⟨_, _, f, z⟩ := c; dsimp only at k2 k3 hst
     have yb2 : b2 < wr.heap.size := by omega
     have g2' := g2; clear hel2 hopen2 g2 g3 hc hrow; replace g2' := hdh g2'
     by_cases z1 : z = 1
     ·subst z1
      replace hst := hdh hst
      go_wp2_with (at_builtin; refine wpList_append_own _ rfl _ _ _ rfl w2.heap.size 239 iG _ 3 8 Tryz.underlying235 hi0 hz0 hz1 hz2 rfl (by omega) _ (row.length) _ (by rfl) (hown.out.alloc _) ⟨wr.heap.size, 0, none⟩ 1 1 ([.int .i32 f, .bool false, .bool false] : List Value) (by rfl) rfl (cells_new wr ([.int .i32 f, .bool false, .bool false] : List Value) 239) (by intro u hu; simp only [List.mem_cons, List.not_mem_nil, or_false] at hu; rcases hu with rfl | rfl | rfl <;> rfl) (by unfold maxLen; omega) (by omega) (by simp; omega) ?_; intro v3 w3 hown3 hgr _; have bw := (hby.alloc (by omega) _).grown hgr (by simp; omega) (fun g hg => (hown.out.lt g hg).1); have zw := hgr.size; rw [World.size_alloc] at zw; clear hby hgr; have hby := bw; clear bw; have zy : wr.heap.size < w3.heap.size := (by omega); clear zw; have zy2 : w2.heap.size ≤ w3.heap.size := (by omega); replace hown3 := hdh hown3)
      go_roundw
      case rel => exact ⟨j + 1, by omega, by go_num, hdh (by rw [hst.out]; simpa [glyR, Gl.enc] using hown3.out), hby⟩
      case measure => simp [intOf]; omega
     ·by_cases z2 : z = 2
      ·subst z2
       replace hst := hdh hst
       go_upto_region 16 with (at_builtin; refine wpList_append_own _ rfl _ _ _ rfl w2.heap.size 239 iG _ 3 8 Tryz.underlying235 hi0 hz0 hz1 hz2 rfl (by omega) _ (row.length) _ (by rfl) (hown.out.alloc _) ⟨wr.heap.size, 0, none⟩ 1 1 ([.int .i32 f, .bool true, .bool false] : List Value) (by rfl) rfl (cells_new wr ([.int .i32 f, .bool true, .bool false] : List Value) 239) (by intro u hu; simp only [List.mem_cons, List.not_mem_nil, or_false] at hu; rcases hu with rfl | rfl | rfl <;> rfl) (by unfold maxLen; omega) (by omega) (by simp; omega) ?_; intro v3 w3 hown3 hgr _; have bw := (hby.alloc (by omega) _).grown hgr (by simp; omega) (fun g hg => (hown.out.lt g hg).1); have zw := hgr.size; rw [World.size_alloc] at zw; clear hby hgr; have hby := bw; clear bw; have zy : wr.heap.size < w3.heap.size := (by omega); clear zw; have zy2 : w2.heap.size ≤ w3.heap.size := (by omega); replace hown3 := hdh hown3)
       have kk2 : w3.cell? ⟨b2, o2 + j * 4 + 2, none⟩ = some (.int .i32 f) := (hby.cell (p := ⟨b2, o2 + j * 4 + 2, none⟩) hb2).trans g2'.out
       go_wp2_with (at_builtin; refine wpList_append_own _ rfl _ _ _ rfl w2.heap.size 239 iG _ 3 8 Tryz.underlying235 hi0 hz0 hz1 hz2 rfl (by omega) _ (row.length + 1) _ (by rfl) (hown3.out.alloc _) ⟨w3.heap.size, 0, none⟩ 1 1 ([.int .i32 f, .bool false, .bool true] : List Value) (by rfl) rfl (cells_new w3 ([.int .i32 f, .bool false, .bool true] : List Value) 239) (by intro u hu; simp only [List.mem_cons, List.not_mem_nil, or_false] at hu; rcases hu with rfl | rfl | rfl <;> rfl) (by unfold maxLen; omega) (by omega) (by simp; omega) ?_; intro v4 w4 hown4 hgr _; have bw := (hby.alloc (by omega) _).grown hgr (by simp; omega) (fun g hg => (hown3.out.lt g hg).1); have zw := hgr.size; rw [World.size_alloc] at zw; clear hby hgr; have hby := bw; clear bw; have zy : w3.heap.size < w4.heap.size := (by omega); clear zw; have zy2 : w2.heap.size ≤ w4.heap.size := (by omega); replace hown4 := hdh hown4)
       go_roundw
       case rel => exact ⟨j + 1, by omega, by go_num, hdh (by rw [hst.out]; simpa [glyR, Gl.enc] using hown4.out), hby⟩
       case measure => simp [intOf]; omega
      ·replace hst := hdh hst
       go_wp2; go_roundw
       case rel => exact ⟨j + 1, by omega, by go_num, hdh (by rw [hst.out]; unfold glyR; rw [if_neg z1, if_neg z2]; simpa using hown.out), hby⟩
       case measure => simp [intOf]; omega
    ·obtain rfl : j = q := by omega
     have hji : ¬ (j : Int) < j := by omega
     rw [List.take_of_length_le (by omega), hrow0.out] at hrow; subst hrow; have hg3 := hg2.out.below hby lrr; have hbr3 := hbr2.out.trans (hby.mono zr2'); obtain ⟨vs, hl, hr, hj2⟩ := hg3; obtain ⟨so, co, hso⟩ := own_slice hr; rw [List.length_map, List.length_take, Nat.min_eq_left (by omega)] at hr hso hl; subst hso
     have hlow : ∀ g, (Value.slice so k co).ownBlock = some g → W0.heap.size ≤ g := fun g hg => (hr.lt g hg).1
     replace hr := hdh hr; replace hj2 := hdh hj2; replace hown := hdh hown.out
     go_wp2_with (at_builtin; refine wpList_append_own _ rfl _ _ _ rfl W0.heap.size 235 iR _ 1 24 Tryz.underlying175 ri0 rz0 rz1 rz2 rfl (by omega) _ k _ (by rfl) (hr.out.alloc _) ⟨wr.heap.size, 0, none⟩ 1 1 [.slice sr (lineG x).length cr] (by rfl) rfl (cells_new wr [.slice sr (lineG x).length cr] 235) (by intro u hu; simp only [List.mem_cons, List.not_mem_nil, or_false] at hu; subst hu; rfl) (by unfold maxLen; omega) (by omega) (by simp; omega) ?_; intro v3 w3 hown3 hgr3 _; replace hown3 := hdh hown3; replace hgr3 := hdh hgr3)
     have hown3 := hown3.out; have hgr3 := hgr3.out; have z3 := hgr3.size; rw [World.size_alloc] at z3
     have e6 : ((L.take k).map lineG).length = k := by rw [List.length_map, List.length_take]; omega
     have G3 : GlyRows 235 239 W0.heap.size w3 v3 ((L.take k).map lineG ++ [lineG x]) := by
      refine GlyRows.snoc (by decide) (W := wr.alloc (.cells #[.slice sr (lineG x).length cr] 235)) (v := .slice so k co) (vs := vs) (u := .slice sr (lineG x).length cr) (by rw [hl, e6]) (fun j u r h1 h2 => (hj2.out j u r h1 h2).alloc _) (by rw [e6]; exact hr.out.alloc _) ?_ (by rw [e6]; exact hown3) hgr3; exact own_low (hown.out.alloc _) (by omega)
     go_roundw
     case rel =>
      refine ⟨k + 1, by omega, by go_num, hdh ?_, (hbr3.alloc (by omega) _).grown hgr3 (by simp; omega) hlow⟩; rw [List.take_add_one, hx.out, List.map_append]; exact G3
     case measure => simp [intOf]; omega
  ·obtain rfl : k = m := by omega
   have hki : ¬ (k : Int) < k := by omega
   rw [List.take_of_length_le (by omega)] at hg; go_wp2; go_ret; refine ⟨?_, _, rfl, hg.out.grid ?_⟩
   ·exact hb1.out.trans (hbr.mono (by omega))
   ·exact hn0
end Go.Proofs.YtfcphagmjijmkaaGreatDoor
