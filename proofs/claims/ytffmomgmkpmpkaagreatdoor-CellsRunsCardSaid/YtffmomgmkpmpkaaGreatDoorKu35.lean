/-
  Cells: runs as a terminal's text, by the document.
-/
import Derived.Lib.SlicesCompact
import Derived.Test.YtffmomgmkpmpkaaGreatDoorProg
import Derived.Test.YtffmomgmkpmpkaaGreatDoorKu32
import Derived.Test.YtffmomgmkpmpkaaGreatDoorKu33
import Derived.Test.YtffmomgmkpmpkaaGreatDoorKu34
namespace Go.Proofs.YtffmomgmkpmpkaaGreatDoor
open Go.RowKit
set_option linter.unusedVariables false
attribute [local go_sem] vwp vUpon_value vUpon_skip vUpon_enter vUpon_row
set_option linter.unusedSimpArgs false
set_option linter.unusedVariables false
attribute [local go_sem high] eql_colour neq_colour
theorem eq4_co (c x : Co) : eq4 c.r c.g c.b c.a x.r x.g x.b x.a = x.eqb c := by
  unfold Co.eqb eq4
  simp only [eq_comm, Bool.beq_eq_decide_eq]
theorem head_sum (S : ByteArray) (o : List UInt8) (x y : Int) (h : strL o = S) : ((((S ++ ⟨#[27, 91]⟩) ++ itS (y + 1)) ++ ⟨#[59]⟩) ++ itS (x + 1)) ++ ⟨#[72]⟩ = strL (o ++ escL 72 [y + 1, x + 1]) := by
  rw [← h, show (⟨#[27, 91]⟩ : ByteArray) = strL [27, 91] from rfl, show (⟨#[59]⟩ : ByteArray) = strL [59] from rfl, show (⟨#[72]⟩ : ByteArray) = strL [72] from rfl]
  simp only [itS_strL, strL_app]
  unfold escL numsL semiL
  simp
theorem runB_ok (r : Rn) : runOkC r = (runB r.cells && (decide (0 ≤ r.x) && (decide (0 ≤ r.y) && (decide (r.x < 16384) && decide (r.y < 16384))))) := by
  unfold runOkC runB
  cases hl : r.cells.length with
  | zero => simp
  | succ k => cases r.cells.all mayC <;> simp
def reNext (z : Option (List UInt8 × Co × Co)) (rs : List Rn) : Option (List UInt8) := match z with
  | none => none
  | some (a, u, v) => reRuns a u v rs
theorem reRuns_cons (o : List UInt8) (x y : Co) (r : Rn) (rs : List Rn) : reRuns o x y (r :: rs) = reNext (reGo r.cells r.cells.length 0 (o ++ escL 72 [r.y + 1, r.x + 1]) x y) rs := by
  rw [reRuns]
  unfold reNext
  rfl
theorem reNext_if (p : Prop) [Decidable p] (z : Option (List UInt8 × Co × Co)) (rs : List Rn) : reNext (if p then none else z) rs = if p then none else reNext z rs := by
  split <;> rfl
theorem reNext_ite (b : Bool) (y z : Option (List UInt8 × Co × Co)) (rs : List Rn) : reNext (if b = true then y else z) rs = if b = true then reNext y rs else reNext z rs := by
  cases b <;> rfl
theorem whl_pos {cs : List Ce} {i : Int} (h : whlI cs i = true) : 0 ≤ i := by
  unfold whlI at h
  rw [Bool.and_eq_true, decide_eq_true_eq] at h
  exact h.1
theorem Blk.put4 {w : World} {b : Nat} {cs : List Value} {e : TypeId} (h : Blk w b cs e) (hl : cs.length = 4) (v0 v1 v2 v3 : Value) : Blk ((((w.setCell ⟨b, 0, none⟩ v0).setCell ⟨b, 1, none⟩ v1).setCell ⟨b, 2, none⟩ v2).setCell ⟨b, 3, none⟩ v3) b [v0, v1, v2, v3] e := by
  match cs, hl with
  | [_, _, _, _], _ => exact (((h.set 0 v0).set 1 v1).set 2 v2).set 3 v3
theorem itoa_38 : Lib.itoa 38 = [51, 56] := by
  unfold Lib.itoa
  rw [if_neg (by decide), show (38 : Int).toNat = 38 from rfl, Lib.decDigits, dif_neg (by omega), Lib.decDigits, dif_pos (by omega)]
  rfl
theorem itoa_48 : Lib.itoa 48 = [52, 56] := by
  unfold Lib.itoa
  rw [if_neg (by decide), show (48 : Int).toNat = 48 from rfl, Lib.decDigits, dif_neg (by omega), Lib.decDigits, dif_pos (by omega)]
  rfl
theorem told_dip {k : Int} {n : List UInt8} (h : Lib.itoa k = n) {t c : Co} (he : t.eqb c = false) : toldL n c = dipL k t c := by
  subst h
  rw [told_esc]
  unfold dipL
  rw [if_neg (by rw [he]; decide)]
set_option maxHeartbeats 16000000 in
set_option maxRecDepth 100000 in
theorem crescapes_any (l : List Rn) (v : Value) (w : World) (hl : RunsAt w.heap.size w v l) (hwf : ∀ r ∈ l, RnWf r) (hD : DigT w) :
  Calls Tryz.prog 33 #[v] w fun e w' => e = .returned (.tuple #[.string (escT l), .int .i64 (escE l)]) ∧ Below w.heap.size w w' := by
 obtain ⟨s0, cap, rfl, hmax⟩ := hl.shape
 have hop := fun h0 => hl.open_ h0
 obtain ⟨n, en⟩ : ∃ n, l.length = n := ⟨_, rfl⟩
 obtain ⟨T, hT⟩ : ∃ T, escT l = T := ⟨_, rfl⟩
 obtain ⟨E, hE⟩ : ∃ E, escE l = E := ⟨_, rfl⟩
 rw [hT, hE]
 unfold escT escR at hT
 unfold escE escR at hE
 rw [en] at hop hmax hT hE ⊢
 unfold maxLen at hmax
 clear hl
 by_cases hbig : 262144 < n
 ·rw [if_pos hbig] at hT hE
  dsimp only at hT hE
  subst hT hE
  have hbi : (262144 : Int) < n := by omega
  clear hop hD hwf en
  go_enter Tryz.func33, Tryz.ntmps33
  go_wp2
  go_ret2
  exact ⟨rfl, belt⟩
 ·rw [if_neg hbig] at hT hE
  have hbi : ¬ (262144 : Int) < n := by omega
  obtain ⟨R, hR⟩ : ∃ R, l.all runOkC = R := ⟨_, rfl⟩
  rw [hR] at hT hE
  have hgo := Lib.hid (show (l.drop 0).all runOkC = R from hR)
  replace en := Lib.hid en
  replace hop := Lib.hid hop
  have hRa := Lib.hid hR
  replace hT := Lib.hid hT
  replace hE := Lib.hid hE
  replace hwf := Lib.hid hwf
  replace hD := Lib.hid hD
  clear hR
  go_enter Tryz.func33, Tryz.ntmps33
  go_upto_region 4 with fail
  go_loopw [4] (fun iv wr => ∃ i : Nat, i ≤ n ∧ iv = .int .i64 i ∧ Hid ((l.drop i).all runOkC = R) ∧ Below w.heap.size w wr) (fun iv _ => n - (intOf iv).toNat)
  case atStart => exact ⟨0, Nat.zero_le _, rfl, hgo, Below.refl _ _⟩
  case round =>
   clear hgo
   obtain ⟨i, hi, rfl, hgo, hb⟩ := hrel
   obtain ⟨W, rfl⟩ : ∃ W, W = wr := ⟨_, rfl⟩
   have zb := hb.size
   by_cases hin : i < n
   ·have hii : (i : Int) < n := by omega
    obtain ⟨g, o, cap', ea, hg, hcp, hcm, hel⟩ := hop.out (by omega)
    simp only [Value.slice.injEq] at ea
    obtain ⟨rfl, _, rfl⟩ := ea
    obtain ⟨r, hr⟩ := get_at en.out hin
    obtain ⟨s, k, q0, q1, q2, hrow⟩ := hel i r hr
    have hgo2 := hgo.out
    rw [allR_step hr, runB_ok] at hgo2
    obtain ⟨x, y, cs, rfl⟩ : ∃ x y c, r = ⟨x, y, c⟩ := ⟨_, _, _, rfl⟩
    dsimp only at q0 q1 q2 hrow hgo2
    obtain ⟨m, hm⟩ : ∃ m, cs.length = m := ⟨_, rfl⟩
    have hw0 := hwf.out _ (List.mem_of_getElem? hr)
    obtain ⟨hx64, hy64, _⟩ := hw0
    dsimp only at hx64 hy64
    unfold I64 at hx64 hy64
    have yg : g < W.heap.size := by omega
    have p0 := (hb.cell (p := ⟨g, o + i * 3, none⟩) hg).trans q0
    have p1 := (hb.cell (p := ⟨g, o + i * 3 + 1, none⟩) hg).trans q1
    rw [hm] at q2 hrow
    clear hr hgo hel
    replace hrow := Lib.hid hrow
    go_upto_region 7 with fail
    obtain ⟨W2, hW2⟩ : ∃ W2, W.alloc (.cells #[.int .i64 x, .int .i64 y] 40) = W2 := ⟨_, rfl⟩
    have B2 : Blk W2 W.heap.size [.int .i64 x, .int .i64 y] 40 := by rw [← hW2]; exact Blk.new' rfl
    have hb2 : Below w.heap.size w W2 := by rw [← hW2]; exact hb.alloc (by omega) _
    rw [hW2]
    clear hW2
    have yB2 := B2.lt
    have zb2 := hb2.size
    clear p0 p1
    have p0 := (hb2.cell (p := ⟨g, o + i * 3, none⟩) hg).trans q0
    have p1 := (hb2.cell (p := ⟨g, o + i * 3 + 1, none⟩) hg).trans q1
    have p2 := (hb2.cell (p := ⟨g, o + i * 3 + 2, none⟩) hg).trans q2
    clear q0 q1 q2
    have k0 := B2.cell (o := 0) rfl
    have k1 := B2.cell (o := 1) rfl
    have RN := rrun_any x y cs _ W2 (by have h := (hrow.out.below hb2).mono hb2.size; rw [← hm] at h; exact h)
    rw [hm] at RN
    obtain ⟨q, hq⟩ : ∃ q, runB cs = q := ⟨_, rfl⟩
    rw [hq] at RN hgo2
    have hok := hgo2
    clear hgo2 hq
    replace hm := Lib.hid hm
    cases q
    ·have hRf : R = false := by rw [← hok]; simp [*]
     subst hRf
     have hT := hT.out
     have hE := hE.out
     simp only [Bool.false_eq_true, if_false] at hT hE
     subst hT hE
     clear hok
     replace RN := Lib.hid RN
     go_wp2_with (go_at_call 66; (with_reducible refine RN.out.mono ?_); rintro e w3 ⟨rfl, hb3⟩; obtain ⟨hc3, hf3⟩ := bcell hb3; replace hb2 := hb2.trans (hb3.mono zb2))
     go_ret2
     exact ⟨rfl, hb2⟩
    ·by_cases hx0 : x < 0
     ·have hx9 : ¬ 0 ≤ x := by omega
      have hRf : R = false := by rw [← hok]; simp [*]
      subst hRf
      have hT := hT.out
      have hE := hE.out
      simp only [Bool.false_eq_true, if_false] at hT hE
      subst hT hE
      clear hok
      replace RN := Lib.hid RN
      go_wp2_with (go_at_call 66; (with_reducible refine RN.out.mono ?_); rintro e w3 ⟨rfl, hb3⟩; obtain ⟨hc3, hf3⟩ := bcell hb3; replace hb2 := hb2.trans (hb3.mono zb2))
      go_ret2
      exact ⟨rfl, hb2⟩
     ·by_cases hy0 : y < 0
      ·have hy9 : ¬ 0 ≤ y := by omega
       have hRf : R = false := by rw [← hok]; simp [*]
       subst hRf
       have hT := hT.out
       have hE := hE.out
       simp only [Bool.false_eq_true, if_false] at hT hE
       subst hT hE
       clear hok
       replace RN := Lib.hid RN
       go_wp2_with (go_at_call 66; (with_reducible refine RN.out.mono ?_); rintro e w3 ⟨rfl, hb3⟩; obtain ⟨hc3, hf3⟩ := bcell hb3; replace hb2 := hb2.trans (hb3.mono zb2))
       go_ret2
       exact ⟨rfl, hb2⟩
      ·by_cases hx1 : x < 16384
       ·have hx2 : ¬ 16384 ≤ x := by omega
        by_cases hy1 : y < 16384
        ·have hy2 : ¬ 16384 ≤ y := by omega
         have hx9 : 0 ≤ x := by omega
         have hy9 : 0 ≤ y := by omega
         have hgo2 : (l.drop (i + 1)).all runOkC = R := by rw [← hok]; simp [*]
         replace RN := Lib.hid RN
         clear hok
         go_wp2_with (go_at_call 66; (with_reducible refine RN.out.mono ?_); rintro e w3 ⟨rfl, hb3⟩; obtain ⟨hc3, hf3⟩ := bcell hb3; replace hb2 := hb2.trans (hb3.mono zb2))
         exact ⟨⟨i + 1, by omega, by go_num, Lib.hid hgo2, hb2⟩, by simp [intOf]; omega⟩
        ·have hy2 : 16384 ≤ y := by omega
         have hRf : R = false := by rw [← hok]; simp [*]
         subst hRf
         have hT := hT.out
         have hE := hE.out
         simp only [Bool.false_eq_true, if_false] at hT hE
         subst hT hE
         clear hok
         replace RN := Lib.hid RN
         go_wp2_with (go_at_call 66; (with_reducible refine RN.out.mono ?_); rintro e w3 ⟨rfl, hb3⟩; obtain ⟨hc3, hf3⟩ := bcell hb3; replace hb2 := hb2.trans (hb3.mono zb2))
         go_ret2
         exact ⟨rfl, hb2⟩
       ·have hx2 : 16384 ≤ x := by omega
        have hRf : R = false := by rw [← hok]; simp [*]
        subst hRf
        have hT := hT.out
        have hE := hE.out
        simp only [Bool.false_eq_true, if_false] at hT hE
        subst hT hE
        clear hok
        replace RN := Lib.hid RN
        go_wp2_with (go_at_call 66; (with_reducible refine RN.out.mono ?_); rintro e w3 ⟨rfl, hb3⟩; obtain ⟨hc3, hf3⟩ := bcell hb3; replace hb2 := hb2.trans (hb3.mono zb2))
        go_ret2
        exact ⟨rfl, hb2⟩
   ·obtain rfl : n = i := by omega
    have hii : ¬ (n : Int) < n := by omega
    have hRt : R = true := by
     have h := hgo.out
     rw [List.drop_of_length_le (by rw [en.out]; omega)] at h
     exact h.symm
    subst hRt
    obtain ⟨RS, hRS⟩ : ∃ o, escRuns [] Co.zero Co.zero l = o := ⟨_, rfl⟩
    have hT := hT.out
    have hE := hE.out
    rw [hRS] at hT hE
    rw [if_pos rfl] at hT hE
    rw [← re_runs l [] Co.zero Co.zero hRa.out] at hRS
    replace hT := Lib.hid hT
    replace hE := Lib.hid hE
    go_upto_region 11 with fail
    obtain ⟨W0, hW0⟩ : ∃ W0, (W.alloc (.cells #[.int .u8 0, .int .u8 0, .int .u8 0, .int .u8 0] 44)).alloc (.cells #[.int .u8 0, .int .u8 0, .int .u8 0, .int .u8 0] 44) = W0 := ⟨_, rfl⟩
    obtain ⟨b7, hb7⟩ : ∃ b, W.heap.size = b := ⟨_, rfl⟩
    have B7 : Blk W0 b7 [.int .u8 0, .int .u8 0, .int .u8 0, .int .u8 0] 44 := by rw [← hW0]; exact (Blk.new' hb7.symm).alloc _
    have B8 : Blk W0 (b7 + 1) [.int .u8 0, .int .u8 0, .int .u8 0, .int .u8 0] 44 := by rw [← hW0]; exact Blk.new' (by simp; omega)
    have hb0 : Below w.heap.size w W0 := by rw [← hW0]; exact (hb.alloc (by omega) _).alloc (by simp; omega) _
    rw [hW0, hb7]
    clear hW0
    have hbB : w.heap.size ≤ b7 := by omega
    replace hb7 := Lib.hid hb7
    replace B7 := Lib.hid B7
    replace B8 := Lib.hid B8
    replace hb0 := Lib.hid hb0
    have hgo3 := Lib.hid (show reRuns [] Co.zero Co.zero (l.drop 0) = RS from hRS)
    clear hgo hRS hb
    go_wp2
    go_loopw [6, 9] (fun ov iv wr => ∃ (i : Nat) (o : List UInt8) (S : ByteArray) (x y : Co), i ≤ n ∧ iv = .int .i64 i ∧ ov = .string S ∧ Hid (strL o = S) ∧ Hid (reRuns o x y (l.drop i) = RS) ∧ Hid (Below w.heap.size w wr) ∧ o.length ≤ 1048576 ∧ Hid (Blk wr b7 [.int .u8 (x).r, .int .u8 (x).g, .int .u8 (x).b, .int .u8 (x).a] 44) ∧ Hid (Blk wr (b7 + 1) [.int .u8 (y).r, .int .u8 (y).g, .int .u8 (y).b, .int .u8 (y).a] 44)) (fun _ iv _ => n - (intOf iv).toNat)
    case atStart => exact ⟨0, [], _, Co.zero, Co.zero, Nat.zero_le _, rfl, rfl, Lib.hid rfl, hgo3, hb0, Nat.zero_le _, B7, B8⟩
    case round =>
     clear hgo3 hb0 B7 B8
     obtain ⟨i, o, S, cx, cy, hi, rfl, rfl, hSt, hgo, hb, hol, B7, B8⟩ := hrel
     obtain ⟨W1, rfl⟩ : ∃ W1, W1 = wr := ⟨_, rfl⟩
     have zb := hb.out.size
     by_cases hin : i < n
     ·have hii : (i : Int) < n := by omega
      obtain ⟨g, ob, cap', ea, hg, hcp, hcm, hel⟩ := hop.out (by omega)
      simp only [Value.slice.injEq] at ea
      obtain ⟨rfl, _, rfl⟩ := ea
      obtain ⟨r, hr⟩ := get_at en.out hin
      obtain ⟨s, k, q0, q1, q2, hrow⟩ := hel i r hr
      have hro := List.all_eq_true.1 hRa.out r (List.mem_of_getElem? hr)
      have hcw := (hwf.out _ (List.mem_of_getElem? hr)).2.2
      have hgo2 := hgo.out
      rw [drop_get hr, reRuns_cons] at hgo2
      rw [runB_ok] at hro
      simp only [Bool.and_eq_true, decide_eq_true_eq] at hro
      obtain ⟨hrB, hx0, hy0, hx1, hy1⟩ := hro
      obtain ⟨x, y, rc, rfl⟩ : ∃ x y c, r = ⟨x, y, c⟩ := ⟨_, _, _, rfl⟩
      dsimp only at q0 q1 q2 hrow hgo2 hrB hx0 hy0 hx1 hy1 hcw
      obtain ⟨q, hq⟩ : ∃ q, rc.length = q := ⟨_, rfl⟩
      rw [hq] at q2 hrow hgo2
      have hq0 : 0 < q := by
       unfold runB at hrB
       simp only [Bool.and_eq_true, decide_eq_true_eq] at hrB
       omega
      have yg : g < W1.heap.size := by omega
      have p0 := (hb.out.cell (p := ⟨g, ob + i * 3, none⟩) hg).trans q0
      have p1 := (hb.out.cell (p := ⟨g, ob + i * 3 + 1, none⟩) hg).trans q1
      have hDW := Lib.hid (hD.out.below hb.out (Nat.le_refl _))
      have zS : S.size ≤ 1048576 := by rw [← hSt.out, strL_size]; exact hol
      have z1 := itS_size (n := y + 1) (by unfold I64; omega)
      have z2 := itS_size (n := x + 1) (by unfold I64; omega)
      have HS := head_sum S o x y hSt.out
      have zH : (escL 72 [y + 1, x + 1]).length ≤ 60 := by
       have := escL_len (c := 72) (ns := [y + 1, x + 1]) (by intro n hn; simp only [List.mem_cons, List.not_mem_nil, or_false] at hn; rcases hn with rfl | rfl <;> (unfold I64; omega))
       simp only [List.length_cons, List.length_nil] at this
       omega
      have hgo3 := Lib.hid (show reNext (reGo rc (q - 0) 0 (o ++ escL 72 [y + 1, x + 1]) cx cy) (l.drop (i + 1)) = RS from hgo2)
      obtain ⟨o2, ho2⟩ : ∃ o2, o ++ escL 72 [y + 1, x + 1] = o2 := ⟨_, rfl⟩
      rw [ho2] at hgo3 HS
      have hl2 : o2.length ≤ 1048700 := by rw [← ho2, List.length_append]; omega
      replace hrow := Lib.hid hrow
      replace hq := Lib.hid hq
      replace hcw := Lib.hid hcw
      replace q2 := Lib.hid q2
      replace HS := Lib.hid HS
      clear hr hgo hgo2 hel ho2 hrB zH
      go_upto_region 14 with fail
      refine wp_region_steady (Held W1 0 []) (by kernel_rfl) (by kernel_rfl) ⟨belt, (by (try simp) <;> omega), (by first | exact trivial | (simp only [Cells]; go_simp))⟩ ?_
      repeat (first | (refine' wpSteady_do _ _ _; rotate_left; (focus rfl); (focus (intro w1 hS R hR; have hc := hS.cells; simp only [Cells] at hc; obtain ⟨hco, hfo⟩ := bcell hS.old; go_simp; (try go_bits); (try (rw [if_neg (by omega)]; go_simp)); first | exact hR _ hS | (go_at_call 70; (with_reducible refine (itS_any _ _ (hDW.out.below hS.old (Nat.le_refl _)) (by omega) (by omega)).mono ?_); rintro e w2 ⟨rfl, hb2⟩; exact ⟨_, rfl, hR _ (hS.below hb2)⟩))); simp only [pu]) | (refine wpSteady_pass ?_ ?_; (focus rfl); simp only [pu]))
      refine wpSteady_nil (fun uA hSA => ?_)
      have hcA := hSA.cells; have hbA := hSA.old; have hzA := hSA.size; clear hSA; simp only [Cells] at hcA; obtain ⟨hcoA, hfoA⟩ := bcell hbA
      rw [HS.out]
      have hbA2 := Lib.hid (hb.out.trans (hbA.mono zb))
      have B7A := Lib.hid (B7.out.below hbA B7.out.lt)
      have B8A := Lib.hid (B8.out.below hbA B8.out.lt)
      clear hcA hcoA hfoA p0 p1 z1 z2 zS HS hb B7 B8 hSt hDW
      go_upto_region 16 with fail
      go_loopw [6, 10] (fun ov kv wr => ∃ (k : Nat) (o2 : List UInt8) (S2 : ByteArray) (u v : Co), k ≤ q ∧ kv = .int .i64 k ∧ ov = .string S2 ∧ Hid (strL o2 = S2) ∧ Hid (reNext (reGo rc (q - k) k o2 u v) (l.drop (i + 1)) = RS) ∧ Hid (Below w.heap.size w wr) ∧ o2.length ≤ 1048700 ∧ (0 < k → o2.length ≤ 1048576) ∧ Hid (Blk wr b7 [.int .u8 (u).r, .int .u8 (u).g, .int .u8 (u).b, .int .u8 (u).a] 44) ∧ Hid (Blk wr (b7 + 1) [.int .u8 (v).r, .int .u8 (v).g, .int .u8 (v).b, .int .u8 (v).a] 44)) (fun _ kv _ => q - (intOf kv).toNat)
      case atStart => exact ⟨0, o2, _, cx, cy, Nat.zero_le _, rfl, rfl, Lib.hid rfl, hgo3, hbA2, hl2, fun h => absurd h (by omega), B7A, B8A⟩
      case round =>
       clear hgo3 hbA2 B7A B8A hl2 hbA hzA
       obtain ⟨k2, o2, S2, u, v, hk2, rfl, rfl, hSt, hgo, hb, hol2, hok2, B7, B8⟩ := hrel
       obtain ⟨W2, rfl⟩ : ∃ W2, W2 = wr := ⟨_, rfl⟩
       have zb2 := hb.out.size
       have yg2 : g < W2.heap.size := by omega
       have p2 := (hb.out.cell (p := ⟨g, ob + i * 3 + 2, none⟩) hg).trans q2.out
       by_cases hkq : k2 < q
       ·have hkk : (k2 : Int) < q := by omega
        obtain ⟨c, hc⟩ := get_at hq.out hkq
        have mcw := hcw.out c (List.mem_of_getElem? hc)
        obtain ⟨gs, os, kc, es, hgs, _, _, hsrc⟩ := row_ce hrow.out (by rw [hq.out]; omega)
        rw [hq.out] at es
        simp only [Value.slice.injEq] at es
        obtain ⟨rfl, _, rfl⟩ := es
        have Ms := (hsrc k2 c hc).below hb.out hgs
        have ygs : gs < W2.heap.size := by omega
        have hqm : q ≤ 9223372036854775807 := by
         obtain ⟨_, _, _, hm⟩ := hrow.out.shape
         unfold maxLen at hm
         rw [hq.out] at hm
         omega
        have hgo2 := hgo.out
        rw [re_step hc hkq, reNext_ite, reNext_if] at hgo2
        obtain ⟨ru, ⟨c0, c1, c2, c3⟩, ⟨d0, d1, d2, d3⟩, wi, ta⟩ := c
        obtain ⟨j0, j1, j2, j3, j4, j5, j6, j7, j8, j9, j10⟩ := Ms
        dsimp only at j0 j1 j2 j3 j4 j5 j6 j7 j8 j9 j10
        replace hgo2 := Lib.hid hgo2
        replace hc := Lib.hid hc
        clear hgo hsrc
        go_upto_region 19 with fail
        obtain ⟨W3, hW3⟩ : ∃ W3, W2.alloc (.cells #[.int .i32 ru, .int .u8 c0, .int .u8 c1, .int .u8 c2, .int .u8 c3, .int .u8 d0, .int .u8 d1, .int .u8 d2, .int .u8 d3, .bool wi, .bool ta] 52) = W3 := ⟨_, rfl⟩
        obtain ⟨b11, hb11⟩ : ∃ b, W2.heap.size = b := ⟨_, rfl⟩
        have B11 : Blk W3 b11 [.int .i32 ru, .int .u8 c0, .int .u8 c1, .int .u8 c2, .int .u8 c3, .int .u8 d0, .int .u8 d1, .int .u8 d2, .int .u8 d3, .bool wi, .bool ta] 52 := by rw [← hW3]; exact Blk.new' hb11.symm
        have h23 : Below W2.heap.size W2 W3 := by rw [← hW3]; exact belt
        rw [hW3, hb11]
        clear hW3 j0 j1 j2 j3 j4 j5 j6 j7 j8 j9 j10 p2
        have hb3 := hb.out.trans (h23.mono zb2)
        have z3 := hb3.size
        have B7' := B7.out.below h23 B7.out.lt
        have B8' := B8.out.below h23 B8.out.lt
        have n7 : b7 ≠ b11 := by have := B7.out.lt; omega
        have n8 : b7 + 1 ≠ b11 := by have := B8.out.lt; omega
        have p2 := (hb3.cell (p := ⟨g, ob + i * 3 + 2, none⟩) hg).trans q2.out
        have WH := fun (j : Int) (h1 : I64 j) (h2 : j < 9223372036854775807) u (hu : Below w.heap.size w u) => rwhole_any rc j _ u ((hrow.out.below hu).mono hu.size) h1 h2
        have WH1 := WH ((k2 : Int) - 1) (by unfold I64; omega) (by omega) W3 hb3
        have WH2 := Lib.hid (WH (k2 : Int) (by unfold I64; omega) (by omega))
        obtain ⟨wh1, hwh1⟩ : ∃ b, whlI rc ((k2 : Int) - 1) = b := ⟨_, rfl⟩
        rw [hwh1] at WH1
        have hgo3 := hgo2.out
        rw [hwh1] at hgo3
        replace WH1 := Lib.hid WH1
        have yg3 : g < W3.heap.size := by omega
        clear hb hgo2 B7 B8 h23 WH zb2 yg2 ygs
        replace hb3 := Lib.hid hb3
        cases wh1
        ·rw [if_neg (by decide)] at hgo3
         replace hgo3 := Lib.hid hgo3
         clear hwh1
         replace B7' := Lib.hid B7'
         replace B8' := Lib.hid B8'
         replace B11 := Lib.hid B11
         obtain ⟨ev, hev⟩ : ∃ b, eq4 c0 c1 c2 c3 u.r u.g u.b u.a = b := ⟨_, rfl⟩
         obtain ⟨ew, hew⟩ : ∃ b, eq4 d0 d1 d2 d3 v.r v.g v.b v.a = b := ⟨_, rfl⟩
         go_upto_if 109 with (go_at_call 71; (with_reducible refine WH1.out.mono ?_); rintro e w4 ⟨rfl, hb4⟩; have B74 := B7'.out.below hb4 B7'.out.lt; have B84 := B8'.out.below hb4 B8'.out.lt; have B114 := B11.out.below hb4 B11.out.lt; obtain ⟨hc4, hf4⟩ := bcell hb4; have z4 := hb4.size; have yb4 := B114.lt; have yb7 := B74.lt; have a0p := B114.cell (o := 0) rfl; have a1p := B114.cell (o := 1) rfl; have a2p := B114.cell (o := 2) rfl; have a3p := B114.cell (o := 3) rfl; have a4p := B114.cell (o := 4) rfl; have a5p := B114.cell (o := 5) rfl; have a6p := B114.cell (o := 6) rfl; have a7p := B114.cell (o := 7) rfl; have a8p := B114.cell (o := 8) rfl; have a9p := B114.cell (o := 9) rfl; have a10p := B114.cell (o := 10) rfl; have e0p := B74.cell (o := 0) rfl; have e1p := B74.cell (o := 1) rfl; have e2p := B74.cell (o := 2) rfl; have e3p := B74.cell (o := 3) rfl)
         obtain ⟨W4, rfl⟩ : ∃ W4, W4 = w4 := ⟨_, rfl⟩
         have hb4' := hb3.out.trans (hb4.mono z3)
         have hD4 := hD.out.below hb4' (Nat.le_refl _)
         have hSz := hSt
         have zS2 : S2.size ≤ 1048700 := by rw [← hSt.out, strL_size]; exact hol2
         have z04 := hb4'.size
         clear B7' B8' B11 hc4 hf4 hb4 hb3 WH1 p2 z3 yg3
         go_cut [6] (fun ov wx => ∃ W5 S3, W5 = wx ∧ ov = .string S3 ∧ Hid (strL (o2 ++ dipL 38 u ⟨c0, c1, c2, c3⟩) = S3) ∧ Below W4.heap.size W4 wx)
         case first =>
          cases ev
          ·have he := (eq4_co ⟨c0, c1, c2, c3⟩ u).symm.trans hev
           clear hev
           have TD := told_any [51, 56] ⟨c0, c1, c2, c3⟩ W4 hD4 mcw.2.1 (by simp)
           rw [told_dip itoa_38 he] at TD
           have zD := dipL_len (n := 38) (t := u) (c := ⟨c0, c1, c2, c3⟩) (by unfold I64; omega) mcw.2.1
           obtain ⟨D1, hD1⟩ : ∃ D, dipL 38 u ⟨c0, c1, c2, c3⟩ = D := ⟨_, rfl⟩
           rw [hD1] at TD zD
           obtain ⟨TS, hTS⟩ : ∃ TS, strL D1 = TS := ⟨_, rfl⟩
           rw [hTS] at TD
           have zT : TS.size ≤ 140 := by rw [← hTS, strL_size]; exact zD
           have szq : ¬ 9223372036854775807 < (S2).size + TS.size := by omega
           have hrl := Lib.hid (show strL (o2 ++ dipL 38 u ⟨c0, c1, c2, c3⟩) = S2 ++ TS by rw [hD1, ← strL_app, hTS, hSz.out])
           have TE := Lib.hid (show Calls Tryz.prog 72 #[.string ⟨#[51, 56]⟩, .agg #[.int .u8 (c0), .int .u8 (c1), .int .u8 (c2), .int .u8 (c3)]] W4 (fun e w' => e = .returned (.string TS) ∧ Below (W4).heap.size W4 w') from TD)
           clear TD
           replace hTS := Lib.hid hTS
           replace hD1 := Lib.hid hD1
           clear he
           go_wp2_with (go_at_call 72; (with_reducible refine TE.out.mono ?_); rintro e w5 ⟨rfl, hb5⟩)
           go_meet
           case rel => exact ⟨_, _, rfl, rfl, hrl, hb5⟩
          ·have he := (eq4_co ⟨c0, c1, c2, c3⟩ u).symm.trans hev
           clear hev
           have hrl := Lib.hid (show strL (o2 ++ dipL 38 u ⟨c0, c1, c2, c3⟩) = S2 by rw [show dipL 38 u ⟨c0, c1, c2, c3⟩ = [] from if_pos he, List.append_nil]; exact hSz.out)
           clear he
           go_wp2
           go_meet
           case rel => exact ⟨_, _, rfl, rfl, hrl, Below.refl _ _⟩
         case rest =>
          obtain ⟨W5, S3, rfl, rfl, hS3, hb5⟩ := hcut
          clear a0p a1p a2p a3p a4p a5p a6p a7p a8p a9p a10p
          clear e0p e1p e2p e3p
          have B75 := B74.below hb5 B74.lt
          have B85 := B84.below hb5 B84.lt
          have B115 := B114.below hb5 B114.lt
          have hb5' := hb4'.trans (hb5.mono z04)
          have hD5 := hD.out.below hb5' (Nat.le_refl _)
          have z05 := hb5'.size
          have l38 := dipL_len (n := 38) (t := u) (c := ⟨c0, c1, c2, c3⟩) (by unfold I64; omega) mcw.2.1
          obtain ⟨o3, ho3⟩ : ∃ o3, o2 ++ dipL 38 u ⟨c0, c1, c2, c3⟩ = o3 := ⟨_, rfl⟩
          have hl3 : o3.length ≤ 1048840 := by rw [← ho3, List.length_append]; omega
          rw [ho3] at hS3
          have zS3 : S3.size ≤ 1048840 := by rw [← hS3.out, strL_size]; exact hl3
          replace ho3 := Lib.hid ho3
          clear B74 B84 B114 hb4' hD4 hSz l38 hb5 z04 z4 yb4 yb7 zS2
          have hSz := hS3
          have a0q := B115.cell (o := 0) rfl; have a1q := B115.cell (o := 1) rfl; have a2q := B115.cell (o := 2) rfl; have a3q := B115.cell (o := 3) rfl; have a4q := B115.cell (o := 4) rfl; have a5q := B115.cell (o := 5) rfl; have a6q := B115.cell (o := 6) rfl; have a7q := B115.cell (o := 7) rfl; have a8q := B115.cell (o := 8) rfl; have a9q := B115.cell (o := 9) rfl; have a10q := B115.cell (o := 10) rfl
          have e0q := B85.cell (o := 0) rfl; have e1q := B85.cell (o := 1) rfl; have e2q := B85.cell (o := 2) rfl; have e3q := B85.cell (o := 3) rfl
          go_upto_if 118 with fail
          go_cut [6] (fun ov wx => ∃ W6 S4, W6 = wx ∧ ov = .string S4 ∧ Hid (strL (o3 ++ dipL 48 v ⟨d0, d1, d2, d3⟩) = S4) ∧ Below W5.heap.size W5 wx)
          case first =>
           cases ew
           ·have he := (eq4_co ⟨d0, d1, d2, d3⟩ v).symm.trans hew
            clear hew
            have TD := told_any [52, 56] ⟨d0, d1, d2, d3⟩ W5 hD5 mcw.2.2 (by simp)
            rw [told_dip itoa_48 he] at TD
            have zD := dipL_len (n := 48) (t := v) (c := ⟨d0, d1, d2, d3⟩) (by unfold I64; omega) mcw.2.2
            obtain ⟨D1, hD1⟩ : ∃ D, dipL 48 v ⟨d0, d1, d2, d3⟩ = D := ⟨_, rfl⟩
            rw [hD1] at TD zD
            obtain ⟨TS, hTS⟩ : ∃ TS, strL D1 = TS := ⟨_, rfl⟩
            rw [hTS] at TD
            have zT : TS.size ≤ 140 := by rw [← hTS, strL_size]; exact zD
            have szq : ¬ 9223372036854775807 < (S3).size + TS.size := by omega
            have hrl := Lib.hid (show strL (o3 ++ dipL 48 v ⟨d0, d1, d2, d3⟩) = S3 ++ TS by rw [hD1, ← strL_app, hTS, hSz.out])
            have TE := Lib.hid (show Calls Tryz.prog 72 #[.string ⟨#[52, 56]⟩, .agg #[.int .u8 (d0), .int .u8 (d1), .int .u8 (d2), .int .u8 (d3)]] W5 (fun e w' => e = .returned (.string TS) ∧ Below (W5).heap.size W5 w') from TD)
            clear TD
            replace hTS := Lib.hid hTS
            replace hD1 := Lib.hid hD1
            clear he
            go_wp2_with (go_at_call 72; (with_reducible refine TE.out.mono ?_); rintro e w5 ⟨rfl, hb5⟩)
            go_meet
            case rel => exact ⟨_, _, rfl, rfl, hrl, hb5⟩
           ·have he := (eq4_co ⟨d0, d1, d2, d3⟩ v).symm.trans hew
            clear hew
            have hrl := Lib.hid (show strL (o3 ++ dipL 48 v ⟨d0, d1, d2, d3⟩) = S3 by rw [show dipL 48 v ⟨d0, d1, d2, d3⟩ = [] from if_pos he, List.append_nil]; exact hSz.out)
            clear he
            go_wp2
            go_meet
            case rel => exact ⟨_, _, rfl, rfl, hrl, Below.refl _ _⟩
          case rest =>
           obtain ⟨W6, S4, rfl, rfl, hS4, hb6⟩ := hcut
           clear a0q a1q a2q a3q a4q a5q a6q a7q a8q a9q a10q
           clear e0q e1q e2q e3q
           have B76 := B75.below hb6 B75.lt
           have B86 := B85.below hb6 B85.lt
           have B116 := B115.below hb6 B115.lt
           have hb6' := hb5'.trans (hb6.mono z05)
           have z06 := hb6'.size
           have l48 := dipL_len (n := 48) (t := v) (c := ⟨d0, d1, d2, d3⟩) (by unfold I64; omega) mcw.2.2
           obtain ⟨o4, ho4⟩ : ∃ o4, o3 ++ dipL 48 v ⟨d0, d1, d2, d3⟩ = o4 := ⟨_, rfl⟩
           have hl4 : o4.length ≤ 1048980 := by rw [← ho4, List.length_append]; omega
           rw [ho4] at hS4
           have zS4 : S4.size ≤ 1048980 := by rw [← hS4.out, strL_size]; exact hl4
           replace ho4 := Lib.hid ho4
           clear B75 B85 B115 hb5' hD5 hSz l48 hb6 z05 zS3
           have a0r := B116.cell (o := 0) rfl; have a1r := B116.cell (o := 1) rfl; have a2r := B116.cell (o := 2) rfl; have a3r := B116.cell (o := 3) rfl; have a4r := B116.cell (o := 4) rfl; have a5r := B116.cell (o := 5) rfl; have a6r := B116.cell (o := 6) rfl; have a7r := B116.cell (o := 7) rfl; have a8r := B116.cell (o := 8) rfl; have a9r := B116.cell (o := 9) rfl; have a10r := B116.cell (o := 10) rfl
           have e0r := B76.cell (o := 0) rfl; have e1r := B76.cell (o := 1) rfl; have e2r := B76.cell (o := 2) rfl; have e3r := B76.cell (o := 3) rfl
           have f7 := B76.free
           have f8 := B86.free
           have g0 := B86.cell (o := 0) rfl
           have g1 := B86.cell (o := 1) rfl
           have g2 := B86.cell (o := 2) rfl
           have g3 := B86.cell (o := 3) rfl
           go_upto_region 26 with fail
           obtain ⟨W7, hW7⟩ : ∃ W7, ((((((((W6.setCell ⟨b7, 0, none⟩ (.int .u8 c0)).setCell ⟨b7, 1, none⟩ (.int .u8 c1)).setCell ⟨b7, 2, none⟩ (.int .u8 c2)).setCell ⟨b7, 3, none⟩ (.int .u8 c3)).setCell ⟨b7 + 1, 0, none⟩ (.int .u8 d0)).setCell ⟨b7 + 1, 1, none⟩ (.int .u8 d1)).setCell ⟨b7 + 1, 2, none⟩ (.int .u8 d2)).setCell ⟨b7 + 1, 3, none⟩ (.int .u8 d3)) = W7 := ⟨_, rfl⟩
           clear a0r a1r a2r a3r a4r a5r a6r a7r a8r a9r a10r
           clear e0r e1r e2r e3r
           clear f7 f8 g0 g1 g2 g3
           have P7 := Blk.put4 B76 rfl (.int .u8 c0) (.int .u8 c1) (.int .u8 c2) (.int .u8 c3)
           have n78 : b7 + 1 ≠ b7 := by omega
           have n87 : b7 ≠ b7 + 1 := by omega
           have P8 := Blk.put4 ((((B86.set_ne (a := ⟨b7, 0, none⟩) n78 (.int .u8 c0)).set_ne (a := ⟨b7, 1, none⟩) n78 (.int .u8 c1)).set_ne (a := ⟨b7, 2, none⟩) n78 (.int .u8 c2)).set_ne (a := ⟨b7, 3, none⟩) n78 (.int .u8 c3)) rfl (.int .u8 d0) (.int .u8 d1) (.int .u8 d2) (.int .u8 d3)
           replace P7 := (((P7.set_ne (a := ⟨b7 + 1, 0, none⟩) n87 (.int .u8 d0)).set_ne (a := ⟨b7 + 1, 1, none⟩) n87 (.int .u8 d1)).set_ne (a := ⟨b7 + 1, 2, none⟩) n87 (.int .u8 d2)).set_ne (a := ⟨b7 + 1, 3, none⟩) n87 (.int .u8 d3)
           have m7 : b11 ≠ b7 := fun h => n7 h.symm
           have m8 : b11 ≠ b7 + 1 := fun h => n8 h.symm
           have P11 := (((((((B116.set_ne (a := ⟨b7, 0, none⟩) m7 (.int .u8 c0)).set_ne (a := ⟨b7, 1, none⟩) m7 (.int .u8 c1)).set_ne (a := ⟨b7, 2, none⟩) m7 (.int .u8 c2)).set_ne (a := ⟨b7, 3, none⟩) m7 (.int .u8 c3)).set_ne (a := ⟨b7 + 1, 0, none⟩) m8 (.int .u8 d0)).set_ne (a := ⟨b7 + 1, 1, none⟩) m8 (.int .u8 d1)).set_ne (a := ⟨b7 + 1, 2, none⟩) m8 (.int .u8 d2)).set_ne (a := ⟨b7 + 1, 3, none⟩) m8 (.int .u8 d3)
           have hb7' := (((((((hb6'.setCell (p := ⟨b7, 0, none⟩) hbB (.int .u8 c0)).setCell (p := ⟨b7, 1, none⟩) hbB (.int .u8 c1)).setCell (p := ⟨b7, 2, none⟩) hbB (.int .u8 c2)).setCell (p := ⟨b7, 3, none⟩) hbB (.int .u8 c3)).setCell (p := ⟨b7 + 1, 0, none⟩) (by show w.heap.size ≤ b7 + 1; omega) (.int .u8 d0)).setCell (p := ⟨b7 + 1, 1, none⟩) (by show w.heap.size ≤ b7 + 1; omega) (.int .u8 d1)).setCell (p := ⟨b7 + 1, 2, none⟩) (by show w.heap.size ≤ b7 + 1; omega) (.int .u8 d2)).setCell (p := ⟨b7 + 1, 3, none⟩) (by show w.heap.size ≤ b7 + 1; omega) (.int .u8 d3)
           rw [hW7] at P7 P8 P11 hb7' ⊢
           clear hW7 B76 B86 B116 hb6' m7 m8 n78 n87
           have z07 := hb7'.size
           have WHC := Lib.hid (WH2.out W7 hb7')
           obtain ⟨wh2, hwh2⟩ : ∃ b, whlI rc (k2 : Int) = b := ⟨_, rfl⟩
           rw [hwh2] at WHC hgo3
           replace hwh2 := Lib.hid hwh2
           have p2 := (hb7'.cell (p := ⟨g, ob + i * 3 + 2, none⟩) hg).trans q2.out
           have yg7 : g < W7.heap.size := by omega
           obtain ⟨bw, hbw⟩ : ∃ b, (wi && !wh2) = b := ⟨_, rfl⟩
           have a0s := P11.cell (o := 0) rfl; have a1s := P11.cell (o := 1) rfl; have a2s := P11.cell (o := 2) rfl; have a3s := P11.cell (o := 3) rfl; have a4s := P11.cell (o := 4) rfl; have a5s := P11.cell (o := 5) rfl; have a6s := P11.cell (o := 6) rfl; have a7s := P11.cell (o := 7) rfl; have a8s := P11.cell (o := 8) rfl; have a9s := P11.cell (o := 9) rfl; have a10s := P11.cell (o := 10) rfl
           go_cut [139] (fun bv wx => ∃ W8, W8 = wx ∧ bv = .bool bw ∧ Below W7.heap.size W7 wx)
           case first =>
            cases wi
            ·have hbw1 : bw = false := by rw [← hbw]; rfl
             subst hbw1
             clear hbw
             go_wp2
             go_meet
             case rel => exact ⟨_, rfl, rfl, Below.refl _ _⟩
            ·have hbw1 : (!wh2) = bw := by rw [← hbw]; rfl
             subst hbw1
             clear hbw
             go_wp2_with (go_at_call 71; (with_reducible refine WHC.out.mono ?_); rintro e w8 ⟨rfl, hb8⟩)
             go_meet
             case rel => exact ⟨_, rfl, rfl, hb8⟩
           case rest =>
            obtain ⟨W8, rfl, rfl, hb8⟩ := hcut
            replace hbw := Lib.hid hbw
            clear a0s a1s a2s a3s a4s a5s a6s a7s a8s a9s a10s
            have P78 := P7.below hb8 P7.lt
            have P88 := P8.below hb8 P8.lt
            have P118 := P11.below hb8 P11.lt
            have hb8' := hb7'.trans (hb8.mono z07)
            have z08 := hb8'.size
            clear P7 P8 P11 hb7' hb8 z07 p2 WHC yg7 WH2
            go_upto_if 139 with fail
            go_cut [6] (fun ov wx => ∃ S5, W8 = wx ∧ ov = .string S5 ∧ Hid (strL (o4 ++ (if bw = true then [14] else [])) = S5))
            case first =>
             cases bw
             ·have hrl := Lib.hid (show strL (o4 ++ (if false = true then [14] else [])) = S4 by rw [if_neg (by decide), List.append_nil]; exact hS4.out)
              go_wp2
              go_meet
              case rel => exact ⟨_, rfl, rfl, hrl⟩
             ·have szq : ¬ 9223372036854775807 < S4.size + 1 := by omega
              have hrl := Lib.hid (show strL (o4 ++ (if true = true then [14] else [])) = S4 ++ ⟨#[14]⟩ by rw [if_pos rfl, ← strL_app, hS4.out]; rfl)
              go_wp2
              go_meet
              case rel => exact ⟨_, rfl, rfl, hrl⟩
            case rest =>
             obtain ⟨S5, rfl, rfl, hS5⟩ := hcut
             obtain ⟨o5, ho5⟩ : ∃ o5, o4 ++ (if bw = true then [14] else []) = o5 := ⟨_, rfl⟩
             have hl5 : o5.length ≤ 1048981 := by
              rw [← ho5, List.length_append]
              have : (if bw = true then [(14 : UInt8)] else []).length ≤ 1 := by cases bw <;> simp
              omega
             rw [ho5] at hS5
             have zS5 : S5.size ≤ 1048981 := by rw [← hS5.out, strL_size]; exact hl5
             replace ho5 := Lib.hid ho5
             have a0t := P118.cell (o := 0) rfl; have a1t := P118.cell (o := 1) rfl; have a2t := P118.cell (o := 2) rfl; have a3t := P118.cell (o := 3) rfl; have a4t := P118.cell (o := 4) rfl; have a5t := P118.cell (o := 5) rfl; have a6t := P118.cell (o := 6) rfl; have a7t := P118.cell (o := 7) rfl; have a8t := P118.cell (o := 8) rfl; have a9t := P118.cell (o := 9) rfl; have a10t := P118.cell (o := 10) rfl
             go_upto_if 143 with fail
             go_cut [6] (fun ov wx => ∃ S6, W8 = wx ∧ ov = .string S6 ∧ Hid (strL (o5 ++ (if ta = true then [15] else [])) = S6))
             case first =>
              cases ta
              ·have hrl := Lib.hid (show strL (o5 ++ (if false = true then [15] else [])) = S5 by rw [if_neg (by decide), List.append_nil]; exact hS5.out)
               go_wp2
               go_meet
               case rel => exact ⟨_, rfl, rfl, hrl⟩
              ·have szq : ¬ 9223372036854775807 < S5.size + 1 := by omega
               have hrl := Lib.hid (show strL (o5 ++ (if true = true then [15] else [])) = S5 ++ ⟨#[15]⟩ by rw [if_pos rfl, ← strL_app, hS5.out]; rfl)
               go_wp2
               go_meet
               case rel => exact ⟨_, rfl, rfl, hrl⟩
             case rest =>
              obtain ⟨S6, rfl, rfl, hS6⟩ := hcut
              obtain ⟨o6, ho6⟩ : ∃ o6, o5 ++ (if ta = true then [15] else []) = o6 := ⟨_, rfl⟩
              have hl6 : o6.length ≤ 1048982 := by
               rw [← ho6, List.length_append]
               have : (if ta = true then [(15 : UInt8)] else []).length ≤ 1 := by cases ta <;> simp
               omega
              rw [ho6] at hS6
              have zS6 : S6.size ≤ 1048982 := by rw [← hS6.out, strL_size]; exact hl6
              have zU := encode_small ru
              have szq : ¬ 9223372036854775807 < S6.size + (Utf8.encode ru).size := by omega
              obtain ⟨o7, ho7⟩ : ∃ o7, o6 ++ Lib.encodeRune ru = o7 := ⟨_, rfl⟩
              have hS7 : strL o7 = S6 ++ Utf8.encode ru := by rw [← ho7, ← strL_app, hS6.out, encode_eq]
              have hl7 : o7.length ≤ 1048990 := by
               rw [← ho7, List.length_append]
               have := enc_len4 ru
               omega
              have ho27 : o2 ++ rcelL u v ⟨ru, ⟨c0, c1, c2, c3⟩, ⟨d0, d1, d2, d3⟩, wi, ta⟩ wh2 = o7 := by
               rw [← ho7, ← ho6, ← ho5.out, ← ho4.out, ← ho3.out, ← hbw.out]
               unfold rcelL markR
               simp
              have hgo4 := hgo3.out
              rw [ho27] at hgo4
              (try dsimp only at hgo4)
              clear hgo3
              replace ho7 := Lib.hid ho7
              replace ho6 := Lib.hid ho6
              replace ho27 := Lib.hid ho27
              replace hS7 := Lib.hid hS7
              go_upto_region 31 with fail
              obtain ⟨S7, hS7'⟩ : ∃ S7, S6 ++ Utf8.encode ru = S7 := ⟨_, rfl⟩
              rw [hS7']
              have hS8 := hS7.out
              rw [hS7'] at hS8
              have hz7 : S7.size = o7.length := by rw [← hS8, strL_size]
              clear hS7'
              replace hS8 := Lib.hid hS8
              clear a0t a1t a2t a3t a4t a5t a6t a7t a8t a9t a10t
              by_cases hbg : 1048576 < o7.length
              ·have hbgi : (1048576 : Int) < o7.length := by omega
               have hRn : none = RS := by rwa [if_pos hbg] at hgo4
               subst hRn
               have hT := hT.out
               have hE := hE.out
               dsimp only at hT hE
               subst hT hE
               go_wp2
               go_ret2
               exact ⟨rfl, hb8'⟩
              ·have hbgi : ¬ (1048576 : Int) < o7.length := by omega
               rw [if_neg hbg] at hgo4
               replace hgo4 := Lib.hid hgo4
               have P78' := Lib.hid P78
               have P88' := Lib.hid P88
               have hb9 := Lib.hid hb8'
               go_wp2
               exact ⟨⟨k2 + 1, o7, _, ⟨c0, c1, c2, c3⟩, ⟨d0, d1, d2, d3⟩, by omega, by go_num, rfl, hS8, hgo4, hb9, by omega, fun _ => by omega, P78', P88'⟩, by simp [intOf]; omega⟩
        ·rw [if_pos rfl] at hgo3
         have hk1 : 0 < k2 := by have := whl_pos hwh1; omega
         have hol3 := hok2 hk1
         replace hgo3 := Lib.hid hgo3
         replace B7' := Lib.hid B7'
         replace B8' := Lib.hid B8'
         clear B11 hwh1
         go_wp2_with (go_at_call 71; (with_reducible refine WH1.out.mono ?_); rintro e w4 ⟨rfl, hb4⟩)
         have z4 := hb4.size
         exact ⟨⟨k2 + 1, o2, _, u, v, by omega, by go_num, rfl, hSt, hgo3, Lib.hid (hb3.out.trans (hb4.mono z3)), by omega, fun _ => hol3, Lib.hid (B7'.out.below hb4 B7'.out.lt), Lib.hid (B8'.out.below hb4 B8'.out.lt)⟩, by simp [intOf]; omega⟩
       ·obtain rfl : q = k2 := by omega
        have hkk : ¬ (q : Int) < q := by omega
        have hg2 := Lib.hid (show reRuns o2 u v (l.drop (i + 1)) = RS by
         have h := hgo.out
         rw [Nat.sub_self] at h
         exact h)
        have hol3 := hok2 hq0
        go_wp2
        exact ⟨⟨i + 1, o2, _, u, v, by omega, by go_num, rfl, hSt, hg2, hb, hol3, B7, B8⟩, by simp [intOf]; omega⟩
     ·obtain rfl : n = i := by omega
      have hii : ¬ (n : Int) < n := by omega
      have hRS2 : some o = RS := by
       have h := hgo.out
       rw [List.drop_of_length_le (by rw [en.out]; omega)] at h
       exact h
      subst hRS2
      have hT := hT.out
      have hE := hE.out
      dsimp only at hT hE
      subst hT hE
      have hS2 : S = ⟨o.toArray⟩ := hSt.out.symm
      subst hS2
      go_wp2
      go_ret2
      exact ⟨rfl, hb.out⟩
end Go.Proofs.YtffmomgmkpmpkaaGreatDoor
