/-
  Cells: a terminal reads an escape.
-/
import Derived.Test.YtffmomgmkpmpkaaGreatDoorProg
import Derived.Test.YtffmomgmkpmpkaaGreatDoorKp8
namespace Go.Proofs.YtffmomgmkpmpkaaGreatDoor
open Go.RowKit
set_option linter.unusedVariables false
attribute [local go_sem] vwp vUpon_value vUpon_skip vUpon_enter vUpon_row
set_option linter.unusedSimpArgs false
set_option linter.unusedVariables false
/-- The cells of a terminal's block. -/
def tmC (wd ht : Int) (v : Value) (t : Tm) : List Value := [.int .i64 wd, .int .i64 ht, v, .int .i64 t.x, .int .i64 t.y, .int .u8 t.col.r, .int .u8 t.col.g, .int .u8 t.col.b, .int .u8 t.col.a, .int .u8 t.back.r, .int .u8 t.back.g, .int .u8 t.back.b, .int .u8 t.back.a]
def stepN (r : Option (Tm × Nat)) : Int := match r with | none => 0 | some (_, n) => n
def stepT (t : Tm) (r : Option (Tm × Nat)) : Tm := match r with | none => t | some (t', _) => t'
theorem pref_esc (l : List UInt8) : (∃ body, l = 27 :: 91 :: body) ∨ (Lib.hasPrefix l [27, 91] = false ∧ ∀ t, escP t l = none) := by
  cases l with
  | nil => exact .inr ⟨rfl, fun _ => rfl⟩
  | cons a r =>
    by_cases ha : a = 27
    · subst ha
      cases r with
      | nil => exact .inr ⟨rfl, fun _ => rfl⟩
      | cons b s =>
        by_cases hb : b = 91
        · subst hb; exact .inl ⟨s, rfl⟩
        · refine .inr ⟨?_, fun t => ?_⟩
          · simp [Lib.hasPrefix, List.isPrefixOf, Ne.symm hb]
          · unfold escP; split
            · rename_i h; injection h with _ h; injection h with h _; exact absurd h hb
            · rfl
    · refine .inr ⟨?_, fun t => ?_⟩
      · simp [Lib.hasPrefix, List.isPrefixOf, Ne.symm ha]
      · unfold escP; split
        · rename_i h; injection h with h _; exact absurd h ha
        · rfl
theorem nums_bd {most : Int} {e : UInt8} : ∀ {k : Nat} {l : List UInt8} {ns r}, numsP most e k l = some (ns, r) → ∀ n ∈ ns, 0 ≤ n ∧ n ≤ most
  | 0, l, ns, r, h, n, hn => by
    simp only [numsP, Option.some.injEq, Prod.mk.injEq] at h
    obtain ⟨rfl, rfl⟩ := h
    cases hn
  | k + 1, l, ns, r, h, n, hn => by
    rw [numsP] at h
    split at h
    · cases h
    · rename_i n i hP
      split at h
      · cases h
      · rename_i c r' hc
        by_cases hce : c = (if k = 0 then e else 59)
        · rw [if_pos hce] at h
          split at h
          · cases h
          · rename_i ms r2 hrec
            injection h with h
            obtain ⟨rfl, rfl⟩ := Prod.mk.inj h
            rcases List.mem_cons.1 hn with rfl | hn2
            · exact (numP_fit hP).2
            · exact nums_bd hrec _ hn2
        · rw [if_neg hce] at h; cases h
theorem escP_eq (t : Tm) (l : List UInt8) : escP t (27 :: 91 :: l) = match numsP 16384 72 2 l with
    | some ([y, x], r) => if x < 1 ∨ y < 1 then none else some ({ t with x := x - 1, y := y - 1 }, l.length + 2 - r.length)
    | _ => match numsP 255 109 6 l with
      | some ([a, b, c0, c1, c2, c3], r) => if b = 2 then (if a = 38 then some ({ t with col := ⟨c0, c1, c2, c3⟩ }, l.length + 2 - r.length) else if a = 48 then some ({ t with back := ⟨c0, c1, c2, c3⟩ }, l.length + 2 - r.length) else none) else none
      | _ => none := rfl
set_option maxHeartbeats 4000000 in
set_option maxRecDepth 100000 in
theorem resc_any (wd ht : Int) (v : Value) (t : Tm) (l : List UInt8) (b : Nat) (w : World) (hB : Blk w b (tmC wd ht v t) 97) (hl : l.length ≤ 1048576) :
  Calls Tryz.prog 55 #[.pointer (some ⟨b, 0, none⟩), .string (strL l)] w fun e w' => e = .returned (.int .i64 (stepN (escP t l))) ∧ Blk w' b (tmC wd ht v (stepT t (escP t l))) 97 ∧ KeptBut (· = b) w w' := by
 have CU := fun w => YtffmomgmkpmpkaaGreatDoor.cutP (strL l) ⟨#[27, 91]⟩ w
 have ed : (strL l).data.toList = l := by simp [strL]
 have ep : (⟨#[27, 91]⟩ : ByteArray).data.toList = [27, 91] := rfl
 simp only [ed, ep] at CU
 clear ed ep
 obtain ⟨S, hS⟩ : ∃ s, strL l = s := ⟨_, rfl⟩
 have hSz : S.size = l.length := by rw [← hS]; exact strL_size _
 rw [hS] at CU ⊢
 rcases pref_esc l with ⟨body, rfl⟩ | ⟨h0, h1⟩
 ·have e1 : Lib.hasPrefix (27 :: 91 :: body) [27, 91] = true := by simp [Lib.hasPrefix, List.isPrefixOf]
  have e2 : (⟨(Lib.trimPrefix (27 :: 91 :: body) [27, 91]).toArray⟩ : ByteArray) = strL body := by simp [Lib.trimPrefix, e1, strL]
  simp only [e1, e2] at CU
  clear e1 e2
  have hE := escP_eq t body
  obtain ⟨RES, hRES⟩ : ∃ q, escP t (27 :: 91 :: body) = q := ⟨_, rfl⟩
  rw [hRES] at hE ⊢
  clear hRES
  simp only [List.length_cons] at hl hSz
  obtain ⟨S2, hS2⟩ : ∃ s, strL body = s := ⟨_, rfl⟩
  have hSz2 : S2.size = body.length := by rw [← hS2]; exact strL_size _
  rw [hS2] at CU
  obtain ⟨M, hM⟩ : ∃ M, body.length = M := ⟨_, rfl⟩
  rw [hM] at hl hSz hSz2 hE
  obtain ⟨H, hH⟩ : ∃ r, numsP 16384 72 2 body = r := ⟨_, rfl⟩
  rw [hH] at hE
  replace hE := Lib.hid hE
  replace CU := Lib.hid CU
  replace hS2 := Lib.hid hS2
  replace hS := Lib.hid hS
  replace hM := Lib.hid hM
  have yb := hB.lt
  replace hB := Lib.hid hB
  go_enter Tryz.func55, Tryz.ntmps55
  go_upto_region 5 with (go_at_call 108; (with_reducible refine (CU.out _).mono ?_); rintro e w2 ⟨rfl, rfl⟩)
  obtain ⟨W1, hW1⟩ : ∃ W1, (w2.alloc (.cells #[.int .i64 0] 3)).alloc (.cells #[.int .i64 0] 3) = W1 := ⟨_, rfl⟩
  have BX : Blk W1 w2.heap.size [.int .i64 0] 3 := by rw [← hW1]; exact (Blk.new' rfl).alloc _
  have BY : Blk W1 (w2.heap.size + 1) [.int .i64 0] 3 := by rw [← hW1]; exact Blk.new' (by simp)
  have hb1 : Below w2.heap.size w2 W1 := by rw [← hW1]; exact belt
  have BT := hB.out.below hb1 yb
  rw [hW1]
  clear hW1
  have NS := fun u (hI : Ints u [w2.heap.size + 1, w2.heap.size] [0, 0]) g (hg : Blk u g [ptrV (w2.heap.size + 1), ptrV w2.heap.size] 164) =>
   numbers_any [w2.heap.size + 1, w2.heap.size] g 2 body 16384 72 72 rfl [0, 0] u hI hg (by simp) (by show 2 ≤ 10; decide) (by show 2 ≤ 2; decide) (by rw [hM.out]; omega) (by decide) (by decide)
  have el : [w2.heap.size + 1, w2.heap.size].length = 2 := rfl
  simp only [el, hH, hS2.out] at NS
  have IXY : Ints W1 [w2.heap.size + 1, w2.heap.size] [0, 0] := ⟨rfl, fun j p x hp hx => by
   match j, hp, hx with
   | 0, hp, hx => injection hp with hp; injection hx with hx; subst hp hx; exact BY
   | 1, hp, hx => injection hp with hp; injection hx with hx; subst hp hx; exact BX⟩
  have hal := (KeptBut.refl (fun k => k ∈ [w2.heap.size + 1, w2.heap.size]) W1).alloc (.cells #[ptrV (w2.heap.size + 1), ptrV w2.heap.size] 164)
  have y1 := BX.lt
  have y2 := BY.lt
  obtain ⟨x, hx⟩ : ∃ x, w2.heap.size = x := ⟨_, rfl⟩
  rw [hx] at NS IXY hal hb1 y1 y2 yb ⊢
  replace NS := Lib.hid NS
  replace IXY := Lib.hid IXY
  replace hal := Lib.hid hal
  replace BT := Lib.hid BT
  replace hb1 := Lib.hid hb1
  replace hx := Lib.hid hx
  clear BX BY hB
  cases H with
  | none =>
   unfold outNums at NS
   dsimp only at NS
   go_upto_region 11 with (go_at_call 109; (with_reducible refine (NS.out _ (IXY.out.below ((Below.refl _ _).alloc (Nat.le_refl _) _)) _ (Blk.new _ _ _)).mono ?_); rintro e w3 ⟨rfl, hk3, _⟩)
   have hb3 : Below x w2 w3 := KeptBut.toBelow hb1.out (hal.out.trans hk3) (by omega) (fun k hk hm => by simp only [List.mem_cons, List.not_mem_nil, or_false] at hm; omega)
   have BT3 := BT.out.but (hal.out.trans hk3) (by simp only [List.mem_cons, List.not_mem_nil, or_false]; omega)
   clear NS hk3 hal IXY BT hb1 y1 y2
   obtain ⟨H2, hH2⟩ : ∃ r, numsP 255 109 6 body = r := ⟨_, rfl⟩
   replace hE := hE.out
   rw [hH2] at hE
   have yb3 := BT3.lt
   have zb3 := hb3.size
   rw [hx.out] at zb3
   go_upto_region 12 with fail
   obtain ⟨W4, hW4⟩ : ∃ W4, (((((w3.alloc (.cells #[.int .i64 0] 3)).alloc (.cells #[.int .i64 0] 3)).alloc (.cells #[.int .i64 0] 3)).alloc (.cells #[.int .i64 0] 3)).alloc (.cells #[.int .i64 0] 3)).alloc (.cells #[.int .i64 0] 3) = W4 := ⟨_, rfl⟩
   have L6 : ∀ j : Nat, j < 6 → Blk W4 (w3.heap.size + j) [.int .i64 0] 3 := by
    intro j hj
    rw [← hW4]
    match j, hj with
    | 0, _ => exact (((((Blk.new' rfl).alloc _).alloc _).alloc _).alloc _).alloc _
    | 1, _ => exact ((((Blk.new' (by simp)).alloc _).alloc _).alloc _).alloc _
    | 2, _ => exact (((Blk.new' (by simp)).alloc _).alloc _).alloc _
    | 3, _ => exact ((Blk.new' (by simp)).alloc _).alloc _
    | 4, _ => exact (Blk.new' (by simp)).alloc _
    | 5, _ => exact Blk.new' (by simp)
   have hb4 : Below w3.heap.size w3 W4 := by rw [← hW4]; exact belt
   have BT4 := BT3.below hb4 yb3
   obtain ⟨m, hm⟩ : ∃ m, w3.heap.size = m := ⟨_, rfl⟩
   rw [hm] at L6 hb4 yb3 zb3
   rw [hW4, hm]
   have hb04 : Below x w2 W4 := hb3.trans (hb4.mono (by omega))
   clear hW4 hb4 hb3
   have I6 : Ints W4 [m, m + 1, m + 1 + 1, m + 1 + 1 + 1, m + 1 + 1 + 1 + 1, m + 1 + 1 + 1 + 1 + 1] [0, 0, 0, 0, 0, 0] := ⟨rfl, fun j p z hp hz => by
    match j, hp, hz with
    | 0, hp, hz => injection hp with hp; injection hz with hz; subst hp hz; exact L6 0 (by decide)
    | 1, hp, hz => injection hp with hp; injection hz with hz; subst hp hz; exact L6 1 (by decide)
    | 2, hp, hz => injection hp with hp; injection hz with hz; subst hp hz; exact L6 2 (by decide)
    | 3, hp, hz => injection hp with hp; injection hz with hz; subst hp hz; exact L6 3 (by decide)
    | 4, hp, hz => injection hp with hp; injection hz with hz; subst hp hz; exact L6 4 (by decide)
    | 5, hp, hz => injection hp with hp; injection hz with hz; subst hp hz; exact L6 5 (by decide)⟩
   have y5 := (L6 5 (by decide)).lt
   have NS := fun u (hI : Ints u [m, m + 1, m + 1 + 1, m + 1 + 1 + 1, m + 1 + 1 + 1 + 1, m + 1 + 1 + 1 + 1 + 1] [0, 0, 0, 0, 0, 0]) g (hg : Blk u g [ptrV m, ptrV (m + 1), ptrV (m + 1 + 1), ptrV (m + 1 + 1 + 1), ptrV (m + 1 + 1 + 1 + 1), ptrV (m + 1 + 1 + 1 + 1 + 1)] 164) =>
    numbers_any [m, m + 1, m + 1 + 1, m + 1 + 1 + 1, m + 1 + 1 + 1 + 1, m + 1 + 1 + 1 + 1 + 1] g 6 body 255 109 109 rfl [0, 0, 0, 0, 0, 0] u hI hg (by first | (simp; done) | (simp; omega)) (by show 6 ≤ 10; decide) (by show 6 ≤ 6; decide) (by rw [hM.out]; omega) (by decide) (by decide)
   have el : [m, m + 1, m + 1 + 1, m + 1 + 1 + 1, m + 1 + 1 + 1 + 1, m + 1 + 1 + 1 + 1 + 1].length = 6 := rfl
   simp only [el, hH2, hS2.out] at NS
   have hal := (KeptBut.refl (fun k => k ∈ [m, m + 1, m + 1 + 1, m + 1 + 1 + 1, m + 1 + 1 + 1 + 1, m + 1 + 1 + 1 + 1 + 1]) W4).alloc (.cells #[ptrV m, ptrV (m + 1), ptrV (m + 1 + 1), ptrV (m + 1 + 1 + 1), ptrV (m + 1 + 1 + 1 + 1), ptrV (m + 1 + 1 + 1 + 1 + 1)] 164)
   replace NS := Lib.hid NS
   replace I6 := Lib.hid I6
   replace hal := Lib.hid hal
   replace BT4 := Lib.hid BT4
   replace hb04 := Lib.hid hb04
   replace hm := Lib.hid hm
   clear L6 BT3 el
   cases H2 with
   | none =>
    have hRN : RES = none := hE
    subst hRN
    unfold outNums at NS
    dsimp only at NS
    go_upto_region 13 with (go_at_call 109; (with_reducible refine (NS.out _ (I6.out.below ((Below.refl _ _).alloc (Nat.le_refl _) _)) _ (Blk.new _ _ _)).mono ?_); rintro e w5 ⟨rfl, hk5, _⟩)
    have hb5 : Below x w2 w5 := KeptBut.toBelow hb04.out (hal.out.trans hk5) (by omega) (fun k hk hm => by simp only [List.mem_cons, List.not_mem_nil, or_false] at hm; omega)
    have BT5 := BT4.out.but (hal.out.trans hk5) (by simp only [List.mem_cons, List.not_mem_nil, or_false]; omega)
    go_wp2
    go_ret
    exact ⟨rfl, BT5, (KeptBut.refl _ _).below (by rw [hx.out]; exact hb5)⟩
   | some q =>
    obtain ⟨ns, r⟩ := q
    obtain ⟨hnl, hrl⟩ := numsP_len hH2
    obtain ⟨n0, n1, n2, n3, n4, n5, rfl⟩ : ∃ n0 n1 n2 n3 n4 n5, ns = [n0, n1, n2, n3, n4, n5] := by
     match ns, hnl with
     | [_, _, _, _, _, _], _ => exact ⟨_, _, _, _, _, _, rfl⟩
    have hnb := nums_bd hH2
    have b2 := hnb n2 (by simp)
    have b3 := hnb n3 (by simp)
    have b4 := hnb n4 (by simp)
    have b5 := hnb n5 (by simp)
    rw [hM.out] at hrl
    unfold outNums at NS
    dsimp only at NS hE
    obtain ⟨S4, hS4⟩ : ∃ s, strL r = s := ⟨_, rfl⟩
    have hSz4 : S4.size = r.length := by rw [← hS4]; exact strL_size _
    rw [hS4] at NS
    obtain ⟨R4, hR4⟩ : ∃ R4, r.length = R4 := ⟨_, rfl⟩
    rw [hR4] at hSz4 hrl hE
    replace hE := Lib.hid hE
    replace hS4 := Lib.hid hS4
    replace hR4 := Lib.hid hR4
    clear hnb hnl hH2
    go_upto_region 13 with (go_at_call 109; (with_reducible refine (NS.out _ (I6.out.below ((Below.refl _ _).alloc (Nat.le_refl _) _)) _ (Blk.new _ _ _)).mono ?_); rintro e w5 ⟨rfl, hk5, vs, hI5, hv5⟩)
    have hb5 : Below x w2 w5 := KeptBut.toBelow hb04.out (hal.out.trans hk5) (by omega) (fun k hk hm => by simp only [List.mem_cons, List.not_mem_nil, or_false] at hm; omega)
    have BT5 := BT4.out.but (hal.out.trans hk5) (by simp only [List.mem_cons, List.not_mem_nil, or_false]; omega)
    obtain rfl := hv5 _ _ rfl
    have c0 := (hI5.2 0 _ _ rfl rfl).cell (o := 0) rfl
    have c1 := (hI5.2 1 _ _ rfl rfl).cell (o := 0) rfl
    have c2 := (hI5.2 2 _ _ rfl rfl).cell (o := 0) rfl
    have c3 := (hI5.2 3 _ _ rfl rfl).cell (o := 0) rfl
    have c4 := (hI5.2 4 _ _ rfl rfl).cell (o := 0) rfl
    have c5 := (hI5.2 5 _ _ rfl rfl).cell (o := 0) rfl
    have l0 := (hI5.2 0 _ _ rfl rfl).lt
    have l5 := (hI5.2 5 _ _ rfl rfl).lt
    have lb := BT5.lt
    have hb5' := Lib.hid ((KeptBut.refl (· = b) w2).below (by rw [hx.out]; exact hb5))
    replace BT5 := Lib.hid BT5
    clear NS hk5 hal I6 BT4 hb04 hI5 hb5
    by_cases t1 : n1 = 2
    ·by_cases t2 : n0 = 38
     ·subst t1 t2
      have hRN := hE.out
      simp only [if_true, if_false, Int.reduceEq] at hRN
      subst hRN
      go_upto_region 16 with fail
      obtain ⟨W6, hW6⟩ : ∃ W6, w5.alloc (.cells #[.int .u8 n2, .int .u8 n3, .int .u8 n4, .int .u8 n5] 44) = W6 := ⟨_, rfl⟩
      have BC : Blk W6 w5.heap.size [.int .u8 n2, .int .u8 n3, .int .u8 n4, .int .u8 n5] 44 := by rw [← hW6]; exact Blk.new' rfl
      have BT6 : Blk W6 b (tmC wd ht v t) 97 := by rw [← hW6]; exact BT5.out.alloc _
      have hb6 := hb5'.out.alloc (.cells #[.int .u8 n2, .int .u8 n3, .int .u8 n4, .int .u8 n5] 44)
      have e0 : W6.cell? ⟨m, 0, none⟩ = w5.cell? ⟨m, 0, none⟩ := by rw [← hW6]; exact ((Below.refl w5.heap.size w5).alloc (Nat.le_refl _) _).cell l0
      rw [hW6] at hb6 ⊢
      rw [c0] at e0
      have g0 := BC.cell (o := 0) rfl
      have g1 := BC.cell (o := 1) rfl
      have g2 := BC.cell (o := 2) rfl
      have g3 := BC.cell (o := 3) rfl
      have f0 := BT6.free 5
      have f1 := BT6.free (5 + 1)
      have f2 := BT6.free (5 + 1 + 1)
      have f3 := BT6.free (5 + 1 + 1 + 1)
      have j0 := BT6.cell (o := 5) rfl
      have j1 := BT6.cell (o := 5 + 1) rfl
      have j2 := BT6.cell (o := 5 + 1 + 1) rfl
      have j3 := BT6.cell (o := 5 + 1 + 1 + 1) rfl
      have yC := BC.lt
      have yT := BT6.lt
      have l6 : m < W6.heap.size := by omega
      replace BT6 := Lib.hid BT6
      replace hb6 := Lib.hid hb6
      clear hW6 c0 c1 c2 c3 c4 c5 BC BT5 hb5'
      go_wp2
      go_ret
      refine ⟨?_, ?_, ?_⟩
      ·have e : ((M : Int) + 1 + 1 - (R4 : Int)) = ((M + 2 - R4 : Nat) : Int) := by omega
       exact congrArg (fun z => Ending.returned (.int .i64 z)) e
      ·exact (((BT6.out.set 5 _).set (5 + 1) _).set (5 + 1 + 1) _).set (5 + 1 + 1 + 1) _
      ·exact (((hb6.out.setCell ⟨b, 5, none⟩ _ rfl).setCell ⟨b, 5 + 1, none⟩ _ rfl).setCell ⟨b, 5 + 1 + 1, none⟩ _ rfl).setCell ⟨b, 5 + 1 + 1 + 1, none⟩ _ rfl
     ·by_cases t3 : n0 = 48
      ·subst t1 t3
       have hRN := hE.out
       simp only [if_true, if_false, Int.reduceEq] at hRN
       subst hRN
       go_upto_region 16 with fail
       obtain ⟨W6, hW6⟩ : ∃ W6, w5.alloc (.cells #[.int .u8 n2, .int .u8 n3, .int .u8 n4, .int .u8 n5] 44) = W6 := ⟨_, rfl⟩
       have BC : Blk W6 w5.heap.size [.int .u8 n2, .int .u8 n3, .int .u8 n4, .int .u8 n5] 44 := by rw [← hW6]; exact Blk.new' rfl
       have BT6 : Blk W6 b (tmC wd ht v t) 97 := by rw [← hW6]; exact BT5.out.alloc _
       have hb6 := hb5'.out.alloc (.cells #[.int .u8 n2, .int .u8 n3, .int .u8 n4, .int .u8 n5] 44)
       have e0 : W6.cell? ⟨m, 0, none⟩ = w5.cell? ⟨m, 0, none⟩ := by rw [← hW6]; exact ((Below.refl w5.heap.size w5).alloc (Nat.le_refl _) _).cell l0
       rw [hW6] at hb6 ⊢
       rw [c0] at e0
       have g0 := BC.cell (o := 0) rfl
       have g1 := BC.cell (o := 1) rfl
       have g2 := BC.cell (o := 2) rfl
       have g3 := BC.cell (o := 3) rfl
       have f0 := BT6.free 9
       have f1 := BT6.free (9 + 1)
       have f2 := BT6.free (9 + 1 + 1)
       have f3 := BT6.free (9 + 1 + 1 + 1)
       have j0 := BT6.cell (o := 9) rfl
       have j1 := BT6.cell (o := 9 + 1) rfl
       have j2 := BT6.cell (o := 9 + 1 + 1) rfl
       have j3 := BT6.cell (o := 9 + 1 + 1 + 1) rfl
       have yC := BC.lt
       have yT := BT6.lt
       have l6 : m < W6.heap.size := by omega
       replace BT6 := Lib.hid BT6
       replace hb6 := Lib.hid hb6
       clear hW6 c0 c1 c2 c3 c4 c5 BC BT5 hb5'
       go_wp2
       go_ret
       refine ⟨?_, ?_, ?_⟩
       ·have e : ((M : Int) + 1 + 1 - (R4 : Int)) = ((M + 2 - R4 : Nat) : Int) := by omega
        exact congrArg (fun z => Ending.returned (.int .i64 z)) e
       ·exact (((BT6.out.set 9 _).set (9 + 1) _).set (9 + 1 + 1) _).set (9 + 1 + 1 + 1) _
       ·exact (((hb6.out.setCell ⟨b, 9, none⟩ _ rfl).setCell ⟨b, 9 + 1, none⟩ _ rfl).setCell ⟨b, 9 + 1 + 1, none⟩ _ rfl).setCell ⟨b, 9 + 1 + 1 + 1, none⟩ _ rfl
      ·have hRN : RES = none := by have h := hE.out; rw [if_pos t1, if_neg t2, if_neg t3] at h; exact h
       subst hRN t1
       have t2b : (n0 != 38) = true := by simpa using t2
       have t3b : (n0 != 48) = true := by simpa using t3
       go_wp2
       go_ret
       exact ⟨rfl, BT5.out, hb5'.out⟩
    ·have hRN : RES = none := by have h := hE.out; rw [if_neg t1] at h; exact h
     subst hRN
     have t1b : (n1 != 2) = true := by simpa using t1
     go_wp2
     go_ret
     exact ⟨rfl, BT5.out, hb5'.out⟩
  | some q =>
   obtain ⟨ns, r⟩ := q
   obtain ⟨hnl, hrl⟩ := numsP_len hH
   obtain ⟨y, xx, rfl⟩ : ∃ y xx, ns = [y, xx] := by
    match ns, hnl with
    | [y, xx], _ => exact ⟨_, _, rfl⟩
   have hnb := nums_bd hH
   have hy0 := hnb y (by simp)
   have hx0 := hnb xx (by simp)
   rw [hM.out] at hrl
   unfold outNums at NS
   dsimp only at NS
   obtain ⟨S4, hS4⟩ : ∃ s, strL r = s := ⟨_, rfl⟩
   have hSz4 : S4.size = r.length := by rw [← hS4]; exact strL_size _
   rw [hS4] at NS
   obtain ⟨R4, hR4⟩ : ∃ R4, r.length = R4 := ⟨_, rfl⟩
   replace hE := hE.out
   dsimp only at hE
   rw [hR4] at hSz4 hrl hE
   replace hE := Lib.hid hE
   replace hH := Lib.hid hH
   replace hS4 := Lib.hid hS4
   replace hR4 := Lib.hid hR4
   clear hnb hnl
   go_upto_region 7 with (go_at_call 109; (with_reducible refine (NS.out _ (IXY.out.below ((Below.refl _ _).alloc (Nat.le_refl _) _)) _ (Blk.new _ _ _)).mono ?_); rintro e w3 ⟨rfl, hk3, vs, hI3, hv3⟩)
   have hb3 : Below x w2 w3 := KeptBut.toBelow hb1.out (hal.out.trans hk3) (by omega) (fun k hk hm => by simp only [List.mem_cons, List.not_mem_nil, or_false] at hm; omega)
   have BT3 := BT.out.but (hal.out.trans hk3) (by simp only [List.mem_cons, List.not_mem_nil, or_false]; omega)
   obtain rfl := hv3 _ _ rfl
   have cY := (hI3.2 0 (x + 1) y rfl rfl).cell (o := 0) rfl
   have cX := (hI3.2 1 x xx rfl rfl).cell (o := 0) rfl
   have lY := (hI3.2 0 (x + 1) y rfl rfl).lt
   have lX := (hI3.2 1 x xx rfl rfl).lt
   have fb := BT3.free
   have lb := BT3.lt
   clear NS hk3 hal IXY BT hb1 y1 y2 hI3
   replace hb3 := Lib.hid hb3
   replace BT3 := Lib.hid BT3
   by_cases x1 : xx < 1
   ·have hRN : RES = none := by have h := hE.out; rwa [if_pos (.inl x1)] at h
    subst hRN
    go_wp2
    go_ret
    exact ⟨rfl, BT3.out, (KeptBut.refl _ _).below (by rw [hx.out]; exact hb3.out)⟩
   ·by_cases y1 : y < 1
    ·have hRN : RES = none := by have h := hE.out; rwa [if_pos (.inr y1)] at h
     subst hRN
     go_wp2
     go_ret
     exact ⟨rfl, BT3.out, (KeptBut.refl _ _).below (by rw [hx.out]; exact hb3.out)⟩
    ·have hRN := hE.out
     rw [if_neg (fun h => h.elim x1 y1)] at hRN
     subst hRN
     have hlen : (S.size : Int) - (S4.size : Int) = ((M + 2 - R4 : Nat) : Int) := by rw [hSz, hSz4]; omega
     have jb3 := fb 3
     have jb4 := fb 4
     have cb3 := BT3.out.cell (o := 3) rfl
     have cb4 := BT3.out.cell (o := 4) rfl
     go_wp2
     go_ret
     refine ⟨?_, ?_, ?_⟩
     ·have e : ((M : Int) + 1 + 1 - (R4 : Int)) = ((M + 2 - R4 : Nat) : Int) := by omega
      exact congrArg (fun z => Ending.returned (.int .i64 z)) e
     ·exact (BT3.out.set 3 _).set 4 _
     ·exact (((KeptBut.refl (· = b) w2).below (by rw [hx.out]; exact hb3.out)).setCell ⟨b, 3, none⟩ _ rfl).setCell ⟨b, 4, none⟩ _ rfl
 ·rw [h1]
  simp only [h0] at CU
  obtain ⟨T2, hT2⟩ : ∃ s, (⟨(Lib.trimPrefix l [27, 91]).toArray⟩ : ByteArray) = s := ⟨_, rfl⟩
  simp only [hT2] at CU
  replace CU := Lib.hid CU
  replace hB := Lib.hid hB
  go_enter Tryz.func55, Tryz.ntmps55
  go_wp2_with (go_at_call 108; (with_reducible refine (CU.out _).mono ?_); rintro e w2 ⟨rfl, rfl⟩)
  go_ret
  exact ⟨rfl, hB.out, KeptBut.refl _ _⟩
end Go.Proofs.YtffmomgmkpmpkaaGreatDoor

namespace Go.Proofs.YtffmomgmkpmpkaaGreatDoor
open Go Go.RowKit
set_option linter.unusedVariables false
set_option linter.unusedSimpArgs false
set_option linter.unusedSectionVars false
section
variable {P : Program} {ops : Array Oper} {S : World → Prop} {Q : Exit → Act → World → Prop} {obj : Nat → Obj}
abbrev ptrTo (b : Nat) : Value := .pointer (some ⟨b, 0, none⟩)
/-- In state 'a', in every world that meets S, 'o' yields 'v' and leaves what is there. -/
def StB (P : Program) (ops : Array Oper) (S : World → Prop) (o : Oper) (v : Value) (a : Act) : Prop :=
  (Region.wanted o (yielded ops a.tmps) = true ∧ ∀ w, S w → vwp P o a w (fun u w' => u = v ∧ Below w.heap.size w w')) ∨
  (Region.wanted o (yielded ops a.tmps) = false ∧ v = undef)
/-- It makes a block. -/
def NewB (P : Program) (ops : Array Oper) (S : World → Prop) (o : Oper) (ob : Obj) (a : Act) : Prop :=
  Region.wanted o (yielded ops a.tmps) = true ∧ ∀ w, S w → vwp P o a w (fun u w' => u = ptrTo w.heap.size ∧ w' = w.alloc ob)
theorem StB.of_same {o : Oper} {v : Value} {a a' : Act} (hy : StB P ops S o v a) (he : execOp a'.eval o = execOp a.eval o)
    (hw : Region.wanted o (yielded ops a'.tmps) = Region.wanted o (yielded ops a.tmps)) : StB P ops S o v a' := by
  unfold StB vwp at *
  rw [he, hw]
  exact hy
theorem NewB.of_same {o : Oper} {v : Obj} {a a' : Act} (hy : NewB P ops S o v a) (he : execOp a'.eval o = execOp a.eval o)
    (hw : Region.wanted o (yielded ops a'.tmps) = Region.wanted o (yielded ops a.tmps)) : NewB P ops S o v a' := by
  unfold NewB vwp at *
  rw [he, hw]
  exact hy
theorem StB.put {oi oj : Oper} {v u : Value} {a : Act} (hap : oi.apart ops oj = true) (hsi : ∀ cs b, oi.op ≠ .select cs b) (hy : StB P ops S oi v a) : StB P ops S oi v (a.put oj.dst u) := by
  obtain ⟨h1, h2, h3⟩ := Oper.apart_spec hap
  exact hy.of_same (execOp_put oi hsi a oj.dst u h3) (wanted_put oi a oj.dst u h3)
theorem StB.unput {oi oj : Oper} {v u : Value} {a : Act} (hap : oi.apart ops oj = true) (hsi : ∀ cs b, oi.op ≠ .select cs b) (hy : StB P ops S oi v (a.put oj.dst u)) : StB P ops S oi v a := by
  obtain ⟨h1, h2, h3⟩ := Oper.apart_spec hap
  exact hy.of_same (execOp_put oi hsi a oj.dst u h3).symm (wanted_put oi a oj.dst u h3).symm
theorem NewB.put {oi oj : Oper} {v : Obj} {u : Value} {a : Act} (hap : oi.apart ops oj = true) (hsi : ∀ cs b, oi.op ≠ .select cs b) (hy : NewB P ops S oi v a) : NewB P ops S oi v (a.put oj.dst u) := by
  obtain ⟨h1, h2, h3⟩ := Oper.apart_spec hap
  exact hy.of_same (execOp_put oi hsi a oj.dst u h3) (wanted_put oi a oj.dst u h3)
theorem NewB.unput {oi oj : Oper} {v : Obj} {u : Value} {a : Act} (hap : oi.apart ops oj = true) (hsi : ∀ cs b, oi.op ≠ .select cs b) (hy : NewB P ops S oi v (a.put oj.dst u)) : NewB P ops S oi v a := by
  obtain ⟨h1, h2, h3⟩ := Oper.apart_spec hap
  exact hy.of_same (execOp_put oi hsi a oj.dst u h3).symm (wanted_put oi a oj.dst u h3).symm
/-- What stays true where nothing that is there is changed. -/
def Stab (U : World → Prop) : Prop := ∀ w w', U w → Below w.heap.size w w' → U w'
def andB (U : World → Prop) (b : Nat) (ob : Obj) : World → Prop := fun w => U w ∧ w.heap[b]? = some ob
def orB (N : Nat → Prop) (b : Nat) : Nat → Prop := fun x => N x ∨ x = b
theorem andB_comm (U : World → Prop) (b c : Nat) (x y : Obj) : andB (andB U b x) c y = andB (andB U c y) b x := by
  funext w; unfold andB; exact propext ⟨fun ⟨⟨h1, h2⟩, h3⟩ => ⟨⟨h1, h3⟩, h2⟩, fun ⟨⟨h1, h2⟩, h3⟩ => ⟨⟨h1, h3⟩, h2⟩⟩
theorem orB_comm (N : Nat → Prop) (b c : Nat) : orB (orB N b) c = orB (orB N c) b := by
  funext x; unfold orB; exact propext ⟨fun h => by rcases h with (h | h) | h <;> simp [h], fun h => by rcases h with (h | h) | h <;> simp [h]⟩
theorem Stab.and {U : World → Prop} (h : Stab U) (b : Nat) (ob : Obj) : Stab (andB U b ob) := by
  intro w w' ⟨h1, h2⟩ hb
  refine ⟨h w w' h1 hb, ?_⟩
  have : b < w.heap.size := (Array.getElem?_eq_some_iff.1 h2).1
  exact (hb.block b this).trans h2
def tmAny (P : Program) (ops : Array Oper) (S : World → Prop) (obj : Nat → Obj) (m n : Nat) (L : Array Bool → (World → Prop) → (Nat → Prop) → Act → Prop) : Nat → Array Bool → (World → Prop) → (Nat → Prop) → Act → Prop
  | 0, listed, U, N, a => L listed U N a
  | f + 1, listed, U, N, a => Region.ready .any ops listed ≠ [] ∧
      ∀ i ∈ Region.ready .any ops listed, i < n ∧ ∃ o, ops[i]? = some o ∧
        ((i < m ∧ ∃ v, StB P ops S o v a ∧ tmAny P ops S obj m n L f (listed.setIfInBounds i true) U N (a.put o.dst v)) ∨
         (m ≤ i ∧ NewB P ops S o (obj i) a ∧ ∀ b, ¬ N b → tmAny P ops S obj m n L f (listed.setIfInBounds i true) (andB U b (obj i)) (orB N b) (a.put o.dst (ptrTo b))))
theorem StB.wpOp {i : Nat} {o : Oper} {v : Value} {a : Act} (hi : ops[i]? = some o) (hy : StB P ops S o v a) {K : Act → World → Prop} {w : World} (hS : S w)
    (h : ∀ w', Below w.heap.size w w' → K (a.put o.dst v) w') : wpOp P ops Q i K a w := by
  unfold Go.wpOp
  simp only [hi]
  rcases hy with ⟨hw, hv⟩ | ⟨hw, rfl⟩
  · simp only [hw, if_true]
    left
    have hv := hv w hS
    unfold vwp at hv
    unfold Oper.wp
    generalize (execOp a.eval o).run P w = r at *
    cases r with
    | ok n w' =>
      cases n <;> simp only [vUpon] at hv <;> simp only [Oper.upon]
      case value u => obtain ⟨rfl, hs⟩ := hv; exact h _ hs
      case skip => obtain ⟨rfl, hs⟩ := hv; exact h _ hs
      case enter f args => exact Calls.mono hv fun e w'' ⟨u, he, hu, hs⟩ => by subst he; subst hu; exact h _ hs
      case row row args => exact Rows.mono hv fun u w'' ⟨hu, hs⟩ => by subst hu; exact h _ hs
    | halt x w' => simp only [vUpon] at hv
  · simp only [hw, Bool.false_eq_true, if_false]; exact h _ (Below.refl _ _)
theorem NewB.wpOp {i : Nat} {o : Oper} {ob : Obj} {a : Act} (hi : ops[i]? = some o) (hy : NewB P ops S o ob a) {K : Act → World → Prop} {w : World} (hS : S w)
    (h : K (a.put o.dst (ptrTo w.heap.size)) (w.alloc ob)) : wpOp P ops Q i K a w := by
  unfold Go.wpOp
  simp only [hi]
  obtain ⟨hw, hv⟩ := hy
  simp only [hw, if_true]
  left
  have hv := hv w hS
  unfold vwp at hv
  unfold Oper.wp
  generalize (execOp a.eval o).run P w = r at *
  cases r with
  | ok n w' =>
    cases n <;> simp only [vUpon] at hv <;> simp only [Oper.upon]
    case value u => obtain ⟨rfl, rfl⟩ := hv; exact h
    case skip => obtain ⟨e, rfl⟩ := hv; rw [e]; exact h
    case enter f args => exact Calls.mono hv fun e w'' ⟨u, he, hu, hs⟩ => by subst he; subst hu; subst hs; exact h
    case row row args => exact Rows.mono hv fun u w'' ⟨hu, hs⟩ => by subst hu; subst hs; exact h
  | halt x w' => simp only [vUpon] at hv
theorem wpAny_of_tm {m n g : Nat} {L : Array Bool → (World → Prop) → (Nat → Prop) → Act → Prop} (hSt : Stab S)
  (hL : ∀ listed U N a w, S w → U w → (∀ b, N b → b < w.heap.size) → L listed U N a → wpAny P .any ops Q g listed a w) :
  ∀ (f : Nat) (listed : Array Bool) (U : World → Prop) (N : Nat → Prop) (a : Act) (w : World), S w → U w → Stab U → (∀ b, N b → b < w.heap.size) → tmAny P ops S obj m n L f listed U N a → wpAny P .any ops Q (f + g) listed a w
 | 0, listed, U, N, a, w, hS, hU, hst, hN, h => by rw [Nat.zero_add]; exact hL _ _ _ _ _ hS hU hN h
 | f + 1, listed, U, N, a, w, hS, hU, hst, hN, h => by
  rw [show f + 1 + g = (f + g) + 1 by omega]
  refine ⟨fun h0 => absurd h0 h.1, fun i hi => ?_⟩
  obtain ⟨_, o, ho, h⟩ := h.2 i hi
  rcases h with ⟨_, v, hy, hr⟩ | ⟨_, hy, hr⟩
  ·exact hy.wpOp ho hS fun w' hb => wpAny_of_tm hSt hL f _ _ _ _ w' (hSt _ _ hS hb) (hst _ _ hU hb) hst (fun b h => Nat.lt_of_lt_of_le (hN b h) hb.size) hr
  ·refine hy.wpOp ho hS ?_
   have hb : Below w.heap.size w (w.alloc (obj i)) := (Below.refl _ _).alloc (Nat.le_refl _) _
   have hsz : (w.alloc (obj i)).heap.size = w.heap.size + 1 := by simp
   have e : (w.alloc (obj i)).heap[w.heap.size]? = some (obj i) := by
    have : (w.alloc (obj i)).heap = w.heap.push (obj i) := rfl
    rw [this]
    simp
   have hN' : ∀ b, orB N w.heap.size b → b < (w.alloc (obj i)).heap.size := fun b h => by
    rw [hsz]
    rcases h with h | h
    ·have := hN b h; omega
    ·omega
   exact wpAny_of_tm hSt hL f _ _ _ _ _ (hSt _ _ hS hb) ⟨hst _ _ hU hb, e⟩ (hst.and _ _) hN' (hr w.heap.size (fun h => Nat.lt_irrefl _ (hN _ h)))
section
variable {M : Array Nat} (hg : Good ops M) (hsel : Region.noSelect ops = true) {s m n i : Nat} {oi : Oper} {L : Array Bool → (World → Prop) → (Nat → Prop) → Act → Prop}
include hg hsel
theorem tm_apart {j : Nat} {oj : Oper} {listed : Array Bool} (hi : ops[i]? = some oi) (hoj : ops[j]? = some oj) (hc : Closed ops listed) (hr : i ∈ Region.ready .any ops listed) (hj : j ∈ Region.ready .any ops listed) (hji : j ≠ i) :
    (oi.apart ops oj = true ∧ oj.apart ops oi = true) ∧ (∀ cs b, oi.op ≠ .select cs b) ∧ (∀ cs b, oj.op ≠ .select cs b) := by
  obtain ⟨hjun, _⟩ := mem_ready.1 hj
  have hiun := (mem_ready.1 hr).1
  refine ⟨?_, fun cs b => Region.noSelect_spec hsel i oi cs b hi, fun cs b => Region.noSelect_spec hsel j oj cs b hoj⟩
  rcases hg.apart i j oi oj hi hoj (Ne.symm hji) with h | h | h
  · have h1 := hc.ready hg hj h
    rw [getD_both hiun] at h1; cases h1
  · have h1 := hc.ready hg hr h
    rw [getD_both hjun] at h1; cases h1
  · exact h
theorem tm_below (hin : i < n) (him : s ≤ i) (htail : ∀ t, n ≤ t → t < ops.size → ∀ i, s ≤ i → i < n → R M t i) {listed : Array Bool} (hc : Closed ops listed) (hr : i ∈ Region.ready .any ops listed) : ∀ j ∈ Region.ready .any ops listed, j < n := by
  intro j hj
  rcases Nat.lt_or_ge j n with h | h
  · exact h
  · obtain ⟨_, oj, hoj, _⟩ := mem_ready.1 hj
    have hjs : j < ops.size := (Array.getElem?_eq_some_iff.1 hoj).1
    have h1 := hc.ready hg hj (htail j h hjs i him hin)
    rw [getD_both (mem_ready.1 hr).1] at h1
    cases h1
theorem tm_first_st (hi : ops[i]? = some oi) (hin : i < n) (him : s ≤ i) (hi_m : i < m)
  (htail : ∀ t, n ≤ t → t < ops.size → ∀ i, s ≤ i → i < n → R M t i)
  (hdone : ∀ listed U N a, L listed U N a → ∀ j ∈ Region.ready .any ops listed, n ≤ j) {v : Value} :
  ∀ (f : Nat) (listed : Array Bool) (U : World → Prop) (N : Nat → Prop) (a : Act), Closed ops listed →
   i ∈ Region.ready .any ops listed → StB P ops S oi v a →
   tmAny P ops S obj m n L f (listed.setIfInBounds i true) U N (a.put oi.dst v) → tmAny P ops S obj m n L (f + 1) listed U N a := by
 intro f
 induction f with
 | zero =>
  intro listed U N a hc hr hy H
  refine ⟨fun h => (by rw [h] at hr; cases hr), fun j hj => ?_⟩
  have hjn := tm_below hg hsel hin him htail hc hr j hj
  refine ⟨hjn, ?_⟩
  by_cases hji : j = i
  ·subst hji; exact ⟨oi, hi, .inl ⟨hi_m, v, hy, H⟩⟩
  ·have := hdone _ _ _ _ H j (ready_mono hj hji)
   omega
 | succ f ih =>
  intro listed U N a hc hr hy H
  refine ⟨fun h => (by rw [h] at hr; cases hr), fun j hj => ?_⟩
  have hjn := tm_below hg hsel hin him htail hc hr j hj
  refine ⟨hjn, ?_⟩
  by_cases hji : j = i
  ·subst hji; exact ⟨oi, hi, .inl ⟨hi_m, v, hy, H⟩⟩
  ·obtain ⟨_, oj, hoj, h⟩ := H.2 j (ready_mono hj hji)
   obtain ⟨hap, hsi, hsj⟩ := tm_apart hg hsel hi hoj hc hr hj hji
   refine ⟨oj, hoj, ?_⟩
   rcases h with ⟨hjm, u, hyj, hrest⟩ | ⟨hjm, hyj, hrest⟩
   ·refine .inl ⟨hjm, u, hyj.unput hap.2 hsj, ih _ _ _ _ (hc.set hj) (ready_mono hr (Ne.symm hji)) (hy.put hap.1 hsi) ?_⟩
    rw [Array.setIfInBounds_comm _ _ hji, Act.put_comm _ _ _ (Oper.apart_spec hap.2).2.1]
    exact hrest
   ·refine .inr ⟨hjm, hyj.unput hap.2 hsj, fun b hb => ih _ _ _ _ (hc.set hj) (ready_mono hr (Ne.symm hji)) (hy.put hap.1 hsi) ?_⟩
    rw [Array.setIfInBounds_comm _ _ hji, Act.put_comm _ _ _ (Oper.apart_spec hap.2).2.1]
    exact hrest b hb
theorem tm_first_new (hi : ops[i]? = some oi) (hin : i < n) (him : s ≤ i) (hi_m : m ≤ i)
  (htail : ∀ t, n ≤ t → t < ops.size → ∀ i, s ≤ i → i < n → R M t i)
  (hdone : ∀ listed U N a, L listed U N a → ∀ j ∈ Region.ready .any ops listed, n ≤ j) :
  ∀ (f : Nat) (listed : Array Bool) (U : World → Prop) (N : Nat → Prop) (a : Act), Closed ops listed → (∀ j ∈ Region.ready .any ops listed, m ≤ j) → (∃ B, ∀ b, N b → b < B) →
   i ∈ Region.ready .any ops listed → NewB P ops S oi (obj i) a →
   (∀ b, ¬ N b → tmAny P ops S obj m n L f (listed.setIfInBounds i true) (andB U b (obj i)) (orB N b) (a.put oi.dst (ptrTo b))) → tmAny P ops S obj m n L (f + 1) listed U N a := by
 intro f
 induction f with
 | zero =>
  intro listed U N a hc hall ⟨B, hB⟩ hr hy H
  refine ⟨fun h => (by rw [h] at hr; cases hr), fun j hj => ?_⟩
  have hjn := tm_below hg hsel hin him htail hc hr j hj
  refine ⟨hjn, ?_⟩
  by_cases hji : j = i
  ·subst hji; exact ⟨oi, hi, .inr ⟨hi_m, hy, H⟩⟩
  ·have := hdone _ _ _ _ (H B (fun h => Nat.lt_irrefl _ (hB _ h))) j (ready_mono hj hji)
   omega
 | succ f ih =>
  intro listed U N a hc hall ⟨B, hB⟩ hr hy H
  refine ⟨fun h => (by rw [h] at hr; cases hr), fun j hj => ?_⟩
  have hjn := tm_below hg hsel hin him htail hc hr j hj
  refine ⟨hjn, ?_⟩
  by_cases hji : j = i
  ·subst hji; exact ⟨oi, hi, .inr ⟨hi_m, hy, H⟩⟩
  ·have hjm := hall j hj
   obtain ⟨_, oj, hoj, h⟩ := (H B (fun h => Nat.lt_irrefl _ (hB _ h))).2 j (ready_mono hj hji)
   obtain ⟨hap, hsi, hsj⟩ := tm_apart hg hsel hi hoj hc hr hj hji
   refine ⟨oj, hoj, .inr ⟨hjm, ?_, fun c hcN => ?_⟩⟩
   ·rcases h with ⟨h, _⟩ | ⟨_, hyj, _⟩
    ·omega
    ·exact hyj.unput hap.2 hsj
   ·refine ih _ _ _ _ (hc.set hj) (fun k hk => ?_) ⟨max B (c + 1), fun b hb => ?_⟩ (ready_mono hr (Ne.symm hji)) (hy.put hap.1 hsi) (fun b hbN => ?_)
    ·rcases Nat.lt_or_ge k m with hlt | hge
     ·have hkr : k ∈ Region.ready .any ops listed := by
       obtain ⟨h0, ok, hok, hall'⟩ := mem_ready.1 hk
       have hkj : j ≠ k := by omega
       refine mem_ready.2 ⟨by rwa [getD_set_ne _ hkj] at h0, ok, hok, fun e he hb => ?_⟩
       have hl := hall' e he hb
       have hle := hg.lt k ok hok e he hb
       rwa [getD_set_ne false (by omega)] at hl
      have := hall k hkr; omega
     ·exact hge
    ·rcases hb with hb | hb
     ·have := hB b hb; omega
     ·omega
    ·have hb1 : ¬ N b := fun h => hbN (.inl h)
     have hcb : ¬ orB N b c := fun h => by
      rcases h with h | h
      ·exact hcN h
      ·exact hbN (.inr h.symm)
     obtain ⟨_, oj', hoj', h'⟩ := (H b hb1).2 j (ready_mono hj hji)
     obtain rfl : oj' = oj := Option.some.inj (hoj'.symm.trans hoj)
     rcases h' with ⟨h, _⟩ | ⟨_, _, hrest⟩
     ·omega
     ·have := hrest c hcb
      rw [Array.setIfInBounds_comm _ _ hji, Act.put_comm _ _ _ (Oper.apart_spec hap.2).2.1, andB_comm, orB_comm]
      exact this
end
/-- The steady ones in the order of the text. -/
def wpStB (P : Program) (ops : Array Oper) (S : World → Prop) (F : Act → Prop) : List Oper → Act → Prop
  | [], a => F a
  | o :: rest, a => ∃ v, StB P ops S o v a ∧ wpStB P ops S F rest (a.put o.dst v)
theorem wpStB_nil {F : Act → Prop} {a : Act} (h : F a) : wpStB P ops S F [] a := h
theorem wpStB_do {F : Act → Prop} {a : Act} {o : Oper} {rest : List Oper} {v : Value} (hw : Region.wanted o (yielded ops a.tmps) = true)
    (h : ∀ w, S w → ∀ R : Value → World → Prop, (∀ w', Below w.heap.size w w' → R v w') → vwp P o a w R) (hr : wpStB P ops S F rest (a.put o.dst v)) : wpStB P ops S F (o :: rest) a :=
  ⟨v, .inl ⟨hw, fun w hS => h w hS _ fun w' hS' => ⟨rfl, hS'⟩⟩, hr⟩
theorem wpStB_pass {F : Act → Prop} {a : Act} {o : Oper} {rest : List Oper} (hw : Region.wanted o (yielded ops a.tmps) = false)
    (hr : wpStB P ops S F rest (a.put o.dst undef)) : wpStB P ops S F (o :: rest) a := ⟨undef, .inr ⟨hw, rfl⟩, hr⟩
def wpNews (P : Program) (ops : Array Oper) (S : World → Prop) (obj : Nat → Obj) (F : (World → Prop) → (Nat → Prop) → Act → Prop) : List Oper → Nat → (World → Prop) → (Nat → Prop) → Act → Prop
  | [], _, U, N, a => F U N a
  | o :: rest, i, U, N, a => NewB P ops S o (obj i) a ∧ ∀ b, ¬ N b → wpNews P ops S obj F rest (i + 1) (andB U b (obj i)) (orB N b) (a.put o.dst (ptrTo b))
theorem wpNews_nil {F : (World → Prop) → (Nat → Prop) → Act → Prop} {i : Nat} {U : World → Prop} {N : Nat → Prop} {a : Act} (h : F U N a) : wpNews P ops S obj F [] i U N a := h
theorem wpNews_do {F : (World → Prop) → (Nat → Prop) → Act → Prop} {i : Nat} {U : World → Prop} {N : Nat → Prop} {a : Act} {o : Oper} {rest : List Oper} (hw : Region.wanted o (yielded ops a.tmps) = true)
    (h : ∀ w, S w → ∀ R : Value → World → Prop, R (ptrTo w.heap.size) (w.alloc (obj i)) → vwp P o a w R)
    (hr : ∀ b, ¬ N b → wpNews P ops S obj F rest (i + 1) (andB U b (obj i)) (orB N b) (a.put o.dst (ptrTo b))) : wpNews P ops S obj F (o :: rest) i U N a :=
  ⟨⟨hw, fun w hS => h w hS _ ⟨rfl, rfl⟩⟩, hr⟩
/-- THE LAW. The first m are steady, those from m to n make a block each, the rest is forced. -/
theorem wp_region_tame {id : Nat} {a : Act} {w : World} (S : World → Prop) (obj : Nat → Obj) (K m n : Nat) (hm : P.follows .mixedOrders = true) (hgb : goodB ops (Region.before ops) = true) (hmn : m ≤ n) (hn : n ≤ ops.size)
  (ht : tailB ops (Region.before ops) 0 n = true) (hc : chainedB ops (Region.before ops) n = true) (hSt : Stab S) (hK : K ≤ w.heap.size) (hS : S w.drew)
  (h : wpStB P ops S (fun a' => wpNews P ops S obj (fun U N a'' => ∀ w', S w' → U w' → (∀ b, N b → b < w'.heap.size) → wpList P ops Q (ops.toList.drop n) a'' w') ((ops.toList.drop m).take (n - m)) m (fun _ => True) (fun b => b < K) a') (ops.toList.take m) a) :
  (Code.region id ops true).wp P Q a w := by
 obtain ⟨hg, hsel⟩ := good_of hgb
 have htail : ∀ t, n ≤ t → t < ops.size → ∀ i, 0 ≤ i → i < n → R (Region.before ops) t i := fun t h1 h2 i h3 h4 => by
  have := List.all_eq_true.1 ht t (List.mem_range.2 h2)
  simp only [Bool.or_eq_true, decide_eq_true_eq] at this
  rcases this with h | h
  ·omega
  ·have := List.all_eq_true.1 h i (List.mem_range.2 h4)
   simp only [Bool.or_eq_true, decide_eq_true_eq] at this
   rcases this with h | h
   ·omega
   ·exact h
 let F : (World → Prop) → (Nat → Prop) → Act → Prop := fun U N a'' => ∀ w', S w' → U w' → (∀ b, N b → b < w'.heap.size) → wpList P ops Q (ops.toList.drop n) a'' w'
 let L : Array Bool → (World → Prop) → (Nat → Prop) → Act → Prop := fun listed U N a' => listed = firstN ops.size n ∧ F U N a'
 have hdone : ∀ listed U N a, L listed U N a → ∀ j ∈ Region.ready .any ops listed, n ≤ j := fun listed U N a hl j hj => by
  rw [hl.1] at hj; exact (ready_firstN_ge hj).1
 have news : ∀ (c k : Nat) (U : World → Prop) (N : Nat → Prop) (a : Act), k + c = n → m ≤ k → (∃ B, ∀ b, N b → b < B) → wpNews P ops S obj F ((ops.toList.drop k).take c) k U N a → tmAny P ops S obj m n L c (firstN ops.size k) U N a := by
  intro c
  induction c with
  | zero =>
   intro k U N a hk hmk _ h
   simp only [List.take_zero, wpNews] at h
   have : k = n := by omega
   subst this
   exact ⟨rfl, h⟩
  | succ c ih =>
   intro k U N a hk hmk hB h
   have hks : k < ops.size := by omega
   have hd : ops.toList.drop k = ops[k] :: ops.toList.drop (k + 1) := by
    rw [List.drop_eq_getElem_cons (by simpa using hks)]; rfl
   rw [hd, List.take_succ_cons] at h
   obtain ⟨hy, hr⟩ := h
   refine tm_first_new hg hsel (s := 0) (Array.getElem?_eq_getElem hks) (by omega) (Nat.zero_le _) hmk htail hdone c _ _ _ _ (Closed.firstN hg k) (fun j hj => Nat.le_trans hmk (ready_firstN_ge hj).1) hB (ready_firstN hg hks) hy (fun b hb => ?_)
   rw [firstN_set]
   refine ih (k + 1) _ _ _ (by omega) (by omega) ?_ (hr b hb)
   obtain ⟨B, hB⟩ := hB
   exact ⟨max B (b + 1), fun x hx => by
    rcases hx with hx | hx
    ·have := hB x hx; omega
    ·omega⟩
 have steady : ∀ (c k : Nat) (a : Act), k + c = m → wpStB P ops S (fun a' => wpNews P ops S obj F ((ops.toList.drop m).take (n - m)) m (fun _ => True) (fun b => b < K) a') ((ops.toList.drop k).take c) a →
   tmAny P ops S obj m n L (c + (n - m)) (firstN ops.size k) (fun _ => True) (fun b => b < K) a := by
  intro c
  induction c with
  | zero =>
   intro k a hk h
   simp only [List.take_zero, wpStB] at h
   have : k = m := by omega
   subst this
   rw [Nat.zero_add]
   exact news (n - k) k _ _ _ (by omega) (Nat.le_refl _) ⟨K, fun b h => h⟩ h
  | succ c ih =>
   intro k a hk h
   have hks : k < ops.size := by omega
   have hd : ops.toList.drop k = ops[k] :: ops.toList.drop (k + 1) := by
    rw [List.drop_eq_getElem_cons (by simpa using hks)]; rfl
   rw [hd, List.take_succ_cons] at h
   obtain ⟨v, hy, hr⟩ := h
   rw [show c + 1 + (n - m) = (c + (n - m)) + 1 by omega]
   refine tm_first_st hg hsel (s := 0) (Array.getElem?_eq_getElem hks) (by omega) (Nat.zero_le _) (by omega) htail hdone _ _ _ _ _ (Closed.firstN hg k) (ready_firstN hg hks) hy ?_
   rw [firstN_set]
   exact ih (k + 1) _ (by omega) hr
 refine wp_region_from hm ?_
 have h0 := steady m 0 a (by omega) (by rw [List.drop_zero]; exact h)
 rw [show m + (n - m) = n by omega] at h0
 unfold wpFrom
 rw [show ops.size - 0 = n + (ops.size - n) by omega]
 refine wpAny_of_tm hSt (fun listed U N a' w' hS' hU hN hl => ?_) n _ _ _ _ _ hS trivial (fun _ _ _ _ => trivial) (fun b hb => Nat.lt_of_lt_of_le hb hK) h0
 obtain ⟨rfl, hF⟩ := hl
 exact wpFrom_list hg _ n rfl hc (hF w' hS' hU hN)
theorem Held.stab (w : World) (k : Nat) (l : List (Addr × Value)) : Stab (Held w k l) := fun _ _ h hb => h.below hb
end
end Go.Proofs.YtffmomgmkpmpkaaGreatDoor
