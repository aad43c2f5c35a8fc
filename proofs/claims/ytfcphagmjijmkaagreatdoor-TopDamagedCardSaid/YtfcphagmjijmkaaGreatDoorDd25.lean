/-
  Cells: a terminal reads several numbers into variables of its caller's.
-/
import Derived.Test.YtfcphagmjijmkaaGreatDoorDd22
namespace Go.Proofs.YtfcphagmjijmkaaGreatDoor
open Go.RowKit
set_option linter.unusedVariables false
set_option linter.unusedSimpArgs false
attribute [local go_sem] vwp vUpon_value vUpon_skip vUpon_enter vUpon_row
set_option maxHeartbeats 16000000
theorem blkNe {w : World} {g b : Nat} {cs cs' : List Value} {T T' : TypeId} (h : Blk w g cs T) (h' : Blk w b cs' T') (hT : T ≠ T') : g ≠ b := by
 rintro rfl
 unfold Blk at h h'; rw [h] at h'
 injection h' with h'
 injection h' with _ e
 exact hT e
def outNums : Option (List Int × List UInt8) → Value
 | none => .tuple #[.string ⟨#[]⟩, .bool false]
 | some (_, r) => .tuple #[.string (strL r), .bool true]
abbrev ptrV (p : Nat) : Value := .pointer (some ⟨p, 0, none⟩)
def Ints (w : World) (ps : List Nat) (vs : List Int) : Prop := vs.length = ps.length ∧ ∀ (j p : Nat) (v : Int), ps[j]? = some p → vs[j]? = some v → Blk w p [.int .i64 v] 3
theorem Ints.set {w : World} {ps : List Nat} {vs : List Int} (h : Ints w ps vs) (hd : ps.Nodup) {i p : Nat} (hp : ps[i]? = some p) (x : Int) : Ints (w.setCell ⟨p, 0, none⟩ (.int .i64 x)) ps (vs.set i x) := by
 refine ⟨by rw [List.length_set]; exact h.1, fun j q v hq hv => ?_⟩
 by_cases hji : i = j
 ·subst hji
  rw [hp] at hq
  injection hq with hq
  subst hq
  have hil : i < vs.length := by rw [h.1]; exact (List.getElem?_eq_some_iff.1 hp).1
  rw [List.getElem?_set_self hil] at hv
  injection hv with hv
  subst hv; exact (h.2 i p _ hp (List.getElem?_eq_getElem hil)).set 0 _
 ·rw [List.getElem?_set_ne hji] at hv
  refine (h.2 j q v hq hv).set_ne ?_ _
  intro e
  have e : q = p := e; subst e; obtain ⟨h1, e1⟩ := List.getElem?_eq_some_iff.1 hp; obtain ⟨h2, e2⟩ := List.getElem?_eq_some_iff.1 hq; exact hji ((List.getElem?_inj h1 hd).1 (hp.trans hq.symm))
theorem Ints.below {w w' : World} {ps : List Nat} {vs : List Int} (h : Ints w ps vs) (hb : Below w.heap.size w w') : Ints w' ps vs :=
 ⟨h.1, fun j p v h1 h2 => (h.2 j p v h1 h2).below hb (h.2 j p v h1 h2).lt⟩
theorem take_set_snoc {vs : List Int} {i : Nat} (h : i < vs.length) (x : Int) : (vs.set i x).take (i + 1) = vs.take i ++ [x] := by
 rw [List.take_add_one, List.take_set_of_le lrr, List.getElem?_set_self h]
 rfl
def numsAt (most : Int) (e : UInt8) (k : Nat) (l : List UInt8) (p : List Int) : Option (List Int × List UInt8) := match numsP most e k l with
 | none => none
 | some (ns, r) => some (p ++ ns, r)
theorem numsAt_none {most : Int} {e : UInt8} {k : Nat} {l : List UInt8} {p : List Int} (h : numP most l = none) : numsAt most e (k + 1) l p = none := by
 unfold numsAt; rw [numsP, h]
theorem numsAt_nil {most : Int} {e : UInt8} {k : Nat} {l : List UInt8} {p : List Int} {n : Int} {i : Nat} (h : numP most l = some (n, i)) (hr : l.drop i = []) : numsAt most e (k + 1) l p = none := by
 unfold numsAt; rw [numsP, h]; dsimp only; rw [hr]
theorem numsAt_bad {most : Int} {e : UInt8} {k : Nat} {l r : List UInt8} {p : List Int} {n : Int} {i : Nat} {c : UInt8} (h : numP most l = some (n, i)) (hr : l.drop i = c :: r) (hc : c ≠ (if k = 0 then e else 59)) : numsAt most e (k + 1) l p = none := by
 unfold numsAt; rw [numsP, h]; dsimp only; rw [hr]; dsimp only; rw [if_neg hc]
theorem numsAt_step {most : Int} {e : UInt8} {k : Nat} {l r : List UInt8} {p : List Int} {n : Int} {i : Nat} {c : UInt8} (h : numP most l = some (n, i)) (hr : l.drop i = c :: r) (hc : c = (if k = 0 then e else 59)) : numsAt most e (k + 1) l p = numsAt most e k r (p ++ [n]) := by
 unfold numsAt; rw [numsP, h]; dsimp only; rw [hr]; dsimp only; rw [if_pos hc]
 cases numsP most e k r with
 | none => rfl
 | some q =>
  obtain ⟨ms, r3⟩ := q
  simp
theorem numP_fit {most : Int} {l : List UInt8} {n : Int} {i : Nat} (h : numP most l = some (n, i)) : i ≤ l.length ∧ 0 ≤ n ∧ n ≤ most := by
 have hb := numGo_bd most l 0 0; have h2 := (numP_run most l n i).1 h; refine ⟨?_, ?_, ?_⟩
 ·unfold numP at h
  split at h
  ·cases h
  ·injection h with h
   obtain ⟨_, rfl⟩ := Prod.mk.inj h; omega
 ·obtain ⟨_, _, _, rfl, _⟩ := h2
  exact valL_ge _ _ (Int.le_refl _) (tw_all l)
 ·obtain ⟨_, _, h3, rfl, _⟩ := h2
  exact h3
theorem bAt_cons (c : UInt8) (r : List UInt8) : bAt (strL (c :: r)) 0 = c.toNat := by
 rw [← bAt_eq (s := strL (c :: r)) (i := 0) (by rw [strL_size]; simp)]
 simp [strL]
 rfl
set_option maxRecDepth 100000 in
theorem numbers_any (ps : List Nat) (g cap : Nat) (l : List UInt8) (most : Int) (e : UInt8) (ke : Int) (hke : (e.toNat : Int) = ke) (vs0 : List Int) (w : World) (hI : Ints w ps vs0) (hg : Blk w g (ps.map ptrV) 216) (hd : ps.Nodup) (hn : ps.length ≤ 10)
  (hc : ps.length ≤ cap) (hl : l.length ≤ 2000000) (hm0 : 0 ≤ most) (hm1 : most ≤ 1000000) :
  Calls Tryz.prog 155 #[.string (strL l), .int .i64 most, .int .u8 ke, .slice (some ⟨g, 0, none⟩) ps.length cap] w fun ev w' => ev = .returned (outNums (numsP most e ps.length l)) ∧ KeptBut (· ∈ ps) w w' ∧ ∃ vs, Ints w' ps vs ∧ ∀ ns r, numsP most e ps.length l = some (ns, r) → vs = ns := by
 obtain ⟨N, hN⟩ := exx (ps.length); rw [hN] at hn hc ⊢; obtain ⟨RES, hR⟩ := exx (numsP most e N l); rw [hR]
 have hat0 : numsAt most e (N - 0) l (vs0.take 0) = RES := by
  unfold numsAt; rw [Nat.sub_zero, hR]
  cases RES with
  | none => rfl
  | some q => simp
 clear hR
 have hgp : g ∉ ps := by
  intro hgm
  obtain ⟨j, hj⟩ := List.mem_iff_getElem?.1 hgm; have hjl := (List.getElem?_eq_some_iff.1 hj).1; exact blkNe (hI.2 j g (vs0[j]'(by rw [hI.1]; exact hjl)) hj (List.getElem?_eq_getElem (by rw [hI.1]; exact hjl))) hg (by decide) rfl
 obtain ⟨S0, hS0⟩ := exx (strL l); rw [hS0]; replace hS0 := hdh hS0; replace hN := hdh hN; replace hg := hdh hg; replace hI := hdh hI; replace hat0 := hdh hat0; replace hd := hdh hd; replace hgp := hdh hgp
 go_enter Tryz.func155, Tryz.ntmps155
 go_upto_region 2 with fail
 go_loopw [0, 16] (fun sv iv wr => ∃ (i : Nat) (cur : List UInt8) (S : ByteArray) (vs : List Int), i ≤ N ∧ iv = .int .i64 i ∧ sv = .string S ∧ Hid (strL cur = S) ∧ cur.length ≤ 2000000 ∧ Hid (KeptBut (· ∈ ps) w wr) ∧ Hid (Ints wr ps vs) ∧ Hid (numsAt most e (N - i) cur (vs.take i) = RES)) (fun _ iv _ => N - (intOf iv).toNat)
 case atStart => exact ⟨0, l, S0, vs0, Nat.zero_le _, rfl, rfl, hS0, hl, KeptBut.refl _ _, hI, hat0⟩
 case round =>
  clear hS0 hI hat0 hl; obtain ⟨i, cur, S, vs, hi, rfl, rfl, hS, hl, hk, hI, hat⟩ := hrel; obtain ⟨W, rfl⟩ : ∃ W, W = wr := ⟨_, rfl⟩
  by_cases hiN : i < N
  ·have hii : (i : Int) < N := by omega
   obtain ⟨p, hp⟩ := get_at hN.out hiN; have hpm := List.mem_of_getElem? hp; obtain ⟨v0, hv0⟩ : ∃ v0, vs[i]? = some v0 := ⟨vs[i]'(by rw [hI.out.1, hN.out]; exact hiN), List.getElem?_eq_getElem _⟩; have Bp := hI.out.2 i p v0 hp hv0; have gW := (hg.out.but hk.out hgp.out).cell (o := i) (v := .pointer (some ⟨p, 0, none⟩)) (by rw [List.getElem?_map, hp]; rfl); have yp := Bp.lt; obtain ⟨k, hk1⟩ : ∃ k, N - i = k + 1 := ⟨N - i - 1, by omega⟩
   have hkN : (decide (k = 0)) = decide (i + 1 = N) := by by_cases h : k = 0 <;> simp [h] <;> omega
   have NU := number_any cur most W hl hm0 hm1; rw [hS.out] at NU; rw [hk1] at hat
   cases hP : numP most cur with
   | none =>
    rw [hP] at NU; have hnone := numsAt_none (e := e) (k := k) (p := vs.take i) hP; unfold outNum at NU; replace NU := hdh NU
    go_upto_region 6 with (go_at_call 191; (with_reducible refine (NU.out).mono ?_); rintro e2 w2 ⟨rfl, hb2⟩; have Bp2 := Bp.below hb2 yp; have f2 := Bp2.free 0; have c2 := Bp2.cell (o := 0) rfl; have yp2 := Bp2.lt)
    have hk3 := (hk.out.below hb2).setCell ⟨p, 0, none⟩ (.int .i64 0) hpm; have hI3 := (hI.out.below hb2).set hd.out hp 0; go_wp2; have hRN : RES = none := hat.out.symm.trans hnone; subst hRN; go_ret2; exact ⟨rfl, hk3, vs.set i _, hI3, fun ns r h => by cases h⟩
   | some q =>
    obtain ⟨n, m⟩ := q; rw [hP] at NU; unfold outNum at NU; dsimp only at NU; obtain ⟨hmf, hn0, hnm⟩ := numP_fit hP; obtain ⟨rest, hrest⟩ := exx (cur.drop m)
    have hrl : rest.length ≤ 2000000 := by rw [← hrest, List.length_drop]; omega
    rw [hrest] at NU; obtain ⟨S2, hS2⟩ := exx (strL rest); rw [hS2] at NU
    have hz2 : S2.size = rest.length := by rw [← hS2]; exact strL_size _
    replace NU := hdh NU; replace hS2 := hdh hS2
    go_upto_region 6 with (go_at_call 191; (with_reducible refine (NU.out).mono ?_); rintro e2 w2 ⟨rfl, hb2⟩; have Bp2 := Bp.below hb2 yp; have f2 := Bp2.free 0; have c2 := Bp2.cell (o := 0) rfl; have yp2 := Bp2.lt)
    have hk3 := (hk.out.below hb2).setCell ⟨p, 0, none⟩ (.int .i64 n) hpm; have hI3 := (hI.out.below hb2).set hd.out hp n; replace hk3 := hdh hk3; replace hI3 := hdh hI3; obtain ⟨W3, hW3⟩ := exx (w2.setCell ⟨p, 0, none⟩ (.int .i64 n)); rw [hW3] at hk3 hI3 ⊢; clear hW3 NU hk hI gW Bp Bp2 f2 c2 yp yp2 hb2
    cases rest with
    | nil =>
     have hnone := numsAt_nil (e := e) (k := k) (p := vs.take i) hP hrest
     have hse : S2 = ⟨#[]⟩ := by rw [← hS2.out]; rfl
     subst hse
     by_cases hlast : i + 1 = N
     ·have hli : ((i : Int) == (N : Int) - 1) = true := by simp; omega
      go_wp2; have hRN : RES = none := hat.out.symm.trans hnone; subst hRN; go_ret2; refine ⟨rfl, hk3.out, ?_⟩
      first
       | exact ⟨vs.set i n, hI3.out, fun ns r h => by cases h⟩
       | exact ⟨vs.set i n, hI3.out⟩
     ·have hli : ((i : Int) == (N : Int) - 1) = false := by simp; omega
      go_wp2; have hRN : RES = none := hat.out.symm.trans hnone; subst hRN; go_ret2; refine ⟨rfl, hk3.out, ?_⟩
      first
       | exact ⟨vs.set i n, hI3.out, fun ns r h => by cases h⟩
       | exact ⟨vs.set i n, hI3.out⟩
    | cons c r =>
     have hsb : bAt S2 0 = c.toNat := by rw [← hS2.out]; exact bAt_cons c r
     have X1 := bAt_eq (s := S2) (i := 0) (by rw [hz2]; simp); have hsl := strL_from (c :: r) 1 hS2.out; obtain ⟨S3, hS3⟩ := exx (strL r); have hd1 : (c :: r).drop 1 = r := rfl; rw [hd1, hS3, ← hz2] at hsl; obtain ⟨N2, hN2⟩ := exx (S2.size)
     have hN21 : (1 : Int) ≤ N2 := by rw [← hN2, hz2]; simp; omega
     rw [hN2] at hsl; rw [List.length_cons] at hz2 hrl
     have hse : S2.toList.isEmpty = false := by rw [← hS2.out, Lib.toList_data]; simp [strL]
     replace hsb := hsb
     by_cases hlast : i + 1 = N
     ·have hli : ((i : Int) == (N : Int) - 1) = true := by simp; omega
      have hk0 : k = 0 := by omega
      by_cases hce : c = e
      ·have hcb : ((c.toNat : Int) != ke) = false := by rw [hce, hke]; simp
       have hst := numsAt_step (e := e) (k := k) (p := vs.take i) hP hrest (by rw [if_pos hk0]; exact hce); replace hst := hdh hst; go_wp2; go_roundw
       case rel =>
        refine ⟨i + 1, r, S3, vs.set i n, by omega, by go_num, by first | rfl | (rw [← hsl, ← hN2, hz2]; done) | (rw [← hsl]; done), hdh hS3, by omega, hk3, hI3, hdh ?_⟩; rw [take_set_snoc (by have := (List.getElem?_eq_some_iff.1 hv0).1; exact this), show N - (i + 1) = k by omega, ← hst.out]; exact hat.out
       case measure => (simp [intOf]) <;> omega
      ·have hcb : ((c.toNat : Int) != ke) = true := by rw [← hke]; simp; intro h; exact hce (UInt8.toNat_inj.1 (by omega))
       have hnone := numsAt_bad (e := e) (k := k) (p := vs.take i) hP hrest (by rw [if_pos hk0]; exact hce); go_wp2; have hRN : RES = none := hat.out.symm.trans hnone; subst hRN; go_ret2; refine ⟨rfl, hk3.out, ?_⟩
       first
        | exact ⟨vs.set i n, hI3.out, fun ns r h => by cases h⟩
        | exact ⟨vs.set i n, hI3.out⟩
     ·have hli : ((i : Int) == (N : Int) - 1) = false := by simp; omega
      have hk0 : k ≠ 0 := by omega
      by_cases hce : c = 59
      ·have hcb : ((c.toNat : Int) != 59) = false := by rw [hce]; rfl
       have hst := numsAt_step (e := e) (k := k) (p := vs.take i) hP hrest (by rw [if_neg hk0]; exact hce); replace hst := hdh hst; go_wp2; go_roundw
       case rel =>
        refine ⟨i + 1, r, S3, vs.set i n, by omega, by go_num, by first | rfl | (rw [← hsl, ← hN2, hz2]; done) | (rw [← hsl]; done), hdh hS3, by omega, hk3, hI3, hdh ?_⟩; rw [take_set_snoc (by have := (List.getElem?_eq_some_iff.1 hv0).1; exact this), show N - (i + 1) = k by omega, ← hst.out]; exact hat.out
       case measure => (simp [intOf]) <;> omega
      ·have hcb : ((c.toNat : Int) != 59) = true := by simp; intro h; exact hce (UInt8.toNat_inj.1 (by show c.toNat = 59; omega))
       have hnone := numsAt_bad (e := e) (k := k) (p := vs.take i) hP hrest (by rw [if_neg hk0]; exact hce); go_wp2; have hRN : RES = none := hat.out.symm.trans hnone; subst hRN; go_ret2; refine ⟨rfl, hk3.out, ?_⟩
       first
        | exact ⟨vs.set i n, hI3.out, fun ns r h => by cases h⟩
        | exact ⟨vs.set i n, hI3.out⟩
  ·obtain rfl : N = i := by omega
   have hii : ¬ (N : Int) < N := by omega
   have hRES : some (vs, cur) = RES := by
    have h := hat.out; rw [Nat.sub_self, List.take_of_length_le (by rw [hI.out.1, hN.out]; exact Nat.le_refl _)] at h; unfold numsAt numsP at h
    simpa using h
   subst hRES; go_wp2; go_ret2; refine ⟨by rw [← hS.out]; rfl, hk.out, ?_⟩
   first
    | exact hI.out
    | exact ⟨vs, hI.out, fun ns r h => by injection h with h; exact (Prod.mk.inj h).1⟩
def tmC (wd ht : Int) (v : Value) (t : Tm) : List Value := [.int .i64 wd, .int .i64 ht, v, .int .i64 t.x, .int .i64 t.y, .int .u8 t.col.r, .int .u8 t.col.g, .int .u8 t.col.b, .int .u8 t.col.a, .int .u8 t.back.r, .int .u8 t.back.g, .int .u8 t.back.b, .int .u8 t.back.a]
def stepN (r : Option (Tm × Nat)) : Int := match r with | none => 0 | some (_, n) => n
def stepT (t : Tm) (r : Option (Tm × Nat)) : Tm := match r with | none => t | some (t', _) => t'
theorem pref_esc (l : List UInt8) : (∃ body, l = 27 :: 91 :: body) ∨ (Lib.hasPrefix l [27, 91] = false ∧ ∀ t, escP t l = none) := by
 cases l with
 | nil => exact .inr ⟨rfl, fun _ => rfl⟩
 | cons a r =>
  by_cases ha : a = 27
  ·subst ha
   cases r with
   | nil => exact .inr ⟨rfl, fun _ => rfl⟩
   | cons b s =>
    by_cases hb : b = 91
    ·subst hb; exact .inl ⟨s, rfl⟩
    ·refine .inr ⟨?_, fun t => ?_⟩
     ·simp [Lib.hasPrefix, List.isPrefixOf, Ne.symm hb]
     ·unfold escP; split
      ·rename_i h; injection h with _ h; injection h with h _; exact absurd h hb
      ·rfl
  ·refine .inr ⟨?_, fun t => ?_⟩
   ·simp [Lib.hasPrefix, List.isPrefixOf, Ne.symm ha]
   ·unfold escP; split
    ·rename_i h; injection h with h _; exact absurd h ha
    ·rfl
theorem nums_bd {most : Int} {e : UInt8} : ∀ {k : Nat} {l : List UInt8} {ns r}, numsP most e k l = some (ns, r) → ∀ n ∈ ns, 0 ≤ n ∧ n ≤ most
 | 0, l, ns, r, h, n, hn => by
  simp only [numsP, Option.some.injEq, Prod.mk.injEq] at h; obtain ⟨rfl, rfl⟩ := h
  cases hn
 | k + 1, l, ns, r, h, n, hn => by
  rw [numsP] at h
  split at h
  ·cases h
  ·rename_i n i hP
   split at h
   ·cases h
   ·rename_i c r' hc
    by_cases hce : c = (if k = 0 then e else 59)
    ·rw [if_pos hce] at h
     split at h
     ·cases h
     ·rename_i ms r2 hrec
      injection h with h
      obtain ⟨rfl, rfl⟩ := Prod.mk.inj h
      rcases List.mem_cons.1 hn with rfl | hn2
      ·exact (numP_fit hP).2
      ·exact nums_bd hrec _ hn2
    ·rw [if_neg hce] at h; cases h
theorem escP_eq (t : Tm) (l : List UInt8) : escP t (27 :: 91 :: l) = match numsP 16384 72 2 l with
  | some ([y, x], r) => if x < 1 ∨ y < 1 then none else some ({ t with x := x - 1, y := y - 1 }, l.length + 2 - r.length)
  | _ => match numsP 255 109 6 l with
   | some ([a, b, c0, c1, c2, c3], r) => if b = 2 then (if a = 38 then some ({ t with col := ⟨c0, c1, c2, c3⟩ }, l.length + 2 - r.length) else if a = 48 then some ({ t with back := ⟨c0, c1, c2, c3⟩ }, l.length + 2 - r.length) else none) else none
   | _ => none := rfl
set_option maxRecDepth 100000 in
theorem resc_any (wd ht : Int) (v : Value) (t : Tm) (l : List UInt8) (b : Nat) (w : World) (hB : Blk w b (tmC wd ht v t) 167) (hl : l.length ≤ 1048576) :
  Calls Tryz.prog 114 #[.pointer (some ⟨b, 0, none⟩), .string (strL l)] w fun e w' => e = .returned (.int .i64 (stepN (escP t l))) ∧ Blk w' b (tmC wd ht v (stepT t (escP t l))) 167 ∧ KeptBut (· = b) w w' := by
 have CU := fun w => YtfcphagmjijmkaaGreatDoor.cutP (strL l) ⟨#[27, 91]⟩ w
 have ed : (strL l).data.toList = l := by simp [strL]
 have ep : (⟨#[27, 91]⟩ : ByteArray).data.toList = [27, 91] := rfl; simp only [ed, ep] at CU; clear ed ep; obtain ⟨S, hS⟩ := exx (strL l)
 have hSz : S.size = l.length := by rw [← hS]; exact strL_size _
 rw [hS] at CU ⊢
 rcases pref_esc l with ⟨body, rfl⟩ | ⟨h0, h1⟩
 ·have e1 : Lib.hasPrefix (27 :: 91 :: body) [27, 91] = true := by simp [Lib.hasPrefix, List.isPrefixOf]
  have e2 : (⟨(Lib.trimPrefix (27 :: 91 :: body) [27, 91]).toArray⟩ : ByteArray) = strL body := by simp [Lib.trimPrefix, e1, strL]
  simp only [e1, e2] at CU; clear e1 e2; have hE := escP_eq t body; obtain ⟨RES, hRES⟩ := exx (escP t (27 :: 91 :: body)); rw [hRES] at hE ⊢; clear hRES; simp only [List.length_cons] at hl hSz; obtain ⟨S2, hS2⟩ := exx (strL body)
  have hSz2 : S2.size = body.length := by rw [← hS2]; exact strL_size _
  rw [hS2] at CU; obtain ⟨M, hM⟩ := exx (body.length); rw [hM] at hl hSz hSz2 hE; obtain ⟨H, hH⟩ := exx (numsP 16384 72 2 body); rw [hH] at hE; replace hE := hdh hE; replace CU := hdh CU; replace hS2 := hdh hS2; replace hS := hdh hS; replace hM := hdh hM; have yb := hB.lt; replace hB := hdh hB
  go_enter Tryz.func114, Tryz.ntmps114
  go_upto_region 5 with (go_at_call 154; (with_reducible refine (CU.out _).mono ?_); rintro e w2 ⟨rfl, rfl⟩)
  obtain ⟨W1, hW1⟩ := exx ((w2.alloc (.cells #[.int .i64 0] 3)).alloc (.cells #[.int .i64 0] 3))
  have BX : Blk W1 w2.heap.size [.int .i64 0] 3 := by rw [← hW1]; exact (Blk.new' rfl).alloc _
  have BY : Blk W1 (w2.heap.size + 1) [.int .i64 0] 3 := by rw [← hW1]; exact Blk.new' (by simp)
  have hb1 : Below w2.heap.size w2 W1 := by rw [← hW1]; exact belt
  have BT := hB.out.below hb1 yb; rw [hW1]; clear hW1
  have NS := fun u (hI : Ints u [w2.heap.size + 1, w2.heap.size] [0, 0]) g (hg : Blk u g [ptrV (w2.heap.size + 1), ptrV w2.heap.size] 216) =>
   numbers_any [w2.heap.size + 1, w2.heap.size] g 2 body 16384 72 72 rfl [0, 0] u hI hg (by simp) (by show 2 ≤ 10; decide) (by show 2 ≤ 2; decide) (by rw [hM.out]; omega) (by decide) (by decide)
  have el : [w2.heap.size + 1, w2.heap.size].length = 2 := rfl; simp only [el, hH, hS2.out] at NS
  have IXY : Ints W1 [w2.heap.size + 1, w2.heap.size] [0, 0] := ⟨rfl, fun j p x hp hx => by
   match j, hp, hx with
   | 0, hp, hx => injection hp with hp; injection hx with hx; subst hp hx; exact BY
   | 1, hp, hx => injection hp with hp; injection hx with hx; subst hp hx; exact BX⟩
  have hal := (KeptBut.refl (fun k => k ∈ [w2.heap.size + 1, w2.heap.size]) W1).alloc (.cells #[ptrV (w2.heap.size + 1), ptrV w2.heap.size] 216); have y1 := BX.lt; have y2 := BY.lt; obtain ⟨x, hx⟩ := exx (w2.heap.size); rw [hx] at NS IXY hal hb1 y1 y2 yb ⊢; replace NS := hdh NS; replace IXY := hdh IXY; replace hal := hdh hal; replace BT := hdh BT; replace hb1 := hdh hb1; replace hx := hdh hx; clear BX BY hB
  cases H with
  | none =>
   unfold outNums at NS; dsimp only at NS
   go_upto_region 11 with (go_at_call 155; (with_reducible refine (NS.out _ (IXY.out.below ((Below.refl _ _).alloc lrr _)) _ (Blk.new _ _ _)).mono ?_); rintro e w3 ⟨rfl, hk3, _⟩)
   have hb3 : Below x w2 w3 := KeptBut.toBelow hb1.out (hal.out.trans hk3) (by omega) (fun k hk hm => by simp only [List.mem_cons, List.not_mem_nil, or_false] at hm; omega); have BT3 := BT.out.but (hal.out.trans hk3) (by simp only [List.mem_cons, List.not_mem_nil, or_false]; omega); clear NS hk3 hal IXY BT hb1 y1 y2; obtain ⟨H2, hH2⟩ := exx (numsP 255 109 6 body); replace hE := hE.out; rw [hH2] at hE; have yb3 := BT3.lt; have zb3 := hb3.size; rw [hx.out] at zb3
   go_upto_region 12 with fail
   obtain ⟨W4, hW4⟩ := exx ((((((w3.alloc (.cells #[.int .i64 0] 3)).alloc (.cells #[.int .i64 0] 3)).alloc (.cells #[.int .i64 0] 3)).alloc (.cells #[.int .i64 0] 3)).alloc (.cells #[.int .i64 0] 3)).alloc (.cells #[.int .i64 0] 3))
   have L6 : ∀ j : Nat, j < 6 → Blk W4 (w3.heap.size + j) [.int .i64 0] 3 := by
    intro j hj
    rw [← hW4]
    match j, hj with
    | 0, _ => exact (((((Blk.new' rfl).alloc _).alloc _).alloc _).alloc _).alloc _
    | 1, _ => exact ((((Blk.new' (by simp)).alloc _).alloc _).alloc _).alloc _
    | 2, _ => exact (((Blk.new' (by simp)).alloc _).alloc _).alloc _
    | 3, _ => exact ((Blk.new' (by simp)).alloc _).alloc _
    | 4, _ => exact (Blk.new' (by simp)).alloc _
    | 5, _ => exact Blk.new' (by simp)
   have hb4 : Below w3.heap.size w3 W4 := by rw [← hW4]; exact belt
   have BT4 := BT3.below hb4 yb3; obtain ⟨m, hm⟩ := exx (w3.heap.size); rw [hm] at L6 hb4 yb3 zb3; rw [hW4, hm]; have hb04 : Below x w2 W4 := hb3.trans (hb4.mono (by omega)); clear hW4 hb4 hb3
   have I6 : Ints W4 [m, m + 1, m + 1 + 1, m + 1 + 1 + 1, m + 1 + 1 + 1 + 1, m + 1 + 1 + 1 + 1 + 1] [0, 0, 0, 0, 0, 0] := ⟨rfl, fun j p z hp hz => by
    match j, hp, hz with
    | 0, hp, hz => injection hp with hp; injection hz with hz; subst hp hz; exact L6 0 (by decide)
    | 1, hp, hz => injection hp with hp; injection hz with hz; subst hp hz; exact L6 1 (by decide)
    | 2, hp, hz => injection hp with hp; injection hz with hz; subst hp hz; exact L6 2 (by decide)
    | 3, hp, hz => injection hp with hp; injection hz with hz; subst hp hz; exact L6 3 (by decide)
    | 4, hp, hz => injection hp with hp; injection hz with hz; subst hp hz; exact L6 4 (by decide)
    | 5, hp, hz => injection hp with hp; injection hz with hz; subst hp hz; exact L6 5 (by decide)⟩
   have y5 := (L6 5 (by decide)).lt
   have NS := fun u (hI : Ints u [m, m + 1, m + 1 + 1, m + 1 + 1 + 1, m + 1 + 1 + 1 + 1, m + 1 + 1 + 1 + 1 + 1] [0, 0, 0, 0, 0, 0]) g (hg : Blk u g [ptrV m, ptrV (m + 1), ptrV (m + 1 + 1), ptrV (m + 1 + 1 + 1), ptrV (m + 1 + 1 + 1 + 1), ptrV (m + 1 + 1 + 1 + 1 + 1)] 216) =>
    numbers_any [m, m + 1, m + 1 + 1, m + 1 + 1 + 1, m + 1 + 1 + 1 + 1, m + 1 + 1 + 1 + 1 + 1] g 6 body 255 109 109 rfl [0, 0, 0, 0, 0, 0] u hI hg (by first | (simp; done) | (simp; omega)) (by show 6 ≤ 10; decide) (by show 6 ≤ 6; decide) (by rw [hM.out]; omega) (by decide) (by decide)
   have el : [m, m + 1, m + 1 + 1, m + 1 + 1 + 1, m + 1 + 1 + 1 + 1, m + 1 + 1 + 1 + 1 + 1].length = 6 := rfl; simp only [el, hH2, hS2.out] at NS; have hal := (KeptBut.refl (fun k => k ∈ [m, m + 1, m + 1 + 1, m + 1 + 1 + 1, m + 1 + 1 + 1 + 1, m + 1 + 1 + 1 + 1 + 1]) W4).alloc (.cells #[ptrV m, ptrV (m + 1), ptrV (m + 1 + 1), ptrV (m + 1 + 1 + 1), ptrV (m + 1 + 1 + 1 + 1), ptrV (m + 1 + 1 + 1 + 1 + 1)] 216); replace NS := hdh NS; replace I6 := hdh I6; replace hal := hdh hal; replace BT4 := hdh BT4; replace hb04 := hdh hb04; replace hm := hdh hm; clear L6 BT3 el
   cases H2 with
   | none =>
    have hRN : RES = none := hE; subst hRN; unfold outNums at NS; dsimp only at NS
    go_upto_region 13 with (go_at_call 155; (with_reducible refine (NS.out _ (I6.out.below ((Below.refl _ _).alloc lrr _)) _ (Blk.new _ _ _)).mono ?_); rintro e w5 ⟨rfl, hk5, _⟩)
    have hb5 : Below x w2 w5 := KeptBut.toBelow hb04.out (hal.out.trans hk5) (by omega) (fun k hk hm => by simp only [List.mem_cons, List.not_mem_nil, or_false] at hm; omega); have BT5 := BT4.out.but (hal.out.trans hk5) (by simp only [List.mem_cons, List.not_mem_nil, or_false]; omega); go_wp2; go_ret; exact ⟨rfl, BT5, (KeptBut.refl _ _).below (by rw [hx.out]; exact hb5)⟩
   | some q =>
    obtain ⟨ns, r⟩ := q; obtain ⟨hnl, hrl⟩ := numsP_len hH2
    obtain ⟨n0, n1, n2, n3, n4, n5, rfl⟩ : ∃ n0 n1 n2 n3 n4 n5, ns = [n0, n1, n2, n3, n4, n5] := by
     match ns, hnl with
     | [_, _, _, _, _, _], _ => exact ⟨_, _, _, _, _, _, rfl⟩
    have hnb := nums_bd hH2; have b2 := hnb n2 (by simp); have b3 := hnb n3 (by simp); have b4 := hnb n4 (by simp); have b5 := hnb n5 (by simp); rw [hM.out] at hrl; unfold outNums at NS; dsimp only at NS hE; obtain ⟨S4, hS4⟩ := exx (strL r)
    have hSz4 : S4.size = r.length := by rw [← hS4]; exact strL_size _
    rw [hS4] at NS; obtain ⟨R4, hR4⟩ := exx (r.length); rw [hR4] at hSz4 hrl hE; replace hE := hdh hE; replace hS4 := hdh hS4; replace hR4 := hdh hR4; clear hnb hnl hH2
    go_upto_region 13 with (go_at_call 155; (with_reducible refine (NS.out _ (I6.out.below ((Below.refl _ _).alloc lrr _)) _ (Blk.new _ _ _)).mono ?_); rintro e w5 ⟨rfl, hk5, vs, hI5, hv5⟩)
    have hb5 : Below x w2 w5 := KeptBut.toBelow hb04.out (hal.out.trans hk5) (by omega) (fun k hk hm => by simp only [List.mem_cons, List.not_mem_nil, or_false] at hm; omega); have BT5 := BT4.out.but (hal.out.trans hk5) (by simp only [List.mem_cons, List.not_mem_nil, or_false]; omega); obtain rfl := hv5 _ _ rfl; have c0 := (hI5.2 0 _ _ rfl rfl).cell (o := 0) rfl; have c1 := (hI5.2 1 _ _ rfl rfl).cell (o := 0) rfl; have c2 := (hI5.2 2 _ _ rfl rfl).cell (o := 0) rfl; have c3 := (hI5.2 3 _ _ rfl rfl).cell (o := 0) rfl; have c4 := (hI5.2 4 _ _ rfl rfl).cell (o := 0) rfl; have c5 := (hI5.2 5 _ _ rfl rfl).cell (o := 0) rfl
    have l0 := (hI5.2 0 _ _ rfl rfl).lt; have l5 := (hI5.2 5 _ _ rfl rfl).lt; have lb := BT5.lt; have hb5' := hdh ((KeptBut.refl (· = b) w2).below (by rw [hx.out]; exact hb5)); replace BT5 := hdh BT5; clear NS hk5 hal I6 BT4 hb04 hI5 hb5
    by_cases t1 : n1 = 2
    ·by_cases t2 : n0 = 38
     ·subst t1 t2
      have hRN := hE.out; simp only [if_true, if_false, Int.reduceEq] at hRN; subst hRN
      go_upto_region 16 with fail
      obtain ⟨W6, hW6⟩ := exx (w5.alloc (.cells #[.int .u8 n2, .int .u8 n3, .int .u8 n4, .int .u8 n5] 34))
      have BC : Blk W6 w5.heap.size [.int .u8 n2, .int .u8 n3, .int .u8 n4, .int .u8 n5] 34 := by rw [← hW6]; exact Blk.new' rfl
      have BT6 : Blk W6 b (tmC wd ht v t) 167 := by rw [← hW6]; exact BT5.out.alloc _
      have hb6 := hb5'.out.alloc (.cells #[.int .u8 n2, .int .u8 n3, .int .u8 n4, .int .u8 n5] 34)
      have e0 : W6.cell? ⟨m, 0, none⟩ = w5.cell? ⟨m, 0, none⟩ := by rw [← hW6]; exact ((Below.refl w5.heap.size w5).alloc lrr _).cell l0
      rw [hW6] at hb6 ⊢; rw [c0] at e0; have g0 := BC.cell (o := 0) rfl; have g1 := BC.cell (o := 1) rfl; have g2 := BC.cell (o := 2) rfl; have g3 := BC.cell (o := 3) rfl; have f0 := BT6.free 5; have f1 := BT6.free (5 + 1); have f2 := BT6.free (5 + 1 + 1); have f3 := BT6.free (5 + 1 + 1 + 1); have j0 := BT6.cell (o := 5) rfl; have j1 := BT6.cell (o := 5 + 1) rfl; have j2 := BT6.cell (o := 5 + 1 + 1) rfl; have j3 := BT6.cell (o := 5 + 1 + 1 + 1) rfl; have yC := BC.lt; have yT := BT6.lt
      have l6 : m < W6.heap.size := by omega
      replace BT6 := hdh BT6; replace hb6 := hdh hb6; clear hW6 c0 c1 c2 c3 c4 c5 BC BT5 hb5'; go_wp2; go_ret; refine ⟨?_, ?_, ?_⟩
      ·have e : ((M : Int) + 1 + 1 - (R4 : Int)) = ((M + 2 - R4 : Nat) : Int) := by omega
       exact congrArg (fun z => Ending.returned (.int .i64 z)) e
      ·exact (((BT6.out.set 5 _).set (5 + 1) _).set (5 + 1 + 1) _).set (5 + 1 + 1 + 1) _
      ·exact (((hb6.out.setCell ⟨b, 5, none⟩ _ rfl).setCell ⟨b, 5 + 1, none⟩ _ rfl).setCell ⟨b, 5 + 1 + 1, none⟩ _ rfl).setCell ⟨b, 5 + 1 + 1 + 1, none⟩ _ rfl
     ·by_cases t3 : n0 = 48
      ·subst t1 t3
       have hRN := hE.out; simp only [if_true, if_false, Int.reduceEq] at hRN; subst hRN
       go_upto_region 16 with fail
       obtain ⟨W6, hW6⟩ := exx (w5.alloc (.cells #[.int .u8 n2, .int .u8 n3, .int .u8 n4, .int .u8 n5] 34))
       have BC : Blk W6 w5.heap.size [.int .u8 n2, .int .u8 n3, .int .u8 n4, .int .u8 n5] 34 := by rw [← hW6]; exact Blk.new' rfl
       have BT6 : Blk W6 b (tmC wd ht v t) 167 := by rw [← hW6]; exact BT5.out.alloc _
       have hb6 := hb5'.out.alloc (.cells #[.int .u8 n2, .int .u8 n3, .int .u8 n4, .int .u8 n5] 34)
       have e0 : W6.cell? ⟨m, 0, none⟩ = w5.cell? ⟨m, 0, none⟩ := by rw [← hW6]; exact ((Below.refl w5.heap.size w5).alloc lrr _).cell l0
       rw [hW6] at hb6 ⊢; rw [c0] at e0; have g0 := BC.cell (o := 0) rfl; have g1 := BC.cell (o := 1) rfl; have g2 := BC.cell (o := 2) rfl; have g3 := BC.cell (o := 3) rfl; have f0 := BT6.free 9; have f1 := BT6.free (9 + 1); have f2 := BT6.free (9 + 1 + 1); have f3 := BT6.free (9 + 1 + 1 + 1); have j0 := BT6.cell (o := 9) rfl; have j1 := BT6.cell (o := 9 + 1) rfl; have j2 := BT6.cell (o := 9 + 1 + 1) rfl; have j3 := BT6.cell (o := 9 + 1 + 1 + 1) rfl; have yC := BC.lt; have yT := BT6.lt
       have l6 : m < W6.heap.size := by omega
       replace BT6 := hdh BT6; replace hb6 := hdh hb6; clear hW6 c0 c1 c2 c3 c4 c5 BC BT5 hb5'; go_wp2; go_ret; refine ⟨?_, ?_, ?_⟩
       ·have e : ((M : Int) + 1 + 1 - (R4 : Int)) = ((M + 2 - R4 : Nat) : Int) := by omega
        exact congrArg (fun z => Ending.returned (.int .i64 z)) e
       ·exact (((BT6.out.set 9 _).set (9 + 1) _).set (9 + 1 + 1) _).set (9 + 1 + 1 + 1) _
       ·exact (((hb6.out.setCell ⟨b, 9, none⟩ _ rfl).setCell ⟨b, 9 + 1, none⟩ _ rfl).setCell ⟨b, 9 + 1 + 1, none⟩ _ rfl).setCell ⟨b, 9 + 1 + 1 + 1, none⟩ _ rfl
      ·have hRN : RES = none := by have h := hE.out; rw [if_pos t1, if_neg t2, if_neg t3] at h; exact h
       subst hRN t1
       have t2b : (n0 != 38) = true := by simpa using t2
       have t3b : (n0 != 48) = true := by simpa using t3
       go_wp2; go_ret; exact ⟨rfl, BT5.out, hb5'.out⟩
    ·have hRN : RES = none := by have h := hE.out; rw [if_neg t1] at h; exact h
     subst hRN
     have t1b : (n1 != 2) = true := by simpa using t1
     go_wp2; go_ret; exact ⟨rfl, BT5.out, hb5'.out⟩
  | some q =>
   obtain ⟨ns, r⟩ := q; obtain ⟨hnl, hrl⟩ := numsP_len hH
   obtain ⟨y, xx, rfl⟩ : ∃ y xx, ns = [y, xx] := by
    match ns, hnl with
    | [y, xx], _ => exact ⟨_, _, rfl⟩
   have hnb := nums_bd hH; have hy0 := hnb y (by simp); have hx0 := hnb xx (by simp); rw [hM.out] at hrl; unfold outNums at NS; dsimp only at NS; obtain ⟨S4, hS4⟩ := exx (strL r)
   have hSz4 : S4.size = r.length := by rw [← hS4]; exact strL_size _
   rw [hS4] at NS; obtain ⟨R4, hR4⟩ := exx (r.length); replace hE := hE.out; dsimp only at hE; rw [hR4] at hSz4 hrl hE; replace hE := hdh hE; replace hH := hdh hH; replace hS4 := hdh hS4; replace hR4 := hdh hR4; clear hnb hnl
   go_upto_region 7 with (go_at_call 155; (with_reducible refine (NS.out _ (IXY.out.below ((Below.refl _ _).alloc lrr _)) _ (Blk.new _ _ _)).mono ?_); rintro e w3 ⟨rfl, hk3, vs, hI3, hv3⟩)
   have hb3 : Below x w2 w3 := KeptBut.toBelow hb1.out (hal.out.trans hk3) (by omega) (fun k hk hm => by simp only [List.mem_cons, List.not_mem_nil, or_false] at hm; omega); have BT3 := BT.out.but (hal.out.trans hk3) (by simp only [List.mem_cons, List.not_mem_nil, or_false]; omega); obtain rfl := hv3 _ _ rfl; have cY := (hI3.2 0 (x + 1) y rfl rfl).cell (o := 0) rfl; have cX := (hI3.2 1 x xx rfl rfl).cell (o := 0) rfl; have lY := (hI3.2 0 (x + 1) y rfl rfl).lt; have lX := (hI3.2 1 x xx rfl rfl).lt; have fb := BT3.free; have lb := BT3.lt; clear NS hk3 hal IXY BT hb1 y1 y2 hI3; replace hb3 := hdh hb3
   replace BT3 := hdh BT3
   by_cases x1 : xx < 1
   ·have hRN : RES = none := by have h := hE.out; rwa [if_pos (.inl x1)] at h
    subst hRN; go_wp2; go_ret; exact ⟨rfl, BT3.out, (KeptBut.refl _ _).below (by rw [hx.out]; exact hb3.out)⟩
   ·by_cases y1 : y < 1
    ·have hRN : RES = none := by have h := hE.out; rwa [if_pos (.inr y1)] at h
     subst hRN; go_wp2; go_ret; exact ⟨rfl, BT3.out, (KeptBut.refl _ _).below (by rw [hx.out]; exact hb3.out)⟩
    ·have hRN := hE.out
     rw [if_neg (fun h => h.elim x1 y1)] at hRN; subst hRN
     have hlen : (S.size : Int) - (S4.size : Int) = ((M + 2 - R4 : Nat) : Int) := by rw [hSz, hSz4]; omega
     have jb3 := fb 3; have jb4 := fb 4; have cb3 := BT3.out.cell (o := 3) rfl; have cb4 := BT3.out.cell (o := 4) rfl; go_wp2; go_ret; refine ⟨?_, ?_, ?_⟩
     ·have e : ((M : Int) + 1 + 1 - (R4 : Int)) = ((M + 2 - R4 : Nat) : Int) := by omega
      exact congrArg (fun z => Ending.returned (.int .i64 z)) e
     ·exact (BT3.out.set 3 _).set 4 _
     ·exact (((KeptBut.refl (· = b) w2).below (by rw [hx.out]; exact hb3.out)).setCell ⟨b, 3, none⟩ _ rfl).setCell ⟨b, 4, none⟩ _ rfl
 ·rw [h1]
  simp only [h0] at CU; obtain ⟨T2, hT2⟩ := exx ((⟨(Lib.trimPrefix l [27, 91]).toArray⟩ : ByteArray)); simp only [hT2] at CU; replace CU := hdh CU; replace hB := hdh hB
  go_enter Tryz.func114, Tryz.ntmps114
  go_wp2_with (go_at_call 154; (with_reducible refine (CU.out _).mono ?_); rintro e w2 ⟨rfl, rfl⟩)
  go_ret; exact ⟨rfl, hB.out, KeptBut.refl _ _⟩
end Go.Proofs.YtfcphagmjijmkaaGreatDoor
