/-
  Cells: a terminal reads a cell's rune.
-/
import Derived.Laws.CopyOwn
import Derived.Laws.IdiomCopy
import Derived.Test.YtfcphagmjijmkaaGreatDoorDd25
import Derived.Test.YtfcphagmjijmkaaGreatDoorDd26
namespace Go.Proofs.YtfcphagmjijmkaaGreatDoor
open Go.RowKit
set_option linter.unusedVariables false
set_option linter.unusedSimpArgs false
attribute [local go_sem] vwp vUpon_value vUpon_skip vUpon_enter vUpon_row
set_option maxHeartbeats 16000000
theorem run_copy_rows {P : Program} (w : World) (dT sT ty elem : TypeId) (sz g o dLen dCap : Nat) (a : Addr) (sLen sCap : Nat) (cur : Array Value) (t : TypeId) (cs : List Value)
  (hu : P.underlying dT = some (.slice elem)) (hs : (P.info? elem).map (·.size) = some sz)
  (hg : w.heap[g]? = some (.cells cur t (0, 0))) (hn : cs.length = Nat.min sLen dLen * sz)
  (hsrc : ∀ j v, cs[j]? = some v → w.cell? (a.add j) = some v) (hfit : o + cs.length ≤ cur.size) (h1 : ∀ v ∈ cs, v.oneCell' = true) :
  (Builtin.copy_ #[dT, sT] ty #[.slice (some ⟨g, o, none⟩) dLen dCap, .slice (some a) sLen sCap]).run P w =
   .ok (goInt (Nat.min sLen dLen : Nat)) (w.setRow g (cur.toList.take o ++ cs ++ cur.toList.drop (o + cs.length)).toArray) := by
 have hl := run_loadCells_list (P := P) w a cs hsrc; have hst := run_storeCells_at P g o t cs 0 cur w hg (by simpa using hfit) h1; rw [hn] at hl
 cases hq : P.info? elem with
 | none => simp [hq] at hs
 | some i =>
  have hi : i.size = sz := by simpa [hq] using hs
  simp [Builtin.copy_, run_underlying hu, Builtin.lenOf, Builtin.firstCells, sizeOf, typeInfo, hq, hi, hl, hst]
theorem flat_one2 {α : Type} {enc : α → List Value} {xs : List α} (h : ∀ y, ∀ u ∈ enc y, u.oneCell' = true) : ∀ u ∈ xs.flatMap enc, u.oneCell' = true := by
 intro u hu
 obtain ⟨y, _, hy⟩ := List.mem_flatMap.1 hu; exact h y u hy
theorem sizeCe2 : (Tryz.prog.info? 47).map (·.size) = some 11 := by kernel_rfl
theorem addr_add (g o j : Nat) : (⟨g, o, none⟩ : Addr).add j = ⟨g, o + j, none⟩ := by
 unfold Addr.add
 split
 ·rename_i h; rw [h, Nat.add_zero]
 ·rfl
def DecT (w : World) : Prop := Lib.Utf8Tabs (Tryz.lays197_ren.g 3) (Tryz.lays197_ren.g 4) w
theorem DecT.below {w w' : World} {B : Nat} (h : DecT w) (hb : Below B w w') (hB : w.heap.size ≤ B) : DecT w' := by
 unfold DecT Lib.Utf8Tabs at *; refine ⟨fun c hc => ?_, fun i hi => ⟨?_, ?_⟩⟩
 ·have h1 := h.1 c hc
  have := World.block_lt_of_cell? w _ h1; exact (hb.cell (by show _ < B; omega)).trans h1
 ·have h1 := (h.2 i hi).1
  have := World.block_lt_of_cell? w _ h1; exact (hb.cell (by show _ < B; omega)).trans h1
 ·have h1 := (h.2 i hi).2
  have := World.block_lt_of_cell? w _ h1; exact (hb.cell (by show _ < B; omega)).trans h1
theorem KeptBut.setRow {X : Nat → Prop} {A B : World} (h : KeptBut X A B) (g : Nat) (cs : Array Value) (hg : X g) : KeptBut X A (B.setRow g cs) :=
 h.trans ⟨rfl, rfl, rfl, by simp, fun k _ hx => setRow_other B g k cs (fun e => hx (e ▸ hg))⟩
theorem Blk.setRow_ne {w : World} {b g : Nat} {cs : List Value} {t : TypeId} (h : Blk w b cs t) (hg : b ≠ g) (rs : Array Value) : Blk (w.setRow g rs) b cs t := (setRow_other w g b rs hg).trans h
theorem flatC_take (cs : List Ce) (i : Nat) : (cs.flatMap Ce.enc).take (i * 11) = (cs.take i).flatMap Ce.enc := by
 induction cs generalizing i with
 | nil => simp
 | cons c r ih =>
  cases i with
  | zero => simp
  | succ i =>
   rw [List.flatMap_cons, List.take_succ_cons, List.flatMap_cons, ← ih i, Nat.add_mul, Nat.one_mul, Nat.add_comm (i * 11) 11, ← Ce.enc_len c, List.take_length_add_append]
theorem flatC_drop (cs : List Ce) (i : Nat) : (cs.flatMap Ce.enc).drop (i * 11) = (cs.drop i).flatMap Ce.enc := by
 induction cs generalizing i with
 | nil => simp
 | cons c r ih =>
  cases i with
  | zero => simp
  | succ i =>
   rw [List.flatMap_cons, List.drop_succ_cons, ← ih i, Nat.add_mul, Nat.one_mul, Nat.add_comm (i * 11) 11, ← Ce.enc_len c, List.drop_length_add_append]
theorem OwnsC.open_ {base : Nat} {w : World} {v : Value} {cs : List Ce} (h : OwnsC base w v cs) (h0 : 0 < cs.length) :
  ∃ g cap cur, v = .slice (some ⟨g, 0, none⟩) cs.length cap ∧ base ≤ g ∧ w.heap[g]? = some (.cells cur 47 (0, 0)) ∧ cs.length ≤ cap ∧ cap ≤ maxLen ∧ cap * 11 = cur.size ∧ cur.toList.take (cs.length * 11) = cs.flatMap Ce.enc := by
 rcases h.2 with ⟨_, h1⟩ | ⟨g, cap, cur, hv, hb, hg, hc, hm, hs, ht⟩
 ·omega
 ·exact ⟨g, cap, cur, hv, hb, hg, hc, hm, by first | exact hs | exact hs.symm | omega, ht⟩
theorem OwnsC.splice {base : Nat} {w : World} {g cap : Nat} {cur : Array Value} {cs p : List Ce} {i : Nat} (hb : base ≤ g) (hg : w.heap[g]? = some (.cells cur 47 (0, 0))) (hc : cs.length ≤ cap) (hm : cap ≤ maxLen) (hs : cap * 11 = cur.size)
  (ht : cur.toList.take (cs.length * 11) = cs.flatMap Ce.enc) (hi : i + p.length ≤ cs.length) :
  OwnsC base (w.setRow g (cur.toList.take (i * 11) ++ p.flatMap Ce.enc ++ cur.toList.drop (i * 11 + (p.flatMap Ce.enc).length)).toArray) (.slice (some ⟨g, 0, none⟩) cs.length cap) (splC cs i p) := by
 have hpl : (p.flatMap Ce.enc).length = p.length * 11 := by rw [flat_len Ce.enc_len]
 have hcl : cur.toList.length = cap * 11 := by rw [hs]; simp
 have e1 : cur.toList.take (i * 11) = (cs.take i).flatMap Ce.enc := by
  rw [← flatC_take, ← ht, List.take_take, Nat.min_eq_left (by omega)]
 have e2 : (cur.toList.drop (i * 11 + p.length * 11)).take (cs.length * 11 - (i * 11 + p.length * 11)) = (cs.drop (i + p.length)).flatMap Ce.enc := by
  rw [← flatC_drop, ← ht, Nat.add_mul, List.drop_take]
 have hl : (splC cs i p).length = cs.length := splC_len hi; unfold OwnsC; rw [hl]; refine ⟨by rw [flat_len Ce.enc_len, hl], .inr ⟨g, cap, _, rfl, hb, setRow_heap w g cur _ _ _ hg, hc, hm, ?_, ?_⟩⟩
 ·simp only [List.size_toArray, List.length_append, List.length_take, List.length_drop, hpl, hcl]
  have : i * 11 + p.length * 11 ≤ cap * 11 := by omega
  omega
 ·rw [List.toList_toArray, hpl]
  have hli : (cur.toList.take (i * 11) ++ p.flatMap Ce.enc).length = i * 11 + p.length * 11 := by rw [List.length_append, List.length_take, hpl, hcl]; omega
  rw [List.take_append, hli, List.take_of_length_le (by rw [hli]; omega), e2, e1]; unfold splC; rw [List.flatMap_append, List.flatMap_append]
def cellN (r : Option (List Ce × Tm × Nat)) : Int := match r with | none => 0 | some (_, _, n) => n
def cellC (cs : List Ce) (r : Option (List Ce × Tm × Nat)) : List Ce := match r with | none => cs | some (c, _, _) => c
def cellT (t : Tm) (r : Option (List Ce × Tm × Nat)) : Tm := match r with | none => t | some (_, t', _) => t'
def TmO (base b : Nat) (wd ht : Int) (v : Value) (cs : List Ce) (t : Tm) (w : World) : Prop := Blk w b (tmC wd ht v t) 167 ∧ OwnsC base w v cs
theorem wid3 (r : Int) : widR r = 0 ∨ widR r = 1 ∨ widR r = 2 := by have := widR_bd r; omega
theorem cellP_eq (wd ht : Int) (cs : List Ce) (t : Tm) (c : UInt8) (r : List UInt8) : cellP wd ht cs t (c :: r) =
  if (Lib.decodeGo (strL ((c :: r).drop (skipP c)))).1 = 65533 ∧ (Lib.decodeGo (strL ((c :: r).drop (skipP c)))).2 < 3 then none else
  if putL (halfP c) (Lib.decodeGo (strL ((c :: r).drop (skipP c)))).1 t.col t.back = [] ∨ plcS wd ht t.x t.y = false ∨ wd - t.x < (putL (halfP c) (Lib.decodeGo (strL ((c :: r).drop (skipP c)))).1 t.col t.back).length then none
  else some (splC cs (t.y * wd + t.x).toNat (putL (halfP c) (Lib.decodeGo (strL ((c :: r).drop (skipP c)))).1 t.col t.back), { t with x := t.x + (putL (halfP c) (Lib.decodeGo (strL ((c :: r).drop (skipP c)))).1 t.col t.back).length }, skipP c + (Lib.decodeGo (strL ((c :: r).drop (skipP c)))).2) := rfl
theorem strL_get (c : UInt8) (r : List UInt8) : bAt (strL (c :: r)) 0 = c.toNat := by
 rw [← bAt_eq (s := strL (c :: r)) (i := 0) (by rw [strL_size]; simp)]
 simp [strL]
 rfl
set_option maxRecDepth 100000 in
theorem rcell_no (wd ht : Int) (cs : List Ce) (v : Value) (t : Tm) (c : UInt8) (r : List UInt8) (b base : Nat) (w : World) (hh : c ≠ 14 ∧ c ≠ 15) (hB : Blk w b (tmC wd ht v t) 167) (hv : OwnsC base w v cs) (hfit : fitsS wd ht = true) (hlen : (cs.length : Int) = wd * ht) (hl : r.length < 1048576) (hD : DecT w) :
  Calls Tryz.prog 113 #[.pointer (some ⟨b, 0, none⟩), .string (strL (c :: r))] w fun e w' => e = .returned (.int .i64 (cellN (cellP wd ht cs t (c :: r)))) ∧
   TmO base b wd ht v (cellC cs (cellP wd ht cs t (c :: r))) (cellT t (cellP wd ht cs t (c :: r))) w' ∧ KeptBut (fun k => k = b ∨ v.ownBlock = some k) w w' := by
 have hc0 := strL_get c r; have hP := cellP_eq wd ht cs t c r
 have hH : halfP c = 0 := by ((first | (unfold halfP) | (unfold skipP)); rw [if_neg (fun h => h.elim hh.1 hh.2)])
 have hK : skipP c = 0 := by ((first | (unfold halfP) | (unfold skipP)); rw [if_neg (fun h => h.elim hh.1 hh.2)])
 have hdr := strL_from (c :: r) 0 rfl; rw [hH, hK] at hP; obtain ⟨S, hS⟩ := exx (strL (c :: r))
 have hz : S.size = r.length + 1 := by rw [← hS]; exact strL_size _
 obtain ⟨S2, hS2⟩ := exx (strL ((c :: r).drop 0)); rw [hS] at hc0 hdr ⊢; rw [hS2] at hP hdr; have hd1 := dec1 S2
 have hdv : Lib.decodeGo S2 = (65533, 0) ∨ validR ((Lib.decodeGo S2).1 : Int) = true := by
  unfold Lib.decodeGo
  split
  ·exact .inl rfl
  ·exact .inr (dec_valid S2 0)
 have DE := YtfcphagmjijmkaaGreatDoor.decR S2 w hD; obtain ⟨rn, k, hrk⟩ : ∃ rn k, Lib.decodeGo S2 = (rn, k) := ⟨_, _, rfl⟩; rw [hrk] at DE hP hd1 hdv; dsimp only at DE hP hd1 hdv
 have hs2 : S2.size ≤ 1048576 := by rw [← hS2, strL_size, List.length_drop]; simp only [List.length_cons]; omega
 have X1 := bAt_eq (s := S) (i := 0) (by omega); rw [List.length_cons] at hdr; rw [← hdr] at DE; obtain ⟨N, hN⟩ := exx (r.length); rw [hN] at hz DE hl; obtain ⟨RES, hRES⟩ := exx (cellP wd ht cs t (c :: r)); rw [hRES] at hP ⊢; obtain ⟨tx, ty, ⟨c0, c1, c2, c3⟩, ⟨d0, d1, d2, d3⟩⟩ := t; dsimp only at hP
 (have q14 : ((c.toNat : Int) == 14) = false := (by simp; intro h; exact hh.1 (UInt8.toNat_inj.1 (by show c.toNat = 14; omega))); have q15 : ((c.toNat : Int) == 15) = false := (by simp; intro h; exact hh.2 (UInt8.toNat_inj.1 (by show c.toNat = 15; omega))))
 have yb := hB.lt
 have hk4 : k ≤ 1048576 := by
  rcases hd1 with h | h
  ·omega
  ·omega
 have hrn : rn ≤ 1114111 := by
  rcases hdv with h | h
  ·injection h with h1 h2; omega
  ·unfold validR at h; simp only [Bool.or_eq_true, Bool.and_eq_true, decide_eq_true_eq] at h; omega
 clear hS hRES hrk hH hK hD hdr hS2 hs2 hd1 hdv; replace DE := hdh DE; replace hB := hdh hB; replace hv := hdh hv; replace hP := hdh hP
 have hrn0 : 0 ≤ (rn : Int) ∧ (rn : Int) ≤ 1114111 := by omega
 have hdi : (rn = 65533 ∧ k < 3) ↔ ((rn : Int) = 65533 ∧ k < 3) := by omega
 replace hP := hP.out; simp only [hdi] at hP; replace DE := DE.out; obtain ⟨R, hR⟩ : ∃ R : Int, (rn : Int) = R := ⟨_, rfl⟩; rw [hR] at hP DE hrn0; clear hdi hrn hR; replace DE := hdh DE; replace hP := hdh hP; have WD := hdh (fun w => width_any R w); have CI := hdh (fun w => cindex_any wd ht tx ty v w hfit)
 go_enter Tryz.func113, Tryz.ntmps113
 by_cases hdead : R = 65533 ∧ k < 3
 ·have hRN : RES = none := by have h := hP.out; rwa [if_pos hdead] at h
  subst hRN
  have u1 : (R == 65533) = true := by rw [hdead.1]; rfl
  have u2 : ((k : Nat) : Int) < 3 := by omega
  go_upto_region 6 with (go_at_call 152; (with_reducible refine cmm (DE.out) fun w1 hb1 => ?_))
  go_wp2; go_ret; exact ⟨rfl, ⟨hB.out.below hb1 yb, hv.out.below hb1 lrr⟩, (KeptBut.refl _ _).below hb1⟩
 ·have hP2 := hP.out
  rw [if_neg hdead] at hP2
  by_cases r1 : R = 65533
  ·have u1 : (R == 65533) = true := by rw [r1]; rfl
   have u2 : ¬ ((k : Nat) : Int) < 3 := by omega
   have hwd : widR R = 1 := by rw [r1]; decide
   clear r1; clear hdead hP; replace hP2 := hdh hP2
   go_upto_region 8 with (go_at_call 152; (with_reducible refine cmm (DE.out) fun w1 hb1 => ?_))
   have BT1 := hB.out.below hb1 yb; have hv1 := hv.out.below hb1 lrr; have K1 : Below w.heap.size w w1 := hb1; have j5 := BT1.cell (o := 5) rfl; have j6 := BT1.cell (o := 6) rfl; have j7 := BT1.cell (o := 7) rfl; have j8 := BT1.cell (o := 8) rfl; have j9 := BT1.cell (o := 9) rfl; have j10 := BT1.cell (o := 10) rfl; have j11 := BT1.cell (o := 11) rfl; have j12 := BT1.cell (o := 12) rfl; have yb1 := BT1.lt; replace BT1 := hdh BT1; replace hv1 := hdh hv1; replace K1 := hdh K1; clear hb1 hB hv DE; refine wp_region_tame (Held w1 0 []) (fun _ => .cells #[.int .i32 0, .int .u8 0, .int .u8 0, .int .u8 0, .int .u8 0, .int .u8 0, .int .u8 0, .int .u8 0, .int .u8 0, .bool false, .bool false] 47 (0, 0)) (w1.heap.size + 0) 10 11 (by kernel_rfl) (by kernel_rfl) (by omega) (by decide) (by kernel_rfl) (by kernel_rfl) (Held.stab _ _ _) (by (try simp) <;> omega) ⟨belt, (by (try simp) <;> omega), (by first | exact trivial | (simp only [Cells]; go_simp))⟩ ?_
   simp only [List.take_succ_cons, List.take_zero, List.drop_succ_cons, List.drop_zero]
   repeat (first | (refine' wpStB_do _ _ _; rotate_left; (focus rfl); (focus (intro w1 hS R hR; have hc := hS.cells; simp only [Cells] at hc; obtain ⟨hco, hfo⟩ := bcell hS.old; go_simp; (try go_bits); first | exact hR _ (Below.refl _ _) | fail)); simp only [pu]) | (refine wpStB_pass ?_ ?_; (focus rfl); simp only [pu]))
   refine wpStB_nil ?_
   (refine wpNews_do rfl (by intro w1 hS R hR; go_simp; exact hR) ?_; intro b9 hnb9; simp only [pu]; simp only [ptrTo])
   refine wpNews_nil ?_
   intro w9 hS hU hN
   have hl9 : b9 < w9.heap.size := hN b9 (.inr rfl); have hk9 : w1.heap.size ≤ b9 := Nat.le_of_not_lt hnb9; have B9 : Blk w9 b9 [.int .i32 0, .int .u8 0, .int .u8 0, .int .u8 0, .int .u8 0, .int .u8 0, .int .u8 0, .int .u8 0, .int .u8 0, .bool false, .bool false] 47 := hU.2; have hb9 : Below w1.heap.size w1 w9 := hS.old; clear hS hU hN; obtain ⟨k0, k1, k2, k3, k4, k5, k6, k7, k8, k9, k10⟩ := B9.c11; have kf := B9.free
   go_upto_region 10 with fail
   have B3 := Blk.put11 B9 rfl (.int .i32 R) (.int .u8 c0) (.int .u8 c1) (.int .u8 c2) (.int .u8 c3) (.int .u8 d0) (.int .u8 d1) (.int .u8 d2) (.int .u8 d3) (.bool false) (.bool false); have hb3 := put11_below hb9 hk9 (.int .i32 R) (.int .u8 c0) (.int .u8 c1) (.int .u8 c2) (.int .u8 c3) (.int .u8 d0) (.int .u8 d1) (.int .u8 d2) (.int .u8 d3) (.bool false) (.bool false); obtain ⟨W3, hW3⟩ := exx ((((((((((((w9).setCell ⟨b9, 0, none⟩ (.int .i32 R)).setCell ⟨b9, 1, none⟩ (.int .u8 c0)).setCell ⟨b9, 2, none⟩ (.int .u8 c1)).setCell ⟨b9, 3, none⟩ (.int .u8 c2)).setCell ⟨b9, 4, none⟩ (.int .u8 c3)).setCell ⟨b9, 5, none⟩ (.int .u8 d0)).setCell ⟨b9, 6, none⟩ (.int .u8 d1)).setCell ⟨b9, 7, none⟩ (.int .u8 d2)).setCell ⟨b9, 8, none⟩ (.int .u8 d3)).setCell ⟨b9, 9, none⟩ (.bool false)).setCell ⟨b9, 10, none⟩ (.bool false))
   rw [hW3] at B3 hb3 ⊢; clear hW3 B9 hb9 k0 k1 k2 k3 k4 k5 k6 k7 k8 k9 k10 kf hl9 hk9 hnb9 j5 j6 j7 j8 j9 j10 j11 j12; have BT3 := BT1.out.below hb3 yb1; have hv3 := hv1.out.below hb3 lrr; have K3 : Below w.heap.size w W3 := K1.out.trans (hb3.mono K1.out.size); have y3 := B3.lt; have yb3 := BT3.lt; replace BT3 := hdh BT3; replace hv3 := hdh hv3; replace K3 := hdh K3; clear hb3 BT1 hv1 K1 yb1; have WD2 := WD.out; simp only [hwd] at WD2; replace WD2 := hdh WD2; clear WD
   go_upto_region 24 with (go_at_call 99; (with_reducible refine cmm (WD2.out _) fun w4 hb4 => ?_); have B4 := B3.below hb4 y3; have k0 := B4.cell (o := 0) rfl; have k1 := B4.cell (o := 1) rfl; have k2 := B4.cell (o := 2) rfl; have k3 := B4.cell (o := 3) rfl; have k4 := B4.cell (o := 4) rfl; have k5 := B4.cell (o := 5) rfl; have k6 := B4.cell (o := 6) rfl; have k7 := B4.cell (o := 7) rfl; have k8 := B4.cell (o := 8) rfl; have k9 := B4.cell (o := 9) rfl; have k10 := B4.cell (o := 10) rfl; have y4 := B4.lt)
   obtain ⟨W5, hW5⟩ := exx (w4.alloc (.cells #[.int .i32 R, .int .u8 c0, .int .u8 c1, .int .u8 c2, .int .u8 c3, .int .u8 d0, .int .u8 d1, .int .u8 d2, .int .u8 d3, .bool false, .bool false] 47)); obtain ⟨pb, hpb⟩ := exx (w4.heap.size)
   have BP : Blk W5 pb [.int .i32 R, .int .u8 c0, .int .u8 c1, .int .u8 c2, .int .u8 c3, .int .u8 d0, .int .u8 d1, .int .u8 d2, .int .u8 d3, .bool false, .bool false] 47 := by rw [← hW5]; exact Blk.new' hpb.symm
   have hb5 : Below W3.heap.size W3 W5 := by rw [← hW5]; exact hb4.alloc hb4.size _
   rw [hW5, hpb]; clear hW5 hpb B3 B4 y3 y4 k0 k1 k2 k3 k4 k5 k6 k7 k8 k9 k10 hb4; have BT4 := BT3.out.below hb5 yb3; have hv4 := hv3.out.below hb5 lrr; have K4 : Below w.heap.size w W5 := K3.out.trans (hb5.mono K3.out.size); have yb4 := BT4.lt; have j0 := BT4.cell (o := 0) rfl; have j1 := BT4.cell (o := 1) rfl; have j2 := BT4.cell (o := 2) rfl; have j3 := BT4.cell (o := 3) rfl; have j4 := BT4.cell (o := 4) rfl; replace BT4 := hdh BT4; replace hv4 := hdh hv4; replace K4 := hdh K4; clear BT3 hv3 K3 yb3 hb5; replace hP2 := hP2.out
   have hPL : putL 0 R ⟨c0, c1, c2, c3⟩ ⟨d0, d1, d2, d3⟩ = [⟨R, ⟨c0, c1, c2, c3⟩, ⟨d0, d1, d2, d3⟩, false, false⟩] := by unfold putL; rw [hwd]; rfl
   rw [hPL] at hP2; have hmP : (([⟨R, ⟨c0, c1, c2, c3⟩, ⟨d0, d1, d2, d3⟩, false, false⟩] : List Ce).length : Int) = 1 := rfl; rw [hmP] at hP2
   cases hpl : plcS wd ht tx ty
   ·have hRN : RES = none := by rwa [if_pos (.inr (.inl hpl))] at hP2
    subst hRN; have CI2 := CI.out
    have hi1 : idxS wd ht tx ty = -1 := by unfold idxS; rw [hpl]; rfl
    simp only [hi1] at CI2; replace CI2 := hdh CI2; clear CI hi1; refine rst (Held W5 0 []) ?_
    repeat (first | (refine' wpSteady_do _ _ _; rotate_left; (focus rfl); (focus (intro w1 hS R hR; have hc := hS.cells; simp only [Cells] at hc; obtain ⟨hco, hfo⟩ := bcell hS.old; go_simp; (try go_bits); first | exact hR _ hS | (go_at_call 153; (with_reducible refine cmm (CI2.out _) fun w2 hb2 => ?_); exact ⟨_, rfl, hR _ (hS.below hb2)⟩))); simp only [pu]) | (refine spa ?_; simp only [pu]))
    refine wpSteady_nil (fun uI hSI => ?_); obtain ⟨hcI, hbI, hzI, hcoI, hfoI⟩ := hall hSI; clear hSI; simp only [Cells] at hcI
    have ybI : b < uI.heap.size := by have := hbI.size; omega
    go_upto_region 25 with fail
    refine rst (Held uI 0 []) ?_
    repeat (first | (refine' sdo ?_; simp only [pu]) | (refine spa ?_; simp only [pu]))
    refine wpSteady_nil (fun uJ hSJ => ?_); obtain ⟨hcJ, hbJ, hzJ, hcoJ, hfoJ⟩ := hall hSJ; clear hSJ; simp only [Cells] at hcJ; have hbIJ := hbI.trans (hbJ.mono hbI.size); go_wp2; go_ret; exact ⟨rfl, ⟨BT4.out.below hbIJ yb4, hv4.out.below hbIJ lrr⟩, (KeptBut.refl _ _).below (K4.out.trans (hbIJ.mono K4.out.size))⟩
   ·obtain ⟨p1, p2, p3, p4⟩ := plcS_true.1 hpl
    obtain ⟨z0, z1, z2, z3, z4⟩ := fitsS_true.1 hfit; obtain ⟨e1, e2⟩ := row_end z0 p2 p4; obtain ⟨I, hI⟩ : ∃ I : Nat, ty * wd + tx = I := ⟨(ty * wd + tx).toNat, by omega⟩; have CI2 := CI.out
    have hi1 : idxS wd ht tx ty = I := by unfold idxS; rw [hpl, ← hI]; rfl
    simp only [hi1] at CI2; rw [hI, Int.toNat_natCast] at hP2
    have hIn : I < cs.length := by omega
    obtain ⟨g, cap, cur, hve, hgb, hgh, hcc, hcm, hcs, hct⟩ := hv4.out.open_ (by omega); obtain ⟨n, hn⟩ := exx (cs.length)
    have hroom : I + (wd - tx).toNat ≤ n := by omega
    rw [hn] at hve hIn hcc; unfold maxLen at hcm; subst hve
    have gb : b ≠ g := by
     rintro rfl
     have h := BT4.out; unfold Blk at h; rw [hgh] at h
     injection h with h
     injection h with _ h2 _
     exact absurd h2 (by decide)
    have yg := (Array.getElem?_eq_some_iff.1 hgh).1; replace CI2 := hdh CI2; replace hI := hdh hI; clear CI hi1 e1 e2; refine rst (Held W5 0 []) ?_
    repeat (first | (refine' wpSteady_do _ _ _; rotate_left; (focus rfl); (focus (intro w1 hS R hR; have hc := hS.cells; simp only [Cells] at hc; obtain ⟨hco, hfo⟩ := bcell hS.old; go_simp; (try go_bits); first | exact hR _ hS | (go_at_call 153; (with_reducible refine cmm (CI2.out _) fun w2 hb2 => ?_); exact ⟨_, rfl, hR _ (hS.below hb2)⟩))); simp only [pu]) | (refine spa ?_; simp only [pu]))
    refine wpSteady_nil (fun uI hSI => ?_); obtain ⟨hcI, hbI, hzI, hcoI, hfoI⟩ := hall hSI; clear hSI; simp only [Cells] at hcI
    have ybI : b < uI.heap.size := by have := hbI.size; omega
    go_upto_region 25 with fail
    by_cases hrm : wd - tx < 1
    ·have hRN : RES = none := by rwa [if_pos (.inr (.inr hrm))] at hP2
     subst hRN; refine rst (Held uI 0 []) ?_
     repeat (first | (refine' sdo ?_; simp only [pu]) | (refine spa ?_; simp only [pu]))
     refine wpSteady_nil (fun uJ hSJ => ?_); obtain ⟨hcJ, hbJ, hzJ, hcoJ, hfoJ⟩ := hall hSJ; clear hSJ; simp only [Cells] at hcJ; have hbIJ := hbI.trans (hbJ.mono hbI.size); go_wp2; go_ret; exact ⟨rfl, ⟨BT4.out.below hbIJ yb4, hv4.out.below hbIJ lrr⟩, (KeptBut.refl _ _).below (K4.out.trans (hbIJ.mono K4.out.size))⟩
    ·have hPn : ([⟨R, ⟨c0, c1, c2, c3⟩, ⟨d0, d1, d2, d3⟩, false, false⟩] : List Ce) ≠ [] := by simp
     rw [if_neg (fun h => h.elim hPn (fun h => h.elim (fun h => by rw [hpl] at h; cases h) hrm))] at hP2; subst hP2
     have hIm : I + 1 ≤ n := by omega
     refine rst (Held uI 0 []) ?_
     repeat (first | (refine' sdo ?_; simp only [pu]) | (refine spa ?_; simp only [pu]))
     refine wpSteady_nil (fun uJ hSJ => ?_); obtain ⟨hcJ, hbJ, hzJ, hcoJ, hfoJ⟩ := hall hSJ; clear hSJ; simp only [Cells] at hcJ; have hbIJ := hbI.trans (hbJ.mono hbI.size)
     have yb5 : b < uJ.heap.size := by have := hbJ.size; omega
     have yg5 : g < uJ.heap.size := by have := hbIJ.size; omega
     have hIi : (I : Int) ≤ n := by omega
     have hIc : ¬ cap = I := by omega
     go_upto_region 27 with fail
     have hgJ := (hbIJ.block g yg).trans hgh; have BPJ := BP.below hbIJ BP.lt
     have hr := run_copy_rows (P := Tryz.prog) uJ 38 38 3 47 11 g (I * 11) (n - I) (cap - I) ⟨pb, 0, none⟩ 1 1 cur 47 (([⟨R, ⟨c0, c1, c2, c3⟩, ⟨d0, d1, d2, d3⟩, false, false⟩] : List Ce).flatMap Ce.enc) Tryz.underlying38 sizeCe2 hgJ
      (by rw [flat_len Ce.enc_len, show Nat.min 1 (n - I) = 1 from Nat.min_eq_left (by omega)]; rfl) (fun j u h => by
       have := BPJ.cell (o := 0 + j) (v := u) (by rw [← h, ← List.getElem?_drop]; exact List.getElem?_append_left (l₂ := ([] : List Value)) (List.getElem?_eq_some_iff.1 h).1); rw [addr_add]
       exact this) (by rw [flat_len Ce.enc_len]; show I * 11 + 1 * 11 ≤ cur.size; omega) (flat_one2 Ce.enc_one)
     rw [show Nat.min 1 (n - I) = 1 from Nat.min_eq_left (by omega)] at hr; have OC := OwnsC.splice (p := [⟨R, ⟨c0, c1, c2, c3⟩, ⟨d0, d1, d2, d3⟩, false, false⟩]) (i := I) (cs := cs) hgb hgJ (by rw [hn]; exact hcc) (by unfold maxLen; exact hcm) hcs hct (by rw [hn]; exact hIm); rw [hn] at OC; obtain ⟨w6, hw6⟩ := exx (uJ.setRow g (cur.toList.take (I * 11) ++ ([⟨R, ⟨c0, c1, c2, c3⟩, ⟨d0, d1, d2, d3⟩, false, false⟩] : List Ce).flatMap Ce.enc ++ cur.toList.drop (I * 11 + (([⟨R, ⟨c0, c1, c2, c3⟩, ⟨d0, d1, d2, d3⟩, false, false⟩] : List Ce).flatMap Ce.enc).length)).toArray); rw [hw6] at hr OC
     have BT6 : Blk w6 b (tmC wd ht (.slice (some ⟨g, 0, none⟩) n cap) ⟨tx, ty, ⟨c0, c1, c2, c3⟩, ⟨d0, d1, d2, d3⟩⟩) 167 := by rw [← hw6]; exact (BT4.out.below hbIJ yb4).setRow_ne gb _
     have K6 : KeptBut (fun q => q = b ∨ (Value.slice (some ⟨g, 0, none⟩) n cap).ownBlock = some q) w w6 := by rw [← hw6]; exact ((KeptBut.refl _ w).below (K4.out.trans (hbIJ.mono K4.out.size))).setRow g _ (.inr rfl)
     clear hw6
     go_upto_region 28 with (refine wpList_copy_runI uJ rfl _ _ _ _ rfl _ _ (by rfl) (by rfl) hr ?_)
     have t3 := BT6.cell (o := 3) rfl; have f3 := BT6.free 3; have yb6 := BT6.lt; replace BT6 := hdh BT6; replace K6 := hdh K6; replace OC := hdh OC; clear hr hbIJ hcoJ hfoJ hcoI hfoI hcJ hcI hgJ BPJ; go_wp2; go_ret; refine ⟨?_, ⟨BT6.out.set 3 _, own_other OC.out (fun q hq => ?_) _⟩, K6.out.setCell ⟨b, 3, none⟩ _ (.inl rfl)⟩
     ·first
       | rfl
       | exact congrArg (fun z => Ending.returned (.int .i64 z)) (by omega)
     ·have e : g = q := by simpa [Value.ownBlock] using hq
      rw [← e]; exact Ne.symm gb
  ·have u1 : (R == 65533) = false := by simp; omega
   clear r1; clear hdead hP; replace hP2 := hdh hP2
   go_upto_region 8 with (go_at_call 152; (with_reducible refine cmm (DE.out) fun w1 hb1 => ?_))
   have BT1 := hB.out.below hb1 yb; have hv1 := hv.out.below hb1 lrr; have K1 : Below w.heap.size w w1 := hb1; have j5 := BT1.cell (o := 5) rfl; have j6 := BT1.cell (o := 6) rfl; have j7 := BT1.cell (o := 7) rfl; have j8 := BT1.cell (o := 8) rfl; have j9 := BT1.cell (o := 9) rfl; have j10 := BT1.cell (o := 10) rfl; have j11 := BT1.cell (o := 11) rfl; have j12 := BT1.cell (o := 12) rfl; have yb1 := BT1.lt; replace BT1 := hdh BT1; replace hv1 := hdh hv1; replace K1 := hdh K1; clear hb1 hB hv DE; refine wp_region_tame (Held w1 0 []) (fun _ => .cells #[.int .i32 0, .int .u8 0, .int .u8 0, .int .u8 0, .int .u8 0, .int .u8 0, .int .u8 0, .int .u8 0, .int .u8 0, .bool false, .bool false] 47 (0, 0)) (w1.heap.size + 0) 10 11 (by kernel_rfl) (by kernel_rfl) (by omega) (by decide) (by kernel_rfl) (by kernel_rfl) (Held.stab _ _ _) (by (try simp) <;> omega) ⟨belt, (by (try simp) <;> omega), (by first | exact trivial | (simp only [Cells]; go_simp))⟩ ?_
   simp only [List.take_succ_cons, List.take_zero, List.drop_succ_cons, List.drop_zero]
   repeat (first | (refine' wpStB_do _ _ _; rotate_left; (focus rfl); (focus (intro w1 hS R hR; have hc := hS.cells; simp only [Cells] at hc; obtain ⟨hco, hfo⟩ := bcell hS.old; go_simp; (try go_bits); first | exact hR _ (Below.refl _ _) | fail)); simp only [pu]) | (refine wpStB_pass ?_ ?_; (focus rfl); simp only [pu]))
   refine wpStB_nil ?_
   (refine wpNews_do rfl (by intro w1 hS R hR; go_simp; exact hR) ?_; intro b9 hnb9; simp only [pu]; simp only [ptrTo])
   refine wpNews_nil ?_
   intro w9 hS hU hN
   have hl9 : b9 < w9.heap.size := hN b9 (.inr rfl); have hk9 : w1.heap.size ≤ b9 := Nat.le_of_not_lt hnb9; have B9 : Blk w9 b9 [.int .i32 0, .int .u8 0, .int .u8 0, .int .u8 0, .int .u8 0, .int .u8 0, .int .u8 0, .int .u8 0, .int .u8 0, .bool false, .bool false] 47 := hU.2; have hb9 : Below w1.heap.size w1 w9 := hS.old; clear hS hU hN; obtain ⟨k0, k1, k2, k3, k4, k5, k6, k7, k8, k9, k10⟩ := B9.c11; have kf := B9.free
   go_upto_region 10 with fail
   have B3 := Blk.put11 B9 rfl (.int .i32 R) (.int .u8 c0) (.int .u8 c1) (.int .u8 c2) (.int .u8 c3) (.int .u8 d0) (.int .u8 d1) (.int .u8 d2) (.int .u8 d3) (.bool false) (.bool false); have hb3 := put11_below hb9 hk9 (.int .i32 R) (.int .u8 c0) (.int .u8 c1) (.int .u8 c2) (.int .u8 c3) (.int .u8 d0) (.int .u8 d1) (.int .u8 d2) (.int .u8 d3) (.bool false) (.bool false); obtain ⟨W3, hW3⟩ := exx ((((((((((((w9).setCell ⟨b9, 0, none⟩ (.int .i32 R)).setCell ⟨b9, 1, none⟩ (.int .u8 c0)).setCell ⟨b9, 2, none⟩ (.int .u8 c1)).setCell ⟨b9, 3, none⟩ (.int .u8 c2)).setCell ⟨b9, 4, none⟩ (.int .u8 c3)).setCell ⟨b9, 5, none⟩ (.int .u8 d0)).setCell ⟨b9, 6, none⟩ (.int .u8 d1)).setCell ⟨b9, 7, none⟩ (.int .u8 d2)).setCell ⟨b9, 8, none⟩ (.int .u8 d3)).setCell ⟨b9, 9, none⟩ (.bool false)).setCell ⟨b9, 10, none⟩ (.bool false))
   rw [hW3] at B3 hb3 ⊢; clear hW3 B9 hb9 k0 k1 k2 k3 k4 k5 k6 k7 k8 k9 k10 kf hl9 hk9 hnb9 j5 j6 j7 j8 j9 j10 j11 j12; have BT3 := BT1.out.below hb3 yb1; have hv3 := hv1.out.below hb3 lrr; have K3 : Below w.heap.size w W3 := K1.out.trans (hb3.mono K1.out.size); have y3 := B3.lt; have yb3 := BT3.lt; replace BT3 := hdh BT3; replace hv3 := hdh hv3; replace K3 := hdh K3; clear hb3 BT1 hv1 K1 yb1
   rcases wid3 R with hwd | hwd | hwd
   ·have WD2 := WD.out
    simp only [hwd] at WD2; replace WD2 := hdh WD2; clear WD
    have hRN : RES = none := by have h := hP2.out; rwa [if_pos (.inl (by unfold putL; rw [hwd]; rfl))] at h
    subst hRN
    go_upto_region 24 with (go_at_call 99; (with_reducible refine cmm (WD2.out _) fun w4 hb4 => ?_))
    have BT4 := BT3.out.below hb4 yb3; have hv4 := hv3.out.below hb4 lrr; have K4 : Below w.heap.size w w4 := K3.out.trans (hb4.mono K3.out.size); have yb4 := BT4.lt; have j0 := BT4.cell (o := 0) rfl; have j1 := BT4.cell (o := 1) rfl; have j2 := BT4.cell (o := 2) rfl; have j3 := BT4.cell (o := 3) rfl; have j4 := BT4.cell (o := 4) rfl; replace BT4 := hdh BT4; replace hv4 := hdh hv4; replace K4 := hdh K4; clear BT3 hv3 K3 yb3 hb4; refine rst (Held w4 0 []) ?_
    repeat (first | (refine' wpSteady_do _ _ _; rotate_left; (focus rfl); (focus (intro w1 hS R hR; have hc := hS.cells; simp only [Cells] at hc; obtain ⟨hco, hfo⟩ := bcell hS.old; go_simp; (try go_bits); first | exact hR _ hS | (go_at_call 153; (with_reducible refine cmm (CI.out _) fun w2 hb2 => ?_); exact ⟨_, rfl, hR _ (hS.below hb2)⟩))); simp only [pu]) | (refine spa ?_; simp only [pu]))
    refine wpSteady_nil (fun uI hSI => ?_); obtain ⟨hcI, hbI, hzI, hcoI, hfoI⟩ := hall hSI; clear hSI; simp only [Cells] at hcI
    have ybI : b < uI.heap.size := by have := hbI.size; omega
    go_upto_region 25 with fail
    refine rst (Held uI 0 []) ?_
    repeat (first | (refine' sdo ?_; simp only [pu]) | (refine spa ?_; simp only [pu]))
    refine wpSteady_nil (fun uJ hSJ => ?_); obtain ⟨hcJ, hbJ, hzJ, hcoJ, hfoJ⟩ := hall hSJ; clear hSJ; simp only [Cells] at hcJ; have hbIJ := hbI.trans (hbJ.mono hbI.size); go_wp2; go_ret; exact ⟨rfl, ⟨BT4.out.below hbIJ yb4, hv4.out.below hbIJ lrr⟩, (KeptBut.refl _ _).below (K4.out.trans (hbIJ.mono K4.out.size))⟩
   ·have WD2 := WD.out
    simp only [hwd] at WD2; replace WD2 := hdh WD2; clear WD
    go_upto_region 24 with (go_at_call 99; (with_reducible refine cmm (WD2.out _) fun w4 hb4 => ?_); have B4 := B3.below hb4 y3; have k0 := B4.cell (o := 0) rfl; have k1 := B4.cell (o := 1) rfl; have k2 := B4.cell (o := 2) rfl; have k3 := B4.cell (o := 3) rfl; have k4 := B4.cell (o := 4) rfl; have k5 := B4.cell (o := 5) rfl; have k6 := B4.cell (o := 6) rfl; have k7 := B4.cell (o := 7) rfl; have k8 := B4.cell (o := 8) rfl; have k9 := B4.cell (o := 9) rfl; have k10 := B4.cell (o := 10) rfl; have y4 := B4.lt)
    obtain ⟨W5, hW5⟩ := exx (w4.alloc (.cells #[.int .i32 R, .int .u8 c0, .int .u8 c1, .int .u8 c2, .int .u8 c3, .int .u8 d0, .int .u8 d1, .int .u8 d2, .int .u8 d3, .bool false, .bool false] 47)); obtain ⟨pb, hpb⟩ := exx (w4.heap.size)
    have BP : Blk W5 pb [.int .i32 R, .int .u8 c0, .int .u8 c1, .int .u8 c2, .int .u8 c3, .int .u8 d0, .int .u8 d1, .int .u8 d2, .int .u8 d3, .bool false, .bool false] 47 := by rw [← hW5]; exact Blk.new' hpb.symm
    have hb5 : Below W3.heap.size W3 W5 := by rw [← hW5]; exact hb4.alloc hb4.size _
    rw [hW5, hpb]; clear hW5 hpb B3 B4 y3 y4 k0 k1 k2 k3 k4 k5 k6 k7 k8 k9 k10 hb4; have BT4 := BT3.out.below hb5 yb3; have hv4 := hv3.out.below hb5 lrr; have K4 : Below w.heap.size w W5 := K3.out.trans (hb5.mono K3.out.size); have yb4 := BT4.lt; have j0 := BT4.cell (o := 0) rfl; have j1 := BT4.cell (o := 1) rfl; have j2 := BT4.cell (o := 2) rfl; have j3 := BT4.cell (o := 3) rfl; have j4 := BT4.cell (o := 4) rfl; replace BT4 := hdh BT4; replace hv4 := hdh hv4; replace K4 := hdh K4; clear BT3 hv3 K3 yb3 hb5; replace hP2 := hP2.out
    have hPL : putL 0 R ⟨c0, c1, c2, c3⟩ ⟨d0, d1, d2, d3⟩ = [⟨R, ⟨c0, c1, c2, c3⟩, ⟨d0, d1, d2, d3⟩, false, false⟩] := by unfold putL; rw [hwd]; rfl
    rw [hPL] at hP2; have hmP : (([⟨R, ⟨c0, c1, c2, c3⟩, ⟨d0, d1, d2, d3⟩, false, false⟩] : List Ce).length : Int) = 1 := rfl; rw [hmP] at hP2
    cases hpl : plcS wd ht tx ty
    ·have hRN : RES = none := by rwa [if_pos (.inr (.inl hpl))] at hP2
     subst hRN; have CI2 := CI.out
     have hi1 : idxS wd ht tx ty = -1 := by unfold idxS; rw [hpl]; rfl
     simp only [hi1] at CI2; replace CI2 := hdh CI2; clear CI hi1; refine rst (Held W5 0 []) ?_
     repeat (first | (refine' wpSteady_do _ _ _; rotate_left; (focus rfl); (focus (intro w1 hS R hR; have hc := hS.cells; simp only [Cells] at hc; obtain ⟨hco, hfo⟩ := bcell hS.old; go_simp; (try go_bits); first | exact hR _ hS | (go_at_call 153; (with_reducible refine cmm (CI2.out _) fun w2 hb2 => ?_); exact ⟨_, rfl, hR _ (hS.below hb2)⟩))); simp only [pu]) | (refine spa ?_; simp only [pu]))
     refine wpSteady_nil (fun uI hSI => ?_); obtain ⟨hcI, hbI, hzI, hcoI, hfoI⟩ := hall hSI; clear hSI; simp only [Cells] at hcI
     have ybI : b < uI.heap.size := by have := hbI.size; omega
     go_upto_region 25 with fail
     refine rst (Held uI 0 []) ?_
     repeat (first | (refine' sdo ?_; simp only [pu]) | (refine spa ?_; simp only [pu]))
     refine wpSteady_nil (fun uJ hSJ => ?_); obtain ⟨hcJ, hbJ, hzJ, hcoJ, hfoJ⟩ := hall hSJ; clear hSJ; simp only [Cells] at hcJ; have hbIJ := hbI.trans (hbJ.mono hbI.size); go_wp2; go_ret; exact ⟨rfl, ⟨BT4.out.below hbIJ yb4, hv4.out.below hbIJ lrr⟩, (KeptBut.refl _ _).below (K4.out.trans (hbIJ.mono K4.out.size))⟩
    ·obtain ⟨p1, p2, p3, p4⟩ := plcS_true.1 hpl
     obtain ⟨z0, z1, z2, z3, z4⟩ := fitsS_true.1 hfit; obtain ⟨e1, e2⟩ := row_end z0 p2 p4; obtain ⟨I, hI⟩ : ∃ I : Nat, ty * wd + tx = I := ⟨(ty * wd + tx).toNat, by omega⟩; have CI2 := CI.out
     have hi1 : idxS wd ht tx ty = I := by unfold idxS; rw [hpl, ← hI]; rfl
     simp only [hi1] at CI2; rw [hI, Int.toNat_natCast] at hP2
     have hIn : I < cs.length := by omega
     obtain ⟨g, cap, cur, hve, hgb, hgh, hcc, hcm, hcs, hct⟩ := hv4.out.open_ (by omega); obtain ⟨n, hn⟩ := exx (cs.length)
     have hroom : I + (wd - tx).toNat ≤ n := by omega
     rw [hn] at hve hIn hcc; unfold maxLen at hcm; subst hve
     have gb : b ≠ g := by
      rintro rfl
      have h := BT4.out; unfold Blk at h; rw [hgh] at h
      injection h with h
      injection h with _ h2 _
      exact absurd h2 (by decide)
     have yg := (Array.getElem?_eq_some_iff.1 hgh).1; replace CI2 := hdh CI2; replace hI := hdh hI; clear CI hi1 e1 e2; refine rst (Held W5 0 []) ?_
     repeat (first | (refine' wpSteady_do _ _ _; rotate_left; (focus rfl); (focus (intro w1 hS R hR; have hc := hS.cells; simp only [Cells] at hc; obtain ⟨hco, hfo⟩ := bcell hS.old; go_simp; (try go_bits); first | exact hR _ hS | (go_at_call 153; (with_reducible refine cmm (CI2.out _) fun w2 hb2 => ?_); exact ⟨_, rfl, hR _ (hS.below hb2)⟩))); simp only [pu]) | (refine spa ?_; simp only [pu]))
     refine wpSteady_nil (fun uI hSI => ?_); obtain ⟨hcI, hbI, hzI, hcoI, hfoI⟩ := hall hSI; clear hSI; simp only [Cells] at hcI
     have ybI : b < uI.heap.size := by have := hbI.size; omega
     go_upto_region 25 with fail
     by_cases hrm : wd - tx < 1
     ·have hRN : RES = none := by rwa [if_pos (.inr (.inr hrm))] at hP2
      subst hRN; refine rst (Held uI 0 []) ?_
      repeat (first | (refine' sdo ?_; simp only [pu]) | (refine spa ?_; simp only [pu]))
      refine wpSteady_nil (fun uJ hSJ => ?_); obtain ⟨hcJ, hbJ, hzJ, hcoJ, hfoJ⟩ := hall hSJ; clear hSJ; simp only [Cells] at hcJ; have hbIJ := hbI.trans (hbJ.mono hbI.size); go_wp2; go_ret; exact ⟨rfl, ⟨BT4.out.below hbIJ yb4, hv4.out.below hbIJ lrr⟩, (KeptBut.refl _ _).below (K4.out.trans (hbIJ.mono K4.out.size))⟩
     ·have hPn : ([⟨R, ⟨c0, c1, c2, c3⟩, ⟨d0, d1, d2, d3⟩, false, false⟩] : List Ce) ≠ [] := by simp
      rw [if_neg (fun h => h.elim hPn (fun h => h.elim (fun h => by rw [hpl] at h; cases h) hrm))] at hP2; subst hP2
      have hIm : I + 1 ≤ n := by omega
      refine rst (Held uI 0 []) ?_
      repeat (first | (refine' sdo ?_; simp only [pu]) | (refine spa ?_; simp only [pu]))
      refine wpSteady_nil (fun uJ hSJ => ?_); obtain ⟨hcJ, hbJ, hzJ, hcoJ, hfoJ⟩ := hall hSJ; clear hSJ; simp only [Cells] at hcJ; have hbIJ := hbI.trans (hbJ.mono hbI.size)
      have yb5 : b < uJ.heap.size := by have := hbJ.size; omega
      have yg5 : g < uJ.heap.size := by have := hbIJ.size; omega
      have hIi : (I : Int) ≤ n := by omega
      have hIc : ¬ cap = I := by omega
      go_upto_region 27 with fail
      have hgJ := (hbIJ.block g yg).trans hgh; have BPJ := BP.below hbIJ BP.lt
      have hr := run_copy_rows (P := Tryz.prog) uJ 38 38 3 47 11 g (I * 11) (n - I) (cap - I) ⟨pb, 0, none⟩ 1 1 cur 47 (([⟨R, ⟨c0, c1, c2, c3⟩, ⟨d0, d1, d2, d3⟩, false, false⟩] : List Ce).flatMap Ce.enc) Tryz.underlying38 sizeCe2 hgJ
       (by rw [flat_len Ce.enc_len, show Nat.min 1 (n - I) = 1 from Nat.min_eq_left (by omega)]; rfl) (fun j u h => by
        have := BPJ.cell (o := 0 + j) (v := u) (by rw [← h, ← List.getElem?_drop]; exact List.getElem?_append_left (l₂ := ([] : List Value)) (List.getElem?_eq_some_iff.1 h).1); rw [addr_add]
        exact this) (by rw [flat_len Ce.enc_len]; show I * 11 + 1 * 11 ≤ cur.size; omega) (flat_one2 Ce.enc_one)
      rw [show Nat.min 1 (n - I) = 1 from Nat.min_eq_left (by omega)] at hr; have OC := OwnsC.splice (p := [⟨R, ⟨c0, c1, c2, c3⟩, ⟨d0, d1, d2, d3⟩, false, false⟩]) (i := I) (cs := cs) hgb hgJ (by rw [hn]; exact hcc) (by unfold maxLen; exact hcm) hcs hct (by rw [hn]; exact hIm); rw [hn] at OC; obtain ⟨w6, hw6⟩ := exx (uJ.setRow g (cur.toList.take (I * 11) ++ ([⟨R, ⟨c0, c1, c2, c3⟩, ⟨d0, d1, d2, d3⟩, false, false⟩] : List Ce).flatMap Ce.enc ++ cur.toList.drop (I * 11 + (([⟨R, ⟨c0, c1, c2, c3⟩, ⟨d0, d1, d2, d3⟩, false, false⟩] : List Ce).flatMap Ce.enc).length)).toArray); rw [hw6] at hr OC
      have BT6 : Blk w6 b (tmC wd ht (.slice (some ⟨g, 0, none⟩) n cap) ⟨tx, ty, ⟨c0, c1, c2, c3⟩, ⟨d0, d1, d2, d3⟩⟩) 167 := by rw [← hw6]; exact (BT4.out.below hbIJ yb4).setRow_ne gb _
      have K6 : KeptBut (fun q => q = b ∨ (Value.slice (some ⟨g, 0, none⟩) n cap).ownBlock = some q) w w6 := by rw [← hw6]; exact ((KeptBut.refl _ w).below (K4.out.trans (hbIJ.mono K4.out.size))).setRow g _ (.inr rfl)
      clear hw6
      go_upto_region 28 with (refine wpList_copy_runI uJ rfl _ _ _ _ rfl _ _ (by rfl) (by rfl) hr ?_)
      have t3 := BT6.cell (o := 3) rfl; have f3 := BT6.free 3; have yb6 := BT6.lt; replace BT6 := hdh BT6; replace K6 := hdh K6; replace OC := hdh OC; clear hr hbIJ hcoJ hfoJ hcoI hfoI hcJ hcI hgJ BPJ; go_wp2; go_ret; refine ⟨?_, ⟨BT6.out.set 3 _, own_other OC.out (fun q hq => ?_) _⟩, K6.out.setCell ⟨b, 3, none⟩ _ (.inl rfl)⟩
      ·first
        | rfl
        | exact congrArg (fun z => Ending.returned (.int .i64 z)) (by omega)
      ·have e : g = q := by simpa [Value.ownBlock] using hq
       rw [← e]; exact Ne.symm gb
   ·have WD2 := WD.out
    simp only [hwd] at WD2; replace WD2 := hdh WD2; clear WD
    go_upto_region 16 with (go_at_call 99; (with_reducible refine cmm (WD2.out _) fun w4 hb4 => ?_))
    have B4 := B3.below hb4 y3; have y4 := B4.lt; have k0z := B4.cell (o := 0) rfl; have k1z := B4.cell (o := 1) rfl; have k2z := B4.cell (o := 2) rfl; have k3z := B4.cell (o := 3) rfl; have k4z := B4.cell (o := 4) rfl; have k5z := B4.cell (o := 5) rfl; have k6z := B4.cell (o := 6) rfl; have k7z := B4.cell (o := 7) rfl; have k8z := B4.cell (o := 8) rfl; have k9z := B4.cell (o := 9) rfl; have k10z := B4.cell (o := 10) rfl
    go_cut [11, 12] (fun v11 v12 wx => ∃ b11 b12 : Nat, v11 = .pointer (some ⟨b11, 0, none⟩) ∧ v12 = .pointer (some ⟨b12, 0, none⟩) ∧ b11 ≠ b12 ∧ Blk wx b11 [.int .i32 R, .int .u8 c0, .int .u8 c1, .int .u8 c2, .int .u8 c3, .int .u8 d0, .int .u8 d1, .int .u8 d2, .int .u8 d3, .bool false, .bool false] 47 ∧ Blk wx b12 [.int .i32 R, .int .u8 c0, .int .u8 c1, .int .u8 c2, .int .u8 c3, .int .u8 d0, .int .u8 d1, .int .u8 d2, .int .u8 d3, .bool false, .bool false] 47 ∧ w4.heap.size ≤ b11 ∧ w4.heap.size ≤ b12 ∧ Below w4.heap.size w4 wx)
    case first =>
     refine held_begin (Held w4 0 []) (by kernel_rfl) ⟨Below.drew (Below.refl _ _), Nat.le_refl _, trivial⟩ (fun hS => ?_); generalize w4.drew = u0 at hS ⊢
     (refine' hdo 0 hS ?_; simp only [pu])
     (refine' hdo 1 hS ?_; simp only [pu])
     (refine' held_two (i := 2) (j := 3) rfl rfl (by kernel_rfl) _ _ _ _; (focus rfl); (focus rfl))
     ·intro K hK
      go_simp
      obtain ⟨v1, hv⟩ := exx (u0.alloc (.cells #[.int .i32 0, .int .u8 0, .int .u8 0, .int .u8 0, .int .u8 0, .int .u8 0, .int .u8 0, .int .u8 0, .int .u8 0, .bool false, .bool false] 47)); have hT := held_alloc hS hv; have Bb11 := Blk.new_eq hv; have gb11 := held_size hS; rw [hv]; clear hv; generalize u0.heap.size = b11 at Bb11 gb11 ⊢; refine hK _ _ hT ?_; clear hK hS
      (try simp only [pu])
      have hS := hT; clear hT
      (refine honn 3 fun K hK => ?_; go_simp)
      obtain ⟨v2, hv⟩ := exx (v1.alloc (.cells #[.int .i32 0, .int .u8 0, .int .u8 0, .int .u8 0, .int .u8 0, .int .u8 0, .int .u8 0, .int .u8 0, .int .u8 0, .bool false, .bool false] 47)); have hT := held_alloc hS hv; have nb11b12 : b11 ≠ v1.heap.size := Nat.ne_of_lt Bb11.lt; replace Bb11 := Bb11.alloc_eq hv; have Bb12 := Blk.new_eq hv; have gb12 := held_size hS; rw [hv]; clear hv; generalize v1.heap.size = b12 at Bb12 gb12 nb11b12 ⊢; refine hK _ _ hT ?_; clear hK hS
      (try simp only [pu])
      have hS := hT; clear hT
      (refine' held_one (i := 4) _ (by kernel_rfl) _ _; rotate_left; (focus exact geti); (focus rfl); intro K hK)
      obtain ⟨f0, f1, f2, f3, f4, f5, f6, f7, f8, f9, f10⟩ := Bb11.c11; have ff := Bb11.free; have yb := Bb11.lt
      go_simp
      obtain ⟨v3, hv⟩ := exx ((((((((((((v2).setCell ⟨b11, 0, none⟩ (.int .i32 R)).setCell ⟨b11, 1, none⟩ (.int .u8 c0)).setCell ⟨b11, 2, none⟩ (.int .u8 c1)).setCell ⟨b11, 3, none⟩ (.int .u8 c2)).setCell ⟨b11, 4, none⟩ (.int .u8 c3)).setCell ⟨b11, 5, none⟩ (.int .u8 d0)).setCell ⟨b11, 6, none⟩ (.int .u8 d1)).setCell ⟨b11, 7, none⟩ (.int .u8 d2)).setCell ⟨b11, 8, none⟩ (.int .u8 d3)).setCell ⟨b11, 9, none⟩ (.bool false)).setCell ⟨b11, 10, none⟩ (.bool false))
      have hk : KeptBut (· = b11) v2 v3 := by rw [← hv]; repeat (first | refine KeptBut.setCell ?_ _ _ rfl | exact KeptBut.refl _ _)
      have hT := held_kept hS hk gb11; replace Bb12 := Bb12.but hk (by omega); replace Bb11 := (((((((((((Bb11).set 0 (.int .i32 R)).set 1 (.int .u8 c0)).set 2 (.int .u8 c1)).set 3 (.int .u8 c2)).set 4 (.int .u8 c3)).set 5 (.int .u8 d0)).set 6 (.int .u8 d1)).set 7 (.int .u8 d2)).set 8 (.int .u8 d3)).set 9 (.bool false)).set 10 (.bool false); rw [hv] at Bb11 ⊢; clear hv hk ff yb f0 f1 f2 f3 f4 f5 f6 f7 f8 f9 f10; refine hK _ _ hT ?_; clear hK hS
      (try simp only [pu])
      have hS := hT; clear hT
      (refine' held_one (i := 5) _ (by kernel_rfl) _ _; rotate_left; (focus exact geti); (focus rfl); intro K hK)
      obtain ⟨f0, f1, f2, f3, f4, f5, f6, f7, f8, f9, f10⟩ := Bb12.c11; have ff := Bb12.free; have yb := Bb12.lt
      go_simp
      obtain ⟨v4, hv⟩ := exx ((((((((((((v3).setCell ⟨b12, 0, none⟩ (.int .i32 R)).setCell ⟨b12, 1, none⟩ (.int .u8 c0)).setCell ⟨b12, 2, none⟩ (.int .u8 c1)).setCell ⟨b12, 3, none⟩ (.int .u8 c2)).setCell ⟨b12, 4, none⟩ (.int .u8 c3)).setCell ⟨b12, 5, none⟩ (.int .u8 d0)).setCell ⟨b12, 6, none⟩ (.int .u8 d1)).setCell ⟨b12, 7, none⟩ (.int .u8 d2)).setCell ⟨b12, 8, none⟩ (.int .u8 d3)).setCell ⟨b12, 9, none⟩ (.bool false)).setCell ⟨b12, 10, none⟩ (.bool false))
      have hk : KeptBut (· = b12) v3 v4 := by rw [← hv]; repeat (first | refine KeptBut.setCell ?_ _ _ rfl | exact KeptBut.refl _ _)
      have hT := held_kept hS hk gb12; replace Bb11 := Bb11.but hk (by omega); replace Bb12 := (((((((((((Bb12).set 0 (.int .i32 R)).set 1 (.int .u8 c0)).set 2 (.int .u8 c1)).set 3 (.int .u8 c2)).set 4 (.int .u8 c3)).set 5 (.int .u8 d0)).set 6 (.int .u8 d1)).set 7 (.int .u8 d2)).set 8 (.int .u8 d3)).set 9 (.bool false)).set 10 (.bool false); rw [hv] at Bb12 ⊢; clear hv hk ff yb f0 f1 f2 f3 f4 f5 f6 f7 f8 f9 f10; refine hK _ _ hT ?_; clear hK hS
      (try simp only [pu])
      have hS := hT; clear hT; refine wpAnyH_done (by kernel_rfl) ?_ _; go_wp2; go_meet
      case rel => exact ⟨b11, b12, rfl, rfl, by omega, Bb11, Bb12, gb11, gb12, hS.1⟩
     ·intro K hK
      go_simp
      obtain ⟨v5, hv⟩ := exx (u0.alloc (.cells #[.int .i32 0, .int .u8 0, .int .u8 0, .int .u8 0, .int .u8 0, .int .u8 0, .int .u8 0, .int .u8 0, .int .u8 0, .bool false, .bool false] 47)); have hT := held_alloc hS hv; have Bb12 := Blk.new_eq hv; have gb12 := held_size hS; rw [hv]; clear hv; generalize u0.heap.size = b12 at Bb12 gb12 ⊢; refine hK _ _ hT ?_; clear hK hS
      (try simp only [pu])
      have hS := hT; clear hT
      (refine honn 2 fun K hK => ?_; go_simp)
      obtain ⟨v6, hv⟩ := exx (v5.alloc (.cells #[.int .i32 0, .int .u8 0, .int .u8 0, .int .u8 0, .int .u8 0, .int .u8 0, .int .u8 0, .int .u8 0, .int .u8 0, .bool false, .bool false] 47)); have hT := held_alloc hS hv; have nb12b11 : b12 ≠ v5.heap.size := Nat.ne_of_lt Bb12.lt; replace Bb12 := Bb12.alloc_eq hv; have Bb11 := Blk.new_eq hv; have gb11 := held_size hS; rw [hv]; clear hv; generalize v5.heap.size = b11 at Bb11 gb11 nb12b11 ⊢; refine hK _ _ hT ?_; clear hK hS
      (try simp only [pu])
      have hS := hT; clear hT
      (refine' held_one (i := 4) _ (by kernel_rfl) _ _; rotate_left; (focus exact geti); (focus rfl); intro K hK)
      obtain ⟨f0, f1, f2, f3, f4, f5, f6, f7, f8, f9, f10⟩ := Bb11.c11; have ff := Bb11.free; have yb := Bb11.lt
      go_simp
      obtain ⟨v7, hv⟩ := exx ((((((((((((v6).setCell ⟨b11, 0, none⟩ (.int .i32 R)).setCell ⟨b11, 1, none⟩ (.int .u8 c0)).setCell ⟨b11, 2, none⟩ (.int .u8 c1)).setCell ⟨b11, 3, none⟩ (.int .u8 c2)).setCell ⟨b11, 4, none⟩ (.int .u8 c3)).setCell ⟨b11, 5, none⟩ (.int .u8 d0)).setCell ⟨b11, 6, none⟩ (.int .u8 d1)).setCell ⟨b11, 7, none⟩ (.int .u8 d2)).setCell ⟨b11, 8, none⟩ (.int .u8 d3)).setCell ⟨b11, 9, none⟩ (.bool false)).setCell ⟨b11, 10, none⟩ (.bool false))
      have hk : KeptBut (· = b11) v6 v7 := by rw [← hv]; repeat (first | refine KeptBut.setCell ?_ _ _ rfl | exact KeptBut.refl _ _)
      have hT := held_kept hS hk gb11; replace Bb12 := Bb12.but hk (by omega); replace Bb11 := (((((((((((Bb11).set 0 (.int .i32 R)).set 1 (.int .u8 c0)).set 2 (.int .u8 c1)).set 3 (.int .u8 c2)).set 4 (.int .u8 c3)).set 5 (.int .u8 d0)).set 6 (.int .u8 d1)).set 7 (.int .u8 d2)).set 8 (.int .u8 d3)).set 9 (.bool false)).set 10 (.bool false); rw [hv] at Bb11 ⊢; clear hv hk ff yb f0 f1 f2 f3 f4 f5 f6 f7 f8 f9 f10; refine hK _ _ hT ?_; clear hK hS
      (try simp only [pu])
      have hS := hT; clear hT
      (refine' held_one (i := 5) _ (by kernel_rfl) _ _; rotate_left; (focus exact geti); (focus rfl); intro K hK)
      obtain ⟨f0, f1, f2, f3, f4, f5, f6, f7, f8, f9, f10⟩ := Bb12.c11; have ff := Bb12.free; have yb := Bb12.lt
      go_simp
      obtain ⟨v8, hv⟩ := exx ((((((((((((v7).setCell ⟨b12, 0, none⟩ (.int .i32 R)).setCell ⟨b12, 1, none⟩ (.int .u8 c0)).setCell ⟨b12, 2, none⟩ (.int .u8 c1)).setCell ⟨b12, 3, none⟩ (.int .u8 c2)).setCell ⟨b12, 4, none⟩ (.int .u8 c3)).setCell ⟨b12, 5, none⟩ (.int .u8 d0)).setCell ⟨b12, 6, none⟩ (.int .u8 d1)).setCell ⟨b12, 7, none⟩ (.int .u8 d2)).setCell ⟨b12, 8, none⟩ (.int .u8 d3)).setCell ⟨b12, 9, none⟩ (.bool false)).setCell ⟨b12, 10, none⟩ (.bool false))
      have hk : KeptBut (· = b12) v7 v8 := by rw [← hv]; repeat (first | refine KeptBut.setCell ?_ _ _ rfl | exact KeptBut.refl _ _)
      have hT := held_kept hS hk gb12; replace Bb11 := Bb11.but hk (by omega); replace Bb12 := (((((((((((Bb12).set 0 (.int .i32 R)).set 1 (.int .u8 c0)).set 2 (.int .u8 c1)).set 3 (.int .u8 c2)).set 4 (.int .u8 c3)).set 5 (.int .u8 d0)).set 6 (.int .u8 d1)).set 7 (.int .u8 d2)).set 8 (.int .u8 d3)).set 9 (.bool false)).set 10 (.bool false); rw [hv] at Bb12 ⊢; clear hv hk ff yb f0 f1 f2 f3 f4 f5 f6 f7 f8 f9 f10; refine hK _ _ hT ?_; clear hK hS
      (try simp only [pu])
      have hS := hT; clear hT; refine wpAnyH_done (by kernel_rfl) ?_ _; go_wp2; go_meet
      case rel => exact ⟨b11, b12, rfl, rfl, by omega, Bb11, Bb12, gb11, gb12, hS.1⟩
    case rest =>
     obtain ⟨b11, b12, rfl, rfl, n12, C11, C12, hk11, hk12, hb9⟩ := hcut; have n21 : b12 ≠ b11 := Ne.symm n12; have s9 := C11.cell (o := 9) rfl; have s10 := C12.cell (o := 10) rfl; have sf := C11.free 9; have uf := C12.free 10; have yc1 := C11.lt; have yc2 := C12.lt
     go_upto_region 18 with fail
     have D11 := (C11.set 9 (.bool true)).set_ne (a := ⟨b12, 10, none⟩) n12 (.bool true); have D12 := (C12.set_ne (a := ⟨b11, 9, none⟩) n21 (.bool true)).set 10 (.bool true); have hb10 := (hb9.setCell (p := ⟨b11, 9, none⟩) hk11 (.bool true)).setCell (p := ⟨b12, 10, none⟩) hk12 (.bool true); obtain ⟨w7, hw7⟩ := exx ((wc.setCell ⟨b11, 9, none⟩ (.bool true)).setCell ⟨b12, 10, none⟩ (.bool true)); rw [hw7] at D11 D12 hb10 ⊢; clear hw7 C11 C12 hb9 s9 s10 sf uf yc1 yc2 k0z k1z k2z k3z k4z k5z k6z k7z k8z k9z k10z B4 y4; have E11 : Blk w7 b11 [.int .i32 R, .int .u8 c0, .int .u8 c1, .int .u8 c2, .int .u8 c3, .int .u8 d0, .int .u8 d1, .int .u8 d2, .int .u8 d3, .bool true, .bool false] 47 := D11
     have E12 : Blk w7 b12 [.int .i32 R, .int .u8 c0, .int .u8 c1, .int .u8 c2, .int .u8 c3, .int .u8 d0, .int .u8 d1, .int .u8 d2, .int .u8 d3, .bool false, .bool true] 47 := D12; clear D11 D12; have k0s := E11.cell (o := 0) rfl; have k1s := E11.cell (o := 1) rfl; have k2s := E11.cell (o := 2) rfl; have k3s := E11.cell (o := 3) rfl; have k4s := E11.cell (o := 4) rfl; have k5s := E11.cell (o := 5) rfl; have k6s := E11.cell (o := 6) rfl; have k7s := E11.cell (o := 7) rfl; have k8s := E11.cell (o := 8) rfl; have k9s := E11.cell (o := 9) rfl; have k10s := E11.cell (o := 10) rfl; have k0u := E12.cell (o := 0) rfl; have k1u := E12.cell (o := 1) rfl; have k2u := E12.cell (o := 2) rfl; have k3u := E12.cell (o := 3) rfl; have k4u := E12.cell (o := 4) rfl; have k5u := E12.cell (o := 5) rfl; have k6u := E12.cell (o := 6) rfl; have k7u := E12.cell (o := 7) rfl; have k8u := E12.cell (o := 8) rfl; have k9u := E12.cell (o := 9) rfl; have k10u := E12.cell (o := 10) rfl
     have yc1 := E11.lt; have yc2 := E12.lt
     go_upto_region 24 with fail
     obtain ⟨W5, hW5⟩ := exx (w7.alloc (.cells #[.int .i32 R, .int .u8 c0, .int .u8 c1, .int .u8 c2, .int .u8 c3, .int .u8 d0, .int .u8 d1, .int .u8 d2, .int .u8 d3, .bool true, .bool false, .int .i32 R, .int .u8 c0, .int .u8 c1, .int .u8 c2, .int .u8 c3, .int .u8 d0, .int .u8 d1, .int .u8 d2, .int .u8 d3, .bool false, .bool true] 47)); obtain ⟨pb, hpb⟩ := exx (w7.heap.size)
     have BP : Blk W5 pb [.int .i32 R, .int .u8 c0, .int .u8 c1, .int .u8 c2, .int .u8 c3, .int .u8 d0, .int .u8 d1, .int .u8 d2, .int .u8 d3, .bool true, .bool false, .int .i32 R, .int .u8 c0, .int .u8 c1, .int .u8 c2, .int .u8 c3, .int .u8 d0, .int .u8 d1, .int .u8 d2, .int .u8 d3, .bool false, .bool true] 47 := by rw [← hW5]; exact Blk.new' hpb.symm
     have hb5 : Below W3.heap.size W3 W5 := by rw [← hW5]; exact (hb4.trans (hb10.mono hb4.size)).alloc (by have := hb4.size; have := hb10.size; omega) _
     rw [hW5, hpb]; clear hW5 hpb B3 y3 hb4 hb10 E11 E12 yc1 yc2 k0s k1s k2s k3s k4s k5s k6s k7s k8s k9s k10s k0u k1u k2u k3u k4u k5u k6u k7u k8u k9u k10u; have BT4 := BT3.out.below hb5 yb3; have hv4 := hv3.out.below hb5 lrr; have K4 : Below w.heap.size w W5 := K3.out.trans (hb5.mono K3.out.size); have yb4 := BT4.lt; have j0 := BT4.cell (o := 0) rfl; have j1 := BT4.cell (o := 1) rfl; have j2 := BT4.cell (o := 2) rfl; have j3 := BT4.cell (o := 3) rfl; have j4 := BT4.cell (o := 4) rfl; replace BT4 := hdh BT4; replace hv4 := hdh hv4; replace K4 := hdh K4; clear BT3 hv3 K3 yb3 hb5; replace hP2 := hP2.out
     have hPL : putL 0 R ⟨c0, c1, c2, c3⟩ ⟨d0, d1, d2, d3⟩ = [⟨R, ⟨c0, c1, c2, c3⟩, ⟨d0, d1, d2, d3⟩, true, false⟩, ⟨R, ⟨c0, c1, c2, c3⟩, ⟨d0, d1, d2, d3⟩, false, true⟩] := by unfold putL; rw [hwd]; rfl
     rw [hPL] at hP2; have hmP : (([⟨R, ⟨c0, c1, c2, c3⟩, ⟨d0, d1, d2, d3⟩, true, false⟩, ⟨R, ⟨c0, c1, c2, c3⟩, ⟨d0, d1, d2, d3⟩, false, true⟩] : List Ce).length : Int) = 2 := rfl; rw [hmP] at hP2
     cases hpl : plcS wd ht tx ty
     ·have hRN : RES = none := by rwa [if_pos (.inr (.inl hpl))] at hP2
      subst hRN; have CI2 := CI.out
      have hi1 : idxS wd ht tx ty = -1 := by unfold idxS; rw [hpl]; rfl
      simp only [hi1] at CI2; replace CI2 := hdh CI2; clear CI hi1; refine rst (Held W5 0 []) ?_
      repeat (first | (refine' wpSteady_do _ _ _; rotate_left; (focus rfl); (focus (intro w1 hS R hR; have hc := hS.cells; simp only [Cells] at hc; obtain ⟨hco, hfo⟩ := bcell hS.old; go_simp; (try go_bits); first | exact hR _ hS | (go_at_call 153; (with_reducible refine cmm (CI2.out _) fun w2 hb2 => ?_); exact ⟨_, rfl, hR _ (hS.below hb2)⟩))); simp only [pu]) | (refine spa ?_; simp only [pu]))
      refine wpSteady_nil (fun uI hSI => ?_); obtain ⟨hcI, hbI, hzI, hcoI, hfoI⟩ := hall hSI; clear hSI; simp only [Cells] at hcI
      have ybI : b < uI.heap.size := by have := hbI.size; omega
      go_upto_region 25 with fail
      refine rst (Held uI 0 []) ?_
      repeat (first | (refine' sdo ?_; simp only [pu]) | (refine spa ?_; simp only [pu]))
      refine wpSteady_nil (fun uJ hSJ => ?_); obtain ⟨hcJ, hbJ, hzJ, hcoJ, hfoJ⟩ := hall hSJ; clear hSJ; simp only [Cells] at hcJ; have hbIJ := hbI.trans (hbJ.mono hbI.size); go_wp2; go_ret; exact ⟨rfl, ⟨BT4.out.below hbIJ yb4, hv4.out.below hbIJ lrr⟩, (KeptBut.refl _ _).below (K4.out.trans (hbIJ.mono K4.out.size))⟩
     ·obtain ⟨p1, p2, p3, p4⟩ := plcS_true.1 hpl
      obtain ⟨z0, z1, z2, z3, z4⟩ := fitsS_true.1 hfit; obtain ⟨e1, e2⟩ := row_end z0 p2 p4; obtain ⟨I, hI⟩ : ∃ I : Nat, ty * wd + tx = I := ⟨(ty * wd + tx).toNat, by omega⟩; have CI2 := CI.out
      have hi1 : idxS wd ht tx ty = I := by unfold idxS; rw [hpl, ← hI]; rfl
      simp only [hi1] at CI2; rw [hI, Int.toNat_natCast] at hP2
      have hIn : I < cs.length := by omega
      obtain ⟨g, cap, cur, hve, hgb, hgh, hcc, hcm, hcs, hct⟩ := hv4.out.open_ (by omega); obtain ⟨n, hn⟩ := exx (cs.length)
      have hroom : I + (wd - tx).toNat ≤ n := by omega
      rw [hn] at hve hIn hcc; unfold maxLen at hcm; subst hve
      have gb : b ≠ g := by
       rintro rfl
       have h := BT4.out; unfold Blk at h; rw [hgh] at h
       injection h with h
       injection h with _ h2 _
       exact absurd h2 (by decide)
      have yg := (Array.getElem?_eq_some_iff.1 hgh).1; replace CI2 := hdh CI2; replace hI := hdh hI; clear CI hi1 e1 e2; refine rst (Held W5 0 []) ?_
      repeat (first | (refine' wpSteady_do _ _ _; rotate_left; (focus rfl); (focus (intro w1 hS R hR; have hc := hS.cells; simp only [Cells] at hc; obtain ⟨hco, hfo⟩ := bcell hS.old; go_simp; (try go_bits); first | exact hR _ hS | (go_at_call 153; (with_reducible refine cmm (CI2.out _) fun w2 hb2 => ?_); exact ⟨_, rfl, hR _ (hS.below hb2)⟩))); simp only [pu]) | (refine spa ?_; simp only [pu]))
      refine wpSteady_nil (fun uI hSI => ?_); obtain ⟨hcI, hbI, hzI, hcoI, hfoI⟩ := hall hSI; clear hSI; simp only [Cells] at hcI
      have ybI : b < uI.heap.size := by have := hbI.size; omega
      go_upto_region 25 with fail
      by_cases hrm : wd - tx < 2
      ·have hRN : RES = none := by rwa [if_pos (.inr (.inr hrm))] at hP2
       subst hRN; refine rst (Held uI 0 []) ?_
       repeat (first | (refine' sdo ?_; simp only [pu]) | (refine spa ?_; simp only [pu]))
       refine wpSteady_nil (fun uJ hSJ => ?_); obtain ⟨hcJ, hbJ, hzJ, hcoJ, hfoJ⟩ := hall hSJ; clear hSJ; simp only [Cells] at hcJ; have hbIJ := hbI.trans (hbJ.mono hbI.size); go_wp2; go_ret; exact ⟨rfl, ⟨BT4.out.below hbIJ yb4, hv4.out.below hbIJ lrr⟩, (KeptBut.refl _ _).below (K4.out.trans (hbIJ.mono K4.out.size))⟩
      ·have hPn : ([⟨R, ⟨c0, c1, c2, c3⟩, ⟨d0, d1, d2, d3⟩, true, false⟩, ⟨R, ⟨c0, c1, c2, c3⟩, ⟨d0, d1, d2, d3⟩, false, true⟩] : List Ce) ≠ [] := by simp
       rw [if_neg (fun h => h.elim hPn (fun h => h.elim (fun h => by rw [hpl] at h; cases h) hrm))] at hP2; subst hP2
       have hIm : I + 2 ≤ n := by omega
       refine rst (Held uI 0 []) ?_
       repeat (first | (refine' sdo ?_; simp only [pu]) | (refine spa ?_; simp only [pu]))
       refine wpSteady_nil (fun uJ hSJ => ?_); obtain ⟨hcJ, hbJ, hzJ, hcoJ, hfoJ⟩ := hall hSJ; clear hSJ; simp only [Cells] at hcJ; have hbIJ := hbI.trans (hbJ.mono hbI.size)
       have yb5 : b < uJ.heap.size := by have := hbJ.size; omega
       have yg5 : g < uJ.heap.size := by have := hbIJ.size; omega
       have hIi : (I : Int) ≤ n := by omega
       have hIc : ¬ cap = I := by omega
       go_upto_region 27 with fail
       have hgJ := (hbIJ.block g yg).trans hgh; have BPJ := BP.below hbIJ BP.lt
       have hr := run_copy_rows (P := Tryz.prog) uJ 38 38 3 47 11 g (I * 11) (n - I) (cap - I) ⟨pb, 0, none⟩ 2 2 cur 47 (([⟨R, ⟨c0, c1, c2, c3⟩, ⟨d0, d1, d2, d3⟩, true, false⟩, ⟨R, ⟨c0, c1, c2, c3⟩, ⟨d0, d1, d2, d3⟩, false, true⟩] : List Ce).flatMap Ce.enc) Tryz.underlying38 sizeCe2 hgJ
        (by rw [flat_len Ce.enc_len, show Nat.min 2 (n - I) = 2 from Nat.min_eq_left (by omega)]; rfl) (fun j u h => by
         have := BPJ.cell (o := 0 + j) (v := u) (by rw [← h, ← List.getElem?_drop]; exact List.getElem?_append_left (l₂ := ([] : List Value)) (List.getElem?_eq_some_iff.1 h).1); rw [addr_add]
         exact this) (by rw [flat_len Ce.enc_len]; show I * 11 + 2 * 11 ≤ cur.size; omega) (flat_one2 Ce.enc_one)
       rw [show Nat.min 2 (n - I) = 2 from Nat.min_eq_left (by omega)] at hr; have OC := OwnsC.splice (p := [⟨R, ⟨c0, c1, c2, c3⟩, ⟨d0, d1, d2, d3⟩, true, false⟩, ⟨R, ⟨c0, c1, c2, c3⟩, ⟨d0, d1, d2, d3⟩, false, true⟩]) (i := I) (cs := cs) hgb hgJ (by rw [hn]; exact hcc) (by unfold maxLen; exact hcm) hcs hct (by rw [hn]; exact hIm); rw [hn] at OC; obtain ⟨w6, hw6⟩ := exx (uJ.setRow g (cur.toList.take (I * 11) ++ ([⟨R, ⟨c0, c1, c2, c3⟩, ⟨d0, d1, d2, d3⟩, true, false⟩, ⟨R, ⟨c0, c1, c2, c3⟩, ⟨d0, d1, d2, d3⟩, false, true⟩] : List Ce).flatMap Ce.enc ++ cur.toList.drop (I * 11 + (([⟨R, ⟨c0, c1, c2, c3⟩, ⟨d0, d1, d2, d3⟩, true, false⟩, ⟨R, ⟨c0, c1, c2, c3⟩, ⟨d0, d1, d2, d3⟩, false, true⟩] : List Ce).flatMap Ce.enc).length)).toArray)
       rw [hw6] at hr OC
       have BT6 : Blk w6 b (tmC wd ht (.slice (some ⟨g, 0, none⟩) n cap) ⟨tx, ty, ⟨c0, c1, c2, c3⟩, ⟨d0, d1, d2, d3⟩⟩) 167 := by rw [← hw6]; exact (BT4.out.below hbIJ yb4).setRow_ne gb _
       have K6 : KeptBut (fun q => q = b ∨ (Value.slice (some ⟨g, 0, none⟩) n cap).ownBlock = some q) w w6 := by rw [← hw6]; exact ((KeptBut.refl _ w).below (K4.out.trans (hbIJ.mono K4.out.size))).setRow g _ (.inr rfl)
       clear hw6
       go_upto_region 28 with (refine wpList_copy_runI uJ rfl _ _ _ _ rfl _ _ (by rfl) (by rfl) hr ?_)
       have t3 := BT6.cell (o := 3) rfl; have f3 := BT6.free 3; have yb6 := BT6.lt; replace BT6 := hdh BT6; replace K6 := hdh K6; replace OC := hdh OC; clear hr hbIJ hcoJ hfoJ hcoI hfoI hcJ hcI hgJ BPJ; go_wp2; go_ret; refine ⟨?_, ⟨BT6.out.set 3 _, own_other OC.out (fun q hq => ?_) _⟩, K6.out.setCell ⟨b, 3, none⟩ _ (.inl rfl)⟩
       ·first
         | rfl
         | exact congrArg (fun z => Ending.returned (.int .i64 z)) (by omega)
       ·have e : g = q := by simpa [Value.ownBlock] using hq
        rw [← e]; exact Ne.symm gb
set_option maxRecDepth 100000 in
theorem rcell_14 (wd ht : Int) (cs : List Ce) (v : Value) (t : Tm) (c : UInt8) (r : List UInt8) (b base : Nat) (w : World) (hh : c = 14) (hB : Blk w b (tmC wd ht v t) 167) (hv : OwnsC base w v cs) (hfit : fitsS wd ht = true) (hlen : (cs.length : Int) = wd * ht) (hl : r.length < 1048576) (hD : DecT w) :
  Calls Tryz.prog 113 #[.pointer (some ⟨b, 0, none⟩), .string (strL (c :: r))] w fun e w' => e = .returned (.int .i64 (cellN (cellP wd ht cs t (c :: r)))) ∧
   TmO base b wd ht v (cellC cs (cellP wd ht cs t (c :: r))) (cellT t (cellP wd ht cs t (c :: r))) w' ∧ KeptBut (fun k => k = b ∨ v.ownBlock = some k) w w' := by
 have hc0 := strL_get c r; have hP := cellP_eq wd ht cs t c r
 have hH : halfP c = 14 := by (rw [hh]; rfl)
 have hK : skipP c = 1 := by (rw [hh]; rfl)
 have hdr := strL_from (c :: r) 1 rfl; rw [hH, hK] at hP; obtain ⟨S, hS⟩ := exx (strL (c :: r))
 have hz : S.size = r.length + 1 := by rw [← hS]; exact strL_size _
 obtain ⟨S2, hS2⟩ := exx (strL ((c :: r).drop 1)); rw [hS] at hc0 hdr ⊢; rw [hS2] at hP hdr; have hd1 := dec1 S2
 have hdv : Lib.decodeGo S2 = (65533, 0) ∨ validR ((Lib.decodeGo S2).1 : Int) = true := by
  unfold Lib.decodeGo
  split
  ·exact .inl rfl
  ·exact .inr (dec_valid S2 0)
 have DE := YtfcphagmjijmkaaGreatDoor.decR S2 w hD; obtain ⟨rn, k, hrk⟩ : ∃ rn k, Lib.decodeGo S2 = (rn, k) := ⟨_, _, rfl⟩; rw [hrk] at DE hP hd1 hdv; dsimp only at DE hP hd1 hdv
 have hs2 : S2.size ≤ 1048576 := by rw [← hS2, strL_size, List.length_drop]; simp only [List.length_cons]; omega
 have X1 := bAt_eq (s := S) (i := 0) (by omega); rw [List.length_cons] at hdr; rw [← hdr] at DE; obtain ⟨N, hN⟩ := exx (r.length); rw [hN] at hz DE hl; obtain ⟨RES, hRES⟩ := exx (cellP wd ht cs t (c :: r)); rw [hRES] at hP ⊢; obtain ⟨tx, ty, ⟨c0, c1, c2, c3⟩, ⟨d0, d1, d2, d3⟩⟩ := t; dsimp only at hP
 (replace hc0 : bAt S 0 = 14 := (by rw [hc0, hh]; rfl))
 have yb := hB.lt
 have hk4 : k ≤ 1048576 := by
  rcases hd1 with h | h
  ·omega
  ·omega
 have hrn : rn ≤ 1114111 := by
  rcases hdv with h | h
  ·injection h with h1 h2; omega
  ·unfold validR at h; simp only [Bool.or_eq_true, Bool.and_eq_true, decide_eq_true_eq] at h; omega
 clear hS hRES hrk hH hK hD hdr hS2 hs2 hd1 hdv; replace DE := hdh DE; replace hB := hdh hB; replace hv := hdh hv; replace hP := hdh hP
 have hrn0 : 0 ≤ (rn : Int) ∧ (rn : Int) ≤ 1114111 := by omega
 have hdi : (rn = 65533 ∧ k < 3) ↔ ((rn : Int) = 65533 ∧ k < 3) := by omega
 replace hP := hP.out; simp only [hdi] at hP; replace DE := DE.out; obtain ⟨R, hR⟩ : ∃ R : Int, (rn : Int) = R := ⟨_, rfl⟩; rw [hR] at hP DE hrn0; clear hdi hrn hR; replace DE := hdh DE; replace hP := hdh hP; have WD := hdh (fun w => width_any R w); have CI := hdh (fun w => cindex_any wd ht tx ty v w hfit)
 go_enter Tryz.func113, Tryz.ntmps113
 by_cases hdead : R = 65533 ∧ k < 3
 ·have hRN : RES = none := by have h := hP.out; rwa [if_pos hdead] at h
  subst hRN
  have u1 : (R == 65533) = true := by rw [hdead.1]; rfl
  have u2 : ((k : Nat) : Int) < 3 := by omega
  go_upto_region 6 with (go_at_call 152; (with_reducible refine cmm (DE.out) fun w1 hb1 => ?_))
  go_wp2; go_ret; exact ⟨rfl, ⟨hB.out.below hb1 yb, hv.out.below hb1 lrr⟩, (KeptBut.refl _ _).below hb1⟩
 ·have hP2 := hP.out
  rw [if_neg hdead] at hP2
  by_cases r1 : R = 65533
  ·have u1 : (R == 65533) = true := by rw [r1]; rfl
   have u2 : ¬ ((k : Nat) : Int) < 3 := by omega
   have hwd : widR R = 1 := by rw [r1]; decide
   clear r1; clear hdead hP; replace hP2 := hdh hP2
   go_upto_region 8 with (go_at_call 152; (with_reducible refine cmm (DE.out) fun w1 hb1 => ?_))
   have BT1 := hB.out.below hb1 yb; have hv1 := hv.out.below hb1 lrr; have K1 : Below w.heap.size w w1 := hb1; have j5 := BT1.cell (o := 5) rfl; have j6 := BT1.cell (o := 6) rfl; have j7 := BT1.cell (o := 7) rfl; have j8 := BT1.cell (o := 8) rfl; have j9 := BT1.cell (o := 9) rfl; have j10 := BT1.cell (o := 10) rfl; have j11 := BT1.cell (o := 11) rfl; have j12 := BT1.cell (o := 12) rfl; have yb1 := BT1.lt; replace BT1 := hdh BT1; replace hv1 := hdh hv1; replace K1 := hdh K1; clear hb1 hB hv DE; refine wp_region_tame (Held w1 0 []) (fun _ => .cells #[.int .i32 0, .int .u8 0, .int .u8 0, .int .u8 0, .int .u8 0, .int .u8 0, .int .u8 0, .int .u8 0, .int .u8 0, .bool false, .bool false] 47 (0, 0)) (w1.heap.size + 0) 10 11 (by kernel_rfl) (by kernel_rfl) (by omega) (by decide) (by kernel_rfl) (by kernel_rfl) (Held.stab _ _ _) (by (try simp) <;> omega) ⟨belt, (by (try simp) <;> omega), (by first | exact trivial | (simp only [Cells]; go_simp))⟩ ?_
   simp only [List.take_succ_cons, List.take_zero, List.drop_succ_cons, List.drop_zero]
   repeat (first | (refine' wpStB_do _ _ _; rotate_left; (focus rfl); (focus (intro w1 hS R hR; have hc := hS.cells; simp only [Cells] at hc; obtain ⟨hco, hfo⟩ := bcell hS.old; go_simp; (try go_bits); first | exact hR _ (Below.refl _ _) | fail)); simp only [pu]) | (refine wpStB_pass ?_ ?_; (focus rfl); simp only [pu]))
   refine wpStB_nil ?_
   (refine wpNews_do rfl (by intro w1 hS R hR; go_simp; exact hR) ?_; intro b9 hnb9; simp only [pu]; simp only [ptrTo])
   refine wpNews_nil ?_
   intro w9 hS hU hN
   have hl9 : b9 < w9.heap.size := hN b9 (.inr rfl); have hk9 : w1.heap.size ≤ b9 := Nat.le_of_not_lt hnb9; have B9 : Blk w9 b9 [.int .i32 0, .int .u8 0, .int .u8 0, .int .u8 0, .int .u8 0, .int .u8 0, .int .u8 0, .int .u8 0, .int .u8 0, .bool false, .bool false] 47 := hU.2; have hb9 : Below w1.heap.size w1 w9 := hS.old; clear hS hU hN; obtain ⟨k0, k1, k2, k3, k4, k5, k6, k7, k8, k9, k10⟩ := B9.c11; have kf := B9.free
   go_upto_region 10 with fail
   have B3 := Blk.put11 B9 rfl (.int .i32 R) (.int .u8 c0) (.int .u8 c1) (.int .u8 c2) (.int .u8 c3) (.int .u8 d0) (.int .u8 d1) (.int .u8 d2) (.int .u8 d3) (.bool false) (.bool false); have hb3 := put11_below hb9 hk9 (.int .i32 R) (.int .u8 c0) (.int .u8 c1) (.int .u8 c2) (.int .u8 c3) (.int .u8 d0) (.int .u8 d1) (.int .u8 d2) (.int .u8 d3) (.bool false) (.bool false); obtain ⟨W3, hW3⟩ := exx ((((((((((((w9).setCell ⟨b9, 0, none⟩ (.int .i32 R)).setCell ⟨b9, 1, none⟩ (.int .u8 c0)).setCell ⟨b9, 2, none⟩ (.int .u8 c1)).setCell ⟨b9, 3, none⟩ (.int .u8 c2)).setCell ⟨b9, 4, none⟩ (.int .u8 c3)).setCell ⟨b9, 5, none⟩ (.int .u8 d0)).setCell ⟨b9, 6, none⟩ (.int .u8 d1)).setCell ⟨b9, 7, none⟩ (.int .u8 d2)).setCell ⟨b9, 8, none⟩ (.int .u8 d3)).setCell ⟨b9, 9, none⟩ (.bool false)).setCell ⟨b9, 10, none⟩ (.bool false))
   rw [hW3] at B3 hb3 ⊢; clear hW3 B9 hb9 k0 k1 k2 k3 k4 k5 k6 k7 k8 k9 k10 kf hl9 hk9 hnb9 j5 j6 j7 j8 j9 j10 j11 j12; have BT3 := BT1.out.below hb3 yb1; have hv3 := hv1.out.below hb3 lrr; have K3 : Below w.heap.size w W3 := K1.out.trans (hb3.mono K1.out.size); have y3 := B3.lt; have yb3 := BT3.lt; replace BT3 := hdh BT3; replace hv3 := hdh hv3; replace K3 := hdh K3; clear hb3 BT1 hv1 K1 yb1; have WD2 := WD.out; simp only [hwd] at WD2; replace WD2 := hdh WD2; clear WD
   have hRN : RES = none := by have h := hP2.out; rwa [if_pos (.inl (by unfold putL; rw [hwd]; rfl))] at h
   subst hRN
   go_wp2_with (go_at_call 99; (with_reducible refine cmm (WD2.out _) fun w4 hb4 => ?_))
   go_ret; exact ⟨rfl, ⟨BT3.out.below hb4 yb3, hv3.out.below hb4 lrr⟩, (KeptBut.refl _ _).below (K3.out.trans (hb4.mono K3.out.size))⟩
  ·have u1 : (R == 65533) = false := by simp; omega
   clear r1; clear hdead hP; replace hP2 := hdh hP2
   go_upto_region 8 with (go_at_call 152; (with_reducible refine cmm (DE.out) fun w1 hb1 => ?_))
   have BT1 := hB.out.below hb1 yb; have hv1 := hv.out.below hb1 lrr; have K1 : Below w.heap.size w w1 := hb1; have j5 := BT1.cell (o := 5) rfl; have j6 := BT1.cell (o := 6) rfl; have j7 := BT1.cell (o := 7) rfl; have j8 := BT1.cell (o := 8) rfl; have j9 := BT1.cell (o := 9) rfl; have j10 := BT1.cell (o := 10) rfl; have j11 := BT1.cell (o := 11) rfl; have j12 := BT1.cell (o := 12) rfl; have yb1 := BT1.lt; replace BT1 := hdh BT1; replace hv1 := hdh hv1; replace K1 := hdh K1; clear hb1 hB hv DE; refine wp_region_tame (Held w1 0 []) (fun _ => .cells #[.int .i32 0, .int .u8 0, .int .u8 0, .int .u8 0, .int .u8 0, .int .u8 0, .int .u8 0, .int .u8 0, .int .u8 0, .bool false, .bool false] 47 (0, 0)) (w1.heap.size + 0) 10 11 (by kernel_rfl) (by kernel_rfl) (by omega) (by decide) (by kernel_rfl) (by kernel_rfl) (Held.stab _ _ _) (by (try simp) <;> omega) ⟨belt, (by (try simp) <;> omega), (by first | exact trivial | (simp only [Cells]; go_simp))⟩ ?_
   simp only [List.take_succ_cons, List.take_zero, List.drop_succ_cons, List.drop_zero]
   repeat (first | (refine' wpStB_do _ _ _; rotate_left; (focus rfl); (focus (intro w1 hS R hR; have hc := hS.cells; simp only [Cells] at hc; obtain ⟨hco, hfo⟩ := bcell hS.old; go_simp; (try go_bits); first | exact hR _ (Below.refl _ _) | fail)); simp only [pu]) | (refine wpStB_pass ?_ ?_; (focus rfl); simp only [pu]))
   refine wpStB_nil ?_
   (refine wpNews_do rfl (by intro w1 hS R hR; go_simp; exact hR) ?_; intro b9 hnb9; simp only [pu]; simp only [ptrTo])
   refine wpNews_nil ?_
   intro w9 hS hU hN
   have hl9 : b9 < w9.heap.size := hN b9 (.inr rfl); have hk9 : w1.heap.size ≤ b9 := Nat.le_of_not_lt hnb9; have B9 : Blk w9 b9 [.int .i32 0, .int .u8 0, .int .u8 0, .int .u8 0, .int .u8 0, .int .u8 0, .int .u8 0, .int .u8 0, .int .u8 0, .bool false, .bool false] 47 := hU.2; have hb9 : Below w1.heap.size w1 w9 := hS.old; clear hS hU hN; obtain ⟨k0, k1, k2, k3, k4, k5, k6, k7, k8, k9, k10⟩ := B9.c11; have kf := B9.free
   go_upto_region 10 with fail
   have B3 := Blk.put11 B9 rfl (.int .i32 R) (.int .u8 c0) (.int .u8 c1) (.int .u8 c2) (.int .u8 c3) (.int .u8 d0) (.int .u8 d1) (.int .u8 d2) (.int .u8 d3) (.bool false) (.bool false); have hb3 := put11_below hb9 hk9 (.int .i32 R) (.int .u8 c0) (.int .u8 c1) (.int .u8 c2) (.int .u8 c3) (.int .u8 d0) (.int .u8 d1) (.int .u8 d2) (.int .u8 d3) (.bool false) (.bool false); obtain ⟨W3, hW3⟩ := exx ((((((((((((w9).setCell ⟨b9, 0, none⟩ (.int .i32 R)).setCell ⟨b9, 1, none⟩ (.int .u8 c0)).setCell ⟨b9, 2, none⟩ (.int .u8 c1)).setCell ⟨b9, 3, none⟩ (.int .u8 c2)).setCell ⟨b9, 4, none⟩ (.int .u8 c3)).setCell ⟨b9, 5, none⟩ (.int .u8 d0)).setCell ⟨b9, 6, none⟩ (.int .u8 d1)).setCell ⟨b9, 7, none⟩ (.int .u8 d2)).setCell ⟨b9, 8, none⟩ (.int .u8 d3)).setCell ⟨b9, 9, none⟩ (.bool false)).setCell ⟨b9, 10, none⟩ (.bool false))
   rw [hW3] at B3 hb3 ⊢; clear hW3 B9 hb9 k0 k1 k2 k3 k4 k5 k6 k7 k8 k9 k10 kf hl9 hk9 hnb9 j5 j6 j7 j8 j9 j10 j11 j12; have BT3 := BT1.out.below hb3 yb1; have hv3 := hv1.out.below hb3 lrr; have K3 : Below w.heap.size w W3 := K1.out.trans (hb3.mono K1.out.size); have y3 := B3.lt; have yb3 := BT3.lt; replace BT3 := hdh BT3; replace hv3 := hdh hv3; replace K3 := hdh K3; clear hb3 BT1 hv1 K1 yb1
   rcases wid3 R with hwd | hwd | hwd
   ·have WD2 := WD.out
    simp only [hwd] at WD2; replace WD2 := hdh WD2; clear WD
    have hRN : RES = none := by have h := hP2.out; rwa [if_pos (.inl (by unfold putL; rw [hwd]; rfl))] at h
    subst hRN
    go_upto_region 24 with (go_at_call 99; (with_reducible refine cmm (WD2.out _) fun w4 hb4 => ?_))
    have BT4 := BT3.out.below hb4 yb3; have hv4 := hv3.out.below hb4 lrr; have K4 : Below w.heap.size w w4 := K3.out.trans (hb4.mono K3.out.size); have yb4 := BT4.lt; have j0 := BT4.cell (o := 0) rfl; have j1 := BT4.cell (o := 1) rfl; have j2 := BT4.cell (o := 2) rfl; have j3 := BT4.cell (o := 3) rfl; have j4 := BT4.cell (o := 4) rfl; replace BT4 := hdh BT4; replace hv4 := hdh hv4; replace K4 := hdh K4; clear BT3 hv3 K3 yb3 hb4; refine rst (Held w4 0 []) ?_
    repeat (first | (refine' wpSteady_do _ _ _; rotate_left; (focus rfl); (focus (intro w1 hS R hR; have hc := hS.cells; simp only [Cells] at hc; obtain ⟨hco, hfo⟩ := bcell hS.old; go_simp; (try go_bits); first | exact hR _ hS | (go_at_call 153; (with_reducible refine cmm (CI.out _) fun w2 hb2 => ?_); exact ⟨_, rfl, hR _ (hS.below hb2)⟩))); simp only [pu]) | (refine spa ?_; simp only [pu]))
    refine wpSteady_nil (fun uI hSI => ?_); obtain ⟨hcI, hbI, hzI, hcoI, hfoI⟩ := hall hSI; clear hSI; simp only [Cells] at hcI
    have ybI : b < uI.heap.size := by have := hbI.size; omega
    go_upto_region 25 with fail
    refine rst (Held uI 0 []) ?_
    repeat (first | (refine' sdo ?_; simp only [pu]) | (refine spa ?_; simp only [pu]))
    refine wpSteady_nil (fun uJ hSJ => ?_); obtain ⟨hcJ, hbJ, hzJ, hcoJ, hfoJ⟩ := hall hSJ; clear hSJ; simp only [Cells] at hcJ; have hbIJ := hbI.trans (hbJ.mono hbI.size); go_wp2; go_ret; exact ⟨rfl, ⟨BT4.out.below hbIJ yb4, hv4.out.below hbIJ lrr⟩, (KeptBut.refl _ _).below (K4.out.trans (hbIJ.mono K4.out.size))⟩
   ·have WD2 := WD.out
    simp only [hwd] at WD2; replace WD2 := hdh WD2; clear WD
    have hRN : RES = none := by have h := hP2.out; rwa [if_pos (.inl (by unfold putL; rw [hwd]; rfl))] at h
    subst hRN
    go_wp2_with (go_at_call 99; (with_reducible refine cmm (WD2.out _) fun w4 hb4 => ?_))
    go_ret; exact ⟨rfl, ⟨BT3.out.below hb4 yb3, hv3.out.below hb4 lrr⟩, (KeptBut.refl _ _).below (K3.out.trans (hb4.mono K3.out.size))⟩
   ·have WD2 := WD.out
    simp only [hwd] at WD2; replace WD2 := hdh WD2; clear WD
    go_upto_region 16 with (go_at_call 99; (with_reducible refine cmm (WD2.out _) fun w4 hb4 => ?_))
    have B4 := B3.below hb4 y3; have y4 := B4.lt; have k0z := B4.cell (o := 0) rfl; have k1z := B4.cell (o := 1) rfl; have k2z := B4.cell (o := 2) rfl; have k3z := B4.cell (o := 3) rfl; have k4z := B4.cell (o := 4) rfl; have k5z := B4.cell (o := 5) rfl; have k6z := B4.cell (o := 6) rfl; have k7z := B4.cell (o := 7) rfl; have k8z := B4.cell (o := 8) rfl; have k9z := B4.cell (o := 9) rfl; have k10z := B4.cell (o := 10) rfl
    go_cut [11, 12] (fun v11 v12 wx => ∃ b11 b12 : Nat, v11 = .pointer (some ⟨b11, 0, none⟩) ∧ v12 = .pointer (some ⟨b12, 0, none⟩) ∧ b11 ≠ b12 ∧ Blk wx b11 [.int .i32 R, .int .u8 c0, .int .u8 c1, .int .u8 c2, .int .u8 c3, .int .u8 d0, .int .u8 d1, .int .u8 d2, .int .u8 d3, .bool false, .bool false] 47 ∧ Blk wx b12 [.int .i32 R, .int .u8 c0, .int .u8 c1, .int .u8 c2, .int .u8 c3, .int .u8 d0, .int .u8 d1, .int .u8 d2, .int .u8 d3, .bool false, .bool false] 47 ∧ w4.heap.size ≤ b11 ∧ w4.heap.size ≤ b12 ∧ Below w4.heap.size w4 wx)
    case first =>
     refine held_begin (Held w4 0 []) (by kernel_rfl) ⟨Below.drew (Below.refl _ _), Nat.le_refl _, trivial⟩ (fun hS => ?_); generalize w4.drew = u0 at hS ⊢
     (refine' hdo 0 hS ?_; simp only [pu])
     (refine' hdo 1 hS ?_; simp only [pu])
     (refine' held_two (i := 2) (j := 3) rfl rfl (by kernel_rfl) _ _ _ _; (focus rfl); (focus rfl))
     ·intro K hK
      go_simp
      obtain ⟨v1, hv⟩ := exx (u0.alloc (.cells #[.int .i32 0, .int .u8 0, .int .u8 0, .int .u8 0, .int .u8 0, .int .u8 0, .int .u8 0, .int .u8 0, .int .u8 0, .bool false, .bool false] 47)); have hT := held_alloc hS hv; have Bb11 := Blk.new_eq hv; have gb11 := held_size hS; rw [hv]; clear hv; generalize u0.heap.size = b11 at Bb11 gb11 ⊢; refine hK _ _ hT ?_; clear hK hS
      (try simp only [pu])
      have hS := hT; clear hT
      (refine honn 3 fun K hK => ?_; go_simp)
      obtain ⟨v2, hv⟩ := exx (v1.alloc (.cells #[.int .i32 0, .int .u8 0, .int .u8 0, .int .u8 0, .int .u8 0, .int .u8 0, .int .u8 0, .int .u8 0, .int .u8 0, .bool false, .bool false] 47)); have hT := held_alloc hS hv; have nb11b12 : b11 ≠ v1.heap.size := Nat.ne_of_lt Bb11.lt; replace Bb11 := Bb11.alloc_eq hv; have Bb12 := Blk.new_eq hv; have gb12 := held_size hS; rw [hv]; clear hv; generalize v1.heap.size = b12 at Bb12 gb12 nb11b12 ⊢; refine hK _ _ hT ?_; clear hK hS
      (try simp only [pu])
      have hS := hT; clear hT
      (refine' held_one (i := 4) _ (by kernel_rfl) _ _; rotate_left; (focus exact geti); (focus rfl); intro K hK)
      obtain ⟨f0, f1, f2, f3, f4, f5, f6, f7, f8, f9, f10⟩ := Bb11.c11; have ff := Bb11.free; have yb := Bb11.lt
      go_simp
      obtain ⟨v3, hv⟩ := exx ((((((((((((v2).setCell ⟨b11, 0, none⟩ (.int .i32 R)).setCell ⟨b11, 1, none⟩ (.int .u8 c0)).setCell ⟨b11, 2, none⟩ (.int .u8 c1)).setCell ⟨b11, 3, none⟩ (.int .u8 c2)).setCell ⟨b11, 4, none⟩ (.int .u8 c3)).setCell ⟨b11, 5, none⟩ (.int .u8 d0)).setCell ⟨b11, 6, none⟩ (.int .u8 d1)).setCell ⟨b11, 7, none⟩ (.int .u8 d2)).setCell ⟨b11, 8, none⟩ (.int .u8 d3)).setCell ⟨b11, 9, none⟩ (.bool false)).setCell ⟨b11, 10, none⟩ (.bool false))
      have hk : KeptBut (· = b11) v2 v3 := by rw [← hv]; repeat (first | refine KeptBut.setCell ?_ _ _ rfl | exact KeptBut.refl _ _)
      have hT := held_kept hS hk gb11; replace Bb12 := Bb12.but hk (by omega); replace Bb11 := (((((((((((Bb11).set 0 (.int .i32 R)).set 1 (.int .u8 c0)).set 2 (.int .u8 c1)).set 3 (.int .u8 c2)).set 4 (.int .u8 c3)).set 5 (.int .u8 d0)).set 6 (.int .u8 d1)).set 7 (.int .u8 d2)).set 8 (.int .u8 d3)).set 9 (.bool false)).set 10 (.bool false); rw [hv] at Bb11 ⊢; clear hv hk ff yb f0 f1 f2 f3 f4 f5 f6 f7 f8 f9 f10; refine hK _ _ hT ?_; clear hK hS
      (try simp only [pu])
      have hS := hT; clear hT
      (refine' held_one (i := 5) _ (by kernel_rfl) _ _; rotate_left; (focus exact geti); (focus rfl); intro K hK)
      obtain ⟨f0, f1, f2, f3, f4, f5, f6, f7, f8, f9, f10⟩ := Bb12.c11; have ff := Bb12.free; have yb := Bb12.lt
      go_simp
      obtain ⟨v4, hv⟩ := exx ((((((((((((v3).setCell ⟨b12, 0, none⟩ (.int .i32 R)).setCell ⟨b12, 1, none⟩ (.int .u8 c0)).setCell ⟨b12, 2, none⟩ (.int .u8 c1)).setCell ⟨b12, 3, none⟩ (.int .u8 c2)).setCell ⟨b12, 4, none⟩ (.int .u8 c3)).setCell ⟨b12, 5, none⟩ (.int .u8 d0)).setCell ⟨b12, 6, none⟩ (.int .u8 d1)).setCell ⟨b12, 7, none⟩ (.int .u8 d2)).setCell ⟨b12, 8, none⟩ (.int .u8 d3)).setCell ⟨b12, 9, none⟩ (.bool false)).setCell ⟨b12, 10, none⟩ (.bool false))
      have hk : KeptBut (· = b12) v3 v4 := by rw [← hv]; repeat (first | refine KeptBut.setCell ?_ _ _ rfl | exact KeptBut.refl _ _)
      have hT := held_kept hS hk gb12; replace Bb11 := Bb11.but hk (by omega); replace Bb12 := (((((((((((Bb12).set 0 (.int .i32 R)).set 1 (.int .u8 c0)).set 2 (.int .u8 c1)).set 3 (.int .u8 c2)).set 4 (.int .u8 c3)).set 5 (.int .u8 d0)).set 6 (.int .u8 d1)).set 7 (.int .u8 d2)).set 8 (.int .u8 d3)).set 9 (.bool false)).set 10 (.bool false); rw [hv] at Bb12 ⊢; clear hv hk ff yb f0 f1 f2 f3 f4 f5 f6 f7 f8 f9 f10; refine hK _ _ hT ?_; clear hK hS
      (try simp only [pu])
      have hS := hT; clear hT; refine wpAnyH_done (by kernel_rfl) ?_ _; go_wp2; go_meet
      case rel => exact ⟨b11, b12, rfl, rfl, by omega, Bb11, Bb12, gb11, gb12, hS.1⟩
     ·intro K hK
      go_simp
      obtain ⟨v5, hv⟩ := exx (u0.alloc (.cells #[.int .i32 0, .int .u8 0, .int .u8 0, .int .u8 0, .int .u8 0, .int .u8 0, .int .u8 0, .int .u8 0, .int .u8 0, .bool false, .bool false] 47)); have hT := held_alloc hS hv; have Bb12 := Blk.new_eq hv; have gb12 := held_size hS; rw [hv]; clear hv; generalize u0.heap.size = b12 at Bb12 gb12 ⊢; refine hK _ _ hT ?_; clear hK hS
      (try simp only [pu])
      have hS := hT; clear hT
      (refine honn 2 fun K hK => ?_; go_simp)
      obtain ⟨v6, hv⟩ := exx (v5.alloc (.cells #[.int .i32 0, .int .u8 0, .int .u8 0, .int .u8 0, .int .u8 0, .int .u8 0, .int .u8 0, .int .u8 0, .int .u8 0, .bool false, .bool false] 47)); have hT := held_alloc hS hv; have nb12b11 : b12 ≠ v5.heap.size := Nat.ne_of_lt Bb12.lt; replace Bb12 := Bb12.alloc_eq hv; have Bb11 := Blk.new_eq hv; have gb11 := held_size hS; rw [hv]; clear hv; generalize v5.heap.size = b11 at Bb11 gb11 nb12b11 ⊢; refine hK _ _ hT ?_; clear hK hS
      (try simp only [pu])
      have hS := hT; clear hT
      (refine' held_one (i := 4) _ (by kernel_rfl) _ _; rotate_left; (focus exact geti); (focus rfl); intro K hK)
      obtain ⟨f0, f1, f2, f3, f4, f5, f6, f7, f8, f9, f10⟩ := Bb11.c11; have ff := Bb11.free; have yb := Bb11.lt
      go_simp
      obtain ⟨v7, hv⟩ := exx ((((((((((((v6).setCell ⟨b11, 0, none⟩ (.int .i32 R)).setCell ⟨b11, 1, none⟩ (.int .u8 c0)).setCell ⟨b11, 2, none⟩ (.int .u8 c1)).setCell ⟨b11, 3, none⟩ (.int .u8 c2)).setCell ⟨b11, 4, none⟩ (.int .u8 c3)).setCell ⟨b11, 5, none⟩ (.int .u8 d0)).setCell ⟨b11, 6, none⟩ (.int .u8 d1)).setCell ⟨b11, 7, none⟩ (.int .u8 d2)).setCell ⟨b11, 8, none⟩ (.int .u8 d3)).setCell ⟨b11, 9, none⟩ (.bool false)).setCell ⟨b11, 10, none⟩ (.bool false))
      have hk : KeptBut (· = b11) v6 v7 := by rw [← hv]; repeat (first | refine KeptBut.setCell ?_ _ _ rfl | exact KeptBut.refl _ _)
      have hT := held_kept hS hk gb11; replace Bb12 := Bb12.but hk (by omega); replace Bb11 := (((((((((((Bb11).set 0 (.int .i32 R)).set 1 (.int .u8 c0)).set 2 (.int .u8 c1)).set 3 (.int .u8 c2)).set 4 (.int .u8 c3)).set 5 (.int .u8 d0)).set 6 (.int .u8 d1)).set 7 (.int .u8 d2)).set 8 (.int .u8 d3)).set 9 (.bool false)).set 10 (.bool false); rw [hv] at Bb11 ⊢; clear hv hk ff yb f0 f1 f2 f3 f4 f5 f6 f7 f8 f9 f10; refine hK _ _ hT ?_; clear hK hS
      (try simp only [pu])
      have hS := hT; clear hT
      (refine' held_one (i := 5) _ (by kernel_rfl) _ _; rotate_left; (focus exact geti); (focus rfl); intro K hK)
      obtain ⟨f0, f1, f2, f3, f4, f5, f6, f7, f8, f9, f10⟩ := Bb12.c11; have ff := Bb12.free; have yb := Bb12.lt
      go_simp
      obtain ⟨v8, hv⟩ := exx ((((((((((((v7).setCell ⟨b12, 0, none⟩ (.int .i32 R)).setCell ⟨b12, 1, none⟩ (.int .u8 c0)).setCell ⟨b12, 2, none⟩ (.int .u8 c1)).setCell ⟨b12, 3, none⟩ (.int .u8 c2)).setCell ⟨b12, 4, none⟩ (.int .u8 c3)).setCell ⟨b12, 5, none⟩ (.int .u8 d0)).setCell ⟨b12, 6, none⟩ (.int .u8 d1)).setCell ⟨b12, 7, none⟩ (.int .u8 d2)).setCell ⟨b12, 8, none⟩ (.int .u8 d3)).setCell ⟨b12, 9, none⟩ (.bool false)).setCell ⟨b12, 10, none⟩ (.bool false))
      have hk : KeptBut (· = b12) v7 v8 := by rw [← hv]; repeat (first | refine KeptBut.setCell ?_ _ _ rfl | exact KeptBut.refl _ _)
      have hT := held_kept hS hk gb12; replace Bb11 := Bb11.but hk (by omega); replace Bb12 := (((((((((((Bb12).set 0 (.int .i32 R)).set 1 (.int .u8 c0)).set 2 (.int .u8 c1)).set 3 (.int .u8 c2)).set 4 (.int .u8 c3)).set 5 (.int .u8 d0)).set 6 (.int .u8 d1)).set 7 (.int .u8 d2)).set 8 (.int .u8 d3)).set 9 (.bool false)).set 10 (.bool false); rw [hv] at Bb12 ⊢; clear hv hk ff yb f0 f1 f2 f3 f4 f5 f6 f7 f8 f9 f10; refine hK _ _ hT ?_; clear hK hS
      (try simp only [pu])
      have hS := hT; clear hT; refine wpAnyH_done (by kernel_rfl) ?_ _; go_wp2; go_meet
      case rel => exact ⟨b11, b12, rfl, rfl, by omega, Bb11, Bb12, gb11, gb12, hS.1⟩
    case rest =>
     obtain ⟨b11, b12, rfl, rfl, n12, C11, C12, hk11, hk12, hb9⟩ := hcut; have n21 : b12 ≠ b11 := Ne.symm n12; have s9 := C11.cell (o := 9) rfl; have s10 := C12.cell (o := 10) rfl; have sf := C11.free 9; have uf := C12.free 10; have yc1 := C11.lt; have yc2 := C12.lt
     go_upto_region 18 with fail
     have D11 := (C11.set 9 (.bool true)).set_ne (a := ⟨b12, 10, none⟩) n12 (.bool true); have D12 := (C12.set_ne (a := ⟨b11, 9, none⟩) n21 (.bool true)).set 10 (.bool true); have hb10 := (hb9.setCell (p := ⟨b11, 9, none⟩) hk11 (.bool true)).setCell (p := ⟨b12, 10, none⟩) hk12 (.bool true); obtain ⟨w7, hw7⟩ := exx ((wc.setCell ⟨b11, 9, none⟩ (.bool true)).setCell ⟨b12, 10, none⟩ (.bool true)); rw [hw7] at D11 D12 hb10 ⊢; clear hw7 C11 C12 hb9 s9 s10 sf uf yc1 yc2 k0z k1z k2z k3z k4z k5z k6z k7z k8z k9z k10z B4 y4; have E11 : Blk w7 b11 [.int .i32 R, .int .u8 c0, .int .u8 c1, .int .u8 c2, .int .u8 c3, .int .u8 d0, .int .u8 d1, .int .u8 d2, .int .u8 d3, .bool true, .bool false] 47 := D11
     have E12 : Blk w7 b12 [.int .i32 R, .int .u8 c0, .int .u8 c1, .int .u8 c2, .int .u8 c3, .int .u8 d0, .int .u8 d1, .int .u8 d2, .int .u8 d3, .bool false, .bool true] 47 := D12; clear D11 D12; have k0s := E11.cell (o := 0) rfl; have k1s := E11.cell (o := 1) rfl; have k2s := E11.cell (o := 2) rfl; have k3s := E11.cell (o := 3) rfl; have k4s := E11.cell (o := 4) rfl; have k5s := E11.cell (o := 5) rfl; have k6s := E11.cell (o := 6) rfl; have k7s := E11.cell (o := 7) rfl; have k8s := E11.cell (o := 8) rfl; have k9s := E11.cell (o := 9) rfl; have k10s := E11.cell (o := 10) rfl; have k0u := E12.cell (o := 0) rfl; have k1u := E12.cell (o := 1) rfl; have k2u := E12.cell (o := 2) rfl; have k3u := E12.cell (o := 3) rfl; have k4u := E12.cell (o := 4) rfl; have k5u := E12.cell (o := 5) rfl; have k6u := E12.cell (o := 6) rfl; have k7u := E12.cell (o := 7) rfl; have k8u := E12.cell (o := 8) rfl; have k9u := E12.cell (o := 9) rfl; have k10u := E12.cell (o := 10) rfl
     have yc1 := E11.lt; have yc2 := E12.lt
     go_upto_region 24 with fail
     obtain ⟨W5, hW5⟩ := exx (w7.alloc (.cells #[.int .i32 R, .int .u8 c0, .int .u8 c1, .int .u8 c2, .int .u8 c3, .int .u8 d0, .int .u8 d1, .int .u8 d2, .int .u8 d3, .bool true, .bool false, .int .i32 R, .int .u8 c0, .int .u8 c1, .int .u8 c2, .int .u8 c3, .int .u8 d0, .int .u8 d1, .int .u8 d2, .int .u8 d3, .bool false, .bool true] 47)); obtain ⟨pb, hpb⟩ := exx (w7.heap.size)
     have BP : Blk W5 pb [.int .i32 R, .int .u8 c0, .int .u8 c1, .int .u8 c2, .int .u8 c3, .int .u8 d0, .int .u8 d1, .int .u8 d2, .int .u8 d3, .bool true, .bool false, .int .i32 R, .int .u8 c0, .int .u8 c1, .int .u8 c2, .int .u8 c3, .int .u8 d0, .int .u8 d1, .int .u8 d2, .int .u8 d3, .bool false, .bool true] 47 := by rw [← hW5]; exact Blk.new' hpb.symm
     have hb5 : Below W3.heap.size W3 W5 := by rw [← hW5]; exact (hb4.trans (hb10.mono hb4.size)).alloc (by have := hb4.size; have := hb10.size; omega) _
     rw [hW5, hpb]; clear hW5 hpb B3 y3 hb4 hb10 E11 E12 yc1 yc2 k0s k1s k2s k3s k4s k5s k6s k7s k8s k9s k10s k0u k1u k2u k3u k4u k5u k6u k7u k8u k9u k10u; have BT4 := BT3.out.below hb5 yb3; have hv4 := hv3.out.below hb5 lrr; have K4 : Below w.heap.size w W5 := K3.out.trans (hb5.mono K3.out.size); have yb4 := BT4.lt; have j0 := BT4.cell (o := 0) rfl; have j1 := BT4.cell (o := 1) rfl; have j2 := BT4.cell (o := 2) rfl; have j3 := BT4.cell (o := 3) rfl; have j4 := BT4.cell (o := 4) rfl; replace BT4 := hdh BT4; replace hv4 := hdh hv4; replace K4 := hdh K4; clear BT3 hv3 K3 yb3 hb5; replace hP2 := hP2.out
     have hPL : putL 14 R ⟨c0, c1, c2, c3⟩ ⟨d0, d1, d2, d3⟩ = [⟨R, ⟨c0, c1, c2, c3⟩, ⟨d0, d1, d2, d3⟩, true, false⟩] := by unfold putL; rw [hwd]; rfl
     rw [hPL] at hP2; have hmP : (([⟨R, ⟨c0, c1, c2, c3⟩, ⟨d0, d1, d2, d3⟩, true, false⟩] : List Ce).length : Int) = 1 := rfl; rw [hmP] at hP2
     cases hpl : plcS wd ht tx ty
     ·have hRN : RES = none := by rwa [if_pos (.inr (.inl hpl))] at hP2
      subst hRN; have CI2 := CI.out
      have hi1 : idxS wd ht tx ty = -1 := by unfold idxS; rw [hpl]; rfl
      simp only [hi1] at CI2; replace CI2 := hdh CI2; clear CI hi1; refine rst (Held W5 0 []) ?_
      repeat (first | (refine' wpSteady_do _ _ _; rotate_left; (focus rfl); (focus (intro w1 hS R hR; have hc := hS.cells; simp only [Cells] at hc; obtain ⟨hco, hfo⟩ := bcell hS.old; go_simp; (try go_bits); first | exact hR _ hS | (go_at_call 153; (with_reducible refine cmm (CI2.out _) fun w2 hb2 => ?_); exact ⟨_, rfl, hR _ (hS.below hb2)⟩))); simp only [pu]) | (refine spa ?_; simp only [pu]))
      refine wpSteady_nil (fun uI hSI => ?_); obtain ⟨hcI, hbI, hzI, hcoI, hfoI⟩ := hall hSI; clear hSI; simp only [Cells] at hcI
      have ybI : b < uI.heap.size := by have := hbI.size; omega
      go_upto_region 25 with fail
      refine rst (Held uI 0 []) ?_
      repeat (first | (refine' sdo ?_; simp only [pu]) | (refine spa ?_; simp only [pu]))
      refine wpSteady_nil (fun uJ hSJ => ?_); obtain ⟨hcJ, hbJ, hzJ, hcoJ, hfoJ⟩ := hall hSJ; clear hSJ; simp only [Cells] at hcJ; have hbIJ := hbI.trans (hbJ.mono hbI.size); go_wp2; go_ret; exact ⟨rfl, ⟨BT4.out.below hbIJ yb4, hv4.out.below hbIJ lrr⟩, (KeptBut.refl _ _).below (K4.out.trans (hbIJ.mono K4.out.size))⟩
     ·obtain ⟨p1, p2, p3, p4⟩ := plcS_true.1 hpl
      obtain ⟨z0, z1, z2, z3, z4⟩ := fitsS_true.1 hfit; obtain ⟨e1, e2⟩ := row_end z0 p2 p4; obtain ⟨I, hI⟩ : ∃ I : Nat, ty * wd + tx = I := ⟨(ty * wd + tx).toNat, by omega⟩; have CI2 := CI.out
      have hi1 : idxS wd ht tx ty = I := by unfold idxS; rw [hpl, ← hI]; rfl
      simp only [hi1] at CI2; rw [hI, Int.toNat_natCast] at hP2
      have hIn : I < cs.length := by omega
      obtain ⟨g, cap, cur, hve, hgb, hgh, hcc, hcm, hcs, hct⟩ := hv4.out.open_ (by omega); obtain ⟨n, hn⟩ := exx (cs.length)
      have hroom : I + (wd - tx).toNat ≤ n := by omega
      rw [hn] at hve hIn hcc; unfold maxLen at hcm; subst hve
      have gb : b ≠ g := by
       rintro rfl
       have h := BT4.out; unfold Blk at h; rw [hgh] at h
       injection h with h
       injection h with _ h2 _
       exact absurd h2 (by decide)
      have yg := (Array.getElem?_eq_some_iff.1 hgh).1; replace CI2 := hdh CI2; replace hI := hdh hI; clear CI hi1 e1 e2; refine rst (Held W5 0 []) ?_
      repeat (first | (refine' wpSteady_do _ _ _; rotate_left; (focus rfl); (focus (intro w1 hS R hR; have hc := hS.cells; simp only [Cells] at hc; obtain ⟨hco, hfo⟩ := bcell hS.old; go_simp; (try go_bits); first | exact hR _ hS | (go_at_call 153; (with_reducible refine cmm (CI2.out _) fun w2 hb2 => ?_); exact ⟨_, rfl, hR _ (hS.below hb2)⟩))); simp only [pu]) | (refine spa ?_; simp only [pu]))
      refine wpSteady_nil (fun uI hSI => ?_); obtain ⟨hcI, hbI, hzI, hcoI, hfoI⟩ := hall hSI; clear hSI; simp only [Cells] at hcI
      have ybI : b < uI.heap.size := by have := hbI.size; omega
      go_upto_region 25 with fail
      by_cases hrm : wd - tx < 1
      ·have hRN : RES = none := by rwa [if_pos (.inr (.inr hrm))] at hP2
       subst hRN; refine rst (Held uI 0 []) ?_
       repeat (first | (refine' sdo ?_; simp only [pu]) | (refine spa ?_; simp only [pu]))
       refine wpSteady_nil (fun uJ hSJ => ?_); obtain ⟨hcJ, hbJ, hzJ, hcoJ, hfoJ⟩ := hall hSJ; clear hSJ; simp only [Cells] at hcJ; have hbIJ := hbI.trans (hbJ.mono hbI.size); go_wp2; go_ret; exact ⟨rfl, ⟨BT4.out.below hbIJ yb4, hv4.out.below hbIJ lrr⟩, (KeptBut.refl _ _).below (K4.out.trans (hbIJ.mono K4.out.size))⟩
      ·have hPn : ([⟨R, ⟨c0, c1, c2, c3⟩, ⟨d0, d1, d2, d3⟩, true, false⟩] : List Ce) ≠ [] := by simp
       rw [if_neg (fun h => h.elim hPn (fun h => h.elim (fun h => by rw [hpl] at h; cases h) hrm))] at hP2; subst hP2
       have hIm : I + 1 ≤ n := by omega
       refine rst (Held uI 0 []) ?_
       repeat (first | (refine' sdo ?_; simp only [pu]) | (refine spa ?_; simp only [pu]))
       refine wpSteady_nil (fun uJ hSJ => ?_); obtain ⟨hcJ, hbJ, hzJ, hcoJ, hfoJ⟩ := hall hSJ; clear hSJ; simp only [Cells] at hcJ; have hbIJ := hbI.trans (hbJ.mono hbI.size)
       have yb5 : b < uJ.heap.size := by have := hbJ.size; omega
       have yg5 : g < uJ.heap.size := by have := hbIJ.size; omega
       have hIi : (I : Int) ≤ n := by omega
       have hIc : ¬ cap = I := by omega
       go_upto_region 27 with fail
       have hgJ := (hbIJ.block g yg).trans hgh; have BPJ := BP.below hbIJ BP.lt
       have hr := run_copy_rows (P := Tryz.prog) uJ 38 38 3 47 11 g (I * 11) (n - I) (cap - I) ⟨pb, 0, none⟩ 1 2 cur 47 (([⟨R, ⟨c0, c1, c2, c3⟩, ⟨d0, d1, d2, d3⟩, true, false⟩] : List Ce).flatMap Ce.enc) Tryz.underlying38 sizeCe2 hgJ
        (by rw [flat_len Ce.enc_len, show Nat.min 1 (n - I) = 1 from Nat.min_eq_left (by omega)]; rfl) (fun j u h => by
         have := BPJ.cell (o := 0 + j) (v := u) (by rw [← h, ← List.getElem?_drop]; exact List.getElem?_append_left (l₂ := ([.int .i32 R, .int .u8 c0, .int .u8 c1, .int .u8 c2, .int .u8 c3, .int .u8 d0, .int .u8 d1, .int .u8 d2, .int .u8 d3, .bool false, .bool true] : List Value)) (List.getElem?_eq_some_iff.1 h).1); rw [addr_add]
         exact this) (by rw [flat_len Ce.enc_len]; show I * 11 + 1 * 11 ≤ cur.size; omega) (flat_one2 Ce.enc_one)
       rw [show Nat.min 1 (n - I) = 1 from Nat.min_eq_left (by omega)] at hr; have OC := OwnsC.splice (p := [⟨R, ⟨c0, c1, c2, c3⟩, ⟨d0, d1, d2, d3⟩, true, false⟩]) (i := I) (cs := cs) hgb hgJ (by rw [hn]; exact hcc) (by unfold maxLen; exact hcm) hcs hct (by rw [hn]; exact hIm); rw [hn] at OC; obtain ⟨w6, hw6⟩ := exx (uJ.setRow g (cur.toList.take (I * 11) ++ ([⟨R, ⟨c0, c1, c2, c3⟩, ⟨d0, d1, d2, d3⟩, true, false⟩] : List Ce).flatMap Ce.enc ++ cur.toList.drop (I * 11 + (([⟨R, ⟨c0, c1, c2, c3⟩, ⟨d0, d1, d2, d3⟩, true, false⟩] : List Ce).flatMap Ce.enc).length)).toArray); rw [hw6] at hr OC
       have BT6 : Blk w6 b (tmC wd ht (.slice (some ⟨g, 0, none⟩) n cap) ⟨tx, ty, ⟨c0, c1, c2, c3⟩, ⟨d0, d1, d2, d3⟩⟩) 167 := by rw [← hw6]; exact (BT4.out.below hbIJ yb4).setRow_ne gb _
       have K6 : KeptBut (fun q => q = b ∨ (Value.slice (some ⟨g, 0, none⟩) n cap).ownBlock = some q) w w6 := by rw [← hw6]; exact ((KeptBut.refl _ w).below (K4.out.trans (hbIJ.mono K4.out.size))).setRow g _ (.inr rfl)
       clear hw6
       go_upto_region 28 with (refine wpList_copy_runI uJ rfl _ _ _ _ rfl _ _ (by rfl) (by rfl) hr ?_)
       have t3 := BT6.cell (o := 3) rfl; have f3 := BT6.free 3; have yb6 := BT6.lt; replace BT6 := hdh BT6; replace K6 := hdh K6; replace OC := hdh OC; clear hr hbIJ hcoJ hfoJ hcoI hfoI hcJ hcI hgJ BPJ; go_wp2; go_ret; refine ⟨?_, ⟨BT6.out.set 3 _, own_other OC.out (fun q hq => ?_) _⟩, K6.out.setCell ⟨b, 3, none⟩ _ (.inl rfl)⟩
       ·first
         | rfl
         | exact congrArg (fun z => Ending.returned (.int .i64 z)) (by omega)
       ·have e : g = q := by simpa [Value.ownBlock] using hq
        rw [← e]; exact Ne.symm gb
set_option maxRecDepth 100000 in
theorem rcell_15 (wd ht : Int) (cs : List Ce) (v : Value) (t : Tm) (c : UInt8) (r : List UInt8) (b base : Nat) (w : World) (hh : c = 15) (hB : Blk w b (tmC wd ht v t) 167) (hv : OwnsC base w v cs) (hfit : fitsS wd ht = true) (hlen : (cs.length : Int) = wd * ht) (hl : r.length < 1048576) (hD : DecT w) :
  Calls Tryz.prog 113 #[.pointer (some ⟨b, 0, none⟩), .string (strL (c :: r))] w fun e w' => e = .returned (.int .i64 (cellN (cellP wd ht cs t (c :: r)))) ∧
   TmO base b wd ht v (cellC cs (cellP wd ht cs t (c :: r))) (cellT t (cellP wd ht cs t (c :: r))) w' ∧ KeptBut (fun k => k = b ∨ v.ownBlock = some k) w w' := by
 have hc0 := strL_get c r; have hP := cellP_eq wd ht cs t c r
 have hH : halfP c = 15 := by (rw [hh]; rfl)
 have hK : skipP c = 1 := by (rw [hh]; rfl)
 have hdr := strL_from (c :: r) 1 rfl; rw [hH, hK] at hP; obtain ⟨S, hS⟩ := exx (strL (c :: r))
 have hz : S.size = r.length + 1 := by rw [← hS]; exact strL_size _
 obtain ⟨S2, hS2⟩ := exx (strL ((c :: r).drop 1)); rw [hS] at hc0 hdr ⊢; rw [hS2] at hP hdr; have hd1 := dec1 S2
 have hdv : Lib.decodeGo S2 = (65533, 0) ∨ validR ((Lib.decodeGo S2).1 : Int) = true := by
  unfold Lib.decodeGo
  split
  ·exact .inl rfl
  ·exact .inr (dec_valid S2 0)
 have DE := YtfcphagmjijmkaaGreatDoor.decR S2 w hD; obtain ⟨rn, k, hrk⟩ : ∃ rn k, Lib.decodeGo S2 = (rn, k) := ⟨_, _, rfl⟩; rw [hrk] at DE hP hd1 hdv; dsimp only at DE hP hd1 hdv
 have hs2 : S2.size ≤ 1048576 := by rw [← hS2, strL_size, List.length_drop]; simp only [List.length_cons]; omega
 have X1 := bAt_eq (s := S) (i := 0) (by omega); rw [List.length_cons] at hdr; rw [← hdr] at DE; obtain ⟨N, hN⟩ := exx (r.length); rw [hN] at hz DE hl; obtain ⟨RES, hRES⟩ := exx (cellP wd ht cs t (c :: r)); rw [hRES] at hP ⊢; obtain ⟨tx, ty, ⟨c0, c1, c2, c3⟩, ⟨d0, d1, d2, d3⟩⟩ := t; dsimp only at hP
 (replace hc0 : bAt S 0 = 15 := (by rw [hc0, hh]; rfl))
 have yb := hB.lt
 have hk4 : k ≤ 1048576 := by
  rcases hd1 with h | h
  ·omega
  ·omega
 have hrn : rn ≤ 1114111 := by
  rcases hdv with h | h
  ·injection h with h1 h2; omega
  ·unfold validR at h; simp only [Bool.or_eq_true, Bool.and_eq_true, decide_eq_true_eq] at h; omega
 clear hS hRES hrk hH hK hD hdr hS2 hs2 hd1 hdv; replace DE := hdh DE; replace hB := hdh hB; replace hv := hdh hv; replace hP := hdh hP
 have hrn0 : 0 ≤ (rn : Int) ∧ (rn : Int) ≤ 1114111 := by omega
 have hdi : (rn = 65533 ∧ k < 3) ↔ ((rn : Int) = 65533 ∧ k < 3) := by omega
 replace hP := hP.out; simp only [hdi] at hP; replace DE := DE.out; obtain ⟨R, hR⟩ : ∃ R : Int, (rn : Int) = R := ⟨_, rfl⟩; rw [hR] at hP DE hrn0; clear hdi hrn hR; replace DE := hdh DE; replace hP := hdh hP; have WD := hdh (fun w => width_any R w); have CI := hdh (fun w => cindex_any wd ht tx ty v w hfit)
 go_enter Tryz.func113, Tryz.ntmps113
 by_cases hdead : R = 65533 ∧ k < 3
 ·have hRN : RES = none := by have h := hP.out; rwa [if_pos hdead] at h
  subst hRN
  have u1 : (R == 65533) = true := by rw [hdead.1]; rfl
  have u2 : ((k : Nat) : Int) < 3 := by omega
  go_upto_region 6 with (go_at_call 152; (with_reducible refine cmm (DE.out) fun w1 hb1 => ?_))
  go_wp2; go_ret; exact ⟨rfl, ⟨hB.out.below hb1 yb, hv.out.below hb1 lrr⟩, (KeptBut.refl _ _).below hb1⟩
 ·have hP2 := hP.out
  rw [if_neg hdead] at hP2
  by_cases r1 : R = 65533
  ·have u1 : (R == 65533) = true := by rw [r1]; rfl
   have u2 : ¬ ((k : Nat) : Int) < 3 := by omega
   have hwd : widR R = 1 := by rw [r1]; decide
   clear r1; clear hdead hP; replace hP2 := hdh hP2
   go_upto_region 8 with (go_at_call 152; (with_reducible refine cmm (DE.out) fun w1 hb1 => ?_))
   have BT1 := hB.out.below hb1 yb; have hv1 := hv.out.below hb1 lrr; have K1 : Below w.heap.size w w1 := hb1; have j5 := BT1.cell (o := 5) rfl; have j6 := BT1.cell (o := 6) rfl; have j7 := BT1.cell (o := 7) rfl; have j8 := BT1.cell (o := 8) rfl; have j9 := BT1.cell (o := 9) rfl; have j10 := BT1.cell (o := 10) rfl; have j11 := BT1.cell (o := 11) rfl; have j12 := BT1.cell (o := 12) rfl; have yb1 := BT1.lt; replace BT1 := hdh BT1; replace hv1 := hdh hv1; replace K1 := hdh K1; clear hb1 hB hv DE; refine wp_region_tame (Held w1 0 []) (fun _ => .cells #[.int .i32 0, .int .u8 0, .int .u8 0, .int .u8 0, .int .u8 0, .int .u8 0, .int .u8 0, .int .u8 0, .int .u8 0, .bool false, .bool false] 47 (0, 0)) (w1.heap.size + 0) 10 11 (by kernel_rfl) (by kernel_rfl) (by omega) (by decide) (by kernel_rfl) (by kernel_rfl) (Held.stab _ _ _) (by (try simp) <;> omega) ⟨belt, (by (try simp) <;> omega), (by first | exact trivial | (simp only [Cells]; go_simp))⟩ ?_
   simp only [List.take_succ_cons, List.take_zero, List.drop_succ_cons, List.drop_zero]
   repeat (first | (refine' wpStB_do _ _ _; rotate_left; (focus rfl); (focus (intro w1 hS R hR; have hc := hS.cells; simp only [Cells] at hc; obtain ⟨hco, hfo⟩ := bcell hS.old; go_simp; (try go_bits); first | exact hR _ (Below.refl _ _) | fail)); simp only [pu]) | (refine wpStB_pass ?_ ?_; (focus rfl); simp only [pu]))
   refine wpStB_nil ?_
   (refine wpNews_do rfl (by intro w1 hS R hR; go_simp; exact hR) ?_; intro b9 hnb9; simp only [pu]; simp only [ptrTo])
   refine wpNews_nil ?_
   intro w9 hS hU hN
   have hl9 : b9 < w9.heap.size := hN b9 (.inr rfl); have hk9 : w1.heap.size ≤ b9 := Nat.le_of_not_lt hnb9; have B9 : Blk w9 b9 [.int .i32 0, .int .u8 0, .int .u8 0, .int .u8 0, .int .u8 0, .int .u8 0, .int .u8 0, .int .u8 0, .int .u8 0, .bool false, .bool false] 47 := hU.2; have hb9 : Below w1.heap.size w1 w9 := hS.old; clear hS hU hN; obtain ⟨k0, k1, k2, k3, k4, k5, k6, k7, k8, k9, k10⟩ := B9.c11; have kf := B9.free
   go_upto_region 10 with fail
   have B3 := Blk.put11 B9 rfl (.int .i32 R) (.int .u8 c0) (.int .u8 c1) (.int .u8 c2) (.int .u8 c3) (.int .u8 d0) (.int .u8 d1) (.int .u8 d2) (.int .u8 d3) (.bool false) (.bool false); have hb3 := put11_below hb9 hk9 (.int .i32 R) (.int .u8 c0) (.int .u8 c1) (.int .u8 c2) (.int .u8 c3) (.int .u8 d0) (.int .u8 d1) (.int .u8 d2) (.int .u8 d3) (.bool false) (.bool false); obtain ⟨W3, hW3⟩ := exx ((((((((((((w9).setCell ⟨b9, 0, none⟩ (.int .i32 R)).setCell ⟨b9, 1, none⟩ (.int .u8 c0)).setCell ⟨b9, 2, none⟩ (.int .u8 c1)).setCell ⟨b9, 3, none⟩ (.int .u8 c2)).setCell ⟨b9, 4, none⟩ (.int .u8 c3)).setCell ⟨b9, 5, none⟩ (.int .u8 d0)).setCell ⟨b9, 6, none⟩ (.int .u8 d1)).setCell ⟨b9, 7, none⟩ (.int .u8 d2)).setCell ⟨b9, 8, none⟩ (.int .u8 d3)).setCell ⟨b9, 9, none⟩ (.bool false)).setCell ⟨b9, 10, none⟩ (.bool false))
   rw [hW3] at B3 hb3 ⊢; clear hW3 B9 hb9 k0 k1 k2 k3 k4 k5 k6 k7 k8 k9 k10 kf hl9 hk9 hnb9 j5 j6 j7 j8 j9 j10 j11 j12; have BT3 := BT1.out.below hb3 yb1; have hv3 := hv1.out.below hb3 lrr; have K3 : Below w.heap.size w W3 := K1.out.trans (hb3.mono K1.out.size); have y3 := B3.lt; have yb3 := BT3.lt; replace BT3 := hdh BT3; replace hv3 := hdh hv3; replace K3 := hdh K3; clear hb3 BT1 hv1 K1 yb1; have WD2 := WD.out; simp only [hwd] at WD2; replace WD2 := hdh WD2; clear WD
   have hRN : RES = none := by have h := hP2.out; rwa [if_pos (.inl (by unfold putL; rw [hwd]; rfl))] at h
   subst hRN
   go_wp2_with (go_at_call 99; (with_reducible refine cmm (WD2.out _) fun w4 hb4 => ?_))
   go_ret; exact ⟨rfl, ⟨BT3.out.below hb4 yb3, hv3.out.below hb4 lrr⟩, (KeptBut.refl _ _).below (K3.out.trans (hb4.mono K3.out.size))⟩
  ·have u1 : (R == 65533) = false := by simp; omega
   clear r1; clear hdead hP; replace hP2 := hdh hP2
   go_upto_region 8 with (go_at_call 152; (with_reducible refine cmm (DE.out) fun w1 hb1 => ?_))
   have BT1 := hB.out.below hb1 yb; have hv1 := hv.out.below hb1 lrr; have K1 : Below w.heap.size w w1 := hb1; have j5 := BT1.cell (o := 5) rfl; have j6 := BT1.cell (o := 6) rfl; have j7 := BT1.cell (o := 7) rfl; have j8 := BT1.cell (o := 8) rfl; have j9 := BT1.cell (o := 9) rfl; have j10 := BT1.cell (o := 10) rfl; have j11 := BT1.cell (o := 11) rfl; have j12 := BT1.cell (o := 12) rfl; have yb1 := BT1.lt; replace BT1 := hdh BT1; replace hv1 := hdh hv1; replace K1 := hdh K1; clear hb1 hB hv DE; refine wp_region_tame (Held w1 0 []) (fun _ => .cells #[.int .i32 0, .int .u8 0, .int .u8 0, .int .u8 0, .int .u8 0, .int .u8 0, .int .u8 0, .int .u8 0, .int .u8 0, .bool false, .bool false] 47 (0, 0)) (w1.heap.size + 0) 10 11 (by kernel_rfl) (by kernel_rfl) (by omega) (by decide) (by kernel_rfl) (by kernel_rfl) (Held.stab _ _ _) (by (try simp) <;> omega) ⟨belt, (by (try simp) <;> omega), (by first | exact trivial | (simp only [Cells]; go_simp))⟩ ?_
   simp only [List.take_succ_cons, List.take_zero, List.drop_succ_cons, List.drop_zero]
   repeat (first | (refine' wpStB_do _ _ _; rotate_left; (focus rfl); (focus (intro w1 hS R hR; have hc := hS.cells; simp only [Cells] at hc; obtain ⟨hco, hfo⟩ := bcell hS.old; go_simp; (try go_bits); first | exact hR _ (Below.refl _ _) | fail)); simp only [pu]) | (refine wpStB_pass ?_ ?_; (focus rfl); simp only [pu]))
   refine wpStB_nil ?_
   (refine wpNews_do rfl (by intro w1 hS R hR; go_simp; exact hR) ?_; intro b9 hnb9; simp only [pu]; simp only [ptrTo])
   refine wpNews_nil ?_
   intro w9 hS hU hN
   have hl9 : b9 < w9.heap.size := hN b9 (.inr rfl); have hk9 : w1.heap.size ≤ b9 := Nat.le_of_not_lt hnb9; have B9 : Blk w9 b9 [.int .i32 0, .int .u8 0, .int .u8 0, .int .u8 0, .int .u8 0, .int .u8 0, .int .u8 0, .int .u8 0, .int .u8 0, .bool false, .bool false] 47 := hU.2; have hb9 : Below w1.heap.size w1 w9 := hS.old; clear hS hU hN; obtain ⟨k0, k1, k2, k3, k4, k5, k6, k7, k8, k9, k10⟩ := B9.c11; have kf := B9.free
   go_upto_region 10 with fail
   have B3 := Blk.put11 B9 rfl (.int .i32 R) (.int .u8 c0) (.int .u8 c1) (.int .u8 c2) (.int .u8 c3) (.int .u8 d0) (.int .u8 d1) (.int .u8 d2) (.int .u8 d3) (.bool false) (.bool false); have hb3 := put11_below hb9 hk9 (.int .i32 R) (.int .u8 c0) (.int .u8 c1) (.int .u8 c2) (.int .u8 c3) (.int .u8 d0) (.int .u8 d1) (.int .u8 d2) (.int .u8 d3) (.bool false) (.bool false); obtain ⟨W3, hW3⟩ := exx ((((((((((((w9).setCell ⟨b9, 0, none⟩ (.int .i32 R)).setCell ⟨b9, 1, none⟩ (.int .u8 c0)).setCell ⟨b9, 2, none⟩ (.int .u8 c1)).setCell ⟨b9, 3, none⟩ (.int .u8 c2)).setCell ⟨b9, 4, none⟩ (.int .u8 c3)).setCell ⟨b9, 5, none⟩ (.int .u8 d0)).setCell ⟨b9, 6, none⟩ (.int .u8 d1)).setCell ⟨b9, 7, none⟩ (.int .u8 d2)).setCell ⟨b9, 8, none⟩ (.int .u8 d3)).setCell ⟨b9, 9, none⟩ (.bool false)).setCell ⟨b9, 10, none⟩ (.bool false))
   rw [hW3] at B3 hb3 ⊢; clear hW3 B9 hb9 k0 k1 k2 k3 k4 k5 k6 k7 k8 k9 k10 kf hl9 hk9 hnb9 j5 j6 j7 j8 j9 j10 j11 j12; have BT3 := BT1.out.below hb3 yb1; have hv3 := hv1.out.below hb3 lrr; have K3 : Below w.heap.size w W3 := K1.out.trans (hb3.mono K1.out.size); have y3 := B3.lt; have yb3 := BT3.lt; replace BT3 := hdh BT3; replace hv3 := hdh hv3; replace K3 := hdh K3; clear hb3 BT1 hv1 K1 yb1
   rcases wid3 R with hwd | hwd | hwd
   ·have WD2 := WD.out
    simp only [hwd] at WD2; replace WD2 := hdh WD2; clear WD
    have hRN : RES = none := by have h := hP2.out; rwa [if_pos (.inl (by unfold putL; rw [hwd]; rfl))] at h
    subst hRN
    go_upto_region 24 with (go_at_call 99; (with_reducible refine cmm (WD2.out _) fun w4 hb4 => ?_))
    have BT4 := BT3.out.below hb4 yb3; have hv4 := hv3.out.below hb4 lrr; have K4 : Below w.heap.size w w4 := K3.out.trans (hb4.mono K3.out.size); have yb4 := BT4.lt; have j0 := BT4.cell (o := 0) rfl; have j1 := BT4.cell (o := 1) rfl; have j2 := BT4.cell (o := 2) rfl; have j3 := BT4.cell (o := 3) rfl; have j4 := BT4.cell (o := 4) rfl; replace BT4 := hdh BT4; replace hv4 := hdh hv4; replace K4 := hdh K4; clear BT3 hv3 K3 yb3 hb4; refine rst (Held w4 0 []) ?_
    repeat (first | (refine' wpSteady_do _ _ _; rotate_left; (focus rfl); (focus (intro w1 hS R hR; have hc := hS.cells; simp only [Cells] at hc; obtain ⟨hco, hfo⟩ := bcell hS.old; go_simp; (try go_bits); first | exact hR _ hS | (go_at_call 153; (with_reducible refine cmm (CI.out _) fun w2 hb2 => ?_); exact ⟨_, rfl, hR _ (hS.below hb2)⟩))); simp only [pu]) | (refine spa ?_; simp only [pu]))
    refine wpSteady_nil (fun uI hSI => ?_); obtain ⟨hcI, hbI, hzI, hcoI, hfoI⟩ := hall hSI; clear hSI; simp only [Cells] at hcI
    have ybI : b < uI.heap.size := by have := hbI.size; omega
    go_upto_region 25 with fail
    refine rst (Held uI 0 []) ?_
    repeat (first | (refine' sdo ?_; simp only [pu]) | (refine spa ?_; simp only [pu]))
    refine wpSteady_nil (fun uJ hSJ => ?_); obtain ⟨hcJ, hbJ, hzJ, hcoJ, hfoJ⟩ := hall hSJ; clear hSJ; simp only [Cells] at hcJ; have hbIJ := hbI.trans (hbJ.mono hbI.size); go_wp2; go_ret; exact ⟨rfl, ⟨BT4.out.below hbIJ yb4, hv4.out.below hbIJ lrr⟩, (KeptBut.refl _ _).below (K4.out.trans (hbIJ.mono K4.out.size))⟩
   ·have WD2 := WD.out
    simp only [hwd] at WD2; replace WD2 := hdh WD2; clear WD
    have hRN : RES = none := by have h := hP2.out; rwa [if_pos (.inl (by unfold putL; rw [hwd]; rfl))] at h
    subst hRN
    go_wp2_with (go_at_call 99; (with_reducible refine cmm (WD2.out _) fun w4 hb4 => ?_))
    go_ret; exact ⟨rfl, ⟨BT3.out.below hb4 yb3, hv3.out.below hb4 lrr⟩, (KeptBut.refl _ _).below (K3.out.trans (hb4.mono K3.out.size))⟩
   ·have WD2 := WD.out
    simp only [hwd] at WD2; replace WD2 := hdh WD2; clear WD
    go_upto_region 16 with (go_at_call 99; (with_reducible refine cmm (WD2.out _) fun w4 hb4 => ?_))
    have B4 := B3.below hb4 y3; have y4 := B4.lt; have k0z := B4.cell (o := 0) rfl; have k1z := B4.cell (o := 1) rfl; have k2z := B4.cell (o := 2) rfl; have k3z := B4.cell (o := 3) rfl; have k4z := B4.cell (o := 4) rfl; have k5z := B4.cell (o := 5) rfl; have k6z := B4.cell (o := 6) rfl; have k7z := B4.cell (o := 7) rfl; have k8z := B4.cell (o := 8) rfl; have k9z := B4.cell (o := 9) rfl; have k10z := B4.cell (o := 10) rfl
    go_cut [11, 12] (fun v11 v12 wx => ∃ b11 b12 : Nat, v11 = .pointer (some ⟨b11, 0, none⟩) ∧ v12 = .pointer (some ⟨b12, 0, none⟩) ∧ b11 ≠ b12 ∧ Blk wx b11 [.int .i32 R, .int .u8 c0, .int .u8 c1, .int .u8 c2, .int .u8 c3, .int .u8 d0, .int .u8 d1, .int .u8 d2, .int .u8 d3, .bool false, .bool false] 47 ∧ Blk wx b12 [.int .i32 R, .int .u8 c0, .int .u8 c1, .int .u8 c2, .int .u8 c3, .int .u8 d0, .int .u8 d1, .int .u8 d2, .int .u8 d3, .bool false, .bool false] 47 ∧ w4.heap.size ≤ b11 ∧ w4.heap.size ≤ b12 ∧ Below w4.heap.size w4 wx)
    case first =>
     refine held_begin (Held w4 0 []) (by kernel_rfl) ⟨Below.drew (Below.refl _ _), Nat.le_refl _, trivial⟩ (fun hS => ?_); generalize w4.drew = u0 at hS ⊢
     (refine' hdo 0 hS ?_; simp only [pu])
     (refine' hdo 1 hS ?_; simp only [pu])
     (refine' held_two (i := 2) (j := 3) rfl rfl (by kernel_rfl) _ _ _ _; (focus rfl); (focus rfl))
     ·intro K hK
      go_simp
      obtain ⟨v1, hv⟩ := exx (u0.alloc (.cells #[.int .i32 0, .int .u8 0, .int .u8 0, .int .u8 0, .int .u8 0, .int .u8 0, .int .u8 0, .int .u8 0, .int .u8 0, .bool false, .bool false] 47)); have hT := held_alloc hS hv; have Bb11 := Blk.new_eq hv; have gb11 := held_size hS; rw [hv]; clear hv; generalize u0.heap.size = b11 at Bb11 gb11 ⊢; refine hK _ _ hT ?_; clear hK hS
      (try simp only [pu])
      have hS := hT; clear hT
      (refine honn 3 fun K hK => ?_; go_simp)
      obtain ⟨v2, hv⟩ := exx (v1.alloc (.cells #[.int .i32 0, .int .u8 0, .int .u8 0, .int .u8 0, .int .u8 0, .int .u8 0, .int .u8 0, .int .u8 0, .int .u8 0, .bool false, .bool false] 47)); have hT := held_alloc hS hv; have nb11b12 : b11 ≠ v1.heap.size := Nat.ne_of_lt Bb11.lt; replace Bb11 := Bb11.alloc_eq hv; have Bb12 := Blk.new_eq hv; have gb12 := held_size hS; rw [hv]; clear hv; generalize v1.heap.size = b12 at Bb12 gb12 nb11b12 ⊢; refine hK _ _ hT ?_; clear hK hS
      (try simp only [pu])
      have hS := hT; clear hT
      (refine' held_one (i := 4) _ (by kernel_rfl) _ _; rotate_left; (focus exact geti); (focus rfl); intro K hK)
      obtain ⟨f0, f1, f2, f3, f4, f5, f6, f7, f8, f9, f10⟩ := Bb11.c11; have ff := Bb11.free; have yb := Bb11.lt
      go_simp
      obtain ⟨v3, hv⟩ := exx ((((((((((((v2).setCell ⟨b11, 0, none⟩ (.int .i32 R)).setCell ⟨b11, 1, none⟩ (.int .u8 c0)).setCell ⟨b11, 2, none⟩ (.int .u8 c1)).setCell ⟨b11, 3, none⟩ (.int .u8 c2)).setCell ⟨b11, 4, none⟩ (.int .u8 c3)).setCell ⟨b11, 5, none⟩ (.int .u8 d0)).setCell ⟨b11, 6, none⟩ (.int .u8 d1)).setCell ⟨b11, 7, none⟩ (.int .u8 d2)).setCell ⟨b11, 8, none⟩ (.int .u8 d3)).setCell ⟨b11, 9, none⟩ (.bool false)).setCell ⟨b11, 10, none⟩ (.bool false))
      have hk : KeptBut (· = b11) v2 v3 := by rw [← hv]; repeat (first | refine KeptBut.setCell ?_ _ _ rfl | exact KeptBut.refl _ _)
      have hT := held_kept hS hk gb11; replace Bb12 := Bb12.but hk (by omega); replace Bb11 := (((((((((((Bb11).set 0 (.int .i32 R)).set 1 (.int .u8 c0)).set 2 (.int .u8 c1)).set 3 (.int .u8 c2)).set 4 (.int .u8 c3)).set 5 (.int .u8 d0)).set 6 (.int .u8 d1)).set 7 (.int .u8 d2)).set 8 (.int .u8 d3)).set 9 (.bool false)).set 10 (.bool false); rw [hv] at Bb11 ⊢; clear hv hk ff yb f0 f1 f2 f3 f4 f5 f6 f7 f8 f9 f10; refine hK _ _ hT ?_; clear hK hS
      (try simp only [pu])
      have hS := hT; clear hT
      (refine' held_one (i := 5) _ (by kernel_rfl) _ _; rotate_left; (focus exact geti); (focus rfl); intro K hK)
      obtain ⟨f0, f1, f2, f3, f4, f5, f6, f7, f8, f9, f10⟩ := Bb12.c11; have ff := Bb12.free; have yb := Bb12.lt
      go_simp
      obtain ⟨v4, hv⟩ := exx ((((((((((((v3).setCell ⟨b12, 0, none⟩ (.int .i32 R)).setCell ⟨b12, 1, none⟩ (.int .u8 c0)).setCell ⟨b12, 2, none⟩ (.int .u8 c1)).setCell ⟨b12, 3, none⟩ (.int .u8 c2)).setCell ⟨b12, 4, none⟩ (.int .u8 c3)).setCell ⟨b12, 5, none⟩ (.int .u8 d0)).setCell ⟨b12, 6, none⟩ (.int .u8 d1)).setCell ⟨b12, 7, none⟩ (.int .u8 d2)).setCell ⟨b12, 8, none⟩ (.int .u8 d3)).setCell ⟨b12, 9, none⟩ (.bool false)).setCell ⟨b12, 10, none⟩ (.bool false))
      have hk : KeptBut (· = b12) v3 v4 := by rw [← hv]; repeat (first | refine KeptBut.setCell ?_ _ _ rfl | exact KeptBut.refl _ _)
      have hT := held_kept hS hk gb12; replace Bb11 := Bb11.but hk (by omega); replace Bb12 := (((((((((((Bb12).set 0 (.int .i32 R)).set 1 (.int .u8 c0)).set 2 (.int .u8 c1)).set 3 (.int .u8 c2)).set 4 (.int .u8 c3)).set 5 (.int .u8 d0)).set 6 (.int .u8 d1)).set 7 (.int .u8 d2)).set 8 (.int .u8 d3)).set 9 (.bool false)).set 10 (.bool false); rw [hv] at Bb12 ⊢; clear hv hk ff yb f0 f1 f2 f3 f4 f5 f6 f7 f8 f9 f10; refine hK _ _ hT ?_; clear hK hS
      (try simp only [pu])
      have hS := hT; clear hT; refine wpAnyH_done (by kernel_rfl) ?_ _; go_wp2; go_meet
      case rel => exact ⟨b11, b12, rfl, rfl, by omega, Bb11, Bb12, gb11, gb12, hS.1⟩
     ·intro K hK
      go_simp
      obtain ⟨v5, hv⟩ := exx (u0.alloc (.cells #[.int .i32 0, .int .u8 0, .int .u8 0, .int .u8 0, .int .u8 0, .int .u8 0, .int .u8 0, .int .u8 0, .int .u8 0, .bool false, .bool false] 47)); have hT := held_alloc hS hv; have Bb12 := Blk.new_eq hv; have gb12 := held_size hS; rw [hv]; clear hv; generalize u0.heap.size = b12 at Bb12 gb12 ⊢; refine hK _ _ hT ?_; clear hK hS
      (try simp only [pu])
      have hS := hT; clear hT
      (refine honn 2 fun K hK => ?_; go_simp)
      obtain ⟨v6, hv⟩ := exx (v5.alloc (.cells #[.int .i32 0, .int .u8 0, .int .u8 0, .int .u8 0, .int .u8 0, .int .u8 0, .int .u8 0, .int .u8 0, .int .u8 0, .bool false, .bool false] 47)); have hT := held_alloc hS hv; have nb12b11 : b12 ≠ v5.heap.size := Nat.ne_of_lt Bb12.lt; replace Bb12 := Bb12.alloc_eq hv; have Bb11 := Blk.new_eq hv; have gb11 := held_size hS; rw [hv]; clear hv; generalize v5.heap.size = b11 at Bb11 gb11 nb12b11 ⊢; refine hK _ _ hT ?_; clear hK hS
      (try simp only [pu])
      have hS := hT; clear hT
      (refine' held_one (i := 4) _ (by kernel_rfl) _ _; rotate_left; (focus exact geti); (focus rfl); intro K hK)
      obtain ⟨f0, f1, f2, f3, f4, f5, f6, f7, f8, f9, f10⟩ := Bb11.c11; have ff := Bb11.free; have yb := Bb11.lt
      go_simp
      obtain ⟨v7, hv⟩ := exx ((((((((((((v6).setCell ⟨b11, 0, none⟩ (.int .i32 R)).setCell ⟨b11, 1, none⟩ (.int .u8 c0)).setCell ⟨b11, 2, none⟩ (.int .u8 c1)).setCell ⟨b11, 3, none⟩ (.int .u8 c2)).setCell ⟨b11, 4, none⟩ (.int .u8 c3)).setCell ⟨b11, 5, none⟩ (.int .u8 d0)).setCell ⟨b11, 6, none⟩ (.int .u8 d1)).setCell ⟨b11, 7, none⟩ (.int .u8 d2)).setCell ⟨b11, 8, none⟩ (.int .u8 d3)).setCell ⟨b11, 9, none⟩ (.bool false)).setCell ⟨b11, 10, none⟩ (.bool false))
      have hk : KeptBut (· = b11) v6 v7 := by rw [← hv]; repeat (first | refine KeptBut.setCell ?_ _ _ rfl | exact KeptBut.refl _ _)
      have hT := held_kept hS hk gb11; replace Bb12 := Bb12.but hk (by omega); replace Bb11 := (((((((((((Bb11).set 0 (.int .i32 R)).set 1 (.int .u8 c0)).set 2 (.int .u8 c1)).set 3 (.int .u8 c2)).set 4 (.int .u8 c3)).set 5 (.int .u8 d0)).set 6 (.int .u8 d1)).set 7 (.int .u8 d2)).set 8 (.int .u8 d3)).set 9 (.bool false)).set 10 (.bool false); rw [hv] at Bb11 ⊢; clear hv hk ff yb f0 f1 f2 f3 f4 f5 f6 f7 f8 f9 f10; refine hK _ _ hT ?_; clear hK hS
      (try simp only [pu])
      have hS := hT; clear hT
      (refine' held_one (i := 5) _ (by kernel_rfl) _ _; rotate_left; (focus exact geti); (focus rfl); intro K hK)
      obtain ⟨f0, f1, f2, f3, f4, f5, f6, f7, f8, f9, f10⟩ := Bb12.c11; have ff := Bb12.free; have yb := Bb12.lt
      go_simp
      obtain ⟨v8, hv⟩ := exx ((((((((((((v7).setCell ⟨b12, 0, none⟩ (.int .i32 R)).setCell ⟨b12, 1, none⟩ (.int .u8 c0)).setCell ⟨b12, 2, none⟩ (.int .u8 c1)).setCell ⟨b12, 3, none⟩ (.int .u8 c2)).setCell ⟨b12, 4, none⟩ (.int .u8 c3)).setCell ⟨b12, 5, none⟩ (.int .u8 d0)).setCell ⟨b12, 6, none⟩ (.int .u8 d1)).setCell ⟨b12, 7, none⟩ (.int .u8 d2)).setCell ⟨b12, 8, none⟩ (.int .u8 d3)).setCell ⟨b12, 9, none⟩ (.bool false)).setCell ⟨b12, 10, none⟩ (.bool false))
      have hk : KeptBut (· = b12) v7 v8 := by rw [← hv]; repeat (first | refine KeptBut.setCell ?_ _ _ rfl | exact KeptBut.refl _ _)
      have hT := held_kept hS hk gb12; replace Bb11 := Bb11.but hk (by omega); replace Bb12 := (((((((((((Bb12).set 0 (.int .i32 R)).set 1 (.int .u8 c0)).set 2 (.int .u8 c1)).set 3 (.int .u8 c2)).set 4 (.int .u8 c3)).set 5 (.int .u8 d0)).set 6 (.int .u8 d1)).set 7 (.int .u8 d2)).set 8 (.int .u8 d3)).set 9 (.bool false)).set 10 (.bool false); rw [hv] at Bb12 ⊢; clear hv hk ff yb f0 f1 f2 f3 f4 f5 f6 f7 f8 f9 f10; refine hK _ _ hT ?_; clear hK hS
      (try simp only [pu])
      have hS := hT; clear hT; refine wpAnyH_done (by kernel_rfl) ?_ _; go_wp2; go_meet
      case rel => exact ⟨b11, b12, rfl, rfl, by omega, Bb11, Bb12, gb11, gb12, hS.1⟩
    case rest =>
     obtain ⟨b11, b12, rfl, rfl, n12, C11, C12, hk11, hk12, hb9⟩ := hcut; have n21 : b12 ≠ b11 := Ne.symm n12; have s9 := C11.cell (o := 9) rfl; have s10 := C12.cell (o := 10) rfl; have sf := C11.free 9; have uf := C12.free 10; have yc1 := C11.lt; have yc2 := C12.lt
     go_upto_region 18 with fail
     have D11 := (C11.set 9 (.bool true)).set_ne (a := ⟨b12, 10, none⟩) n12 (.bool true); have D12 := (C12.set_ne (a := ⟨b11, 9, none⟩) n21 (.bool true)).set 10 (.bool true); have hb10 := (hb9.setCell (p := ⟨b11, 9, none⟩) hk11 (.bool true)).setCell (p := ⟨b12, 10, none⟩) hk12 (.bool true); obtain ⟨w7, hw7⟩ := exx ((wc.setCell ⟨b11, 9, none⟩ (.bool true)).setCell ⟨b12, 10, none⟩ (.bool true)); rw [hw7] at D11 D12 hb10 ⊢; clear hw7 C11 C12 hb9 s9 s10 sf uf yc1 yc2 k0z k1z k2z k3z k4z k5z k6z k7z k8z k9z k10z B4 y4; have E11 : Blk w7 b11 [.int .i32 R, .int .u8 c0, .int .u8 c1, .int .u8 c2, .int .u8 c3, .int .u8 d0, .int .u8 d1, .int .u8 d2, .int .u8 d3, .bool true, .bool false] 47 := D11
     have E12 : Blk w7 b12 [.int .i32 R, .int .u8 c0, .int .u8 c1, .int .u8 c2, .int .u8 c3, .int .u8 d0, .int .u8 d1, .int .u8 d2, .int .u8 d3, .bool false, .bool true] 47 := D12; clear D11 D12; have k0s := E11.cell (o := 0) rfl; have k1s := E11.cell (o := 1) rfl; have k2s := E11.cell (o := 2) rfl; have k3s := E11.cell (o := 3) rfl; have k4s := E11.cell (o := 4) rfl; have k5s := E11.cell (o := 5) rfl; have k6s := E11.cell (o := 6) rfl; have k7s := E11.cell (o := 7) rfl; have k8s := E11.cell (o := 8) rfl; have k9s := E11.cell (o := 9) rfl; have k10s := E11.cell (o := 10) rfl; have k0u := E12.cell (o := 0) rfl; have k1u := E12.cell (o := 1) rfl; have k2u := E12.cell (o := 2) rfl; have k3u := E12.cell (o := 3) rfl; have k4u := E12.cell (o := 4) rfl; have k5u := E12.cell (o := 5) rfl; have k6u := E12.cell (o := 6) rfl; have k7u := E12.cell (o := 7) rfl; have k8u := E12.cell (o := 8) rfl; have k9u := E12.cell (o := 9) rfl; have k10u := E12.cell (o := 10) rfl
     have yc1 := E11.lt; have yc2 := E12.lt
     go_upto_region 24 with fail
     obtain ⟨W5, hW5⟩ := exx (w7.alloc (.cells #[.int .i32 R, .int .u8 c0, .int .u8 c1, .int .u8 c2, .int .u8 c3, .int .u8 d0, .int .u8 d1, .int .u8 d2, .int .u8 d3, .bool true, .bool false, .int .i32 R, .int .u8 c0, .int .u8 c1, .int .u8 c2, .int .u8 c3, .int .u8 d0, .int .u8 d1, .int .u8 d2, .int .u8 d3, .bool false, .bool true] 47)); obtain ⟨pb, hpb⟩ := exx (w7.heap.size)
     have BP : Blk W5 pb [.int .i32 R, .int .u8 c0, .int .u8 c1, .int .u8 c2, .int .u8 c3, .int .u8 d0, .int .u8 d1, .int .u8 d2, .int .u8 d3, .bool true, .bool false, .int .i32 R, .int .u8 c0, .int .u8 c1, .int .u8 c2, .int .u8 c3, .int .u8 d0, .int .u8 d1, .int .u8 d2, .int .u8 d3, .bool false, .bool true] 47 := by rw [← hW5]; exact Blk.new' hpb.symm
     have hb5 : Below W3.heap.size W3 W5 := by rw [← hW5]; exact (hb4.trans (hb10.mono hb4.size)).alloc (by have := hb4.size; have := hb10.size; omega) _
     rw [hW5, hpb]; clear hW5 hpb B3 y3 hb4 hb10 E11 E12 yc1 yc2 k0s k1s k2s k3s k4s k5s k6s k7s k8s k9s k10s k0u k1u k2u k3u k4u k5u k6u k7u k8u k9u k10u; have BT4 := BT3.out.below hb5 yb3; have hv4 := hv3.out.below hb5 lrr; have K4 : Below w.heap.size w W5 := K3.out.trans (hb5.mono K3.out.size); have yb4 := BT4.lt; have j0 := BT4.cell (o := 0) rfl; have j1 := BT4.cell (o := 1) rfl; have j2 := BT4.cell (o := 2) rfl; have j3 := BT4.cell (o := 3) rfl; have j4 := BT4.cell (o := 4) rfl; replace BT4 := hdh BT4; replace hv4 := hdh hv4; replace K4 := hdh K4; clear BT3 hv3 K3 yb3 hb5; replace hP2 := hP2.out
     have hPL : putL 15 R ⟨c0, c1, c2, c3⟩ ⟨d0, d1, d2, d3⟩ = [⟨R, ⟨c0, c1, c2, c3⟩, ⟨d0, d1, d2, d3⟩, false, true⟩] := by unfold putL; rw [hwd]; rfl
     rw [hPL] at hP2; have hmP : (([⟨R, ⟨c0, c1, c2, c3⟩, ⟨d0, d1, d2, d3⟩, false, true⟩] : List Ce).length : Int) = 1 := rfl; rw [hmP] at hP2
     cases hpl : plcS wd ht tx ty
     ·have hRN : RES = none := by rwa [if_pos (.inr (.inl hpl))] at hP2
      subst hRN; have CI2 := CI.out
      have hi1 : idxS wd ht tx ty = -1 := by unfold idxS; rw [hpl]; rfl
      simp only [hi1] at CI2; replace CI2 := hdh CI2; clear CI hi1; refine rst (Held W5 0 []) ?_
      repeat (first | (refine' wpSteady_do _ _ _; rotate_left; (focus rfl); (focus (intro w1 hS R hR; have hc := hS.cells; simp only [Cells] at hc; obtain ⟨hco, hfo⟩ := bcell hS.old; go_simp; (try go_bits); first | exact hR _ hS | (go_at_call 153; (with_reducible refine cmm (CI2.out _) fun w2 hb2 => ?_); exact ⟨_, rfl, hR _ (hS.below hb2)⟩))); simp only [pu]) | (refine spa ?_; simp only [pu]))
      refine wpSteady_nil (fun uI hSI => ?_); obtain ⟨hcI, hbI, hzI, hcoI, hfoI⟩ := hall hSI; clear hSI; simp only [Cells] at hcI
      have ybI : b < uI.heap.size := by have := hbI.size; omega
      go_upto_region 25 with fail
      refine rst (Held uI 0 []) ?_
      repeat (first | (refine' sdo ?_; simp only [pu]) | (refine spa ?_; simp only [pu]))
      refine wpSteady_nil (fun uJ hSJ => ?_); obtain ⟨hcJ, hbJ, hzJ, hcoJ, hfoJ⟩ := hall hSJ; clear hSJ; simp only [Cells] at hcJ; have hbIJ := hbI.trans (hbJ.mono hbI.size); go_wp2; go_ret; exact ⟨rfl, ⟨BT4.out.below hbIJ yb4, hv4.out.below hbIJ lrr⟩, (KeptBut.refl _ _).below (K4.out.trans (hbIJ.mono K4.out.size))⟩
     ·obtain ⟨p1, p2, p3, p4⟩ := plcS_true.1 hpl
      obtain ⟨z0, z1, z2, z3, z4⟩ := fitsS_true.1 hfit; obtain ⟨e1, e2⟩ := row_end z0 p2 p4; obtain ⟨I, hI⟩ : ∃ I : Nat, ty * wd + tx = I := ⟨(ty * wd + tx).toNat, by omega⟩; have CI2 := CI.out
      have hi1 : idxS wd ht tx ty = I := by unfold idxS; rw [hpl, ← hI]; rfl
      simp only [hi1] at CI2; rw [hI, Int.toNat_natCast] at hP2
      have hIn : I < cs.length := by omega
      obtain ⟨g, cap, cur, hve, hgb, hgh, hcc, hcm, hcs, hct⟩ := hv4.out.open_ (by omega); obtain ⟨n, hn⟩ := exx (cs.length)
      have hroom : I + (wd - tx).toNat ≤ n := by omega
      rw [hn] at hve hIn hcc; unfold maxLen at hcm; subst hve
      have gb : b ≠ g := by
       rintro rfl
       have h := BT4.out; unfold Blk at h; rw [hgh] at h
       injection h with h
       injection h with _ h2 _
       exact absurd h2 (by decide)
      have yg := (Array.getElem?_eq_some_iff.1 hgh).1; replace CI2 := hdh CI2; replace hI := hdh hI; clear CI hi1 e1 e2; refine rst (Held W5 0 []) ?_
      repeat (first | (refine' wpSteady_do _ _ _; rotate_left; (focus rfl); (focus (intro w1 hS R hR; have hc := hS.cells; simp only [Cells] at hc; obtain ⟨hco, hfo⟩ := bcell hS.old; go_simp; (try go_bits); first | exact hR _ hS | (go_at_call 153; (with_reducible refine cmm (CI2.out _) fun w2 hb2 => ?_); exact ⟨_, rfl, hR _ (hS.below hb2)⟩))); simp only [pu]) | (refine spa ?_; simp only [pu]))
      refine wpSteady_nil (fun uI hSI => ?_); obtain ⟨hcI, hbI, hzI, hcoI, hfoI⟩ := hall hSI; clear hSI; simp only [Cells] at hcI
      have ybI : b < uI.heap.size := by have := hbI.size; omega
      go_upto_region 25 with fail
      by_cases hrm : wd - tx < 1
      ·have hRN : RES = none := by rwa [if_pos (.inr (.inr hrm))] at hP2
       subst hRN; refine rst (Held uI 0 []) ?_
       repeat (first | (refine' sdo ?_; simp only [pu]) | (refine spa ?_; simp only [pu]))
       refine wpSteady_nil (fun uJ hSJ => ?_); obtain ⟨hcJ, hbJ, hzJ, hcoJ, hfoJ⟩ := hall hSJ; clear hSJ; simp only [Cells] at hcJ; have hbIJ := hbI.trans (hbJ.mono hbI.size); go_wp2; go_ret; exact ⟨rfl, ⟨BT4.out.below hbIJ yb4, hv4.out.below hbIJ lrr⟩, (KeptBut.refl _ _).below (K4.out.trans (hbIJ.mono K4.out.size))⟩
      ·have hPn : ([⟨R, ⟨c0, c1, c2, c3⟩, ⟨d0, d1, d2, d3⟩, false, true⟩] : List Ce) ≠ [] := by simp
       rw [if_neg (fun h => h.elim hPn (fun h => h.elim (fun h => by rw [hpl] at h; cases h) hrm))] at hP2; subst hP2
       have hIm : I + 1 ≤ n := by omega
       refine rst (Held uI 0 []) ?_
       repeat (first | (refine' sdo ?_; simp only [pu]) | (refine spa ?_; simp only [pu]))
       refine wpSteady_nil (fun uJ hSJ => ?_); obtain ⟨hcJ, hbJ, hzJ, hcoJ, hfoJ⟩ := hall hSJ; clear hSJ; simp only [Cells] at hcJ; have hbIJ := hbI.trans (hbJ.mono hbI.size)
       have yb5 : b < uJ.heap.size := by have := hbJ.size; omega
       have yg5 : g < uJ.heap.size := by have := hbIJ.size; omega
       have hIi : (I : Int) ≤ n := by omega
       have hIc : ¬ cap = I := by omega
       go_upto_region 27 with fail
       have hgJ := (hbIJ.block g yg).trans hgh; have BPJ := BP.below hbIJ BP.lt
       have hr := run_copy_rows (P := Tryz.prog) uJ 38 38 3 47 11 g (I * 11) (n - I) (cap - I) ⟨pb, 11, none⟩ 1 1 cur 47 (([⟨R, ⟨c0, c1, c2, c3⟩, ⟨d0, d1, d2, d3⟩, false, true⟩] : List Ce).flatMap Ce.enc) Tryz.underlying38 sizeCe2 hgJ
        (by rw [flat_len Ce.enc_len, show Nat.min 1 (n - I) = 1 from Nat.min_eq_left (by omega)]; rfl) (fun j u h => by
         have := BPJ.cell (o := 11 + j) (v := u) (by rw [← h, ← List.getElem?_drop]; exact List.getElem?_append_left (l₂ := ([] : List Value)) (List.getElem?_eq_some_iff.1 h).1); rw [addr_add]
         exact this) (by rw [flat_len Ce.enc_len]; show I * 11 + 1 * 11 ≤ cur.size; omega) (flat_one2 Ce.enc_one)
       rw [show Nat.min 1 (n - I) = 1 from Nat.min_eq_left (by omega)] at hr; have OC := OwnsC.splice (p := [⟨R, ⟨c0, c1, c2, c3⟩, ⟨d0, d1, d2, d3⟩, false, true⟩]) (i := I) (cs := cs) hgb hgJ (by rw [hn]; exact hcc) (by unfold maxLen; exact hcm) hcs hct (by rw [hn]; exact hIm); rw [hn] at OC; obtain ⟨w6, hw6⟩ := exx (uJ.setRow g (cur.toList.take (I * 11) ++ ([⟨R, ⟨c0, c1, c2, c3⟩, ⟨d0, d1, d2, d3⟩, false, true⟩] : List Ce).flatMap Ce.enc ++ cur.toList.drop (I * 11 + (([⟨R, ⟨c0, c1, c2, c3⟩, ⟨d0, d1, d2, d3⟩, false, true⟩] : List Ce).flatMap Ce.enc).length)).toArray); rw [hw6] at hr OC
       have BT6 : Blk w6 b (tmC wd ht (.slice (some ⟨g, 0, none⟩) n cap) ⟨tx, ty, ⟨c0, c1, c2, c3⟩, ⟨d0, d1, d2, d3⟩⟩) 167 := by rw [← hw6]; exact (BT4.out.below hbIJ yb4).setRow_ne gb _
       have K6 : KeptBut (fun q => q = b ∨ (Value.slice (some ⟨g, 0, none⟩) n cap).ownBlock = some q) w w6 := by rw [← hw6]; exact ((KeptBut.refl _ w).below (K4.out.trans (hbIJ.mono K4.out.size))).setRow g _ (.inr rfl)
       clear hw6
       go_upto_region 28 with (refine wpList_copy_runI uJ rfl _ _ _ _ rfl _ _ (by rfl) (by rfl) hr ?_)
       have t3 := BT6.cell (o := 3) rfl; have f3 := BT6.free 3; have yb6 := BT6.lt; replace BT6 := hdh BT6; replace K6 := hdh K6; replace OC := hdh OC; clear hr hbIJ hcoJ hfoJ hcoI hfoI hcJ hcI hgJ BPJ; go_wp2; go_ret; refine ⟨?_, ⟨BT6.out.set 3 _, own_other OC.out (fun q hq => ?_) _⟩, K6.out.setCell ⟨b, 3, none⟩ _ (.inl rfl)⟩
       ·first
         | rfl
         | exact congrArg (fun z => Ending.returned (.int .i64 z)) (by omega)
       ·have e : g = q := by simpa [Value.ownBlock] using hq
        rw [← e]; exact Ne.symm gb
theorem rcell_any (wd ht : Int) (cs : List Ce) (v : Value) (t : Tm) (c : UInt8) (r : List UInt8) (b base : Nat) (w : World) (hB : Blk w b (tmC wd ht v t) 167) (hv : OwnsC base w v cs) (hfit : fitsS wd ht = true) (hlen : (cs.length : Int) = wd * ht) (hl : r.length < 1048576) (hD : DecT w) :
  Calls Tryz.prog 113 #[.pointer (some ⟨b, 0, none⟩), .string (strL (c :: r))] w fun e w' => e = .returned (.int .i64 (cellN (cellP wd ht cs t (c :: r)))) ∧
   TmO base b wd ht v (cellC cs (cellP wd ht cs t (c :: r))) (cellT t (cellP wd ht cs t (c :: r))) w' ∧ KeptBut (fun k => k = b ∨ v.ownBlock = some k) w w' := by
 by_cases h14 : c = 14
 ·exact rcell_14 wd ht cs v t c r b base w h14 hB hv hfit hlen hl hD
 ·by_cases h15 : c = 15
  ·exact rcell_15 wd ht cs v t c r b base w h15 hB hv hfit hlen hl hD
  ·exact rcell_no wd ht cs v t c r b base w ⟨h14, h15⟩ hB hv hfit hlen hl hD
end Go.Proofs.YtfcphagmjijmkaaGreatDoor
