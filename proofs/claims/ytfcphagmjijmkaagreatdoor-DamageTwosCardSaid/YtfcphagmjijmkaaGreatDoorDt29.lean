/-
  Damage: the values of the document's examples (casementlaw17.alive).
-/
import Derived.Test.YtfcphagmjijmkaaGreatDoorDt28
namespace Go.Proofs.YtfcphagmjijmkaaGreatDoor
open Go.RowKit
set_option linter.unusedVariables false
set_option linter.unusedSimpArgs false
attribute [local go_sem] vwp vUpon_value vUpon_skip vUpon_enter vUpon_row
set_option maxHeartbeats 16000000
def alF : St := ⟨1, ⟨0, 0, 4, 4⟩, ⟨9, 0, 0, 255⟩, ⟨0, 0, 0, 0⟩, ⟨#[]⟩, 1⟩
def alG : St := ⟨1, ⟨1, 1, 1, 1⟩, ⟨18, 0, 0, 255⟩, ⟨0, 0, 0, 0⟩, ⟨#[]⟩, 2⟩
def alT : St := ⟨3, ⟨2, 0, 1, 1⟩, ⟨0, 0, 0, 255⟩, ⟨0, 0, 0, 0⟩, ⟨#[120]⟩, 3⟩
def alO : St := ⟨5, ⟨0, 0, 0, 0⟩, ⟨0, 0, 0, 0⟩, ⟨0, 0, 0, 0⟩, ⟨#[]⟩, 0⟩
def alR : Re := ⟨1, 1, 1, 1⟩
def alW : Re := ⟨0, 0, 4, 4⟩
theorem al_a : dmgE [alF, alG, alT] [alF, alT] = 0 ∧ dmgL [alF, alG, alT] [alF, alT] = [alR] := ⟨by kernel_rfl, by kernel_rfl⟩
theorem al_b : dmgE [alF, alG] [alG, alF] = 0 ∧ dmgL [alF, alG] [alG, alF] = [alW] := ⟨by kernel_rfl, by kernel_rfl⟩
theorem al_bn : dmgE [alF, alG] [alG, alF] = 0 ∧ nodL (flts [alF, alG]) (flts [alG, alF]) = [] := ⟨by kernel_rfl, by kernel_rfl⟩
theorem al_m : dmgE [alF, alF] [alF] = 0 ∧ nodL (flts [alF, alF]) (flts [alF]) = [1] := ⟨by kernel_rfl, by kernel_rfl⟩
theorem al_o : dmgE [alO] [] = 130 ∧ dmgL [alO] [] = [] := ⟨by kernel_rfl, by kernel_rfl⟩
def alB : List Ce := blankC 4 4 ⟨0, 0, 0, 0⟩
def alC : List Ce := nowC 4 4 [alF]
def alN : List Ce := nowC 4 4 [alF, alG]
theorem al_s : blankE 4 4 = 0 ∧ blankZ 4 4 4 = 4 ∧ alB.length = 16 := ⟨by kernel_rfl, by kernel_rfl, by kernel_rfl⟩
theorem al_c : drawE 4 4 alB [alF] = 0 ∧ drawZ 4 4 4 alB [alF] = 4 ∧ alC.length = 16 := ⟨by kernel_rfl, by kernel_rfl, by kernel_rfl⟩
theorem al_d : drawE 4 4 alB [alF, alG] = 0 ∧ drawZ 4 4 4 alB [alF, alG] = 4 ∧ alN.length = 16 := ⟨by kernel_rfl, by kernel_rfl, by kernel_rfl⟩
theorem al_e : mndE 4 4 alC [alF, alG] [alR] = 0 ∧ mndZ 4 4 4 alC [alF, alG] [alR] = 4 := ⟨by kernel_rfl, by kernel_rfl⟩
theorem al_f : mndC 4 4 alC [alF, alG] [alR] = alN := by kernel_rfl
theorem al_g : chgE 4 4 alC 4 4 alN = 0 ∧ chgL 4 4 alC 4 4 alN = [alR] := ⟨by kernel_rfl, by kernel_rfl⟩
/-! ### bounds -/
theorem al_wf {s : St} (h : s = alF ∨ s = alG ∨ s = alT ∨ s = alO) : s.Wf := by
 have m : (0 : Nat) ≤ maxLen ∧ (1 : Nat) ≤ maxLen := by unfold maxLen; omega
 rcases h with rfl | rfl | rfl | rfl <;> (refine ⟨?_, ⟨?_, ?_, ?_, ?_⟩, ⟨?_, ?_, ?_, ?_⟩, ⟨?_, ?_, ?_, ?_⟩, ?_, ?_⟩ <;> first | exact m.1 | exact m.2 | exact ⟨by decide, by decide⟩)
def alk1 (b r : Re) : Bool := (b.x == r.x) && ((b.wd == r.wd) && (b.y + b.ht == r.y))
theorem eqAl_len : ∀ {a b : List Re}, a.length ≠ b.length → eqAl a b = false
 | [], [], h => absurd rfl h
 | [], _ :: _, _ => rfl
 | _ :: _, [], _ => rfl
 | x :: a, y :: b, h => by
  rw [eqAl, eqAl_len (a := a) (b := b) (fun e => h (by simp [e])), Bool.and_false]
theorem eqAl_step {a b : List Re} {k : Nat} {p q : Re} (h1 : a[k]? = some p) (h2 : b[k]? = some q) : eqAl (a.drop k) (b.drop k) = (alk1 p q && eqAl (a.drop (k + 1)) (b.drop (k + 1))) := by
 obtain ⟨l1, e1⟩ := List.getElem?_eq_some_iff.1 h1; obtain ⟨l2, e2⟩ := List.getElem?_eq_some_iff.1 h2; rw [List.drop_eq_getElem_cons l1, List.drop_eq_getElem_cons l2, e1, e2, eqAl]
 rfl
def LowR (l : List Re) : Prop := ∀ b ∈ l, -1000000 ≤ b.y ∧ b.y ≤ 1000000 ∧ -1000000 ≤ b.ht ∧ b.ht ≤ 1000000
theorem alike1_any (b r : Re) (w : World) (hb : -1000000 ≤ b.y ∧ b.y ≤ 1000000 ∧ -1000000 ≤ b.ht ∧ b.ht ≤ 1000000) : Calls Tryz.prog 118 #[.agg #[.int .i64 (b).x, .int .i64 (b).y, .int .i64 (b).wd, .int .i64 (b).ht], .agg #[.int .i64 (r).x, .int .i64 (r).y, .int .i64 (r).wd, .int .i64 (r).ht]] w fun e w' => e = .returned (.bool (alk1 b r)) ∧ Below w.heap.size w w' := by
 obtain ⟨bx, bY, bw, bh⟩ := b; obtain ⟨x, y, d, t⟩ := r; dsimp only at hb; obtain ⟨q1, q2, q3, q4⟩ := hb; unfold alk1; dsimp only
 by_cases c1 : bx = x
 ·subst c1
  by_cases c2 : bw = d
  ·subst c2
   by_cases c3 : bY + bh = y
   ·subst c3
    go_enter Tryz.func118, Tryz.ntmps118
    go_wp2; go_ret; exact ⟨by simp, belt⟩
   ·have e3 : (bY + bh == y) = false := by simpa using c3
    rw [e3]
    go_enter Tryz.func118, Tryz.ntmps118
    go_wp2; go_ret; exact ⟨by simp, belt⟩
  ·have e2 : (bw == d) = false := by simpa using c2
   rw [e2]
   go_enter Tryz.func118, Tryz.ntmps118
   go_wp2; go_ret; exact ⟨by simp, belt⟩
 ·have e1 : (bx == x) = false := by simpa using c1
  rw [e1]
  go_enter Tryz.func118, Tryz.ntmps118
  go_wp2; go_ret; exact ⟨by simp, belt⟩
set_option maxRecDepth 100000 in
theorem eqfunc_any (a b : List Re) (va vb : Value) (w : World) (ha : Row w.heap.size 4 Re.enc w va a) (hb : Row w.heap.size 4 Re.enc w vb b) (hm : a.length ≤ 1000000) (hL : LowR a) :
  Calls Tryz.prog 117 #[va, vb, .func (.func 118) #[] #[]] w fun e w' => e = .returned (.bool (eqAl a b)) ∧ Below w.heap.size w w' := by
 obtain ⟨s1, cap1, rfl, hm1⟩ := ha.shape; obtain ⟨s2, cap2, rfl, hm2⟩ := hb.shape
 have hop1 := fun h0 => row_re ha h0
 have hop2 := fun h0 => row_re hb h0
 clear ha hb; obtain ⟨n, en⟩ := exx (a.length); obtain ⟨m, em⟩ := exx (b.length); rw [en] at hop1 hm hm1 ⊢; rw [em] at hop2 hm2 ⊢; unfold maxLen at hm1 hm2
 by_cases hnm : n = m
 ·subst hnm
  obtain ⟨R, hR⟩ := exx (eqAl a b); rw [hR]; have hgo := hdh (show eqAl (a.drop 0) (b.drop 0) = R from hR); replace en := hdh en; replace em := hdh em; replace hop1 := hdh hop1; replace hop2 := hdh hop2; replace hL := hdh hL; clear hR
  go_enter Tryz.func117, Tryz.ntmps117
  go_wp2
  go_loopw [17] (fun i wr => ∃ k : Nat, k ≤ n ∧ i = .int .i64 k ∧ Hid (eqAl (a.drop k) (b.drop k) = R) ∧ Below w.heap.size w wr) (fun i _ => n - (intOf i).toNat)
  case atStart => exact ⟨0, Nat.zero_le _, rfl, hgo, Below.refl _ _⟩
  case round =>
   clear hgo; obtain ⟨k, hk, rfl, hgo, hbr⟩ := hrel; have zr := hbr.size; obtain ⟨hcr, hfr⟩ := bcell hbr
   by_cases hkn : k < n
   ·obtain ⟨g, o, c, e, hg, _, _, hel⟩ := hop1.out (by omega)
    simp only [Value.slice.injEq] at e; obtain ⟨rfl, _, rfl⟩ := e; obtain ⟨g2, o2, c2, e, hg2, _, _, hel2⟩ := hop2.out (by omega); simp only [Value.slice.injEq] at e; obtain ⟨rfl, _, rfl⟩ := e; obtain ⟨p, hp⟩ := get_at en.out hkn; obtain ⟨q, hq⟩ := get_at em.out hkn; obtain ⟨p0, p1, p2, p3⟩ := hel k p hp; obtain ⟨r0, r1, r2, r3⟩ := hel2 k q hq; have hs := hgo.out; rw [eqAl_step hp hq] at hs
    have C := fun W => alike1_any p q W (hL.out p (List.mem_of_getElem? hp))
    have hkk : (k : Int) < n := by omega
    have yg : g < wr.heap.size := by omega
    have yg2 : g2 < wr.heap.size := by omega
    obtain ⟨px, py, pw, ph⟩ := p; obtain ⟨qx, qy, qw, qh⟩ := q; dsimp only at p0 p1 p2 p3 r0 r1 r2 r3 C; clear hel hel2 hp hq hgo
    cases hc : alk1 ⟨px, py, pw, ph⟩ ⟨qx, qy, qw, qh⟩
    ·rw [hc] at C hs
     rw [Bool.false_and] at hs; subst hs; replace C := hdh C; clear hc
     go_wp2_with (first
      | (go_at_call 118; (with_reducible refine cmm (C.out _) fun w2 hb2 => ?_))
      | go_in)
     go_ret; exact ⟨rfl, belt⟩
    ·rw [hc] at C hs
     rw [Bool.true_and] at hs; replace hs := hdh hs; replace C := hdh C; clear hc
     go_wp2_with (first
      | (go_at_call 118; (with_reducible refine cmm (C.out _) fun w2 hb2 => ?_))
      | go_in)
     go_roundw
     case rel => exact ⟨k + 1, by omega, by go_num, hs, belt⟩
     case measure => simp [intOf]; omega
   ·obtain rfl : k = n := by omega
    have hs := hgo.out; rw [List.drop_of_length_le (by rw [en.out]; exact Nat.le_refl _), List.drop_of_length_le (by rw [em.out]; exact Nat.le_refl _)] at hs; have hR : R = true := hs.symm; subst hR; go_wp2; go_ret; exact ⟨rfl, hbr⟩
 ·rw [eqAl_len (by rw [en, em]; exact hnm)]
  have hne : ¬ (n : Int) = m := by omega
  have hne2 : ((n : Int) != m) = true := by simpa using hne
  go_enter Tryz.func117, Tryz.ntmps117
  go_wp2; go_ret; exact ⟨rfl, belt⟩
theorem dalike_any (a b : List Re) (va vb : Value) (w : World) (ha : Row w.heap.size 4 Re.enc w va a) (hb : Row w.heap.size 4 Re.enc w vb b) (hm : a.length ≤ 1000000) (hL : LowR a) :
  Calls Tryz.prog 65 #[va, vb] w fun e w' => e = .returned (.bool (alkB a b)) ∧ Below w.heap.size w w' := by
 have EQ := eqfunc_any a b va vb w ha hb hm hL; obtain ⟨s1, cap1, rfl, hm1⟩ := ha.shape; obtain ⟨s2, cap2, rfl, hm2⟩ := hb.shape; unfold alkB; generalize eqAl a b = R at EQ ⊢; clear ha hb hL; obtain ⟨n, en⟩ := exx (a.length); rw [en] at EQ hm hm1 ⊢; generalize b.length = m at EQ ⊢; clear en; replace EQ := hdh EQ
 by_cases h0 : 0 < n
 ·have e0 : (0 : Int) < n := by omega
  rw [decide_eq_true h0, Bool.true_and]
  go_enter Tryz.func65, Tryz.ntmps65
  go_wp2_with (first
   | (go_at_call 117; (with_reducible refine cmm EQ.out fun w2 hb2 => ?_))
   | go_in)
  go_ret; exact ⟨rfl, hb2⟩
 ·obtain rfl : n = 0 := by omega
  clear EQ
  go_enter Tryz.func65, Tryz.ntmps65
  go_wp2; go_ret; exact ⟨rfl, belt⟩
theorem at_of {v v' : Value} {w : World} (h5 : v'.ownBlock = v.ownBlock ∨ v'.ownBlock = some w.heap.size) : ∀ g, v'.ownBlock = some g → v.ownBlock = some g ∨ w.heap.size ≤ g := by
 intro g hg
 rcases h5 with h5 | h5
 ·exact .inl (h5 ▸ hg)
 ·rw [h5] at hg
  injection hg with hg
  exact .inr (by omega)
set_option linter.unusedVariables false in
theorem wpList_append_rowA {P : Program} {ops : Array Oper} {rest : List Oper} {o : Oper} {a : Act} {Q : Exit → Act → World → Prop} (hgd : o.guard = none) (s x : Operand) (t : TypeId)
  (ho : o.op = .call { callee := .builtin .append, args := #[s, x], argTypes := #[t, t] })
  (base : Nat) (e : TypeId) (i : TypeInfo) (z : Value) (size bytes : Nat) (ht : P.underlying t = some (.slice e)) (hi : P.info? e = some i) (hz : i.zero = some z)
  (hsize : i.size = size) (hby : i.bytes = bytes) (hzs : z.cells.size = size) (hsz : 0 < size)
  (w : World) (v : Value) (n : Nat) (xs : List Value) (hs : a.eval s = v) (hown : w.ownsRow base e size v n xs)
  {α : Type} {enc : α → List Value} (he : ∀ y, (enc y).length = size) (h1 : ∀ y, ∀ u ∈ enc y, u.oneCell' = true) (B : Nat) (vx : Value) (ys : List α) (hrow : Row B size enc w vx ys) (hx : a.eval x = vx)
  (h63 : n + ys.length ≤ maxLen) (hbytes : (n + ys.length) * bytes ≤ 140737488355328) (hbase : base ≤ w.heap.size)
  (h : ∀ v' w', w'.ownsRow base e size v' (n + ys.length) (xs ++ ys.flatMap enc) → w.grownBy w' v.ownBlock → (∀ g, v'.ownBlock = some g → v.ownBlock = some g ∨ w.heap.size ≤ g) → wpList P ops Q rest (a.put o.dst v') w') :
  wpList P ops Q (o :: rest) a w := by
 have hone : ∀ u ∈ ys.flatMap enc, u.oneCell' = true := by
  intro u hu
  obtain ⟨y, _, hy⟩ := List.mem_flatMap.1 hu; exact h1 y u hy
 rcases Nat.eq_zero_or_pos ys.length with h0 | h0
 ·have hy : ys = [] := List.length_eq_zero_iff.1 h0
  subst hy; obtain ⟨s0, cap, rfl, hl, hc, _⟩ := hrow
  cases s0 with
  | none =>
   refine wpList_plain hgd fun K hK => ?_
   have hrun := run_append_none (P := P) (w := w) base t o.type e i size ht hi v n cap xs hown; unfold Oper.wp
   simp [execOp, ho, resolve, invoke, builtin, hs, hx, hrun, Result.andThen]
   exact hK _ _ (h v w (by simpa using hown) (grown_refl _ _) (fun g hg => .inl hg))
  | some ad =>
   refine wpList_plain hgd fun K hK => ?_
   obtain ⟨v', w', hr, h2, h3, _, h5⟩ := run_append_own_at (P := P) w base t o.type e i z size bytes ht hi hz hsize hby hzs hsz v n xs hown ad 0 cap [] (by simp) (fun j u hj => by simp at hj) (fun u hu => by simp at hu) (by simpa using h63) (by simpa using hbytes) hbase; unfold Oper.wp
   simp [execOp, ho, resolve, invoke, builtin, hs, hx, hr, Result.andThen]
   exact hK _ _ (h v' w' (by simpa using h2) h3 (at_of h5))
 ·obtain ⟨b, o', cap, rfl, hb, hc⟩ := row_flat he hsz hrow h0
  refine wpList_plain hgd fun K hK => ?_
  obtain ⟨v', w', hr, h2, h3, _, h5⟩ := run_append_own_at (P := P) w base t o.type e i z size bytes ht hi hz hsize hby hzs hsz v n xs hown ⟨b, o', none⟩ ys.length cap (ys.flatMap enc) (flat_len he ys) (fun j u hj => by
   rw [show (⟨b, o', none⟩ : Addr).add j = ⟨b, o' + j, none⟩ by unfold Addr.add; split <;> simp_all]
   exact hc j u hj) hone h63 hbytes hbase
  unfold Oper.wp
  simp [execOp, ho, resolve, invoke, builtin, hs, hx, hr, Result.andThen]
  exact hK _ _ (h v' w' h2 h3 (at_of h5))
def FlsW (base b8 b9 b10 : Nat) (w : World) (f r l : List Re) : Prop :=
 ∃ vf vr vl, Blk w b8 [vf] 25 ∧ Blk w b9 [vr] 25 ∧ Blk w b10 [vl] 25 ∧ OwnsR base w vf f ∧ OwnsR base w vr r ∧ OwnsR base w vl l ∧ Apart vf vr ∧ Apart vf vl ∧ Apart vr vl
theorem ownsR_far {base k : Nat} {w : World} {v : Value} {cs : List Re} {xs : List Value} {T : TypeId} (h : OwnsR base w v cs) (hb : Blk w k xs T) (hT : T ≠ 32) : v.ownBlock ≠ some k := by
 intro e
 rcases h.2 with ⟨rfl, _⟩ | ⟨g, cap, cur, rfl, _, hg, _⟩
 ·simp [Value.ownBlock] at e
 ·simp only [Value.ownBlock, Option.some.injEq] at e
  subst e; unfold Blk at hb; rw [hb] at hg
  injection hg with hg
  injection hg with _ h2 _
  exact hT h2
set_option maxRecDepth 100000 in
theorem flush_new (base b8 b9 b10 : Nat) (f r l : List Re) (w : World) (h : FlsW base b8 b9 b10 w f r l) (hb : base ≤ w.heap.size) (h8 : base ≤ b8) (h9 : base ≤ b9) (h10 : base ≤ b10) (d1 : b8 ≠ b9) (d2 : b8 ≠ b10) (d3 : b9 ≠ b10)
  (hf : f.length ≤ 1000000) (hr : r.length ≤ 1000000) (hl : l.length ≤ 1000000) (hL : LowR l) (ha : alkB l r = false) :
  Calls Tryz.prog 64 #[.pointer (some ⟨b10, 0, none⟩), .pointer (some ⟨b9, 0, none⟩), .pointer (some ⟨b8, 0, none⟩)] w fun e w' => e = .returned (.tuple #[]) ∧ FlsW base b8 b9 b10 w' (f ++ r) [] r ∧ Below base w w' := by
 obtain ⟨iR, hr0, hr1, hr2, hr3⟩ := info_parts infoRe; obtain ⟨vf, vr, vl, B8, B9, B10, Of, Or, Ol, a1, a2, a3⟩ := h; have ALK := dalike_any l r vl vr w (Ol.row lrr) (Or.row lrr) hl hL; rw [ha] at ALK; obtain ⟨nf, hnf⟩ := exx (f.length); obtain ⟨nr, hnr⟩ := exx (r.length); obtain ⟨nl, hnl⟩ := exx (l.length); obtain ⟨sf, cf, hvf⟩ := own_slice Of; obtain ⟨sr, cr, hvr⟩ := own_slice Or; obtain ⟨sl, cl, hvl⟩ := own_slice Ol; rw [hnf] at hvf hf; rw [hnr] at hvr hr; rw [hnl] at hvl hl; subst hvf hvr hvl; replace ALK := hdh ALK; replace hnf := hdh hnf; replace hnr := hdh hnr; replace hnl := hdh hnl; have n8 := ownsR_far Of B8 (by decide)
 have n9 := ownsR_far Of B9 (by decide); have n10 := ownsR_far Of B10 (by decide); have k0 := B8.cell (o := 0) rfl; have k1 := B9.cell (o := 0) rfl; have k2 := B10.cell (o := 0) rfl; have y8 := B8.lt; have y9 := B9.lt; have y10 := B10.lt; clear ha hL
 go_enter Tryz.func64, Tryz.ntmps64
 go_upto_region 7 with (go_at_call 65; (with_reducible refine cmm ALK.out fun w1 hb1 => ?_))
 clear k0 k1 k2 ALK; have C8 := B8.below hb1 y8; have C9 := B9.below hb1 y9; have C10 := B10.below hb1 y10; have k0 := C8.cell (o := 0) rfl; have k1 := C9.cell (o := 0) rfl; have kf := C8.free; have zb1 := hb1.size; have Of1 := ownsRow_below Of hb1 lrr; have Or1 := ownsRow_below Or hb1 lrr; rw [hnf.out] at Of1; have hnr2 := hnr.out; subst hnr2; have Rr1 : Row w1.heap.size 4 Re.enc w1 (.slice sr r.length cr) r := OwnsR.row (base := base) Or1 lrr
 go_upto_region 8 with (first
  | ((at_builtin; refine wpList_append_rowA rfl _ _ _ rfl base 32 iR _ 4 32 Tryz.underlying25 hr0 hr1 hr2 hr3 rfl (by omega) w1 _ _ _ (by rfl) Of1 Re.enc_len Re.enc_one w1.heap.size _ r Rr1 (by rfl) (by unfold maxLen; omega) (by omega) (by omega) ?_; intro v6 w6 hown6 hgr6 hat6); obtain ⟨s6, c6, hv6⟩ := own_slice hown6; subst hv6; have G8 := C8.keep hgr6 n8; have j0 := G8.cell (o := 0) rfl; have jf := G8.free)
  | go_in)
 clear k0 k1 kf j0 jf
 have R6 : OwnsR base w6 (.slice s6 (nf + r.length) c6) (f ++ r) := by
  unfold OwnsR; rw [List.length_append, hnf.out, List.flatMap_append]; exact hown6
 have Or6 : OwnsR base w6 (.slice sr r.length cr) r := own_keep Or1 hgr6 (fun g h1 h2 => a1 g h2 h1); have G9 := C9.keep hgr6 n9; have G10 := C10.keep hgr6 n10
 have ap : Apart (.slice s6 (nf + r.length) c6) (.slice sr r.length cr) := fun g h1 h2 => by
  rcases hat6 g h1 with h | h
  ·exact a1 g h h2
  ·have := (own_in Or g h2).2
   omega
 have f1 := ownsR_far R6 G8 (by decide); have f2 := ownsR_far R6 G9 (by decide); have f3 := ownsR_far R6 G10 (by decide); have r1 := ownsR_far Or6 G8 (by decide); have r2 := ownsR_far Or6 G9 (by decide); have r3 := ownsR_far Or6 G10 (by decide); have hb6 : Below base w w6 := (hb1.mono hb).grown hgr6 (by omega) (fun g hg => (own_in Of g hg).1)
 have S1 : ∀ {W : World} {v : Value} {l : List Re} {b : Nat}, OwnsR base W v l → v.ownBlock ≠ some b → ∀ u, OwnsR base (W.setCell ⟨b, 0, none⟩ u) v l := fun h hn u => own_other h (fun g hg he => hn (by rw [hg]; exact congrArg some he)) u
 have H8 := G8.set 0 (.slice s6 (nf + r.length) c6); have H9 := G9.set_ne (a := ⟨b8, 0, none⟩) (fun e => d1 e.symm) (.slice s6 (nf + r.length) c6); have H10 := G10.set_ne (a := ⟨b8, 0, none⟩) (fun e => d2 e.symm) (.slice s6 (nf + r.length) c6); have R7 := S1 R6 f1 (.slice s6 (nf + r.length) c6); have Or7 := S1 Or6 r1 (.slice s6 (nf + r.length) c6); have hb7 := hb6.setCell (p := ⟨b8, 0, none⟩) h8 (.slice s6 (nf + r.length) c6); clear G8 G9 G10 R6 Or6 hb6 hown6 hgr6 hat6 Of1 Or1 Rr1 C8 C9 C10; generalize w6.setCell ⟨b8, 0, none⟩ (.slice s6 (nf + r.length) c6) = W7 at H8 H9 H10 R7 Or7 hb7 ⊢; have k1 := H9.cell (o := 0) rfl
 have k2 := H10.cell (o := 0) rfl; have kf := H10.free; have kg := H9.free
 go_upto_region 9 with fail
 clear k1 k2 kf kg; have I8 := H8.set_ne (a := ⟨b10, 0, none⟩) d2 (.slice sr r.length cr); have I9 := H9.set_ne (a := ⟨b10, 0, none⟩) d3 (.slice sr r.length cr); have I10 := H10.set 0 (.slice sr r.length cr); have R8 := S1 R7 f3 (.slice sr r.length cr); have Or8 := S1 Or7 r3 (.slice sr r.length cr); have hb8 := hb7.setCell (p := ⟨b10, 0, none⟩) h10 (.slice sr r.length cr); clear H8 H9 H10 R7 Or7 hb7; generalize W7.setCell ⟨b10, 0, none⟩ (.slice sr r.length cr) = W8 at I8 I9 I10 R8 Or8 hb8 ⊢; have k1 := I9.cell (o := 0) rfl; have kf := I9.free; go_wp2; have J8 := I8.set_ne (a := ⟨b9, 0, none⟩) d1 (.slice none 0 0)
 have J9 := I9.set 0 (.slice none 0 0); have J10 := I10.set_ne (a := ⟨b9, 0, none⟩) (fun e => d3 e.symm) (.slice none 0 0); have R9 := S1 R8 f2 (.slice none 0 0); have Or9 := S1 Or8 r2 (.slice none 0 0); have hb9 := hb8.setCell (p := ⟨b9, 0, none⟩) h9 (.slice none 0 0); clear k1 kf
 go_end0
 exact ⟨rfl, ⟨_, _, _, J8, J9, J10, R9, OwnsR.nil _ _, Or9, (Apart.none _ 0 0).symm, ap, Apart.none _ 0 0⟩, hb9⟩
def grK (k : Nat) (l : List Re) : List Re := (l.take k).map growR ++ l.drop k
theorem grK_zero (l : List Re) : grK 0 l = l := by simp [grK]
theorem grK_all {l : List Re} {k : Nat} (h : l.length ≤ k) : grK k l = l.map growR := by
 unfold grK; rw [List.take_of_length_le h, List.drop_of_length_le h, List.append_nil]
theorem grK_len {l : List Re} {k : Nat} : (grK k l).length = l.length := by
 unfold grK; simp only [List.length_append, List.length_map, List.length_take, List.length_drop]; omega
theorem grK_at {l : List Re} {k : Nat} {q : Re} (h : l[k]? = some q) : (grK k l)[k]? = some q := by
 have hk := (List.getElem?_eq_some_iff.1 h).1; unfold grK; rw [List.getElem?_append_right (by simp; omega)]; simp only [List.length_map, List.length_take, List.getElem?_drop]; rw [Nat.min_eq_left (by omega), Nat.sub_self, Nat.add_zero]; exact h
theorem grK_step {l : List Re} {k : Nat} {q : Re} (h : l[k]? = some q) : (grK k l).set k ⟨q.x, q.y, q.wd, q.ht + 1⟩ = grK (k + 1) l := by
 obtain ⟨hk, e⟩ := List.getElem?_eq_some_iff.1 h; unfold grK; rw [List.set_append, if_neg (by simp; omega), List.drop_eq_getElem_cons hk, e]
 have hl : ((l.take k).map growR).length = k := by simp; omega
 rw [hl, Nat.sub_self, List.set_cons_zero, List.take_add_one, h, List.map_append, List.append_assoc]
 rfl
theorem own_leR {base n cap sz : Nat} {e : TypeId} {w : World} {s : Option Addr} {xs : List Value} (h : w.ownsRow base e sz (.slice s n cap) n xs) : n ≤ cap ∧ cap ≤ maxLen := by
 rcases h.2 with ⟨h0, h1⟩ | ⟨g, cap', cur, e, hb, hg, hc, hm', hs, ht⟩
 ·injection h0 with e1 e2 e3
  subst e3; exact ⟨by omega, Nat.zero_le _⟩
 ·injection e with e1 e2 e3
  subst e3; exact ⟨hc, hm'⟩
theorem flatR_take (cs : List Re) (i : Nat) : (cs.flatMap Re.enc).take (i * 4) = (cs.take i).flatMap Re.enc := by
 induction cs generalizing i with
 | nil => simp
 | cons c r ih =>
  cases i with
  | zero => simp
  | succ i =>
   rw [List.flatMap_cons, List.take_succ_cons, List.flatMap_cons, ← ih i, Nat.add_mul, Nat.one_mul, Nat.add_comm (i * 4) 4, ← Re.enc_len c, List.take_length_add_append]
theorem own_headR {base n cap m : Nat} {w : World} {s : Option Addr} {l : List Re} (h : OwnsR base w (.slice s n cap) l) (hl : l.length = n) (hm : m ≤ n) : OwnsR base w (.slice s m cap) (l.take m) := by
 have hlm : (l.take m).length = m := by rw [List.length_take]; omega
 unfold OwnsR at *; rw [hlm]; refine ⟨by rw [flat_len Re.enc_len, hlm], ?_⟩
 rcases h.2 with ⟨h0, h1⟩ | ⟨g, cap', cur, e, hb, hg, hc, hm', hs, ht⟩
 ·injection h0 with e1 e2 e3
  subst e1 e2 e3
  have : m = 0 := by omega
  subst this; exact .inl ⟨rfl, rfl⟩
 ·injection e with e1 e2 e3
  subst e1 e3; refine .inr ⟨g, cap, cur, rfl, hb, hg, by omega, hm', hs, ?_⟩; rw [← flatR_take, ← ht, List.take_take, Nat.min_eq_left (by omega)]
set_option maxRecDepth 100000 in
theorem flush_old (base b8 b9 b10 : Nat) (f r l : List Re) (w : World) (h : FlsW base b8 b9 b10 w f r l) (hb : base ≤ w.heap.size) (h8 : base ≤ b8) (h9 : base ≤ b9) (h10 : base ≤ b10) (d1 : b8 ≠ b9) (d2 : b8 ≠ b10) (d3 : b9 ≠ b10)
  (hf : f.length ≤ 1000000) (hr : r.length ≤ 1000000) (hl : l.length ≤ 1000000) (hL : LowR l) (ha : alkB l r = true) (hlf : l.length ≤ f.length) :
  Calls Tryz.prog 64 #[.pointer (some ⟨b10, 0, none⟩), .pointer (some ⟨b9, 0, none⟩), .pointer (some ⟨b8, 0, none⟩)] w fun e w' => e = .returned (.tuple #[]) ∧ FlsW base b8 b9 b10 w' (f.take (f.length - l.length) ++ l.map growR) [] (l.map growR) ∧ Below base w w' := by
 obtain ⟨iR, hr0, hr1, hr2, hr3⟩ := info_parts infoRe; obtain ⟨vf, vr, vl, B8, B9, B10, Of, Or, Ol, a1, a2, a3⟩ := h; have ALK := dalike_any l r vl vr w (Ol.row lrr) (Or.row lrr) hl hL; rw [ha] at ALK
 have hl0 : 0 < l.length := by
  unfold alkB at ha; simp only [Bool.and_eq_true, decide_eq_true_eq] at ha; exact ha.1
 obtain ⟨nf, hnf⟩ := exx (f.length); obtain ⟨nr, hnr⟩ := exx (r.length); obtain ⟨nl, hnl⟩ := exx (l.length); obtain ⟨sf, cf, hvf⟩ := own_slice Of; obtain ⟨sr, cr, hvr⟩ := own_slice Or; obtain ⟨sl, cl, hvl⟩ := own_slice Ol; rw [hnf] at hvf hf hlf ⊢; rw [hnr] at hvr hr; rw [hnl] at hvl hl hlf hl0 ⊢; subst hvf hvr hvl; replace ALK := hdh ALK; replace hnf := hdh hnf; replace hnr := hdh hnr; replace hnl := hdh hnl; have n8 := ownsR_far Ol B8 (by decide); have n9 := ownsR_far Ol B9 (by decide); have n10 := ownsR_far Ol B10 (by decide); have k0 := B8.cell (o := 0) rfl; have k1 := B9.cell (o := 0) rfl; have k2 := B10.cell (o := 0) rfl
 have y8 := B8.lt; have y9 := B9.lt; have y10 := B10.lt; clear ha
 go_enter Tryz.func64, Tryz.ntmps64
 go_upto_region 1 with (go_at_call 65; (with_reducible refine cmm ALK.out fun w1 hb1 => ?_))
 clear k0 k1 k2 ALK; have C8 := B8.below hb1 y8; have C9 := B9.below hb1 y9; have C10 := B10.below hb1 y10; have Ol1 := hdh (OwnsR.below Ol hb1 lrr); have zb1 := hb1.size; have yc := C10.lt; have k0 := C10.cell (o := 0) rfl
 go_upto_region 2 with fail
 clear k0; replace hL := hdh hL
 go_loopw [9] (fun iv wr => ∃ k : Nat, k ≤ nl ∧ iv = .int .i64 k ∧ OwnsR base wr (.slice sl nl cl) (grK k l) ∧ w1.grownBy wr (Value.slice sl nl cl).ownBlock) (fun iv _ => nl - (intOf iv).toNat)
 case atStart => exact ⟨0, Nat.zero_le _, rfl, by rw [grK_zero]; exact Ol1.out, grown_refl _ _⟩
 case round =>
  obtain ⟨k, hk, rfl, hown, hgr⟩ := hrel; have G10 := C10.keep hgr n10; have k0 := G10.cell (o := 0) rfl
  by_cases hkn : k < nl
  ·have hown' := hown
   unfold OwnsR at hown'; rw [grK_len, hnl.out] at hown'; obtain ⟨g, rfl, hg1, hg2⟩ := own_addr hown' (by omega); obtain ⟨q, hq⟩ := get_at hnl.out hkn; obtain ⟨r0, r1, r2, r3⟩ := own_rmem hown (grK_at hq); have hfz := own_unfzR hown; have hst := hdh (grK_step hq); have hat := hdh (grK_at hq); have hlow := hL.out q (List.mem_of_getElem? hq); obtain ⟨qx, qy, qw, qh⟩ := q; simp only at r0 r1 r2 r3 hlow
   have hki : (k : Int) < nl := by omega
   clear hown' hq; replace hown := hdh hown; replace hgr := hdh hgr; go_wp2; go_roundw
   case rel =>
    refine ⟨k + 1, by omega, by go_num, ?_, grown_set hgr.out rfl _ _⟩; rw [← hst.out]; exact own_putR hown.out (by rw [grK_len, hnl.out]) hat.out (qh + 1)
   case measure => simp [intOf]; omega
  ·obtain rfl : k = nl := by omega
   rw [grK_all (by rw [hnl.out]; exact Nat.le_refl _)] at hown
   have hki : ¬ (k : Int) < k := by omega
   go_upto_region 6 with fail
   clear k0; have hbr : Below base w wr := (hb1.mono hb).grown hgr (by omega) (fun g hg => (own_in Ol g hg).1); have zr := hgr.size; have G8 := C8.keep hgr n8; have G9 := C9.keep hgr n9; have F1 := own_keep (OwnsR.below Of hb1 lrr) hgr (fun g h1 h2 => a2 g h1 h2); have F2 : OwnsR base wr (.slice sf (nf - k) cf) (f.take (nf - k)) := own_headR F1 hnf.out (by omega); have k0 := G8.cell (o := 0) rfl; have k1 := G10.cell (o := 0) rfl
   have ki : (0 : Int) ≤ (nf : Int) - k := by omega
   have eqm : (nf : Int) - (k : Int) = ((nf - k : Nat) : Int) := by omega
   obtain ⟨M, hM⟩ := exx (nf - k); rw [hM] at F2 eqm
   have hMn : (M : Int) ≤ nf := by omega
   have hle : nf ≤ cf ∧ cf ≤ maxLen := by have h := Of; unfold OwnsR at h; rw [hnf.out] at h; exact own_leR h
   have hMc : (M : Int) ≤ cf := by omega
   have hM0 : (0 : Int) ≤ M := by omega
   clear hle; have y8r := G8.lt; have y10r := G10.lt; replace hM := hdh hM; refine wp_region_steady_then (Held wr 0 []) 8 (by kernel_rfl) (by kernel_rfl) (by decide) (by kernel_rfl) (by kernel_rfl) ⟨belt, (by (try simp) <;> omega), (by first | exact trivial | (simp only [Cells]; go_simp))⟩ ?_; simp only [List.take_succ_cons, List.take_zero]
   repeat (first | (refine' sdo ?_; simp only [pu]) | (refine spa ?_; simp only [pu]))
   refine wpSteady_nil (fun uA hSA => ?_); obtain ⟨hcA, hbA, hzA, hcoA, hfoA⟩ := hall hSA; clear hSA; simp only [Cells] at hcA; simp only [List.drop_succ_cons, List.drop_zero, List.drop_nil]; have zA := hbA.size; have FA := ownsRow_below F2 hbA lrr; have LA : OwnsR base uA (.slice sl k cl) (l.map growR) := OwnsR.below hown hbA lrr; have RA := OwnsR.row LA lrr; have D8 := G8.below hbA y8r; have D9 := G9.below hbA G9.lt; have D10 := G10.below hbA y10r
   have hlm : (f.take M).length = M := by rw [List.length_take, hnf.out]; omega
   have hgl : (l.map growR).length = k := by rw [List.length_map, hnl.out]
   rw [hlm] at FA; have nf8 := ownsR_far F2 G8 (by decide); have nf9 := ownsR_far F2 G9 (by decide); have nf10 := ownsR_far F2 G10 (by decide); have hlk : l.length = k := hnl.out
   have hMb : M ≤ 1000000 := by omega
   obtain ⟨GL, hGL⟩ := exx (l.map growR); rw [hGL] at LA RA hgl
   have hgl2 : GL.length ≤ 1000000 := by omega
   replace hgl := hdh hgl; replace hGL := hdh hGL; clear hlk
   go_upto_region 9 with (first
    | ((at_builtin; refine wpList_append_rowA rfl _ _ _ rfl base 32 iR _ 4 32 Tryz.underlying25 hr0 hr1 hr2 hr3 rfl (by omega) uA _ _ _ (by rfl) FA Re.enc_len Re.enc_one uA.heap.size _ GL RA (by rfl) (by unfold maxLen; omega) (by omega) (by omega) ?_; intro v6 w6 hown6 hgr6 hat6); obtain ⟨s6, c6, hv6⟩ := own_slice hown6; subst hv6; have H8 := D8.keep hgr6 nf8; have j0 := H8.cell (o := 0) rfl; have jf := H8.free)
    | go_in)
   clear k0 k1 j0 jf
   have R6 : OwnsR base w6 (.slice s6 (M + GL.length) c6) (f.take M ++ GL) := by
    unfold OwnsR; rw [List.length_append, hlm, List.flatMap_append]; exact hown6
   have hob : (Value.slice sf M cf).ownBlock = (Value.slice sf nf cf).ownBlock := by cases sf <;> rfl
   have Ol6 : OwnsR base w6 (.slice sl k cl) GL := own_keep LA hgr6 (fun g h1 h2 => a2 g (hob.symm.trans h2) h1); have E9 := D9.keep hgr6 nf9; have E10 := D10.keep hgr6 nf10
   have ap : Apart (.slice s6 (M + GL.length) c6) (.slice sl k cl) := fun g h1 h2 => by
    rcases hat6 g h1 with h | h
    ·exact a2 g (hob.symm.trans h) h2
    ·have := (own_in hown g h2).2
     omega
   have f1 := ownsR_far R6 H8 (by decide); have f2 := ownsR_far R6 E9 (by decide); have l1 := ownsR_far Ol6 H8 (by decide); have l2 := ownsR_far Ol6 E9 (by decide); have hb6 : Below base w w6 := (hbr.trans (hbA.mono (by have := hbr.size; omega))).grown hgr6 (by omega) (fun g hg => (own_in F2 g hg).1)
   have S1 : ∀ {W : World} {v : Value} {l : List Re} {b : Nat}, OwnsR base W v l → v.ownBlock ≠ some b → ∀ u, OwnsR base (W.setCell ⟨b, 0, none⟩ u) v l := fun h hn u => own_other h (fun g hg he => hn (by rw [hg]; exact congrArg some he)) u
   have I8 := H8.set 0 (.slice s6 (M + GL.length) c6); have I9 := E9.set_ne (a := ⟨b8, 0, none⟩) (fun e => d1 e.symm) (.slice s6 (M + GL.length) c6); have I10 := E10.set_ne (a := ⟨b8, 0, none⟩) (fun e => d2 e.symm) (.slice s6 (M + GL.length) c6); have R7 := S1 R6 f1 (.slice s6 (M + GL.length) c6); have Ol7 := S1 Ol6 l1 (.slice s6 (M + GL.length) c6); have hb7 := hb6.setCell (p := ⟨b8, 0, none⟩) h8 (.slice s6 (M + GL.length) c6); generalize w6.setCell ⟨b8, 0, none⟩ (.slice s6 (M + GL.length) c6) = W8 at I8 I9 I10 R7 Ol7 hb7 ⊢; have k1 := I9.cell (o := 0) rfl; have kf := I9.free; go_wp2; have J8 := I8.set_ne (a := ⟨b9, 0, none⟩) d1 (.slice none 0 0)
   have J9 := I9.set 0 (.slice none 0 0); have J10 := I10.set_ne (a := ⟨b9, 0, none⟩) (fun e => d3 e.symm) (.slice none 0 0); have R9 := S1 R7 f2 (.slice none 0 0); have Ol9 := S1 Ol7 l2 (.slice none 0 0); have hb9 := hb7.setCell (p := ⟨b9, 0, none⟩) h9 (.slice none 0 0); clear k1 kf
   go_end0
   rw [hM.out, hGL.out]; exact ⟨rfl, ⟨_, _, _, J8, J9, J10, R9, OwnsR.nil _ _, Ol9, (Apart.none _ 0 0).symm, ap, Apart.none _ 0 0⟩, hb9⟩
end Go.Proofs.YtfcphagmjijmkaaGreatDoor
