/-
  Damage's law: 'much', 'lent', 'kept'.
-/
import Derived.ArgAppend
import Derived.Test.YtfcphagmjijmkaaGreatDoorDt25
namespace Go.Proofs.YtfcphagmjijmkaaGreatDoor
open Go.RowKit
set_option linter.unusedVariables false
set_option linter.unusedSimpArgs false
attribute [local go_sem] vwp vUpon_value vUpon_skip vUpon_enter vUpon_row
set_option maxHeartbeats 16000000
section
def mkS : St := ⟨0, ⟨0, 0, 0, 0⟩, ⟨0, 0, 0, 0⟩, ⟨0, 0, 0, 0⟩, ⟨#[]⟩, 777⟩
def LentS (xs : List St) (n : Nat) (w : World) (e : Ending) (w' : World) : Prop := ∃ g cap, e = .returned (.slice (some ⟨g, 0, none⟩) n cap) ∧ Owns w.heap.size w' (.slice (some ⟨g, 0, none⟩) (n + 1) cap) (xs ++ [mkS]) ∧ Below w.heap.size w w'
set_option maxRecDepth 100000 in
theorem dlent_any (xs : List St) (v : Value) (n : Nat) (w : World) (hl : Row w.heap.size 15 St.enc w v xs) (hm : xs.length ≤ 20000) (en : xs.length = n) : Calls Tryz.prog 26 #[v] w (LentS xs n w) := by
 obtain ⟨iM, hi0, hm0, hm1, hm2⟩ := info_parts infoSt; obtain ⟨s, cap, rfl, hmax⟩ := hl.shape; have hnil : World.ownsRow w w.heap.size 36 15 (.slice none 0 0) 0 [] := World.ownsRow_nil _ _ _ _; have hcs : [.int .u8 0, .int .i64 0, .int .i64 0, .int .i64 0, .int .i64 0, .int .u8 0, .int .u8 0, .int .u8 0, .int .u8 0, .int .u8 0, .int .u8 0, .int .u8 0, .int .u8 0, .string ⟨#[]⟩, .int .i64 777] = mkS.enc := rfl; replace hl := hdh hl; replace hcs := hdh hcs
 go_enter Tryz.func26, Tryz.ntmps26
 go_wp2_with (first
  | (at_builtin; refine wpList_append_row rfl _ _ _ rfl w.heap.size 36 iM _ 15 72 Tryz.underlying22 hi0 hm0 hm1 hm2 rfl (by omega) w _ _ _ (by rfl) hnil St.enc_len St.enc_one w.heap.size _ xs hl.out (by rfl) (by unfold maxLen; omega) (by omega) lrr ?_; intro v3 w3 hown3 hgr3)
  | (have hb3 : Below w.heap.size w w3 := (Below.refl _ _).grown hgr3 lrr (fun k hk => by simp [Value.ownBlock] at hk); (at_builtin; refine wpList_append_new rfl _ _ _ rfl w.heap.size 36 iM _ 15 72 Tryz.underlying22 hi0 hm0 hm1 hm2 rfl (by omega) w3 1 _ _ _ _ (by rfl) hown3 (by rfl) rfl (by simp [Value.oneCell']) (by omega) (by unfold maxLen; omega) hgr3.size ?_; intro v4 w4 hown4 hb4); rw [Nat.zero_add, List.nil_append, flat_snoc hcs.out, en] at hown4; obtain ⟨s4, c4, rfl⟩ := own_slice hown4; obtain ⟨g, rfl, hg1, hg2⟩ := own_addr hown4 (by omega); obtain ⟨hc1, hc2⟩ := own_len hown4; have hi1 : (n : Int) ≤ n + 1 := (by omega); have hi2 : (n : Int) ≤ c4 := (by omega); unfold maxLen at hc2; replace hown4 := hdh hown4)
  | go_in)
 have hb3 : Below w.heap.size w w3 := (Below.refl _ _).grown hgr3 lrr (fun k hk => by simp [Value.ownBlock] at hk); go_ret; refine ⟨g, c4, rfl, ?_, hb3.trans hb4⟩; unfold Owns; rw [List.length_append, en]; exact hown4.out
attribute [local go_sem high] eql_stroke
set_option maxRecDepth 100000 in
theorem dkept_any (xs : List St) (g cap n : Nat) (v2 : Value) (w : World) (hn : Row w.heap.size 15 St.enc w (.slice (some ⟨g, 0, none⟩) (n + 1) cap) (xs ++ [mkS])) (hl : Row w.heap.size 15 St.enc w v2 xs) (hm : xs.length ≤ 20000) (en : xs.length = n) : Calls Tryz.prog 31 #[.slice (some ⟨g, 0, none⟩) n cap, v2] w fun e w' => e = .returned (.bool true) ∧ Below w.heap.size w w' := by
 obtain ⟨b, o, cap', ev, hb, hcap, hcm, hx⟩ := row_st hn (by simp)
 have hlen : (xs ++ [mkS]).length = n + 1 := by simp [en]
 simp only [Value.slice.injEq, Option.some.injEq, Addr.mk.injEq, true_and, and_true] at ev; obtain ⟨⟨rfl, rfl⟩, hx0, rfl⟩ := ev; clear hx0; obtain ⟨s, cap2, rfl, hmax⟩ := hl.shape; have hcut : Row w.heap.size 15 St.enc w (.slice (some ⟨g, 0, none⟩) n cap) xs := row_cut (ys := [mkS]) (by rw [hlen]; exact hn) en; obtain ⟨g0, g1, g2, g3, g4, g5, g6, g7, g8, g9, g10, g11, g12, g13, g14⟩ := hx n mkS (by rw [List.getElem?_append_right (by omega), en, Nat.sub_self]; rfl); simp only [mkS, Nat.zero_add] at g0 g1 g2 g3 g4 g5 g6 g7 g8 g9 g10 g11 g12 g13 g14; have S := rsame_any xs xs _ _ w hcut hl (by omega) (by omega)
 rw [sameL_refl] at S; rw [hlen] at hcap; rw [en] at S hm ⊢; clear hx hl hn hcut hlen; replace S := hdh S; replace en := hdh en
 have n1 : (n : Int) + 1 ≤ cap := by omega
 have n2 : (n : Int) < n + 1 := by omega
 unfold maxLen at hcm
 go_enter Tryz.func31, Tryz.ntmps31
 go_wp2_with (first
  | (go_at_call 75; (with_reducible refine cmm (S.out) fun w3 hb3 => ?_); have hc3 := fun o => hb3.cell (p := ⟨g, o, none⟩) hb)
  | go_in)
 go_ret; exact ⟨rfl, hb3⟩
def muchB (n : Nat) : Bool := (decide (60 < n) && decide (n ≤ 16384)) || decide (20000 < n)
theorem dmuch_any (xs : List St) (v : Value) (n : Nat) (w : World) (hl : Row w.heap.size 15 St.enc w v xs) (en : xs.length = n) : Calls Tryz.prog 25 #[v] w fun e w' => e = .returned (.bool (muchB n)) ∧ Below w.heap.size w w' := by
 obtain ⟨s0, cap, rfl, hmax⟩ := hl.shape; rw [en] at hmax ⊢; clear hl en
 by_cases c1 : n ≤ 60
 ·rw [show muchB n = false by unfold muchB; simp; omega]
  have d1 : decide ((60 : Int) < n) = false := by simp; omega
  have d2 : decide ((20000 : Int) < n) = false := by simp; omega
  have d3 : decide ((n : Int) ≤ 16384) = true := by simp; omega
  go_enter Tryz.func25, Tryz.ntmps25
  go_wp2; go_ret; exact ⟨rfl, belt⟩
 ·by_cases c2 : n ≤ 16384
  ·rw [show muchB n = true by unfold muchB; simp; omega]
   have d1 : decide ((60 : Int) < n) = true := by simp; omega
   have d2 : decide ((n : Int) ≤ 16384) = true := by simp; omega
   go_enter Tryz.func25, Tryz.ntmps25
   go_wp2; go_ret; exact ⟨rfl, belt⟩
  ·by_cases c3 : n ≤ 20000
   ·rw [show muchB n = false by unfold muchB; simp; omega]
    have d1 : decide ((60 : Int) < n) = true := by simp; omega
    have d3 : decide ((n : Int) ≤ 16384) = false := by simp; omega
    have d2 : decide ((20000 : Int) < n) = false := by simp; omega
    go_enter Tryz.func25, Tryz.ntmps25
    go_wp2; go_ret; exact ⟨rfl, belt⟩
   ·rw [show muchB n = true by unfold muchB; simp; omega]
    have d1 : decide ((60 : Int) < n) = true := by simp; omega
    have d3 : decide ((n : Int) ≤ 16384) = false := by simp; omega
    have d2 : decide ((20000 : Int) < n) = true := by simp; omega
    go_enter Tryz.func25, Tryz.ntmps25
    go_wp2; go_ret; exact ⟨rfl, belt⟩
end
theorem eq_flatG (d : Nat) (w : World) (f g : Fl) : (Op.equalIn (d + 5) 120 (.agg #[.int .u8 (f).s.kind, .int .i64 (f).s.rect.x, .int .i64 (f).s.rect.y, .int .i64 (f).s.rect.wd, .int .i64 (f).s.rect.ht, .int .u8 (f).s.col.r, .int .u8 (f).s.col.g, .int .u8 (f).s.col.b, .int .u8 (f).s.col.a, .int .u8 (f).s.back.r, .int .u8 (f).s.back.g, .int .u8 (f).s.back.b, .int .u8 (f).s.back.a, .string (f).s.text, .int .i64 (f).s.node, .int .i64 (f).r.x, .int .i64 (f).r.y, .int .i64 (f).r.wd, .int .i64 (f).r.ht]) (.agg #[.int .u8 (g).s.kind, .int .i64 (g).s.rect.x, .int .i64 (g).s.rect.y, .int .i64 (g).s.rect.wd, .int .i64 (g).s.rect.ht, .int .u8 (g).s.col.r, .int .u8 (g).s.col.g, .int .u8 (g).s.col.b, .int .u8 (g).s.col.a, .int .u8 (g).s.back.r, .int .u8 (g).s.back.g, .int .u8 (g).s.back.b, .int .u8 (g).s.back.a, .string (g).s.text, .int .i64 (g).s.node, .int .i64 (g).r.x, .int .i64 (g).r.y, .int .i64 (g).r.wd, .int .i64 (g).r.ht])).run Tryz.prog w = .ok (f.eqb g) w := by
 unfold Fl.eqb; have A := Tryz.underlying120; have B := Tryz.underlying36; have C := Tryz.underlying32; rw [run_equalIn_agg w (d + 4) _ _ _ (by simp [Program.fieldsOf, A]) (by kernel_rfl)]; simp only [Program.fieldsOf, A]
 have z1 : Tryz.prog.cellsOf 36 = 15 := by kernel_rfl
 have z2 : Tryz.prog.cellsOf 32 = 4 := by kernel_rfl
 have y1 : Tryz.t36.size = 15 := by kernel_rfl
 have y2 : Tryz.t32.size = 4 := by kernel_rfl
 have E1 := eq_stroke d w f.s g.s; have E2 := eq_rect (d + 1) w f.r.x f.r.y f.r.wd f.r.ht g.r.x g.r.y g.r.wd g.r.ht; have e3 : eq4 f.r.x f.r.y f.r.wd f.r.ht g.r.x g.r.y g.r.wd g.r.ht = f.r.eqb g.r := rfl; rw [e3] at E2; generalize f.s.eqb g.s = b1 at *; generalize f.r.eqb g.r = b2 at *; simp only [Op.eqFields, Sem.run_bind, Sem.run_ite, Go.part, isAgg, run_underlying B, run_underlying C]
 simp [sizeOf, z1, z2, y1, y2, E1, E2]
 cases b1 <;> cases b2 <;> simp
/-! ### a flat stroke as one value -/
noncomputable def ldG (v : Value) : Sem Value := Instr.loadAt 120 v
theorem ldG_is (v : Value) : Instr.loadAt 120 v = ldG v := rfl
theorem ldG_at {w : World} {b o : Nat} {f : Fl} (h : ∀ i u, f.enc[i]? = some u → w.cell? ⟨b, o + i, none⟩ = some u) : (ldG (.pointer (some ⟨b, o, none⟩))).run Tryz.prog w = .ok f.val w :=
 run_loadAt_mid w b o _ f.enc _ h Tryz.underlying120 rfl (by kernel_rfl)
theorem eql_valG (f g : Fl) (w : World) : (binOp .eql 120 f.val g.val).run Tryz.prog w = .ok (.bool (f.eqb g)) w := by
 have e : ∀ f : Fl, f.val = .agg #[.int .u8 (f).s.kind, .int .i64 (f).s.rect.x, .int .i64 (f).s.rect.y, .int .i64 (f).s.rect.wd, .int .i64 (f).s.rect.ht, .int .u8 (f).s.col.r, .int .u8 (f).s.col.g, .int .u8 (f).s.col.b, .int .u8 (f).s.col.a, .int .u8 (f).s.back.r, .int .u8 (f).s.back.g, .int .u8 (f).s.back.b, .int .u8 (f).s.back.a, .string (f).s.text, .int .i64 (f).s.node, .int .i64 (f).r.x, .int .i64 (f).r.y, .int .i64 (f).r.wd, .int .i64 (f).r.ht] := fun f => rfl
 rw [e, e, run_eql_struct]; have h := eq_flatG 9995 w f g; rw [h]
 rfl
theorem eqg_valG (f g : Fl) (x y : Operand) (w : World) : (eqGuard .eql 120 x y f.val g.val).run Tryz.prog w = .ok () w :=
 run_eqGuard_agg w .eql _ x y f.enc.toArray g.enc.toArray (by kernel_rfl)
theorem row_ldG {B : Nat} {w : World} {v : Value} {xs : List Fl} (h : Row B 19 Fl.enc w v xs) (hB : B ≤ w.heap.size) (h0 : 0 < xs.length) :
  ∃ b o cap, v = .slice (some ⟨b, o, none⟩) xs.length cap ∧ b < B ∧ xs.length ≤ cap ∧ cap ≤ maxLen ∧ ∀ j f, xs[j]? = some f → ∀ w', Below w.heap.size w w' → (ldG (.pointer (some ⟨b, o + j * 19, none⟩))).run Tryz.prog w' = .ok f.val w' := by
 obtain ⟨b, o, cap, e, hb, h1, h2, hx⟩ := h.open_ h0; exact ⟨b, o, cap, e, hb, h1, h2, fun j s hj w' hw => ldG_at fun i u hi => (hw.cell (p := ⟨b, _, none⟩) (Nat.lt_of_lt_of_le hb hB)).trans (hx j s hj i u hi)⟩
/-! ### slices of a row, each as one step -/
noncomputable def slG (v : Value) (lo hi mx : Option Value) : Sem Value := Instr.sliceAt 114 v lo hi mx
theorem slG_is (v : Value) (lo hi mx : Option Value) : Instr.sliceAt 114 v lo hi mx = slG v lo hi mx := rfl
theorem row_fromG {B : Nat} {w : World} {va : Value} {A : List Fl} (h : Row B 19 Fl.enc w va A) {k : Nat} (hk : k ≤ A.length) :
  ∃ s c, (∀ W, (slG va (some (.int .i64 k)) none none).run Tryz.prog W = .ok (.slice s (A.length - k) c) W) ∧ Row B 19 Fl.enc w (.slice s (A.length - k) c) (A.drop k) := by
 have h0 := h; obtain ⟨s, cap, rfl, hl, hc, hx⟩ := h; have hcm := hc; unfold maxLen at hc; obtain ⟨n, hn⟩ := exx (A.length); rw [hn] at h0 hl hk hx ⊢
 cases s with
 | none =>
  have e : n = 0 := by
   rcases Nat.eq_zero_or_pos n with h | h
   ·exact h
   ·obtain ⟨_, _, e, _⟩ := hx h; cases e
  subst e; have eA : A = [] := List.length_eq_zero_iff.1 hn; subst eA
  obtain rfl : k = 0 := by omega
  refine ⟨none, cap, fun W => by clear hx h0; unfold slG; go_simp, ?_⟩; rw [List.drop_nil]; exact Row.empty _ hcm
 | some a =>
  by_cases hn0 : n = 0
  ·subst hn0
   have eA : A = [] := List.length_eq_zero_iff.1 hn; subst eA
   obtain rfl : k = 0 := by omega
   refine ⟨some a, cap, fun W => by clear hx h0; unfold slG; go_simp, ?_⟩; rw [List.drop_nil]; exact Row.empty _ hcm
  ·obtain ⟨b, o, e, hb, hcl⟩ := hx (by omega)
   injection e with e
   subst e
   by_cases hck : cap = k
   ·refine ⟨some ⟨b, o, none⟩, cap - k, fun W => by clear hx h0 hcl; unfold slG; go_simp, ?_⟩
    have e0 : n - k = 0 := by omega
    rw [e0, List.drop_eq_nil_of_le (by omega)]; exact Row.empty _ (by omega)
   ·refine ⟨some ⟨b, o + k * 19, none⟩, cap - k, fun W => by clear hx h0 hcl; unfold slG; go_simp, ?_⟩
    exact Row.back Fl.enc_len h0 hn hk
theorem row_uptoG {B : Nat} {w : World} {va : Value} {A : List Fl} (h : Row B 19 Fl.enc w va A) {k : Nat} (hk : k ≤ A.length) :
  ∃ s c, (∀ W, (slG va none (some (.int .i64 k)) none).run Tryz.prog W = .ok (.slice s k c) W) ∧ Row B 19 Fl.enc w (.slice s k c) (A.take k) := by
 have h0 := h; obtain ⟨s, cap, rfl, hl, hc, hx⟩ := h; unfold maxLen at hc; obtain ⟨n, hn⟩ := exx (A.length); rw [hn] at h0 hl hk
 have hkc : k ≤ cap := by omega
 refine ⟨s, cap, fun W => by clear hx h0 hn; unfold slG; go_simp, Row.front h0 hn hk⟩
def OwnsG (base : Nat) (w : World) (v : Value) (l : List Fl) : Prop := w.ownsRow base 120 19 v l.length (l.flatMap Fl.enc)
theorem OwnsG.nil (base : Nat) (w : World) : OwnsG base w (.slice none 0 0) [] := World.ownsRow_nil _ _ _ _
theorem OwnsG.row {base B : Nat} {w : World} {v : Value} {l : List Fl} (h : OwnsG base w v l) (hB : w.heap.size ≤ B) : Row B 19 Fl.enc w v l := Row.own Fl.enc_len h hB (by omega)
theorem OwnsG.below {base B : Nat} {w w' : World} {v : Value} {l : List Fl} (h : OwnsG base w v l) (hb : Below B w w') (hB : w.heap.size ≤ B) : OwnsG base w' v l := ownsRow_below h hb hB
theorem infoFlG : (Tryz.prog.info? 120).map (fun i => (i.zero, i.size, i.bytes)) = some (some (.agg #[.int .u8 0, .int .i64 0, .int .i64 0, .int .i64 0, .int .i64 0, .int .u8 0, .int .u8 0, .int .u8 0, .int .u8 0, .int .u8 0, .int .u8 0, .int .u8 0, .int .u8 0, .string ⟨#[]⟩, .int .i64 0, .int .i64 0, .int .i64 0, .int .i64 0, .int .i64 0]), 19, 104) := by kernel_rfl
theorem flatF_snoc {l : List Fl} {t : Fl} {cs : List Value} (h : cs = t.enc) : l.flatMap Fl.enc ++ cs = (l ++ [t]).flatMap Fl.enc := by
 subst h; rw [List.flatMap_append]
 simp
set_option maxRecDepth 100000 in
theorem kflats_any (xs : List St) (v : Value) (w : World) (hl : Row w.heap.size 15 St.enc w v xs) (k1 : ∀ s ∈ xs, s.Wf) : Calls Tryz.prog 69 #[v] w fun e w' => Below w.heap.size w w' ∧ ∃ v', e = .returned v' ∧ OwnsG w.heap.size w' v' (flts xs) := by
 obtain ⟨iF, hr0, hr1, hr2, hr3⟩ := info_parts infoFlG; have FL := kflat_any xs v w hl k1; obtain ⟨s0, cap0, rfl, hmax0⟩ := hl.shape; clear hl
 have hbad : chkL xs ≠ 0 → flts xs = [] := fun h => flts_bad h
 have hle : (flts xs).length ≤ 16384 := by
  by_cases h : chkL xs = 0
  ·exact Nat.le_trans (by rw [flts_len, show flS xs = fltS xs from if_pos h]; exact fltS_le xs) (chk_len h)
  ·rw [hbad h]; exact Nat.zero_le _
 have hget := fun i s q => flts_mk (xs := xs) (i := i) (s := s) (q := q)
 have hfl := flts_len xs; have hsr := flsr_len (xs := xs); obtain ⟨E, hE⟩ := exx (chkL xs); rw [hE] at FL; obtain ⟨S, hS⟩ := exx (flS xs); obtain ⟨R, hR⟩ := exx (flR xs); obtain ⟨D, hD⟩ := exx (flts xs); rw [hS, hR] at FL; rw [hS, hR] at hsr; rw [hD] at hle ⊢; rw [hD, hS] at hfl; rw [hS, hR, hD] at hget; obtain ⟨n, hn⟩ := exx (S.length); rw [hn] at hsr hfl; rw [hfl] at hle; obtain ⟨N, hN⟩ := exx (xs.length); rw [hN] at FL ⊢; replace FL := hdh FL; clear hE hbad hS hR hD hN; replace hget := hdh hget; replace hfl := hdh hfl; replace hsr := hdh hsr; replace hn := hdh hn
 go_enter Tryz.func69, Tryz.ntmps69
 go_upto_region 2 with (go_at_call 120; (with_reducible refine FL.out.mono ?_); rintro e w3 ⟨hb3, vS, vR, rfl, OS, OR, hap⟩; obtain ⟨sS, cS, hvS⟩ := own_slice OS; obtain ⟨sR, cR, hvR⟩ := own_slice OR; rw [hn.out] at hvS; rw [hsr.out] at hvR; subst hvS; subst hvR)
 clear FL hap; have z3 := hb3.size; have RS := hdh (OS.row lrr); have RR := hdh (OR.row lrr); clear OS OR; go_wp2
 go_loopw [6, 7] (fun ov i wr => ∃ k : Nat, k ≤ n ∧ i = .int .i64 k ∧ OwnsG w3.heap.size wr ov (D.take k) ∧ Below w3.heap.size w3 wr) (fun _ i _ => n - (intOf i).toNat)
 case atStart => exact ⟨0, Nat.zero_le _, rfl, OwnsG.nil _ _, Below.refl _ _⟩
 case round =>
  obtain ⟨k, hk, rfl, hown, hbr⟩ := hrel; have zr := hbr.size
  by_cases hkn : k < n
  ·obtain ⟨bS, oS, cS', e, hbS, _, _, helS⟩ := row_st (RS.out.below hbr) (by rw [hn.out]; omega)
   rw [hn.out] at e
   simp at e
   obtain ⟨rfl, rfl⟩ := e; obtain ⟨bR, oR, cR', e, hbR, _, _, helR⟩ := row_re (RR.out.below hbr) (by rw [hsr.out]; omega); rw [hsr.out] at e
   simp at e
   obtain ⟨rfl, rfl⟩ := e; obtain ⟨s, hs⟩ := get_at hn.out hkn; obtain ⟨q, hq⟩ := get_at hsr.out hkn; obtain ⟨g0, g1, g2, g3, g4, g5, g6, g7, g8, g9, g10, g11, g12, g13, g14⟩ := helS k s hs; obtain ⟨j0, j1, j2, j3⟩ := helR k q hq; have hd := hget.out k s q hs hq
   have hkk : (k : Int) < n := by omega
   have htk : (D.take k).length = k := by rw [List.length_take, hfl.out]; omega
   have hnx : D.take (k + 1) = D.take k ++ [⟨s, q⟩] := by rw [List.take_add_one, hd]; rfl
   unfold OwnsG at hown; rw [htk] at hown; obtain ⟨s9, c9, rfl⟩ := own_slice hown; have hcs : [.int .u8 s.kind, .int .i64 s.rect.x, .int .i64 s.rect.y, .int .i64 s.rect.wd, .int .i64 s.rect.ht, .int .u8 s.col.r, .int .u8 s.col.g, .int .u8 s.col.b, .int .u8 s.col.a, .int .u8 s.back.r, .int .u8 s.back.g, .int .u8 s.back.b, .int .u8 s.back.a, .string s.text, .int .i64 s.node, .int .i64 q.x, .int .i64 q.y, .int .i64 q.wd, .int .i64 q.ht] = Fl.enc ⟨s, q⟩ := rfl; replace hcs := hdh hcs; replace hown := hdh hown; replace hnx := hdh hnx
   have yS : bS < wr.heap.size := by omega
   have yR : bR < wr.heap.size := by omega
   clear hd hs hq helS helR
   go_upto_region 6 with fail
   refine held_begin (Below w3.heap.size wr) (by kernel_rfl) (Below.drew (Below.refl _ _)) (fun hS => ?_); have hb0 : Below wr.heap.size wr wr.drew := Below.drew (Below.refl _ _); generalize wr.drew = u0 at hS hb0 ⊢; have z0 := hb0.size; have own0 := hdh (ownsRow_below hown.out hb0 lrr)
   (refine' held_do (i := 0) _ (by kernel_rfl) (by kernel_rfl) (by kernel_rfl) _ _ hS _ _; rotate_left 2; (focus exact geti); (focus exact fun _ _ _ h => h); (focus rfl); (focus (intro w1 hSS R hR; obtain ⟨hco, hfo⟩ := bcellB hSS; go_simp; (try go_bits); exact hR)); simp only [pu])
   (refine' held_do (i := 1) _ (by kernel_rfl) (by kernel_rfl) (by kernel_rfl) _ _ hS _ _; rotate_left 2; (focus exact geti); (focus exact fun _ _ _ h => h); (focus rfl); (focus (intro w1 hSS R hR; obtain ⟨hco, hfo⟩ := bcellB hSS; go_simp; (try go_bits); exact hR)); simp only [pu])
   (refine' held_do (i := 2) _ (by kernel_rfl) (by kernel_rfl) (by kernel_rfl) _ _ hS _ _; rotate_left 2; (focus exact geti); (focus exact fun _ _ _ h => h); (focus rfl); (focus (intro w1 hSS R hR; obtain ⟨hco, hfo⟩ := bcellB hSS; go_simp; (try go_bits); exact hR)); simp only [pu])
   (refine' held_do (i := 3) _ (by kernel_rfl) (by kernel_rfl) (by kernel_rfl) _ _ hS _ _; rotate_left 2; (focus exact geti); (focus exact fun _ _ _ h => h); (focus rfl); (focus (intro w1 hSS R hR; obtain ⟨hco, hfo⟩ := bcellB hSS; go_simp; (try go_bits); exact hR)); simp only [pu])
   (refine' held_do (i := 4) _ (by kernel_rfl) (by kernel_rfl) (by kernel_rfl) _ _ hS _ _; rotate_left 2; (focus exact geti); (focus exact fun _ _ _ h => h); (focus rfl); (focus (intro w1 hSS R hR; obtain ⟨hco, hfo⟩ := bcellB hSS; go_simp; (try go_bits); exact hR)); simp only [pu])
   (refine' held_do (i := 5) _ (by kernel_rfl) (by kernel_rfl) (by kernel_rfl) _ _ hS _ _; rotate_left 2; (focus exact geti); (focus exact fun _ _ _ h => h); (focus rfl); (focus (intro w1 hSS R hR; obtain ⟨hco, hfo⟩ := bcellB hSS; go_simp; (try go_bits); exact hR)); simp only [pu])
   (refine' held_do (i := 6) _ (by kernel_rfl) (by kernel_rfl) (by kernel_rfl) _ _ hS _ _; rotate_left 2; (focus exact geti); (focus exact fun _ _ _ h => h); (focus rfl); (focus (intro w1 hSS R hR; obtain ⟨hco, hfo⟩ := bcellB hSS; go_simp; (try go_bits); exact hR)); simp only [pu])
   (refine' held_do (i := 7) _ (by kernel_rfl) (by kernel_rfl) (by kernel_rfl) _ _ hS _ _; rotate_left 2; (focus exact geti); (focus exact fun _ _ _ h => h); (focus rfl); (focus (intro w1 hSS R hR; obtain ⟨hco, hfo⟩ := bcellB hSS; go_simp; (try go_bits); exact hR)); simp only [pu])
   (refine' held_do (i := 8) _ (by kernel_rfl) (by kernel_rfl) (by kernel_rfl) _ _ hS _ _; rotate_left 2; (focus exact geti); (focus exact fun _ _ _ h => h); (focus rfl); (focus (intro w1 hSS R hR; obtain ⟨hco, hfo⟩ := bcellB hSS; go_simp; (try go_bits); exact hR)); simp only [pu])
   (refine' held_do (i := 9) _ (by kernel_rfl) (by kernel_rfl) (by kernel_rfl) _ _ hS _ _; rotate_left 2; (focus exact geti); (focus exact fun _ _ _ h => h); (focus rfl); (focus (intro w1 hSS R hR; obtain ⟨hco, hfo⟩ := bcellB hSS; go_simp; (try go_bits); exact hR)); simp only [pu])
   (refine honn 10 fun K hK => ?_; go_simp)
   obtain ⟨v1, hv⟩ := exx (u0.alloc (.cells #[.int .u8 s.kind, .int .i64 s.rect.x, .int .i64 s.rect.y, .int .i64 s.rect.wd, .int .i64 s.rect.ht, .int .u8 s.col.r, .int .u8 s.col.g, .int .u8 s.col.b, .int .u8 s.col.a, .int .u8 s.back.r, .int .u8 s.back.g, .int .u8 s.back.b, .int .u8 s.back.a, .string s.text, .int .i64 s.node, .int .i64 q.x, .int .i64 q.y, .int .i64 q.wd, .int .i64 q.ht] 120))
   have BN : Blk v1 u0.heap.size [.int .u8 s.kind, .int .i64 s.rect.x, .int .i64 s.rect.y, .int .i64 s.rect.wd, .int .i64 s.rect.ht, .int .u8 s.col.r, .int .u8 s.col.g, .int .u8 s.col.b, .int .u8 s.col.a, .int .u8 s.back.r, .int .u8 s.back.g, .int .u8 s.back.b, .int .u8 s.back.a, .string s.text, .int .i64 s.node, .int .i64 q.x, .int .i64 q.y, .int .i64 q.wd, .int .i64 q.ht] 120 := by rw [← hv]; exact Blk.new' rfl
   have own1 := hdh (show v1.ownsRow w3.heap.size 120 19 (.slice s9 k c9) k _ by rw [← hv]; exact own0.out.alloc _)
   have hTv : Below w3.heap.size wr v1 := by rw [← hv]; exact hS.alloc (by omega) _
   have zv : w3.heap.size ≤ v1.heap.size := by rw [← hv, World.size_alloc]; omega
   rw [hv]; clear hv; refine hK _ _ hTv ?_; clear hK hS own0
   (try simp only [pu])
   (refine' held_one (i := 11) _ (by kernel_rfl) _ _; rotate_left; (focus exact geti); (focus rfl); intro K hK)
   refine wp_append_blk _ _ _ rfl w3.heap.size 120 iF _ 19 104 Tryz.underlying114 hr0 hr1 hr2 hr3 rfl (by omega) v1 1 _ _ _ _ k _ (by rfl) own1.out BN (by rfl) rfl (by simp [Value.oneCell']) (by omega) (by unfold maxLen; omega) (by omega) ?_
   intro v6 w6 hown6 hgr6 _ hlw6
   have hS6 : Below w3.heap.size wr w6 := hTv.trans hlw6; rw [flatF_snoc hcs.out, ← hnx.out] at hown6; replace hown6 := hdh hown6; refine hK _ _ hS6 ?_; clear hK hTv
   (try simp only [pu])
   (refine honn 12 fun K hK => ?_; go_simp)
   refine hK _ _ hS6 ?_; clear hK
   (try simp only [pu])
   refine wpAnyH_done (by kernel_rfl) ?_ _; have hb6' := hbr.trans hS6; clear hgr6 hlw6 BN own1 g0 g1 g2 g3 g4 g5 g6 g7 g8 g9 g10 g11 g12 g13 g14 j0 j1 j2 j3 hown hbr; go_wp2; go_roundw
   case rel =>
    refine ⟨k + 1, by omega, by go_num, ?_, hb6'⟩; unfold OwnsG; rw [show (D.take (k + 1)).length = k + 1 by rw [List.length_take, hfl.out]; omega]; exact hown6.out
   case measure => simp [intOf]; omega
  ·obtain rfl : k = n := by omega
   rw [List.take_of_length_le (by rw [hfl.out]; exact Nat.le_refl _)] at hown; replace hown := hdh hown; go_wp2; go_ret; exact ⟨hb3.trans (hbr.mono z3), _, rfl, own_less hown.out z3⟩
section
attribute [local go_sem ↓ high] ldG_is slG_is
theorem stepB_nil_left (Y : List Fl) : stepB [] Y = false := rfl
theorem stepB_nil_right (X : List Fl) : stepB X [] = false := by cases X <;> rfl
theorem stepB_at {X Y : List Fl} {x y : Fl} (h1 : X[0]? = some x) (h2 : Y[0]? = some y) : stepB X Y = x.eqb y := by
 have := step_at (k := 0) h1 h2
 rwa [List.drop_zero, List.drop_zero] at this
theorem rev_tail {X : List Fl} {n : Nat} (h : X.length = n) : (X.take (n - 1)).reverse = X.reverse.tail := by
 rw [← List.drop_one, List.drop_reverse, h]
theorem rev_head {X : List Fl} {n : Nat} {x : Fl} (h : X.length = n) (h0 : 0 < n) (hx : X[n - 1]? = some x) : X.reverse[0]? = some x := by
 rw [List.getElem?_reverse (by omega), h]; exact hx
set_option maxRecDepth 100000 in
theorem kmiddles_any (A B : List Fl) (va vb : Value) (w : World) (hA : Row w.heap.size 19 Fl.enc w va A) (hB : Row w.heap.size 19 Fl.enc w vb B) :
  Calls Tryz.prog 68 #[va, vb] w fun e w' => Below w.heap.size w w' ∧ ∃ v u, e = .returned (.tuple #[v, u]) ∧ Row w.heap.size 19 Fl.enc w v (midP A B).1 ∧ Row w.heap.size 19 Fl.enc w u (midP A B).2 := by
 obtain ⟨X0, hX0⟩ := exx ((cutPre A B).1); obtain ⟨Y0, hY0⟩ := exx ((cutPre A B).2)
 have hM : midP A B = ((cutPre X0.reverse Y0.reverse).1.reverse, (cutPre X0.reverse Y0.reverse).2.reverse) := by unfold midP; rw [hX0, hY0]
 have hXY : cutPre A B = (X0, Y0) := by rw [← hX0, ← hY0]
 rw [hM]; clear hM hX0 hY0; obtain ⟨P, hP⟩ := exx ((cutPre X0.reverse Y0.reverse).1); obtain ⟨Q, hQ⟩ := exx ((cutPre X0.reverse Y0.reverse).2)
 have hPQ : cutPre X0.reverse Y0.reverse = (P, Q) := by rw [← hP, ← hQ]
 rw [hP, hQ]; clear hP hQ; replace hPQ := hdh hPQ; replace hXY := hdh hXY; replace hA := hdh hA; replace hB := hdh hB
 go_enter Tryz.func68, Tryz.ntmps68
 go_wp2
 go_loopg [0, 1] A.length (fun gg va vb wr => ∃ (X Y : List Fl), X.length ≤ gg ∧ Hid (Row w.heap.size 19 Fl.enc w va X) ∧ Hid (Row w.heap.size 19 Fl.enc w vb Y) ∧ Hid (cutPre X Y = (X0, Y0)) ∧ Below w.heap.size w wr)
 case atStart => exact ⟨A, B, Nat.le_refl _, hA, hB, hXY, belt⟩
 case round =>
  clear hA hB hXY; obtain ⟨X, Y, hgg, rA, rB, hc, hbr⟩ := hrel; have zr := hbr.size; obtain ⟨sA, cA, rfl, mA⟩ := rA.out.shape; obtain ⟨sB, cB, rfl, mB⟩ := rB.out.shape; obtain ⟨nA, enA⟩ := exx (X.length); obtain ⟨nB, enB⟩ := exx (Y.length); rw [enA] at rA mA hgg ⊢; rw [enB] at rB mB ⊢; unfold maxLen at mA mB; replace enA := hdh enA; replace enB := hdh enB; obtain ⟨C, hC⟩ := exx (stepB X Y); have hCs := hdh hC
  go_upto_region 1 with fail
  go_cut [22] from 6 to 22 (fun ev wx => ev = .bool C ∧ Below w.heap.size w wx)
  case first =>
   by_cases ca : 0 < nA
   ·have ca1 : (0 : Int) < nA := by omega
    by_cases cb : 0 < nB
    ·have cb1 : (0 : Int) < nB := by omega
     obtain ⟨x, hx⟩ := get_at enA.out (show 0 < nA by omega); obtain ⟨y, hy⟩ := get_at enB.out (show 0 < nB by omega); obtain ⟨bA, oA, cA', e, hbA, _, _, hlA⟩ := row_ldG (rA.out.below hbr) zr (by rw [enA.out]; omega); rw [enA.out] at e
     simp at e
     obtain ⟨rfl, rfl⟩ := e; obtain ⟨bB, oB, cB', e, hbB, _, _, hlB⟩ := row_ldG (rB.out.below hbr) zr (by rw [enB.out]; omega); rw [enB.out] at e
     simp at e
     obtain ⟨rfl, rfl⟩ := e; have LX := hlA 0 x hx; have LY := hlB 0 y hy
     have EQ := fun w => eql_valG x y w
     have EG := fun p q w => eqg_valG x y p q w
     rw [stepB_at hx hy] at hC; rw [hC] at EQ; generalize x.val = VX at LX EQ EG; generalize y.val = VY at LY EQ EG; replace LX := hdh LX; replace LY := hdh LY; clear hlA hlB hx hy hC; rw [Nat.zero_mul, Nat.add_zero] at LX LY; refine rst (Held wr 0 []) ?_
     repeat (first | (refine' wpSteady_do _ _ _; rotate_left; (focus rfl); (focus (intro w1 hS R hR; have hc := hS.cells; simp only [Cells] at hc; obtain ⟨hco, hfo⟩ := bcell hS.old; have hLx := LX.out _ hS.old; have hLy := LY.out _ hS.old; go_simp; (try go_bits); first | exact hR _ hS | fail)); simp only [pu]) | (refine spa ?_; simp only [pu]))
     refine wpSteady_nil (fun uZ hSZ => ?_); obtain ⟨hcZ, hbZ, hzZ, hcoZ, hfoZ⟩ := hall hSZ; clear hSZ; simp only [Cells] at hcZ; go_wp2; go_meet
     case rel => exact ⟨rfl, hbr.trans (hbZ.mono zr)⟩
    ·have cb1 : ¬ (0 : Int) < nB := by omega
     obtain rfl : Y = [] := List.length_eq_zero_iff.1 (by have := enB.out; omega); rw [stepB_nil_right] at hC; subst hC; refine rst (Held wr 0 []) ?_
     repeat (first | (refine' sdo ?_; simp only [pu]) | (refine spa ?_; simp only [pu]))
     refine wpSteady_nil (fun uZ hSZ => ?_); obtain ⟨hcZ, hbZ, hzZ, hcoZ, hfoZ⟩ := hall hSZ; clear hSZ; simp only [Cells] at hcZ; go_wp2; go_meet
     case rel => exact ⟨rfl, hbr.trans (hbZ.mono zr)⟩
   ·have ca1 : ¬ (0 : Int) < nA := by omega
    obtain rfl : X = [] := List.length_eq_zero_iff.1 (by have := enA.out; omega); rw [stepB_nil_left] at hC; subst hC; refine rst (Held wr 0 []) ?_
    repeat (first | (refine' sdo ?_; simp only [pu]) | (refine spa ?_; simp only [pu]))
    refine wpSteady_nil (fun uZ hSZ => ?_); obtain ⟨hcZ, hbZ, hzZ, hcoZ, hfoZ⟩ := hall hSZ; clear hSZ; simp only [Cells] at hcZ; go_wp2; go_meet
    case rel => exact ⟨rfl, hbr.trans (hbZ.mono zr)⟩
  case rest =>
   obtain ⟨rfl, hb1⟩ := hcut
   cases C
   ·have h3 := hc.out
    rw [cut_stop hCs.out] at h3
    injection h3 with h4 h5
    subst h4 h5; clear hc hCs hbr zr; go_wp2
    go_loopg [0, 1] nA (fun gg va vb wr => ∃ (U V : List Fl), U.length ≤ gg ∧ Hid (Row w.heap.size 19 Fl.enc w va U) ∧ Hid (Row w.heap.size 19 Fl.enc w vb V) ∧ Hid (cutPre U.reverse V.reverse = (P, Q)) ∧ Below w.heap.size w wr)
    case atStart => exact ⟨X, Y, by rw [enA.out]; exact Nat.le_refl _, rA, rB, hPQ, hb1⟩
    case round =>
     clear rA rB hPQ enA enB mA mB hgg hb1; obtain ⟨U, V, hgg, rA, rB, hc, hbr⟩ := hrel; have zr := hbr.size; obtain ⟨sU, cU, rfl, mA⟩ := rA.out.shape; obtain ⟨sV, cV, rfl, mB⟩ := rB.out.shape; obtain ⟨n1, enA⟩ := exx (U.length); obtain ⟨n2, enB⟩ := exx (V.length); rw [enA] at rA mA hgg ⊢; rw [enB] at rB mB ⊢; unfold maxLen at mA mB; replace enA := hdh enA; replace enB := hdh enB; obtain ⟨C, hC⟩ := exx (stepB U.reverse V.reverse); have hCs := hdh hC
     go_upto_region 4 with fail
     go_cut [49] from 27 to 49 (fun ev wx => ev = .bool C ∧ Below w.heap.size w wx)
     case first =>
      by_cases ca : 0 < n1
      ·have ca1 : (0 : Int) < n1 := by omega
       obtain ⟨p, hp⟩ := exx (n1 - 1)
       have ip : (n1 : Int) - 1 = p := by omega
       by_cases cb : 0 < n2
       ·have cb1 : (0 : Int) < n2 := by omega
        obtain ⟨q, hq⟩ := exx (n2 - 1)
        have iq : (n2 : Int) - 1 = q := by omega
        have pl : (p : Int) < n1 := by omega
        have ql : (q : Int) < n2 := by omega
        obtain ⟨x, hx⟩ := get_at enA.out (show p < n1 by omega); obtain ⟨y, hy⟩ := get_at enB.out (show q < n2 by omega); obtain ⟨bA, oA, cA', e, hbA, _, _, hlA⟩ := row_ldG (rA.out.below hbr) zr (by rw [enA.out]; omega); rw [enA.out] at e
        simp at e
        obtain ⟨rfl, rfl⟩ := e; obtain ⟨bB, oB, cB', e, hbB, _, _, hlB⟩ := row_ldG (rB.out.below hbr) zr (by rw [enB.out]; omega); rw [enB.out] at e
        simp at e
        obtain ⟨rfl, rfl⟩ := e; have LX := hlA p x hx; have LY := hlB q y hy
        have EQ := fun w => eql_valG x y w
        have EG := fun p q w => eqg_valG x y p q w
        rw [stepB_at (x := x) (y := y) (rev_head enA.out ca (by rw [hp]; exact hx)) (rev_head enB.out cb (by rw [hq]; exact hy))] at hC; rw [hC] at EQ; generalize x.val = VX at LX EQ EG; generalize y.val = VY at LY EQ EG; replace LX := hdh LX; replace LY := hdh LY; clear hlA hlB hx hy hC; clear hp hq; refine rst (Held wr 0 []) ?_
        repeat (first | (refine' wpSteady_do _ _ _; rotate_left; (focus rfl); (focus (intro w1 hS R hR; have hc := hS.cells; simp only [Cells] at hc; obtain ⟨hco, hfo⟩ := bcell hS.old; have hLx := LX.out _ hS.old; have hLy := LY.out _ hS.old; go_simp; (try go_bits); first | exact hR _ hS | fail)); simp only [pu]) | (refine spa ?_; simp only [pu]))
        refine wpSteady_nil (fun uZ hSZ => ?_); obtain ⟨hcZ, hbZ, hzZ, hcoZ, hfoZ⟩ := hall hSZ; clear hSZ; simp only [Cells] at hcZ; go_wp2; go_meet
        case rel => exact ⟨rfl, hbr.trans (hbZ.mono zr)⟩
       ·have cb1 : ¬ (0 : Int) < n2 := by omega
        obtain rfl : V = [] := List.length_eq_zero_iff.1 (by have := enB.out; omega); rw [List.reverse_nil, stepB_nil_right] at hC; subst hC; refine rst (Held wr 0 []) ?_
        repeat (first | (refine' sdo ?_; simp only [pu]) | (refine spa ?_; simp only [pu]))
        refine wpSteady_nil (fun uZ hSZ => ?_); obtain ⟨hcZ, hbZ, hzZ, hcoZ, hfoZ⟩ := hall hSZ; clear hSZ; simp only [Cells] at hcZ; go_wp2; go_meet
        case rel => exact ⟨rfl, hbr.trans (hbZ.mono zr)⟩
      ·have ca1 : ¬ (0 : Int) < n1 := by omega
       obtain rfl : U = [] := List.length_eq_zero_iff.1 (by have := enA.out; omega); rw [List.reverse_nil, stepB_nil_left] at hC; subst hC; refine rst (Held wr 0 []) ?_
       repeat (first | (refine' sdo ?_; simp only [pu]) | (refine spa ?_; simp only [pu]))
       refine wpSteady_nil (fun uZ hSZ => ?_); obtain ⟨hcZ, hbZ, hzZ, hcoZ, hfoZ⟩ := hall hSZ; clear hSZ; simp only [Cells] at hcZ; go_wp2; go_meet
       case rel => exact ⟨rfl, hbr.trans (hbZ.mono zr)⟩
     case rest =>
      obtain ⟨rfl, hb3⟩ := hcut
      cases C
      ·have h3 := hc.out
       rw [cut_stop hCs.out] at h3
       injection h3 with h4 h5
       subst h4 h5; go_wp2; go_ret2; exact ⟨hb3, _, _, rfl, by rw [List.reverse_reverse]; exact rA.out, by rw [List.reverse_reverse]; exact rB.out⟩
      ·have h3 := hc.out
       rw [cut_step hCs.out] at h3
       have kk : 0 < n1 ∧ 0 < n2 := by
        have h2 := hCs.out
        constructor
        ·refine Nat.pos_of_ne_zero fun h => ?_
         have hU : U = [] := List.length_eq_zero_iff.1 (by rw [enA.out]; exact h); rw [hU, List.reverse_nil, stepB_nil_left] at h2
         cases h2
        ·refine Nat.pos_of_ne_zero fun h => ?_
         have hV : V = [] := List.length_eq_zero_iff.1 (by rw [enB.out]; exact h); rw [hV, List.reverse_nil, stepB_nil_right] at h2
         cases h2
       rw [← rev_tail enA.out, ← rev_tail enB.out] at h3; obtain ⟨p, hp⟩ := exx (n1 - 1); obtain ⟨q, hq⟩ := exx (n2 - 1)
       have ip : (n1 : Int) - 1 = p := by omega
       have iq : (n2 : Int) - 1 = q := by omega
       obtain ⟨s1, c1, SL1, R1⟩ := row_uptoG rA.out (k := p) (by rw [enA.out]; omega); obtain ⟨s2, c2, SL2, R2⟩ := row_uptoG rB.out (k := q) (by rw [enB.out]; omega); rw [hp, hq] at h3
       have hl1 : (U.take p).length = p := by rw [List.length_take, enA.out]; omega
       have pn : p < n1 := by omega
       replace h3 := hdh h3; replace R1 := hdh R1; replace R2 := hdh R2; replace hl1 := hdh hl1; clear hc hCs hp hq rA rB; go_wp2
       go_roundg p
       case measure => omega
       case rel => exact ⟨U.take p, V.take q, by rw [hl1.out]; exact Nat.le_refl _, R1, R2, h3, hb3⟩
   ·have h3 := hc.out
    rw [cut_step hCs.out] at h3
    have kk : 0 < nA ∧ 0 < nB := by
     have h2 := hCs.out
     constructor
     ·refine Nat.pos_of_ne_zero fun h => ?_
      have hU : X = [] := List.length_eq_zero_iff.1 (by rw [enA.out]; exact h); rw [hU, stepB_nil_left] at h2
      cases h2
     ·refine Nat.pos_of_ne_zero fun h => ?_
      have hV : Y = [] := List.length_eq_zero_iff.1 (by rw [enB.out]; exact h); rw [hV, stepB_nil_right] at h2
      cases h2
    obtain ⟨s1, c1, SL1, R1⟩ := row_fromG rA.out (k := 1) (by rw [enA.out]; omega); obtain ⟨s2, c2, SL2, R2⟩ := row_fromG rB.out (k := 1) (by rw [enB.out]; omega); rw [List.drop_one] at R1 R2; rw [enA.out] at SL1 R1; rw [enB.out] at SL2 R2; have SL1 : ∀ W, (slG (.slice sA nA cA) (some (.int .i64 1)) none none).run Tryz.prog W = .ok (.slice s1 (nA - 1) c1) W := SL1; have SL2 : ∀ W, (slG (.slice sB nB cB) (some (.int .i64 1)) none none).run Tryz.prog W = .ok (.slice s2 (nB - 1) c2) W := SL2; obtain ⟨p, hp⟩ := exx (nA - 1); obtain ⟨q, hq⟩ := exx (nB - 1); rw [hp] at SL1 R1; rw [hq] at SL2 R2
    have hl1 : X.tail.length = p := by rw [List.length_tail, enA.out]; exact hp
    have pn : p < nA := by omega
    replace h3 := hdh h3; replace R1 := hdh R1; replace R2 := hdh R2; replace hl1 := hdh hl1; clear hc hCs hp hq rA rB; go_wp2
    go_roundg p
    case measure => omega
    case rel => exact ⟨X.tail, Y.tail, by rw [hl1.out]; exact Nat.le_refl _, R1, R2, h3, hb1⟩
end
section
theorem kplain1_any (q : Re) (w : World) (hq : q.Wf) : Calls Tryz.prog 170 #[.agg #[.int .i64 (q).x, .int .i64 (q).y, .int .i64 (q).wd, .int .i64 (q).ht]] w fun e w' => e = .returned (.agg #[.int .i64 (plainR q).x, .int .i64 (plainR q).y, .int .i64 (plainR q).wd, .int .i64 (plainR q).ht]) ∧ Below w.heap.size w w' := by
 have A := fun w => kempty1_any q w hq
 clear hq; unfold plainR
 cases h1 : emptyR q
 ·rw [h1] at A
  simp only [Bool.false_eq_true, if_false]; obtain ⟨x, y, a, b⟩ := q; simp only at A ⊢; replace A := hdh A; clear h1
  go_enter Tryz.func170, Tryz.ntmps170
  go_wp2_with (first | (go_at_call 105; (with_reducible refine cmm (A.out _) fun w1 hb1 => ?_); obtain ⟨hc1, hf1, z1⟩ := bzz hb1; (try simp at z1); have lx1 : w.heap.size < w1.heap.size := (by omega); have ly1 : w.heap.size + 1 < w1.heap.size := (by omega)) | go_in)
  refine bodyPost_ret (v := .agg #[.int .i64 ((⟨x, y, a, b⟩ : Re)).x, .int .i64 ((⟨x, y, a, b⟩ : Re)).y, .int .i64 ((⟨x, y, a, b⟩ : Re)).wd, .int .i64 ((⟨x, y, a, b⟩ : Re)).ht]) (by simp [results, Tryz.results170, go_sem, hc1, hf1, lx1, ly1]) rfl ⟨rfl, belt⟩
 ·rw [h1] at A
  simp only [if_true]; obtain ⟨x, y, a, b⟩ := q; simp only at A ⊢; replace A := hdh A; clear h1
  go_enter Tryz.func170, Tryz.ntmps170
  go_wp2_with (first | (go_at_call 105; (with_reducible refine cmm (A.out _) fun w1 hb1 => ?_); obtain ⟨hc1, hf1, z1⟩ := bzz hb1; (try simp at z1); have lx1 : w.heap.size < w1.heap.size := (by omega); have ly1 : w.heap.size + 1 < w1.heap.size := (by omega)) | go_in)
  refine bodyPost_ret (v := .agg #[.int .i64 (Re.none).x, .int .i64 (Re.none).y, .int .i64 (Re.none).wd, .int .i64 (Re.none).ht]) (by simp [results, Tryz.results170, go_sem, hc1, hf1, lx1, ly1, Re.none]) rfl ⟨rfl, belt⟩
set_option maxRecDepth 100000 in
theorem kjoin1_any (p q : Re) (w : World) (hp : p.Wf) (hq : q.Wf) : Calls Tryz.prog 122 #[.agg #[.int .i64 (p).x, .int .i64 (p).y, .int .i64 (p).wd, .int .i64 (p).ht], .agg #[.int .i64 (q).x, .int .i64 (q).y, .int .i64 (q).wd, .int .i64 (q).ht]] w fun e w' => e = .returned (.agg #[.int .i64 (joinR p q).x, .int .i64 (joinR p q).y, .int .i64 (joinR p q).wd, .int .i64 (joinR p q).ht]) ∧ Below w.heap.size w w' := by
 have A := fun w => kempty1_any p w hp
 have B := fun w => kempty1_any q w hq
 have P := fun w => kplain1_any q w hq
 clear hp hq; unfold joinR
 cases h1 : emptyR p
 ·cases h2 : emptyR q
  ·rw [h1] at A
   rw [h2] at B; obtain ⟨mp, p1, p2⟩ := full_bd h1; obtain ⟨mq, q1, q2⟩ := full_bd h2
   have C := fun w => kright_any p w mp
   have D := fun w => kright_any q w mq
   have C2 := fun w => kbelow_any p w mp
   have D2 := fun w => kbelow_any q w mq
   have := may_bd mp; have := may_bd mq; have := may_sum mp; have := may_sum mq
   have E := fun w => kfrom_any (min p.x q.x) (min p.y q.y) (max (p.x + p.wd) (q.x + q.wd)) (max (p.y + p.ht) (q.y + q.ht)) w (by omega) (by omega) (by omega) (by omega)
   simp only [Bool.false_eq_true, if_false]; obtain ⟨x, y, a, b⟩ := p; obtain ⟨u, v, c, d⟩ := q; simp only at A B C D C2 D2 E ⊢; generalize fromR (min x u) (min y v) (max (x + a) (u + c)) (max (y + b) (v + d)) = r at *; obtain ⟨r1, r2, r3, r4⟩ := r; replace A := hdh A; replace B := hdh B; replace C := hdh C; replace D := hdh D; replace C2 := hdh C2; replace D2 := hdh D2; replace E := hdh E; clear h1 h2 mp mq P
   go_enter Tryz.func122, Tryz.ntmps122
   go_upto_region 5 with (first | (go_at_call 105; (with_reducible refine cmm (A.out _) fun w1 hb1 => ?_); obtain ⟨hc1, hf1, z1⟩ := bzz hb1; (try simp at z1); have lx1 : w.heap.size < w1.heap.size := (by omega); have ly1 : w.heap.size + 1 < w1.heap.size := (by omega); have lz1 : w.heap.size + 1 + 1 < w1.heap.size := (by omega); clear A) | (go_at_call 105; (with_reducible refine cmm (B.out _) fun w2 hb2 => ?_); obtain ⟨hc2, hf2, z2⟩ := bzz hb2; (try simp at z2); have lx2 : w.heap.size < w2.heap.size := (by omega); have ly2 : w.heap.size + 1 < w2.heap.size := (by omega); have lz2 : w.heap.size + 1 + 1 < w2.heap.size := (by omega); clear B) | go_in)
   have hw2 : Below w.heap.size w w2 := belt
   have k0 : w2.cell? ⟨w.heap.size, 0, none⟩ = some (.int .i64 x) := by go_simp
   refine wp_region_steady_then (Held w2 0 []) 25 (by kernel_rfl) (by kernel_rfl) (by decide) (by kernel_rfl) (by kernel_rfl) ⟨belt, (by (try simp) <;> omega), (by first | exact trivial | (simp only [Cells]; go_simp))⟩ ?_; simp only [List.take_succ_cons, List.take_zero]
   repeat (first | (refine' wpSteady_do _ _ _; rotate_left; (focus rfl); (focus (intro w1 hS R hR; have hc := hS.cells; simp only [Cells] at hc; obtain ⟨hco, hfo⟩ := bcell hS.old; go_simp; (try go_bits); first | exact hR _ hS | (first
          | (go_at_call 106; (with_reducible refine cmm (C.out _) fun w4 hb4 => ?_); exact ⟨_, rfl, hR _ (hS.below hb4)⟩)
          | (go_at_call 106; (with_reducible refine cmm (D.out _) fun w4 hb4 => ?_); exact ⟨_, rfl, hR _ (hS.below hb4)⟩)
          | (go_at_call 107; (with_reducible refine cmm (C2.out _) fun w4 hb4 => ?_); exact ⟨_, rfl, hR _ (hS.below hb4)⟩)
          | (go_at_call 107; (with_reducible refine cmm (D2.out _) fun w4 hb4 => ?_); exact ⟨_, rfl, hR _ (hS.below hb4)⟩)
          | (go_at_call 169; (with_reducible refine cmm (E.out _) fun w4 hb4 => ?_); exact ⟨_, rfl, hR _ (hS.below hb4)⟩)))); simp only [pu]) | (refine spa ?_; simp only [pu]))
   refine wpSteady_nil (fun uT hST => ?_); obtain ⟨hcT, hbT, hzT, hcoT, hfoT⟩ := hall hST; clear hST; simp only [Cells] at hcT; simp only [List.drop_succ_cons, List.drop_zero, List.drop_nil]; have hwT : Below w.heap.size w uT := hw2.trans (hbT.mono hw2.size)
   have lzT : w.heap.size + 1 + 1 < uT.heap.size := by have := hbT.size; omega
   go_wp2; refine bodyPost_ret (v := .agg #[.int .i64 r1, .int .i64 r2, .int .i64 r3, .int .i64 r4]) (by simp [results, Tryz.results122, go_sem, hcoT, hfoT, hc1, hc2, hf1, hf2, lz1, lz2, lzT]) rfl ⟨rfl, belt⟩
  ·rw [h1] at A
   rw [h2] at B; simp only [Bool.false_eq_true, if_false, if_true]; obtain ⟨x, y, a, b⟩ := p; obtain ⟨u, v, c, d⟩ := q; simp only at A B ⊢; replace A := hdh A; replace B := hdh B; clear h1 h2 P
   go_enter Tryz.func122, Tryz.ntmps122
   go_wp2_with (first | (go_at_call 105; (with_reducible refine cmm (A.out _) fun w1 hb1 => ?_); obtain ⟨hc1, hf1, z1⟩ := bzz hb1; (try simp at z1); have lx1 : w.heap.size < w1.heap.size := (by omega); have ly1 : w.heap.size + 1 < w1.heap.size := (by omega); have lz1 : w.heap.size + 1 + 1 < w1.heap.size := (by omega); clear A) | (go_at_call 105; (with_reducible refine cmm (B.out _) fun w2 hb2 => ?_); obtain ⟨hc2, hf2, z2⟩ := bzz hb2; (try simp at z2); have lx2 : w.heap.size < w2.heap.size := (by omega); have ly2 : w.heap.size + 1 < w2.heap.size := (by omega); have lz2 : w.heap.size + 1 + 1 < w2.heap.size := (by omega); clear B) | go_in)
   refine bodyPost_ret (v := .agg #[.int .i64 ((⟨x, y, a, b⟩ : Re)).x, .int .i64 ((⟨x, y, a, b⟩ : Re)).y, .int .i64 ((⟨x, y, a, b⟩ : Re)).wd, .int .i64 ((⟨x, y, a, b⟩ : Re)).ht]) (by simp [results, Tryz.results122, go_sem, hc1, hc2, hf1, hf2, lx1, lx2, ly1, ly2, lz1, lz2]) rfl ⟨rfl, belt⟩
 ·rw [h1] at A
  simp only [if_true]; obtain ⟨x, y, a, b⟩ := p; obtain ⟨u, v, c, d⟩ := q; generalize plainR ⟨u, v, c, d⟩ = r at *; obtain ⟨r1, r2, r3, r4⟩ := r; simp only at A P ⊢; replace A := hdh A; replace P := hdh P; clear h1 B
  go_enter Tryz.func122, Tryz.ntmps122
  go_wp2_with (first | (go_at_call 105; (with_reducible refine cmm (A.out _) fun w1 hb1 => ?_); obtain ⟨hc1, hf1, z1⟩ := bzz hb1; (try simp at z1); have lx1 : w.heap.size < w1.heap.size := (by omega); have ly1 : w.heap.size + 1 < w1.heap.size := (by omega); have lz1 : w.heap.size + 1 + 1 < w1.heap.size := (by omega); clear A) | (go_at_call 170; (with_reducible refine cmm (P.out _) fun w2 hb2 => ?_); obtain ⟨hc2, hf2, z2⟩ := bzz hb2; (try simp at z2); have lx2 : w.heap.size < w2.heap.size := (by omega); have ly2 : w.heap.size + 1 < w2.heap.size := (by omega); have lz2 : w.heap.size + 1 + 1 < w2.heap.size := (by omega); clear P) | go_in)
  refine bodyPost_ret (v := .agg #[.int .i64 ((⟨r1, r2, r3, r4⟩ : Re)).x, .int .i64 ((⟨r1, r2, r3, r4⟩ : Re)).y, .int .i64 ((⟨r1, r2, r3, r4⟩ : Re)).wd, .int .i64 ((⟨r1, r2, r3, r4⟩ : Re)).ht]) (by simp [results, Tryz.results122, go_sem, hc1, hc2, hf1, hf2, lx1, lx2, ly1, ly2, lz1, lz2]) rfl ⟨rfl, belt⟩
end
theorem rrect_any (x y a b : Int) (w : World) : Calls Tryz.prog 81 #[.int .i64 x, .int .i64 y, .int .i64 a, .int .i64 b] w fun e w' => e = .returned (.agg #[.int .i64 x, .int .i64 y, .int .i64 a, .int .i64 b]) ∧ Below w.heap.size w w' := by
 go_enter Tryz.func81, Tryz.ntmps81
 go_wp2; refine bodyPost_ret (v := .agg #[.int .i64 x, .int .i64 y, .int .i64 a, .int .i64 b]) (by simp [results, Tryz.results81, go_sem]) rfl ⟨rfl, belt⟩
end Go.Proofs.YtfcphagmjijmkaaGreatDoor
