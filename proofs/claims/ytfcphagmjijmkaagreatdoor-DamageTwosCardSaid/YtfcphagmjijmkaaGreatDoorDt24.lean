/-
  Damage: rows of flat strokes; damage.flats, damage.two.
-/
import Derived.Test.YtfcphagmjijmkaaGreatDoorDt23
namespace Go.Proofs.YtfcphagmjijmkaaGreatDoor
open Go.RowKit
set_option linter.unusedVariables false
set_option linter.unusedSimpArgs false
attribute [local go_sem] vwp vUpon_value vUpon_skip vUpon_enter vUpon_row
set_option maxHeartbeats 16000000
theorem setCells_blk {b : Nat} {e : TypeId} : ∀ (vs : List Value) {w : World} {o : Nat} {cs : List Value}, Blk w b cs e → o + vs.length ≤ cs.length → Blk (w.setCells b o vs) b (cs.take o ++ (vs ++ cs.drop (o + vs.length))) e
 | [], w, o, cs, h, _ => by
  rw [World.setCells, List.nil_append, List.length_nil, Nat.add_zero, List.take_append_drop]; exact h
 | v :: vs, w, o, cs, h, hl => by
  rw [List.length_cons] at hl; have ih := setCells_blk vs (o := o + 1) (h.set o v) (by rw [List.length_set]; omega); rw [World.setCells]
  have e1 : (cs.set o v).take (o + 1) = cs.take o ++ [v] := by
   rw [List.take_add_one, List.getElem?_set_self (by omega), List.take_set_of_le lrr]
   rfl
  have e2 : (cs.set o v).drop (o + 1 + vs.length) = cs.drop (o + (v :: vs).length) := by
   rw [List.drop_set_of_lt (by omega), List.length_cons]
   congr 1
   omega
  rw [e1, e2, List.append_assoc] at ih; exact ih
theorem setCells_below {b B : Nat} {w0 : World} (hb : B ≤ b) : ∀ (vs : List Value) {w : World} (o : Nat), Below B w0 w → Below B w0 (w.setCells b o vs)
 | [], _, _, h => h
 | v :: vs, w, o, h => setCells_below hb vs (o + 1) (h.setCell (p := ⟨b, o, none⟩) hb v)
theorem Blk.there {w : World} {b o n : Nat} {cs : List Value} {e : TypeId} (h : Blk w b cs e) (hl : o + n ≤ cs.length) : w.there b o n := fun j hj => by
 refine ⟨?_, h.free _⟩; rw [h.cell (o := o + j) (v := cs[o + j]'(by omega)) (List.getElem?_eq_getElem _)]
 rfl
theorem flat_splice {α : Type} {enc : α → List Value} {sz : Nat} (he : ∀ y, (enc y).length = sz) (x : α) : ∀ (D : List α) (k : Nat), k < D.length → (D.flatMap enc).take (k * sz) ++ (enc x ++ (D.flatMap enc).drop (k * sz + (enc x).length)) = (D.set k x).flatMap enc
 | [], k, h => by simp at h
 | y :: D, 0, _ => by
  rw [List.set_cons_zero, List.flatMap_cons, List.flatMap_cons, Nat.zero_mul, List.take_zero, Nat.zero_add, List.nil_append, he x, List.drop_append_of_le_length (by rw [he]; omega), List.drop_eq_nil_of_le (by rw [he]; omega), List.nil_append]
 | y :: D, k + 1, h => by
  have ih := flat_splice he x D k (by simpa using h); rw [List.set_cons_succ, List.flatMap_cons, List.flatMap_cons, ← ih]
  have e1 : (k + 1) * sz = (enc y).length + k * sz := by rw [he, Nat.add_mul]; omega
  rw [e1, List.take_length_add_append, Nat.add_assoc, List.drop_length_add_append, List.append_assoc]
theorem blk_putV {α : Type} {enc : α → List Value} {sz : Nat} (he : ∀ y, (enc y).length = sz) {w : World} {b k : Nat} {D : List α} {e : TypeId} (x : α) (h : Blk w b (D.flatMap enc) e) (hk : k < D.length) : Blk (w.setCells b (k * sz) (enc x)) b ((D.set k x).flatMap enc) e := by
 have hl : (D.flatMap enc).length = D.length * sz := by
  clear h hk
  induction D with
  | nil => simp
  | cons y D ih => rw [List.flatMap_cons, List.length_append, ih, he, List.length_cons, Nat.add_mul]; omega
 have := setCells_blk (enc x) (o := k * sz) h (by
  rw [hl, he]; have := Nat.mul_le_mul_right sz hk; rw [Nat.succ_mul] at this
  exact this)
 rw [flat_splice he x D k hk] at this; exact this
/-! ### rows of flat strokes -/
def Fl.zero : Fl := ⟨⟨0, ⟨0, 0, 0, 0⟩, ⟨0, 0, 0, 0⟩, ⟨0, 0, 0, 0⟩, ⟨#[]⟩, 0⟩, ⟨0, 0, 0, 0⟩⟩
def OwnsF (base : Nat) (w : World) (v : Value) (l : List Fl) : Prop := w.ownsRow base 82 19 v l.length (l.flatMap Fl.enc)
theorem OwnsF.nil (base : Nat) (w : World) : OwnsF base w (.slice none 0 0) [] := World.ownsRow_nil _ _ _ _
theorem OwnsF.row {base B : Nat} {w : World} {v : Value} {l : List Fl} (h : OwnsF base w v l) (hB : w.heap.size ≤ B) : Row B 19 Fl.enc w v l := Row.own Fl.enc_len h hB (by omega)
theorem OwnsF.below {base B : Nat} {w w' : World} {v : Value} {l : List Fl} (h : OwnsF base w v l) (hb : Below B w w') (hB : w.heap.size ≤ B) : OwnsF base w' v l := ownsRow_below h hb hB
theorem infoFl : (Tryz.prog.info? 82).map (fun i => (i.zero, i.size, i.bytes)) = some (some (.agg #[.int .u8 0, .int .i64 0, .int .i64 0, .int .i64 0, .int .i64 0, .int .u8 0, .int .u8 0, .int .u8 0, .int .u8 0, .int .u8 0, .int .u8 0, .int .u8 0, .int .u8 0, .string ⟨#[]⟩, .int .i64 0, .int .i64 0, .int .i64 0, .int .i64 0, .int .i64 0]), 19, 104) := by kernel_rfl
theorem Fl.enc_one (f : Fl) : ∀ u ∈ f.enc, u.oneCell' = true := by
 intro u hu
 simp only [Fl.enc, St.enc, Re.enc, Co.enc, List.mem_append, List.mem_cons, List.not_mem_nil, or_false] at hu
 rcases hu with (((((rfl | rfl | rfl | rfl | rfl) | rfl | rfl | rfl | rfl) | rfl | rfl | rfl | rfl) | rfl | rfl) | rfl | rfl | rfl | rfl) <;> rfl
theorem madeCells_fl (n : Nat) : madeCells (.agg #[.int .u8 0, .int .i64 0, .int .i64 0, .int .i64 0, .int .i64 0, .int .u8 0, .int .u8 0, .int .u8 0, .int .u8 0, .int .u8 0, .int .u8 0, .int .u8 0, .int .u8 0, .string ⟨#[]⟩, .int .i64 0, .int .i64 0, .int .i64 0, .int .i64 0, .int .i64 0] : Value).cells (n * 19) = ((List.replicate n Fl.zero).flatMap Fl.enc).toArray := by
 apply Array.ext'
 simp only
 apply List.ext_getElem?
 intro p
 have hz : ∀ i, i < 19 → (Fl.zero.enc)[i]? = some ((.agg #[.int .u8 0, .int .i64 0, .int .i64 0, .int .i64 0, .int .i64 0, .int .u8 0, .int .u8 0, .int .u8 0, .int .u8 0, .int .u8 0, .int .u8 0, .int .u8 0, .int .u8 0, .string ⟨#[]⟩, .int .i64 0, .int .i64 0, .int .i64 0, .int .i64 0, .int .i64 0] : Value).cells)[i]! := by
  intro i hi
  match i, hi with
  | 0, _ => rfl
  | 1, _ => rfl
  | 2, _ => rfl
  | 3, _ => rfl
  | 4, _ => rfl
  | 5, _ => rfl
  | 6, _ => rfl
  | 7, _ => rfl
  | 8, _ => rfl
  | 9, _ => rfl
  | 10, _ => rfl
  | 11, _ => rfl
  | 12, _ => rfl
  | 13, _ => rfl
  | 14, _ => rfl
  | 15, _ => rfl
  | 16, _ => rfl
  | 17, _ => rfl
  | 18, _ => rfl
  | n + 19, h => omega
 have hsz : (.agg #[.int .u8 0, .int .i64 0, .int .i64 0, .int .i64 0, .int .i64 0, .int .u8 0, .int .u8 0, .int .u8 0, .int .u8 0, .int .u8 0, .int .u8 0, .int .u8 0, .int .u8 0, .string ⟨#[]⟩, .int .i64 0, .int .i64 0, .int .i64 0, .int .i64 0, .int .i64 0] : Value).cells.size = 19 := rfl; rw [flat_get Fl.enc_len (by omega)]
 by_cases hp : p < n * 19
 ·have h1 : p / 19 < n := by omega
  rw [List.getElem?_replicate, if_pos h1]; simp only [Option.bind_some]; rw [hz _ (by omega)]
  have : (madeCells (.agg #[.int .u8 0, .int .i64 0, .int .i64 0, .int .i64 0, .int .i64 0, .int .u8 0, .int .u8 0, .int .u8 0, .int .u8 0, .int .u8 0, .int .u8 0, .int .u8 0, .int .u8 0, .string ⟨#[]⟩, .int .i64 0, .int .i64 0, .int .i64 0, .int .i64 0, .int .i64 0] : Value).cells (n * 19))[p]? = some ((.agg #[.int .u8 0, .int .i64 0, .int .i64 0, .int .i64 0, .int .i64 0, .int .u8 0, .int .u8 0, .int .u8 0, .int .u8 0, .int .u8 0, .int .u8 0, .int .u8 0, .int .u8 0, .string ⟨#[]⟩, .int .i64 0, .int .i64 0, .int .i64 0, .int .i64 0, .int .i64 0] : Value).cells)[p % 19]! := by
   unfold madeCells; rw [Array.getElem?_map, Array.getElem?_range, if_pos hp]; simp only [Option.map_some]; rw [hsz]
  simpa using this
 ·have h1 : ¬ p / 19 < n := by omega
  rw [List.getElem?_replicate, if_neg h1]
  have : (madeCells (.agg #[.int .u8 0, .int .i64 0, .int .i64 0, .int .i64 0, .int .i64 0, .int .u8 0, .int .u8 0, .int .u8 0, .int .u8 0, .int .u8 0, .int .u8 0, .int .u8 0, .int .u8 0, .string ⟨#[]⟩, .int .i64 0, .int .i64 0, .int .i64 0, .int .i64 0, .int .i64 0] : Value).cells (n * 19))[p]? = none := by
   rw [Array.getElem?_eq_none]; rw [size_madeCells]; omega
  simpa using this
theorem make_flats (n : Nat) (hn : n ≤ 16384) (w : World) : (Instr.makeSlice 75 (.int .i64 n) (.int .i64 n)).run Tryz.prog w = .ok (.slice (some ⟨w.heap.size, 0, none⟩) n n) (w.alloc (.cells ((List.replicate n Fl.zero).flatMap Fl.enc).toArray 82)) := by
 obtain ⟨i0, hi, hz0, hz1, hz2⟩ := info_parts infoFl; have h := run_make (P := Tryz.prog) w 75 82 i0 _ Tryz.underlying75 hi hz0 .i64 .i64 n n (by omega) (Int.le_refl _) (by rw [hz2]; omega) (by omega); rw [h, hz1, Int.toNat_natCast, madeCells_fl]
theorem Blk.ownsF {base g : Nat} {w : World} {rs : List Fl} {n : Nat} (h : Blk w g (rs.flatMap Fl.enc) 82) (hn : rs.length = n) (hg : base ≤ g) (hm : n ≤ maxLen) : OwnsF base w (.slice (some ⟨g, 0, none⟩) n n) rs := by
 unfold OwnsF; rw [hn]; refine ⟨by rw [flat_len Fl.enc_len, hn], .inr ⟨g, n, _, rfl, hg, h, Nat.le_refl _, hm, ?_, ?_⟩⟩
 ·simp [flat_len Fl.enc_len, hn]
 ·rw [List.take_of_length_le (by rw [flat_len Fl.enc_len, hn]; omega)]
theorem half_put {D : List Fl} {k n : Nat} {f : Fl} (h : D[k]? = some f) (hn : D.length = n) : (D.take k ++ List.replicate (n - k) Fl.zero).set k f = D.take (k + 1) ++ List.replicate (n - (k + 1)) Fl.zero := by
 obtain ⟨hk, e⟩ := List.getElem?_eq_some_iff.1 h
 have hl : (D.take k).length = k := by simp; omega
 rw [List.set_append, if_neg (by omega), hl, Nat.sub_self, List.take_add_one, h, show n - k = (n - (k + 1)) + 1 by omega, List.replicate_succ, List.set_cons_zero]
 simp
theorem flts_mk {xs : List St} {i : Nat} {s : St} {q : Re} (h1 : (flS xs)[i]? = some s) (h2 : (flR xs)[i]? = some q) : (flts xs)[i]? = some ⟨s, q⟩ := by
 unfold flts fltZ; rw [List.getElem?_zipWith, h1, h2]
theorem flts_bad {xs : List St} (h : chkL xs ≠ 0) : flts xs = [] := by
 unfold flts flS flR; rw [if_neg h, if_neg h]
 rfl
def OutFl (base : Nat) (er : Int) (l : List Fl) (w : World) (e : Ending) (w' : World) : Prop := Below base w w' ∧ ∃ v, e = .returned (.tuple #[v, .int .i64 er]) ∧ OwnsF base w' v l
set_option maxRecDepth 100000 in
theorem flats_any (xs : List St) (v : Value) (w : World) (hl : Row w.heap.size 15 St.enc w v xs) (k1 : ∀ s ∈ xs, s.Wf) : Calls Tryz.prog 89 #[v] w (OutFl w.heap.size (chkL xs) (flts xs) w) := by
 have FL := lflat_any xs v w hl k1; obtain ⟨s0, cap0, rfl, hmax0⟩ := hl.shape; clear hl; obtain ⟨E, hE⟩ := exx (chkL xs)
 have hbad : E ≠ 0 → flts xs = [] := fun h => flts_bad (by rw [hE]; exact h)
 have hlen := chk_len (xs := xs); have hle := fltS_le xs
 have hget := fun i s q => flts_mk (xs := xs) (i := i) (s := s) (q := q)
 have hfl := flts_len xs; have hsr := flsr_len (xs := xs)
 have hS0 : E = 0 → flS xs = fltS xs := fun h => if_pos (hE.trans h)
 rw [hE] at FL hlen ⊢; obtain ⟨S, hS⟩ := exx (flS xs); obtain ⟨R, hR⟩ := exx (flR xs); obtain ⟨D, hD⟩ := exx (flts xs); rw [hS, hR] at FL; rw [hS, hR] at hsr; rw [hS] at hS0; rw [hD] at hbad ⊢; rw [hD, hS] at hfl; rw [hS, hR, hD] at hget; obtain ⟨n, hn⟩ := exx (S.length); rw [hn] at hsr hfl
 have hnb : E = 0 → n ≤ 16384 := fun h => by have := hlen h; rw [← hn, hS0 h]; omega
 obtain ⟨N, hN⟩ := exx (xs.length); rw [hN] at FL ⊢; replace FL := hdh FL; clear hE hlen hle hS hR hD hN hS0; replace hbad := hdh hbad; replace hget := hdh hget; replace hfl := hdh hfl; replace hsr := hdh hsr; replace hn := hdh hn; replace hnb := hdh hnb
 go_enter Tryz.func89, Tryz.ntmps89
 go_upto_region 2 with (go_at_call 36; (with_reducible refine FL.out.mono ?_); rintro e w3 ⟨hb3, vS, vR, rfl, OS, OR, hap⟩; obtain ⟨sS, cS, hvS⟩ := own_slice OS; obtain ⟨sR, cR, hvR⟩ := own_slice OR; rw [hn.out] at hvS; rw [hsr.out] at hvR; subst hvS; subst hvR)
 clear FL hap
 by_cases e0 : E = 0
 ·subst e0
  have hn1 := hnb.out rfl; have z3 := hb3.size; have RS := hdh (OS.row lrr); have RR := hdh (OR.row lrr); clear hbad hnb OS OR
  have hmk := fun w => make_flats n hn1 w
  go_upto_region 5 with fail
  clear hmk; obtain ⟨b7, hb7⟩ := exx (w3.heap.size); obtain ⟨W4, hW4⟩ := exx (w3.alloc (.cells ((List.replicate n Fl.zero).flatMap Fl.enc).toArray 82))
  have B7 : Blk W4 b7 ((D.take 0 ++ List.replicate (n - 0) Fl.zero).flatMap Fl.enc) 82 := by rw [← hW4]; simp only [List.take_zero, List.nil_append, Nat.sub_zero]; exact Blk.new' hb7.symm
  have hb34 : Below w3.heap.size w3 W4 := by rw [← hW4]; exact (Below.refl _ _).alloc lrr _
  rw [hW4, hb7]; clear hW4; replace hb7 := hdh hb7; go_wp2
  go_loopw [24] (fun i wr => ∃ k : Nat, k ≤ n ∧ i = .int .i64 k ∧ Blk wr b7 ((D.take k ++ List.replicate (n - k) Fl.zero).flatMap Fl.enc) 82 ∧ Below w3.heap.size w3 wr) (fun i _ => n - (intOf i).toNat)
  case atStart => exact ⟨0, Nat.zero_le _, rfl, B7, hb34⟩
  case round =>
   obtain ⟨k, hk, rfl, BD, hbr⟩ := hrel; have zr := hbr.size
   by_cases hkn : k < n
   ·obtain ⟨bS, oS, cS', e, hbS, _, _, helS⟩ := row_st (RS.out.below hbr) (by rw [hn.out]; omega)
    rw [hn.out] at e
    simp at e
    obtain ⟨rfl, rfl⟩ := e; obtain ⟨bR, oR, cR', e, hbR, _, _, helR⟩ := row_re (RR.out.below hbr) (by rw [hsr.out]; omega); rw [hsr.out] at e
    simp at e
    obtain ⟨rfl, rfl⟩ := e; obtain ⟨s, hs⟩ := get_at hn.out hkn; obtain ⟨q, hq⟩ := get_at hsr.out hkn; obtain ⟨g0, g1, g2, g3, g4, g5, g6, g7, g8, g9, g10, g11, g12, g13, g14⟩ := helS k s hs; have hd := hget.out k s q hs hq
    have hkk : (k : Int) < n := by omega
    have yb7 := BD.lt; have fz := BD.free; replace BD := hdh BD; replace hd := hdh hd
    have yS : bS < wr.heap.size := by omega
    have yR : bR < wr.heap.size := by omega
    go_upto_region 8 with fail
    clear g0 g1 g2 g3 g4 g5 g6 g7 g8 g9 g10 g11 g12 g13 g14 helS hs; obtain ⟨j0, j1, j2, j3⟩ := helR k q hq; clear helR hq; obtain ⟨W5, hW5⟩ := exx (wr.alloc (.cells #[.int .u8 (s).kind, .int .i64 (s).rect.x, .int .i64 (s).rect.y, .int .i64 (s).rect.wd, .int .i64 (s).rect.ht, .int .u8 (s).col.r, .int .u8 (s).col.g, .int .u8 (s).col.b, .int .u8 (s).col.a, .int .u8 (s).back.r, .int .u8 (s).back.g, .int .u8 (s).back.b, .int .u8 (s).back.a, .string (s).text, .int .i64 (s).node] 36)); obtain ⟨b9, hb9⟩ := exx (wr.heap.size)
    have B9 : Blk W5 b9 [.int .u8 (s).kind, .int .i64 (s).rect.x, .int .i64 (s).rect.y, .int .i64 (s).rect.wd, .int .i64 (s).rect.ht, .int .u8 (s).col.r, .int .u8 (s).col.g, .int .u8 (s).col.b, .int .u8 (s).col.a, .int .u8 (s).back.r, .int .u8 (s).back.g, .int .u8 (s).back.b, .int .u8 (s).back.a, .string (s).text, .int .i64 (s).node] 36 := by rw [← hW5]; exact Blk.new' hb9.symm
    have hb5 : Below wr.heap.size wr W5 := by rw [← hW5]; exact (Below.refl _ _).alloc lrr _
    rw [hW5, hb9]; clear hW5; have BD5 := BD.out.below hb5 yb7; have z5 := hb5.size; have c0 := B9.cell (o := 0) rfl; have c1 := B9.cell (o := 1) rfl; have c2 := B9.cell (o := 2) rfl; have c3 := B9.cell (o := 3) rfl; have c4 := B9.cell (o := 4) rfl; have c5 := B9.cell (o := 5) rfl; have c6 := B9.cell (o := 6) rfl; have c7 := B9.cell (o := 7) rfl; have c8 := B9.cell (o := 8) rfl; have c9 := B9.cell (o := 9) rfl; have c10 := B9.cell (o := 10) rfl; have c11 := B9.cell (o := 11) rfl; have c12 := B9.cell (o := 12) rfl; have c13 := B9.cell (o := 13) rfl; have c14 := B9.cell (o := 14) rfl; have cl := B9.lt
    have y5S : bS < W5.heap.size := by omega
    have y5R : bR < W5.heap.size := by omega
    have y57 : b7 < W5.heap.size := by omega
    have j0 := ((bcell hb5).1 bR _ yR).trans j0; have j1 := ((bcell hb5).1 bR _ yR).trans j1; have j2 := ((bcell hb5).1 bR _ yR).trans j2; have j3 := ((bcell hb5).1 bR _ yR).trans j3; have hfz : ∀ o, W5.frozen? ⟨b7, o, none⟩ = false := BD5.free; replace BD5 := hdh BD5; clear fz B9; refine wp_region_steady_then (Held W5 0 []) 9 (by kernel_rfl) (by kernel_rfl) (by decide) (by kernel_rfl) (by kernel_rfl) ⟨belt, (by (try simp) <;> omega), (by first | exact trivial | (simp only [Cells]; go_simp))⟩ ?_; simp only [List.take_succ_cons, List.take_zero]
    repeat (first | (refine' sdo ?_; simp only [pu]) | (refine spa ?_; simp only [pu]))
    refine wpSteady_nil (fun uA hSA => ?_); obtain ⟨hcA, hbA, hzA, hcoA, hfoA⟩ := hall hSA; clear hSA; simp only [Cells] at hcA; simp only [List.drop_succ_cons, List.drop_zero, List.drop_nil]
    have hfA : ∀ o, uA.frozen? ⟨b7, o, none⟩ = false := fun o => (hfoA b7 o y57).trans (hfz o)
    have BDA := BD5.out.below hbA y57
    have hlD : ((D.take k ++ List.replicate (n - k) Fl.zero).flatMap Fl.enc).length = n * 19 := by
     rw [flat_len Fl.enc_len, List.length_append, List.length_take, List.length_replicate, hfl.out]
     congr 1
     omega
    have TH := BDA.there (o := k * 19) (n := 19) (by rw [hlD]; omega); have HZ := blk_putV Fl.enc_len (k := k) ⟨s, q⟩ BDA (by rw [List.length_append, List.length_take, List.length_replicate, hfl.out]; omega); rw [half_put hd.out hfl.out] at HZ; have hbZ : Below w3.heap.size w3 (uA.setCells b7 (k * 19) (Fl.enc ⟨s, q⟩)) := setCells_below (by have := hb7.out; omega) _ _ ((hbr.trans (hb5.mono zr)).trans (hbA.mono (by omega))); refine wpList_store_mid rfl 82 _ _ rfl b7 (k * 19) (Fl.enc ⟨s, q⟩).toArray rfl rfl TH (by kernel_rfl) (all_oneCell_toArray (Fl.enc_one _)) ?_; rw [show (Fl.enc ⟨s, q⟩).toArray.toList = Fl.enc ⟨s, q⟩ from rfl]
    generalize uA.setCells b7 (k * 19) (Fl.enc ⟨s, q⟩) = wZ at HZ hbZ ⊢; clear TH BDA; replace HZ := hdh HZ; replace hbZ := hdh hbZ
    (try simp only [pu])
    go_wp2; go_roundw
    case rel => exact ⟨k + 1, by omega, by go_num, HZ.out, hbZ.out⟩
    case measure => simp [intOf]; omega
   ·obtain rfl : k = n := by omega
    have e1 : D.take k = D := List.take_of_length_le (by rw [hfl.out]; exact Nat.le_refl _); rw [e1, Nat.sub_self, List.replicate_zero, List.append_nil] at BD; have hbw := hb3.trans (hbr.mono z3); have hown : OwnsF w.heap.size wr (.slice (some ⟨b7, 0, none⟩) k k) D := Blk.ownsF BD hfl.out (by have := hb7.out; omega) (by unfold maxLen; omega); replace BD := hdh BD; replace hown := hdh hown; go_wp2; go_ret2; exact ⟨hbw, _, rfl, hown.out⟩
 ·have e1 : (E != 0) = true := by simpa using e0
  have hD0 := hbad.out e0; subst hD0; clear OS OR; go_wp2; go_ret2; exact ⟨hb3, _, rfl, OwnsF.nil _ _⟩
section
def stepB : List Fl → List Fl → Bool
 | x :: _, y :: _ => x.eqb y
 | _, _ => false
theorem cut_step {X Y : List Fl} (h : stepB X Y = true) : cutPre X Y = cutPre X.tail Y.tail := by
 cases X with
 | nil => cases h
 | cons x X =>
  cases Y with
  | nil => cases h
  | cons y Y =>
   have h : x.eqb y = true := h; rw [cutPre, if_pos h]
   rfl
theorem cut_stop {X Y : List Fl} (h : stepB X Y = false) : cutPre X Y = (X, Y) := by
 cases X with
 | nil => rw [cutPre_nil_left]
 | cons x X =>
  cases Y with
  | nil => rw [cutPre_nil_right]
  | cons y Y =>
   have h : x.eqb y = false := h; rw [cutPre, if_neg (by rw [h]; decide)]
theorem step_at {A B : List Fl} {k : Nat} {x y : Fl} (h1 : A[k]? = some x) (h2 : B[k]? = some y) : stepB (A.drop k) (B.drop k) = x.eqb y := by
 rw [drop_get h1, drop_get h2]; rfl
theorem step_left {A B : List Fl} {k : Nat} (h : A.length ≤ k) : stepB (A.drop k) (B.drop k) = false := by
 rw [List.drop_eq_nil_of_le h]; rfl
theorem step_right {A B : List Fl} {k : Nat} (h : B.length ≤ k) : stepB (A.drop k) (B.drop k) = false := by
 rw [List.drop_eq_nil_of_le h]
 cases A.drop k <;> rfl
theorem rev_at {A : List Fl} {j : Nat} (h : j < A.length) : A.reverse[j]? = A[A.length - 1 - j]? := List.getElem?_reverse h
theorem rev_take (A : List Fl) (j : Nat) : (A.reverse.drop j).reverse = A.take (A.length - j) := by
 rw [List.drop_reverse, List.reverse_reverse]
theorem Row.front {α : Type} {B sz : Nat} {enc : α → List Value} {w : World} {s : Option Addr} {n cap m : Nat} {xs : List α} (h : Row B sz enc w (.slice s n cap) xs) (hn : xs.length = n) (hm : m ≤ n) : Row B sz enc w (.slice s m cap) (xs.take m) := by
 obtain ⟨s', c, e, hlc, hcm, hx⟩ := h
 have hl : (xs.take m).length = m := by rw [List.length_take]; omega
 injection e with e1 e2 e3
 subst e1 e3; refine ⟨_, _, by rw [hl], by rw [hl]; omega, hcm, fun h0 => ?_⟩; rw [hl] at h0; obtain ⟨b, o, e, hb, hc⟩ := hx (by omega); refine ⟨b, o, e, hb, fun j x hj i u hi => hc j x ?_ i u hi⟩; have hjl := (List.getElem?_eq_some_iff.1 hj).1; rw [hl] at hjl; rw [List.getElem?_take, if_pos hjl] at hj; exact hj
theorem Row.back {α : Type} {B sz : Nat} {enc : α → List Value} {w : World} {g o n cap p : Nat} {xs : List α} (he : ∀ x, (enc x).length = sz) (h : Row B sz enc w (.slice (some ⟨g, o, none⟩) n cap) xs) (hn : xs.length = n) (hp : p ≤ n) : Row B sz enc w (.slice (some ⟨g, o + p * sz, none⟩) (n - p) (cap - p)) (xs.drop p) := by
 have := h.piece he hn p (n - p) (by omega); rw [List.take_of_length_le (by rw [List.length_drop, hn]; exact Nat.le_refl _)] at this; exact this
theorem Row.empty {α : Type} {B sz : Nat} {enc : α → List Value} {w : World} (s : Option Addr) {cap : Nat} (hc : cap ≤ maxLen) : Row B sz enc w (.slice s 0 cap) ([] : List α) := ⟨s, cap, rfl, Nat.zero_le _, hc, fun h => by cases h⟩
/-! ### slices of a row, each as one step -/
noncomputable def slF (v : Value) (lo hi mx : Option Value) : Sem Value := Instr.sliceAt 75 v lo hi mx
theorem slF_is (v : Value) (lo hi mx : Option Value) : Instr.sliceAt 75 v lo hi mx = slF v lo hi mx := rfl
theorem row_from {B : Nat} {w : World} {va : Value} {A : List Fl} (h : Row B 19 Fl.enc w va A) {k : Nat} (hk : k ≤ A.length) :
  ∃ s c, (∀ W, (slF va (some (.int .i64 k)) none none).run Tryz.prog W = .ok (.slice s (A.length - k) c) W) ∧ Row B 19 Fl.enc w (.slice s (A.length - k) c) (A.drop k) := by
 have h0 := h; obtain ⟨s, cap, rfl, hl, hc, hx⟩ := h; have hcm := hc; unfold maxLen at hc; obtain ⟨n, hn⟩ := exx (A.length); rw [hn] at h0 hl hk hx ⊢
 cases s with
 | none =>
  have e : n = 0 := by
   rcases Nat.eq_zero_or_pos n with h | h
   ·exact h
   ·obtain ⟨_, _, e, _⟩ := hx h; cases e
  subst e; have eA : A = [] := List.length_eq_zero_iff.1 hn; subst eA
  obtain rfl : k = 0 := by omega
  refine ⟨none, cap, fun W => by clear hx h0; unfold slF; go_simp, ?_⟩; rw [List.drop_nil]; exact Row.empty _ hcm
 | some a =>
  by_cases hn0 : n = 0
  ·subst hn0
   have eA : A = [] := List.length_eq_zero_iff.1 hn; subst eA
   obtain rfl : k = 0 := by omega
   refine ⟨some a, cap, fun W => by clear hx h0; unfold slF; go_simp, ?_⟩; rw [List.drop_nil]; exact Row.empty _ hcm
  ·obtain ⟨b, o, e, hb, hcl⟩ := hx (by omega)
   injection e with e
   subst e
   by_cases hck : cap = k
   ·refine ⟨some ⟨b, o, none⟩, cap - k, fun W => by clear hx h0 hcl; unfold slF; go_simp, ?_⟩
    have e0 : n - k = 0 := by omega
    rw [e0, List.drop_eq_nil_of_le (by omega)]; exact Row.empty _ (by omega)
   ·refine ⟨some ⟨b, o + k * 19, none⟩, cap - k, fun W => by clear hx h0 hcl; unfold slF; go_simp, ?_⟩
    exact Row.back Fl.enc_len h0 hn hk
theorem row_upto {B : Nat} {w : World} {va : Value} {A : List Fl} (h : Row B 19 Fl.enc w va A) {k : Nat} (hk : k ≤ A.length) :
  ∃ s c, (∀ W, (slF va none (some (.int .i64 k)) none).run Tryz.prog W = .ok (.slice s k c) W) ∧ Row B 19 Fl.enc w (.slice s k c) (A.take k) := by
 have h0 := h; obtain ⟨s, cap, rfl, hl, hc, hx⟩ := h; unfold maxLen at hc; obtain ⟨n, hn⟩ := exx (A.length); rw [hn] at h0 hl hk
 have hkc : k ≤ cap := by omega
 refine ⟨s, cap, fun W => by clear hx h0 hn; unfold slF; go_simp, Row.front h0 hn hk⟩
def OutTwo (base : Nat) (er : Int) (l m : List Fl) (w : World) (e : Ending) (w' : World) : Prop := Below base w w' ∧ ∃ v u, e = .returned (.tuple #[v, u, .int .i64 er]) ∧ OwnsF base w' v l ∧ OwnsF base w' u m
def twoL (xs ys : List St) (l : List Fl) : List Fl := if dmgE xs ys = 0 then l else []
theorem two_any (xs ys : List St) (v u : Value) (w : World) (hx : Row w.heap.size 15 St.enc w v xs) (hy : Row w.heap.size 15 St.enc w u ys) (k1 : ∀ s ∈ xs, s.Wf) (k2 : ∀ s ∈ ys, s.Wf) : Calls Tryz.prog 41 #[v, u] w (OutTwo w.heap.size (dmgE xs ys) (twoL xs ys (flts xs)) (twoL xs ys (flts ys)) w) := by
 have F1 := hdh (flats_any xs v w hx k1); have F2 := hdh (fun W (h : Below w.heap.size w W) => flats_any ys u W ((hy.below h).mono h.size) k2); obtain ⟨s1, c1, rfl, m1⟩ := hx.shape; obtain ⟨s2, c2, rfl, m2⟩ := hy.shape; clear hx hy
 by_cases e1 : chkL xs = 0
 ·by_cases e2 : chkL ys = 0
  ·have hd : dmgE xs ys = 0 := by unfold dmgE; rw [if_pos e1, e2]
   have t1 : ∀ l, twoL xs ys l = l := fun l => if_pos hd
   rw [hd, t1, t1]; rw [e1] at F1; rw [e2] at F2; clear hd t1 e1 e2
   go_enter Tryz.func41, Tryz.ntmps41
   go_wp2_with (first
    | (go_at_call 89; (with_reducible refine F1.out.mono ?_); rintro e w3 ⟨hb3, v3, rfl, O3⟩)
    | (go_at_call 89; (with_reducible refine (F2.out _ hb3).mono ?_); rintro e w4 ⟨hb4, v4, rfl, O4⟩)
    | go_in)
   have z3 := hb3.size; have O3' := O3.below hb4 lrr; have O4' : OwnsF w.heap.size w4 v4 (flts ys) := own_less O4 z3; go_ret3; exact ⟨hb3.trans (hb4.mono z3), _, _, rfl, O3', O4'⟩
  ·have hd : dmgE xs ys = chkL ys := by unfold dmgE; rw [if_pos e1]
   have t1 : ∀ l, twoL xs ys l = [] := fun l => if_neg (by rw [hd]; exact e2)
   rw [hd, t1, t1]; rw [e1] at F1; obtain ⟨E, hE⟩ := exx (chkL ys); rw [hE] at F2 e2 ⊢
   have e2' : (E != 0) = true := by simpa using e2
   clear hd t1 e1 hE
   go_enter Tryz.func41, Tryz.ntmps41
   go_wp2_with (first
    | (go_at_call 89; (with_reducible refine F1.out.mono ?_); rintro e w3 ⟨hb3, v3, rfl, O3⟩)
    | (go_at_call 89; (with_reducible refine (F2.out _ hb3).mono ?_); rintro e w4 ⟨hb4, v4, rfl, O4⟩)
    | go_in)
   go_ret3; exact ⟨hb3.trans (hb4.mono hb3.size), _, _, rfl, OwnsF.nil _ _, OwnsF.nil _ _⟩
 ·have hd : dmgE xs ys = chkL xs := by unfold dmgE; rw [if_neg e1]
  have t1 : ∀ l, twoL xs ys l = [] := fun l => if_neg (by rw [hd]; exact e1)
  rw [hd, t1, t1]; obtain ⟨E, hE⟩ := exx (chkL xs); rw [hE] at F1 e1 ⊢
  have e2' : (E != 0) = true := by simpa using e1
  clear hd t1 hE F2
  go_enter Tryz.func41, Tryz.ntmps41
  go_wp2_with (first
   | (go_at_call 89; (with_reducible refine F1.out.mono ?_); rintro e w3 ⟨hb3, v3, rfl, O3⟩)
   | go_in)
  go_ret3; exact ⟨hb3, _, _, rfl, OwnsF.nil _ _, OwnsF.nil _ _⟩
attribute [local go_sem ↓ high] ldF_is slF_is
set_option maxRecDepth 100000 in
theorem middles_any (A B : List Fl) (va vb : Value) (w : World) (hA : Row w.heap.size 19 Fl.enc w va A) (hB : Row w.heap.size 19 Fl.enc w vb B) :
  Calls Tryz.prog 42 #[va, vb] w fun e w' => Below w.heap.size w w' ∧ ∃ v u, e = .returned (.tuple #[v, u]) ∧ Row w.heap.size 19 Fl.enc w v (midP A B).1 ∧ Row w.heap.size 19 Fl.enc w u (midP A B).2 := by
 obtain ⟨sA, cA, rfl, lA, mA, xA⟩ := hA; obtain ⟨sB, cB, rfl, lB, mB, xB⟩ := hB; have rA : Row w.heap.size 19 Fl.enc w (.slice sA A.length cA) A := ⟨_, _, rfl, lA, mA, xA⟩; have rB : Row w.heap.size 19 Fl.enc w (.slice sB B.length cB) B := ⟨_, _, rfl, lB, mB, xB⟩; obtain ⟨nA, enA⟩ := exx (A.length); obtain ⟨nB, enB⟩ := exx (B.length); rw [enA] at rA lA ⊢; rw [enB] at rB lB ⊢; unfold maxLen at mA mB; clear xA xB; obtain ⟨X, hX⟩ := exx ((cutPre A B).1); obtain ⟨Y, hY⟩ := exx ((cutPre A B).2)
 have hM : midP A B = ((cutPre X.reverse Y.reverse).1.reverse, (cutPre X.reverse Y.reverse).2.reverse) := by unfold midP; rw [hX, hY]
 have hXY : cutPre A B = (X, Y) := by rw [← hX, ← hY]
 rw [hM]; clear hM hX hY; obtain ⟨P, hP⟩ := exx ((cutPre X.reverse Y.reverse).1); obtain ⟨Q, hQ⟩ := exx ((cutPre X.reverse Y.reverse).2)
 have hPQ : cutPre (X.reverse.drop 0) (Y.reverse.drop 0) = (P, Q) := by rw [List.drop_zero, List.drop_zero, ← hP, ← hQ]
 rw [hP, hQ]; clear hP hQ; replace hPQ := hdh hPQ; replace rA := hdh rA; replace rB := hdh rB; replace enA := hdh enA; replace enB := hdh enB; replace hXY := hdh hXY
 go_enter Tryz.func42, Tryz.ntmps42
 go_wp2
 go_loopg [6] nA (fun gg i wr => ∃ k : Nat, i = .int .i64 k ∧ nA - k ≤ gg ∧ k ≤ nA ∧ k ≤ nB ∧ Hid (cutPre (A.drop k) (B.drop k) = (X, Y)) ∧ Below w.heap.size w wr)
 case atStart => exact ⟨0, rfl, by omega, Nat.zero_le _, Nat.zero_le _, hXY, belt⟩
 case round =>
  obtain ⟨k, rfl, kg, ka, kb, hc, hbr⟩ := hrel; have zr := hbr.size; obtain ⟨C, hC⟩ := exx (stepB (A.drop k) (B.drop k)); have hCs := hdh hC
  go_upto_region 2 with fail
  go_cut [27] from 7 to 29 (fun ev wx => ev = .bool C ∧ Below w.heap.size w wx)
  case first =>
   by_cases ca : k < nA
   ·have ca1 : (k : Int) < nA := by omega
    by_cases cb : k < nB
    ·have cb1 : (k : Int) < nB := by omega
     obtain ⟨x, hx⟩ := get_at enA.out ca; obtain ⟨y, hy⟩ := get_at enB.out cb; rw [step_at hx hy] at hC; obtain ⟨bA, oA, cA', e, hbA, _, _, hlA⟩ := row_ld (rA.out.below hbr) zr (by rw [enA.out]; omega); rw [enA.out] at e
     simp at e
     obtain ⟨rfl, rfl⟩ := e; obtain ⟨bB, oB, cB', e, hbB, _, _, hlB⟩ := row_ld (rB.out.below hbr) zr (by rw [enB.out]; omega); rw [enB.out] at e
     simp at e
     obtain ⟨rfl, rfl⟩ := e; have LX := hlA k x hx; have LY := hlB k y hy
     have EQ := fun w => eql_val x y w
     have EG := fun p q w => eqg_val x y p q w
     rw [hC] at EQ; generalize x.val = VX at LX EQ EG; generalize y.val = VY at LY EQ EG; replace LX := hdh LX; replace LY := hdh LY; clear hlA hlB hx hy hC; refine rst (Held wr 0 []) ?_
     repeat (first | (refine' wpSteady_do _ _ _; rotate_left; (focus rfl); (focus (intro w1 hS R hR; have hc := hS.cells; simp only [Cells] at hc; obtain ⟨hco, hfo⟩ := bcell hS.old; have hLx := LX.out _ hS.old; have hLy := LY.out _ hS.old; go_simp; (try go_bits); first | exact hR _ hS | fail)); simp only [pu]) | (refine spa ?_; simp only [pu]))
     refine wpSteady_nil (fun uZ hSZ => ?_); obtain ⟨hcZ, hbZ, hzZ, hcoZ, hfoZ⟩ := hall hSZ; clear hSZ; simp only [Cells] at hcZ; go_wp2; go_meet
     case rel => exact ⟨rfl, hbr.trans (hbZ.mono zr)⟩
    ·have cb1 : ¬ (k : Int) < nB := by omega
     rw [step_right (by rw [enB.out]; omega)] at hC; subst hC; refine rst (Held wr 0 []) ?_
     repeat (first | (refine' sdo ?_; simp only [pu]) | (refine spa ?_; simp only [pu]))
     refine wpSteady_nil (fun uZ hSZ => ?_); obtain ⟨hcZ, hbZ, hzZ, hcoZ, hfoZ⟩ := hall hSZ; clear hSZ; simp only [Cells] at hcZ; go_wp2; go_meet
     case rel => exact ⟨rfl, hbr.trans (hbZ.mono zr)⟩
   ·have ca1 : ¬ (k : Int) < nA := by omega
    rw [step_left (by rw [enA.out]; omega)] at hC; subst hC; refine rst (Held wr 0 []) ?_
    repeat (first | (refine' sdo ?_; simp only [pu]) | (refine spa ?_; simp only [pu]))
    refine wpSteady_nil (fun uZ hSZ => ?_); obtain ⟨hcZ, hbZ, hzZ, hcoZ, hfoZ⟩ := hall hSZ; clear hSZ; simp only [Cells] at hcZ; go_wp2; go_meet
    case rel => exact ⟨rfl, hbr.trans (hbZ.mono zr)⟩
  case rest =>
   obtain ⟨rfl, hb1⟩ := hcut
   cases C
   ·have h3 := hc.out
    rw [cut_stop hCs.out] at h3
    injection h3 with h4 h5
    obtain ⟨s1, c1, SL1, R1⟩ := row_from rA.out (k := k) (by rw [enA.out]; exact ka); obtain ⟨s2, c2, SL2, R2⟩ := row_from rB.out (k := k) (by rw [enB.out]; exact kb); rw [enA.out] at SL1 R1; rw [enB.out] at SL2 R2; rw [h4] at R1; rw [h5] at R2; obtain ⟨n1, en1⟩ := exx (nA - k); obtain ⟨n2, en2⟩ := exx (nB - k); rw [en1] at SL1 R1; rw [en2] at SL2 R2
    have lX : X.length = n1 := by rw [← h4, List.length_drop, enA.out]; exact en1
    have lY : Y.length = n2 := by rw [← h5, List.length_drop, enB.out]; exact en2
    replace R1 := hdh R1; replace R2 := hdh R2; replace lX := hdh lX; replace lY := hdh lY; have z1 := hb1.size
    have bn1 : n1 ≤ 2 ^ 63 - 1 := by omega
    have bn2 : n2 ≤ 2 ^ 63 - 1 := by omega
    clear hc hCs h4 h5 hbr zr kg en1 en2 rA rB enA enB
    go_upto_region 4 with fail
    refine rst (Held wc 0 []) ?_
    repeat (first | (refine' sdo ?_; simp only [pu]) | (refine spa ?_; simp only [pu]))
    refine wpSteady_nil (fun uZ hSZ => ?_); obtain ⟨hcZ, hbZ, hzZ, hcoZ, hfoZ⟩ := hall hSZ; clear hSZ; simp only [Cells] at hcZ; have hb2 := hb1.trans (hbZ.mono z1); have z2 := hb2.size; clear hcZ hcoZ hfoZ hbZ hzZ SL1 SL2 hb1 z1; go_wp2
    go_loopg [6] n1 (fun gg i wr => ∃ j : Nat, i = .int .i64 j ∧ n1 - j ≤ gg ∧ j ≤ n1 ∧ j ≤ n2 ∧ Hid (cutPre (X.reverse.drop j) (Y.reverse.drop j) = (P, Q)) ∧ Below w.heap.size w wr)
    case atStart => exact ⟨0, rfl, by omega, Nat.zero_le _, Nat.zero_le _, hPQ, hb2⟩
    case round =>
     obtain ⟨j, rfl, jg, ja, jb, hc, hbr⟩ := hrel; have zr := hbr.size; clear hb2 z2; obtain ⟨C, hC⟩ := exx (stepB (X.reverse.drop j) (Y.reverse.drop j)); have hCs := hdh hC
     go_upto_region 6 with fail
     go_cut [64] from 36 to 66 (fun ev wx => ev = .bool C ∧ Below w.heap.size w wx)
     case first =>
      by_cases ca : j < n1
      ·have ca1 : (j : Int) < n1 := by omega
       obtain ⟨p, hp⟩ := exx (n1 - 1 - j)
       have ip : (n1 : Int) - 1 - j = p := by omega
       by_cases cb : j < n2
       ·have cb1 : (j : Int) < n2 := by omega
        obtain ⟨q, hq⟩ := exx (n2 - 1 - j)
        have iq : (n2 : Int) - 1 - j = q := by omega
        have pl : (p : Int) < n1 := by omega
        have ql : (q : Int) < n2 := by omega
        obtain ⟨x, hx⟩ := get_at lX.out (show p < n1 by omega); obtain ⟨y, hy⟩ := get_at lY.out (show q < n2 by omega); rw [step_at (x := x) (y := y) (by rw [rev_at (by rw [lX.out]; exact ca), lX.out, hp]; exact hx) (by rw [rev_at (by rw [lY.out]; exact cb), lY.out, hq]; exact hy)] at hC; obtain ⟨bA, oA, cA', e, hbA, _, _, hlA⟩ := row_ld (R1.out.below hbr) zr (by rw [lX.out]; omega); rw [lX.out] at e
        simp at e
        obtain ⟨rfl, rfl⟩ := e; obtain ⟨bB, oB, cB', e, hbB, _, _, hlB⟩ := row_ld (R2.out.below hbr) zr (by rw [lY.out]; omega); rw [lY.out] at e
        simp at e
        obtain ⟨rfl, rfl⟩ := e; have LX := hlA p x hx; have LY := hlB q y hy
        have EQ := fun w => eql_val x y w
        have EG := fun p q w => eqg_val x y p q w
        rw [hC] at EQ; generalize x.val = VX at LX EQ EG; generalize y.val = VY at LY EQ EG; replace LX := hdh LX; replace LY := hdh LY; clear hlA hlB hx hy hC hp hq; refine rst (Held wr 0 []) ?_
        repeat (first | (refine' wpSteady_do _ _ _; rotate_left; (focus rfl); (focus (intro w1 hS R hR; have hc := hS.cells; simp only [Cells] at hc; obtain ⟨hco, hfo⟩ := bcell hS.old; have hLx := LX.out _ hS.old; have hLy := LY.out _ hS.old; go_simp; (try go_bits); first | exact hR _ hS | fail)); simp only [pu]) | (refine spa ?_; simp only [pu]))
        refine wpSteady_nil (fun uZ hSZ => ?_); obtain ⟨hcZ, hbZ, hzZ, hcoZ, hfoZ⟩ := hall hSZ; clear hSZ; simp only [Cells] at hcZ; go_wp2; go_meet
        case rel => exact ⟨rfl, hbr.trans (hbZ.mono zr)⟩
       ·have cb1 : ¬ (j : Int) < n2 := by omega
        rw [step_right (by rw [List.length_reverse, lY.out]; omega)] at hC; subst hC; refine rst (Held wr 0 []) ?_
        repeat (first | (refine' sdo ?_; simp only [pu]) | (refine spa ?_; simp only [pu]))
        refine wpSteady_nil (fun uZ hSZ => ?_); obtain ⟨hcZ, hbZ, hzZ, hcoZ, hfoZ⟩ := hall hSZ; clear hSZ; simp only [Cells] at hcZ; go_wp2; go_meet
        case rel => exact ⟨rfl, hbr.trans (hbZ.mono zr)⟩
      ·have ca1 : ¬ (j : Int) < n1 := by omega
       rw [step_left (by rw [List.length_reverse, lX.out]; omega)] at hC; subst hC; refine rst (Held wr 0 []) ?_
       repeat (first | (refine' sdo ?_; simp only [pu]) | (refine spa ?_; simp only [pu]))
       refine wpSteady_nil (fun uZ hSZ => ?_); obtain ⟨hcZ, hbZ, hzZ, hcoZ, hfoZ⟩ := hall hSZ; clear hSZ; simp only [Cells] at hcZ; go_wp2; go_meet
       case rel => exact ⟨rfl, hbr.trans (hbZ.mono zr)⟩
     case rest =>
      obtain ⟨rfl, hb3⟩ := hcut
      cases C
      ·have h3 := hc.out
       rw [cut_stop hCs.out] at h3
       injection h3 with h4 h5
       obtain ⟨m1, hm1⟩ := exx (n1 - j); obtain ⟨m2, hm2⟩ := exx (n2 - j)
       have im1 : (n1 : Int) - j = m1 := by omega
       have im2 : (n2 : Int) - j = m2 := by omega
       obtain ⟨s3, c3, SL3, R3⟩ := row_upto R1.out (k := m1) (by rw [lX.out]; omega); obtain ⟨s4, c4, SL4, R4⟩ := row_upto R2.out (k := m2) (by rw [lY.out]; omega)
       have e3 : X.take m1 = P.reverse := by rw [← h4, rev_take, lX.out, hm1]
       have e4 : Y.take m2 = Q.reverse := by rw [← h5, rev_take, lY.out, hm2]
       rw [e3] at R3; rw [e4] at R4; replace R3 := hdh R3; replace R4 := hdh R4; have z3 := hb3.size
       have bm1 : m1 ≤ n1 := by omega
       have bm2 : m2 ≤ n2 := by omega
       clear hc hCs h4 h5 hbr zr jg e3 e4 hm1 hm2 R1 R2
       go_upto_region 8 with fail
       refine rst (Held wc 0 []) ?_
       repeat (first | (refine' sdo ?_; simp only [pu]) | (refine spa ?_; simp only [pu]))
       refine wpSteady_nil (fun uZ hSZ => ?_); obtain ⟨hcZ, hbZ, hzZ, hcoZ, hfoZ⟩ := hall hSZ; clear hSZ; simp only [Cells] at hcZ; have hb4 := hb3.trans (hbZ.mono z3); go_wp2; go_ret2; exact ⟨hb4, _, _, rfl, R3.out, R4.out⟩
      ·have h3 := hc.out
       rw [cut_step hCs.out, List.tail_drop, List.tail_drop] at h3
       have kk : j < n1 ∧ j < n2 := by
        have h2 := hCs.out
        constructor
        ·refine Nat.lt_of_not_le fun h => ?_
         rw [step_left (by rw [List.length_reverse, lX.out]; exact h)] at h2
         cases h2
        ·refine Nat.lt_of_not_le fun h => ?_
         rw [step_right (by rw [List.length_reverse, lY.out]; exact h)] at h2
         cases h2
       replace h3 := hdh h3; go_wp2
       go_roundg (n1 - (j + 1))
       case measure => omega
       case rel => exact ⟨j + 1, by go_num, Nat.le_refl _, by omega, by omega, h3, hb3⟩
   ·have h3 := hc.out
    rw [cut_step hCs.out, List.tail_drop, List.tail_drop] at h3
    have kk : k < nA ∧ k < nB := by
     have h2 := hCs.out
     constructor
     ·refine Nat.lt_of_not_le fun h => ?_
      rw [step_left (by rw [enA.out]; exact h)] at h2
      cases h2
     ·refine Nat.lt_of_not_le fun h => ?_
      rw [step_right (by rw [enB.out]; exact h)] at h2
      cases h2
    replace h3 := hdh h3; go_wp2
    go_roundg (nA - (k + 1))
    case measure => omega
    case rel => exact ⟨k + 1, by go_num, Nat.le_refl _, by omega, by omega, h3, hb1⟩
end
end Go.Proofs.YtfcphagmjijmkaaGreatDoor
