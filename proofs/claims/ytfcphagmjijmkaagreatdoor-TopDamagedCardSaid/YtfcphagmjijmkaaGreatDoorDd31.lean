/-
  Damage, plain: flat strokes; what two rows of them both begin and end with; the pieces of one; where nothing of the middles shows, the same is painted.
-/
import Derived.Deep.MidRow
import Derived.Test.YtfcphagmjijmkaaGreatDoorDd30
namespace Go.Proofs.YtfcphagmjijmkaaGreatDoor
open Go.RowKit
set_option linter.unusedVariables false
set_option linter.unusedSimpArgs false
attribute [local go_sem] vwp vUpon_value vUpon_skip vUpon_enter vUpon_row
set_option maxHeartbeats 16000000
structure Fl where
 s : St
 r : Re
def Fl.enc (f : Fl) : List Value := f.s.enc ++ f.r.enc
theorem Fl.enc_len (f : Fl) : f.enc.length = 19 := rfl
def Fl.eqb (f g : Fl) : Bool := f.s.eqb g.s && f.r.eqb g.r
theorem bytes_eq {a b : ByteArray} (h : a.toList = b.toList) : a = b := by
 rw [Lib.toList_data, Lib.toList_data] at h; exact ByteArray.ext (Array.ext' h)
theorem st_iff {s t : St} : s.eqb t = true ↔ s = t := by
 constructor
 ·intro h
  obtain ⟨k, r, c, b, x, n⟩ := s; obtain ⟨k', ⟨r0, r1, r2, r3⟩, ⟨c0, c1, c2, c3⟩, ⟨b0, b1, b2, b3⟩, x', n'⟩ := t; obtain ⟨r0', r1', r2', r3'⟩ := r; obtain ⟨c0', c1', c2', c3'⟩ := c; obtain ⟨b0', b1', b2', b3'⟩ := b; simp only [St.eqb, Re.eqb, Co.eqb, eq4, Bool.and_eq_true, beq_iff_eq] at h; obtain ⟨rfl, ⟨rfl, rfl, rfl, rfl⟩, ⟨rfl, rfl, rfl, rfl⟩, ⟨rfl, rfl, rfl, rfl⟩, h, rfl⟩ := h; rw [bytes_eq h]
 ·rintro rfl
  simp [St.eqb, Re.eqb, Co.eqb, eq4]
theorem Fl.eqb_iff {f g : Fl} : f.eqb g = true ↔ f = g := by
 obtain ⟨s, r⟩ := f; obtain ⟨s', r'⟩ := g; unfold Fl.eqb; rw [Bool.and_eq_true, st_iff, _root_.Go.Proofs.YtfcphagmjijmkaaGreatDoor.eqb_iff]
 constructor
 ·rintro ⟨rfl, rfl⟩; rfl
 ·intro h; injection h with h1 h2; exact ⟨h1, h2⟩
theorem Fl.eqb_refl (f : Fl) : f.eqb f = true := Fl.eqb_iff.2 rfl
def fltZ (ss : List St) (rs : List Re) : List Fl := List.zipWith Fl.mk ss rs
def flts (xs : List St) : List Fl := fltZ (flS xs) (flR xs)
theorem flts_len (xs : List St) : (flts xs).length = (flS xs).length := by
 unfold flts fltZ; rw [List.length_zipWith, flsr_len]; omega
theorem flts_get {xs : List St} {i : Nat} {f : Fl} (h : (flts xs)[i]? = some f) : (flS xs)[i]? = some f.s ∧ (flR xs)[i]? = some f.r := by
 unfold flts fltZ at h; rw [List.getElem?_zipWith] at h
 cases h1 : (flS xs)[i]? with
 | none => rw [h1] at h; cases h
 | some s =>
  cases h2 : (flR xs)[i]? with
  | none => rw [h1, h2] at h; cases h
  | some r =>
   rw [h1, h2] at h
   injection h with h
   subst h; exact ⟨rfl, rfl⟩
def Fl.Ok (f : Fl) : Prop := f.s.Wf ∧ mayR f.s.rect = true ∧ (f.s.kind = 1 ∨ f.s.kind = 2 ∨ f.s.kind = 3) ∧ mayR f.r = true ∧ (f.r = Re.none ∨ emptyR f.r = false) ∧ ∀ x y, hasR f.r x y = true → hasR f.s.rect x y = true
theorem shR_form (M : List Re) (s : St) : shR M s = Re.none ∨ emptyR (shR M s) = false := by
 unfold shR
 split
 ·exact .inl rfl
 ·rename_i h
  exact .inr (by simpa using h)
theorem shGo_form : ∀ (xs : List St) (M : List Re), ∀ q ∈ shGo M xs, q = Re.none ∨ emptyR q = false
 | [], M, q, hq => by simp [shGo] at hq
 | s :: xs, M, q, hq => by
  simp only [shGo, List.mem_cons] at hq
  rcases hq with rfl | hq
  ·exact shR_form M s
  ·exact shGo_form xs _ q hq
theorem fltR_sub {xs : List St} {rs : List Re} : ∀ q ∈ fltR xs rs, q ∈ rs := by
 intro q hq
 unfold fltR at hq; obtain ⟨p, hp, rfl⟩ := List.mem_map.1 hq; exact (List.of_mem_zip (List.mem_filter.1 hp).1).2
theorem flts_ok {xs : List St} (h : chkL xs = 0) (hw : ∀ s ∈ xs, s.Wf) : ∀ f ∈ flts xs, f.Ok := by
 intro f hf
 obtain ⟨i, hi⟩ := List.getElem?_of_mem hf; obtain ⟨h1, h2⟩ := flts_get hi; obtain ⟨a, b, c, d, e⟩ := flat_at h hw h1 h2; refine ⟨a, b, c, d, ?_, e⟩; have hm := List.mem_of_getElem? h2; unfold flR at hm; rw [if_pos h] at hm; exact shGo_form xs [] _ (fltR_sub _ hm)
def cutPre : List Fl → List Fl → List Fl × List Fl
 | x :: xs, y :: ys => if x.eqb y then cutPre xs ys else (x :: xs, y :: ys)
 | xs, ys => (xs, ys)
theorem cutPre_nil_left (ys : List Fl) : cutPre [] ys = ([], ys) := by rw [cutPre]; simp
theorem cutPre_nil_right (xs : List Fl) : cutPre xs [] = (xs, []) := by rw [cutPre]; simp
theorem cutPre_spec : ∀ (xs ys : List Fl), ∃ p, xs = p ++ (cutPre xs ys).1 ∧ ys = p ++ (cutPre xs ys).2
 | [], ys => ⟨[], by rw [cutPre_nil_left]; exact ⟨rfl, rfl⟩⟩
 | x :: xs, [] => ⟨[], by rw [cutPre_nil_right]; exact ⟨rfl, rfl⟩⟩
 | x :: xs, y :: ys => by
  rw [cutPre]
  split
  ·rename_i h
   obtain ⟨p, h1, h2⟩ := cutPre_spec xs ys; have e := Fl.eqb_iff.1 h; subst e; exact ⟨x :: p, by rw [List.cons_append, ← h1], by rw [List.cons_append, ← h2]⟩
  ·exact ⟨[], rfl, rfl⟩
theorem cutPre_self : ∀ (xs : List Fl), cutPre xs xs = ([], [])
 | [] => by rw [cutPre_nil_left]
 | x :: xs => by rw [cutPre, Fl.eqb_refl, if_pos rfl, cutPre_self xs]
def midP (xs ys : List Fl) : List Fl × List Fl :=
 ((cutPre (cutPre xs ys).1.reverse (cutPre xs ys).2.reverse).1.reverse, (cutPre (cutPre xs ys).1.reverse (cutPre xs ys).2.reverse).2.reverse)
theorem mid_spec (xs ys : List Fl) : ∃ p q, xs = p ++ (midP xs ys).1 ++ q ∧ ys = p ++ (midP xs ys).2 ++ q := by
 obtain ⟨p, h1, h2⟩ := cutPre_spec xs ys; obtain ⟨q, h3, h4⟩ := cutPre_spec (cutPre xs ys).1.reverse (cutPre xs ys).2.reverse; refine ⟨p, q.reverse, ?_, ?_⟩
 ·have := congrArg List.reverse h3
  rw [List.reverse_reverse, List.reverse_append] at this; unfold midP; rw [List.append_assoc, ← this]; exact h1
 ·have := congrArg List.reverse h4
  rw [List.reverse_reverse, List.reverse_append] at this; unfold midP; rw [List.append_assoc, ← this]; exact h2
theorem mid_self (xs : List Fl) : midP xs xs = ([], []) := by
 unfold midP; rw [cutPre_self]
 rfl
/-! ### what is painted at a place -/
def pntF (x y : Int) (out : List St) (l : List Fl) : List St := l.foldl (fun o f => if hasR f.r x y then paintP f.s x y o else o) out
theorem at_flats (x y : Int) : ∀ (xs : List St) (rs : List Re) (out : List St), rs.length = xs.length → atSh x y xs rs out = pntF x y out (fltZ (fltS xs) (fltR xs rs))
 | [], [], out, _ => by
  rw [atSh]
  ·rfl
  ·intro s xs q rs h
   cases h
 | s :: xs, q :: rs, out, h => by
  rw [atSh, at_flats x y xs rs _ (by simpa using h)]; obtain ⟨e1, e2⟩ := flt_cons s xs q rs; rw [e1, e2]
  cases hd : drB s
  ·simp
  ·simp only [Bool.true_and, if_true]
   rfl
 | [], _ :: _, _, h => by cases h
 | _ :: _, [], _, h => by cases h
theorem at_flts {xs : List St} (h : chkL xs = 0) (x y : Int) : atL xs x y = pntF x y [] (flts xs) := by
 rw [at_sh h (kinds_of h), at_flats x y xs (shL xs) [] (shL_len xs)]; unfold flts flS flR; rw [if_pos h, if_pos h]
theorem pnt_app (x y : Int) (out : List St) (a b : List Fl) : pntF x y out (a ++ b) = pntF x y (pntF x y out a) b := by
 unfold pntF; rw [List.foldl_append]
def pieL (f : Fl) : List Re := plcL f.s f.r
theorem meets_has {l : List Re} {q : Re} {x y : Int} (hl : ∀ p ∈ l, mayR p = true) (hq : mayR q = true) : hasL (meets l q) x y = (hasL l x y && hasR q x y) := by
 unfold meets hasL; rw [Bool.eq_iff_iff, Bool.and_eq_true, List.any_eq_true, List.any_eq_true]
 constructor
 ·rintro ⟨m, hm, hh⟩
  obtain ⟨hm, _⟩ := List.mem_filter.1 hm; obtain ⟨p, hp, rfl⟩ := List.mem_map.1 hm; rw [has_meet (hl p hp) hq, Bool.and_eq_true] at hh; exact ⟨⟨p, hp, hh.1⟩, hh.2⟩
 ·rintro ⟨⟨p, hp, h1⟩, h2⟩
  have hh : hasR (meetR p q) x y = true := by rw [has_meet (hl p hp) hq, h1, h2]; rfl
  refine ⟨meetR p q, List.mem_filter.2 ⟨List.mem_map.2 ⟨p, hp, rfl⟩, ?_⟩, hh⟩
  cases he : (meetR p q).eqb Re.none
  ·rfl
  ·rw [_root_.Go.Proofs.YtfcphagmjijmkaaGreatDoor.eqb_iff.1 he] at hh
   have : hasR Re.none x y = false := by unfold hasR Re.none; simp
   rw [this] at hh
   cases hh
theorem has_bd {q : Re} {x y : Int} : hasR q x y = true ↔ q.x ≤ x ∧ x < q.x + q.wd ∧ q.y ≤ y ∧ y < q.y + q.ht := by
 unfold hasR; simp only [Bool.and_eq_true, decide_eq_true_eq]; exact ⟨fun ⟨⟨⟨a, b⟩, c⟩, d⟩ => ⟨a, b, c, d⟩, fun ⟨a, b, c, d⟩ => ⟨⟨⟨a, b⟩, c⟩, d⟩⟩
theorem sides_may {p : Re} (h : mayR p = true) (hw : 0 < p.wd) (hh : 0 < p.ht) : ∀ q ∈ sidesR p, mayR q = true := by
 have b := may_bd h; have c := may_sum h
 intro q hq
 unfold sidesR at hq; simp only [List.mem_cons, List.not_mem_nil, or_false] at hq
 rcases hq with rfl | rfl | rfl | rfl <;> (apply may_of; simp only; omega)
theorem sides_has {p : Re} {x y : Int} (hin : hasR p x y = true) : hasL (sidesR p) x y = edgeP p x y := by
 have b := has_bd.1 hin; unfold hasL sidesR edgeP; simp only [List.any_cons, List.any_nil, Bool.or_false]; rw [Bool.eq_iff_iff]; simp only [Bool.or_eq_true, has_bd, beq_iff_eq]; omega
theorem pie_out {f : Fl} (h : f.Ok) {x y : Int} (hn : hasL (pieL f) x y = false) (hh : hasR f.r x y = true) (out : List St) : paintP f.s x y out = out := by
 obtain ⟨hw, hm, hk, hmr, hf, hin⟩ := h; have hr := hin x y hh
 have hne : f.r.eqb Re.none = false := by
  cases he : f.r.eqb Re.none
  ·rfl
  ·rw [_root_.Go.Proofs.YtfcphagmjijmkaaGreatDoor.eqb_iff.1 he] at hh
   have := has_bd.1 hh; simp only [Re.none] at this; omega
 have hd : drB f.s = true := by unfold drB; simp; omega
 have hone : hasL [f.r] x y = true := by unfold hasL; simp [hh]
 unfold pieL plcL at hn; rw [hne, hd] at hn; simp only [Bool.not_true, Bool.or_self, Bool.false_eq_true, if_false] at hn; have ha : 0 ≤ f.s.col.a := hw.2.2.1.2.2.2.1; unfold paintP
 rcases hk with hk | hk | hk
 ·rw [if_neg (by omega)] at hn
  rw [if_pos hk]
  by_cases h0 : f.s.col.a = 0
  ·rw [if_neg (by omega), if_neg (by omega)]
  ·rw [if_neg h0, if_pos hk, hone] at hn
   cases hn
 ·rw [if_neg (by omega)] at hn
  rw [if_neg (by omega), if_pos hk]
  by_cases h0 : f.s.col.a = 0
  ·rw [if_neg]
   simp
   omega
  ·rw [if_neg h0, if_neg (by omega)] at hn
   have hb := has_bd.1 hr; rw [meets_has (sides_may hm (by omega) (by omega)) hmr, hh, Bool.and_true, sides_has hr] at hn; rw [hn]
   simp
 ·rw [if_pos hk] at hn
  rw [if_neg (by omega), if_neg (by omega)]
  by_cases h0 : f.s.text.toList = []
  ·rw [if_pos h0]
  ·rw [if_neg h0, hone] at hn
   cases hn
theorem pnt_out {x y : Int} : ∀ (l : List Fl) (out : List St), (∀ f ∈ l, f.Ok) → hasL (l.flatMap pieL) x y = false → pntF x y out l = out
 | [], out, _, _ => rfl
 | f :: l, out, hl, h => by
  rw [List.flatMap_cons, has_append, Bool.or_eq_false_iff] at h; have e : pntF x y out (f :: l) = pntF x y (if hasR f.r x y then paintP f.s x y out else out) l := rfl; rw [e, pnt_out l _ (fun g hg => hl g (List.mem_cons_of_mem _ hg)) h.2]
  cases hh : hasR f.r x y
  ·rfl
  ·simp only [if_true]
   exact pie_out (hl f (by simp)) h.1 hh out
def pieA (a b : List Fl) : List Re := (midP a b).1.flatMap pieL ++ (midP a b).2.flatMap pieL
theorem pnt_mid {a b : List Fl} (ha : ∀ f ∈ a, f.Ok) (hb : ∀ f ∈ b, f.Ok) {x y : Int} (h : hasL (pieA a b) x y = false) : pntF x y [] a = pntF x y [] b := by
 obtain ⟨p, q, h1, h2⟩ := mid_spec a b; unfold pieA at h; rw [has_append, Bool.or_eq_false_iff] at h
 have m1 : ∀ f ∈ (midP a b).1, f.Ok := fun f hf => ha f (by rw [h1]; simp [hf])
 have m2 : ∀ f ∈ (midP a b).2, f.Ok := fun f hf => hb f (by rw [h2]; simp [hf])
 have e1 : pntF x y [] a = pntF x y (pntF x y [] p) q := by
  conv => lhs; rw [h1]
  rw [pnt_app, pnt_app, pnt_out _ _ m1 h.1]
 have e2 : pntF x y [] b = pntF x y (pntF x y [] p) q := by
  conv => lhs; rw [h2]
  rw [pnt_app, pnt_app, pnt_out _ _ m2 h.2]
 rw [e1, e2]
theorem pie_may {f : Fl} (h : f.Ok) : MayL (pieL f) := by
 intro q hq
 unfold pieL plcL at hq; have hm := h.2.2.2.1
 split at hq
 ·simp at hq
 ·split at hq
  ·split at hq
   ·simp at hq
   ·simp at hq; rw [hq]; exact hm
  ·split at hq
   ·simp at hq
   ·split at hq
    ·simp at hq; rw [hq]; exact hm
    ·unfold meets at hq
     obtain ⟨p, _, rfl⟩ := List.mem_map.1 (List.mem_filter.1 hq).1; exact meet_may _ _
theorem pies_may {l : List Fl} (h : ∀ f ∈ l, f.Ok) : MayL (l.flatMap pieL) := by
 intro q hq
 obtain ⟨f, hf, hq⟩ := List.mem_flatMap.1 hq; exact pie_may (h f hf) q hq
theorem pieA_may {a b : List Fl} (ha : ∀ f ∈ a, f.Ok) (hb : ∀ f ∈ b, f.Ok) : MayL (pieA a b) := by
 obtain ⟨p, q, h1, h2⟩ := mid_spec a b; exact (pies_may fun f hf => ha f (by rw [h1]; simp [hf])).append (pies_may fun f hf => hb f (by rw [h2]; simp [hf]))
theorem eq_flat (d : Nat) (w : World) (f g : Fl) : (Op.equalIn (d + 5) 82 (.agg #[.int .u8 (f).s.kind, .int .i64 (f).s.rect.x, .int .i64 (f).s.rect.y, .int .i64 (f).s.rect.wd, .int .i64 (f).s.rect.ht, .int .u8 (f).s.col.r, .int .u8 (f).s.col.g, .int .u8 (f).s.col.b, .int .u8 (f).s.col.a, .int .u8 (f).s.back.r, .int .u8 (f).s.back.g, .int .u8 (f).s.back.b, .int .u8 (f).s.back.a, .string (f).s.text, .int .i64 (f).s.node, .int .i64 (f).r.x, .int .i64 (f).r.y, .int .i64 (f).r.wd, .int .i64 (f).r.ht]) (.agg #[.int .u8 (g).s.kind, .int .i64 (g).s.rect.x, .int .i64 (g).s.rect.y, .int .i64 (g).s.rect.wd, .int .i64 (g).s.rect.ht, .int .u8 (g).s.col.r, .int .u8 (g).s.col.g, .int .u8 (g).s.col.b, .int .u8 (g).s.col.a, .int .u8 (g).s.back.r, .int .u8 (g).s.back.g, .int .u8 (g).s.back.b, .int .u8 (g).s.back.a, .string (g).s.text, .int .i64 (g).s.node, .int .i64 (g).r.x, .int .i64 (g).r.y, .int .i64 (g).r.wd, .int .i64 (g).r.ht])).run Tryz.prog w = .ok (f.eqb g) w := by
 unfold Fl.eqb; have A := Tryz.underlying82; have B := Tryz.underlying36; have C := Tryz.underlying32; rw [run_equalIn_agg w (d + 4) _ _ _ (by simp [Program.fieldsOf, A]) (by kernel_rfl)]; simp only [Program.fieldsOf, A]
 have z1 : Tryz.prog.cellsOf 36 = 15 := by kernel_rfl
 have z2 : Tryz.prog.cellsOf 32 = 4 := by kernel_rfl
 have y1 : Tryz.t36.size = 15 := by kernel_rfl
 have y2 : Tryz.t32.size = 4 := by kernel_rfl
 have E1 := eq_stroke d w f.s g.s; have E2 := eq_rect (d + 1) w f.r.x f.r.y f.r.wd f.r.ht g.r.x g.r.y g.r.wd g.r.ht; have e3 : eq4 f.r.x f.r.y f.r.wd f.r.ht g.r.x g.r.y g.r.wd g.r.ht = f.r.eqb g.r := rfl; rw [e3] at E2; generalize f.s.eqb g.s = b1 at *; generalize f.r.eqb g.r = b2 at *; simp only [Op.eqFields, Sem.run_bind, Sem.run_ite, Go.part, isAgg, run_underlying B, run_underlying C]
 simp [sizeOf, z1, z2, y1, y2, E1, E2]
 cases b1 <;> cases b2 <;> simp
/-! ### a flat stroke as one value -/
noncomputable def ldF (v : Value) : Sem Value := Instr.loadAt 82 v
theorem ldF_is (v : Value) : Instr.loadAt 82 v = ldF v := rfl
def Fl.val (f : Fl) : Value := .agg f.enc.toArray
theorem ldF_at {w : World} {b o : Nat} {f : Fl} (h : ∀ i u, f.enc[i]? = some u → w.cell? ⟨b, o + i, none⟩ = some u) : (ldF (.pointer (some ⟨b, o, none⟩))).run Tryz.prog w = .ok f.val w :=
 run_loadAt_mid w b o _ f.enc _ h Tryz.underlying82 rfl (by kernel_rfl)
theorem eql_val (f g : Fl) (w : World) : (binOp .eql 82 f.val g.val).run Tryz.prog w = .ok (.bool (f.eqb g)) w := by
 have e : ∀ f : Fl, f.val = .agg #[.int .u8 (f).s.kind, .int .i64 (f).s.rect.x, .int .i64 (f).s.rect.y, .int .i64 (f).s.rect.wd, .int .i64 (f).s.rect.ht, .int .u8 (f).s.col.r, .int .u8 (f).s.col.g, .int .u8 (f).s.col.b, .int .u8 (f).s.col.a, .int .u8 (f).s.back.r, .int .u8 (f).s.back.g, .int .u8 (f).s.back.b, .int .u8 (f).s.back.a, .string (f).s.text, .int .i64 (f).s.node, .int .i64 (f).r.x, .int .i64 (f).r.y, .int .i64 (f).r.wd, .int .i64 (f).r.ht] := fun f => rfl
 rw [e, e, run_eql_struct]; have h := eq_flat 9995 w f g; rw [h]
 rfl
theorem eqg_val (f g : Fl) (x y : Operand) (w : World) : (eqGuard .eql 82 x y f.val g.val).run Tryz.prog w = .ok () w :=
 run_eqGuard_agg w .eql _ x y f.enc.toArray g.enc.toArray (by kernel_rfl)
theorem row_ld {B : Nat} {w : World} {v : Value} {xs : List Fl} (h : Row B 19 Fl.enc w v xs) (hB : B ≤ w.heap.size) (h0 : 0 < xs.length) :
  ∃ b o cap, v = .slice (some ⟨b, o, none⟩) xs.length cap ∧ b < B ∧ xs.length ≤ cap ∧ cap ≤ maxLen ∧ ∀ j f, xs[j]? = some f → ∀ w', Below w.heap.size w w' → (ldF (.pointer (some ⟨b, o + j * 19, none⟩))).run Tryz.prog w' = .ok f.val w' := by
 obtain ⟨b, o, cap, e, hb, h1, h2, hx⟩ := h.open_ h0; exact ⟨b, o, cap, e, hb, h1, h2, fun j s hj w' hw => ldF_at fun i u hi => (hw.cell (p := ⟨b, _, none⟩) (Nat.lt_of_lt_of_le hb hB)).trans (hx j s hj i u hi)⟩
theorem setCells_blk {b : Nat} {e : TypeId} : ∀ (vs : List Value) {w : World} {o : Nat} {cs : List Value}, Blk w b cs e → o + vs.length ≤ cs.length → Blk (w.setCells b o vs) b (cs.take o ++ (vs ++ cs.drop (o + vs.length))) e
 | [], w, o, cs, h, _ => by
  rw [World.setCells, List.nil_append, List.length_nil, Nat.add_zero, List.take_append_drop]; exact h
 | v :: vs, w, o, cs, h, hl => by
  rw [List.length_cons] at hl; have ih := setCells_blk vs (o := o + 1) (h.set o v) (by rw [List.length_set]; omega); rw [World.setCells]
  have e1 : (cs.set o v).take (o + 1) = cs.take o ++ [v] := by
   rw [List.take_add_one, List.getElem?_set_self (by omega), List.take_set_of_le lrr]
   rfl
  have e2 : (cs.set o v).drop (o + 1 + vs.length) = cs.drop (o + (v :: vs).length) := by
   rw [List.drop_set_of_lt (by omega), List.length_cons]
   congr 1
   omega
  rw [e1, e2, List.append_assoc] at ih; exact ih
theorem setCells_below {b B : Nat} {w0 : World} (hb : B ≤ b) : ∀ (vs : List Value) {w : World} (o : Nat), Below B w0 w → Below B w0 (w.setCells b o vs)
 | [], _, _, h => h
 | v :: vs, w, o, h => setCells_below hb vs (o + 1) (h.setCell (p := ⟨b, o, none⟩) hb v)
theorem Blk.there {w : World} {b o n : Nat} {cs : List Value} {e : TypeId} (h : Blk w b cs e) (hl : o + n ≤ cs.length) : w.there b o n := fun j hj => by
 refine ⟨?_, h.free _⟩; rw [h.cell (o := o + j) (v := cs[o + j]'(by omega)) (List.getElem?_eq_getElem _)]
 rfl
theorem flat_splice {α : Type} {enc : α → List Value} {sz : Nat} (he : ∀ y, (enc y).length = sz) (x : α) : ∀ (D : List α) (k : Nat), k < D.length → (D.flatMap enc).take (k * sz) ++ (enc x ++ (D.flatMap enc).drop (k * sz + (enc x).length)) = (D.set k x).flatMap enc
 | [], k, h => by simp at h
 | y :: D, 0, _ => by
  rw [List.set_cons_zero, List.flatMap_cons, List.flatMap_cons, Nat.zero_mul, List.take_zero, Nat.zero_add, List.nil_append, he x, List.drop_append_of_le_length (by rw [he]; omega), List.drop_eq_nil_of_le (by rw [he]; omega), List.nil_append]
 | y :: D, k + 1, h => by
  have ih := flat_splice he x D k (by simpa using h); rw [List.set_cons_succ, List.flatMap_cons, List.flatMap_cons, ← ih]
  have e1 : (k + 1) * sz = (enc y).length + k * sz := by rw [he, Nat.add_mul]; omega
  rw [e1, List.take_length_add_append, Nat.add_assoc, List.drop_length_add_append, List.append_assoc]
theorem blk_putV {α : Type} {enc : α → List Value} {sz : Nat} (he : ∀ y, (enc y).length = sz) {w : World} {b k : Nat} {D : List α} {e : TypeId} (x : α) (h : Blk w b (D.flatMap enc) e) (hk : k < D.length) : Blk (w.setCells b (k * sz) (enc x)) b ((D.set k x).flatMap enc) e := by
 have hl : (D.flatMap enc).length = D.length * sz := by
  clear h hk
  induction D with
  | nil => simp
  | cons y D ih => rw [List.flatMap_cons, List.length_append, ih, he, List.length_cons, Nat.add_mul]; omega
 have := setCells_blk (enc x) (o := k * sz) h (by
  rw [hl, he]; have := Nat.mul_le_mul_right sz hk; rw [Nat.succ_mul] at this
  exact this)
 rw [flat_splice he x D k hk] at this; exact this
/-! ### rows of flat strokes -/
def Fl.zero : Fl := ⟨⟨0, ⟨0, 0, 0, 0⟩, ⟨0, 0, 0, 0⟩, ⟨0, 0, 0, 0⟩, ⟨#[]⟩, 0⟩, ⟨0, 0, 0, 0⟩⟩
def OwnsF (base : Nat) (w : World) (v : Value) (l : List Fl) : Prop := w.ownsRow base 82 19 v l.length (l.flatMap Fl.enc)
theorem OwnsF.nil (base : Nat) (w : World) : OwnsF base w (.slice none 0 0) [] := World.ownsRow_nil _ _ _ _
theorem OwnsF.row {base B : Nat} {w : World} {v : Value} {l : List Fl} (h : OwnsF base w v l) (hB : w.heap.size ≤ B) : Row B 19 Fl.enc w v l := Row.own Fl.enc_len h hB (by omega)
theorem OwnsF.below {base B : Nat} {w w' : World} {v : Value} {l : List Fl} (h : OwnsF base w v l) (hb : Below B w w') (hB : w.heap.size ≤ B) : OwnsF base w' v l := ownsRow_below h hb hB
theorem infoFl : (Tryz.prog.info? 82).map (fun i => (i.zero, i.size, i.bytes)) = some (some (.agg #[.int .u8 0, .int .i64 0, .int .i64 0, .int .i64 0, .int .i64 0, .int .u8 0, .int .u8 0, .int .u8 0, .int .u8 0, .int .u8 0, .int .u8 0, .int .u8 0, .int .u8 0, .string ⟨#[]⟩, .int .i64 0, .int .i64 0, .int .i64 0, .int .i64 0, .int .i64 0]), 19, 104) := by kernel_rfl
theorem Fl.enc_one (f : Fl) : ∀ u ∈ f.enc, u.oneCell' = true := by
 intro u hu
 simp only [Fl.enc, St.enc, Re.enc, Co.enc, List.mem_append, List.mem_cons, List.not_mem_nil, or_false] at hu
 rcases hu with (((((rfl | rfl | rfl | rfl | rfl) | rfl | rfl | rfl | rfl) | rfl | rfl | rfl | rfl) | rfl | rfl) | rfl | rfl | rfl | rfl) <;> rfl
theorem madeCells_fl (n : Nat) : madeCells (.agg #[.int .u8 0, .int .i64 0, .int .i64 0, .int .i64 0, .int .i64 0, .int .u8 0, .int .u8 0, .int .u8 0, .int .u8 0, .int .u8 0, .int .u8 0, .int .u8 0, .int .u8 0, .string ⟨#[]⟩, .int .i64 0, .int .i64 0, .int .i64 0, .int .i64 0, .int .i64 0] : Value).cells (n * 19) = ((List.replicate n Fl.zero).flatMap Fl.enc).toArray := by
 apply Array.ext'
 simp only
 apply List.ext_getElem?
 intro p
 have hz : ∀ i, i < 19 → (Fl.zero.enc)[i]? = some ((.agg #[.int .u8 0, .int .i64 0, .int .i64 0, .int .i64 0, .int .i64 0, .int .u8 0, .int .u8 0, .int .u8 0, .int .u8 0, .int .u8 0, .int .u8 0, .int .u8 0, .int .u8 0, .string ⟨#[]⟩, .int .i64 0, .int .i64 0, .int .i64 0, .int .i64 0, .int .i64 0] : Value).cells)[i]! := by
  intro i hi
  match i, hi with
  | 0, _ => rfl
  | 1, _ => rfl
  | 2, _ => rfl
  | 3, _ => rfl
  | 4, _ => rfl
  | 5, _ => rfl
  | 6, _ => rfl
  | 7, _ => rfl
  | 8, _ => rfl
  | 9, _ => rfl
  | 10, _ => rfl
  | 11, _ => rfl
  | 12, _ => rfl
  | 13, _ => rfl
  | 14, _ => rfl
  | 15, _ => rfl
  | 16, _ => rfl
  | 17, _ => rfl
  | 18, _ => rfl
  | n + 19, h => omega
 have hsz : (.agg #[.int .u8 0, .int .i64 0, .int .i64 0, .int .i64 0, .int .i64 0, .int .u8 0, .int .u8 0, .int .u8 0, .int .u8 0, .int .u8 0, .int .u8 0, .int .u8 0, .int .u8 0, .string ⟨#[]⟩, .int .i64 0, .int .i64 0, .int .i64 0, .int .i64 0, .int .i64 0] : Value).cells.size = 19 := rfl; rw [flat_get Fl.enc_len (by omega)]
 by_cases hp : p < n * 19
 ·have h1 : p / 19 < n := by omega
  rw [List.getElem?_replicate, if_pos h1]; simp only [Option.bind_some]; rw [hz _ (by omega)]
  have : (madeCells (.agg #[.int .u8 0, .int .i64 0, .int .i64 0, .int .i64 0, .int .i64 0, .int .u8 0, .int .u8 0, .int .u8 0, .int .u8 0, .int .u8 0, .int .u8 0, .int .u8 0, .int .u8 0, .string ⟨#[]⟩, .int .i64 0, .int .i64 0, .int .i64 0, .int .i64 0, .int .i64 0] : Value).cells (n * 19))[p]? = some ((.agg #[.int .u8 0, .int .i64 0, .int .i64 0, .int .i64 0, .int .i64 0, .int .u8 0, .int .u8 0, .int .u8 0, .int .u8 0, .int .u8 0, .int .u8 0, .int .u8 0, .int .u8 0, .string ⟨#[]⟩, .int .i64 0, .int .i64 0, .int .i64 0, .int .i64 0, .int .i64 0] : Value).cells)[p % 19]! := by
   unfold madeCells; rw [Array.getElem?_map, Array.getElem?_range, if_pos hp]; simp only [Option.map_some]; rw [hsz]
  simpa using this
 ·have h1 : ¬ p / 19 < n := by omega
  rw [List.getElem?_replicate, if_neg h1]
  have : (madeCells (.agg #[.int .u8 0, .int .i64 0, .int .i64 0, .int .i64 0, .int .i64 0, .int .u8 0, .int .u8 0, .int .u8 0, .int .u8 0, .int .u8 0, .int .u8 0, .int .u8 0, .int .u8 0, .string ⟨#[]⟩, .int .i64 0, .int .i64 0, .int .i64 0, .int .i64 0, .int .i64 0] : Value).cells (n * 19))[p]? = none := by
   rw [Array.getElem?_eq_none]; rw [size_madeCells]; omega
  simpa using this
theorem make_flats (n : Nat) (hn : n ≤ 16384) (w : World) : (Instr.makeSlice 75 (.int .i64 n) (.int .i64 n)).run Tryz.prog w = .ok (.slice (some ⟨w.heap.size, 0, none⟩) n n) (w.alloc (.cells ((List.replicate n Fl.zero).flatMap Fl.enc).toArray 82)) := by
 obtain ⟨i0, hi, hz0, hz1, hz2⟩ := info_parts infoFl; have h := run_make (P := Tryz.prog) w 75 82 i0 _ Tryz.underlying75 hi hz0 .i64 .i64 n n (by omega) (Int.le_refl _) (by rw [hz2]; omega) (by omega); rw [h, hz1, Int.toNat_natCast, madeCells_fl]
theorem Blk.ownsF {base g : Nat} {w : World} {rs : List Fl} {n : Nat} (h : Blk w g (rs.flatMap Fl.enc) 82) (hn : rs.length = n) (hg : base ≤ g) (hm : n ≤ maxLen) : OwnsF base w (.slice (some ⟨g, 0, none⟩) n n) rs := by
 unfold OwnsF; rw [hn]; refine ⟨by rw [flat_len Fl.enc_len, hn], .inr ⟨g, n, _, rfl, hg, h, Nat.le_refl _, hm, ?_, ?_⟩⟩
 ·simp [flat_len Fl.enc_len, hn]
 ·rw [List.take_of_length_le (by rw [flat_len Fl.enc_len, hn]; omega)]
theorem half_put {D : List Fl} {k n : Nat} {f : Fl} (h : D[k]? = some f) (hn : D.length = n) : (D.take k ++ List.replicate (n - k) Fl.zero).set k f = D.take (k + 1) ++ List.replicate (n - (k + 1)) Fl.zero := by
 obtain ⟨hk, e⟩ := List.getElem?_eq_some_iff.1 h
 have hl : (D.take k).length = k := by simp; omega
 rw [List.set_append, if_neg (by omega), hl, Nat.sub_self, List.take_add_one, h, show n - k = (n - (k + 1)) + 1 by omega, List.replicate_succ, List.set_cons_zero]
 simp
theorem flts_mk {xs : List St} {i : Nat} {s : St} {q : Re} (h1 : (flS xs)[i]? = some s) (h2 : (flR xs)[i]? = some q) : (flts xs)[i]? = some ⟨s, q⟩ := by
 unfold flts fltZ; rw [List.getElem?_zipWith, h1, h2]
theorem flts_bad {xs : List St} (h : chkL xs ≠ 0) : flts xs = [] := by
 unfold flts flS flR; rw [if_neg h, if_neg h]
 rfl
def OutFl (base : Nat) (er : Int) (l : List Fl) (w : World) (e : Ending) (w' : World) : Prop := Below base w w' ∧ ∃ v, e = .returned (.tuple #[v, .int .i64 er]) ∧ OwnsF base w' v l
set_option maxRecDepth 100000 in
theorem flats_any (xs : List St) (v : Value) (w : World) (hl : Row w.heap.size 15 St.enc w v xs) (k1 : ∀ s ∈ xs, s.Wf) : Calls Tryz.prog 89 #[v] w (OutFl w.heap.size (chkL xs) (flts xs) w) := by
 have FL := lflat_any xs v w hl k1; obtain ⟨s0, cap0, rfl, hmax0⟩ := hl.shape; clear hl; obtain ⟨E, hE⟩ := exx (chkL xs)
 have hbad : E ≠ 0 → flts xs = [] := fun h => flts_bad (by rw [hE]; exact h)
 have hlen := chk_len (xs := xs); have hle := fltS_le xs
 have hget := fun i s q => flts_mk (xs := xs) (i := i) (s := s) (q := q)
 have hfl := flts_len xs; have hsr := flsr_len (xs := xs)
 have hS0 : E = 0 → flS xs = fltS xs := fun h => if_pos (hE.trans h)
 rw [hE] at FL hlen ⊢; obtain ⟨S, hS⟩ := exx (flS xs); obtain ⟨R, hR⟩ := exx (flR xs); obtain ⟨D, hD⟩ := exx (flts xs); rw [hS, hR] at FL; rw [hS, hR] at hsr; rw [hS] at hS0; rw [hD] at hbad ⊢; rw [hD, hS] at hfl; rw [hS, hR, hD] at hget; obtain ⟨n, hn⟩ := exx (S.length); rw [hn] at hsr hfl
 have hnb : E = 0 → n ≤ 16384 := fun h => by have := hlen h; rw [← hn, hS0 h]; omega
 obtain ⟨N, hN⟩ := exx (xs.length); rw [hN] at FL ⊢; replace FL := hdh FL; clear hE hlen hle hS hR hD hN hS0; replace hbad := hdh hbad; replace hget := hdh hget; replace hfl := hdh hfl; replace hsr := hdh hsr; replace hn := hdh hn; replace hnb := hdh hnb
 go_enter Tryz.func89, Tryz.ntmps89
 go_upto_region 2 with (go_at_call 36; (with_reducible refine FL.out.mono ?_); rintro e w3 ⟨hb3, vS, vR, rfl, OS, OR, hap⟩; obtain ⟨sS, cS, hvS⟩ := own_slice OS; obtain ⟨sR, cR, hvR⟩ := own_slice OR; rw [hn.out] at hvS; rw [hsr.out] at hvR; subst hvS; subst hvR)
 clear FL hap
 by_cases e0 : E = 0
 ·subst e0
  have hn1 := hnb.out rfl; have z3 := hb3.size; have RS := hdh (OS.row lrr); have RR := hdh (OR.row lrr); clear hbad hnb OS OR
  have hmk := fun w => make_flats n hn1 w
  go_upto_region 5 with fail
  clear hmk; obtain ⟨b7, hb7⟩ := exx (w3.heap.size); obtain ⟨W4, hW4⟩ := exx (w3.alloc (.cells ((List.replicate n Fl.zero).flatMap Fl.enc).toArray 82))
  have B7 : Blk W4 b7 ((D.take 0 ++ List.replicate (n - 0) Fl.zero).flatMap Fl.enc) 82 := by rw [← hW4]; simp only [List.take_zero, List.nil_append, Nat.sub_zero]; exact Blk.new' hb7.symm
  have hb34 : Below w3.heap.size w3 W4 := by rw [← hW4]; exact (Below.refl _ _).alloc lrr _
  rw [hW4, hb7]; clear hW4; replace hb7 := hdh hb7; go_wp2
  go_loopw [24] (fun i wr => ∃ k : Nat, k ≤ n ∧ i = .int .i64 k ∧ Blk wr b7 ((D.take k ++ List.replicate (n - k) Fl.zero).flatMap Fl.enc) 82 ∧ Below w3.heap.size w3 wr) (fun i _ => n - (intOf i).toNat)
  case atStart => exact ⟨0, Nat.zero_le _, rfl, B7, hb34⟩
  case round =>
   obtain ⟨k, hk, rfl, BD, hbr⟩ := hrel; have zr := hbr.size
   by_cases hkn : k < n
   ·obtain ⟨bS, oS, cS', e, hbS, _, _, helS⟩ := row_st (RS.out.below hbr) (by rw [hn.out]; omega)
    rw [hn.out] at e
    simp at e
    obtain ⟨rfl, rfl⟩ := e; obtain ⟨bR, oR, cR', e, hbR, _, _, helR⟩ := row_re (RR.out.below hbr) (by rw [hsr.out]; omega); rw [hsr.out] at e
    simp at e
    obtain ⟨rfl, rfl⟩ := e; obtain ⟨s, hs⟩ := get_at hn.out hkn; obtain ⟨q, hq⟩ := get_at hsr.out hkn; obtain ⟨g0, g1, g2, g3, g4, g5, g6, g7, g8, g9, g10, g11, g12, g13, g14⟩ := helS k s hs; have hd := hget.out k s q hs hq
    have hkk : (k : Int) < n := by omega
    have yb7 := BD.lt; have fz := BD.free; replace BD := hdh BD; replace hd := hdh hd
    have yS : bS < wr.heap.size := by omega
    have yR : bR < wr.heap.size := by omega
    go_upto_region 8 with fail
    clear g0 g1 g2 g3 g4 g5 g6 g7 g8 g9 g10 g11 g12 g13 g14 helS hs; obtain ⟨j0, j1, j2, j3⟩ := helR k q hq; clear helR hq; obtain ⟨W5, hW5⟩ := exx (wr.alloc (.cells #[.int .u8 (s).kind, .int .i64 (s).rect.x, .int .i64 (s).rect.y, .int .i64 (s).rect.wd, .int .i64 (s).rect.ht, .int .u8 (s).col.r, .int .u8 (s).col.g, .int .u8 (s).col.b, .int .u8 (s).col.a, .int .u8 (s).back.r, .int .u8 (s).back.g, .int .u8 (s).back.b, .int .u8 (s).back.a, .string (s).text, .int .i64 (s).node] 36)); obtain ⟨b9, hb9⟩ := exx (wr.heap.size)
    have B9 : Blk W5 b9 [.int .u8 (s).kind, .int .i64 (s).rect.x, .int .i64 (s).rect.y, .int .i64 (s).rect.wd, .int .i64 (s).rect.ht, .int .u8 (s).col.r, .int .u8 (s).col.g, .int .u8 (s).col.b, .int .u8 (s).col.a, .int .u8 (s).back.r, .int .u8 (s).back.g, .int .u8 (s).back.b, .int .u8 (s).back.a, .string (s).text, .int .i64 (s).node] 36 := by rw [← hW5]; exact Blk.new' hb9.symm
    have hb5 : Below wr.heap.size wr W5 := by rw [← hW5]; exact (Below.refl _ _).alloc lrr _
    rw [hW5, hb9]; clear hW5; have BD5 := BD.out.below hb5 yb7; have z5 := hb5.size; have c0 := B9.cell (o := 0) rfl; have c1 := B9.cell (o := 1) rfl; have c2 := B9.cell (o := 2) rfl; have c3 := B9.cell (o := 3) rfl; have c4 := B9.cell (o := 4) rfl; have c5 := B9.cell (o := 5) rfl; have c6 := B9.cell (o := 6) rfl; have c7 := B9.cell (o := 7) rfl; have c8 := B9.cell (o := 8) rfl; have c9 := B9.cell (o := 9) rfl; have c10 := B9.cell (o := 10) rfl; have c11 := B9.cell (o := 11) rfl; have c12 := B9.cell (o := 12) rfl; have c13 := B9.cell (o := 13) rfl; have c14 := B9.cell (o := 14) rfl; have cl := B9.lt
    have y5S : bS < W5.heap.size := by omega
    have y5R : bR < W5.heap.size := by omega
    have y57 : b7 < W5.heap.size := by omega
    have j0 := ((bcell hb5).1 bR _ yR).trans j0; have j1 := ((bcell hb5).1 bR _ yR).trans j1; have j2 := ((bcell hb5).1 bR _ yR).trans j2; have j3 := ((bcell hb5).1 bR _ yR).trans j3; have hfz : ∀ o, W5.frozen? ⟨b7, o, none⟩ = false := BD5.free; replace BD5 := hdh BD5; clear fz B9; refine wp_region_steady_then (Held W5 0 []) 9 (by kernel_rfl) (by kernel_rfl) (by decide) (by kernel_rfl) (by kernel_rfl) ⟨belt, (by (try simp) <;> omega), (by first | exact trivial | (simp only [Cells]; go_simp))⟩ ?_; simp only [List.take_succ_cons, List.take_zero]
    repeat (first | (refine' sdo ?_; simp only [pu]) | (refine spa ?_; simp only [pu]))
    refine wpSteady_nil (fun uA hSA => ?_); obtain ⟨hcA, hbA, hzA, hcoA, hfoA⟩ := hall hSA; clear hSA; simp only [Cells] at hcA; simp only [List.drop_succ_cons, List.drop_zero, List.drop_nil]
    have hfA : ∀ o, uA.frozen? ⟨b7, o, none⟩ = false := fun o => (hfoA b7 o y57).trans (hfz o)
    have BDA := BD5.out.below hbA y57
    have hlD : ((D.take k ++ List.replicate (n - k) Fl.zero).flatMap Fl.enc).length = n * 19 := by
     rw [flat_len Fl.enc_len, List.length_append, List.length_take, List.length_replicate, hfl.out]
     congr 1
     omega
    have TH := BDA.there (o := k * 19) (n := 19) (by rw [hlD]; omega); have HZ := blk_putV Fl.enc_len (k := k) ⟨s, q⟩ BDA (by rw [List.length_append, List.length_take, List.length_replicate, hfl.out]; omega); rw [half_put hd.out hfl.out] at HZ; have hbZ : Below w3.heap.size w3 (uA.setCells b7 (k * 19) (Fl.enc ⟨s, q⟩)) := setCells_below (by have := hb7.out; omega) _ _ ((hbr.trans (hb5.mono zr)).trans (hbA.mono (by omega))); refine wpList_store_mid rfl 82 _ _ rfl b7 (k * 19) (Fl.enc ⟨s, q⟩).toArray rfl rfl TH (by kernel_rfl) (all_oneCell_toArray (Fl.enc_one _)) ?_; rw [show (Fl.enc ⟨s, q⟩).toArray.toList = Fl.enc ⟨s, q⟩ from rfl]
    generalize uA.setCells b7 (k * 19) (Fl.enc ⟨s, q⟩) = wZ at HZ hbZ ⊢; clear TH BDA; replace HZ := hdh HZ; replace hbZ := hdh hbZ
    (try simp only [pu])
    go_wp2; go_roundw
    case rel => exact ⟨k + 1, by omega, by go_num, HZ.out, hbZ.out⟩
    case measure => simp [intOf]; omega
   ·obtain rfl : k = n := by omega
    have e1 : D.take k = D := List.take_of_length_le (by rw [hfl.out]; exact Nat.le_refl _); rw [e1, Nat.sub_self, List.replicate_zero, List.append_nil] at BD; have hbw := hb3.trans (hbr.mono z3); have hown : OwnsF w.heap.size wr (.slice (some ⟨b7, 0, none⟩) k k) D := Blk.ownsF BD hfl.out (by have := hb7.out; omega) (by unfold maxLen; omega); replace BD := hdh BD; replace hown := hdh hown; go_wp2; go_ret2; exact ⟨hbw, _, rfl, hown.out⟩
 ·have e1 : (E != 0) = true := by simpa using e0
  have hD0 := hbad.out e0; subst hD0; clear OS OR; go_wp2; go_ret2; exact ⟨hb3, _, rfl, OwnsF.nil _ _⟩
def plainR (q : Re) : Re := if emptyR q then Re.none else q
def joinR (a b : Re) : Re := if emptyR a then plainR b else if emptyR b then a else fromR (min a.x b.x) (min a.y b.y) (max (a.x + a.wd) (b.x + b.wd)) (max (a.y + a.ht) (b.y + b.ht))
theorem empty_iff {q : Re} (h : mayR q = true) : emptyR q = true ↔ q.wd = 0 ∨ q.ht = 0 := by
 rw [empty_none h]; unfold noneR
 simp
theorem full_mk {q : Re} (h : mayR q = true) (hw : 0 < q.wd) (hh : 0 < q.ht) : emptyR q = false := by
 cases he : emptyR q
 ·rfl
 ·have := (empty_iff h).1 he
  omega
theorem join_full {a b : Re} (ha : emptyR a = false) (hb : emptyR b = false) : joinR a b = ⟨min a.x b.x, min a.y b.y, max (a.x + a.wd) (b.x + b.wd) - min a.x b.x, max (a.y + a.ht) (b.y + b.ht) - min a.y b.y⟩ ∧ emptyR (joinR a b) = false := by
 obtain ⟨ma, a1, a2⟩ := full_bd ha; obtain ⟨mb, b1, b2⟩ := full_bd hb; have p1 := may_bd ma; have p2 := may_bd mb; have p3 := may_sum ma; have p4 := may_sum mb
 have e : joinR a b = ⟨min a.x b.x, min a.y b.y, max (a.x + a.wd) (b.x + b.wd) - min a.x b.x, max (a.y + a.ht) (b.y + b.ht) - min a.y b.y⟩ := by
  unfold joinR; rw [ha, hb]; simp only [Bool.false_eq_true, if_false]; unfold fromR; rw [if_neg (by omega)]
 refine ⟨e, ?_⟩; rw [e]
 apply full_mk
 ·apply may_of
  simp only; omega
 ·simp only; omega
 ·simp only; omega
theorem join_none (q : Re) (h : emptyR q = false) : joinR Re.none q = q := by
 unfold joinR plainR; rw [Re.none_empty, h]
 rfl
theorem join_self {q : Re} (h : emptyR q = false) : joinR q q = q := by
 rw [(join_full h h).1]; obtain ⟨x, y, w, t⟩ := q; obtain ⟨_, a1, a2⟩ := full_bd h; simp only at a1 a2; simp only [Re.mk.injEq]; omega
theorem join_ok {a b : Re} (ha : a = Re.none ∨ emptyR a = false) (hb : emptyR b = false) : emptyR (joinR a b) = false := by
 rcases ha with rfl | ha
 ·rw [join_none b hb]; exact hb
 ·exact (join_full ha hb).2
theorem join_has {a b : Re} (ha : a = Re.none ∨ emptyR a = false) (hb : emptyR b = false) {x y : Int} (h : hasR a x y = true ∨ hasR b x y = true) : hasR (joinR a b) x y = true := by
 rcases ha with rfl | ha
 ·rw [join_none b hb]
  rcases h with h | h
  ·have := has_bd.1 h
   simp only [Re.none] at this; omega
  ·exact h
 ·rw [(join_full ha hb).1, has_bd]
  rw [has_bd, has_bd] at h; simp only; omega
def abtR (l : List Re) : Re := l.foldl joinR Re.none
theorem abt_go : ∀ (l : List Re) (o : Re), (o = Re.none ∨ emptyR o = false) → (∀ q ∈ l, emptyR q = false) → (l = [] ∨ emptyR (l.foldl joinR o) = false) ∧ ∀ x y, (hasR o x y = true ∨ hasL l x y = true) → hasR (l.foldl joinR o) x y = true
 | [], o, _, _ => ⟨.inl rfl, fun x y h => by
   rcases h with h | h
   ·exact h
   ·cases h⟩
 | q :: l, o, ho, hl => by
  have hq := hl q (by simp); have hj := join_ok ho hq; obtain ⟨h1, h2⟩ := abt_go l (joinR o q) (.inr hj) (fun p hp => hl p (List.mem_cons_of_mem _ hp)); rw [List.foldl_cons]; refine ⟨.inr ?_, fun x y h => h2 x y ?_⟩
  ·rcases h1 with rfl | h1
   ·exact hj
   ·exact h1
  ·have e : hasL (q :: l) x y = (hasR q x y || hasL l x y) := rfl
   rw [e, Bool.or_eq_true] at h
   rcases h with h | h | h
   ·exact .inl (join_has ho hq (.inl h))
   ·exact .inl (join_has ho hq (.inr h))
   ·exact .inr h
def tldL (l : List Re) : List Re := if bothE l [] 1 = 0 then bothL l [] 1 else [abtR l]
theorem askR_one {l : List Re} : askR l [] = chkR l := by
 unfold askR
 split
 ·rename_i h; rw [h]; rfl
 ·rfl
theorem tld_has {l : List Re} (hl : ∀ q ∈ l, emptyR q = false) (x y : Int) (h : hasL l x y = true) : hasL (tldL l) x y = true := by
 unfold tldL
 split
 ·rename_i h0
  rw [bothL_has h0]; exact h
 ·have := (abt_go l Re.none (.inl rfl) hl).2 x y (.inr h)
  show hasL [abtR l] x y = true
  unfold hasL
  simpa [abtR] using this
theorem tld_not {l : List Re} (hl : ∀ q ∈ l, emptyR q = false) {x y : Int} (h : hasL (tldL l) x y = false) : hasL l x y = false := by
 cases hh : hasL l x y
 ·rfl
 ·rw [tld_has hl x y hh] at h; cases h
theorem bothE_of {l : List Re} (hm : MayL l) : bothE l [] 1 = if l.length > 1024 then 4 else if (formR l [] 1).length > 1024 then 4 else 0 := by
 unfold bothE; rw [askR_one]; unfold chkR
 by_cases h : 1024 < l.length
 ·rw [if_pos h, if_pos h]; rfl
 ·rw [if_neg h, if_neg h, if_pos (List.all_eq_true.2 hm), if_pos rfl]; rfl
theorem pie_full {f : Fl} (h : f.Ok) : ∀ q ∈ pieL f, emptyR q = false := by
 intro q hq
 have hf : emptyR f.r = false ∨ f.r.eqb Re.none = true := by
  rcases h.2.2.2.2.1 with e | e
  ·exact .inr (_root_.Go.Proofs.YtfcphagmjijmkaaGreatDoor.eqb_iff.2 e)
  ·exact .inl e
 unfold pieL plcL at hq
 split at hq
 ·simp at hq
 ·rename_i h1
  simp only [Bool.or_eq_true, not_or, Bool.not_eq_true] at h1
  have hr : emptyR f.r = false := by
   rcases hf with e | e
   ·exact e
   ·rw [e] at h1; cases h1.1
  split at hq
  ·split at hq
   ·simp at hq
   ·simp at hq; rw [hq]; exact hr
  ·split at hq
   ·simp at hq
   ·split at hq
    ·simp at hq; rw [hq]; exact hr
    ·unfold meets at hq
     obtain ⟨hm, hn⟩ := List.mem_filter.1 hq; obtain ⟨p, _, rfl⟩ := List.mem_map.1 hm; rw [meet_em]
     simpa using hn
theorem pies_full {l : List Fl} (h : ∀ f ∈ l, f.Ok) : ∀ q ∈ l.flatMap pieL, emptyR q = false := by
 intro q hq
 obtain ⟨f, hf, hq⟩ := List.mem_flatMap.1 hq; exact pie_full (h f hf) q hq
theorem pieA_full {a b : List Fl} (ha : ∀ f ∈ a, f.Ok) (hb : ∀ f ∈ b, f.Ok) : ∀ q ∈ pieA a b, emptyR q = false := by
 obtain ⟨p, q, h1, h2⟩ := mid_spec a b
 intro r hr
 unfold pieA at hr
 rcases List.mem_append.1 hr with hr | hr
 ·exact pies_full (fun f hf => ha f (by rw [h1]; simp [hf])) r hr
 ·exact pies_full (fun f hf => hb f (by rw [h2]; simp [hf])) r hr
/-! ### the damage of two lists -/
def dmgE (xs ys : List St) : Int := if chkL xs = 0 then chkL ys else chkL xs
def dmgL (xs ys : List St) : List Re := if dmgE xs ys = 0 then tldL (pieA (flts xs) (flts ys)) else []
theorem dmgE_zero {xs ys : List St} (h : dmgE xs ys = 0) : chkL xs = 0 ∧ chkL ys = 0 := by
 unfold dmgE at h
 split at h
 ·exact ⟨by assumption, h⟩
 ·contradiction
theorem dmg_self (xs : List St) : dmgL xs xs = [] := by
 unfold dmgL
 split
 ·unfold pieA
  rw [mid_self]
  rfl
 ·rfl
theorem dmg_out {xs ys : List St} (h : dmgE xs ys = 0) (hx : ∀ s ∈ xs, s.Wf) (hy : ∀ s ∈ ys, s.Wf) {x y : Int} (hn : hasL (dmgL xs ys) x y = false) : atL xs x y = atL ys x y := by
 obtain ⟨c1, c2⟩ := dmgE_zero h; have o1 := flts_ok c1 hx; have o2 := flts_ok c2 hy; unfold dmgL at hn; rw [if_pos h] at hn; rw [at_flts c1, at_flts c2]; exact pnt_mid o1 o2 (tld_not (pieA_full o1 o2) hn)
theorem draw_out {wd ht : Int} {cs : List Ce} {xs ys : List St} (h1 : drawE wd ht cs xs = 0) (h2 : drawE wd ht cs ys = 0) (hx : ∀ s ∈ xs, s.Wf) (hy : ∀ s ∈ ys, s.Wf) {k : Nat} (hn : hasL (dmgL xs ys) ((k % wd.toNat : Nat) : Int) ((k / wd.toNat : Nat) : Int) = false) :
  (drawC glyS wd ht cs xs)[k]? = (drawC glyS wd ht cs ys)[k]? := by
 have c1 : chkL xs = 0 := by
  unfold drawE at h1
  split at h1
  ·exact h1
  ·cases h1
 have c2 : chkL ys = 0 := by
  unfold drawE at h2
  split at h2
  ·exact h2
  ·cases h2
 have hd : dmgE xs ys = 0 := by unfold dmgE; rw [if_pos c1, c2]
 cases hc : cs[k]? with
 | some c => rw [draw_at h1 hx hc, draw_at h2 hy hc, dmg_out hd hx hy hn]
 | none =>
  have hl : cs.length ≤ k := by simpa using hc
  rw [List.getElem?_eq_none (by rw [draw_len h1]; exact hl), List.getElem?_eq_none (by rw [draw_len h2]; exact hl)]
theorem tld_may {l : List Re} (hm : MayL l) (he : ∀ q ∈ l, emptyR q = false) : MayL (tldL l) ∧ (tldL l).length ≤ 1024 := by
 unfold tldL
 split
 ·exact both_may hm
 ·rename_i h0
  refine ⟨fun q hq => ?_, by simp⟩
  simp at hq
  rw [hq]
  rcases (abt_go l Re.none (.inl rfl) he).1 with rfl | h
  ·decide
  ·exact (full_bd h).1
theorem dmg_may {xs ys : List St} (hx : ∀ s ∈ xs, s.Wf) (hy : ∀ s ∈ ys, s.Wf) : MayL (dmgL xs ys) ∧ (dmgL xs ys).length ≤ 1024 := by
 unfold dmgL
 split
 ·rename_i h
  obtain ⟨c1, c2⟩ := dmgE_zero h; exact tld_may (pieA_may (flts_ok c1 hx) (flts_ok c2 hy)) (pieA_full (flts_ok c1 hx) (flts_ok c2 hy))
 ·exact ⟨mayL_nil, by simp⟩
end Go.Proofs.YtfcphagmjijmkaaGreatDoor
