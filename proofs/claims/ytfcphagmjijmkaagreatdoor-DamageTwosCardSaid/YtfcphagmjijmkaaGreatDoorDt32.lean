/-
  Damage: how often each flat stroke stands in a map.
-/
import Derived.DeepKeys4
import Derived.IntWalk
import Derived.Maps.Own
import Derived.Maps.OwnOps
import Derived.Maps.OwnSet
import Derived.Maps.RangeWalk
import Derived.WideKeyEntry
import Derived.Test.YtfcphagmjijmkaaGreatDoorDt27
namespace Go.Proofs.YtfcphagmjijmkaaGreatDoor
open Go.RowKit
set_option linter.unusedVariables false
set_option linter.unusedSimpArgs false
attribute [local go_sem] vwp vUpon_value vUpon_skip vUpon_enter vUpon_row
set_option maxHeartbeats 16000000
section
open Go.Maps
theorem laid_outD : laidOutB Tryz.prog = true := by kernel_rfl
theorem row_flD : (82 : TypeId) < Tryz.prog.types.size := of_decide_eq_true (by kernel_rfl)
theorem wide_flat : (match Tryz.prog.underlying 82 with | some (.array _ _) | some (.struct _) => true | _ => false) = true := by kernel_rfl
set_option maxRecDepth 100000 in
theorem lawFK : WideMaps.KeyLaw Tryz.prog 82 := deep_law_laid laid_outD (m := 6) (by omega) row_flD (by kernel_rfl) wide_flat
theorem lawF : Keyed Tryz.prog 82 := Keyed.of_law lawFK
def Fl.Wf (f : Fl) : Prop := f.s.Wf ∧ f.r.Wf
noncomputable def kF (f : Fl) : Lit := (keyOf Tryz.prog 82 f.val).getD .nil
/-! ### what a flat stroke reads as -/
theorem lits_int {P : Program} {d : Nat} {t : TypeId} {q : IntKind} {n : Int} (hu : P.underlying t = some (.int q)) (hw : (Lit.int q n).wf = true) : ∃ L, P.keyLits (d + 1) t [.int q n] = some L :=
 ⟨[.int q n], by simp [Program.keyLits, hu, hw]⟩
theorem lits_str {P : Program} {d : Nat} {t : TypeId} {s : ByteArray} (hu : P.underlying t = some .string) (hw : s.size ≤ maxLen) : ∃ L, P.keyLits (d + 1) t [.string s] = some L :=
 ⟨[.string s.data.toList], by simp [Program.keyLits, hu, hw]⟩
theorem mapM_some {α β : Type} {f : α → Option β} : ∀ {l : List α}, (∀ a ∈ l, ∃ b, f a = some b) → ∃ m, l.mapM f = some m
 | [], _ => ⟨[], rfl⟩
 | a :: l, h => by
  obtain ⟨b, hb⟩ := h a (List.mem_cons_self ..); obtain ⟨m, hm⟩ := mapM_some (l := l) (fun x hx => h x (List.mem_cons_of_mem _ hx)); exact ⟨b :: m, by simp [List.mapM_cons, hb, hm]⟩
theorem lits_struct {P : Program} {d : Nat} {t : TypeId} {fs : Array Field} {cs : List Value} (hu : P.underlying t = some (.struct fs)) (hl : cs.length = P.cellsOf t) (hn : fs.all (·.name != "_") = true)
  (h : ∀ f ∈ fs.toList, ∃ L, P.keyLits d f.type ((cs.drop f.offset).take (P.cellsOf f.type)) = some L) : ∃ L, P.keyLits (d + 1) t cs = some L := by
 obtain ⟨m, hm⟩ := mapM_some h; refine ⟨m.flatten, ?_⟩; unfold Program.keyLits; simp only [hu]; rw [if_pos ⟨hl, hn⟩, hm]
 rfl
theorem u8_wf {a : Int} (h : U8 a) : (Lit.int .u8 a).wf = true := by
 unfold U8 at h
 have e1 : IntKind.min .u8 = 0 := by decide
 have e2 : IntKind.max .u8 = 255 := by decide
 simp only [Lit.wf, e1, e2, Bool.and_eq_true, decide_eq_true_eq]; exact h
theorem i64_wf {a : Int} (h : I64 a) : (Lit.int .i64 a).wf = true := WalkArith.wf_i64 (by have := h.1; have := h.2; omega)
theorem keyF {f : Fl} (h : f.Wf) : keyOf Tryz.prog 82 f.val = some (kF f) := by
 have : ∃ l, keyOf Tryz.prog 82 f.val = some l := by
  obtain ⟨⟨h0, ⟨h1, h2, h3, h4⟩, ⟨h5, h6, h7, h8⟩, ⟨h9, h10, h11, h12⟩, h13, h14⟩, ⟨h15, h16, h17, h18⟩⟩ := h; obtain ⟨⟨k, ⟨x, y, wd, ht⟩, ⟨c0, c1, c2, c3⟩, ⟨d0, d1, d2, d3⟩, t, n⟩, ⟨q0, q1, q2, q3⟩⟩ := f; simp only at h0 h1 h2 h3 h4 h5 h6 h7 h8 h9 h10 h11 h12 h13 h14 h15 h16 h17 h18; have U := Tryz.underlying82
  have K1 : Tryz.prog.keyType 82 = true := by kernel_rfl
  have z : Tryz.prog.cellsOf 82 = 19 := by kernel_rfl
  have K3 : ∃ L, Tryz.prog.keyLits (Tryz.prog.types.size + 1) 82 [.int .u8 k, .int .i64 x, .int .i64 y, .int .i64 wd, .int .i64 ht, .int .u8 c0, .int .u8 c1, .int .u8 c2, .int .u8 c3, .int .u8 d0, .int .u8 d1, .int .u8 d2, .int .u8 d3, .string t, .int .i64 n, .int .i64 q0, .int .i64 q1, .int .i64 q2, .int .i64 q3] = some L := by
   obtain ⟨d, hd⟩ : ∃ d, Tryz.prog.types.size + 1 = d + 6 := ⟨Tryz.prog.types.size - 5, by have : 6 ≤ Tryz.prog.types.size := of_decide_eq_true (by kernel_rfl); omega⟩; rw [hd]
   have zi : Tryz.prog.cellsOf 3 = 1 := by kernel_rfl
   have z8 : Tryz.prog.cellsOf 5 = 1 := by kernel_rfl
   have zt : Tryz.prog.cellsOf 9 = 1 := by kernel_rfl
   have zp : Tryz.prog.cellsOf 30 = 2 := by kernel_rfl
   have zz : Tryz.prog.cellsOf 24 = 2 := by kernel_rfl
   have zr : Tryz.prog.cellsOf 32 = 4 := by kernel_rfl
   have zc : Tryz.prog.cellsOf 34 = 4 := by kernel_rfl
   have zs : Tryz.prog.cellsOf 36 = 15 := by kernel_rfl
   have pt : ∀ e x y, I64 x → I64 y → ∃ L, Tryz.prog.keyLits (e + 2) 30 [.int .i64 x, .int .i64 y] = some L := fun e x y hx hy => by
    refine lits_struct Tryz.underlying30 (by kernel_rfl) (by kernel_rfl) ?_; intro f hf; simp only [List.mem_cons, List.not_mem_nil, or_false] at hf
    rcases hf with rfl | rfl
    ·(rw [show Tryz.prog.cellsOf _ = 1 from zi]; exact lits_int Tryz.underlying3 (i64_wf hx))
    ·(rw [show Tryz.prog.cellsOf _ = 1 from zi]; exact lits_int Tryz.underlying3 (i64_wf hy))
   have sz : ∀ e x y, I64 x → I64 y → ∃ L, Tryz.prog.keyLits (e + 2) 24 [.int .i64 x, .int .i64 y] = some L := fun e x y hx hy => by
    refine lits_struct Tryz.underlying24 (by kernel_rfl) (by kernel_rfl) ?_; intro f hf; simp only [List.mem_cons, List.not_mem_nil, or_false] at hf
    rcases hf with rfl | rfl
    ·(rw [show Tryz.prog.cellsOf _ = 1 from zi]; exact lits_int Tryz.underlying3 (i64_wf hx))
    ·(rw [show Tryz.prog.cellsOf _ = 1 from zi]; exact lits_int Tryz.underlying3 (i64_wf hy))
   have re : ∀ e x y a b, I64 x → I64 y → I64 a → I64 b → ∃ L, Tryz.prog.keyLits (e + 3) 32 [.int .i64 x, .int .i64 y, .int .i64 a, .int .i64 b] = some L := fun e x y a b hx hy ha hb => by
    refine lits_struct Tryz.underlying32 (by kernel_rfl) (by kernel_rfl) ?_; intro f hf; simp only [List.mem_cons, List.not_mem_nil, or_false] at hf
    rcases hf with rfl | rfl
    ·rw [show Tryz.prog.cellsOf _ = 2 from zp]; exact pt e x y hx hy
    ·rw [show Tryz.prog.cellsOf _ = 2 from zz]; exact sz e a b ha hb
   have co : ∀ e x y a b, U8 x → U8 y → U8 a → U8 b → ∃ L, Tryz.prog.keyLits (e + 2) 34 [.int .u8 x, .int .u8 y, .int .u8 a, .int .u8 b] = some L := fun e x y a b hx hy ha hb => by
    refine lits_struct Tryz.underlying34 (by kernel_rfl) (by kernel_rfl) ?_; intro f hf; simp only [List.mem_cons, List.not_mem_nil, or_false] at hf
    rcases hf with rfl | rfl | rfl | rfl
    ·(rw [show Tryz.prog.cellsOf _ = 1 from z8]; exact lits_int Tryz.underlying5 (u8_wf hx))
    ·(rw [show Tryz.prog.cellsOf _ = 1 from z8]; exact lits_int Tryz.underlying5 (u8_wf hy))
    ·(rw [show Tryz.prog.cellsOf _ = 1 from z8]; exact lits_int Tryz.underlying5 (u8_wf ha))
    ·(rw [show Tryz.prog.cellsOf _ = 1 from z8]; exact lits_int Tryz.underlying5 (u8_wf hb))
   have st : ∃ L, Tryz.prog.keyLits (d + 5) 36 [.int .u8 k, .int .i64 x, .int .i64 y, .int .i64 wd, .int .i64 ht, .int .u8 c0, .int .u8 c1, .int .u8 c2, .int .u8 c3, .int .u8 d0, .int .u8 d1, .int .u8 d2, .int .u8 d3, .string t, .int .i64 n] = some L := by
    refine lits_struct Tryz.underlying36 (by kernel_rfl) (by kernel_rfl) ?_; intro f hf; simp only [List.mem_cons, List.not_mem_nil, or_false] at hf
    rcases hf with rfl | rfl | rfl | rfl | rfl | rfl
    ·(rw [show Tryz.prog.cellsOf _ = 1 from z8]; exact lits_int Tryz.underlying5 (u8_wf h0))
    ·rw [show Tryz.prog.cellsOf _ = 4 from zr]; exact re (d + 1) x y wd ht h1 h2 h3 h4
    ·rw [show Tryz.prog.cellsOf _ = 4 from zc]; exact co (d + 2) c0 c1 c2 c3 h5 h6 h7 h8
    ·rw [show Tryz.prog.cellsOf _ = 4 from zc]; exact co (d + 2) d0 d1 d2 d3 h9 h10 h11 h12
    ·rw [show Tryz.prog.cellsOf _ = 1 from zt]; exact lits_str Tryz.underlying9 h13
    ·(rw [show Tryz.prog.cellsOf _ = 1 from zi]; exact lits_int Tryz.underlying3 (i64_wf h14))
   refine lits_struct Tryz.underlying82 (by kernel_rfl) (by kernel_rfl) ?_; intro f hf; simp only [List.mem_cons, List.not_mem_nil, or_false] at hf
   rcases hf with rfl | rfl
   ·rw [show Tryz.prog.cellsOf _ = 15 from zs]; exact st
   ·rw [show Tryz.prog.cellsOf _ = 4 from zr]; exact re (d + 2) q0 q1 q2 q3 h15 h16 h17 h18
  obtain ⟨L, hL⟩ := K3; refine ⟨.string (keyBytes L), ?_⟩; unfold keyOf; rw [U]; simp only [K1, Bool.true_and]; rw [if_pos (by simp [Value.formed, U, z, Fl.val, Fl.enc, St.enc, Re.enc, Co.enc])]; have hv : (Fl.val ⟨⟨k, ⟨x, y, wd, ht⟩, ⟨c0, c1, c2, c3⟩, ⟨d0, d1, d2, d3⟩, t, n⟩, ⟨q0, q1, q2, q3⟩⟩).cells.toList = [.int .u8 k, .int .i64 x, .int .i64 y, .int .i64 wd, .int .i64 ht, .int .u8 c0, .int .u8 c1, .int .u8 c2, .int .u8 c3, .int .u8 d0, .int .u8 d1, .int .u8 d2, .int .u8 d3, .string t, .int .i64 n, .int .i64 q0, .int .i64 q1, .int .i64 q2, .int .i64 q3] := rfl; rw [hv, hL]
  rfl
 obtain ⟨l, hl⟩ := this; unfold kF; rw [hl]
 rfl
theorem enc_fl {f g : Fl} (h : f.enc = g.enc) : f = g := by
 obtain ⟨⟨k, ⟨x, y, wd, ht⟩, ⟨c0, c1, c2, c3⟩, ⟨b0, b1, b2, b3⟩, t, n⟩, ⟨q0, q1, q2, q3⟩⟩ := f; obtain ⟨⟨k', ⟨x', y', wd', ht'⟩, ⟨c0', c1', c2', c3'⟩, ⟨b0', b1', b2', b3'⟩, t', n'⟩, ⟨q0', q1', q2', q3'⟩⟩ := g
 simp [Fl.enc, St.enc, Re.enc, Co.enc] at h
 simp [h]
set_option maxRecDepth 100000 in
theorem kF_inj {f g : Fl} (hf : f.Wf) (hg : g.Wf) (h : kF f = kF g) : f = g := by
 have e := lawF.inj (keyF hf) (by rw [h]; exact keyF hg); unfold Fl.val at e
 injection e with e
 exact enc_fl (by simpa using e)
set_option maxRecDepth 100000
theorem key_lit {f : Fl} (h : f.Wf) : WideAt.IsKeyLit (kF f) := by
 have h := keyF h; exact lawF.key h
/-! ### the map -/
def numD (n : Int) : DataW Unit := .lit (.int .i64 n)
def MapIs (D : DataW Unit) (c : Fl → Int) : Prop :=
 (∀ f, f.Wf → D.atKey (kF f) (numD 0) = numD (c f)) ∧ (∀ f, f.Wf → (Maps.has D (kF f) = true ↔ c f ≠ 0)) ∧ ∀ kl, Maps.has D kl = true → ∃ f, f.Wf ∧ kl = kF f
theorem mapIs_nil : MapIs (.map []) fun _ => 0 := ⟨fun f _ => rfl, fun f _ => by simp [Maps.has], fun kl h => by simp [Maps.has] at h⟩
theorem mapIs_ext {D : DataW Unit} {c c' : Fl → Int} (h : MapIs D c) (e : ∀ f, f.Wf → c f = c' f) : MapIs D c' :=
 ⟨fun f hf => by rw [h.1 f hf, e f hf], fun f hf => by rw [h.2.1 f hf, e f hf], h.2.2⟩
def setC (c : Fl → Int) (f : Fl) (n : Int) : Fl → Int := fun g => if g.eqb f then n else c g
theorem setC_same (c : Fl → Int) (f : Fl) (n : Int) : setC c f n f = n := by unfold setC; rw [Fl.eqb_refl]; rfl
theorem setC_other {c : Fl → Int} {f g : Fl} {n : Int} (h : g ≠ f) : setC c f n g = c g := by
 unfold setC; rw [if_neg (fun e => h (Fl.eqb_iff.1 e))]
theorem mapIs_put {D : DataW Unit} {c : Fl → Int} {f : Fl} {n : Int} (h : MapIs D c) (hD : IsMap D) (hf : f.Wf) (hn : n ≠ 0) : MapIs (D.put (kF f) (numD n)) (setC c f n) := by
 have hk := key_lit hf; refine ⟨fun g hg => ?_, fun g hg => ?_, fun kl hkl => ?_⟩
 ·by_cases e : g = f
  ·subst e
   rw [atKey_put_same hD hk, setC_same]
  ·rw [atKey_put_other (fun e' => e (kF_inj hg hf e')), setC_other e]
   exact h.1 g hg
 ·by_cases e : g = f
  ·subst e
   rw [has_put_same hD hk, setC_same]
   simp [hn]
  ·rw [has_put_other (fun e' => e (kF_inj hg hf e')), setC_other e]
   exact h.2.1 g hg
 ·by_cases e : kl = kF f
  ·exact ⟨f, hf, e⟩
  ·rw [has_put_other e] at hkl
   exact h.2.2 kl hkl
theorem mapIs_del {D : DataW Unit} {c : Fl → Int} {f : Fl} {d : DataW Unit} (h : MapIs D c) (hf : f.Wf) : MapIs ((D.put (kF f) d).del (kF f)) (setC c f 0) := by
 refine ⟨fun g hg => ?_, fun g hg => ?_, fun kl hkl => ?_⟩
 ·by_cases e : g = f
  ·subst e
   rw [atKey_del_same, setC_same]
  ·rw [atKey_del_other (fun e' => e (kF_inj hg hf e')), atKey_put_other (fun e' => e (kF_inj hg hf e')), setC_other e]
   exact h.1 g hg
 ·by_cases e : g = f
  ·subst e
   rw [has_del_same, setC_same]
   simp
  ·rw [has_del_other (fun e' => e (kF_inj hg hf e')), has_put_other (fun e' => e (kF_inj hg hf e')), setC_other e]
   exact h.2.1 g hg
 ·by_cases e : kl = kF f
  ·rw [e, has_del_same] at hkl
   cases hkl
  ·rw [has_del_other e, has_put_other e] at hkl
   exact h.2.2 kl hkl
/-! ### its counts -/
theorem cnt_take {l : List Fl} {k : Nat} {f : Fl} (h : l[k]? = some f) (g : Fl) : cntF (l.take (k + 1)) g = cntF (l.take k) g + if g.eqb f then 1 else 0 := by
 rw [List.take_add_one, h, Option.toList_some, cntF_append, cntF_cons, Fl.eqb_comm f g]
 simp [cntF]
def upC (a : List Fl) (k : Nat) : Fl → Int := fun f => cntF (a.take k) f
def downC (a b : List Fl) (k : Nat) : Fl → Int := fun f => cntF a f - cntF (b.take k) f
theorem upC_step {a : List Fl} {k : Nat} {f : Fl} (h : a[k]? = some f) : setC (upC a k) f (upC a k f + 1) = upC a (k + 1) := by
 funext g
 by_cases e : g = f
 ·subst e
  rw [setC_same]; unfold upC; rw [cnt_take h, Fl.eqb_refl]
  simp
 ·rw [setC_other e]
  unfold upC; rw [cnt_take h, if_neg (fun e' => e (Fl.eqb_iff.1 e')), Nat.add_zero]
theorem downC_step {a b : List Fl} {k : Nat} {f : Fl} (h : b[k]? = some f) : setC (downC a b k) f (downC a b k f - 1) = downC a b (k + 1) := by
 funext g
 by_cases e : g = f
 ·subst e
  rw [setC_same]; unfold downC; rw [cnt_take h, Fl.eqb_refl]
  simp
  omega
 ·rw [setC_other e]
  unfold downC; rw [cnt_take h, if_neg (fun e' => e (Fl.eqb_iff.1 e')), Nat.add_zero]
theorem upC_end (a b : List Fl) : upC a a.length = downC a b 0 := by
 funext f
 unfold upC downC; rw [List.take_length]
 simp [cntF]
theorem downC_end (a b : List Fl) (f : Fl) : downC a b b.length f ≠ 0 ↔ cntF a f ≠ cntF b f := by
 unfold downC; rw [List.take_length]; omega
theorem cnt_le (l : List Fl) (f : Fl) : cntF l f ≤ l.length := List.countP_le_length
theorem upC_bd (a : List Fl) (k : Nat) (f : Fl) : 0 ≤ upC a k f ∧ upC a k f ≤ k := by
 unfold upC; have := cnt_le (a.take k) f; rw [List.length_take] at this; omega
theorem downC_bd (a b : List Fl) (k : Nat) (f : Fl) : - k ≤ downC a b k f ∧ downC a b k f ≤ a.length := by
 unfold downC; have := cnt_le (b.take k) f; have := cnt_le a f; rw [List.length_take] at *; omega
/-! ### what has come of the map -/
def ColF (c : Fl → Int) (left : Lit → Bool) (ns : List Int) : Prop := ∀ n, n ∈ ns ↔ ∃ f : Fl, f.Wf ∧ c f ≠ 0 ∧ left (kF f) = false ∧ f.s.node = n
theorem colF_start {D : DataW Unit} {c : Fl → Int} (h : MapIs D c) : ColF c (Maps.has D) [] := fun n => by
 constructor
 ·intro h'; cases h'
 ·rintro ⟨f, hf, h1, h2, _⟩
  rw [(h.2.1 f hf).2 h1] at h2
  cases h2
theorem sameKey_is {a b : Lit} (hb : WideAt.IsKeyLit b) : a.sameKey b = true ↔ a = b := by
 constructor
 ·intro h
  exact Classical.byContradiction fun e => by rw [sameKey_ne e] at h; cases h
 ·rintro rfl
  cases a <;> simp_all [Lit.sameKey, WideAt.IsKeyLit]
theorem colF_step {c : Fl → Int} {left : Lit → Bool} {ns : List Int} {f : Fl} (h : ColF c left ns) (hf : f.Wf) (hc : c f ≠ 0) (hl : left (kF f) = true) :
  ColF c (fun z => left z && !z.sameKey (kF f)) (ns ++ [f.s.node]) := fun n => by
 have hk := key_lit hf; rw [List.mem_append, h n, List.mem_singleton]
 constructor
 ·rintro (⟨g, hg, h1, h2, h3⟩ | e)
  ·exact ⟨g, hg, h1, by simp only [h2, Bool.false_and], h3⟩
  ·exact ⟨f, hf, hc, by simp only [(sameKey_is hk).2 rfl, Bool.not_true, Bool.and_false], e.symm⟩
 ·rintro ⟨g, hg, h1, h2, h3⟩
  by_cases e : g = f
  ·subst e; exact .inr h3.symm
  ·refine .inl ⟨g, hg, h1, ?_, h3⟩
   have : (kF g).sameKey (kF f) = false := sameKey_ne fun e' => e (kF_inj hg hf e')
   simp only [this, Bool.not_false, Bool.and_true] at h2; exact h2
theorem colF_end {a b : List Fl} {left : Lit → Bool} {ns : List Int} (h : ColF (downC a b b.length) left ns) (hl : ∀ k, left k = false) (ha : ∀ f ∈ a, f.Wf) (hb : ∀ f ∈ b, f.Wf) {l : List Int} (hr : Rise l) (hm : ∀ x, x ∈ l ↔ x ∈ ns) : l = nodL a b :=
 nod_unique ⟨hr, fun n => by
  rw [hm, h n]
  constructor
  ·rintro ⟨f, _, h1, _, h3⟩
   exact ⟨f, (downC_end a b f).1 h1, h3⟩
  ·rintro ⟨f, h1, h3⟩
   refine ⟨f, ?_, (downC_end a b f).2 h1, hl _, h3⟩
   by_cases c : f ∈ a
   ·exact ha f c
   ·refine hb f (cntF_pos.1 ?_)
    have : ¬ 0 < cntF a f := fun h => c (cntF_pos.1 h)
    omega⟩ (nod_is a b)
end
section
open Go.ChangeShapes Go.WideShapes Go.MapKept Go.ChangeMaps Go.WideElems
open Go.WideMaps (KeyLaw)
section
variable {H : Type} {P : Program} {w : World} {t k e : TypeId} {R : Value → Option (DataW H × List MemPlace)} {b : Nat} {es : Array MapEntry} {clock : Nat}
theorem modify_same (es : Array MapEntry) (j : Nat) (e0 : MapEntry) (hj : es[j]? = some e0) (f : MapEntry → MapEntry) (hf : f e0 = e0) : es.modify j f = es := by
 apply Array.ext'
 rw [Array.toList_modify]
 apply List.ext_getElem?
 intro i
 rw [List.getElem?_modify]
 by_cases c : j = i
 ·subst c
  have : es.toList[j]? = some e0 := by simpa using hj
  rw [this]
  simp [hf]
 ·simp [c]
theorem entry_look (K : KeyLaw P k) (ht : P.underlying t = some (.map k e)) {z : Value} (hz : ∀ u : World, (zeroValue e).run P u = .ok z u) (hb : w.heap[b]? = some (.map es clock)) (F : Fit P k R es clock)
  {key : Value} {kl : Lit} (hkey : keyOf P k key = some kl) :
  ∃ (v0 : Value) (st : Nat) (w1 : World), (Instr.lookup t (.map (some b)) key false).run P w = .ok v0 w ∧ (Instr.mapEntry t (.map (some b)) key).run P w = .ok (.tuple #[v0, goInt st]) w1 ∧
   (Instr.mapUpdate t (.map (some b)) key v0).run P w = .ok () w1 := by
 rcases K.find w hkey es.toList F.keys with ⟨h1, h2⟩ | ⟨j, e0, h1, h2, h3⟩
 ·refine ⟨z, clock, setBlock w b (.map (es.push ⟨key, z, clock⟩) (clock + 1)), ?_, ?_, ?_⟩
  ·simp [Instr.lookup, run_underlying ht, MapKept.run_getObj_map hb, K.check w es.isEmpty hkey, h1, hz]
  ·simp [Instr.mapEntry, run_underlying ht, MapKept.run_getObj_map hb, K.check w false hkey, h1, hz, MapKept.run_setObj_map _ hb, Result.andThen, setBlock]
  ·simp [Instr.mapUpdate, run_underlying ht, MapKept.run_getObj_map hb, K.check w false hkey, h1, MapKept.run_setObj_map _ hb, Result.andThen, setBlock]
 ·have hj : es[j]? = some e0 := by simpa using h2
  have e1 := modify_same es j e0 hj (fun e => { e with key := key }) (by rw [← h3]); have e2 := modify_same es j e0 hj (fun e => { e with key := key, val := e0.val }) (by rw [← h3]); refine ⟨e0.val, e0.born, setBlock w b (.map es clock), ?_, ?_, ?_⟩
  ·simp [Instr.lookup, run_underlying ht, MapKept.run_getObj_map hb, K.check w es.isEmpty hkey, h1, hz]
  ·simp [Instr.mapEntry, run_underlying ht, MapKept.run_getObj_map hb, K.check w false hkey, h1, hj, h3, K.stays w hkey, e1, MapKept.run_setObj_map _ hb, Result.andThen, setBlock]
  ·simp [Instr.mapUpdate, run_underlying ht, MapKept.run_getObj_map hb, K.check w false hkey, h1, hj, h3, K.stays w hkey, e2, MapKept.run_setObj_map _ hb, Result.andThen, setBlock]
theorem setBlock_two (w : World) (b : Nat) (x y : Obj) : setBlock (setBlock w b x) b y = setBlock w b y := by
 unfold setBlock
 simp
theorem entry_all {q : IntKind} {n : Nat} {D : DataW H} (K : KeyLaw P k) (ht : P.underlying t = some (.map k e)) (he : P.underlying e = some (.int q)) (hz : ∀ u : World, (zeroValue e).run P u = .ok (.int q 0) u)
  (h : w.ownsMap P k (plainElem P e) b n D) (hn : n < maxLen) {key : Value} {kl : Lit} (hkey : keyOf P k key = some kl) :
  ∃ (c : Int) (st : Nat) (w1 : World), (Instr.lookup t (.map (some b)) key false).run P w = .ok (.int q c) w ∧ D.atKey kl (.lit (.int q 0)) = .lit (.int q c) ∧
   (Instr.mapEntry t (.map (some b)) key).run P w = .ok (.tuple #[.int q c, goInt st]) w1 ∧ (Instr.lookup t (.map (some b)) key false).run P w1 = .ok (.int q c) w1 ∧ w.grownBy w1 (some b) ∧
   ∀ v, (Lit.int q v).wf = true → ∃ w2, (Instr.entryStore t (.map (some b)) (goInt st) (.int q v)).run P w1 = .ok () w2 ∧ w2.ownsMap P k (plainElem P e) b (n + 1) (D.put kl (.lit (.int q v))) ∧ w.grownBy w2 (some b) := by
 have KK := Maps.Keyed.of_law K; obtain ⟨c, hl, hat, hwc⟩ := h.lookup_int KK ht he (hz w) hkey; have h' := h; obtain ⟨es, clock, hb, F, hs, hD⟩ := h'; obtain ⟨v0, st, w1, a1, a2, a3⟩ := entry_look (es := es) (clock := clock) K ht hz hb F hkey; obtain ⟨v1, st1, es1, clock1, b1, _, b3⟩ := entry_then_store (es := es) (clock := clock) K ht hz hb F hkey
 have ev : v0 = .int q c := by rw [hl] at a1; injection a1 with a1; exact a1.symm
 subst ev; rw [b1] at a2
 injection a2 with a2 a4
 simp only [Value.tuple.injEq, Array.mk.injEq, List.cons.injEq, and_true] at a2; obtain ⟨rfl, a5⟩ := a2; obtain ⟨w1', c1, c2, c3⟩ := h.update KK ht hn hkey (plainElem_int he hwc); rw [a3] at c1
 injection c1 with _ c1
 subst c1
 have hb1 : w1.heap[b]? = some (.map es1 clock1) := by rw [← a4]; exact heap_setBlock_same hb _
 obtain ⟨c', d1, d2, _⟩ := c2.lookup_int KK ht he (hz w1) hkey; rw [Maps.atKey_put_same h.isMap (KK.key hkey)] at d2
 injection d2 with d2
 injection d2 with _ d2
 subst d2; refine ⟨c, st, w1, hl, hat, by rw [b1, a5, a4], d1, c3, fun v hv => ?_⟩; obtain ⟨es', clock', e1, e2⟩ := b3 w1 (.int q v) hb1; obtain ⟨w2, f1, f2, f3⟩ := h.update KK ht hn hkey (plainElem_int he hv); rw [e2] at f1
 injection f1 with _ f1
 subst f1; rw [← a4, setBlock_two] at e1; rw [← a4, ← a5]; exact ⟨_, e1, f2, f3⟩
end
end
section
open Go.Maps
theorem zeroI (w : World) : (zeroValue 3).run Tryz.prog w = .ok (.int .i64 0) w := by kernel_rfl
theorem map_below {H : Type} {P : Program} {k : TypeId} {R : Value → Option (DataW H × List MemPlace)} {b n B : Nat} {D : DataW H} {w w' : World} (h : w.ownsMap P k R b n D) (hb : Below B w w') (hl : b < B) : w'.ownsMap P k R b n D := by
 obtain ⟨es, clock, hh, r⟩ := h; exact ⟨es, clock, (hb.block b hl).trans hh, r⟩
def OwnsM (w : World) (M n : Nat) (c : Fl → Int) : Prop := ∃ D : DataW Unit, w.ownsMap Tryz.prog 82 (plainElem Tryz.prog 3) M n D ∧ MapIs D c
theorem OwnsM.below {w w' : World} {M n B : Nat} {c : Fl → Int} (h : OwnsM w M n c) (hb : Below B w w') (hM : M < B) : OwnsM w' M n c := by
 obtain ⟨D, h1, h2⟩ := h; exact ⟨D, map_below h1 hb hM, h2⟩
theorem OwnsM.lt {w : World} {M n : Nat} {c : Fl → Int} (h : OwnsM w M n c) : M < w.heap.size := by
 obtain ⟨D, h1, _⟩ := h; exact h1.lt
def OwnsZ (w : World) (M n : Nat) (c : Fl → Int) (f : Fl) : Prop := ∃ D : DataW Unit, w.ownsMap Tryz.prog 82 (plainElem Tryz.prog 3) M n D ∧ MapIs (D.del (kF f)) (setC c f 0)
theorem ranges_below {H : Type} {P : Program} {k : TypeId} {R : Value → Option (DataW H × List MemPlace)} {b r n B cnt : Nat} {D : DataW H} {left : Lit → Bool} {w w' : World} (h : w.ranges P k R b r n D left cnt) (hb : Below B w w') (hl : b < B) (hr : r < B) : w'.ranges P k R b r n D left cnt := by
 obtain ⟨es, clock, since, seen, c0, h1, h2, h3, h4, h5, h6⟩ := h; exact ⟨es, clock, since, seen, c0, (hb.block b hl).trans h1, h2, h3, h4, (hb.block r hr).trans h5, h6⟩
set_option maxRecDepth 100000 in
theorem own_entry {w : World} {M n : Nat} {c : Fl → Int} {f : Fl} (h : OwnsM w M n c) (hf : f.Wf) (hn : n < maxLen) :
  ∃ (st : Nat) (w1 : World), (Instr.lookup 108 (.map (some M)) f.val false).run Tryz.prog w = .ok (.int .i64 (c f)) w ∧ (Instr.mapEntry 108 (.map (some M)) f.val).run Tryz.prog w = .ok (.tuple #[.int .i64 (c f), goInt st]) w1 ∧
   (Instr.lookup 108 (.map (some M)) f.val false).run Tryz.prog w1 = .ok (.int .i64 (c f)) w1 ∧ w.grownBy w1 (some M) ∧
   ∀ v, I64 v → ∃ w2, (Instr.entryStore 108 (.map (some M)) (goInt st) (.int .i64 v)).run Tryz.prog w1 = .ok () w2 ∧ w.grownBy w2 (some M) ∧
    (Instr.lookup 108 (.map (some M)) f.val false).run Tryz.prog w2 = .ok (.int .i64 v) w2 ∧ (v ≠ 0 → OwnsM w2 M (n + 1) (setC c f v)) ∧ OwnsZ w2 M (n + 1) c f := by
 obtain ⟨D, h1, h2⟩ := h; obtain ⟨c0, st, w1, a1, a2, a3, a4, a5, a6⟩ := entry_all lawFK Tryz.underlying108 Tryz.underlying3 zeroI h1 hn (keyF hf)
 have ec : c0 = c f := by
  have := h2.1 f hf; unfold numD at this; rw [this] at a2
  injection a2 with a2
  injection a2 with _ a2
  exact a2.symm
 subst ec; refine ⟨st, w1, a1, a3, a4, a5, fun v hv => ?_⟩; obtain ⟨w2, b1, b2, b3⟩ := a6 v (i64_wf hv); obtain ⟨c1, d1, d2, _⟩ := b2.lookup_int lawF Tryz.underlying108 Tryz.underlying3 (zeroI w2) (keyF hf); rw [atKey_put_same h1.isMap (key_lit hf)] at d2
 injection d2 with d2
 injection d2 with _ d2
 subst d2; exact ⟨w2, b1, b3, d1, fun hv0 => ⟨_, b2, mapIs_put h2 h1.isMap hf hv0⟩, ⟨_, b2, mapIs_del h2 hf⟩⟩
theorem wrap_in {n : Int} (h : I64 n) : IntKind.i64.wrap n = n := IntWalk.i64_in n h
attribute [local go_sem ↓ high] ldF_is stF_is
theorem infoI : (Tryz.prog.info? 3).map (fun i => (i.zero, i.size, i.bytes)) = some (some (.int .i64 0), 1, 8) := by kernel_rfl
set_option maxRecDepth 100000 in
theorem nodes_walk (A B : List Fl) (er : Int) (v u : Value) (w : World) (TWO : Calls Tryz.prog 41 #[v, u] w (OutTwo w.heap.size er A B w)) (hA : ∀ f ∈ A, f.Wf) (hB : ∀ f ∈ B, f.Wf) (lA : A.length ≤ 16384) (lB : B.length ≤ 16384) :
  Calls Tryz.prog 21 #[v, u] w fun e w' => Below w.heap.size w w' ∧ ∃ v', e = .returned (.tuple #[v', .int .i64 er]) ∧ OwnsI w.heap.size w' v' (if er = 0 then nodL A B else []) := by
 replace TWO := hdh TWO
 by_cases he : er = 0
 ·subst he
  rw [if_pos rfl]; obtain ⟨iI, hi0, hz0, hz1, hz2⟩ := info_parts infoI; have hmm := @run_makeMap Tryz.prog; obtain ⟨nA, hnA⟩ := exx (A.length); obtain ⟨nB, hnB⟩ := exx (B.length); rw [hnA] at lA; rw [hnB] at lB; replace hnA := hdh hnA; replace hnB := hdh hnB; replace hA := hdh hA; replace hB := hdh hB
  go_enter Tryz.func21, Tryz.ntmps21
  go_upto_region 2 with (go_at_call 41; (with_reducible refine TWO.out.mono ?_); rintro e w1 ⟨hb1, v1, u1, rfl, O1, P1⟩; obtain ⟨s1, c1, hv1⟩ := own_slice O1; obtain ⟨s2, c2, hv2⟩ := own_slice P1; rw [hnA.out] at hv1; rw [hnB.out] at hv2; subst hv1 hv2)
  have RA := hdh (O1.row lrr); have RB := hdh (P1.row lrr); clear TWO O1 P1
  go_upto_region 5 with fail
  obtain ⟨W4, hW4⟩ := exx (w1.alloc (.map #[] 0)); obtain ⟨M, hM⟩ := exx (w1.heap.size)
  have OM0 : OwnsM W4 M 0 (upC A 0) := by rw [← hW4, ← hM]; exact ⟨_, World.ownsMap_made _ _ _ _, mapIs_ext mapIs_nil fun f _ => by simp [upC, cntF]⟩
  have hb4 : Below w1.heap.size w1 W4 := by rw [← hW4]; exact (Below.refl _ _).alloc lrr _
  rw [hW4, hM]; clear hW4; replace hM := hdh hM; go_wp2
  go_loopw [29] (fun iv wr => ∃ k : Nat, k ≤ nA ∧ iv = .int .i64 k ∧ OwnsM wr M k (upC A k) ∧ Below w1.heap.size w1 wr) (fun iv _ => nA - (intOf iv).toNat)
  case atStart => exact ⟨0, Nat.zero_le _, rfl, OM0, hb4⟩
  case round =>
   clear OM0 hb4; obtain ⟨k, hk, rfl, OM, hbr⟩ := hrel; have zr := hbr.size; have hMl := OM.lt
   by_cases hkn : k < nA
   ·obtain ⟨f, hf⟩ := get_at hnA.out hkn
    obtain ⟨bS, oS, cS, e, hbS, _, _, hel⟩ := row_ld (RA.out.below hbr) zr (by rw [hnA.out]; omega); rw [hnA.out] at e
    simp at e
    obtain ⟨rfl, rfl⟩ := e; have LD := hel k f hf wr (Below.refl _ _); have ST := stF_new f wr; have hfw := hA.out f (List.mem_of_getElem? hf); have hst := upC_step hf; have hbd := upC_bd A k f
    have ENT := fun W (h : Below wr.heap.size wr W) => own_entry (OM.below h hMl) hfw (by unfold maxLen; omega)
    have LN : ∀ W b, Blk W b (Fl.enc f) 82 → (ldF (.pointer (some ⟨b, 0, none⟩))).run Tryz.prog W = .ok f.val W := fun W b hB => ldF_at (o := 0) fun i u hi => hB.cell (by rw [Nat.zero_add]; exact hi)
    obtain ⟨cf, hcf⟩ := exx (upC A k f); rw [hcf] at hst hbd ENT; generalize f.val = VX at LD ST LN ENT
    have hkk : (k : Int) < nA := by omega
    have yS : bS < wr.heap.size := by omega
    clear hel OM; replace ENT := hdh ENT; replace LN := hdh LN; replace hst := hdh hst; replace hf := hdh hf; replace hcf := hdh hcf
    go_upto_region 8 with fail
    clear LD ST; obtain ⟨W8, hW8⟩ := exx (wr.alloc (.cells (Fl.enc f).toArray 82)); obtain ⟨b11, hb11⟩ := exx (wr.heap.size)
    have B11 : Blk W8 b11 (Fl.enc f) 82 := by rw [← hW8]; exact Blk.new' hb11.symm
    have hb8 : Below wr.heap.size wr W8 := by rw [← hW8]; exact (Below.refl _ _).alloc lrr _
    rw [hW8, hb11]
    have hMb : M ≠ b11 := by rw [← hb11]; omega
    clear hW8 hb11; have hb8d : Below wr.heap.size wr W8.drew := hb8.drew; have B11d : Blk W8.drew b11 (Fl.enc f) 82 := B11; obtain ⟨st, x1, LK0, ME, LK1, g1, EST⟩ := ENT.out _ hb8d; obtain ⟨x2, ES, g2, _, OM2, _⟩ := EST (cf + 1) (by unfold I64; omega); have OM2 := OM2 (by omega); rw [hst.out] at OM2
    have ES : (Instr.entryStore 108 (.map (some M)) (.int .i64 (st : Int)) (.int .i64 (IntKind.i64.wrap (cf + 1)))).run Tryz.prog x1 = .ok () x2 := by rw [wrap_in (by unfold I64; omega)]; exact ES
    have hS0 := LN.out _ _ B11d; have hS1 := LN.out _ _ (B11d.keep g1 (fun e => hMb (by injection e))); have hS2 := LN.out _ _ (B11d.keep g2 (fun e => hMb (by injection e))); have hb9 : Below w1.heap.size w1 x2 := (hbr.trans (hb8d.mono zr)).grown g2 (by have := hb8d.size; omega) (fun k e => by injection e with e; have := hM.out; omega); clear EST ENT LN g1 g2 B11 B11d hb8 hb8d; replace hS1 := hdh hS1; replace hS2 := hdh hS2; replace OM2 := hdh OM2; replace hb9 := hdh hb9; refine held_begin (fun u => (ldF (.pointer (some ⟨b11, 0, none⟩))).run Tryz.prog u = .ok VX u) (by kernel_rfl) hS0 (fun hS => ?_)
    clear hS0; generalize W8.drew = x0 at hS LK0 ME ⊢
    (refine' held_do (i := 0) _ (by kernel_rfl) (by kernel_rfl) (by kernel_rfl) _ _ hS _ _; rotate_left 2; (focus exact geti); (focus exact fun _ _ _ h => h); (focus rfl); (focus (intro w1 hSS R hR; go_simp; exact hR)); simp only [pu])
    (refine' held_do (i := 1) _ (by kernel_rfl) (by kernel_rfl) (by kernel_rfl) _ _ hS _ _; rotate_left 2; (focus exact geti); (focus exact fun _ _ _ h => h); (focus rfl); (focus (intro w1 hSS R hR; go_simp; exact hR)); simp only [pu])
    (refine' held_two (i := 2) (j := 4) rfl rfl (by kernel_rfl) _ _ _ _; (focus rfl); (focus rfl))
    ·intro K hK
     go_simp
     refine hK _ _ hS ?_; clear hK
     (try simp only [pu])
     (refine' held_do (i := 3) _ (by kernel_rfl) (by kernel_rfl) (by kernel_rfl) _ _ hS _ _; rotate_left 2; (focus exact geti); (focus exact fun _ _ _ h => h); (focus rfl); (focus (intro w1 hSS R hR; go_simp; exact hR)); simp only [pu])
     (refine honn 4 fun K hK => ?_; go_simp)
     refine hK _ _ hS1.out ?_; clear hK
     (try simp only [pu])
     clear hS; have hS := hS1.out
     (refine' held_do (i := 5) _ (by kernel_rfl) (by kernel_rfl) (by kernel_rfl) _ _ hS _ _; rotate_left 2; (focus exact geti); (focus exact fun _ _ _ h => h); (focus rfl); (focus (intro w1 hSS R hR; go_simp; exact hR)); simp only [pu])
     (refine honn 6 fun K hK => ?_; go_simp)
     refine hK _ _ hS2.out ?_; clear hK
     (try simp only [pu])
     clear hS; have hS := hS2.out; refine wpAnyH_done (by kernel_rfl) ?_ _; clear hS hS1 hS2 LK0 LK1 ME ES; go_wp2; go_roundw
     case rel => exact ⟨k + 1, by omega, by go_num, OM2.out, hb9.out⟩
     case measure => simp [intOf]; omega
    ·intro K hK
     go_simp
     refine hK _ _ hS1.out ?_; clear hK
     (try simp only [pu])
     clear hS; have hS := hS1.out
     (refine' held_do (i := 5) _ (by kernel_rfl) (by kernel_rfl) (by kernel_rfl) _ _ hS _ _; rotate_left 2; (focus exact geti); (focus exact fun _ _ _ h => h); (focus rfl); (focus (intro w1 hSS R hR; go_simp; exact hR)); simp only [pu])
     (refine honn 2 fun K hK => ?_; go_simp)
     refine hK _ _ hS1.out ?_; clear hK
     (try simp only [pu])
     clear hS; have hS := hS1.out
     (refine' held_do (i := 3) _ (by kernel_rfl) (by kernel_rfl) (by kernel_rfl) _ _ hS _ _; rotate_left 2; (focus exact geti); (focus exact fun _ _ _ h => h); (focus rfl); (focus (intro w1 hSS R hR; go_simp; exact hR)); simp only [pu])
     (refine honn 6 fun K hK => ?_; go_simp)
     refine hK _ _ hS2.out ?_; clear hK
     (try simp only [pu])
     clear hS; have hS := hS2.out; refine wpAnyH_done (by kernel_rfl) ?_ _; clear hS hS1 hS2 LK0 LK1 ME ES; go_wp2; go_roundw
     case rel => exact ⟨k + 1, by omega, by go_num, OM2.out, hb9.out⟩
     case measure => simp [intOf]; omega
   ·obtain rfl : k = nA := by omega
    rw [← hnA.out, upC_end A B, hnA.out] at OM
    have hkk : ¬ (k : Int) < k := by omega
    clear hk hkn
    go_upto_region 10 with fail
    go_wp2
    go_loopw [42] (fun iv wr => ∃ j : Nat, j ≤ nB ∧ iv = .int .i64 j ∧ OwnsM wr M (k + j) (downC A B j) ∧ Below w1.heap.size w1 wr) (fun iv _ => nB - (intOf iv).toNat)
    case atStart => exact ⟨0, Nat.zero_le _, rfl, OM, hbr⟩
    case round =>
     clear OM hbr zr hMl; obtain ⟨j, hj, rfl, OM, hbr⟩ := hrel; have zr := hbr.size; have hMl := OM.lt
     by_cases hjn : j < nB
     ·obtain ⟨f, hf⟩ := get_at hnB.out hjn
      obtain ⟨bS, oS, cS, e, hbS, _, _, hel⟩ := row_ld (RB.out.below hbr) zr (by rw [hnB.out]; omega); rw [hnB.out] at e
      simp at e
      obtain ⟨rfl, rfl⟩ := e; have LD := hel j f hf wr (Below.refl _ _); have ST := stF_new f wr; have hfw := hB.out f (List.mem_of_getElem? hf); have hst := downC_step (a := A) hf; have hbd := downC_bd A B j f; rw [hnA.out] at hbd
      have ENT := fun W (h : Below wr.heap.size wr W) => own_entry (OM.below h hMl) hfw (by unfold maxLen; omega)
      have LN : ∀ W b, Blk W b (Fl.enc f) 82 → (ldF (.pointer (some ⟨b, 0, none⟩))).run Tryz.prog W = .ok f.val W := fun W b hB => ldF_at (o := 0) fun i u hi => hB.cell (by rw [Nat.zero_add]; exact hi)
      obtain ⟨cf, hcf⟩ := exx (downC A B j f); have hkey := keyF hfw; rw [hcf] at hst hbd ENT; generalize f.val = VX at LD ST LN ENT hkey
      have hjj : (j : Int) < nB := by omega
      have yS : bS < wr.heap.size := by omega
      clear hel OM; replace ENT := hdh ENT; replace LN := hdh LN; replace hst := hdh hst; replace hf := hdh hf; replace hcf := hdh hcf; replace hkey := hdh hkey
      go_upto_region 13 with fail
      clear LD ST; obtain ⟨W8, hW8⟩ := exx (wr.alloc (.cells (Fl.enc f).toArray 82)); obtain ⟨b11, hb11⟩ := exx (wr.heap.size)
      have B11 : Blk W8 b11 (Fl.enc f) 82 := by rw [← hW8]; exact Blk.new' hb11.symm
      have hb8 : Below wr.heap.size wr W8 := by rw [← hW8]; exact (Below.refl _ _).alloc lrr _
      rw [hW8, hb11]
      have hMb : M ≠ b11 := by rw [← hb11]; omega
      clear hW8 hb11; have hb8d : Below wr.heap.size wr W8.drew := hb8.drew; have B11d : Blk W8.drew b11 (Fl.enc f) 82 := B11; obtain ⟨st, x1, LK0, ME, LK1, g1, EST⟩ := ENT.out _ hb8d; obtain ⟨x2, ES, g2, LK2, OM2, OZ2⟩ := EST (cf - 1) (by unfold I64; omega); rw [hst.out] at OM2
      have ES : (Instr.entryStore 108 (.map (some M)) (.int .i64 (st : Int)) (.int .i64 (IntKind.i64.wrap (cf - 1)))).run Tryz.prog x1 = .ok () x2 := by rw [wrap_in (by unfold I64; omega)]; exact ES
      have hS0 := LN.out _ _ B11d; have hS1 := LN.out _ _ (B11d.keep g1 (fun e => hMb (by injection e))); have hS2 := LN.out _ _ (B11d.keep g2 (fun e => hMb (by injection e))); have hb9 : Below w1.heap.size w1 x2 := (hbr.trans (hb8d.mono zr)).grown g2 (by have := hb8d.size; omega) (fun k e => by injection e with e; have := hM.out; omega); clear EST ENT LN g1 g2 B11 B11d hb8 hb8d; replace hS1 := hdh hS1; replace hS2 := hdh hS2; replace OM2 := hdh OM2; replace OZ2 := hdh OZ2; replace hb9 := hdh hb9; replace LK2 := hdh LK2; refine held_begin (fun u => (ldF (.pointer (some ⟨b11, 0, none⟩))).run Tryz.prog u = .ok VX u) (by kernel_rfl) hS0 (fun hS => ?_)
      clear hS0; generalize W8.drew = x0 at hS LK0 ME ⊢
      (refine' held_do (i := 0) _ (by kernel_rfl) (by kernel_rfl) (by kernel_rfl) _ _ hS _ _; rotate_left 2; (focus exact geti); (focus exact fun _ _ _ h => h); (focus rfl); (focus (intro w1 hSS R hR; go_simp; exact hR)); simp only [pu])
      (refine' held_do (i := 1) _ (by kernel_rfl) (by kernel_rfl) (by kernel_rfl) _ _ hS _ _; rotate_left 2; (focus exact geti); (focus exact fun _ _ _ h => h); (focus rfl); (focus (intro w1 hSS R hR; go_simp; exact hR)); simp only [pu])
      (refine' held_two (i := 2) (j := 4) rfl rfl (by kernel_rfl) _ _ _ _; (focus rfl); (focus rfl))
      ·intro K hK
       go_simp
       refine hK _ _ hS ?_; clear hK
       (try simp only [pu])
       (refine' held_do (i := 3) _ (by kernel_rfl) (by kernel_rfl) (by kernel_rfl) _ _ hS _ _; rotate_left 2; (focus exact geti); (focus exact fun _ _ _ h => h); (focus rfl); (focus (intro w1 hSS R hR; go_simp; exact hR)); simp only [pu])
       (refine honn 4 fun K hK => ?_; go_simp)
       refine hK _ _ hS1.out ?_; clear hK
       (try simp only [pu])
       clear hS; have hS := hS1.out
       (refine' held_do (i := 5) _ (by kernel_rfl) (by kernel_rfl) (by kernel_rfl) _ _ hS _ _; rotate_left 2; (focus exact geti); (focus exact fun _ _ _ h => h); (focus rfl); (focus (intro w1 hSS R hR; go_simp; exact hR)); simp only [pu])
       (refine honn 6 fun K hK => ?_; go_simp)
       refine hK _ _ hS2.out ?_; clear hK
       (try simp only [pu])
       clear hS; have hS := hS2.out; refine wpAnyH_done (by kernel_rfl) ?_ _; have LK3 := LK2.out; clear hS1 hS2 LK0 LK1 ME ES LK2
       by_cases hv0 : cf - 1 = 0
       ·rw [hv0] at LK3 hst
        obtain ⟨D2, OZ3, OZ4⟩ := OZ2.out; have hMI := mapIs_ext OZ4 (c' := downC A B (j + 1)) (fun g _ => by rw [← hst.out]); replace OZ3 := hdh OZ3; clear OZ4 OZ2 OM2; replace hMI := hdh hMI
        go_wp2_with (first
         | (at_delete; refine wpList_delete_own _ rfl _ _ 108 82 rfl 3 lawF Tryz.underlying108 _ M (k + j + 1) D2 rfl OZ3.out _ _ rfl hkey.out ?_; intro w3 hown3 hturn3)
         | go_in)
        have hb10 : Below w1.heap.size w1 w3 := hb9.out.grown hturn3.grown hb9.out.size (fun k e => by injection e with e; have := hM.out; omega); have OM3 : OwnsM w3 M (k + (j + 1)) (downC A B (j + 1)) := ⟨_, hown3, hMI.out⟩; clear hown3 hturn3; replace OM3 := hdh OM3; go_wp2; go_roundw
        case rel => exact ⟨j + 1, by omega, by go_num, OM3.out, hb10⟩
        case measure => simp [intOf]; omega
       ·have hv1 : (cf - 1 == 0) = false := by simpa using hv0
        have OM3 := OM2.out hv0; clear OM2 OZ2; replace OM3 := hdh OM3; go_wp2; go_roundw
        case rel => exact ⟨j + 1, by omega, by go_num, OM3.out, hb9.out⟩
        case measure => simp [intOf]; omega
      ·intro K hK
       go_simp
       refine hK _ _ hS1.out ?_; clear hK
       (try simp only [pu])
       clear hS; have hS := hS1.out
       (refine' held_do (i := 5) _ (by kernel_rfl) (by kernel_rfl) (by kernel_rfl) _ _ hS _ _; rotate_left 2; (focus exact geti); (focus exact fun _ _ _ h => h); (focus rfl); (focus (intro w1 hSS R hR; go_simp; exact hR)); simp only [pu])
       (refine honn 2 fun K hK => ?_; go_simp)
       refine hK _ _ hS1.out ?_; clear hK
       (try simp only [pu])
       clear hS; have hS := hS1.out
       (refine' held_do (i := 3) _ (by kernel_rfl) (by kernel_rfl) (by kernel_rfl) _ _ hS _ _; rotate_left 2; (focus exact geti); (focus exact fun _ _ _ h => h); (focus rfl); (focus (intro w1 hSS R hR; go_simp; exact hR)); simp only [pu])
       (refine honn 6 fun K hK => ?_; go_simp)
       refine hK _ _ hS2.out ?_; clear hK
       (try simp only [pu])
       clear hS; have hS := hS2.out; refine wpAnyH_done (by kernel_rfl) ?_ _; have LK3 := LK2.out; clear hS1 hS2 LK0 LK1 ME ES LK2
       by_cases hv0 : cf - 1 = 0
       ·rw [hv0] at LK3 hst
        obtain ⟨D2, OZ3, OZ4⟩ := OZ2.out; have hMI := mapIs_ext OZ4 (c' := downC A B (j + 1)) (fun g _ => by rw [← hst.out]); replace OZ3 := hdh OZ3; clear OZ4 OZ2 OM2; replace hMI := hdh hMI
        go_wp2_with (first
         | (at_delete; refine wpList_delete_own _ rfl _ _ 108 82 rfl 3 lawF Tryz.underlying108 _ M (k + j + 1) D2 rfl OZ3.out _ _ rfl hkey.out ?_; intro w3 hown3 hturn3)
         | go_in)
        have hb10 : Below w1.heap.size w1 w3 := hb9.out.grown hturn3.grown hb9.out.size (fun k e => by injection e with e; have := hM.out; omega); have OM3 : OwnsM w3 M (k + (j + 1)) (downC A B (j + 1)) := ⟨_, hown3, hMI.out⟩; clear hown3 hturn3; replace OM3 := hdh OM3; go_wp2; go_roundw
        case rel => exact ⟨j + 1, by omega, by go_num, OM3.out, hb10⟩
        case measure => simp [intOf]; omega
       ·have hv1 : (cf - 1 == 0) = false := by simpa using hv0
        have OM3 := OM2.out hv0; clear OM2 OZ2; replace OM3 := hdh OM3; go_wp2; go_roundw
        case rel => exact ⟨j + 1, by omega, by go_num, OM3.out, hb9.out⟩
        case measure => simp [intOf]; omega
     ·obtain rfl : j = nB := by omega
      have hjj : ¬ (j : Int) < j := by omega
      clear hj hjn
      go_upto_region 18 with fail
      obtain ⟨D, OD, MI⟩ := OM; have hsz := OD.size_le
      have hkj : k + j ≤ 32768 := by omega
      replace MI := hdh MI; replace OD := hdh OD
      go_wp2_with (first
       | (at_range; refine wpList_range_own _ rfl _ 108 rfl 82 3 lawF Tryz.underlying108 _ M _ _ rfl OD.out ?_; intro w0 hrg0 hg0 hs0)
       | go_in)
      (try go_frame)
      have hb0 : Below w1.heap.size w1 w0 := hbr.grown hg0 zr (by simp); obtain ⟨rb, hrb⟩ := exx (wr.heap.size); rw [hrb] at hrg0 hs0 hMl; rw [hrb]
      have hrb1 : w1.heap.size ≤ rb := by omega
      obtain ⟨w0s, hw0s⟩ := exx (w0.heap.size); have hcol0 := colF_start MI.out; clear hg0 OD hrb hbr zr
      go_loopw [14] (fun sv wr => ∃ (left : Lit → Bool) (cnt : Nat) (ns : List Int), wr.ranges Tryz.prog 82 (plainElem Tryz.prog 3) M rb (k + j) D left cnt ∧ Hid (ColF (downC A B j) left ns) ∧ OwnsI w0.heap.size wr sv ns ∧ Below w1.heap.size w1 wr ∧ w0.heap.size ≤ wr.heap.size ∧ ns.length + cnt ≤ k + j) (fun _ wr => wr.rangeLeft M rb)
      case atStart => exact ⟨_, _, [], hrg0, hdh hcol0, OwnsI.nil _ _, hb0, Nat.le_refl _, by simpa using hsz⟩
      case round =>
       clear hrg0 hcol0 hb0; obtain ⟨left, cnt, ns, hrg, hcol, hown, hbr, hzr, hln⟩ := hrel; have zr := hbr.size; obtain ⟨s14, c14, rfl⟩ := own_slice hown
       go_wp2_with (first
        | (at_next; refine wpList_next_ranges _ rfl _ rfl 82 lawF (plainElem Tryz.prog 3) (fun v => v) (Value.int .i64) (fun key kl h => ⟨key, rfl⟩) (fun v y hv => by obtain ⟨c, e, _⟩ := plainElem_int_inv Tryz.underlying3 hv; exact ⟨c, e⟩) M rb (k + j) _ _ _ rfl hrg ?_ ?_)
        | go_in)
       ·intro _ hl0
        have hend := fun l h1 h2 => colF_end (l := l) (a := A) (b := B) (by rw [hnB.out]; exact hcol.out) hl0 hA.out hB.out h1 h2
        replace hend := hdh hend; obtain ⟨m, hm⟩ := exx (ns.length); obtain ⟨o1, o2⟩ := onceI_spec ns; have SRT := isort_any ns (.slice s14 ns.length c14) wr w0.heap.size hown (by omega) hzr; have eL := hend.out (onceI ns) o1 o2; have hbW := hb1.trans (hbr.mono hb1.size); have zW := hbW.size
        have l0 : (srtI ns).length ≤ 1048576 := by rw [srtI_len]; omega
        rw [hm] at SRT hown ⊢; replace SRT := hdh SRT; replace eL := hdh eL; replace hm := hdh hm; replace hbW := hdh hbW; replace l0 := hdh l0; clear hl0 hcol hrg hend MI hown hbr o1 o2
        go_upto_region 23 with (go_at_call 62; (with_reducible refine SRT.out.mono ?_); rintro e w5 ⟨rfl, O5, g5⟩)
        have hb5 := hbW.out.grown g5 hbW.out.size (fun g hg => by have := (own_in O5 g hg).1; have := hb1.size; omega); have z5 := g5.size; have CMP := icompact_any (srtI ns) (.slice s14 m c14) w5 w0.heap.size O5 l0.out (by omega); rw [show Lib.compact (srtI ns) = onceI ns from rfl, eL.out] at CMP; replace CMP := hdh CMP; have lo5 := hdh (fun g hg => (own_in O5 g hg).1); replace hb5 := hdh hb5; clear SRT O5 g5
        go_wp2_with (go_at_call 63; (with_reducible refine CMP.out.mono ?_); rintro e w6 ⟨v6, rfl, O6, g6⟩)
        go_ret2; exact ⟨hb5.out.grown g6 hb5.out.size (fun g hg => by have := lo5.out g hg; have := hb1.size; omega), _, rfl, own_less O6 (by have := hb1.size; omega)⟩
       ·intro key cc kl y1 y2 wn cnt1 hkey hlk hv hat hrg1 hlt hg1 hs1 hen
        have hhas := has_true_of_atKey hat; obtain ⟨f, hfw, rfl⟩ := MI.out.2.2 kl hhas; obtain rfl := lawF.inj hkey (keyF hfw); have hc0 := (MI.out.2.1 f hfw).1 hhas; have hcol2 := hdh (colF_step hcol.out hfw hc0 hlk); have ST := stF_new f wn; have hown1 := own_keep hown hg1 (fun g h1 h2 => by have := (own_in hown g h1).1; injection h2 with h2; omega); have hb2 : Below w1.heap.size w1 wn := hbr.grown hg1 zr (fun g h => by injection h with h; omega); have hle := hdh hrg.left_eq; generalize f.val = VX at ST hen; clear hat hs1 hown hrg hcol hkey hv hc0 hhas hfw hlk; replace hrg1 := hdh hrg1; replace hown1 := hdh hown1
        have z1 := hg1.size
        go_upto_region 21 with fail
        obtain ⟨W20, hW20⟩ := exx (wn.alloc (.cells (Fl.enc f).toArray 82)); obtain ⟨b15, hb15⟩ := exx (wn.heap.size)
        have B15 : Blk W20 b15 (Fl.enc f) 82 := by rw [← hW20]; exact Blk.new' hb15.symm
        have hb20 : Below wn.heap.size wn W20 := by rw [← hW20]; exact (Below.refl _ _).alloc lrr _
        rw [hW20, hb15]; clear hW20 hb15 ST hen; have z20 := hb20.size; have c14 := B15.cell (o := 14) (v := .int .i64 f.s.node) rfl; have O20 := ownsRow_below hown1.out hb20 lrr
        have zz20 : w0.heap.size ≤ W20.heap.size := by omega
        go_wp2_with (first
         | (at_builtin; refine wpList_append_new rfl _ _ _ rfl w0.heap.size 3 iI _ 1 8 Tryz.underlying52 hi0 hz0 hz1 hz2 rfl (by omega) W20 1 _ _ _ _ (by rfl) O20 (by rfl) rfl (by simp [Value.oneCell']) (by omega) (by unfold maxLen; omega) zz20 ?_; intro v14 w14 hown14 hb14)
         | go_in)
        replace hown14 := hdh hown14; have hb30 := (hb2.trans (hb20.mono (by omega))).trans (hb14.mono (by omega)); have z14 := hb14.size; have hrg3 := ranges_below (ranges_below hrg1.out hb20 (by omega) (by omega)) hb14 (by omega) (by omega); clear c14 B15 O20; go_wp2; go_roundw
        case rel =>
         refine ⟨_, cnt1, ns ++ [f.s.node], hrg3, hcol2, ?_, hb30, by omega, by simp; omega⟩; unfold OwnsI; rw [List.length_append, List.flatMap_append]; exact hown14.out
        case measure =>
         rw [hrg3.left_eq, hle.out]; exact hlt
 ·rw [if_neg he]
  have e1 : (er == 0) = false := by simpa using he
  have e2 : (er != 0) = true := by simpa using he
  go_enter Tryz.func21, Tryz.ntmps21
  go_upto_region 2 with (go_at_call 41; (with_reducible refine TWO.out.mono ?_); rintro e w1 ⟨hb1, v1, u1, rfl, O1, P1⟩)
  clear TWO; go_wp2; go_ret2; exact ⟨hb1, _, rfl, OwnsI.nil _ _⟩
theorem fl_wf {f : Fl} (h : f.Ok) : f.Wf := ⟨h.1, may_wf h.2.2.2.1⟩
def OutNd (base : Nat) (er : Int) (l : List Int) (w : World) (e : Ending) (w' : World) : Prop := Below base w w' ∧ ∃ v, e = .returned (.tuple #[v, .int .i64 er]) ∧ OwnsI base w' v l
def nodN (xs ys : List St) : List Int := if dmgE xs ys = 0 then nodL (flts xs) (flts ys) else []
theorem dnodes_any (xs ys : List St) (v u : Value) (w : World) (hx : Row w.heap.size 15 St.enc w v xs) (hy : Row w.heap.size 15 St.enc w u ys) (k1 : ∀ s ∈ xs, s.Wf) (k2 : ∀ s ∈ ys, s.Wf) : Calls Tryz.prog 21 #[v, u] w (OutNd w.heap.size (dmgE xs ys) (nodN xs ys) w) := by
 have TWO := two_any xs ys v u w hx hy k1 k2; unfold OutNd nodN
 by_cases he : dmgE xs ys = 0
 ·obtain ⟨e1, e2⟩ := dmgE_zero he
  have hX := flts_ok e1 k1; have hY := flts_ok e2 k2; have h := nodes_walk (twoL xs ys (flts xs)) (twoL xs ys (flts ys)) (dmgE xs ys) v u w TWO (fun f hf => ?_) (fun f hf => ?_) ?_ ?_
  ·have t1 : ∀ l, twoL xs ys l = l := fun l => if_pos he
   simp only [t1] at h; rw [if_pos he] at h ⊢; exact h
  ·rw [show twoL xs ys (flts xs) = flts xs from if_pos he] at hf
   exact fl_wf (hX f hf)
  ·rw [show twoL xs ys (flts ys) = flts ys from if_pos he] at hf
   exact fl_wf (hY f hf)
  ·rw [show twoL xs ys (flts xs) = flts xs from if_pos he]; exact flts_le e1
  ·rw [show twoL xs ys (flts ys) = flts ys from if_pos he]; exact flts_le e2
 ·have h := nodes_walk (twoL xs ys (flts xs)) (twoL xs ys (flts ys)) (dmgE xs ys) v u w TWO (fun f hf => ?_) (fun f hf => ?_) ?_ ?_
  ·rw [if_neg he] at h ⊢
   exact h
  all_goals (try (rw [show ∀ l, twoL xs ys l = [] from fun l => if_neg he] at hf; cases hf))
  all_goals (rw [show ∀ l, twoL xs ys l = [] from fun l => if_neg he]; exact Nat.zero_le _)
end
end Go.Proofs.YtfcphagmjijmkaaGreatDoor
