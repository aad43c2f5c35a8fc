/-
  Damage: how often each flat stroke stands in a map.
-/
import Derived.DeepKeys4
import Derived.Maps.Own
import Derived.Maps.OwnOps
import Derived.Maps.OwnSet
import Derived.Maps.RangeWalk
import Derived.WideKeyEntry
import Derived.Test.YtfcphagmjijmkaaGreatDoorProg
import Derived.Test.YtfcphagmjijmkaaGreatDoorDq22
namespace Go.Proofs.YtfcphagmjijmkaaGreatDoor
open Go.RowKit
set_option linter.unusedVariables false
attribute [local go_sem] vwp vUpon_value vUpon_skip vUpon_enter vUpon_row
set_option linter.unusedSimpArgs false
set_option linter.unusedVariables false
open Go.Maps
theorem laid_outD : laidOutB Tryz.prog = true := by kernel_rfl
theorem row_flD : (82 : TypeId) < Tryz.prog.types.size := of_decide_eq_true (by kernel_rfl)
theorem wide_flat : (match Tryz.prog.underlying 82 with | some (.array _ _) | some (.struct _) => true | _ => false) = true := by kernel_rfl
set_option maxRecDepth 100000 in
theorem lawFK : WideMaps.KeyLaw Tryz.prog 82 := deep_law_laid laid_outD (m := 6) (by omega) row_flD (by kernel_rfl) wide_flat
theorem lawF : Keyed Tryz.prog 82 := Keyed.of_law lawFK
def Fl.Wf (f : Fl) : Prop := f.s.Wf ∧ f.r.Wf
noncomputable def kF (f : Fl) : Lit := (keyOf Tryz.prog 82 f.val).getD .nil
/-! ### what a flat stroke reads as -/
theorem lits_int {P : Program} {d : Nat} {t : TypeId} {q : IntKind} {n : Int} (hu : P.underlying t = some (.int q)) (hw : (Lit.int q n).wf = true) : ∃ L, P.keyLits (d + 1) t [.int q n] = some L :=
  ⟨[.int q n], by simp [Program.keyLits, hu, hw]⟩
theorem lits_str {P : Program} {d : Nat} {t : TypeId} {s : ByteArray} (hu : P.underlying t = some .string) (hw : s.size ≤ maxLen) : ∃ L, P.keyLits (d + 1) t [.string s] = some L :=
  ⟨[.string s.data.toList], by simp [Program.keyLits, hu, hw]⟩
theorem mapM_some {α β : Type} {f : α → Option β} : ∀ {l : List α}, (∀ a ∈ l, ∃ b, f a = some b) → ∃ m, l.mapM f = some m
  | [], _ => ⟨[], rfl⟩
  | a :: l, h => by
    obtain ⟨b, hb⟩ := h a (List.mem_cons_self ..)
    obtain ⟨m, hm⟩ := mapM_some (l := l) (fun x hx => h x (List.mem_cons_of_mem _ hx))
    exact ⟨b :: m, by simp [List.mapM_cons, hb, hm]⟩
theorem lits_struct {P : Program} {d : Nat} {t : TypeId} {fs : Array Field} {cs : List Value} (hu : P.underlying t = some (.struct fs)) (hl : cs.length = P.cellsOf t) (hn : fs.all (·.name != "_") = true)
    (h : ∀ f ∈ fs.toList, ∃ L, P.keyLits d f.type ((cs.drop f.offset).take (P.cellsOf f.type)) = some L) : ∃ L, P.keyLits (d + 1) t cs = some L := by
  obtain ⟨m, hm⟩ := mapM_some h
  refine ⟨m.flatten, ?_⟩
  unfold Program.keyLits
  simp only [hu]
  rw [if_pos ⟨hl, hn⟩, hm]
  rfl
theorem u8_wf {a : Int} (h : U8 a) : (Lit.int .u8 a).wf = true := by
  unfold U8 at h
  have e1 : IntKind.min .u8 = 0 := by decide
  have e2 : IntKind.max .u8 = 255 := by decide
  simp only [Lit.wf, e1, e2, Bool.and_eq_true, decide_eq_true_eq]
  exact h
theorem i64_wf {a : Int} (h : I64 a) : (Lit.int .i64 a).wf = true := WalkArith.wf_i64 (by have := h.1; have := h.2; omega)
theorem keyF {f : Fl} (h : f.Wf) : keyOf Tryz.prog 82 f.val = some (kF f) := by
 have : ∃ l, keyOf Tryz.prog 82 f.val = some l := by
  obtain ⟨⟨h0, ⟨h1, h2, h3, h4⟩, ⟨h5, h6, h7, h8⟩, ⟨h9, h10, h11, h12⟩, h13, h14⟩, ⟨h15, h16, h17, h18⟩⟩ := h
  obtain ⟨⟨k, ⟨x, y, wd, ht⟩, ⟨c0, c1, c2, c3⟩, ⟨d0, d1, d2, d3⟩, t, n⟩, ⟨q0, q1, q2, q3⟩⟩ := f
  simp only at h0 h1 h2 h3 h4 h5 h6 h7 h8 h9 h10 h11 h12 h13 h14 h15 h16 h17 h18
  have U := Tryz.underlying82
  have K1 : Tryz.prog.keyType 82 = true := by kernel_rfl
  have z : Tryz.prog.cellsOf 82 = 19 := by kernel_rfl
  have K3 : ∃ L, Tryz.prog.keyLits (Tryz.prog.types.size + 1) 82 [.int .u8 k, .int .i64 x, .int .i64 y, .int .i64 wd, .int .i64 ht, .int .u8 c0, .int .u8 c1, .int .u8 c2, .int .u8 c3, .int .u8 d0, .int .u8 d1, .int .u8 d2, .int .u8 d3, .string t, .int .i64 n, .int .i64 q0, .int .i64 q1, .int .i64 q2, .int .i64 q3] = some L := by
   obtain ⟨d, hd⟩ : ∃ d, Tryz.prog.types.size + 1 = d + 6 := ⟨Tryz.prog.types.size - 5, by have : 6 ≤ Tryz.prog.types.size := of_decide_eq_true (by kernel_rfl); omega⟩
   rw [hd]
   have zi : Tryz.prog.cellsOf 3 = 1 := by kernel_rfl
   have z8 : Tryz.prog.cellsOf 5 = 1 := by kernel_rfl
   have zt : Tryz.prog.cellsOf 9 = 1 := by kernel_rfl
   have zp : Tryz.prog.cellsOf 30 = 2 := by kernel_rfl
   have zz : Tryz.prog.cellsOf 24 = 2 := by kernel_rfl
   have zr : Tryz.prog.cellsOf 32 = 4 := by kernel_rfl
   have zc : Tryz.prog.cellsOf 34 = 4 := by kernel_rfl
   have zs : Tryz.prog.cellsOf 36 = 15 := by kernel_rfl
   have pt : ∀ e x y, I64 x → I64 y → ∃ L, Tryz.prog.keyLits (e + 2) 30 [.int .i64 x, .int .i64 y] = some L := fun e x y hx hy => by
    refine lits_struct Tryz.underlying30 (by kernel_rfl) (by kernel_rfl) ?_; intro f hf; simp only [List.mem_cons, List.not_mem_nil, or_false] at hf
    rcases hf with rfl | rfl
    ·(rw [show Tryz.prog.cellsOf _ = 1 from zi]; exact lits_int Tryz.underlying3 (i64_wf hx))
    ·(rw [show Tryz.prog.cellsOf _ = 1 from zi]; exact lits_int Tryz.underlying3 (i64_wf hy))
   have sz : ∀ e x y, I64 x → I64 y → ∃ L, Tryz.prog.keyLits (e + 2) 24 [.int .i64 x, .int .i64 y] = some L := fun e x y hx hy => by
    refine lits_struct Tryz.underlying24 (by kernel_rfl) (by kernel_rfl) ?_; intro f hf; simp only [List.mem_cons, List.not_mem_nil, or_false] at hf
    rcases hf with rfl | rfl
    ·(rw [show Tryz.prog.cellsOf _ = 1 from zi]; exact lits_int Tryz.underlying3 (i64_wf hx))
    ·(rw [show Tryz.prog.cellsOf _ = 1 from zi]; exact lits_int Tryz.underlying3 (i64_wf hy))
   have re : ∀ e x y a b, I64 x → I64 y → I64 a → I64 b → ∃ L, Tryz.prog.keyLits (e + 3) 32 [.int .i64 x, .int .i64 y, .int .i64 a, .int .i64 b] = some L := fun e x y a b hx hy ha hb => by
    refine lits_struct Tryz.underlying32 (by kernel_rfl) (by kernel_rfl) ?_; intro f hf; simp only [List.mem_cons, List.not_mem_nil, or_false] at hf
    rcases hf with rfl | rfl
    ·rw [show Tryz.prog.cellsOf _ = 2 from zp]; exact pt e x y hx hy
    ·rw [show Tryz.prog.cellsOf _ = 2 from zz]; exact sz e a b ha hb
   have co : ∀ e x y a b, U8 x → U8 y → U8 a → U8 b → ∃ L, Tryz.prog.keyLits (e + 2) 34 [.int .u8 x, .int .u8 y, .int .u8 a, .int .u8 b] = some L := fun e x y a b hx hy ha hb => by
    refine lits_struct Tryz.underlying34 (by kernel_rfl) (by kernel_rfl) ?_; intro f hf; simp only [List.mem_cons, List.not_mem_nil, or_false] at hf
    rcases hf with rfl | rfl | rfl | rfl
    ·(rw [show Tryz.prog.cellsOf _ = 1 from z8]; exact lits_int Tryz.underlying5 (u8_wf hx))
    ·(rw [show Tryz.prog.cellsOf _ = 1 from z8]; exact lits_int Tryz.underlying5 (u8_wf hy))
    ·(rw [show Tryz.prog.cellsOf _ = 1 from z8]; exact lits_int Tryz.underlying5 (u8_wf ha))
    ·(rw [show Tryz.prog.cellsOf _ = 1 from z8]; exact lits_int Tryz.underlying5 (u8_wf hb))
   have st : ∃ L, Tryz.prog.keyLits (d + 5) 36 [.int .u8 k, .int .i64 x, .int .i64 y, .int .i64 wd, .int .i64 ht, .int .u8 c0, .int .u8 c1, .int .u8 c2, .int .u8 c3, .int .u8 d0, .int .u8 d1, .int .u8 d2, .int .u8 d3, .string t, .int .i64 n] = some L := by
    refine lits_struct Tryz.underlying36 (by kernel_rfl) (by kernel_rfl) ?_; intro f hf; simp only [List.mem_cons, List.not_mem_nil, or_false] at hf
    rcases hf with rfl | rfl | rfl | rfl | rfl | rfl
    ·(rw [show Tryz.prog.cellsOf _ = 1 from z8]; exact lits_int Tryz.underlying5 (u8_wf h0))
    ·rw [show Tryz.prog.cellsOf _ = 4 from zr]; exact re (d + 1) x y wd ht h1 h2 h3 h4
    ·rw [show Tryz.prog.cellsOf _ = 4 from zc]; exact co (d + 2) c0 c1 c2 c3 h5 h6 h7 h8
    ·rw [show Tryz.prog.cellsOf _ = 4 from zc]; exact co (d + 2) d0 d1 d2 d3 h9 h10 h11 h12
    ·rw [show Tryz.prog.cellsOf _ = 1 from zt]; exact lits_str Tryz.underlying9 h13
    ·(rw [show Tryz.prog.cellsOf _ = 1 from zi]; exact lits_int Tryz.underlying3 (i64_wf h14))
   refine lits_struct Tryz.underlying82 (by kernel_rfl) (by kernel_rfl) ?_; intro f hf; simp only [List.mem_cons, List.not_mem_nil, or_false] at hf
   rcases hf with rfl | rfl
   ·rw [show Tryz.prog.cellsOf _ = 15 from zs]; exact st
   ·rw [show Tryz.prog.cellsOf _ = 4 from zr]; exact re (d + 2) q0 q1 q2 q3 h15 h16 h17 h18
  obtain ⟨L, hL⟩ := K3
  refine ⟨.string (keyBytes L), ?_⟩
  unfold keyOf
  rw [U]
  simp only [K1, Bool.true_and]
  rw [if_pos (by simp [Value.formed, U, z, Fl.val, Fl.enc, St.enc, Re.enc, Co.enc])]
  have hv : (Fl.val ⟨⟨k, ⟨x, y, wd, ht⟩, ⟨c0, c1, c2, c3⟩, ⟨d0, d1, d2, d3⟩, t, n⟩, ⟨q0, q1, q2, q3⟩⟩).cells.toList = [.int .u8 k, .int .i64 x, .int .i64 y, .int .i64 wd, .int .i64 ht, .int .u8 c0, .int .u8 c1, .int .u8 c2, .int .u8 c3, .int .u8 d0, .int .u8 d1, .int .u8 d2, .int .u8 d3, .string t, .int .i64 n, .int .i64 q0, .int .i64 q1, .int .i64 q2, .int .i64 q3] := rfl
  rw [hv, hL]
  rfl
 obtain ⟨l, hl⟩ := this
 unfold kF
 rw [hl]
 rfl
theorem enc_fl {f g : Fl} (h : f.enc = g.enc) : f = g := by
  obtain ⟨⟨k, ⟨x, y, wd, ht⟩, ⟨c0, c1, c2, c3⟩, ⟨b0, b1, b2, b3⟩, t, n⟩, ⟨q0, q1, q2, q3⟩⟩ := f
  obtain ⟨⟨k', ⟨x', y', wd', ht'⟩, ⟨c0', c1', c2', c3'⟩, ⟨b0', b1', b2', b3'⟩, t', n'⟩, ⟨q0', q1', q2', q3'⟩⟩ := g
  simp [Fl.enc, St.enc, Re.enc, Co.enc] at h
  simp [h]
set_option maxRecDepth 100000 in
theorem kF_inj {f g : Fl} (hf : f.Wf) (hg : g.Wf) (h : kF f = kF g) : f = g := by
  have e := lawF.inj (keyF hf) (by rw [h]; exact keyF hg)
  unfold Fl.val at e
  injection e with e
  exact enc_fl (by simpa using e)
set_option maxRecDepth 100000
theorem key_lit {f : Fl} (h : f.Wf) : WideAt.IsKeyLit (kF f) := by
  have h := keyF h
  exact lawF.key h
/-! ### the map -/
def numD (n : Int) : DataW Unit := .lit (.int .i64 n)
/-- The map holds the flat strokes whose count is not nought, each with its count. -/
def MapIs (D : DataW Unit) (c : Fl → Int) : Prop :=
  (∀ f, f.Wf → D.atKey (kF f) (numD 0) = numD (c f)) ∧ (∀ f, f.Wf → (Maps.has D (kF f) = true ↔ c f ≠ 0)) ∧ ∀ kl, Maps.has D kl = true → ∃ f, f.Wf ∧ kl = kF f
theorem mapIs_nil : MapIs (.map []) fun _ => 0 := ⟨fun f _ => rfl, fun f _ => by simp [Maps.has], fun kl h => by simp [Maps.has] at h⟩
theorem mapIs_ext {D : DataW Unit} {c c' : Fl → Int} (h : MapIs D c) (e : ∀ f, f.Wf → c f = c' f) : MapIs D c' :=
  ⟨fun f hf => by rw [h.1 f hf, e f hf], fun f hf => by rw [h.2.1 f hf, e f hf], h.2.2⟩
def setC (c : Fl → Int) (f : Fl) (n : Int) : Fl → Int := fun g => if g.eqb f then n else c g
theorem setC_same (c : Fl → Int) (f : Fl) (n : Int) : setC c f n f = n := by unfold setC; rw [Fl.eqb_refl]; rfl
theorem setC_other {c : Fl → Int} {f g : Fl} {n : Int} (h : g ≠ f) : setC c f n g = c g := by
  unfold setC
  rw [if_neg (fun e => h (Fl.eqb_iff.1 e))]
theorem mapIs_put {D : DataW Unit} {c : Fl → Int} {f : Fl} {n : Int} (h : MapIs D c) (hD : IsMap D) (hf : f.Wf) (hn : n ≠ 0) : MapIs (D.put (kF f) (numD n)) (setC c f n) := by
  have hk := key_lit hf
  refine ⟨fun g hg => ?_, fun g hg => ?_, fun kl hkl => ?_⟩
  · by_cases e : g = f
    · subst e
      rw [atKey_put_same hD hk, setC_same]
    · rw [atKey_put_other (fun e' => e (kF_inj hg hf e')), setC_other e]
      exact h.1 g hg
  · by_cases e : g = f
    · subst e
      rw [has_put_same hD hk, setC_same]
      simp [hn]
    · rw [has_put_other (fun e' => e (kF_inj hg hf e')), setC_other e]
      exact h.2.1 g hg
  · by_cases e : kl = kF f
    · exact ⟨f, hf, e⟩
    · rw [has_put_other e] at hkl
      exact h.2.2 kl hkl
theorem mapIs_del {D : DataW Unit} {c : Fl → Int} {f : Fl} {d : DataW Unit} (h : MapIs D c) (hf : f.Wf) : MapIs ((D.put (kF f) d).del (kF f)) (setC c f 0) := by
  refine ⟨fun g hg => ?_, fun g hg => ?_, fun kl hkl => ?_⟩
  · by_cases e : g = f
    · subst e
      rw [atKey_del_same, setC_same]
    · rw [atKey_del_other (fun e' => e (kF_inj hg hf e')), atKey_put_other (fun e' => e (kF_inj hg hf e')), setC_other e]
      exact h.1 g hg
  · by_cases e : g = f
    · subst e
      rw [has_del_same, setC_same]
      simp
    · rw [has_del_other (fun e' => e (kF_inj hg hf e')), has_put_other (fun e' => e (kF_inj hg hf e')), setC_other e]
      exact h.2.1 g hg
  · by_cases e : kl = kF f
    · rw [e, has_del_same] at hkl
      cases hkl
    · rw [has_del_other e, has_put_other e] at hkl
      exact h.2.2 kl hkl
/-! ### its counts -/
theorem cnt_take {l : List Fl} {k : Nat} {f : Fl} (h : l[k]? = some f) (g : Fl) : cntF (l.take (k + 1)) g = cntF (l.take k) g + if g.eqb f then 1 else 0 := by
  rw [List.take_add_one, h, Option.toList_some, cntF_append, cntF_cons, Fl.eqb_comm f g]
  simp [cntF]
def upC (a : List Fl) (k : Nat) : Fl → Int := fun f => cntF (a.take k) f
def downC (a b : List Fl) (k : Nat) : Fl → Int := fun f => cntF a f - cntF (b.take k) f
theorem upC_step {a : List Fl} {k : Nat} {f : Fl} (h : a[k]? = some f) : setC (upC a k) f (upC a k f + 1) = upC a (k + 1) := by
  funext g
  by_cases e : g = f
  · subst e
    rw [setC_same]
    unfold upC
    rw [cnt_take h, Fl.eqb_refl]
    simp
  · rw [setC_other e]
    unfold upC
    rw [cnt_take h, if_neg (fun e' => e (Fl.eqb_iff.1 e')), Nat.add_zero]
theorem downC_step {a b : List Fl} {k : Nat} {f : Fl} (h : b[k]? = some f) : setC (downC a b k) f (downC a b k f - 1) = downC a b (k + 1) := by
  funext g
  by_cases e : g = f
  · subst e
    rw [setC_same]
    unfold downC
    rw [cnt_take h, Fl.eqb_refl]
    simp
    omega
  · rw [setC_other e]
    unfold downC
    rw [cnt_take h, if_neg (fun e' => e (Fl.eqb_iff.1 e')), Nat.add_zero]
theorem upC_end (a b : List Fl) : upC a a.length = downC a b 0 := by
  funext f
  unfold upC downC
  rw [List.take_length]
  simp [cntF]
theorem downC_end (a b : List Fl) (f : Fl) : downC a b b.length f ≠ 0 ↔ cntF a f ≠ cntF b f := by
  unfold downC
  rw [List.take_length]
  omega
theorem cnt_le (l : List Fl) (f : Fl) : cntF l f ≤ l.length := List.countP_le_length
theorem upC_bd (a : List Fl) (k : Nat) (f : Fl) : 0 ≤ upC a k f ∧ upC a k f ≤ k := by
  unfold upC
  have := cnt_le (a.take k) f
  rw [List.length_take] at this
  omega
theorem downC_bd (a b : List Fl) (k : Nat) (f : Fl) : - k ≤ downC a b k f ∧ downC a b k f ≤ a.length := by
  unfold downC
  have := cnt_le (b.take k) f
  have := cnt_le a f
  rw [List.length_take] at *
  omega
/-! ### what has come of the map -/
/-- The nodes of the flat strokes that have come. -/
def ColF (c : Fl → Int) (left : Lit → Bool) (ns : List Int) : Prop := ∀ n, n ∈ ns ↔ ∃ f : Fl, f.Wf ∧ c f ≠ 0 ∧ left (kF f) = false ∧ f.s.node = n
theorem colF_start {D : DataW Unit} {c : Fl → Int} (h : MapIs D c) : ColF c (Maps.has D) [] := fun n => by
  constructor
  · intro h'; cases h'
  · rintro ⟨f, hf, h1, h2, _⟩
    rw [(h.2.1 f hf).2 h1] at h2
    cases h2
theorem sameKey_is {a b : Lit} (hb : WideAt.IsKeyLit b) : a.sameKey b = true ↔ a = b := by
  constructor
  · intro h
    exact Classical.byContradiction fun e => by rw [sameKey_ne e] at h; cases h
  · rintro rfl
    cases a <;> simp_all [Lit.sameKey, WideAt.IsKeyLit]
theorem colF_step {c : Fl → Int} {left : Lit → Bool} {ns : List Int} {f : Fl} (h : ColF c left ns) (hf : f.Wf) (hc : c f ≠ 0) (hl : left (kF f) = true) :
    ColF c (fun z => left z && !z.sameKey (kF f)) (ns ++ [f.s.node]) := fun n => by
  have hk := key_lit hf
  rw [List.mem_append, h n, List.mem_singleton]
  constructor
  · rintro (⟨g, hg, h1, h2, h3⟩ | e)
    · exact ⟨g, hg, h1, by simp only [h2, Bool.false_and], h3⟩
    · exact ⟨f, hf, hc, by simp only [(sameKey_is hk).2 rfl, Bool.not_true, Bool.and_false], e.symm⟩
  · rintro ⟨g, hg, h1, h2, h3⟩
    by_cases e : g = f
    · subst e; exact .inr h3.symm
    · refine .inl ⟨g, hg, h1, ?_, h3⟩
      have : (kF g).sameKey (kF f) = false := sameKey_ne fun e' => e (kF_inj hg hf e')
      simp only [this, Bool.not_false, Bool.and_true] at h2
      exact h2
theorem colF_end {a b : List Fl} {left : Lit → Bool} {ns : List Int} (h : ColF (downC a b b.length) left ns) (hl : ∀ k, left k = false) (ha : ∀ f ∈ a, f.Wf) (hb : ∀ f ∈ b, f.Wf) {l : List Int} (hr : Rise l) (hm : ∀ x, x ∈ l ↔ x ∈ ns) : l = nodL a b :=
  nod_unique ⟨hr, fun n => by
    rw [hm, h n]
    constructor
    · rintro ⟨f, _, h1, _, h3⟩
      exact ⟨f, (downC_end a b f).1 h1, h3⟩
    · rintro ⟨f, h1, h3⟩
      refine ⟨f, ?_, (downC_end a b f).2 h1, hl _, h3⟩
      by_cases c : f ∈ a
      · exact ha f c
      · refine hb f (cntF_pos.1 ?_)
        have : ¬ 0 < cntF a f := fun h => c (cntF_pos.1 h)
        omega⟩ (nod_is a b)
end Go.Proofs.YtfcphagmjijmkaaGreatDoor

namespace Go.Proofs.YtfcphagmjijmkaaGreatDoor
open Go.RowKit
set_option linter.unusedVariables false
attribute [local go_sem] vwp vUpon_value vUpon_skip vUpon_enter vUpon_row
set_option linter.unusedSimpArgs false
set_option linter.unusedVariables false
open Go.ChangeShapes Go.WideShapes Go.MapKept Go.ChangeMaps Go.WideElems
open Go.WideMaps (KeyLaw)
section
variable {H : Type} {P : Program} {w : World} {t k e : TypeId} {R : Value → Option (DataW H × List MemPlace)} {b : Nat} {es : Array MapEntry} {clock : Nat}
theorem modify_same (es : Array MapEntry) (j : Nat) (e0 : MapEntry) (hj : es[j]? = some e0) (f : MapEntry → MapEntry) (hf : f e0 = e0) : es.modify j f = es := by
  apply Array.ext'
  rw [Array.toList_modify]
  apply List.ext_getElem?
  intro i
  rw [List.getElem?_modify]
  by_cases c : j = i
  · subst c
    have : es.toList[j]? = some e0 := by simpa using hj
    rw [this]
    simp [hf]
  · simp [c]
/-- The look-up, the entry, the look-up behind the entry, and the entry as a store of what is there. -/
theorem entry_look (K : KeyLaw P k) (ht : P.underlying t = some (.map k e)) {z : Value} (hz : ∀ u : World, (zeroValue e).run P u = .ok z u) (hb : w.heap[b]? = some (.map es clock)) (F : Fit P k R es clock)
  {key : Value} {kl : Lit} (hkey : keyOf P k key = some kl) :
  ∃ (v0 : Value) (st : Nat) (w1 : World), (Instr.lookup t (.map (some b)) key false).run P w = .ok v0 w ∧ (Instr.mapEntry t (.map (some b)) key).run P w = .ok (.tuple #[v0, goInt st]) w1 ∧
   (Instr.mapUpdate t (.map (some b)) key v0).run P w = .ok () w1 := by
 rcases K.find w hkey es.toList F.keys with ⟨h1, h2⟩ | ⟨j, e0, h1, h2, h3⟩
 ·refine ⟨z, clock, setBlock w b (.map (es.push ⟨key, z, clock⟩) (clock + 1)), ?_, ?_, ?_⟩
  ·simp [Instr.lookup, run_underlying ht, MapKept.run_getObj_map hb, K.check w es.isEmpty hkey, h1, hz]
  ·simp [Instr.mapEntry, run_underlying ht, MapKept.run_getObj_map hb, K.check w false hkey, h1, hz, MapKept.run_setObj_map _ hb, Result.andThen, setBlock]
  ·simp [Instr.mapUpdate, run_underlying ht, MapKept.run_getObj_map hb, K.check w false hkey, h1, MapKept.run_setObj_map _ hb, Result.andThen, setBlock]
 ·have hj : es[j]? = some e0 := by simpa using h2
  have e1 := modify_same es j e0 hj (fun e => { e with key := key }) (by rw [← h3])
  have e2 := modify_same es j e0 hj (fun e => { e with key := key, val := e0.val }) (by rw [← h3])
  refine ⟨e0.val, e0.born, setBlock w b (.map es clock), ?_, ?_, ?_⟩
  ·simp [Instr.lookup, run_underlying ht, MapKept.run_getObj_map hb, K.check w es.isEmpty hkey, h1, hz]
  ·simp [Instr.mapEntry, run_underlying ht, MapKept.run_getObj_map hb, K.check w false hkey, h1, hj, h3, K.stays w hkey, e1, MapKept.run_setObj_map _ hb, Result.andThen, setBlock]
  ·simp [Instr.mapUpdate, run_underlying ht, MapKept.run_getObj_map hb, K.check w false hkey, h1, hj, h3, K.stays w hkey, e2, MapKept.run_setObj_map _ hb, Result.andThen, setBlock]
theorem setBlock_two (w : World) (b : Nat) (x y : Obj) : setBlock (setBlock w b x) b y = setBlock w b y := by
  unfold setBlock
  simp
/-- 'm[k] op= v', each of its operations. -/
theorem entry_all {q : IntKind} {n : Nat} {D : DataW H} (K : KeyLaw P k) (ht : P.underlying t = some (.map k e)) (he : P.underlying e = some (.int q)) (hz : ∀ u : World, (zeroValue e).run P u = .ok (.int q 0) u)
  (h : w.ownsMap P k (plainElem P e) b n D) (hn : n < maxLen) {key : Value} {kl : Lit} (hkey : keyOf P k key = some kl) :
  ∃ (c : Int) (st : Nat) (w1 : World), (Instr.lookup t (.map (some b)) key false).run P w = .ok (.int q c) w ∧ D.atKey kl (.lit (.int q 0)) = .lit (.int q c) ∧
   (Instr.mapEntry t (.map (some b)) key).run P w = .ok (.tuple #[.int q c, goInt st]) w1 ∧ (Instr.lookup t (.map (some b)) key false).run P w1 = .ok (.int q c) w1 ∧ w.grownBy w1 (some b) ∧
   ∀ v, (Lit.int q v).wf = true → ∃ w2, (Instr.entryStore t (.map (some b)) (goInt st) (.int q v)).run P w1 = .ok () w2 ∧ w2.ownsMap P k (plainElem P e) b (n + 1) (D.put kl (.lit (.int q v))) ∧ w.grownBy w2 (some b) := by
 have KK := Maps.Keyed.of_law K
 obtain ⟨c, hl, hat, hwc⟩ := h.lookup_int KK ht he (hz w) hkey
 have h' := h
 obtain ⟨es, clock, hb, F, hs, hD⟩ := h'
 obtain ⟨v0, st, w1, a1, a2, a3⟩ := entry_look (es := es) (clock := clock) K ht hz hb F hkey
 obtain ⟨v1, st1, es1, clock1, b1, _, b3⟩ := entry_then_store (es := es) (clock := clock) K ht hz hb F hkey
 have ev : v0 = .int q c := by rw [hl] at a1; injection a1 with a1; exact a1.symm
 subst ev
 rw [b1] at a2
 injection a2 with a2 a4
 simp only [Value.tuple.injEq, Array.mk.injEq, List.cons.injEq, and_true] at a2
 obtain ⟨rfl, a5⟩ := a2
 obtain ⟨w1', c1, c2, c3⟩ := h.update KK ht hn hkey (plainElem_int he hwc)
 rw [a3] at c1
 injection c1 with _ c1
 subst c1
 have hb1 : w1.heap[b]? = some (.map es1 clock1) := by rw [← a4]; exact heap_setBlock_same hb _
 obtain ⟨c', d1, d2, _⟩ := c2.lookup_int KK ht he (hz w1) hkey
 rw [Maps.atKey_put_same h.isMap (KK.key hkey)] at d2
 injection d2 with d2
 injection d2 with _ d2
 subst d2
 refine ⟨c, st, w1, hl, hat, by rw [b1, a5, a4], d1, c3, fun v hv => ?_⟩
 obtain ⟨es', clock', e1, e2⟩ := b3 w1 (.int q v) hb1
 obtain ⟨w2, f1, f2, f3⟩ := h.update KK ht hn hkey (plainElem_int he hv)
 rw [e2] at f1
 injection f1 with _ f1
 subst f1
 rw [← a4, setBlock_two] at e1
 rw [← a4, ← a5]
 exact ⟨_, e1, f2, f3⟩
end
end Go.Proofs.YtfcphagmjijmkaaGreatDoor
