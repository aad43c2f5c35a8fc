/-
  Strokes that came in, opened.
-/
import Derived.Test.YtlklmncjicgbgaaLisC
namespace Go.Proofs.Ytlklmncjicgbgaa
open Go.RowKit
set_option linter.unusedVariables false
attribute [local go_sem] vwp vUpon_value vUpon_skip vUpon_enter vUpon_row
set_option linter.unusedSimpArgs false
set_option linter.unusedVariables false
structure Co where
  r : Int
  g : Int
  b : Int
  a : Int
structure St where
  kind : Int
  rect : Re
  col : Co
  back : Co
  text : ByteArray
  node : Int
instance : Inhabited St := ⟨⟨0, default, ⟨0, 0, 0, 0⟩, ⟨0, 0, 0, 0⟩, default, 0⟩⟩
def Co.Wf (c : Co) : Prop := U8 c.r ∧ U8 c.g ∧ U8 c.b ∧ U8 c.a
def Co.enc (c : Co) : List Value := [.int .u8 c.r, .int .u8 c.g, .int .u8 c.b, .int .u8 c.a]
def Re.enc (q : Re) : List Value := [.int .i64 q.x, .int .i64 q.y, .int .i64 q.wd, .int .i64 q.ht]
def St.enc (s : St) : List Value := [.int .u8 s.kind] ++ s.rect.enc ++ s.col.enc ++ s.back.enc ++ [.string s.text, .int .i64 s.node]
def St.Wf (s : St) : Prop := U8 s.kind ∧ s.rect.Wf ∧ s.col.Wf ∧ s.back.Wf ∧ s.text.size ≤ maxLen ∧ I64 s.node
section
variable {H : Type} {enc : TypeId × Value → H} {w : World} {base : Nat} {spare : Nat → Bool} {held : Bool}
theorem field_of {P : Program} {t : TypeId} {fs : Array Field} {fuel : Nat} {cs : List Value} {x : DataW H × List MemPlace} (hs : P.underlying t = some (.struct fs)) (h : DataW.trod enc P w base spare held fuel t cs = some x)
    (j off k : Nat) (ty : TypeId) (f : Field) (hj : fs[j]? = some f) (ht : f.type = ty) (ho : f.offset = off) (hk : P.cellsOf ty = k) : ∃ (n : Nat) (y : DataW H × List MemPlace), DataW.trod enc P w base spare held n ty ((cs.drop off).take k) = some y := by
  subst ht
  subst ho
  subst hk
  obtain ⟨ys, n, _, _, _, hyl, hf⟩ := DataW.trod_struct hs h
  have h1 := hf j f hj
  have hjl : j < fs.size := (Array.getElem?_eq_some_iff.1 hj).1
  exact ⟨n, _, h1.trans (List.getElem?_eq_getElem (by omega))⟩
theorem point_of {fuel : Nat} {c0 c1 : Value} {x : DataW H × List MemPlace} (h : DataW.trod enc Try.prog w base spare held fuel 34 [c0, c1] = some x) : ∃ a b : Int, I64 a ∧ I64 b ∧ c0 = .int .i64 a ∧ c1 = .int .i64 b := by
  obtain ⟨m0, y0, h0⟩ := field_of Try.underlying34 h 0 0 1 3 _ rfl rfl rfl (by kernel_rfl)
  obtain ⟨m1, y1, h1⟩ := field_of Try.underlying34 h 1 1 1 3 _ rfl rfl rfl (by kernel_rfl)
  simp only [List.drop_zero, List.drop_succ_cons, List.take_succ_cons, List.take_zero] at h0 h1
  obtain ⟨n0, e0, z0, wf0⟩ := DataW.trod_int Try.underlying3 h0; simp at e0; subst e0
  obtain ⟨n1, e1, z1, wf1⟩ := DataW.trod_int Try.underlying3 h1; simp at e1; subst e1
  exact ⟨n0, n1, i64_of wf0, i64_of wf1, rfl, rfl⟩
theorem size_of {fuel : Nat} {c0 c1 : Value} {x : DataW H × List MemPlace} (h : DataW.trod enc Try.prog w base spare held fuel 47 [c0, c1] = some x) : ∃ a b : Int, I64 a ∧ I64 b ∧ c0 = .int .i64 a ∧ c1 = .int .i64 b := by
  obtain ⟨m0, y0, h0⟩ := field_of Try.underlying47 h 0 0 1 3 _ rfl rfl rfl (by kernel_rfl)
  obtain ⟨m1, y1, h1⟩ := field_of Try.underlying47 h 1 1 1 3 _ rfl rfl rfl (by kernel_rfl)
  simp only [List.drop_zero, List.drop_succ_cons, List.take_succ_cons, List.take_zero] at h0 h1
  obtain ⟨n0, e0, z0, wf0⟩ := DataW.trod_int Try.underlying3 h0; simp at e0; subst e0
  obtain ⟨n1, e1, z1, wf1⟩ := DataW.trod_int Try.underlying3 h1; simp at e1; subst e1
  exact ⟨n0, n1, i64_of wf0, i64_of wf1, rfl, rfl⟩
theorem rect_of {fuel : Nat} {c0 c1 c2 c3 : Value} {x : DataW H × List MemPlace} (h : DataW.trod enc Try.prog w base spare held fuel 49 [c0, c1, c2, c3] = some x) : ∃ q : Re, q.Wf ∧ [c0, c1, c2, c3] = q.enc := by
  obtain ⟨m0, y0, h0⟩ := field_of Try.underlying49 h 0 0 2 34 _ rfl rfl rfl (by kernel_rfl)
  obtain ⟨m1, y1, h1⟩ := field_of Try.underlying49 h 1 2 2 47 _ rfl rfl rfl (by kernel_rfl)
  simp only [List.drop_zero, List.drop_succ_cons, List.take_succ_cons, List.take_zero] at h0 h1
  obtain ⟨a, b, wa, wb, rfl, rfl⟩ := point_of h0
  obtain ⟨c, d, wc, wd, rfl, rfl⟩ := size_of h1
  exact ⟨⟨a, b, c, d⟩, ⟨wa, wb, wc, wd⟩, rfl⟩
theorem list15 {cs : List Value} (h : cs.length = 15) : ∃ a b c d e f g i j k l m n o p, cs = [a, b, c, d, e, f, g, i, j, k, l, m, n, o, p] := by
  match cs, h with
  | [a, b, c, d, e, f, g, i, j, k, l, m, n, o, p], _ => exact ⟨a, b, c, d, e, f, g, i, j, k, l, m, n, o, p, rfl⟩
end
end Go.Proofs.Ytlklmncjicgbgaa
