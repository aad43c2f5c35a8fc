/-
  Strokes that came in, opened.
-/
import Derived.Test.YtpbolbpenkfpiaaDoorLisC
namespace Go.Proofs.YtpbolbpenkfpiaaDoor
open Go.RowKit
set_option linter.unusedVariables false
attribute [local go_sem] vwp vUpon_value vUpon_skip vUpon_enter vUpon_row
set_option linter.unusedSimpArgs false
set_option linter.unusedVariables false
structure Co where
  r : Int
  g : Int
  b : Int
  a : Int
structure St where
  kind : Int
  rect : Re
  col : Co
  back : Co
  text : ByteArray
  node : Int
instance : Inhabited St := ⟨⟨0, default, ⟨0, 0, 0, 0⟩, ⟨0, 0, 0, 0⟩, default, 0⟩⟩
def Co.Wf (c : Co) : Prop := U8 c.r ∧ U8 c.g ∧ U8 c.b ∧ U8 c.a
def Co.enc (c : Co) : List Value := [.int .u8 c.r, .int .u8 c.g, .int .u8 c.b, .int .u8 c.a]
def Re.enc (q : Re) : List Value := [.int .i64 q.x, .int .i64 q.y, .int .i64 q.wd, .int .i64 q.ht]
def St.enc (s : St) : List Value := [.int .u8 s.kind] ++ s.rect.enc ++ s.col.enc ++ s.back.enc ++ [.string s.text, .int .i64 s.node]
def St.Wf (s : St) : Prop := U8 s.kind ∧ s.rect.Wf ∧ s.col.Wf ∧ s.back.Wf ∧ s.text.size ≤ maxLen ∧ I64 s.node
section
variable {H : Type} {enc : TypeId × Value → H} {w : World} {base : Nat} {spare : Nat → Bool} {held : Bool}
theorem field_of {P : Program} {t : TypeId} {fs : Array Field} {fuel : Nat} {cs : List Value} {x : DataW H × List MemPlace} (hs : P.underlying t = some (.struct fs)) (h : DataW.trod enc P w base spare held fuel t cs = some x)
    (j off k : Nat) (ty : TypeId) (f : Field) (hj : fs[j]? = some f) (ht : f.type = ty) (ho : f.offset = off) (hk : P.cellsOf ty = k) : ∃ (n : Nat) (y : DataW H × List MemPlace), DataW.trod enc P w base spare held n ty ((cs.drop off).take k) = some y := by
  subst ht
  subst ho
  subst hk
  obtain ⟨ys, n, _, _, _, hyl, hf⟩ := DataW.trod_struct hs h
  have h1 := hf j f hj
  have hjl : j < fs.size := (Array.getElem?_eq_some_iff.1 hj).1
  exact ⟨n, _, h1.trans (List.getElem?_eq_getElem (by omega))⟩
theorem colour_of {fuel : Nat} {c0 c1 c2 c3 : Value} {x : DataW H × List MemPlace} (h : DataW.trod enc Tryd.prog w base spare held fuel 30 [c0, c1, c2, c3] = some x) : ∃ c : Co, c.Wf ∧ [c0, c1, c2, c3] = c.enc := by
  obtain ⟨m0, y0, h0⟩ := field_of Tryd.underlying30 h 0 0 1 5 _ rfl rfl rfl (by kernel_rfl)
  obtain ⟨m1, y1, h1⟩ := field_of Tryd.underlying30 h 1 1 1 5 _ rfl rfl rfl (by kernel_rfl)
  obtain ⟨m2, y2, h2⟩ := field_of Tryd.underlying30 h 2 2 1 5 _ rfl rfl rfl (by kernel_rfl)
  obtain ⟨m3, y3, h3⟩ := field_of Tryd.underlying30 h 3 3 1 5 _ rfl rfl rfl (by kernel_rfl)
  simp only [List.drop_zero, List.drop_succ_cons, List.take_succ_cons, List.take_zero] at h0 h1 h2 h3
  obtain ⟨n0, e0, z0, wf0⟩ := DataW.trod_int Tryd.underlying5 h0; simp at e0; subst e0
  obtain ⟨n1, e1, z1, wf1⟩ := DataW.trod_int Tryd.underlying5 h1; simp at e1; subst e1
  obtain ⟨n2, e2, z2, wf2⟩ := DataW.trod_int Tryd.underlying5 h2; simp at e2; subst e2
  obtain ⟨n3, e3, z3, wf3⟩ := DataW.trod_int Tryd.underlying5 h3; simp at e3; subst e3
  exact ⟨⟨n0, n1, n2, n3⟩, ⟨u8_of wf0, u8_of wf1, u8_of wf2, u8_of wf3⟩, rfl⟩
theorem point_of {fuel : Nat} {c0 c1 : Value} {x : DataW H × List MemPlace} (h : DataW.trod enc Tryd.prog w base spare held fuel 26 [c0, c1] = some x) : ∃ a b : Int, I64 a ∧ I64 b ∧ c0 = .int .i64 a ∧ c1 = .int .i64 b := by
  obtain ⟨m0, y0, h0⟩ := field_of Tryd.underlying26 h 0 0 1 3 _ rfl rfl rfl (by kernel_rfl)
  obtain ⟨m1, y1, h1⟩ := field_of Tryd.underlying26 h 1 1 1 3 _ rfl rfl rfl (by kernel_rfl)
  simp only [List.drop_zero, List.drop_succ_cons, List.take_succ_cons, List.take_zero] at h0 h1
  obtain ⟨n0, e0, z0, wf0⟩ := DataW.trod_int Tryd.underlying3 h0; simp at e0; subst e0
  obtain ⟨n1, e1, z1, wf1⟩ := DataW.trod_int Tryd.underlying3 h1; simp at e1; subst e1
  exact ⟨n0, n1, i64_of wf0, i64_of wf1, rfl, rfl⟩
theorem size_of {fuel : Nat} {c0 c1 : Value} {x : DataW H × List MemPlace} (h : DataW.trod enc Tryd.prog w base spare held fuel 24 [c0, c1] = some x) : ∃ a b : Int, I64 a ∧ I64 b ∧ c0 = .int .i64 a ∧ c1 = .int .i64 b := by
  obtain ⟨m0, y0, h0⟩ := field_of Tryd.underlying24 h 0 0 1 3 _ rfl rfl rfl (by kernel_rfl)
  obtain ⟨m1, y1, h1⟩ := field_of Tryd.underlying24 h 1 1 1 3 _ rfl rfl rfl (by kernel_rfl)
  simp only [List.drop_zero, List.drop_succ_cons, List.take_succ_cons, List.take_zero] at h0 h1
  obtain ⟨n0, e0, z0, wf0⟩ := DataW.trod_int Tryd.underlying3 h0; simp at e0; subst e0
  obtain ⟨n1, e1, z1, wf1⟩ := DataW.trod_int Tryd.underlying3 h1; simp at e1; subst e1
  exact ⟨n0, n1, i64_of wf0, i64_of wf1, rfl, rfl⟩
theorem rect_of {fuel : Nat} {c0 c1 c2 c3 : Value} {x : DataW H × List MemPlace} (h : DataW.trod enc Tryd.prog w base spare held fuel 28 [c0, c1, c2, c3] = some x) : ∃ q : Re, q.Wf ∧ [c0, c1, c2, c3] = q.enc := by
  obtain ⟨m0, y0, h0⟩ := field_of Tryd.underlying28 h 0 0 2 26 _ rfl rfl rfl (by kernel_rfl)
  obtain ⟨m1, y1, h1⟩ := field_of Tryd.underlying28 h 1 2 2 24 _ rfl rfl rfl (by kernel_rfl)
  simp only [List.drop_zero, List.drop_succ_cons, List.take_succ_cons, List.take_zero] at h0 h1
  obtain ⟨a, b, wa, wb, rfl, rfl⟩ := point_of h0
  obtain ⟨c, d, wc, wd, rfl, rfl⟩ := size_of h1
  exact ⟨⟨a, b, c, d⟩, ⟨wa, wb, wc, wd⟩, rfl⟩
theorem list15 {cs : List Value} (h : cs.length = 15) : ∃ a b c d e f g i j k l m n o p, cs = [a, b, c, d, e, f, g, i, j, k, l, m, n, o, p] := by
  match cs, h with
  | [a, b, c, d, e, f, g, i, j, k, l, m, n, o, p], _ => exact ⟨a, b, c, d, e, f, g, i, j, k, l, m, n, o, p, rfl⟩
theorem stroke_of {fuel : Nat} {cs : List Value} {x : DataW H × List MemPlace} (hl : cs.length = 15) (h : DataW.trod enc Tryd.prog w base spare held fuel 32 cs = some x) : ∃ s : St, s.Wf ∧ cs = s.enc := by
  obtain ⟨a, b, c, d, e, f, g, i, j, k, l, m, n, o, p, rfl⟩ := list15 hl
  obtain ⟨m0, y0, h0⟩ := field_of Tryd.underlying32 h 0 0 1 5 _ rfl rfl rfl (by kernel_rfl)
  obtain ⟨m1, y1, h1⟩ := field_of Tryd.underlying32 h 1 1 4 28 _ rfl rfl rfl (by kernel_rfl)
  obtain ⟨m2, y2, h2⟩ := field_of Tryd.underlying32 h 2 5 4 30 _ rfl rfl rfl (by kernel_rfl)
  obtain ⟨m3, y3, h3⟩ := field_of Tryd.underlying32 h 3 9 4 30 _ rfl rfl rfl (by kernel_rfl)
  obtain ⟨m4, y4, h4⟩ := field_of Tryd.underlying32 h 4 13 1 9 _ rfl rfl rfl (by kernel_rfl)
  obtain ⟨m5, y5, h5⟩ := field_of Tryd.underlying32 h 5 14 1 3 _ rfl rfl rfl (by kernel_rfl)
  simp only [List.drop_zero, List.drop_succ_cons, List.take_succ_cons, List.take_zero] at h0 h1 h2 h3 h4 h5
  obtain ⟨n0, e0, z0, wf0⟩ := DataW.trod_int Tryd.underlying5 h0; simp at e0; subst e0
  obtain ⟨q, wq, eq⟩ := rect_of h1
  obtain ⟨c1, w1, e1⟩ := colour_of h2
  obtain ⟨c2, w2, e2⟩ := colour_of h3
  obtain ⟨t, e4, z4, wt⟩ := DataW.trod_string Tryd.underlying9 h4; simp at e4; subst e4
  obtain ⟨n5, e5, z5, wf5⟩ := DataW.trod_int Tryd.underlying3 h5; simp at e5; subst e5
  refine ⟨⟨n0, q, c1, c2, t, n5⟩, ⟨u8_of wf0, wq, w1, w2, wt, i64_of wf5⟩, ?_⟩
  unfold St.enc
  rw [← eq, ← e1, ← e2]
  rfl
set_option maxRecDepth 100000 in
theorem open_strokes {r : Reach} {b0 : Nat} {v : Value} {d : DataW H} {p : List MemPlace} (hv : Value.okWide Tryd.prog w r b0 22 v) (h : DataW.Trod enc Tryd.prog w base spare held 22 v d p) :
    ∃ xs : List St, Row w.heap.size 15 St.enc w v xs ∧ ∀ x ∈ xs, x.Wf :=
  open_row Tryd.underlying22 (by kernel_rfl) (by omega) (fun n cs y hl ht => stroke_of hl ht) hv h
end
end Go.Proofs.YtpbolbpenkfpiaaDoor
