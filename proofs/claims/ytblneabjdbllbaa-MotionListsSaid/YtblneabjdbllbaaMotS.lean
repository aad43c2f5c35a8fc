/-
  Structs of one-cell fields, by value and in lists, opened, whatever the number of fields; motions, and lists of motions.
-/
import Derived.Test.YtblneabjdbllbaaMotK
import Derived.Deep.Slices
import Derived.Deep.Fields
import Derived.ChangeSame
import Derived.Lib.SmallJoins
namespace Go.Proofs.Ytblneabjdbllbaa
open Go Go.RowKit Go.ChangeShapes Go.WideShapes Go.Deep Go.Joins
set_option linter.unusedVariables false
section
variable {H : Type} {enc : TypeId × Value → H} {P : Program} {w : World} {base : Nat} {spare : Nat → Bool} {held : Bool}
theorem fields_of {t : TypeId} {fs : Array Field} {fuel : Nat} {cs : List Value} {x : DataW H × List MemPlace} (hs : P.underlying t = some (.struct fs)) (hone : oneCellFields P fs = true) (hl : cs.length = fs.size)
    (h : DataW.trod enc P w base spare held fuel t cs = some x) :
    ∃ n, ∀ (j : Nat) (f : Field), fs[j]? = some f → ∃ (v : Value) (y : DataW H × List MemPlace), cs[j]? = some v ∧ DataW.trod enc P w base spare held n f.type [v] = some y := by
  obtain ⟨ys, n', hn', hy, hlen, hyl, hf⟩ := DataW.trod_struct hs h
  refine ⟨n', fun j f hj => ?_⟩
  obtain ⟨ho, hk⟩ := hone_of hone j f hj
  have hjl : j < fs.size := (Array.getElem?_eq_some_iff.1 hj).1
  have hv : cs[j]? = some (cs[j]'(by omega)) := List.getElem?_eq_getElem (by omega)
  have h1 := hf j f hj
  rw [ho, hk] at h1
  have hone' : (cs.drop j).take 1 = [cs[j]'(by omega)] := by
    rw [List.drop_eq_getElem_cons (by omega)]
    rfl
  rw [hone'] at h1
  have hys : ys[j]? = some (ys[j]'(by omega)) := List.getElem?_eq_getElem (by omega)
  exact ⟨_, _, hv, h1.trans hys⟩
theorem open_aggs {r : Reach} {b0 : Nat} {t : TypeId} {fs : Array Field} {v : Value} {d : DataW H} {p : List MemPlace} (hs : P.underlying t = some (.struct fs)) (hone : oneCellFields P fs = true) (hC : P.cellsOf t = fs.size)
    (hv : Value.okWide P w r b0 t v) (h : DataW.Trod enc P w base spare held t v d p) :
    ∃ (cs : List Value) (n : Nat), v = .agg cs.toArray ∧ cs.length = fs.size ∧ ∀ (j : Nat) (f : Field), fs[j]? = some f → ∃ (u : Value) (y : DataW H × List MemPlace), cs[j]? = some u ∧ DataW.trod enc P w base spare held n f.type [u] = some y := by
  obtain ⟨cs, rfl, hsz⟩ := okWide_struct hs hv
  obtain ⟨l⟩ := cs
  obtain ⟨fuel, hf⟩ := h
  have hl : l.length = fs.size := by rw [← hC, ← hsz]; simp
  obtain ⟨n, hn⟩ := fields_of hs hone hl hf
  exact ⟨l, n, rfl, hl, hn⟩
end
theorem list8 {α : Type} {l : List α} (h : l.length = 8) : ∃ a b c d e f g i, l = [a, b, c, d, e, f, g, i] := by
  match l, h with
  | [a, b, c, d, e, f, g, i], _ => exact ⟨a, b, c, d, e, f, g, i, rfl⟩
section
variable {H : Type} {enc : TypeId × Value → H} {w : World} {base : Nat} {spare : Nat → Bool} {held : Bool}
theorem motion_of {n : Nat} {cs : List Value} (hl : cs.length = 8) (hn : ∀ (j : Nat) (f : Field), ((Try.prog.underlying 23).bind fun u => match u with | .struct fs => fs[j]? | _ => none) = some f → ∃ (u : Value) (y : DataW H × List MemPlace), cs[j]? = some u ∧ DataW.trod enc Try.prog w base spare held n f.type [u] = some y) :
    ∃ m : Mo, Wf m ∧ cs = [.int .i64 m.node, .int .i64 m.fr, .int .i64 m.to, .int .i64 m.st, .int .i64 m.ln, .int .u8 m.es, .int .i64 m.ts, .bool m.bk] := by
  obtain ⟨c0, c1, c2, c3, c4, c5, c6, c7, rfl⟩ := list8 hl
  rw [Try.underlying23] at hn
  obtain ⟨u, y0, h0, g0⟩ := hn 0 _ rfl
  obtain rfl := Option.some.inj h0
  obtain ⟨u, y1, h1, g1⟩ := hn 1 _ rfl
  obtain rfl := Option.some.inj h1
  obtain ⟨u, y2, h2, g2⟩ := hn 2 _ rfl
  obtain rfl := Option.some.inj h2
  obtain ⟨u, y3, h3, g3⟩ := hn 3 _ rfl
  obtain rfl := Option.some.inj h3
  obtain ⟨u, y4, h4, g4⟩ := hn 4 _ rfl
  obtain rfl := Option.some.inj h4
  obtain ⟨u, y5, h5, g5⟩ := hn 5 _ rfl
  obtain rfl := Option.some.inj h5
  obtain ⟨u, y6, h6, g6⟩ := hn 6 _ rfl
  obtain rfl := Option.some.inj h6
  obtain ⟨u, y7, h7, g7⟩ := hn 7 _ rfl
  obtain rfl := Option.some.inj h7
  obtain ⟨n0, e0, z0, wf0⟩ := DataW.trod_int Try.underlying3 g0; simp at e0; subst e0
  obtain ⟨n1, e1, z1, wf1⟩ := DataW.trod_int Try.underlying3 g1; simp at e1; subst e1
  obtain ⟨n2, e2, z2, wf2⟩ := DataW.trod_int Try.underlying3 g2; simp at e2; subst e2
  obtain ⟨n3, e3, z3, wf3⟩ := DataW.trod_int Try.underlying3 g3; simp at e3; subst e3
  obtain ⟨n4, e4, z4, wf4⟩ := DataW.trod_int Try.underlying3 g4; simp at e4; subst e4
  obtain ⟨n5, e5, z5, wf5⟩ := DataW.trod_int Try.underlying5 g5; simp at e5; subst e5
  obtain ⟨n6, e6, z6, wf6⟩ := DataW.trod_int Try.underlying3 g6; simp at e6; subst e6
  obtain ⟨b7, e7, z7⟩ := DataW.trod_bool Try.underlying4 g7; simp at e7; subst e7
  exact ⟨⟨n0, n1, n2, n3, n4, n5, n6, b7⟩, ⟨i64_of wf0, i64_of wf1, i64_of wf2, i64_of wf3, i64_of wf4, u8_of wf5, i64_of wf6⟩, rfl⟩
theorem open_motion {r : Reach} {b0 : Nat} {v : Value} {d : DataW H} {p : List MemPlace} (hv : Value.okWide Try.prog w r b0 23 v) (h : DataW.Trod enc Try.prog w base spare held 23 v d p) :
    ∃ m : Mo, v = .agg #[.int .i64 ((m).node), .int .i64 ((m).fr), .int .i64 ((m).to), .int .i64 ((m).st), .int .i64 ((m).ln), .int .u8 ((m).es), .int .i64 ((m).ts), .bool ((m).bk)] ∧ Wf m := by
  obtain ⟨cs, n, rfl, hl, hn⟩ := open_aggs Try.underlying23 (by kernel_rfl) (by kernel_rfl) hv h
  obtain ⟨m, hw, rfl⟩ := motion_of (by simpa using hl) (by rw [Try.underlying23]; exact hn)
  exact ⟨m, rfl, hw⟩
theorem add_zero (a : Addr) : a.add 0 = a := by unfold Addr.add; simp
theorem open_motions {r : Reach} {b0 : Nat} {v : Value} {d : DataW H} {p : List MemPlace} (hv : Value.okWide Try.prog w r b0 35 v) (h : DataW.Trod enc Try.prog w base spare held 35 v d p) :
    ∃ ms : List Mo, Lst w v ms ∧ ∀ m ∈ ms, Wf m := by
  obtain ⟨a, len, cap, rfl⟩ := okWide_slice Try.underlying35 hv
  obtain ⟨fuel, hf⟩ := h
  rcases open_slice Try.underlying35 (by simpa [Value.cells] using hf) with ⟨h0, _⟩ | ⟨a', len', cap', m, n, D, Pl, hcs, hb, hl, hm, hmm, hx, hi⟩
  · simp at h0
    obtain ⟨rfl, rfl, rfl⟩ := h0
    exact ⟨[], .inl ⟨rfl, rfl⟩, by simp⟩
  · simp at hcs
    obtain ⟨rfl, rfl, rfl⟩ := hcs
    have hlm : len ≤ m := by rw [hmm]; split <;> omega
    have hC : Try.prog.cellsOf 23 = 8 := by kernel_rfl
    have each : ∀ i, i < len → ∃ mo : Mo, Wf mo ∧ Mem w (a'.add (i * 8)) mo := by
      intro i hil
      obtain ⟨cs', hc, ht'⟩ := hi i (by omega)
      rw [hC] at hc
      obtain ⟨_, hcl, hat⟩ := World.cells?_some hc
      obtain ⟨n', hn⟩ := fields_of Try.underlying23 (by kernel_rfl) (by simpa using hcl) ht'
      obtain ⟨mo, hw, rfl⟩ := motion_of (by simpa using hcl) (by rw [Try.underlying23]; exact hn)
      refine ⟨mo, hw, ?_⟩
      have z0 := hat 0 (by omega)
      rw [add_zero] at z0
      exact ⟨z0, hat 1 (by omega), hat 2 (by omega), hat 3 (by omega), hat 4 (by omega), hat 5 (by omega), hat 6 (by omega), hat 7 (by omega)⟩
    obtain ⟨V, hV⟩ := choose_lt (α := Mo) (p := fun i mo => Wf mo ∧ Mem w (a'.add (i * 8)) mo) each
    refine ⟨(List.range len).map V, .inr ⟨a', cap, by simp, fun h0 => ?_, by simp; omega, fun j mo hj => ?_⟩, fun mo hmo => ?_⟩
    · have h1 := (hV 0 (by simpa using h0)).2.1
      rw [Nat.zero_mul, add_zero] at h1
      exact World.block_lt_of_cell? _ _ h1
    · obtain ⟨hj', e⟩ := List.getElem?_eq_some_iff.1 hj
      simp at hj' e
      subst e
      exact (hV j hj').2
    · obtain ⟨j, hj, rfl⟩ := List.mem_map.1 hmo
      exact (hV j (List.mem_range.1 hj)).1
end
end Go.Proofs.Ytblneabjdbllbaa
