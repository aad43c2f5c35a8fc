/-
  Cells' laws: screens that came in.
-/
import Derived.Lib.LaidU8T
import Derived.SizedLaws
import Derived.Test.YtffmomgmkpmpkaaGreatDoorProg
import Derived.Test.YtffmomgmkpmpkaaGreatDoorKp29
import Derived.Test.YtffmomgmkpmpkaaGreatDoorKp31
namespace Go.Proofs.YtffmomgmkpmpkaaGreatDoor
open Go Go.RowKit Go.ChangeShapes Go.WideShapes Go.Deep Go.Joins
set_option linter.unusedVariables false
set_option linter.unusedSimpArgs false
section
variable {P : Program} {H : Type} {enc : TypeId × Value → H} {w : World} {base : Nat} {spare : Nat → Bool} {held : Bool}
/-- A slice that came in, whatever its elements are: 'dec' says how the cells of one read. -/
theorem open_rowT {α : Type} [Inhabited α] {Ok : α → Prop} {sz : Nat} {encA : α → List Value} {fuel : Nat} {t e : TypeId} {v : Value} {y : DataW H × List MemPlace} (ht : P.underlying t = some (.slice e)) (hC : P.cellsOf e = sz) (hsz : 0 < sz)
  (dec : ∀ (n : Nat) (cs : List Value) (y : DataW H × List MemPlace), cs.length = sz → DataW.trod enc P w base spare held n e cs = some y → ∃ x, Ok x ∧ cs = encA x)
  (hf : DataW.trod enc P w base spare held fuel t [v] = some y) :
  ∃ xs : List α, Row w.heap.size sz encA w v xs ∧ ∀ x ∈ xs, Ok x := by
 rcases open_slice ht hf with ⟨h0, _⟩ | ⟨a', len, cap, m, n, D, Pl, hcs, hb, hl, hm, hmm, hx, hi⟩
 ·simp at h0
  subst h0
  exact ⟨[], ⟨none, 0, rfl, by simp, by unfold maxLen; omega, fun h => by simp at h⟩, by simp⟩
 ·simp at hcs
  subst hcs
  have hlm : len ≤ m := by rw [hmm]; split <;> omega
  have each : ∀ i, i < len → ∃ x : α, Ok x ∧ ∀ k u, (encA x)[k]? = some u → w.cell? ((a'.add (i * sz)).add k) = some u := by
   intro i hil
   obtain ⟨cs', hc, ht'⟩ := hi i (by omega)
   rw [hC] at hc
   obtain ⟨_, hcl, hat⟩ := World.cells?_some hc
   obtain ⟨x, hok, rfl⟩ := dec _ _ _ hcl ht'
   refine ⟨x, hok, fun k u hk => ?_⟩
   have hkl : k < sz := by rw [← hcl]; exact (List.getElem?_eq_some_iff.1 hk).1
   rw [hat k hkl, hk]
  obtain ⟨V, hV⟩ := choose_lt (α := α) (p := fun i x => Ok x ∧ ∀ k u, (encA x)[k]? = some u → w.cell? ((a'.add (i * sz)).add k) = some u) each
  refine ⟨(List.range len).map V, ⟨some a', cap, by simp, by simpa using hl, hm, fun h0 => ?_⟩, fun x hx => ?_⟩
  ·simp only [List.length_map, List.length_range] at h0
   obtain ⟨cs', hc, ht'⟩ := hi 0 (by omega)
   rw [hC] at hc
   obtain ⟨_, hcl, hat⟩ := World.cells?_some hc
   have h1 := hat 0 hsz
   rw [Nat.zero_mul] at h1
   obtain ⟨b, o, x⟩ := a'
   cases x with
   | some x =>
    exfalso
    have e0 : ((⟨b, o, some x⟩ : Addr).add 0).add 0 = ⟨b, o, some x⟩ := rfl
    rw [e0] at h1
    have : cs'[0]? = some (cs'[0]'(by omega)) := List.getElem?_eq_getElem (by omega)
    rw [this] at h1
    simp only [World.cell?] at h1
    split at h1 <;> simp at h1
   | none =>
    refine ⟨b, o, rfl, ?_, fun j x hj i u hi' => ?_⟩
    ·have : cs'[0]? = some (cs'[0]'(by omega)) := List.getElem?_eq_getElem (by omega)
     rw [this] at h1
     exact World.block_lt_of_cell? _ _ h1
    ·obtain ⟨hj', e⟩ := List.getElem?_eq_some_iff.1 hj
     simp at hj' e
     subst e
     have := (hV j hj').2 i u hi'
     rw [add_lit, add_lit] at this
     exact this
  ·obtain ⟨j, hj, rfl⟩ := List.mem_map.1 hx
   exact (hV j (List.mem_range.1 hj)).1
end
section
variable {H : Type} {enc : TypeId × Value → H} {w : World} {base : Nat} {spare : Nat → Bool} {held : Bool}
theorem list11 {cs : List Value} (h : cs.length = 11) : ∃ a b c d e f g i j k l, cs = [a, b, c, d, e, f, g, i, j, k, l] := by
  match cs, h with
  | [a, b, c, d, e, f, g, i, j, k, l], _ => exact ⟨a, b, c, d, e, f, g, i, j, k, l, rfl⟩
theorem cell_of {fuel : Nat} {cs : List Value} {x : DataW H × List MemPlace} (hl : cs.length = 11) (h : DataW.trod enc Tryz.prog w base spare held fuel 52 cs = some x) : ∃ s : Ce, s.Wf ∧ cs = s.enc := by
  obtain ⟨a, b, c, d, e, f, g, i, j, k, l, rfl⟩ := list11 hl
  obtain ⟨m0, y0, h0⟩ := field_of Tryz.underlying52 h 0 0 1 21 _ rfl rfl rfl (by kernel_rfl)
  obtain ⟨m1, y1, h1⟩ := field_of Tryz.underlying52 h 1 1 4 44 _ rfl rfl rfl (by kernel_rfl)
  obtain ⟨m2, y2, h2⟩ := field_of Tryz.underlying52 h 2 5 4 44 _ rfl rfl rfl (by kernel_rfl)
  obtain ⟨m3, y3, h3⟩ := field_of Tryz.underlying52 h 3 9 1 4 _ rfl rfl rfl (by kernel_rfl)
  obtain ⟨m4, y4, h4⟩ := field_of Tryz.underlying52 h 4 10 1 4 _ rfl rfl rfl (by kernel_rfl)
  simp only [List.drop_zero, List.drop_succ_cons, List.take_succ_cons, List.take_zero] at h0 h1 h2 h3 h4
  obtain ⟨n0, e0, z0, wf0⟩ := DataW.trod_int Tryz.underlying21 h0; simp at e0; subst e0
  obtain ⟨c1, w1, e1⟩ := colour_of h1
  obtain ⟨c2, w2, e2⟩ := colour_of h2
  obtain ⟨n3, e3, z3⟩ := DataW.trod_bool Tryz.underlying4 h3; simp at e3; subst e3
  obtain ⟨n4, e4, z4⟩ := DataW.trod_bool Tryz.underlying4 h4; simp at e4; subst e4
  refine ⟨⟨n0, c1, c2, n3, n4⟩, ⟨trivial, w1, w2⟩, ?_⟩
  unfold Ce.enc
  rw [← e1, ← e2]
  rfl
set_option maxRecDepth 100000 in
theorem open_screen {r : Reach} {b0 : Nat} {v : Value} {d : DataW H} {p : List MemPlace} (hv : Value.okWide Tryz.prog w r b0 26 v) (h : DataW.Trod enc Tryz.prog w base spare held 26 v d p) :
    ∃ (wd ht : Int) (u : Value) (cs : List Ce), v = .agg #[.int .i64 (wd), .int .i64 (ht), u] ∧ I64 wd ∧ I64 ht ∧ Row w.heap.size 11 Ce.enc w u cs ∧ CeL cs := by
  obtain ⟨cs, rfl, hsz⟩ := okWide_struct Tryz.underlying26 hv
  obtain ⟨l⟩ := cs
  obtain ⟨fuel, hf⟩ := h
  have hl : l.length = 3 := by
    have hc : Tryz.prog.cellsOf 26 = 3 := by kernel_rfl
    rw [← hc, ← hsz]; simp
  obtain ⟨a, b, c, rfl⟩ : ∃ a b c, l = [a, b, c] := by
    match l, hl with
    | [a, b, c], _ => exact ⟨a, b, c, rfl⟩
  simp only [Value.cells] at hf
  obtain ⟨m0, y0, h0⟩ := field_of Tryz.underlying26 hf 0 0 2 23 _ rfl rfl rfl (by kernel_rfl)
  obtain ⟨m1, y1, h1⟩ := field_of Tryz.underlying26 hf 1 2 1 24 _ rfl rfl rfl (by kernel_rfl)
  simp only [List.drop_zero, List.drop_succ_cons, List.take_succ_cons, List.take_zero] at h0 h1
  obtain ⟨wd, ht, ww, wh, rfl, rfl⟩ := size_of h0
  obtain ⟨cs, hr, hwf⟩ := open_rowT (sz := 11) (encA := Ce.enc) (Ok := Ce.Wf) Tryz.underlying24 (by kernel_rfl) (by omega) (fun n cs y hl ht => cell_of hl ht) h1
  exact ⟨wd, ht, c, cs, rfl, ww, wh, hr, hwf⟩
/-- The library's tables are there, as the card tells. -/
theorem dec_of_laid {L : List (String × DataW Unit)} {W : World} {D1 D2 : DataW Unit} (h : laidMet Tryz.prog L W) (h3 : ("unicode/utf8.first", D1) ∈ L) (e3 : D1 = Lib.firstData) (h4 : ("unicode/utf8.acceptRanges", D2) ∈ L) (e4 : D2 = Lib.acceptData) : DecT W := by
  subst e3 e4
  exact utf8Tabs_of_readsT (ρ := Tryz.lays197_ren) ⟨Tryz.underlying5, by kernel_rfl, by kernel_rfl, by kernel_rfl⟩ ⟨by kernel_rfl, by kernel_rfl, by kernel_rfl, by kernel_rfl, by kernel_rfl, by kernel_rfl, by kernel_rfl⟩ (Lib.laidMet.reads h h3) (Lib.laidMet.reads h h4)
theorem dig_of_laid {L : List (String × DataW Unit)} {W : World} {D : DataW Unit} (h : laidMet Tryz.prog L W) (hm : ("internal/strconv.uint64pow10", D) ∈ L) (hd' : D = Lib.tabData .u64 Lib.pow10Tab) : DigT W := by
  obtain ⟨g, t, cs, fuel, p, hg, ht, hv, hd⟩ := Lib.laidMet.reads h hm
  have hT : (Tryz.prog.globalNamed "internal/strconv.uint64pow10").bind (fun g => (Tryz.prog.globals[g]?).map (·.type)) = some 240 := by kernel_rfl
  rw [hg] at hT
  simp only [Option.bind_some] at hT
  rw [ht] at hT
  obtain rfl := Option.some.inj hT
  rw [hd'] at hd
  unfold DigT Lib.TabIs
  rw [hv, ← Lib.cells_of_tab (n := 20) Tryz.underlying240 Tryz.underlying206 (by kernel_rfl) (by kernel_rfl) hd]
end
end Go.Proofs.YtffmomgmkpmpkaaGreatDoor

namespace Go.Proofs.YtffmomgmkpmpkaaGreatDoor
open Go.RowKit
set_option linter.unusedVariables false
set_option linter.unusedSimpArgs false
attribute [local go_sem] vwp vUpon_value vUpon_skip vUpon_enter vUpon_row
set_option linter.unusedVariables false
theorem list4 {cs : List Value} (h : cs.length = 4) : ∃ a b c d, cs = [a, b, c, d] := by
  match cs, h with
  | [a, b, c, d], _ => exact ⟨a, b, c, d, rfl⟩
section
variable {H : Type} {enc : TypeId × Value → H} {w : World} {base : Nat} {spare : Nat → Bool} {held : Bool}
set_option maxRecDepth 100000 in
theorem open_rects {r : Reach} {b0 : Nat} {v : Value} {d : DataW H} {p : List MemPlace} (hv : Value.okWide Tryz.prog w r b0 69 v) (h : DataW.Trod enc Tryz.prog w base spare held 69 v d p) :
    ∃ xs : List Re, Row w.heap.size 4 Re.enc w v xs ∧ ∀ x ∈ xs, x.Wf :=
  open_row Tryz.underlying69 (by kernel_rfl) (by omega) (fun n cs y hl ht => by
    obtain ⟨a, b, c, d, rfl⟩ := list4 hl
    exact rect_of ht) hv h
end
end Go.Proofs.YtffmomgmkpmpkaaGreatDoor
