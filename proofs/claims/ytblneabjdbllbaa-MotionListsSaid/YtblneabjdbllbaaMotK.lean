/-
  Lists of motions: what a list is in memory; 'counted'.
-/
import Derived.Test.YtblneabjdbllbaaMotJ
import Derived.Maps.OwnSet
import Derived.Maps.RangeWalk
import Derived.Maps.Ext
namespace Go.Proofs.Ytblneabjdbllbaa
open Go.RowKit
set_option linter.unusedVariables false
attribute [local go_sem] vwp vUpon_value vUpon_skip vUpon_enter vUpon_row
open Go.Maps
instance : Inhabited Mo := ⟨⟨0, 0, 0, 0, 0, 0, 0, false⟩⟩
theorem MV_inj {m m' : Mo} (h : (.agg #[.int .i64 ((m).node), .int .i64 ((m).fr), .int .i64 ((m).to), .int .i64 ((m).st), .int .i64 ((m).ln), .int .u8 ((m).es), .int .i64 ((m).ts), .bool ((m).bk)] : Value) = .agg #[.int .i64 ((m').node), .int .i64 ((m').fr), .int .i64 ((m').to), .int .i64 ((m').st), .int .i64 ((m').ln), .int .u8 ((m').es), .int .i64 ((m').ts), .bool ((m').bk)]) : m = m' := by
  obtain ⟨nd, fr, to, st, ln, es, ts, bk⟩ := m
  obtain ⟨nd', fr', to', st', ln', es', ts', bk'⟩ := m'
  simp at h
  simp [h]
open Classical in
/-- How an element of a map of motions reads. -/
noncomputable def Rm (v : Value) : Option (DataW Mo × List MemPlace) := if h : ∃ m : Mo, v = .agg #[.int .i64 ((m).node), .int .i64 ((m).fr), .int .i64 ((m).to), .int .i64 ((m).st), .int .i64 ((m).ln), .int .u8 ((m).es), .int .i64 ((m).ts), .bool ((m).bk)] then some (.held h.choose, []) else none
theorem Rm_mk (m : Mo) : Rm (.agg #[.int .i64 ((m).node), .int .i64 ((m).fr), .int .i64 ((m).to), .int .i64 ((m).st), .int .i64 ((m).ln), .int .u8 ((m).es), .int .i64 ((m).ts), .bool ((m).bk)]) = some (.held m, []) := by
  have h : ∃ m' : Mo, (.agg #[.int .i64 ((m).node), .int .i64 ((m).fr), .int .i64 ((m).to), .int .i64 ((m).st), .int .i64 ((m).ln), .int .u8 ((m).es), .int .i64 ((m).ts), .bool ((m).bk)] : Value) = .agg #[.int .i64 ((m').node), .int .i64 ((m').fr), .int .i64 ((m').to), .int .i64 ((m').st), .int .i64 ((m').ln), .int .u8 ((m').es), .int .i64 ((m').ts), .bool ((m').bk)] := ⟨m, rfl⟩
  unfold Rm
  rw [dif_pos h, ← MV_inj h.choose_spec]
theorem Rm_inv {v : Value} {y : DataW Mo × List MemPlace} (h : Rm v = some y) : ∃ m : Mo, v = .agg #[.int .i64 ((m).node), .int .i64 ((m).fr), .int .i64 ((m).to), .int .i64 ((m).st), .int .i64 ((m).ln), .int .u8 ((m).es), .int .i64 ((m).ts), .bool ((m).bk)] ∧ y = (.held m, []) := by
  unfold Rm at h
  split at h
  · rename_i g; exact ⟨g.choose, g.choose_spec, by simpa using h.symm⟩
  · cases h
theorem lawK : Keyed Try.prog 3 := int_keyed Try.underlying3
def kOf (n : Int) : Lit := .int .i64 n
def Cm (ms : List Mo) : DataW Mo := ms.foldl (fun D m => D.put (kOf m.node) (.held m)) (.map [])
theorem Cm_snoc (ms : List Mo) (k : Nat) (m : Mo) (h : ms[k]? = some m) : Cm (ms.take (k + 1)) = (Cm (ms.take k)).put (kOf m.node) (.held m) := by
  rw [List.take_add_one, h]; simp [Cm, List.foldl_append]
/-- The first fault of a list. -/
def bad : List Mo → Int
  | [] => 0
  | m :: ms => if chk m = 0 then bad ms else chk m
theorem bad_at {ms : List Mo} {k : Nat} {m : Mo} (hk : ms[k]? = some m) (h : ∀ j x, j < k → ms[j]? = some x → chk x = 0) (hm : chk m ≠ 0) : bad ms = chk m := by
  induction ms generalizing k with
  | nil => simp at hk
  | cons x xs ih =>
    cases k with
    | zero => simp at hk; subst hk; simp [bad, hm]
    | succ k =>
      have h0 := h 0 x (by omega) rfl
      simp only [bad, h0, if_true]
      exact ih (k := k) (by simpa using hk) (fun j y hj hy => h (j + 1) y (by omega) (by simpa using hy))
theorem bad_none {ms : List Mo} (h : ∀ m ∈ ms, chk m = 0) : bad ms = 0 := by
  induction ms with
  | nil => rfl
  | cons x xs ih => simp only [bad, h x List.mem_cons_self, if_true]; exact ih fun m hm => h m (List.mem_cons_of_mem _ hm)
theorem bad_zero {ms : List Mo} (h : bad ms = 0) : ∀ m ∈ ms, chk m = 0 := by
  induction ms with
  | nil => simp
  | cons x xs ih =>
    intro m hm
    unfold bad at h
    split at h
    · rcases List.mem_cons.1 hm with rfl | hm
      · assumption
      · exact ih h m hm
    · exact absurd h (by assumption)
/-- The error of a list and a tick. -/
def cntE (ms : List Mo) (tick : Int) : Int := if 4096 < ms.length then 4 else if bad ms ≠ 0 then bad ms else if tick < 0 ∨ 1048576 < tick then 230 else 0
/-- One motion's cells. -/
def Mem (w : World) (a : Addr) (m : Mo) : Prop :=
  w.cell? a = some (.int .i64 m.node) ∧ w.cell? (a.add 1) = some (.int .i64 m.fr) ∧ w.cell? (a.add 2) = some (.int .i64 m.to) ∧ w.cell? (a.add 3) = some (.int .i64 m.st) ∧
  w.cell? (a.add 4) = some (.int .i64 m.ln) ∧ w.cell? (a.add 5) = some (.int .u8 m.es) ∧ w.cell? (a.add 6) = some (.int .i64 m.ts) ∧ w.cell? (a.add 7) = some (.bool m.bk)
/-- 'v' is a list of motions in memory. -/
def Lst (w : World) (v : Value) (ms : List Mo) : Prop :=
  (v = .slice none 0 0 ∧ ms = []) ∨ ∃ a cap, v = .slice (some a) ms.length cap ∧ (0 < ms.length → a.block < w.heap.size) ∧ ms.length ≤ maxLen ∧ ∀ j m, ms[j]? = some m → Mem w (a.add (j * 8)) m
theorem add_block (a : Addr) (n : Nat) : (a.add n).block = a.block := by unfold Addr.add; split <;> rfl
theorem Mem.below {w w' : World} {n : Nat} {a : Addr} {m : Mo} (h : Mem w a m) (hb : Below n w w') (ha : a.block < n) : Mem w' a m := by
  obtain ⟨h0, h1, h2, h3, h4, h5, h6, h7⟩ := h
  refine ⟨?_, ?_, ?_, ?_, ?_, ?_, ?_, ?_⟩
  all_goals (unfold World.cell? at *; (try rw [add_block] at *); rw [hb.block _ (by simpa using ha)]; assumption)
theorem Lst.below {w w' : World} {v : Value} {ms : List Mo} (h : Lst w v ms) (hb : Below w.heap.size w w') : Lst w' v ms := by
  rcases h with h | ⟨a, cap, hv, ha, hl, h⟩
  · exact .inl h
  · exact .inr ⟨a, cap, hv, fun h0 => Nat.lt_of_lt_of_le (ha h0) hb.size, hl, fun j m hj => (h j m hj).below hb (by rw [add_block]; exact ha (List.length_pos_of_mem (List.mem_of_getElem? hj)))⟩
end Go.Proofs.Ytblneabjdbllbaa
