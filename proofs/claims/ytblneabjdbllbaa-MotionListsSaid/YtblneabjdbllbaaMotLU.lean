/-
  What 'All' and 'Next' of both texts tell, in one form; worlds that part in some blocks alone.
-/
import Derived.Test.YtblneabjdbllbaaMotKE
import Derived.Test.YtblneabjdbllbaaMotV
import Derived.OneCell
namespace Go.Proofs.Ytblneabjdbllbaa
open Go.RowKit
set_option linter.unusedVariables false
attribute [local go_sem] vwp vUpon_value vUpon_skip vUpon_enter vUpon_row
set_option linter.unusedSimpArgs false
def xs1 (ms : List Mo) (t : Int) : List Int := if cntE ms t = 0 then nodesN ms else []
def xs2 (ms : List Mo) (t : Int) : List Int := if cntE ms t = 0 then placesN ms t else []
theorem xs_len (ms : List Mo) (t : Int) : (xs2 ms t).length = (xs1 ms t).length := by
  unfold xs1 xs2; split <;> simp [nodesN, placesN]
theorem xs_le (ms : List Mo) (t : Int) : (xs1 ms t).length ≤ 4096 := by
  unfold xs1
  split
  · rename_i h
    have := srt_len ms
    unfold cntE at h
    split at h
    · omega
    · simp [nodesN]; omega
  · simp
def AllU (ms : List Mo) (t : Int) (w : World) (e : Ending) (w' : World) : Prop :=
  Below w.heap.size w w' ∧ ∃ v1 v2, e = .returned (.tuple #[v1, v2, .int .i64 (cntE ms t)]) ∧ (∀ g, v1.ownBlock = some g → v2.ownBlock ≠ some g) ∧
    w'.ownsRow w.heap.size 3 1 v1 (xs1 ms t).length ((xs1 ms t).map (Value.int .i64)) ∧ w'.ownsRow w.heap.size 3 1 v2 (xs1 ms t).length ((xs2 ms t).map (Value.int .i64))
theorem all_u (ms : List Mo) (v : Value) (t : Int) (w : World) (hl : Lst w v ms) (hw : ∀ m ∈ ms, Wf m) (ht : I64 t) : Calls Try.prog 18 #[v, .int .i64 t] w (AllU ms t w) := by
  refine (all_any ms v t w hl hw ht).mono ?_
  rintro e w' ⟨hb, hr⟩
  refine ⟨hb, ?_⟩
  rcases hr with ⟨hne, rfl⟩ | ⟨h0, v1, v2, b1, b2, rfl, l1, l2, l3, hv, o1, o2⟩
  · unfold xs1 xs2
    rw [if_neg hne, if_neg hne]
    exact ⟨_, _, rfl, (fun g h => by cases h), World.ownsRow_nil _ _ _ _, World.ownsRow_nil _ _ _ _⟩
  · unfold xs1 xs2
    rw [if_pos h0, if_pos h0]
    have hn : (nodesN ms).length = (srt ms).length := by simp [nodesN]
    refine ⟨v1, v2, by rw [h0], fun g h1 h2 => ?_, ?_, ?_⟩
    · have := hv g h1
      have := (o2.lt g h2).1
      omega
    · rw [hn]; exact own_less o1 l1
    · rw [hn]; exact own_less o2 (by omega)
def RAllU (ms : List Mo) (t : Int) (w : World) (e : Ending) (w' : World) : Prop :=
  Below w.heap.size w w' ∧ ∃ v1 v2, e = .returned (.tuple #[v1, v2, .int .i64 (cntE ms t)]) ∧
    w'.ownsRow w.heap.size 3 1 v1 (xs1 ms t).length ((xs1 ms t).map (Value.int .i64)) ∧ w'.ownsRow w.heap.size 3 1 v2 (xs1 ms t).length ((xs2 ms t).map (Value.int .i64))
theorem rall_u (ms : List Mo) (v : Value) (t : Int) (w : World) (hl : Lst w v ms) (hw : ∀ m ∈ ms, Wf m) (ht : I64 t) : Calls Try.prog 21 #[v, .int .i64 t] w (RAllU ms t w) := by
  refine (rAll_any ms v t w hl hw ht).mono ?_
  rintro e w' ⟨hb, hr⟩
  refine ⟨hb, ?_⟩
  rcases hr with ⟨hne, rfl⟩ | ⟨h0, v1, v2, rfl, o1, o2⟩
  · unfold xs1 xs2
    rw [if_neg hne, if_neg hne]
    exact ⟨_, _, rfl, World.ownsRow_nil _ _ _ _, World.ownsRow_nil _ _ _ _⟩
  · unfold xs1 xs2
    rw [if_pos h0, if_pos h0]
    have hn : (nodesN ms).length = (srt ms).length := by simp [nodesN]
    refine ⟨v1, v2, by rw [h0], ?_, ?_⟩
    · rw [hn]; exact o1
    · rw [hn]; exact o2
def IsNext (ms : List Mo) (t a : Int) (b : Bool) : Prop :=
  (cntE ms t ≠ 0 ∧ a = 0 ∧ b = false) ∨ (cntE ms t = 0 ∧ ∃ r, NextP (Counts ms) t r ∧ a = (if 1048576 < r then 0 else r) ∧ b = decide (r ≤ 1048576))
theorem IsNext.one {ms : List Mo} {t a a' : Int} {b b' : Bool} (hw : ∀ m ∈ ms, Wf m) (h : IsNext ms t a b) (h' : IsNext ms t a' b') : a = a' ∧ b = b' := by
  rcases h with ⟨h0, rfl, rfl⟩ | ⟨h0, r, hr, rfl, rfl⟩
  · rcases h' with ⟨_, rfl, rfl⟩ | ⟨h1, _⟩
    · exact ⟨rfl, rfl⟩
    · exact absurd h1 h0
  · rcases h' with ⟨h1, _⟩ | ⟨_, r', hr', rfl, rfl⟩
    · exact absurd h0 h1
    · obtain ⟨⟨_, T1⟩, hok⟩ := cntE_zero hw h0
      have := NextP.one (fun m hm => hok m hm.mem) T1 hr hr'
      subst this
      exact ⟨rfl, rfl⟩
def NextU (ms : List Mo) (t : Int) (w : World) (e : Ending) (w' : World) : Prop :=
  Below w.heap.size w w' ∧ ∃ a b, e = .returned (.tuple #[.int .i64 a, .bool b, .int .i64 (cntE ms t)]) ∧ IsNext ms t a b
theorem next_uu {ms : List Mo} {t : Int} {w : World} {e : Ending} {w' : World} (h : Below w.heap.size w w' ∧
    ((cntE ms t ≠ 0 ∧ e = .returned (.tuple #[.int .i64 0, .bool false, .int .i64 (cntE ms t)])) ∨ (cntE ms t = 0 ∧ ∃ r, NextP (Counts ms) t r ∧ e = .returned (nextV r)))) : NextU ms t w e w' := by
  obtain ⟨hb, hr⟩ := h
  refine ⟨hb, ?_⟩
  rcases hr with ⟨hne, rfl⟩ | ⟨h0, r, hr, rfl⟩
  · exact ⟨_, _, rfl, .inl ⟨hne, rfl, rfl⟩⟩
  · exact ⟨_, _, by rw [h0]; rfl, .inr ⟨h0, r, hr, rfl, rfl⟩⟩
/-- All blocks that were there are as they were, but those from 'lo' on and below 'hi'. -/
structure Mid (lo hi : Nat) (w w' : World) : Prop where
  os : w'.os = w.os
  tape : w'.tape = w.tape
  output : w'.output = w.output
  size : w.heap.size ≤ w'.heap.size
  block : ∀ k, k < w.heap.size → (k < lo ∨ hi ≤ k) → w'.heap[k]? = w.heap[k]?
theorem Mid.refl (lo hi : Nat) (w : World) : Mid lo hi w w := ⟨rfl, rfl, rfl, Nat.le_refl _, fun _ _ _ => rfl⟩
theorem Mid.setCell {lo hi : Nat} {w w' : World} (h : Mid lo hi w w') {a : Addr} (h1 : lo ≤ a.block) (h2 : a.block < hi) (v : Value) : Mid lo hi w (w'.setCell a v) :=
  ⟨h.os, h.tape, h.output, by simpa using h.size, fun k hk hk2 => by rw [heap_setCell_other _ _ _ _ (by omega)]; exact h.block k hk hk2⟩
theorem Mid.grown {lo hi : Nat} {w w' w'' : World} {o : Option Nat} (h : Mid lo hi w w') (hg : w'.grownBy w'' o) (ho : ∀ g, o = some g → lo ≤ g ∧ (g < hi ∨ w.heap.size ≤ g)) : Mid lo hi w w'' :=
  ⟨hg.os.trans h.os, hg.tape.trans h.tape, hg.output.trans h.output, Nat.le_trans h.size hg.size, fun k hk hk2 => (hg.block k (Nat.lt_of_lt_of_le hk h.size) (fun e => by have := ho k e.symm; omega)).trans (h.block k hk hk2)⟩
theorem Mid.toBelow {lo hi : Nat} {w w' : World} (h : Mid lo hi w w') (hl : lo ≤ w.heap.size) : Below lo w w' :=
  ⟨h.os, h.tape, h.output, h.size, fun k hk => h.block k (by omega) (.inl hk)⟩
theorem own_mid {lo hi : Nat} {w w' : World} {base : Nat} {e : TypeId} {size n : Nat} {v : Value} {xs : List Value} (h : w.ownsRow base e size v n xs) (hm : Mid lo hi w w') (hb : hi ≤ base) : w'.ownsRow base e size v n xs := by
  obtain ⟨h1, h2⟩ := h
  refine ⟨h1, ?_⟩
  rcases h2 with h2 | ⟨g, cap, cur, hv, hg, hh, r⟩
  · exact .inl h2
  · exact .inr ⟨g, cap, cur, hv, hg, by rw [hm.block g (Go.lt_of_block hh) (.inr (by omega))]; exact hh, r⟩
theorem own_set {w : World} {base g n cap k : Nat} {e : TypeId} {xs : List Value} (h : w.ownsRow base e 1 (.slice (some ⟨g, 0, none⟩) n cap) n xs) (hk : k < n) (u : Value) : ∃ ys, (w.setCell ⟨g, k, none⟩ u).ownsRow base e 1 (.slice (some ⟨g, 0, none⟩) n cap) n ys := by
  rcases h.2 with ⟨h0, _⟩ | ⟨g', cap', cur, hv, hg, hh, hnc, hcm, hcur, htake⟩
  · cases h0
  · injection hv with hv _ hc
    injection hv with hv
    injection hv with hv _ _
    subst hv
    subst hc
    refine ⟨(cur.setIfInBounds k u).toList.take (n * 1), ?_, .inr ⟨g, cap, _, rfl, hg, heap_setCell_same _ _ _ _ _ _ hh, hnc, hcm, by simpa using hcur, rfl⟩⟩
    rw [List.length_take, Array.length_toList, Array.size_setIfInBounds]
    omega
end Go.Proofs.Ytblneabjdbllbaa
