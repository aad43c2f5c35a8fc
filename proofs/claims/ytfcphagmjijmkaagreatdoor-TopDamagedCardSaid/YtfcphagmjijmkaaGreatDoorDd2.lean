/-
  Rows of the call's own side by side: an append onto one of them leaves the other; an append as a step; two operations that are ready.
-/
import Derived.Maps.AppendAt
import Derived.Test.YtfcphagmjijmkaaGreatDoorDd1
namespace Go.Proofs.YtfcphagmjijmkaaGreatDoor
open Go.RowKit
set_option linter.unusedVariables false
set_option linter.unusedSimpArgs false
attribute [local go_sem] vwp vUpon_value vUpon_skip vUpon_enter vUpon_row
set_option maxHeartbeats 16000000
section
open Go Go.RowKit
theorem own_keep {w w' : World} {base : Nat} {ob : Option Nat} {e : TypeId} {size n : Nat} {v : Value} {xs : List Value} (h : w.ownsRow base e size v n xs) (hg : w.grownBy w' ob) (hr : ∀ g, v.ownBlock = some g → ob ≠ some g) : w'.ownsRow base e size v n xs := by
 obtain ⟨h1, h2⟩ := h; refine ⟨h1, ?_⟩
 rcases h2 with h2 | ⟨g, cap, cur, rfl, hgb, hh, r'⟩
 ·exact .inl h2
 ·exact .inr ⟨g, cap, cur, rfl, hgb, by rw [hg.block g (Go.lt_of_block hh) (fun e => hr g (by simp [Value.ownBlock]) e.symm)]; exact hh, r'⟩
theorem own_less {w : World} {base B : Nat} {e : TypeId} {size n : Nat} {v : Value} {xs : List Value} (h : w.ownsRow base e size v n xs) (hB : B ≤ base) : w.ownsRow B e size v n xs := by
 obtain ⟨h1, h2⟩ := h; refine ⟨h1, ?_⟩
 rcases h2 with h2 | ⟨g, cap, cur, hv, hg, r⟩
 ·exact .inl h2
 ·exact .inr ⟨g, cap, cur, hv, by omega, r⟩
theorem own_in {w : World} {base : Nat} {e : TypeId} {size n : Nat} {v : Value} {xs : List Value} (h : w.ownsRow base e size v n xs) : ∀ g, v.ownBlock = some g → base ≤ g ∧ g < w.heap.size := by
 intro g hg
 rcases h.2 with ⟨rfl, _⟩ | ⟨g', cap, cur, rfl, hb, hh, _⟩
 ·cases hg
 ·simp [Value.ownBlock] at hg
  subst hg; exact ⟨hb, lt_of_block hh⟩
def Apart (v u : Value) : Prop := ∀ g, v.ownBlock = some g → u.ownBlock ≠ some g
theorem Apart.symm {v u : Value} (h : Apart v u) : Apart u v := fun g h1 h2 => h g h2 h1
theorem Apart.none (v : Value) (n c : Nat) : Apart (.slice none n c) v := fun g h => by cases h
theorem Blk.keep {w w' : World} {b : Nat} {cs : List Value} {e : TypeId} {ob : Option Nat} (h : Blk w b cs e) (hg : w.grownBy w' ob) (hr : ob ≠ some b) : Blk w' b cs e := by
 unfold Blk at *; rw [hg.block b (lt_of_block h) (fun e => hr e.symm)]; exact h
theorem apart_next {a b v u : Value} {B C : Nat} (hap : Apart a b) (lo1 : ∀ g, a.ownBlock = some g → g < B) (lo2 : ∀ g, b.ownBlock = some g → g < B) (at5 : ∀ g, v.ownBlock = some g → a.ownBlock = some g ∨ B ≤ g) (hi5 : ∀ g, v.ownBlock = some g → g < C) (at6 : ∀ g, u.ownBlock = some g → b.ownBlock = some g ∨ C ≤ g) : Apart v u := by
 intro g h1 h2
 have := hi5 g h1
 rcases at5 g h1 with h | h <;> rcases at6 g h2 with h' | h'
 ·exact hap g h h'
 ·omega
 ·have := lo2 g h'; omega
 ·omega
theorem not_block {v : Value} {B : Nat} (h : ∀ g, v.ownBlock = some g → g < B) {l : List (Addr × Value)} (hl : ∀ p ∈ l, p.1.block = B) : ∀ p ∈ l, v.ownBlock ≠ some p.1.block := fun p hp he => by
 have := h _ he; rw [hl p hp] at this; omega
theorem cell_block {w w' : World} {a : Addr} (h : w'.heap[a.block]? = w.heap[a.block]?) : w'.cell? a = w.cell? a := by
 unfold World.cell?; rw [h]
theorem frozen_block {w w' : World} {a : Addr} (h : w'.heap[a.block]? = w.heap[a.block]?) : w'.frozen? a = w.frozen? a := by
 unfold World.frozen?; rw [h]
theorem cells_grown {w w' : World} {ob : Option Nat} (hg : w.grownBy w' ob) : ∀ {l : List (Addr × Value)}, (∀ p ∈ l, ob ≠ some p.1.block) → Cells l w → Cells l w'
 | [], _, _ => trivial
 | (a, v) :: r, hn, ⟨h, hf, hr⟩ => by
  have hlt : a.block < w.heap.size := World.block_lt_of_cell? w a h; have hb := hg.block a.block hlt (fun e => hn (a, v) (by simp) e.symm); exact ⟨(cell_block hb).trans h, (frozen_block hb).trans hf, cells_grown hg (fun p hp => hn p (by simp [hp])) hr⟩
theorem held_grown {w0 w w' : World} {k : Nat} {l : List (Addr × Value)} {ob : Option Nat} (h : Held w0 k l w) (hg : w.grownBy w' ob) (hn : ∀ p ∈ l, ob ≠ some p.1.block) (hb : Below w0.heap.size w0 w') : Held w0 k l w' :=
 ⟨hb, Nat.le_trans h.2.1 hg.size, cells_grown hg hn h.2.2⟩
section
variable {P : Program} {ops : Array Oper} {Q : Exit → Act → World → Prop}
theorem wp_append_blk {o : Oper} {a : Act} {K : Act → World → Prop} (s x : Operand) (t : TypeId)
  (ho : o.op = .call { callee := .builtin .append, args := #[s, x], argTypes := #[t, t] })
  (base : Nat) (e : TypeId) (i : TypeInfo) (z : Value) (size bytes : Nat) (ht : P.underlying t = some (.slice e)) (hi : P.info? e = some i) (hz : i.zero = some z)
  (hsize : i.size = size) (hby : i.bytes = bytes) (hzs : z.cells.size = size) (hsz : 0 < size)
  (w : World) (m b : Nat) (us : List Value) (e' : TypeId) (v : Value) (n : Nat) (xs : List Value) (hs : a.eval s = v) (hown : w.ownsRow base e size v n xs) (hb : Blk w b us e')
  (hx : a.eval x = .slice (some ⟨b, 0, none⟩) m m) (hl : us.length = m * size) (h1 : ∀ u ∈ us, u.oneCell' = true)
  (hbytes : (n + m) * bytes ≤ 140737488355328) (h63 : n + m ≤ maxLen) (hbase : base ≤ w.heap.size)
  (h : ∀ v' w', w'.ownsRow base e size v' (n + m) (xs ++ us) → w.grownBy w' v.ownBlock → (∀ g, v'.ownBlock = some g → v.ownBlock = some g ∨ w.heap.size ≤ g) → Below base w w' → K (a.put o.dst v') w') :
  o.wp P a w K Q := by
 obtain ⟨v', w', hr, h2, h3, _, h5⟩ := run_append_own_at (P := P) w base t o.type e i z size bytes ht hi hz hsize hby hzs hsz v n xs hown ⟨b, 0, none⟩ m m us hl (fun j u hj => by
  rw [show (⟨b, 0, none⟩ : Addr).add j = ⟨b, j, none⟩ by unfold Addr.add; split <;> simp_all]
  exact hb.cell hj) h1 h63 hbytes hbase
 unfold Oper.wp execOp; simp only [ho, resolve, invoke, builtin, Sem.run_bind, Sem.run_pure, Result.andThen_ok, List.map_toArray, List.map_cons, List.map_nil, hs, hx, hr]; refine h v' w' h2 h3 ?_ ?_
 ·intro g hg
  rcases h5 with h5 | h5
  ·exact .inl (h5 ▸ hg)
  ·rw [h5] at hg
   injection hg with hg
   exact .inr (by omega)
 ·exact (Below.refl _ _).grown h3 (by omega) (fun k hk => (hown.lt k hk).1)
theorem held_two {S : World → Prop} {i j : Nat} {oi oj : Oper} {fuel : Nat} {listed : Array Bool} {a : Act} {w : World} (hi : ops[i]? = some oi) (hj : ops[j]? = some oj) (hr : Region.ready .any ops listed = [i, j])
  (wi : Region.wanted oi (yielded ops a.tmps) = true) (wj : Region.wanted oj (yielded ops a.tmps) = true)
  (h1 : ∀ K : Act → World → Prop, (∀ a w, S w → wpAnyH P .any ops Q S fuel (listed.setIfInBounds i true) a w → K a w) → oi.wp P a w K Q)
  (h2 : ∀ K : Act → World → Prop, (∀ a w, S w → wpAnyH P .any ops Q S fuel (listed.setIfInBounds j true) a w → K a w) → oj.wp P a w K Q) : wpAnyH P .any ops Q S (fuel + 1) listed a w := by
 refine wpAnyH_all hr (by simp) (fun k hk => ?_)
 rcases List.mem_cons.1 hk with rfl | hk
 ·unfold wpOp
  simp only [hi, wi, if_true]; exact .inl (h1 _ fun a w hS hW => ⟨hS, hW⟩)
 ·obtain rfl : k = j := by simpa using hk
  unfold wpOp; simp only [hj, wj, if_true]; exact .inl (h2 _ fun a w hS hW => ⟨hS, hW⟩)
end
end
end Go.Proofs.YtfcphagmjijmkaaGreatDoor
