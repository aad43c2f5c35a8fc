/-
  Plain: a colour's text is read as the colour.
-/
import Derived.Test.YthecbopffdpefaaDoorDooJ
namespace Go.Proofs.YthecbopffdpefaaDoor
open Go.RowKit
set_option linter.unusedVariables false
attribute [local go_sem] vwp vUpon_value vUpon_skip vUpon_enter vUpon_row
set_option linter.unusedSimpArgs false
set_option linter.unusedVariables false
theorem dg_dig (n : Nat) (h : n < 16) : dg (dig n) = n := by
  rcases sixteen n h with rfl | rfl | rfl | rfl | rfl | rfl | rfl | rfl | rfl | rfl | rfl | rfl | rfl | rfl | rfl | rfl <;> decide
/-- A text of a mark and small sixteens. -/
theorem six_text (t : ByteArray) (k : Nat) (N : Nat → Nat) (hk : t.size = k) (h9 : k ≤ 9) (h0 : 1 ≤ k) (hN : ∀ j, N j < 16) (hm : byt t 0 = 35) (hb : ∀ j, 1 ≤ j → j < k → byt t j = dig (N j)) :
    Cnt t k ∧ ∀ j, 1 ≤ j → j < k → dg (byt t j) = N j := by
  have hd : ∀ j, 1 ≤ j → j < k → dg (byt t j) = N j := fun j h1 h2 => by rw [hb j h1 h2, dg_dig _ (hN j)]
  refine ⟨⟨by omega, h9, fun j hj => ?_, fun ⟨h1, _⟩ => by omega⟩, hd⟩
  unfold okAt
  by_cases h : j = 0
  · rw [if_pos h]; exact hm
  · rw [if_neg h, hd j (by omega) hj]; omega
theorem byt_cons {l : List UInt8} {j : Nat} {u : UInt8} (h : l[j]? = some u) : byt ⟨⟨l⟩⟩ j = (u.toNat : Int) := by
  have hl : j < l.length := (List.getElem?_eq_some_iff.1 h).1
  have hs : j < (⟨⟨l⟩⟩ : ByteArray).size := hl
  rw [byt_eq hs]
  have : (⟨⟨l⟩⟩ : ByteArray)[j] = l[j] := rfl
  rw [this, (List.getElem?_eq_some_iff.1 h).2]
theorem tx_read (x : Nib) (r g b a : Int) (h : x.Of r g b a) : Cnt x.tx x.tx.size ∧ (x.tx.size = 4 ∨ x.tx.size = 7 ∨ x.tx.size = 9) ∧ pr x.tx x.tx.size 0 = r ∧ pr x.tx x.tx.size 1 = g ∧ pr x.tx x.tx.size 2 = b ∧ pr x.tx x.tx.size 3 = a ∧ (a = 255 → x.tx.size ≤ 7) := by
  obtain ⟨⟨er, hr1, hr2⟩, ⟨eg, hg1, hg2⟩, ⟨eb, hb1, hb2⟩, ⟨ea, ha1, ha2⟩⟩ := h
  cases hf : x.full
  · have etx : x.tx = ⟨⟨[35, hxU x.r1, hxU x.r2, hxU x.g1, hxU x.g2, hxU x.b1, hxU x.b2, hxU x.a1, hxU x.a2]⟩⟩ := by unfold Nib.tx; rw [hf]; rfl
    have hne : ¬ a = 255 := by
      unfold Nib.full at hf
      simp at hf
      omega
    rw [etx]
    clear etx hf
    obtain ⟨hC, hd⟩ := six_text ⟨⟨[35, hxU x.r1, hxU x.r2, hxU x.g1, hxU x.g2, hxU x.b1, hxU x.b2, hxU x.a1, hxU x.a2]⟩⟩ 9 (fun j => match j with | 1 => x.r1 | 2 => x.r2 | 3 => x.g1 | 4 => x.g2 | 5 => x.b1 | 6 => x.b2 | 7 => x.a1 | _ => x.a2) rfl (by omega) (by omega)
      (fun j => by split <;> assumption) ((byt_cons (u := 35) rfl).trans rfl) (fun j h1 h2 => by
        rcases (by omega : j = 1 ∨ j = 2 ∨ j = 3 ∨ j = 4 ∨ j = 5 ∨ j = 6 ∨ j = 7 ∨ j = 8) with rfl | rfl | rfl | rfl | rfl | rfl | rfl | rfl <;> exact byt_cons rfl)
    refine ⟨hC, .inr (.inr rfl), ?_, ?_, ?_, ?_, fun h => absurd h hne⟩
    · show 16 * dg (byt _ 1) + dg (byt _ 2) = r
      rw [hd 1 (by omega) (by omega), hd 2 (by omega) (by omega)]; exact er.symm
    · show 16 * dg (byt _ 3) + dg (byt _ 4) = g
      rw [hd 3 (by omega) (by omega), hd 4 (by omega) (by omega)]; exact eg.symm
    · show 16 * dg (byt _ 5) + dg (byt _ 6) = b
      rw [hd 5 (by omega) (by omega), hd 6 (by omega) (by omega)]; exact eb.symm
    · show 16 * dg (byt _ 7) + dg (byt _ 8) = a
      rw [hd 7 (by omega) (by omega), hd 8 (by omega) (by omega)]; exact ea.symm
  · have e255 : a = 255 := by
      unfold Nib.full at hf
      simp at hf
      omega
    cases hsh : x.short
    · have etx : x.tx = ⟨⟨[35, hxU x.r1, hxU x.r2, hxU x.g1, hxU x.g2, hxU x.b1, hxU x.b2]⟩⟩ := by unfold Nib.tx; rw [hf, hsh]; rfl
      rw [etx]
      clear etx hf
      obtain ⟨hC, hd⟩ := six_text ⟨⟨[35, hxU x.r1, hxU x.r2, hxU x.g1, hxU x.g2, hxU x.b1, hxU x.b2]⟩⟩ 7 (fun j => match j with | 1 => x.r1 | 2 => x.r2 | 3 => x.g1 | 4 => x.g2 | 5 => x.b1 | _ => x.b2) rfl (by omega) (by omega)
        (fun j => by split <;> assumption) ((byt_cons (u := 35) rfl).trans rfl) (fun j h1 h2 => by
          rcases (by omega : j = 1 ∨ j = 2 ∨ j = 3 ∨ j = 4 ∨ j = 5 ∨ j = 6) with rfl | rfl | rfl | rfl | rfl | rfl <;> exact byt_cons rfl)
      refine ⟨hC, .inr (.inl rfl), ?_, ?_, ?_, e255.symm, fun _ => Nat.le_refl _⟩
      · show 16 * dg (byt _ 1) + dg (byt _ 2) = r
        rw [hd 1 (by omega) (by omega), hd 2 (by omega) (by omega)]; exact er.symm
      · show 16 * dg (byt _ 3) + dg (byt _ 4) = g
        rw [hd 3 (by omega) (by omega), hd 4 (by omega) (by omega)]; exact eg.symm
      · show 16 * dg (byt _ 5) + dg (byt _ 6) = b
        rw [hd 5 (by omega) (by omega), hd 6 (by omega) (by omega)]; exact eb.symm
    · have etx : x.tx = ⟨⟨[35, hxU x.r1, hxU x.g1, hxU x.b1]⟩⟩ := by unfold Nib.tx; rw [hf, hsh]; rfl
      unfold Nib.short at hsh
      simp at hsh
      obtain ⟨c1, c2, c3⟩ := hsh
      rw [etx]
      clear etx hf
      obtain ⟨hC, hd⟩ := six_text ⟨⟨[35, hxU x.r1, hxU x.g1, hxU x.b1]⟩⟩ 4 (fun j => match j with | 1 => x.r1 | 2 => x.g1 | _ => x.b1) rfl (by omega) (by omega)
        (fun j => by split <;> assumption) ((byt_cons (u := 35) rfl).trans rfl) (fun j h1 h2 => by
          rcases (by omega : j = 1 ∨ j = 2 ∨ j = 3) with rfl | rfl | rfl <;> exact byt_cons rfl)
      refine ⟨hC, .inl rfl, ?_, ?_, ?_, e255.symm, fun _ => by show 4 ≤ 7; omega⟩
      · show 16 * dg (byt _ 1) + dg (byt _ 1) = r
        rw [hd 1 (by omega) (by omega)]; show 16 * (x.r1 : Int) + (x.r1 : Int) = r; omega
      · show 16 * dg (byt _ 2) + dg (byt _ 2) = g
        rw [hd 2 (by omega) (by omega)]; show 16 * (x.g1 : Int) + (x.g1 : Int) = g; omega
      · show 16 * dg (byt _ 3) + dg (byt _ 3) = b
        rw [hd 3 (by omega) (by omega)]; show 16 * (x.b1 : Int) + (x.b1 : Int) = b; omega
/-- What a reading of a colour's text tells. -/
theorem tx_parse (x : Nib) (r g b a : Int) (h : x.Of r g b a) (w : World) : Calls Tryd.prog 9 #[.string x.tx] w fun e w' => e = .returned (.tuple #[.agg #[.int .u8 (r), .int .u8 (g), .int .u8 (b), .int .u8 (a)], .int .i64 0, .int .i64 0]) ∧ Below w.heap.size w w' := by
  obtain ⟨hC, h4, e0, e1, e2, e3, _⟩ := tx_read x r g b a h
  have := lparse_good x.tx x.tx.size w hC rfl h4
  rw [e0, e1, e2, e3] at this
  exact this
end Go.Proofs.YthecbopffdpefaaDoor
