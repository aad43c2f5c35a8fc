/-
  XGh: XLisJ XLisM XLisO XLisP XLisQ XLisS XLisT.
-/
import Derived.Test.YtfcphagmjijmkaaGreatDoorDd14
namespace Go.Proofs.YtfcphagmjijmkaaGreatDoor
open Go.RowKit
set_option linter.unusedVariables false
set_option linter.unusedSimpArgs false
attribute [local go_sem] vwp vUpon_value vUpon_skip vUpon_enter vUpon_row
set_option maxHeartbeats 16000000
section
section
theorem St.enc_len (s : St) : s.enc.length = 15 := rfl
theorem infoSt : (Tryz.prog.info? 36).map (fun i => (i.zero, i.size, i.bytes)) = some (some (.agg #[.int .u8 0, .int .i64 0, .int .i64 0, .int .i64 0, .int .i64 0, .int .u8 0, .int .u8 0, .int .u8 0, .int .u8 0, .int .u8 0, .int .u8 0, .int .u8 0, .int .u8 0, .string ⟨#[]⟩, .int .i64 0]), 15, 72) := by kernel_rfl
def Owns (base : Nat) (w : World) (v : Value) (xs : List St) : Prop := w.ownsRow base 36 15 v xs.length (xs.flatMap St.enc)
theorem Owns.row {base B : Nat} {w : World} {v : Value} {xs : List St} (h : Owns base w v xs) (hB : w.heap.size ≤ B) : Row B 15 St.enc w v xs := Row.own St.enc_len h hB (by omega)
theorem Owns.below {base B : Nat} {w w' : World} {v : Value} {xs : List St} (h : Owns base w v xs) (hb : Below B w w') (hB : w.heap.size ≤ B) : Owns base w' v xs := ownsRow_below h hb hB
theorem Owns.nil (base : Nat) (w : World) : Owns base w (.slice none 0 0) [] := World.ownsRow_nil _ _ _ _
end
section
theorem chk_len {xs : List St} (h : chkL xs = 0) : xs.length ≤ 16384 := by
 unfold chkL at h; split at h
 ·cases h
 ·omega
end
section
theorem neq_stroke (w : World) (k x y wd ht c0 c1 c2 c3 b0 b1 b2 b3 n k' x' y' wd' ht' c0' c1' c2' c3' b0' b1' b2' b3' n' : Int) (t t' : ByteArray) :
  (binOp .neq 36 (.agg #[.int .u8 k, .int .i64 x, .int .i64 y, .int .i64 wd, .int .i64 ht, .int .u8 c0, .int .u8 c1, .int .u8 c2, .int .u8 c3, .int .u8 b0, .int .u8 b1, .int .u8 b2, .int .u8 b3, .string t, .int .i64 n]) (.agg #[.int .u8 k', .int .i64 x', .int .i64 y', .int .i64 wd', .int .i64 ht', .int .u8 c0', .int .u8 c1', .int .u8 c2', .int .u8 c3', .int .u8 b0', .int .u8 b1', .int .u8 b2', .int .u8 b3', .string t', .int .i64 n'])).run Tryz.prog w
   = .ok (.bool (!St.eqb ⟨k, ⟨x, y, wd, ht⟩, ⟨c0, c1, c2, c3⟩, ⟨b0, b1, b2, b3⟩, t, n⟩ ⟨k', ⟨x', y', wd', ht'⟩, ⟨c0', c1', c2', c3'⟩, ⟨b0', b1', b2', b3'⟩, t', n'⟩)) w := by
 rw [run_neq_struct]; have h := eq_stroke 9996 w ⟨k, ⟨x, y, wd, ht⟩, ⟨c0, c1, c2, c3⟩, ⟨b0, b1, b2, b3⟩, t, n⟩ ⟨k', ⟨x', y', wd', ht'⟩, ⟨c0', c1', c2', c3'⟩, ⟨b0', b1', b2', b3'⟩, t', n'⟩; simp only at h; rw [h]
 rfl
attribute [local go_sem high] neq_stroke
end
section
theorem go_mem (xs : List St) : ∀ (o : Int), chkGo o xs = 0 → ∀ s ∈ xs, errS s = 0 := by
 induction xs with
 | nil => intro o h s hs; simp at hs
 | cons x xs ih =>
  intro o h s hs
  simp only [chkGo] at h
  by_cases h1 : errS x = 0
  ·rw [if_neg (by simp [h1])] at h
   by_cases h2 : opn o x < 0
   ·rw [if_pos h2] at h; exact absurd h (by decide)
   ·rw [if_neg h2] at h
    rcases List.mem_cons.1 hs with rfl | hs
    ·exact h1
    ·exact ih _ h s hs
  ·rw [if_pos h1] at h; exact absurd h h1
theorem chk_mem {xs : List St} (h : chkL xs = 0) (s : St) (hs : s ∈ xs) : errS s = 0 := by
 unfold chkL at h
 split at h
 ·exact absurd h (by decide)
 ·exact go_mem xs 0 h s hs
theorem err_may {s : St} (h : errS s = 0) : mayR s.rect = true := by
 unfold errS at h
 split at h
 ·cases h
 ·split at h
  ·assumption
  ·cases h
end
end
set_option maxRecDepth 100000 in
theorem cclone_any (xs : List Ce) (v : Value) (w : World) (hl : Row w.heap.size 11 Ce.enc w v xs) (hm : xs.length ≤ 1000000) : Calls Tryz.prog 50 #[v] w fun e w' => ∃ v', e = .returned v' ∧ OwnsC w.heap.size w' v' xs ∧ Below w.heap.size w w' := by
 obtain ⟨iM, hi0, hm0, hm1, hm2⟩ := info_parts infoCe; obtain ⟨s, cap, rfl, hmax⟩ := hl.shape; have hlh := hdh hl; clear hl
 have q22 : ∀ (w : World) (a : Option Addr) (n c n' c' : Nat), (binOp .eql 38 (.slice a n c) (.slice none n' c')).run Tryz.prog w = .ok (.bool a.isNone) w := fun w a n c n' c' => Lib.run_eql_slice_nil w _ _ a n c n' c' Tryz.underlying38
 cases s with
 | none =>
  have h0 : xs = [] := by
   rcases Nat.eq_zero_or_pos xs.length with h | h
   ·exact List.length_eq_zero_iff.1 h
   ·obtain ⟨b, o, c, e, _⟩ := hlh.out.open_ h
    cases e
  subst h0
  go_enter Tryz.func50, Tryz.ntmps50
  go_wp2; go_ret; exact ⟨_, rfl, OwnsC.nil _ _, belt⟩
 | some a =>
  have hnew : (w.alloc (.cells #[] 47)).ownsRow w.heap.size 47 11 (.slice (some ⟨w.heap.size, 0, none⟩) 0 0) 0 [] := World.ownsRow_made w #[] 0 lrr (Nat.zero_le _) (by simp); have hr2 : Row w.heap.size 11 Ce.enc (w.alloc (.cells #[] 47)) (.slice (some a) xs.length cap) xs := hlh.out.below belt; replace hr2 := hdh hr2
  go_enter Tryz.func50, Tryz.ntmps50
  go_wp2_with (first
   | (at_builtin; refine wpList_append_row rfl _ _ _ rfl w.heap.size 47 iM _ 11 16 Tryz.underlying38 hi0 hm0 hm1 hm2 rfl (by omega) (w.alloc (.cells #[] 47)) _ _ _ (by rfl) hnew Ce.enc_len Ce.enc_one w.heap.size _ xs hr2.out (by rfl) (by unfold maxLen; omega) (by omega) (by simp) ?_; intro v3 w3 hown3 hgr3)
   | go_in)
  rw [Nat.zero_add, List.nil_append] at hown3; have hb3 : Below w.heap.size w w3 := (Below.alloc (Below.refl _ _) lrr _).grown hgr3 (by simp) (fun k hk => by simp [Value.ownBlock] at hk; omega); have hh := hdh hown3; clear hown3; go_wp2; go_ret; exact ⟨v3, rfl, hh.out, hb3⟩
def OutS (base : Nat) (er a b : Int) (cs : List Ce) (w : World) (e : Ending) (w' : World) : Prop := Below base w w' ∧ ∃ v, e = .returned (.tuple #[.agg #[.int .i64 (a), .int .i64 (b), v], .int .i64 er]) ∧ OwnsC base w' v cs
theorem Blk.put3 {w : World} {b : Nat} {cs : List Value} {e : TypeId} (h : Blk w b cs e) (hl : cs.length = 3) (v0 v1 v2 : Value) : Blk (((w.setCell ⟨b, 0, none⟩ v0).setCell ⟨b, 1, none⟩ v1).setCell ⟨b, 2, none⟩ v2) b [v0, v1, v2] e := by
 have h2 := ((h.set 0 v0).set 1 v1).set 2 v2
 match cs, hl with
 | [a0, a1, a2], _ => exact h2
theorem OwnsC.set_ne {w : World} {base : Nat} {v : Value} {cs : List Ce} (h : OwnsC base w v cs) {b o : Nat} (hb : b < base) (u : Value) : OwnsC base (w.setCell ⟨b, o, none⟩ u) v cs :=
 own_other h (fun g hg => by have := (own_block_lt h g hg).1; show g ≠ b; omega) u
end Go.Proofs.YtfcphagmjijmkaaGreatDoor
