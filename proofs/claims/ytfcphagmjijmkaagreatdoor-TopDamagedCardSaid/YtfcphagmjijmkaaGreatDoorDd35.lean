/-
  Damage, plain: a screen mended row by row.
-/
import Derived.Test.YtfcphagmjijmkaaGreatDoorDd34
namespace Go.Proofs.YtfcphagmjijmkaaGreatDoor
open Go.RowKit
set_option linter.unusedVariables false
set_option linter.unusedSimpArgs false
attribute [local go_sem] vwp vUpon_value vUpon_skip vUpon_enter vUpon_row
set_option maxHeartbeats 16000000
def layC (cs : List Ce) (i : Nat) (p : List Ce) : List Ce := cs.take i ++ p ++ cs.drop (i + p.length)
theorem layC_len {cs p : List Ce} {i : Nat} (h : i + p.length ≤ cs.length) : (layC cs i p).length = cs.length := by
 unfold layC; simp only [List.length_append, List.length_take, List.length_drop]; omega
theorem flatC_take' (cs : List Ce) (i : Nat) : (cs.flatMap Ce.enc).take (i * 11) = (cs.take i).flatMap Ce.enc := by
 induction cs generalizing i with
 | nil => simp
 | cons c r ih =>
  cases i with
  | zero => simp
  | succ i =>
   rw [List.flatMap_cons, List.take_succ_cons, List.flatMap_cons, ← ih i, Nat.add_mul, Nat.one_mul, Nat.add_comm (i * 11) 11, ← Ce.enc_len c, List.take_length_add_append]
theorem flatC_drop' (cs : List Ce) (i : Nat) : (cs.flatMap Ce.enc).drop (i * 11) = (cs.drop i).flatMap Ce.enc := by
 induction cs generalizing i with
 | nil => simp
 | cons c r ih =>
  cases i with
  | zero => simp
  | succ i =>
   rw [List.flatMap_cons, List.drop_succ_cons, ← ih i, Nat.add_mul, Nat.one_mul, Nat.add_comm (i * 11) 11, ← Ce.enc_len c, List.drop_length_add_append]
theorem OwnsC.openD {base : Nat} {w : World} {v : Value} {cs : List Ce} (h : OwnsC base w v cs) (h0 : 0 < cs.length) :
  ∃ g cap cur, v = .slice (some ⟨g, 0, none⟩) cs.length cap ∧ base ≤ g ∧ w.heap[g]? = some (.cells cur 47 (0, 0)) ∧ cs.length ≤ cap ∧ cap ≤ maxLen ∧ cap * 11 = cur.size ∧ cur.toList.take (cs.length * 11) = cs.flatMap Ce.enc := by
 rcases h.2 with ⟨_, h1⟩ | ⟨g, cap, cur, hv, hb, hg, hc, hm, hs, ht⟩
 ·omega
 ·exact ⟨g, cap, cur, hv, hb, hg, hc, hm, by first | exact hs | exact hs.symm | omega, ht⟩
theorem OwnsC.lay {base : Nat} {w : World} {g cap : Nat} {cur : Array Value} {cs p : List Ce} {i : Nat} (hb : base ≤ g) (hg : w.heap[g]? = some (.cells cur 47 (0, 0))) (hc : cs.length ≤ cap) (hm : cap ≤ maxLen) (hs : cap * 11 = cur.size)
  (ht : cur.toList.take (cs.length * 11) = cs.flatMap Ce.enc) (hi : i + p.length ≤ cs.length) :
  OwnsC base (w.setRow g (cur.toList.take (i * 11) ++ p.flatMap Ce.enc ++ cur.toList.drop (i * 11 + (p.flatMap Ce.enc).length)).toArray) (.slice (some ⟨g, 0, none⟩) cs.length cap) (layC cs i p) := by
 have hpl : (p.flatMap Ce.enc).length = p.length * 11 := by rw [flat_len Ce.enc_len]
 have hcl : cur.toList.length = cap * 11 := by rw [hs]; simp
 have e1 : cur.toList.take (i * 11) = (cs.take i).flatMap Ce.enc := by
  rw [← flatC_take', ← ht, List.take_take, Nat.min_eq_left (by omega)]
 have e2 : (cur.toList.drop (i * 11 + p.length * 11)).take (cs.length * 11 - (i * 11 + p.length * 11)) = (cs.drop (i + p.length)).flatMap Ce.enc := by
  rw [← flatC_drop', ← ht, Nat.add_mul, List.drop_take]
 have hl : (layC cs i p).length = cs.length := layC_len hi; unfold OwnsC; rw [hl]; refine ⟨by rw [flat_len Ce.enc_len, hl], .inr ⟨g, cap, _, rfl, hb, setRow_heap w g cur _ _ _ hg, hc, hm, ?_, ?_⟩⟩
 ·simp only [List.size_toArray, List.length_append, List.length_take, List.length_drop, hpl, hcl]
  have : i * 11 + p.length * 11 ≤ cap * 11 := by omega
  omega
 ·rw [List.toList_toArray, hpl]
  have hli : (cur.toList.take (i * 11) ++ p.flatMap Ce.enc).length = i * 11 + p.length * 11 := by rw [List.length_append, List.length_take, hpl, hcl]; omega
  rw [List.take_append, hli, List.take_of_length_le (by rw [hli]; omega), e2, e1]; unfold layC; rw [List.flatMap_append, List.flatMap_append]
def PutP (P : Nat → Bool) (now cs C : List Ce) : Prop := C.length = cs.length ∧ ∀ k, k < cs.length → C[k]? = if P k then now[k]? else cs[k]?
theorem PutP.zero {P : Nat → Bool} {now cs : List Ce} (h : ∀ k, k < cs.length → P k = false) : PutP P now cs cs := ⟨rfl, fun k hk => by rw [h k hk]; rfl⟩
theorem PutP.congr {P Q : Nat → Bool} {now cs C : List Ce} (h : PutP P now cs C) (e : ∀ k, k < cs.length → P k = Q k) : PutP Q now cs C :=
 ⟨h.1, fun k hk => by rw [h.2 k hk, e k hk]⟩
theorem PutP.row {P : Nat → Bool} {now cs C : List Ce} (h : PutP P now cs C) (hl : now.length = cs.length) {n m : Nat} (hm : n + m ≤ cs.length) :
  PutP (fun k => P k || (decide (n ≤ k) && decide (k < n + m))) now cs (layC C n ((now.drop n).take m)) := by
 have hp : ((now.drop n).take m).length = m := by rw [List.length_take, List.length_drop]; omega
 refine ⟨by rw [layC_len (by rw [hp, h.1]; exact hm)]; exact h.1, fun k hk => ?_⟩; unfold layC
 show _ = (if (P k || (decide (n ≤ k) && decide (k < n + m))) = true then now[k]? else cs[k]?)
 rw [hp]; have hcl := h.1
 have h1 : (C.take n ++ (now.drop n).take m).length = n + m := by rw [List.length_append, hp, List.length_take]; omega
 have h2 : (C.take n).length = n := by rw [List.length_take]; omega
 by_cases c1 : k < n
 ·rw [List.getElem?_append_left (by omega), List.getElem?_append_left (by omega), List.getElem?_take, if_pos c1, h.2 k hk, decide_eq_false (show ¬ n ≤ k by omega)]
  simp
 ·by_cases c2 : k < n + m
  ·rw [List.getElem?_append_left (by omega), List.getElem?_append_right (by omega), h2, List.getElem?_take, if_pos (by omega), List.getElem?_drop, show n + (k - n) = k by omega, decide_eq_true (show n ≤ k by omega), decide_eq_true c2]
   simp
  ·rw [List.getElem?_append_right (by omega), h1, List.getElem?_drop, show n + m + (k - (n + m)) = k by omega, h.2 k hk, decide_eq_false c2]
   simp
theorem PutP.eq {wd : Int} {qs : List Re} {now cs C : List Ce} (h : PutP (fun k => hasL qs ((k % wd.toNat : Nat) : Int) ((k / wd.toNat : Nat) : Int)) now cs C) (hl : now.length = cs.length) : C = putN wd now cs qs := by
 apply List.ext_getElem?
 intro k
 unfold putN; rw [updP_get]
 by_cases hk : k < cs.length
 ·rw [h.2 k hk]
  obtain ⟨c, hc⟩ := get_at (l := cs) rfl hk; obtain ⟨d, hd⟩ := get_at (l := now) rfl (show k < now.length by omega); rw [hc, hd]; simp only [Option.map_some, Option.getD_some]
  split <;> rfl
 ·rw [List.getElem?_eq_none (show C.length ≤ k by rw [h.1]; omega), show cs[k]? = none from List.getElem?_eq_none (by omega)]
  rfl
theorem scr_meet {wd ht : Int} (hf : fitsS wd ht = true) {q : Re} (hq : mayR q = true) :
  0 ≤ (meetR q ⟨0, 0, wd, ht⟩).x ∧ 0 ≤ (meetR q ⟨0, 0, wd, ht⟩).wd ∧ (meetR q ⟨0, 0, wd, ht⟩).x + (meetR q ⟨0, 0, wd, ht⟩).wd ≤ wd ∧ 0 ≤ (meetR q ⟨0, 0, wd, ht⟩).y ∧ 0 ≤ (meetR q ⟨0, 0, wd, ht⟩).ht ∧ (meetR q ⟨0, 0, wd, ht⟩).y + (meetR q ⟨0, 0, wd, ht⟩).ht ≤ ht ∧ (0 < (meetR q ⟨0, 0, wd, ht⟩).ht → 0 < (meetR q ⟨0, 0, wd, ht⟩).wd) := by
 obtain ⟨z0, z1, z2, z3, z4⟩ := fitsS_true.1 hf
 cases he : emptyR (meetR q ⟨0, 0, wd, ht⟩)
 ·obtain ⟨N, rfl⟩ : ∃ N : Nat, wd = N := ⟨wd.toNat, by omega⟩
  obtain ⟨M, rfl⟩ : ∃ N : Nat, ht = N := ⟨ht.toNat, by omega⟩; have h := meet_in hq (by omega) (by omega) he; simp only at h; omega
 ·have h : meetR q ⟨0, 0, wd, ht⟩ = Re.none := by
   by_cases hn : (emptyR q || emptyR (⟨0, 0, wd, ht⟩ : Re)) = true
   ·unfold meetR; rw [if_pos hn]
   ·have hm := meet_may q ⟨0, 0, wd, ht⟩
    unfold meetR at he hm ⊢; rw [if_neg hn] at he hm ⊢; unfold fromR at he hm ⊢
    split
    ·rfl
    ·rename_i hc
     rw [if_neg hc] at he hm; rw [empty_none hm] at he; unfold noneR at he; dsimp only at he hc; simp only [Bool.or_eq_true, decide_eq_true_eq] at he; exact absurd he (by omega)
  rw [h]; unfold Re.none; simp only; omega
theorem at_row {W k Y X m : Nat} (hX : X + m ≤ W) : (decide (Y * W + X ≤ k) && decide (k < Y * W + X + m)) = (decide (k / W = Y) && decide (X ≤ k % W) && decide (k % W < X + m)) := by
 rw [Bool.eq_iff_iff]; simp only [Bool.and_eq_true, decide_eq_true_eq]
 by_cases hW : W = 0
 ·subst hW
  constructor
  ·rintro ⟨h1, h2⟩; omega
  ·rintro ⟨⟨h1, h2⟩, h3⟩; omega
 have e := Nat.div_add_mod k W; have hlt := Nat.mod_lt k (Nat.pos_of_ne_zero hW)
 constructor
 ·rintro ⟨h1, h2⟩
  have hk : k / W = Y := by
   rw [Nat.div_eq_iff (Nat.pos_of_ne_zero hW)]; omega
  rw [hk, Nat.mul_comm] at e; omega
 ·rintro ⟨⟨h1, h2⟩, h3⟩
  rw [h1, Nat.mul_comm] at e; omega
theorem row_has {W k : Nat} {q : Re} {y : Nat} (hx : 0 ≤ q.x) (hy : 0 ≤ q.y) (hw : 0 ≤ q.wd) (hX : q.x + q.wd ≤ W) :
  (hasR ⟨q.x, q.y, q.wd, y⟩ ((k % W : Nat) : Int) ((k / W : Nat) : Int) || (decide ((q.y.toNat + y) * W + q.x.toNat ≤ k) && decide (k < (q.y.toNat + y) * W + q.x.toNat + q.wd.toNat))) = hasR ⟨q.x, q.y, q.wd, (y + 1 : Nat)⟩ ((k % W : Nat) : Int) ((k / W : Nat) : Int) := by
 rw [at_row (by omega), Bool.eq_iff_iff]; simp only [Bool.or_eq_true, Bool.and_eq_true, decide_eq_true_eq, has_iff]; omega
theorem PutP.step {wd ht : Int} {now cs C : List Ce} {qs : List Re} {q : Re} {y : Nat} (hf : fitsS wd ht = true) (hlen : (cs.length : Int) = wd * ht) (hl : now.length = cs.length) (hq : mayR q = true) (hy : (y : Int) < (meetR q ⟨0, 0, wd, ht⟩).ht)
  (h : PutP (fun k => hasL qs ((k % wd.toNat : Nat) : Int) ((k / wd.toNat : Nat) : Int) || hasR ⟨(meetR q ⟨0, 0, wd, ht⟩).x, (meetR q ⟨0, 0, wd, ht⟩).y, (meetR q ⟨0, 0, wd, ht⟩).wd, y⟩ ((k % wd.toNat : Nat) : Int) ((k / wd.toNat : Nat) : Int)) now cs C) :
  ((meetR q ⟨0, 0, wd, ht⟩).y.toNat + y) * wd.toNat + (meetR q ⟨0, 0, wd, ht⟩).x.toNat + (meetR q ⟨0, 0, wd, ht⟩).wd.toNat ≤ cs.length ∧
  PutP (fun k => hasL qs ((k % wd.toNat : Nat) : Int) ((k / wd.toNat : Nat) : Int) || hasR ⟨(meetR q ⟨0, 0, wd, ht⟩).x, (meetR q ⟨0, 0, wd, ht⟩).y, (meetR q ⟨0, 0, wd, ht⟩).wd, (y + 1 : Nat)⟩ ((k % wd.toNat : Nat) : Int) ((k / wd.toNat : Nat) : Int)) now cs
   (layC C (((meetR q ⟨0, 0, wd, ht⟩).y.toNat + y) * wd.toNat + (meetR q ⟨0, 0, wd, ht⟩).x.toNat) ((now.drop (((meetR q ⟨0, 0, wd, ht⟩).y.toNat + y) * wd.toNat + (meetR q ⟨0, 0, wd, ht⟩).x.toNat)).take (meetR q ⟨0, 0, wd, ht⟩).wd.toNat)) := by
 obtain ⟨z0, z1, z2, z3, z4⟩ := fitsS_true.1 hf; obtain ⟨m1, m2, m3, m4, m5, m6, _⟩ := scr_meet hf hq; generalize meetR q ⟨0, 0, wd, ht⟩ = p at *; obtain ⟨N, rfl⟩ : ∃ N : Nat, wd = N := ⟨wd.toNat, by omega⟩; obtain ⟨M, rfl⟩ : ∃ N : Nat, ht = N := ⟨ht.toNat, by omega⟩
 have hm : (p.y.toNat + y) * N + p.x.toNat + p.wd.toNat ≤ cs.length := by
  have h1 : (p.y.toNat + y + 1) * N ≤ M * N := Nat.mul_le_mul_right _ (by omega)
  have h2 : cs.length = N * M := by
   have : ((cs.length : Nat) : Int) = ((N * M : Nat) : Int) := by rw [hlen]; simp
   omega
  rw [h2, Nat.mul_comm N M]; rw [Nat.add_mul, Nat.one_mul] at h1; omega
 refine ⟨hm, ?_⟩; refine (h.row hl (n := (p.y.toNat + y) * N + p.x.toNat) (m := p.wd.toNat) hm).congr (fun k hk => ?_); simp only [Int.toNat_natCast]; rw [Bool.or_assoc, row_has m1 m4 m2 m3]
theorem PutP.begin {wd : Int} {now cs C : List Ce} {qs : List Re} {a b c : Int}
  (h : PutP (fun k => hasL qs ((k % wd.toNat : Nat) : Int) ((k / wd.toNat : Nat) : Int)) now cs C) :
  PutP (fun k => hasL qs ((k % wd.toNat : Nat) : Int) ((k / wd.toNat : Nat) : Int) || hasR ⟨a, b, c, (0 : Nat)⟩ ((k % wd.toNat : Nat) : Int) ((k / wd.toNat : Nat) : Int)) now cs C := by
 refine h.congr (fun k _ => ?_); rw [show hasR ⟨a, b, c, (0 : Nat)⟩ ((k % wd.toNat : Nat) : Int) ((k / wd.toNat : Nat) : Int) = false by rw [Bool.eq_false_iff]; intro h; rw [has_iff] at h; simp only at h; omega, Bool.or_false]
theorem PutP.done {wd ht : Int} {now cs C : List Ce} {qs : List Re} {q : Re} {i : Nat} (hf : fitsS wd ht = true) (hlen : (cs.length : Int) = wd * ht) (hq : mayR q = true) (hi : qs[i]? = some q)
  (h : PutP (fun k => hasL (qs.take i) ((k % wd.toNat : Nat) : Int) ((k / wd.toNat : Nat) : Int) || hasR ⟨(meetR q ⟨0, 0, wd, ht⟩).x, (meetR q ⟨0, 0, wd, ht⟩).y, (meetR q ⟨0, 0, wd, ht⟩).wd, (meetR q ⟨0, 0, wd, ht⟩).ht⟩ ((k % wd.toNat : Nat) : Int) ((k / wd.toNat : Nat) : Int)) now cs C) :
  PutP (fun k => hasL (qs.take (i + 1)) ((k % wd.toNat : Nat) : Int) ((k / wd.toNat : Nat) : Int)) now cs C := by
 obtain ⟨z0, z1, z2, z3, z4⟩ := fitsS_true.1 hf; refine h.congr (fun k hk => ?_); obtain ⟨N, rfl⟩ : ∃ N : Nat, wd = N := ⟨wd.toNat, by omega⟩; obtain ⟨M, rfl⟩ : ∃ N : Nat, ht = N := ⟨ht.toNat, by omega⟩
 have h2 : cs.length = N * M := by
  have : ((cs.length : Nat) : Int) = ((N * M : Nat) : Int) := by rw [hlen]; simp
  omega
 have e1 : (⟨(meetR q ⟨0, 0, (N : Int), (M : Int)⟩).x, (meetR q ⟨0, 0, (N : Int), (M : Int)⟩).y, (meetR q ⟨0, 0, (N : Int), (M : Int)⟩).wd, (meetR q ⟨0, 0, (N : Int), (M : Int)⟩).ht⟩ : Re) = meetR q ⟨0, 0, N, M⟩ := rfl; rw [e1, has_meet hq (whole_may (by omega) (by omega)), Int.toNat_natCast, whole_has (by omega), Bool.and_true, List.take_add_one, hi]
 simp [hasL]
end Go.Proofs.YtfcphagmjijmkaaGreatDoor
