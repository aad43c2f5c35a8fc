/-
  slices.Clone, slices.Concat of two lists; 'own' of the law.
-/
import Derived.Test.YtkmofpnefjgnkaaLisK
namespace Go.Proofs.Ytkmofpnefjgnkaa
open Go.RowKit
set_option linter.unusedVariables false
attribute [local go_sem] vwp vUpon_value vUpon_skip vUpon_enter vUpon_row
set_option linter.unusedSimpArgs false
set_option linter.unusedVariables false
set_option maxRecDepth 100000 in
theorem clone_any (xs : List St) (v : Value) (w : World) (hl : Row w.heap.size 15 St.enc w v xs) (hm : xs.length ≤ 40000) : Calls Try.prog 37 #[v] w fun e w' => ∃ v', e = .returned v' ∧ Owns w.heap.size w' v' xs ∧ Below w.heap.size w w' := by
  obtain ⟨iM, hi0, hm0, hm1, hm2⟩ := info_parts infoSt
  obtain ⟨s, cap, rfl, hmax⟩ := hl.shape
  have hlh := Lib.hid hl
  clear hl
  have q22 : ∀ (w : World) (a : Option Addr) (n c n' c' : Nat), (binOp .eql 22 (.slice a n c) (.slice none n' c')).run Try.prog w = .ok (.bool a.isNone) w := fun w a n c n' c' => Lib.run_eql_slice_nil w _ _ a n c n' c' Try.underlying22
  cases s with
  | none =>
    have h0 : xs = [] := by
      rcases Nat.eq_zero_or_pos xs.length with h | h
      · exact List.length_eq_zero_iff.1 h
      · obtain ⟨b, o, c, e, _⟩ := hlh.out.open_ h
        cases e
    subst h0
    go_enter Try.func37, Try.ntmps37
    go_wp2
    go_ret
    exact ⟨_, rfl, Owns.nil _ _, (by repeat (first | exact Below.refl _ _ | assumption | refine Below.drew ?_ | refine Below.alloc ?_ (by (try simp) <;> omega) _ | refine Below.setCell ?_ (by (try simp) <;> omega) _))⟩
  | some a =>
    have hnew : (w.alloc (.cells #[] 45)).ownsRow w.heap.size 45 15 (.slice (some ⟨w.heap.size, 0, none⟩) 0 0) 0 [] := World.ownsRow_made w #[] 0 (Nat.le_refl _) (Nat.zero_le _) (by simp)
    have hr2 : Row w.heap.size 15 St.enc (w.alloc (.cells #[] 45)) (.slice (some a) xs.length cap) xs := hlh.out.below (by repeat (first | exact Below.refl _ _ | assumption | refine Below.drew ?_ | refine Below.alloc ?_ (by (try simp) <;> omega) _ | refine Below.setCell ?_ (by (try simp) <;> omega) _))
    replace hr2 := Lib.hid hr2
    go_enter Try.func37, Try.ntmps37
    go_wp2_with (first
      | (at_builtin; refine wpList_append_row rfl _ _ _ rfl w.heap.size 45 iM _ 15 72 Try.underlying22 hi0 hm0 hm1 hm2 rfl (by omega) (w.alloc (.cells #[] 45)) _ _ _ (by rfl) hnew St.enc_len St.enc_one w.heap.size _ xs hr2.out (by rfl) (by unfold maxLen; omega) (by omega) (by simp) ?_; intro v3 w3 hown3 hgr3)
      | go_in)
    rw [Nat.zero_add, List.nil_append] at hown3
    have hb3 : Below w.heap.size w w3 := (Below.alloc (Below.refl _ _) (Nat.le_refl _) _).grown hgr3 (by simp) (fun k hk => by simp [Value.ownBlock] at hk; omega)
    have hh := Lib.hid hown3
    clear hown3
    go_wp2
    go_ret
    exact ⟨v3, rfl, hh.out, hb3⟩
set_option maxRecDepth 100000 in
set_option maxHeartbeats 1000000 in
theorem concat_any (xs ys : List St) (v1 v2 : Value) (b : Nat) (w : World) (h1 : Row w.heap.size 15 St.enc w v1 xs) (h2 : Row w.heap.size 15 St.enc w v2 ys) (hn : xs.length ≤ 20000) (hm : ys.length ≤ 20000)
    (hb : b < w.heap.size) (g0 : w.cell? ⟨b, 0, none⟩ = some v1) (g1 : w.cell? ⟨b, 1, none⟩ = some v2) : Calls Try.prog 35 #[.slice (some ⟨b, 0, none⟩) 2 2] w fun e w' => ∃ v', e = .returned v' ∧ Owns w.heap.size w' v' (xs ++ ys) ∧ Below w.heap.size w w' := by
  obtain ⟨iM, hi0, hm0, hm1, hm2⟩ := info_parts infoSt
  obtain ⟨s1, c1, rfl, hmax1⟩ := h1.shape
  obtain ⟨s2, c2, rfl, hmax2⟩ := h2.shape
  replace h1 := Lib.hid h1
  replace h2 := Lib.hid h2
  obtain ⟨n, en⟩ : ∃ n, xs.length = n := ⟨_, rfl⟩
  obtain ⟨m, em⟩ : ∃ n, ys.length = n := ⟨_, rfl⟩
  rw [en] at g0 hn hmax1
  rw [em] at g1 hm hmax2
  replace en := Lib.hid en
  replace em := Lib.hid em
  have GA := fun w => grow_any (n + m) w (by omega)
  rw [show ((n + m : Nat) : Int) = (n : Int) + m by omega] at GA
  replace GA := Lib.hid GA
  go_enter Try.func35, Try.ntmps35
  go_wp2
  go_loopw [3, 11] (fun z i wr => ((i = .int .i64 0 ∧ z = .int .i64 0) ∨ (i = .int .i64 1 ∧ z = .int .i64 n) ∨ (i = .int .i64 2 ∧ z = .int .i64 ((n : Int) + m))) ∧ Below w.heap.size w wr) (fun _ i _ => 2 - (intOf i).toNat)
  case atStart => exact ⟨.inl ⟨rfl, rfl⟩, (by repeat (first | exact Below.refl _ _ | assumption | refine Below.drew ?_ | refine Below.alloc ?_ (by (try simp) <;> omega) _ | refine Below.setCell ?_ (by (try simp) <;> omega) _))⟩
  case round =>
    obtain ⟨hk, hbr⟩ := hrel
    have zr := hbr.size
    obtain ⟨hcr, hfr⟩ := bcell hbr
    have yb : b < wr.heap.size := by omega
    rcases hk with ⟨rfl, rfl⟩ | ⟨rfl, rfl⟩ | ⟨rfl, rfl⟩
    · go_wp2
      go_roundw
      case rel => exact ⟨.inr (.inl ⟨rfl, rfl⟩), hbr⟩
      case measure => simp [intOf]
    · go_wp2
      go_roundw
      case rel => exact ⟨.inr (.inr ⟨rfl, rfl⟩), hbr⟩
      case measure => simp [intOf]
    · go_wp2_with (first
        | (go_at_call 56; (with_reducible refine (GA.out _).mono ?_); rintro e w3 ⟨v3, rfl, hown3, hb3⟩)
        | go_in)
      have hb03 : Below w.heap.size w w3 := hbr.trans (hb3.mono zr)
      have z3 := hb03.size
      have hown03 : w3.ownsRow w.heap.size 45 15 v3 0 [] := ⟨hown3.1, hown3.2.imp id (fun ⟨g, cap, cur, e, hg, r⟩ => ⟨g, cap, cur, e, Nat.le_trans zr hg, r⟩)⟩
      clear hown3 hb3 hcr hfr hbr zr yb
      go_wp2
      go_loopw [6, 27] (fun v i wr => ((i = .int .i64 0 ∧ wr.ownsRow w.heap.size 45 15 v 0 []) ∨ (i = .int .i64 1 ∧ wr.ownsRow w.heap.size 45 15 v n (xs.flatMap St.enc)) ∨ (i = .int .i64 2 ∧ wr.ownsRow w.heap.size 45 15 v (n + m) (xs.flatMap St.enc ++ ys.flatMap St.enc))) ∧ Below w.heap.size w wr) (fun _ i _ => 2 - (intOf i).toNat)
      case atStart => exact ⟨.inl ⟨rfl, hown03⟩, hb03⟩
      case round =>
        obtain ⟨hk, hbr⟩ := hrel
        have zr := hbr.size
        obtain ⟨hcr, hfr⟩ := bcell hbr
        have yb : b < wr.heap.size := by omega
        rcases hk with ⟨rfl, hown⟩ | ⟨rfl, hown⟩ | ⟨rfl, hown⟩
        · have hrow : Row w.heap.size 15 St.enc wr (.slice s1 n c1) xs := by have := h1.out.below hbr; rw [en.out] at this; exact this
          have en' := en.out
          go_wp2_with (first
            | (at_builtin; refine wpList_append_row rfl _ _ _ rfl w.heap.size 45 iM _ 15 72 Try.underlying22 hi0 hm0 hm1 hm2 rfl (by omega) wr _ _ _ (by rfl) hown St.enc_len St.enc_one w.heap.size _ xs hrow (by rfl) (by unfold maxLen; omega) (by omega) zr ?_; intro v4 w4 hown4 hgr4)
            | go_in)
          have hb4 : Below w.heap.size w w4 := hbr.grown hgr4 zr (fun g hg => (hown.lt g hg).1)
          rw [Nat.zero_add, List.nil_append, en'] at hown4
          replace hown4 := Lib.hid hown4
          go_wp2
          go_roundw
          case rel => exact ⟨.inr (.inl ⟨rfl, hown4.out⟩), hb4⟩
          case measure => simp [intOf]
        · have hrow : Row w.heap.size 15 St.enc wr (.slice s2 m c2) ys := by have := h2.out.below hbr; rw [em.out] at this; exact this
          have em' := em.out
          go_wp2_with (first
            | (at_builtin; refine wpList_append_row rfl _ _ _ rfl w.heap.size 45 iM _ 15 72 Try.underlying22 hi0 hm0 hm1 hm2 rfl (by omega) wr _ _ _ (by rfl) hown St.enc_len St.enc_one w.heap.size _ ys hrow (by rfl) (by unfold maxLen; omega) (by omega) zr ?_; intro v4 w4 hown4 hgr4)
            | go_in)
          have hb4 : Below w.heap.size w w4 := hbr.grown hgr4 zr (fun g hg => (hown.lt g hg).1)
          rw [em'] at hown4
          replace hown4 := Lib.hid hown4
          go_wp2
          go_roundw
          case rel => exact ⟨.inr (.inr ⟨rfl, hown4.out⟩), hb4⟩
          case measure => simp [intOf]
        · replace hown := Lib.hid hown
          go_wp2
          go_ret
          refine ⟨_, rfl, ?_, hbr⟩
          have := hown.out
          unfold Owns
          rw [List.length_append, List.flatMap_append, en.out, em.out]
          exact this
end Go.Proofs.Ytkmofpnefjgnkaa
