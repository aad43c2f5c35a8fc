/-
  'own', 'kept', 'spoil' of the law.
-/
import Derived.Test.YtkmofpnefjgnkaaLisR
namespace Go.Proofs.Ytkmofpnefjgnkaa
open Go.RowKit
set_option linter.unusedVariables false
attribute [local go_sem] vwp vUpon_value vUpon_skip vUpon_enter vUpon_row
set_option linter.unusedSimpArgs false
set_option linter.unusedVariables false
def mark : St := ⟨0, ⟨0, 0, 0, 0⟩, ⟨0, 0, 0, 0⟩, ⟨0, 0, 0, 0⟩, ⟨#[]⟩, 77⟩
set_option maxRecDepth 100000 in
theorem own_any (xs : List St) (v : Value) (w : World) (hl : Row w.heap.size 15 St.enc w v xs) (hm : xs.length ≤ 20000) : Calls Try.prog 7 #[v] w fun e w' => ∃ v', e = .returned v' ∧ Owns w.heap.size w' v' (xs ++ [mark]) ∧ Below w.heap.size w w' := by
  obtain ⟨iM, hi0, hm0, hm1, hm2⟩ := info_parts infoSt
  obtain ⟨s, cap, rfl, hmax⟩ := hl.shape
  have hnil : World.ownsRow w w.heap.size 45 15 (.slice none 0 0) 0 [] := World.ownsRow_nil _ _ _ _
  have hcs : [.int .u8 0, .int .i64 0, .int .i64 0, .int .i64 0, .int .i64 0, .int .u8 0, .int .u8 0, .int .u8 0, .int .u8 0, .int .u8 0, .int .u8 0, .int .u8 0, .int .u8 0, .string ⟨#[]⟩, .int .i64 77] = mark.enc := rfl
  obtain ⟨n, en⟩ : ∃ n, xs.length = n := ⟨_, rfl⟩
  replace hl := Lib.hid hl
  replace hcs := Lib.hid hcs
  go_enter Try.func7, Try.ntmps7
  go_wp2_with (first
    | (at_builtin; refine wpList_append_row rfl _ _ _ rfl w.heap.size 45 iM _ 15 72 Try.underlying22 hi0 hm0 hm1 hm2 rfl (by omega) w _ _ _ (by rfl) hnil St.enc_len St.enc_one w.heap.size _ xs hl.out (by rfl) (by unfold maxLen; omega) (by omega) (Nat.le_refl _) ?_; intro v3 w3 hown3 hgr3)
    | (have hb3 : Below w.heap.size w w3 := (Below.refl _ _).grown hgr3 (Nat.le_refl _) (fun k hk => by simp [Value.ownBlock] at hk); (at_builtin; refine wpList_append_new rfl _ _ _ rfl w.heap.size 45 iM _ 15 72 Try.underlying22 hi0 hm0 hm1 hm2 rfl (by omega) w3 1 _ _ _ _ (by rfl) hown3 (by rfl) rfl (by simp [Value.oneCell']) (by omega) (by unfold maxLen; omega) hgr3.size ?_; intro v4 w4 hown4 hb4))
    | go_in)
  have hb3 : Below w.heap.size w w3 := (Below.refl _ _).grown hgr3 (Nat.le_refl _) (fun k hk => by simp [Value.ownBlock] at hk)
  rw [Nat.zero_add, List.nil_append, flat_snoc hcs.out] at hown4
  replace hown4 := Lib.hid hown4
  go_wp2
  go_ret
  refine ⟨_, rfl, ?_, hb3.trans hb4⟩
  unfold Owns
  rw [List.length_append]
  exact hown4.out
/-- The copy, cut to what it copied. -/
theorem row_cut {B : Nat} {w : World} {s : Option Addr} {n cap : Nat} {xs ys : List St} (h : Row B 15 St.enc w (.slice s (xs ++ ys).length cap) (xs ++ ys)) (hn : xs.length = n) : Row B 15 St.enc w (.slice s n cap) xs := by
  obtain ⟨s', cap', e, hl, hc, h⟩ := h
  injection e with e1 _ e2
  subst e1
  subst e2
  refine ⟨s, cap, by rw [hn], by rw [List.length_append] at hl; omega, hc, fun h0 => ?_⟩
  obtain ⟨b, o, hs, hlt, hx⟩ := h (by rw [List.length_append]; omega)
  refine ⟨b, o, hs, hlt, fun j x hj => hx j x ?_⟩
  rw [List.getElem?_append_left (List.getElem?_eq_some_iff.1 hj).1]
  exact hj
attribute [local go_sem high] eql_stroke
set_option maxHeartbeats 1000000 in
set_option maxRecDepth 100000 in
theorem kept_any (xs : List St) (v v2 : Value) (w : World) (hn : Row w.heap.size 15 St.enc w v (xs ++ [mark])) (hl : Row w.heap.size 15 St.enc w v2 xs) (hm : xs.length ≤ 20000) : Calls Try.prog 15 #[v, v2] w fun e w' => e = .returned (.bool true) ∧ Below w.heap.size w w' := by
  obtain ⟨b, o, cap, rfl, hb, hcap, hcm, hx⟩ := row_st hn (by simp)
  obtain ⟨s, cap2, rfl, hmax⟩ := hl.shape
  obtain ⟨n, en⟩ : ∃ n, xs.length = n := ⟨_, rfl⟩
  have hlen : (xs ++ [mark]).length = n + 1 := by simp [en]
  have hcut : Row w.heap.size 15 St.enc w (.slice (some ⟨b, o, none⟩) n cap) xs := row_cut hn en
  obtain ⟨g0, g1, g2, g3, g4, g5, g6, g7, g8, g9, g10, g11, g12, g13, g14⟩ := hx n mark (by rw [List.getElem?_append_right (by omega), en, Nat.sub_self]; rfl)
  simp only [mark] at g0 g1 g2 g3 g4 g5 g6 g7 g8 g9 g10 g11 g12 g13 g14
  have S := rsame_any xs xs _ _ w hcut hl (by omega) (by omega)
  rw [sameL_refl] at S
  have hEq : St.eqb ⟨0, ⟨0, 0, 0, 0⟩, ⟨0, 0, 0, 0⟩, ⟨0, 0, 0, 0⟩, ⟨#[]⟩, 77⟩ ⟨0, ⟨0, 0, 0, 0⟩, ⟨0, 0, 0, 0⟩, ⟨0, 0, 0, 0⟩, ⟨#[]⟩, 77⟩ = true := St.eqb_refl _
  rw [hlen] at hcap ⊢
  rw [en] at S hm ⊢
  clear hx hl hn hcut hlen
  replace S := Lib.hid S
  replace en := Lib.hid en
  have n1 : (n : Int) + 1 ≤ cap := by omega
  have n2 : (n : Int) < n + 1 := by omega
  unfold maxLen at hcm
  go_enter Try.func15, Try.ntmps15
  go_wp2_with (first
    | (go_at_call 12; (with_reducible refine (S.out).mono ?_); rintro e w3 ⟨rfl, hb3⟩)
    | go_in)
  go_ret
  exact ⟨rfl, hb3⟩
end Go.Proofs.Ytkmofpnefjgnkaa
