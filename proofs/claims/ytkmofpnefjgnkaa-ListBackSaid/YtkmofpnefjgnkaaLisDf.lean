/-
  slices.Delete of a stretch of a row of strokes that the call owns.
-/
import Derived.Test.YtkmofpnefjgnkaaLisDe
namespace Go.Proofs.Ytkmofpnefjgnkaa
open Go.RowKit
set_option linter.unusedVariables false
attribute [local go_sem] vwp vUpon_value vUpon_skip vUpon_enter vUpon_row
set_option linter.unusedSimpArgs false
set_option linter.unusedVariables false
theorem zero_stroke (w : World) : (zeroValue 45).run Try.prog w = .ok (.agg #[.int .u8 0, .int .i64 0, .int .i64 0, .int .i64 0, .int .i64 0, .int .u8 0, .int .u8 0, .int .u8 0, .int .u8 0, .int .u8 0, .int .u8 0, .int .u8 0, .int .u8 0, .string ⟨#[]⟩, .int .i64 0]) w := by kernel_rfl
set_option maxHeartbeats 2000000 in
set_option maxRecDepth 100000 in
theorem delete_any (base i j : Nat) (xs : List St) (v : Value) (w : World) (h : Owns base w v xs) (hij : i < j) (hj : j ≤ xs.length) (hm : xs.length ≤ 100000) :
    Calls Try.prog 64 #[v, .int .i64 i, .int .i64 j] w fun e w' => ∃ v', e = .returned v' ∧ Owns base w' v' (xs.take i ++ xs.drop j) ∧ w.grownBy w' v.ownBlock ∧ v'.ownBlock = v.ownBlock := by
  obtain ⟨s0, cap, rfl⟩ := own_slice h
  obtain ⟨n, hn⟩ : ∃ n, xs.length = n := ⟨_, rfl⟩
  unfold Owns at h
  rw [hn] at h hj hm ⊢
  obtain ⟨g, rfl, hg, hgl⟩ := own_addr h (by omega)
  obtain ⟨iM, hi0, hm0, hm1, hm2⟩ := info_parts infoSt
  have hcap : n ≤ cap ∧ cap ≤ maxLen := by
    rcases h.2 with ⟨h1, _⟩ | ⟨g', cap', cur, e, _, _, hnc, hcm, _⟩
    · cases h1
    · injection e with _ _ e3; subst e3; exact ⟨hnc, hcm⟩
  obtain ⟨hc1, hc2⟩ := hcap
  unfold maxLen at hc2
  have p1 : (i : Int) ≤ j := by omega
  have p2 : (j : Int) ≤ n := by omega
  have p3 : (n : Int) ≤ cap := by omega
  have p4 : ((i : Int) == j) = false := by simp; omega
  have p5 : (0 : Int) ≤ i := by omega
  have p6 : (0 : Int) ≤ j := by omega
  have p7 : (i : Int) ≤ cap := by omega
  have p8 : (i : Int) ≤ n := by omega
  replace hn := Lib.hid hn
  have hh0 := Lib.hid h
  clear h
  go_enter Try.func64, Try.ntmps64
  go_upto_region 5 with fail
  refine wp_region_steady_then (Held w 0 []) 6 (by kernel_rfl) (by kernel_rfl) (by decide) (by kernel_rfl) (by kernel_rfl) ⟨(by repeat (first | exact Below.refl _ _ | assumption | refine Below.drew ?_ | refine Below.alloc ?_ (by (try simp) <;> omega) _ | refine Below.setCell ?_ (by (try simp) <;> omega) _ | (refine Below.trans ?_ (Below.mono (by assumption) (by (try simp) <;> omega))))), (by (try simp) <;> omega), (by first | exact trivial | (simp only [Cells]; go_simp))⟩ ?_
  simp only [List.take_succ_cons, List.take_zero]
  repeat (first | (refine' wpSteady_do _ _ _; rotate_left; (focus rfl); (focus (intro w1 hS R hR; have hc := hS.cells; simp only [Cells] at hc; obtain ⟨hco, hfo⟩ := bcell hS.old; go_simp; (try go_bits); first | exact hR _ hS | fail)); simp only [Act.put, List.setIfInBounds_toArray, List.set_cons_zero, List.set_cons_succ]) | (refine wpSteady_pass ?_ ?_; (focus rfl); simp only [Act.put, List.setIfInBounds_toArray, List.set_cons_zero, List.set_cons_succ]))
  refine wpSteady_nil (fun u9 hS9 => ?_)
  have hc9 := hS9.cells; have hb9 := hS9.old; have hz9 := hS9.size; clear hS9; simp only [Cells] at hc9; obtain ⟨hco9, hfo9⟩ := bcell hb9
  simp only [List.drop_succ_cons, List.drop_zero, List.drop_nil]
  have h9 := ownsRow_below hh0.out hb9 (Nat.le_refl _)
  obtain ⟨cur, hh, hcs, hnc, hcm, hcell, hrest⟩ := own_del (i := i) (j := j) St.enc_len (by omega) h9 hn.out (by omega) hj
  have hone : ∀ u ∈ (xs.drop j).flatMap St.enc, u.oneCell' = true := by
    intro u hu
    obtain ⟨y, _, hy⟩ := List.mem_flatMap.1 hu
    exact St.enc_one y u hy
  obtain ⟨news, hnews⟩ : ∃ news, (xs.drop j).flatMap St.enc = news := ⟨_, rfl⟩
  rw [hnews] at hcell hrest hone
  have hnl : news.length = (n - j) * 15 := by rw [← hnews, flat_len St.enc_len, List.length_drop, hn.out]
  obtain ⟨A, hA, hsrc⟩ : ∃ A : Addr, (if cap = j then some (⟨g, 0, none⟩ : Addr) else some ⟨g, j * 15, none⟩) = some A ∧ (∀ p u, news[p]? = some u → u9.cell? (A.add p) = some u) := by
    by_cases hc : cap = j
    · refine ⟨⟨g, 0, none⟩, by simp [hc], fun p u hp => ?_⟩
      have : news.length = 0 := by rw [hnl]; omega
      rw [List.length_eq_zero_iff.1 this] at hp
      simp at hp
    · refine ⟨⟨g, j * 15, none⟩, by simp [hc], fun p u hp => ?_⟩
      rw [Addr.add_lit]
      exact hcell p u hp
  have R1 : ∀ ty, (Builtin.append_ #[22, 22] ty #[.slice (some ⟨g, 0, none⟩) i cap, .slice (some A) (n - j) (cap - j)]).run Try.prog u9 = _ := fun ty =>
    run_append_room (P := Try.prog) u9 22 ty 45 iM Try.underlying22 hi0 g i cap cur hh A (n - j) (cap - j) news (by rw [hm1, hnl]) hsrc hone (by omega) (by rw [hm1, hnl, hcs]; omega)
  rw [hm1] at R1
  obtain ⟨w1, hw1⟩ : ∃ w1, u9.setRow g (cur.toList.take (i * 15) ++ news ++ cur.toList.drop (i * 15 + news.length)).toArray = w1 := ⟨_, rfl⟩
  rw [hw1] at R1
  have hh1 : w1.heap[g]? = some (.cells (cur.toList.take (i * 15) ++ news ++ cur.toList.drop (i * 15 + news.length)).toArray 45 (0, 0)) := by rw [← hw1]; exact setRow_heap u9 g cur _ _ _ hh
  have hs1 : (cur.toList.take (i * 15) ++ news ++ cur.toList.drop (i * 15 + news.length)).length = cap * 15 := by
    have h2 := (hrest []).2
    rw [List.length_append, h2, List.length_drop, Array.length_toList, hcs, hnl]; omega
  obtain ⟨zs, R2, hzl⟩ := run_clear_row (P := Try.prog) w1 22 45 (.agg #[.int .u8 0, .int .i64 0, .int .i64 0, .int .i64 0, .int .i64 0, .int .u8 0, .int .u8 0, .int .u8 0, .int .u8 0, .int .u8 0, .int .u8 0, .int .u8 0, .int .u8 0, .string ⟨#[]⟩, .int .i64 0]) 15 Try.underlying22 zero_stroke rfl (by decide +kernel) g ((i + (n - j)) * 15) (n - (i + (n - j))) (cap - (i + (n - j))) _ (by omega) (by omega) hh1 (by simp only [List.size_toArray]; rw [hs1]; omega)
  simp only [List.toList_toArray, List.size_toArray] at hzl R2
  have own2 : (w1.setRow g ((cur.toList.take (i * 15) ++ news ++ cur.toList.drop (i * 15 + news.length)).take ((i + (n - j)) * 15) ++ zs).toArray).ownsRow base 45 15 (.slice (some ⟨g, 0, none⟩) (i + (n - j)) cap) (i + (n - j)) ((xs.take i ++ xs.drop j).flatMap St.enc) := by
    refine ⟨by rw [flat_len St.enc_len, List.length_append, List.length_take, List.length_drop, hn.out, Nat.min_eq_left (by omega)], .inr ⟨g, cap, _, rfl, hg, setRow_heap w1 g _ _ _ _ hh1, by omega, hcm, ?_, ?_⟩⟩
    · rw [List.size_toArray, hzl, hs1]
    · have := (hrest (cur.toList.drop (i * 15 + news.length))).1
      simp only [this]
      rw [List.take_left' (by rw [flat_len St.enc_len, List.length_append, List.length_take, List.length_drop, hn.out, Nat.min_eq_left (by omega)])]
  have gr1 : u9.grownBy w1 (some g) := by
    rw [← hw1]
    exact ⟨rfl, rfl, rfl, by simp, fun k _ hk => setRow_other u9 g k _ (fun e => hk (by simp [e]))⟩
  have gr2 : u9.grownBy (w1.setRow g ((cur.toList.take (i * 15) ++ news ++ cur.toList.drop (i * 15 + news.length)).take ((i + (n - j)) * 15) ++ zs).toArray) (some g) :=
    ⟨gr1.os, gr1.tape, gr1.output, by simpa using gr1.size, fun k hk hne => (setRow_other w1 g k _ (fun e => hne (by simp [e]))).trans (gr1.block k hk hne)⟩
  have gr3 : w.grownBy (w1.setRow g ((cur.toList.take (i * 15) ++ news ++ cur.toList.drop (i * 15 + news.length)).take ((i + (n - j)) * 15) ++ zs).toArray) (some g) :=
    ⟨gr2.os.trans hb9.os, gr2.tape.trans hb9.tape, gr2.output.trans hb9.output, Nat.le_trans hb9.size gr2.size, fun k hk hne => (gr2.block k (Nat.lt_of_lt_of_le hk hb9.size) hne).trans (hb9.block k hk)⟩
  rw [hA]
  obtain ⟨r, hr⟩ : ∃ r, i + (n - j) = r := ⟨_, rfl⟩
  rw [hr] at R1 R2 own2 gr2 gr3
  generalize w1.setRow g ((cur.toList.take (i * 15) ++ news ++ cur.toList.drop (i * 15 + news.length)).take (r * 15) ++ zs).toArray = w2 at R2 own2 gr2 gr3
  have q1 : r < n := by omega
  have q2 : ¬ cap = r := by omega
  have q3 : (r : Int) ≤ n := by omega
  have q4 : (0 : Int) ≤ r := by omega
  have q5 : (r : Int) ≤ cap := by omega
  refine wpList_append_run rfl (.tmp 22) (.tmp 25) _ rfl _ _ _ _ _ (by rfl) (by rfl) (R1 _) ?_
  have own2' := Lib.hid own2
  have gr3' := Lib.hid gr3
  have hr' := Lib.hid hr
  have R2' := fun ty => R2 ty
  clear own2 gr2 gr3 gr1 hr hw1 hh1 hs1 hzl hrest hcell hsrc hA hcs hh R1 hnews hnl hone h9 hcm hnc
  go_wp2_with (first
    | (refine wpList_clear_run rfl (.tmp 31) _ rfl _ _ _ _ (by rfl) (R2' _) ?_)
    | go_in)
  go_ret
  refine ⟨_, rfl, ?_, gr3'.out, rfl⟩
  unfold Owns
  rw [List.length_append, List.length_take, List.length_drop, hn.out, Nat.min_eq_left (by omega), hr'.out]
  exact own2'.out
end Go.Proofs.Ytkmofpnefjgnkaa
