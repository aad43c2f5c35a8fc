/-
  The law MotionNames walked: a closed sentence.
-/
import Derived.Test.YtblneabjdbllbaaMotV
namespace Go.Proofs.Ytblneabjdbllbaa
open Go.RowKit
set_option linter.unusedVariables false
attribute [local go_sem] vwp vUpon_value vUpon_skip vUpon_enter vUpon_row
set_option linter.unusedSimpArgs false
def moN (j : Nat) : Mo := ⟨j, 0, 1, 0, 1, 0, 0, false⟩
def msN (n : Nat) : List Mo := (List.range n).map moN
theorem msN_len (n : Nat) : (msN n).length = n := by simp [msN]
theorem msN_at (n j : Nat) (h : j < n) : (msN n)[j]? = some (moN j) := by unfold msN; rw [List.getElem?_map, List.getElem?_range h]; rfl
theorem msN_mem {n : Nat} {m : Mo} (h : m ∈ msN n) : ∃ j, j < n ∧ m = moN j := by
  obtain ⟨j, hj, rfl⟩ := List.mem_map.1 h
  exact ⟨j, List.mem_range.1 hj, rfl⟩
theorem msN_wf (n : Nat) (h : n ≤ 5000) : ∀ m ∈ msN n, Wf m := by
  intro m hm
  obtain ⟨j, hj, rfl⟩ := msN_mem hm
  exact ⟨by unfold I64 moN; simp only; omega, by unfold I64 moN; simp only; omega, by unfold I64 moN; simp only; omega, by unfold I64 moN; simp only; omega, by unfold I64 moN; simp only; omega, by unfold U8 moN; simp only; omega, by unfold I64 moN; simp only; omega⟩
theorem moN_chk (j : Nat) : chk (moN j) = 0 := by
  unfold chk moN
  simp only
  rw [if_neg (by omega)]
  rfl
theorem msN_up (n : Nat) : Up (msN n) := by
  unfold Up msN
  rw [List.pairwise_map]
  exact List.pairwise_lt_range.imp fun {a b} h => by show (a : Int) < b; omega
theorem cnt_ok (n : Nat) (h : n ≤ 4096) : cntE (msN n) 5 = 0 := by
  unfold cntE
  rw [msN_len, if_neg (by omega), bad_none fun m hm => by obtain ⟨j, _, rfl⟩ := msN_mem hm; exact moN_chk j]
  rfl
theorem cnt_many (n : Nat) (t : Int) (h : 4096 < n) : cntE (msN n) t = 4 := by
  unfold cntE
  rw [msN_len, if_pos h]
def encM (m : Mo) : List Value := [.int .i64 m.node, .int .i64 m.fr, .int .i64 m.to, .int .i64 m.st, .int .i64 m.ln, .int .u8 m.es, .int .i64 m.ts, .bool m.bk]
theorem lst_of_block {w : World} {b n cap : Nat} {cur : Array Value} {e : TypeId} (hb : w.heap[b]? = some (.cells cur e (0, 0))) (hc : ∀ j, j < n → ∀ i u, (encM (moN j))[i]? = some u → cur[j * 8 + i]? = some u) (hn : n ≤ maxLen) :
    Lst w (.slice (some ⟨b, 0, none⟩) n cap) (msN n) := by
  refine .inr ⟨⟨b, 0, none⟩, cap, by rw [msN_len], fun _ => Go.lt_of_block hb, by rw [msN_len]; exact hn, fun j m hj => ?_⟩
  have hjn : j < n := by have := (List.getElem?_eq_some_iff.1 hj).1; rwa [msN_len] at this
  rw [msN_at n j hjn] at hj
  obtain rfl := Option.some.inj hj
  have hcell : ∀ i u, (encM (moN j))[i]? = some u → w.cell? (((⟨b, 0, none⟩ : Addr).add (j * 8)).add i) = some u := by
    intro i u hi
    have e1 : ((⟨b, 0, none⟩ : Addr).add (j * 8)).add i = ⟨b, j * 8 + i, none⟩ := by
      rw [show (⟨b, 0, none⟩ : Addr).add (j * 8) = ⟨b, j * 8, none⟩ by unfold Addr.add; split <;> simp_all]
      unfold Addr.add; split <;> simp_all
    rw [e1]
    have := hc j hjn i u hi
    simp only [World.cell?, hb]
    simpa using this
  have h0 := hcell 0 _ rfl
  rw [add_zero] at h0
  exact ⟨h0, hcell 1 _ rfl, hcell 2 _ rfl, hcell 3 _ rfl, hcell 4 _ rfl, hcell 5 _ rfl, hcell 6 _ rfl, hcell 7 _ rfl⟩
/-- Eight cells, one behind the other. -/
def put8 (cur : Array Value) (p : Nat) (n : Int) : Array Value :=
  (((((((cur.setIfInBounds p (.int .i64 n)).setIfInBounds (p + 1) (.int .i64 0)).setIfInBounds (p + 2) (.int .i64 1)).setIfInBounds (p + 3) (.int .i64 0)).setIfInBounds (p + 4) (.int .i64 1)).setIfInBounds (p + 5) (.int .u8 0)).setIfInBounds (p + 6) (.int .i64 0)).setIfInBounds (p + 7) (.bool false)
theorem put8_size (cur : Array Value) (p : Nat) (n : Int) : (put8 cur p n).size = cur.size := by simp [put8]
theorem put8_low (cur : Array Value) (p q : Nat) (n : Int) (h : q < p) : (put8 cur p n)[q]? = cur[q]? := by
  unfold put8
  iterate 8 rw [Array.getElem?_setIfInBounds_ne (by omega)]
theorem put8_at (cur : Array Value) (p : Nat) (j : Nat) (h : p + 8 ≤ cur.size) (i : Nat) (u : Value) (hi : (encM (moN j))[i]? = some u) : (put8 cur p j)[p + i]? = some u := by
  have hl : i < 8 := (List.getElem?_eq_some_iff.1 hi).1
  unfold put8
  rcases (by omega : i = 0 ∨ i = 1 ∨ i = 2 ∨ i = 3 ∨ i = 4 ∨ i = 5 ∨ i = 6 ∨ i = 7) with rfl | rfl | rfl | rfl | rfl | rfl | rfl | rfl
  · obtain rfl : Value.int .i64 (j : Int) = u := Option.some.inj hi
    show _[p]? = _
    iterate 7 rw [Array.getElem?_setIfInBounds_ne (by omega)]
    rw [Array.getElem?_setIfInBounds_self_of_lt (by omega)]
  all_goals
    obtain rfl := Option.some.inj hi
    repeat (first | rw [Array.getElem?_setIfInBounds_ne (by omega)] | rw [Array.getElem?_setIfInBounds_self_of_lt (by simp; omega)])
  all_goals rfl
theorem blk8 {w : World} {B : Nat} {cur : Array Value} {e : TypeId} (h : w.heap[B]? = some (.cells cur e (0, 0))) (p : Nat) (n : Int) :
    ((((((((w.setCell ⟨B, p, none⟩ (.int .i64 n)).setCell ⟨B, p + 1, none⟩ (.int .i64 0)).setCell ⟨B, p + 2, none⟩ (.int .i64 1)).setCell ⟨B, p + 3, none⟩ (.int .i64 0)).setCell ⟨B, p + 4, none⟩ (.int .i64 1)).setCell ⟨B, p + 5, none⟩ (.int .u8 0)).setCell ⟨B, p + 6, none⟩ (.int .i64 0)).setCell ⟨B, p + 7, none⟩ (.bool false)).heap[B]? = some (.cells (put8 cur p n) e (0, 0)) := by
  unfold put8
  have h1 := heap_setCell_same w B p cur e (.int .i64 n) h
  have h2 := heap_setCell_same _ B (p + 1) _ e (.int .i64 0) h1
  have h3 := heap_setCell_same _ B (p + 2) _ e (.int .i64 1) h2
  have h4 := heap_setCell_same _ B (p + 3) _ e (.int .i64 0) h3
  have h5 := heap_setCell_same _ B (p + 4) _ e (.int .i64 1) h4
  have h6 := heap_setCell_same _ B (p + 5) _ e (.int .u8 0) h5
  have h7 := heap_setCell_same _ B (p + 6) _ e (.int .i64 0) h6
  exact heap_setCell_same _ B (p + 7) _ e (.bool false) h7
def mM : Mo := ⟨0, -1048576, 1048576, 0, 1048576, 3, 1, false⟩
def mM2 : Mo := ⟨0, -1048576, 1048577, 0, 1048576, 3, 1, false⟩
def mM3 : Mo := ⟨-1, 2097152, 0, 0, 0, 0, 0, false⟩
def mM4 : Mo := ⟨0, 2097152, 0, 0, 0, 0, 0, false⟩
def mM5 : Mo := ⟨0, 0, 0, 0, 0, 9, 0, false⟩
theorem wf_mM : Wf mM := ⟨by unfold I64; decide, by unfold I64; decide, by unfold I64; decide, by unfold I64; decide, by unfold I64; decide, by unfold U8; decide, by unfold I64; decide⟩
theorem wf_mM2 : Wf mM2 := ⟨by unfold I64; decide, by unfold I64; decide, by unfold I64; decide, by unfold I64; decide, by unfold I64; decide, by unfold U8; decide, by unfold I64; decide⟩
theorem wf_mM3 : Wf mM3 := ⟨by unfold I64; decide, by unfold I64; decide, by unfold I64; decide, by unfold I64; decide, by unfold I64; decide, by unfold U8; decide, by unfold I64; decide⟩
theorem wf_mM4 : Wf mM4 := ⟨by unfold I64; decide, by unfold I64; decide, by unfold I64; decide, by unfold I64; decide, by unfold I64; decide, by unfold U8; decide, by unfold I64; decide⟩
theorem wf_mM5 : Wf mM5 := ⟨by unfold I64; decide, by unfold I64; decide, by unfold I64; decide, by unfold I64; decide, by unfold I64; decide, by unfold U8; decide, by unfold I64; decide⟩
theorem infoM : (Try.prog.info? 23).map (fun i => (i.zero, i.size, i.bytes)) = some (some (.agg #[.int .i64 (0), .int .i64 (0), .int .i64 (0), .int .i64 (0), .int .i64 (0), .int .u8 (0), .int .i64 (0), .bool (false)]), 8, 64) := by kernel_rfl
set_option maxHeartbeats 4000000 in
set_option maxRecDepth 100000 in
theorem walk_MotionNames (w : World) : Calls Try.prog 6 #[] w fun e w' => e = .returned (.bool true) ∧ Below w.heap.size w w' := by
  obtain ⟨iM, hm0, hm1, hm2, hm3⟩ := info_parts infoM
  obtain ⟨N, hN⟩ : ∃ N : Nat, N = 4097 := ⟨_, rfl⟩
  have n0 : 4097 ≤ N := by omega
  have n1 : N ≤ 4097 := by omega
  replace hN := Lib.hid hN
  go_enter Try.func6, Try.ntmps6
  go_wp2_with (first
    | (go_at_call 9; (with_reducible refine (alive_any _).mono ?_); rintro e w1 ⟨rfl, hb1⟩; obtain ⟨hc1, hf1⟩ := bcell hb1; have hz1 := hb1.size; (try simp at hz1); (try have lt1 : w.heap.size < w1.heap.size := (by omega)))
    | (at_make; refine wpList_make_full w1 rfl _ _ _ rfl w1.heap.size 23 iM _ 8 Try.underlying35 hm0 hm1 hm2 .i64 .i64 4097 4097 N rfl rfl (by omega) (by omega) (by rw [hm3]; omega) (by unfold maxLen; omega) (Nat.le_refl _) ?_; intro w2 hown2 hg2))
  have hb2 : Below w.heap.size w w2 := hb1.grown hg2 hb1.size (fun k e => by cases e)
  obtain ⟨cur0, hblk, hsz⟩ : ∃ cur : Array Value, w2.heap[w1.heap.size]? = some (.cells cur 23 (0, 0)) ∧ cur.size = N * 8 := by
    rcases hown2.2 with ⟨h, _⟩ | ⟨g, cap, cur, h, _, hh, _, _, hcur, _⟩
    · cases h
    · simp at h
      obtain ⟨rfl, rfl⟩ := h
      exact ⟨cur, hh, hcur⟩
  obtain ⟨B, hB⟩ : ∃ B, w1.heap.size = B := ⟨_, rfl⟩
  rw [hB] at hblk ⊢
  have hwB : w.heap.size ≤ B := by have := hb1.size; omega
  clear hown2 hg2 hB hb1 hc1 hf1 hz1
  go_loopw [3] (fun i wr => ∃ (k : Nat) (cur : Array Value), k ≤ N ∧ i = .int .i64 k ∧ wr.heap[B]? = some (.cells cur 23 (0, 0)) ∧ cur.size = N * 8 ∧ (∀ j, j < k → ∀ i u, (encM (moN j))[i]? = some u → cur[j * 8 + i]? = some u) ∧ Below w.heap.size w wr) (fun i _ => N - (intOf i).toNat)
  case atStart => exact ⟨0, cur0, Nat.zero_le _, rfl, hblk, hsz, fun _ h => absurd h (Nat.not_lt_zero _), hb2⟩
  case round =>
    clear hblk hsz hb2
    obtain ⟨k, cur, hk, rfl, hblk, hsz, hcur, hbr⟩ := hrel
    have zr := hbr.size
    have zB := Go.lt_of_block hblk
    replace hcur := Lib.hid hcur
    by_cases hkN : k < N
    · have hc : ∀ o, o < N * 8 → ∃ u, wr.cell? ⟨B, o, none⟩ = some u := fun o ho => ⟨cur[o]'(by omega), by simp only [World.cell?, hblk]; simp [show o < cur.size by omega]⟩
      have hfz : ∀ o, wr.frozen? ⟨B, o, none⟩ = false := fun o => by simp [World.frozen?, hblk]
      obtain ⟨u0, s0⟩ := hc (k * 8) (by omega)
      obtain ⟨u1, s1⟩ := hc (k * 8 + 1) (by omega)
      obtain ⟨u2, s2⟩ := hc (k * 8 + 2) (by omega)
      obtain ⟨u3, s3⟩ := hc (k * 8 + 3) (by omega)
      obtain ⟨u4, s4⟩ := hc (k * 8 + 4) (by omega)
      obtain ⟨u5, s5⟩ := hc (k * 8 + 5) (by omega)
      obtain ⟨u6, s6⟩ := hc (k * 8 + 6) (by omega)
      obtain ⟨u7, s7⟩ := hc (k * 8 + 7) (by omega)
      have g0 := hfz (k * 8)
      have g1 := hfz (k * 8 + 1)
      have g2 := hfz (k * 8 + 2)
      have g3 := hfz (k * 8 + 3)
      have g4 := hfz (k * 8 + 4)
      have g5 := hfz (k * 8 + 5)
      have g6 := hfz (k * 8 + 6)
      have g7 := hfz (k * 8 + 7)
      have hkk : (k : Int) < N := by omega
      clear hc hfz
      have hblk' := Lib.hid hblk
      clear hblk
      go_wp2
      go_roundw
      case rel =>
        refine ⟨k + 1, put8 cur (k * 8) k, by omega, by go_num, ?_, by rw [put8_size]; exact hsz, fun j hj i u hi => ?_, ?_⟩
        · exact blk8 hblk'.out (k * 8) k
        · rcases Nat.lt_succ_iff_lt_or_eq.1 hj with hj | rfl
          · have hi8 : i < 8 := (List.getElem?_eq_some_iff.1 hi).1
            rw [put8_low _ _ _ _ (by omega)]
            exact hcur.out j hj i u hi
          · exact put8_at cur (j * 8) j (by omega) i u hi
        · repeat (refine Below.setCell ?_ hwB _)
          exact hbr
      case measure => simp [intOf]; omega
    · rw [show (k : Int) = N by omega]
      have hkN' : k = N := by omega
      rw [hkN'] at hcur
      clear hkN hk hkN'
      have hL1 := lst_of_block (n := 4096) (cap := N) hblk (fun j hj => hcur.out j (by omega)) (by unfold maxLen; omega)
      have hL2 := lst_of_block (n := N) (cap := N) hblk (fun j hj => hcur.out j hj) (by unfold maxLen; omega)
      have W1 := msN_wf 4096 (by omega)
      have W2 := msN_wf N (by omega)
      have hle := srt_of_up (msN_up 4096)
      have hlen : (srt (msN 4096)).length = 4096 := by rw [hle, msN_len]
      have hnode : (nodesN (msN 4096))[4095]? = some 4095 := by
        unfold nodesN
        rw [hle, List.getElem?_map, msN_at _ _ (by omega)]
        rfl
      have hcm := fun t => cnt_many N t (by omega)
      replace hlen := Lib.hid hlen
      replace hnode := Lib.hid hnode
      replace hle := Lib.hid hle
      replace hcm := Lib.hid hcm
      replace hL2 := Lib.hid hL2
      replace hL1 := Lib.hid hL1
      have hblk' := Lib.hid hblk
      clear hblk
      go_wp2_with fail
      go_at_call 18
      refine (all_any (msN 4096) _ 5 _ hL1.out W1 ⟨by omega, by omega⟩).mono ?_
      rintro e w3 ⟨hb3, hr3⟩
      rcases hr3 with ⟨hne, _⟩ | ⟨_, v1, v2, b1, b2, rfl, _, _, _, _, o1, o2⟩
      · exact absurd (cnt_ok 4096 (by omega)) hne
      rw [hlen.out] at o1 o2
      have hI3 := ints_of_own o1 (by unfold nodesN; rw [List.length_map, hlen.out])
      obtain ⟨s1, cap1, rfl⟩ := own_slice o1
      obtain ⟨s2, cap2, rfl⟩ := own_slice o2
      replace hI3 := Lib.hid hI3
      clear o1 o2
      go_wp2_with fail
      go_at_call 18
      refine (all_any (msN N) _ 5 _ (hL2.out.below hb3) W2 ⟨by omega, by omega⟩).mono ?_
      rintro e w4 ⟨hb4, hr4⟩
      obtain rfl : e = .returned (.tuple #[.slice none 0 0, .slice none 0 0, .int .i64 4]) := by
        rcases hr4 with ⟨_, h⟩ | ⟨h0, _⟩
        · rw [h, hcm.out]
        · rw [hcm.out] at h0; exact absurd h0 (by decide)
      clear hr4
      have hb34 := hb3.trans (hb4.mono hb3.size)
      have hI4 := hI3.out.below hb4
      replace hI4 := Lib.hid hI4
      go_wp2_with fail
      go_at_call 19
      refine (next_any (msN N) _ (-1) _ (hL2.out.below hb34) W2 ⟨by omega, by omega⟩).mono ?_
      rintro e w5 ⟨hb5, hr5⟩
      obtain rfl : e = .returned (.tuple #[.int .i64 0, .bool false, .int .i64 4]) := by
        rcases hr5 with ⟨_, h⟩ | ⟨h0, _⟩
        · rw [h, hcm.out]
        · rw [hcm.out] at h0; exact absurd h0 (by decide)
      clear hr5
      have hI5 := hI4.out.below hb5
      have hbr5 := hbr.trans ((hb34.trans (hb5.mono hb34.size)).mono zr)
      have zr5 := hbr5.size
      replace hI5 := Lib.hid hI5
      replace hblk' := Lib.hid True.intro
      clear hL1 hL2 hI3 hI4 hb3 hb4 hb34 hb5 W1 W2 hblk' hcur hbr zr zB
      have A1 : ∀ w, Calls Try.prog 10 #[.agg #[.int .i64 ((mM).node), .int .i64 ((mM).fr), .int .i64 ((mM).to), .int .i64 ((mM).st), .int .i64 ((mM).ln), .int .u8 ((mM).es), .int .i64 ((mM).ts), .bool ((mM).bk)], .int .i64 1048576] w fun e w' => e = .returned (.tuple #[.int .i64 1048576, .bool false, .int .i64 0]) ∧ Below w.heap.size w w' := fun w => At_any mM 1048576 w wf_mM
      have A2 : ∀ w, Calls Try.prog 10 #[.agg #[.int .i64 ((mM).node), .int .i64 ((mM).fr), .int .i64 ((mM).to), .int .i64 ((mM).st), .int .i64 ((mM).ln), .int .u8 ((mM).es), .int .i64 ((mM).ts), .bool ((mM).bk)], .int .i64 1048575] w fun e w' => e = .returned (.tuple #[.int .i64 1048576, .bool true, .int .i64 0]) ∧ Below w.heap.size w w' := fun w => At_any mM 1048575 w wf_mM
      have A3 : ∀ w, Calls Try.prog 10 #[.agg #[.int .i64 ((mM).node), .int .i64 ((mM).fr), .int .i64 ((mM).to), .int .i64 ((mM).st), .int .i64 ((mM).ln), .int .u8 ((mM).es), .int .i64 ((mM).ts), .bool ((mM).bk)], .int .i64 1048577] w fun e w' => e = .returned (.tuple #[.int .i64 0, .bool false, .int .i64 230]) ∧ Below w.heap.size w w' := fun w => At_any mM 1048577 w wf_mM
      have A4 : ∀ w, Calls Try.prog 14 #[.agg #[.int .i64 ((mM2).node), .int .i64 ((mM2).fr), .int .i64 ((mM2).to), .int .i64 ((mM2).st), .int .i64 ((mM2).ln), .int .u8 ((mM2).es), .int .i64 ((mM2).ts), .bool ((mM2).bk)]] w fun e w' => e = .returned (.int .i64 2) ∧ Below w.heap.size w w' := fun w => check_any mM2 w wf_mM2
      have A5 : ∀ w, Calls Try.prog 14 #[.agg #[.int .i64 ((mM3).node), .int .i64 ((mM3).fr), .int .i64 ((mM3).to), .int .i64 ((mM3).st), .int .i64 ((mM3).ln), .int .u8 ((mM3).es), .int .i64 ((mM3).ts), .bool ((mM3).bk)]] w fun e w' => e = .returned (.int .i64 7) ∧ Below w.heap.size w w' := fun w => check_any mM3 w wf_mM3
      have A6 : ∀ w, Calls Try.prog 14 #[.agg #[.int .i64 ((mM4).node), .int .i64 ((mM4).fr), .int .i64 ((mM4).to), .int .i64 ((mM4).st), .int .i64 ((mM4).ln), .int .u8 ((mM4).es), .int .i64 ((mM4).ts), .bool ((mM4).bk)]] w fun e w' => e = .returned (.int .i64 2) ∧ Below w.heap.size w w' := fun w => check_any mM4 w wf_mM4
      have A7 : ∀ w, Calls Try.prog 14 #[.agg #[.int .i64 ((mM5).node), .int .i64 ((mM5).fr), .int .i64 ((mM5).to), .int .i64 ((mM5).st), .int .i64 ((mM5).ln), .int .u8 ((mM5).es), .int .i64 ((mM5).ts), .bool ((mM5).bk)]] w fun e w' => e = .returned (.int .i64 230) ∧ Below w.heap.size w w' := fun w => check_any mM5 w wf_mM5
      simp only [mM, mM2, mM3, mM4, mM5] at A1 A2 A3 A4 A5 A6 A7
      replace A1 := Lib.hid A1
      replace A2 := Lib.hid A2
      replace A3 := Lib.hid A3
      replace A4 := Lib.hid A4
      replace A5 := Lib.hid A5
      replace A6 := Lib.hid A6
      replace A7 := Lib.hid A7
      go_wp2_with (first
        | (go_at_call 10; (with_reducible refine (A1.out _).mono ?_); rintro e w6 ⟨rfl, hb6⟩; obtain ⟨hc6, hf6⟩ := bcell hb6; have hz6 := hb6.size; (try simp at hz6); have lv6 : w5.heap.size < w6.heap.size := (by omega))
        | (go_at_call 10; (with_reducible refine (A2.out _).mono ?_); rintro e w7 ⟨rfl, hb7⟩; obtain ⟨hc7, hf7⟩ := bcell hb7; have hz7 := hb7.size; (try simp at hz7); have lv7 : w5.heap.size < w7.heap.size := (by omega))
        | (go_at_call 10; (with_reducible refine (A3.out _).mono ?_); rintro e w8 ⟨rfl, hb8⟩; obtain ⟨hc8, hf8⟩ := bcell hb8; have hz8 := hb8.size; (try simp at hz8); have lv8 : w5.heap.size < w8.heap.size := (by omega))
        | (go_at_call 14; (with_reducible refine (A4.out _).mono ?_); rintro e w9 ⟨rfl, hb9⟩; obtain ⟨hc9, hf9⟩ := bcell hb9; have hz9 := hb9.size; (try simp at hz9); have lv9 : w5.heap.size < w9.heap.size := (by omega))
        | (go_at_call 14; (with_reducible refine (A5.out _).mono ?_); rintro e w10 ⟨rfl, hb10⟩; obtain ⟨hc10, hf10⟩ := bcell hb10; have hz10 := hb10.size; (try simp at hz10); have lv10 : w5.heap.size < w10.heap.size := (by omega))
        | (go_at_call 14; (with_reducible refine (A6.out _).mono ?_); rintro e w11 ⟨rfl, hb11⟩; obtain ⟨hc11, hf11⟩ := bcell hb11; have hz11 := hb11.size; (try simp at hz11); have lv11 : w5.heap.size < w11.heap.size := (by omega)))
      go_at_call 14
      refine (A7.out _).mono ?_
      rintro e w12 ⟨rfl, hb12⟩
      have hb5Z : Below w5.heap.size w5 w12 := (by repeat (first | exact Below.refl _ _ | assumption | refine Below.drew ?_ | refine Below.alloc ?_ (by (try simp) <;> omega) _ | refine Below.setCell ?_ (by (try simp) <;> omega) _ | (refine Below.trans ?_ (Below.mono (by assumption) (by (try simp) <;> omega)))))
      have hI12 := hI5.out.below hb5Z
      obtain ⟨s', cap', e, _, hop⟩ := hI12
      obtain ⟨g, hg, _, hcell⟩ := hop (by rw [show (nodesN (msN 4096)).length = 4096 by unfold nodesN; rw [List.length_map, hlen.out]]; omega)
      simp at e
      obtain ⟨rfl, -, -⟩ := e
      subst hg
      have c1 := hcell 4095 4095 hnode.out
      replace hcell := Lib.hid True.intro
      replace hop := Lib.hid True.intro
      go_wp2
      go_ret
      exact ⟨rfl, hbr5.trans (hb5Z.mono zr5)⟩
end Go.Proofs.Ytblneabjdbllbaa
