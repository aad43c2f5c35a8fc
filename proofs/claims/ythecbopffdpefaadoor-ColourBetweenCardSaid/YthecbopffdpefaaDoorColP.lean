/-
  The document's Parse: any text.
-/
import Derived.Test.YthecbopffdpefaaDoorColA
import Derived.Test.YthecbopffdpefaaDoorOwn
namespace Go.Proofs.YthecbopffdpefaaDoor
open Go.RowKit
set_option linter.unusedVariables false
set_option linter.unusedSimpArgs false
attribute [local go_sem] vwp vUpon_value vUpon_skip vUpon_enter vUpon_row

/-- A sixteen's worth. -/
def dg (b : Int) : Int := if 48 ≤ b ∧ b ≤ 57 then b - 48 else if 97 ≤ b ∧ b ≤ 102 then b - 87 else if 65 ≤ b ∧ b ≤ 70 then b - 55 else -1
theorem dg_bd (b : Int) : -1 ≤ dg b ∧ dg b ≤ 15 := by unfold dg; split <;> (try split) <;> (try split) <;> omega

set_option maxHeartbeats 400000 in
theorem digit_any (b : Int) (w : World) (h : U8 b) : Calls Tryd.prog 28 #[.int .u8 b] w fun e w' => e = .returned (.int .i64 (dg b)) ∧ w = w' := by
  obtain ⟨h0, h1⟩ := h
  by_cases c1 : 48 ≤ b ∧ b ≤ 57
  · have e : dg b = b - 48 := by unfold dg; rw [if_pos c1]
    rw [e]; clear e
    obtain ⟨c1, c2⟩ := c1
    go_enter Tryd.func28, Tryd.ntmps28
    go_wp2
    go_ret
    exact ⟨rfl, rfl⟩
  by_cases c2 : 97 ≤ b ∧ b ≤ 102
  · have e : dg b = b - 97 + 10 := by unfold dg; rw [if_neg c1, if_pos c2]; omega
    rw [e]; clear e
    obtain ⟨c2, c3⟩ := c2
    have c1 : 57 < b := by omega
    go_enter Tryd.func28, Tryd.ntmps28
    go_wp2
    go_ret
    exact ⟨rfl, rfl⟩
  by_cases c3 : 65 ≤ b ∧ b ≤ 70
  · have e : dg b = b - 65 + 10 := by unfold dg; rw [if_neg c1, if_neg c2, if_pos c3]; omega
    rw [e]; clear e
    obtain ⟨c3, c4⟩ := c3
    have c1 : 57 < b := by omega
    have c2 : b < 97 := by omega
    go_enter Tryd.func28, Tryd.ntmps28
    go_wp2
    go_ret
    exact ⟨rfl, rfl⟩
  · have e : dg b = -1 := by unfold dg; rw [if_neg c1, if_neg c2, if_neg c3]
    rw [e]; clear e
    by_cases d1 : b < 48
    · go_enter Tryd.func28, Tryd.ntmps28
      go_wp2
      go_ret
      exact ⟨rfl, rfl⟩
    have d2 : 57 < b := by omega
    clear d1 c1
    by_cases d3 : b < 65
    · go_enter Tryd.func28, Tryd.ntmps28
      go_wp2
      go_ret
      exact ⟨rfl, rfl⟩
    have d4 : 70 < b := by omega
    clear d3 c3
    by_cases d5 : b < 97
    · go_enter Tryd.func28, Tryd.ntmps28
      go_wp2
      go_ret
      exact ⟨rfl, rfl⟩
    have d6 : 102 < b := by omega
    clear d5 c2
    go_enter Tryd.func28, Tryd.ntmps28
    go_wp2
    go_ret
    exact ⟨rfl, rfl⟩

/-- The k-th byte; 0 behind the end. -/
def byt (s : ByteArray) (k : Nat) : Int := if h : k < s.size then ((s[k]).toNat : Int) else 0
theorem byt_eq {s : ByteArray} {k : Nat} (h : k < s.size) : byt s k = ((s[k]).toNat : Int) := dif_pos h
theorem byt_bd (s : ByteArray) (k : Nat) : U8 (byt s k) := by
  unfold byt U8
  split
  · have := (s[k]).toNat_lt; omega
  · omega
def okAt (s : ByteArray) (k : Nat) : Prop := if k = 0 then byt s 0 = 35 else 0 ≤ dg (byt s k)
/-- So many bytes are a beginning. -/
structure Cnt (s : ByteArray) (k : Nat) : Prop where
  le : k ≤ s.size
  nine : k ≤ 9
  ok : ∀ j, j < k → okAt s j
  stop : ¬ (k < s.size ∧ k < 9 ∧ okAt s k)
theorem Cnt.exists_ (s : ByteArray) : ∃ k, Cnt s k := by
  have : ∀ f k : Nat, 9 - k = f → k ≤ s.size → k ≤ 9 → (∀ j, j < k → okAt s j) → ∃ k, Cnt s k := by
    intro f
    induction f with
    | zero => intro k hf h1 h2 h3; exact ⟨k, h1, h2, h3, fun ⟨_, h, _⟩ => by omega⟩
    | succ f ih =>
      intro k hf h1 h2 h3
      by_cases h : k < s.size ∧ k < 9 ∧ okAt s k
      · exact ih (k + 1) (by omega) (by omega) (by omega) (fun j hj => by
          rcases Nat.lt_or_ge j k with h' | h'
          · exact h3 j h'
          · obtain rfl : j = k := by omega
            exact h.2.2)
      · exact ⟨k, h1, h2, h3, h⟩
  exact this 9 0 rfl (Nat.zero_le _) (by omega) (fun j hj => by omega)
def dl (s : ByteArray) (k j : Nat) : List Int := if k = 4 then [dg (byt s (j + 1)), dg (byt s (j + 1))] else [dg (byt s (j + 1))]
def digs (s : ByteArray) (k m : Nat) : List Int := (List.range m).flatMap (dl s k)
theorem digs_succ (s : ByteArray) (k m : Nat) : digs s k (m + 1) = digs s k m ++ dl s k m := by
  unfold digs; rw [List.range_succ, List.flatMap_append]; simp
theorem digs_len (s : ByteArray) (k m : Nat) : (digs s k m).length ≤ 2 * m := by
  induction m with
  | zero => simp [digs]
  | succ m ih => rw [digs_succ, List.length_append]; unfold dl; split <;> simp <;> omega
/-- The eight sixteens. -/
def fin (s : ByteArray) (k : Nat) : List Int := digs s k (k - 1) ++ (if k < 9 then [15, 15] else [])
def pr (s : ByteArray) (k j : Nat) : Int := 16 * (fin s k).getD (2 * j) 0 + (fin s k).getD (2 * j + 1) 0
def Six (x : Int) : Prop := 0 ≤ x ∧ x ≤ 15
theorem six_dg {s : ByteArray} {k j : Nat} (hC : Cnt s k) (h0 : 0 < j) (h : j < k) : Six (dg (byt s j)) := by
  have := hC.ok j h
  unfold okAt at this
  rw [if_neg (by omega)] at this
  exact ⟨this, (dg_bd _).2⟩
theorem fin_eight {s : ByteArray} {k : Nat} (hC : Cnt s k) (hk : k = 4 ∨ k = 7 ∨ k = 9) :
    ∃ a b c d e f g h : Int, fin s k = [a, b, c, d, e, f, g, h] ∧ Six a ∧ Six b ∧ Six c ∧ Six d ∧ Six e ∧ Six f ∧ Six g ∧ Six h := by
  have s15 : Six 15 := ⟨by omega, by omega⟩
  rcases hk with rfl | rfl | rfl
  · have h1 := six_dg hC (j := 1) (by omega) (by omega)
    have h2 := six_dg hC (j := 2) (by omega) (by omega)
    have h3 := six_dg hC (j := 3) (by omega) (by omega)
    exact ⟨_, _, _, _, _, _, _, _, rfl, h1, h1, h2, h2, h3, h3, s15, s15⟩
  · have h1 := six_dg hC (j := 1) (by omega) (by omega)
    have h2 := six_dg hC (j := 2) (by omega) (by omega)
    have h3 := six_dg hC (j := 3) (by omega) (by omega)
    have h4 := six_dg hC (j := 4) (by omega) (by omega)
    have h5 := six_dg hC (j := 5) (by omega) (by omega)
    have h6 := six_dg hC (j := 6) (by omega) (by omega)
    exact ⟨_, _, _, _, _, _, _, _, rfl, h1, h2, h3, h4, h5, h6, s15, s15⟩
  · have h1 := six_dg hC (j := 1) (by omega) (by omega)
    have h2 := six_dg hC (j := 2) (by omega) (by omega)
    have h3 := six_dg hC (j := 3) (by omega) (by omega)
    have h4 := six_dg hC (j := 4) (by omega) (by omega)
    have h5 := six_dg hC (j := 5) (by omega) (by omega)
    have h6 := six_dg hC (j := 6) (by omega) (by omega)
    have h7 := six_dg hC (j := 7) (by omega) (by omega)
    have h8 := six_dg hC (j := 8) (by omega) (by omega)
    exact ⟨_, _, _, _, _, _, _, _, rfl, h1, h2, h3, h4, h5, h6, h7, h8⟩

theorem info_int : (Tryd.prog.info? 3).map (fun i => (i.zero, i.size, i.bytes)) = some (some (.int .i64 0), 1, 8) := by kernel_rfl

set_option maxHeartbeats 1000000 in
/-- The first loop's round that goes on; and the ways out that are refusals. -/
theorem rparse_bad (s : ByteArray) (k : Nat) (w : World) (hs : s.size ≤ maxLen) (hC : Cnt s k) (hbad : k < s.size ∨ (k ≠ 4 ∧ k ≠ 7 ∧ k ≠ 9)) :
    Calls Tryd.prog 10 #[.string s] w fun e w' => e = .returned (.tuple #[.agg #[.int .u8 (0), .int .u8 (0), .int .u8 (0), .int .u8 (0)], .int .i64 k, .int .i64 40]) ∧ Below w.heap.size w w' := by
  unfold maxLen at hs
  have hbnd : k < s.size → (k : Int) < s.size := fun h => by omega
  go_enter Tryd.func10, Tryd.ntmps10
  go_wp2
  go_loopw [5] (fun n wr => ∃ m : Nat, m ≤ k ∧ n = .int .i64 m ∧ wr = (w.alloc (.cells #[.int .u8 0, .int .u8 0, .int .u8 0, .int .u8 0] 23))) (fun n _ => k - (intOf n).toNat)
  case atStart => exact ⟨0, Nat.zero_le _, rfl, rfl⟩
  case round =>
    obtain ⟨m, hm, rfl, rfl⟩ := hrel
    obtain ⟨hle, hnine, hok, hstop⟩ := hC
    by_cases hmk : m < k
    · have hlt : m < s.size := by omega
      have h9 : m < 9 := by omega
      have hokm := hok m hmk
      clear hok hstop hbad hbnd
      unfold okAt at hokm
      by_cases h0 : m = 0
      · subst h0
        rw [if_pos rfl, byt_eq hlt] at hokm
        go_wp2
        go_roundw
        case rel => exact ⟨1, by omega, rfl, trivial⟩
        case measure => simp [intOf]; omega
      · rw [if_neg h0] at hokm
        have hp : 0 < m := by omega
        have hne : ((m : Int) == 0) = false := by simp; omega
        have hb := byt_bd s m
        have DG := fun w => digit_any (byt s m) w hb
        rw [byt_eq hlt] at DG hokm
        replace DG := Lib.hid DG
        clear h0
        go_wp2_with (go_at_call 28; (with_reducible refine (DG.out _).mono ?_); rintro e w1 ⟨rfl, rfl⟩)
        go_roundw
        case rel => exact ⟨m + 1, by omega, by go_num, trivial⟩
        case measure => simp [intOf]; omega
    · obtain rfl : m = k := by omega
      clear hm hmk hok
      by_cases hlt : m < s.size
      · by_cases h9 : m < 9
        · have hn : ¬ okAt s m := fun h => hstop ⟨hlt, h9, h⟩
          unfold okAt at hn
          clear hstop hbad hbnd
          by_cases h0 : m = 0
          · subst h0
            rw [if_pos rfl, byt_eq hlt] at hn
            have hn' : (((s[0]).toNat : Int) == 35) = false := by simp; omega
            clear hn
            go_wp2
            refine bodyPost_ret (v := .tuple #[.agg #[.int .u8 (0), .int .u8 (0), .int .u8 (0), .int .u8 (0)], .int .i64 ((0 : Nat) : Int), .int .i64 40]) (by simp [results, Tryd.results10, go_sem]) rfl ⟨rfl, (by repeat (first | exact Below.refl _ _ | assumption | refine Below.drew ?_ | refine Below.alloc ?_ (by (try simp) <;> omega) _ | refine Below.setCell ?_ (by (try simp) <;> omega) _))⟩
          · rw [if_neg h0, byt_eq hlt] at hn
            have hp : 0 < m := by omega
            have hne : ((m : Int) == 0) = false := by simp; omega
            have hb := byt_bd s m
            have DG := fun w => digit_any (byt s m) w hb
            rw [byt_eq hlt] at DG
            replace DG := Lib.hid DG
            have hn' : dg ((s[m]).toNat : Int) < 0 := by omega
            clear h0 hn
            go_wp2_with (go_at_call 28; (with_reducible refine (DG.out _).mono ?_); rintro e w1 ⟨rfl, rfl⟩)
            refine bodyPost_ret (v := .tuple #[.agg #[.int .u8 (0), .int .u8 (0), .int .u8 (0), .int .u8 (0)], .int .i64 m, .int .i64 40]) (by simp [results, Tryd.results10, go_sem]) rfl ⟨rfl, (by repeat (first | exact Below.refl _ _ | assumption | refine Below.drew ?_ | refine Below.alloc ?_ (by (try simp) <;> omega) _ | refine Below.setCell ?_ (by (try simp) <;> omega) _))⟩
        · obtain rfl : m = 9 := by omega
          clear hstop hbad hbnd
          go_wp2
          refine bodyPost_ret (v := .tuple #[.agg #[.int .u8 (0), .int .u8 (0), .int .u8 (0), .int .u8 (0)], .int .i64 ((9 : Nat) : Int), .int .i64 40]) (by simp [results, Tryd.results10, go_sem]) rfl ⟨rfl, (by repeat (first | exact Below.refl _ _ | assumption | refine Below.drew ?_ | refine Below.alloc ?_ (by (try simp) <;> omega) _ | refine Below.setCell ?_ (by (try simp) <;> omega) _))⟩
      · have h4 : ((m : Int) == 4) = false := by simp; omega
        have h7 : ((m : Int) == 7) = false := by simp; omega
        have h9 : ((m : Int) == 9) = false := by simp; omega
        have g4 : ((m : Int) != 4) = true := by simp; omega
        have g7 : ((m : Int) != 7) = true := by simp; omega
        have g9 : ((m : Int) != 9) = true := by simp; omega
        clear hstop hbad hbnd
        go_wp2
        refine bodyPost_ret (v := .tuple #[.agg #[.int .u8 (0), .int .u8 (0), .int .u8 (0), .int .u8 (0)], .int .i64 m, .int .i64 40]) (by simp [results, Tryd.results10, go_sem]) rfl ⟨rfl, (by repeat (first | exact Below.refl _ _ | assumption | refine Below.drew ?_ | refine Below.alloc ?_ (by (try simp) <;> omega) _ | refine Below.setCell ?_ (by (try simp) <;> omega) _))⟩

set_option maxHeartbeats 2000000 in
theorem rparse_good (s : ByteArray) (k : Nat) (w : World) (hC : Cnt s k) (hk : k = s.size) (hk4 : k = 4 ∨ k = 7 ∨ k = 9) :
    Calls Tryd.prog 10 #[.string s] w fun e w' => e = .returned (.tuple #[.agg #[.int .u8 (pr s k 0), .int .u8 (pr s k 1), .int .u8 (pr s k 2), .int .u8 (pr s k 3)], .int .i64 0, .int .i64 0]) ∧ Below w.heap.size w w' := by
  have hs : s.size ≤ 9 := by omega
  have hpos : 4 ≤ k := by omega
  have h9 : k ≤ 9 := by omega
  obtain ⟨i0, hi0, hz0, hz1, hz2⟩ := info_parts info_int
  have H4 := Lib.hid hk4; clear hk4
  go_enter Tryd.func10, Tryd.ntmps10
  go_wp2
  go_loopw [5] (fun n wr => ∃ m : Nat, m ≤ k ∧ n = .int .i64 m ∧ wr = (w.alloc (.cells #[.int .u8 0, .int .u8 0, .int .u8 0, .int .u8 0] 23))) (fun n _ => k - (intOf n).toNat)
  case atStart => exact ⟨0, Nat.zero_le _, rfl, rfl⟩
  case round =>
    obtain ⟨m, hm, rfl, rfl⟩ := hrel
    by_cases hmk : m < k
    · have hlt : m < s.size := by omega
      have h9 : m < 9 := by omega
      have hokm := hC.ok m hmk
      clear hC H4 hk
      unfold okAt at hokm
      by_cases h0 : m = 0
      · subst h0
        rw [if_pos rfl, byt_eq hlt] at hokm
        go_wp2
        go_roundw
        case rel => exact ⟨1, by omega, rfl, trivial⟩
        case measure => simp [intOf]; omega
      · rw [if_neg h0] at hokm
        have hp : 0 < m := by omega
        have hne : ((m : Int) == 0) = false := by simp; omega
        have hb := byt_bd s m
        have DG := fun w => digit_any (byt s m) w hb
        rw [byt_eq hlt] at DG hokm
        replace DG := Lib.hid DG
        clear h0
        go_wp2_with (go_at_call 28; (with_reducible refine (DG.out _).mono ?_); rintro e w1 ⟨rfl, rfl⟩)
        go_roundw
        case rel => exact ⟨m + 1, by omega, by go_num, trivial⟩
        case measure => simp [intOf]; omega
    · obtain rfl : m = k := by omega
      clear hm hmk
      have hbs := fun j => byt_bd s j
      have HB := Lib.hid hbs; clear hbs
      have HC := Lib.hid hC; clear hC
      rcases H4.out with rfl | rfl | rfl
      · have hge : s.size ≤ 4 := by omega
        have hge' : 4 ≤ s.size := by omega
        clear hk H4 hs hpos h9
        go_wp2
        go_loopw [6, 7] (fun d i wr => ∃ j : Nat, j ≤ 3 ∧ i = .int .i64 (((j + 1 : Nat)) : Int) ∧ wr.ownsRow (w.heap.size + 1) 3 1 d (digs s 4 j).length ((digs s 4 j).map (Value.int .i64)) ∧ Below (w.heap.size + 1) (w.alloc (.cells #[.int .u8 0, .int .u8 0, .int .u8 0, .int .u8 0] 23)) wr) (fun _ i _ => 4 - (intOf i).toNat)
        case atStart => exact ⟨0, by omega, rfl, ⟨by simp [digs], .inl ⟨rfl, rfl⟩⟩, Below.refl _ _⟩
        case round =>
          obtain ⟨j, hj, rfl, hown, hbel⟩ := hrel
          have hsz := hbel.size; simp at hsz
          have hlen := digs_len s 4 j
          by_cases hj6 : j < 3
          · have hlt : j + 1 < s.size := by omega
            have DG := fun w => digit_any (byt s (j + 1)) w (HB.out _)
            rw [byt_eq hlt] at DG
            replace DG := Lib.hid DG
            go_wp2_with (first
              | (go_at_call 28; (with_reducible refine (DG.out _).mono ?_); rintro e w1 ⟨rfl, rfl⟩)
              | (at_builtin; refine wpList_append_new rfl _ _ _ rfl (w.heap.size + 1) 3 i0 _ 1 8 Tryd.underlying52 hi0 hz0 hz1 hz2 rfl (by omega) wr 1 _ _ _ _ (by rfl) (by assumption) (by rfl) rfl (by simp [Value.oneCell']) (by (try simp) <;> omega) (by unfold maxLen; (try simp) <;> omega) (by omega) ?_; intro v1 w1 hown1 hb1)
              | (at_builtin; refine wpList_append_new rfl _ _ _ rfl (w.heap.size + 1) 3 i0 _ 1 8 Tryd.underlying52 hi0 hz0 hz1 hz2 rfl (by omega) w1 1 _ _ _ _ (by rfl) hown1 (by rfl) rfl (by simp [Value.oneCell']) (by (try simp) <;> omega) (by unfold maxLen; (try simp) <;> omega) (by have := hb1.size; omega) ?_; intro v2 w2 hown2 hb2))
            go_roundw
            case rel => exact ⟨j + 1, by omega, by go_num, by simpa [digs_succ, dl, byt_eq hlt, Nat.add_assoc] using hown2, (hbel.trans hb1).trans hb2⟩
            case measure => simp [intOf]; omega
          · obtain rfl : j = 3 := by omega
            have h1 := six_dg HC.out (j := 1) (by omega) (by omega)
            have h2 := six_dg HC.out (j := 2) (by omega) (by omega)
            have h3 := six_dg HC.out (j := 3) (by omega) (by omega)
            have hown' : wr.ownsRow (w.heap.size + 1) 3 1 u6 6 [.int .i64 (dg (byt s 1)), .int .i64 (dg (byt s 1)), .int .i64 (dg (byt s 2)), .int .i64 (dg (byt s 2)), .int .i64 (dg (byt s 3)), .int .i64 (dg (byt s 3))] := hown
            clear hown hlen HC HB hj hj6
            go_wp2_with (at_builtin; refine wpList_append_new rfl _ _ _ rfl (w.heap.size + 1) 3 i0 _ 1 8 Tryd.underlying52 hi0 hz0 hz1 hz2 rfl (by omega) wr 2 _ _ _ _ (by rfl) (by assumption) (by rfl) rfl (by simp [Value.oneCell']) (by (try simp) <;> omega) (by unfold maxLen; (try simp) <;> omega) (by omega) ?_; intro v1 w1 hown1 hb1)
            clear hown'
            obtain ⟨g, cap, hv, hg, hglt, hnc, hcm, hcell⟩ := own_open (show (w1).ownsRow (w.heap.size + 1) 3 1 _ 8 [.int .i64 (dg (byt s 1)), .int .i64 (dg (byt s 1)), .int .i64 (dg (byt s 2)), .int .i64 (dg (byt s 2)), .int .i64 (dg (byt s 3)), .int .i64 (dg (byt s 3)), .int .i64 (15), .int .i64 (15)] from hown1) (by omega)
            have E0 : Hid (pr s 4 0 = 16 * (dg (byt s 1)) + dg (byt s 1)) := rfl
            have E1 : Hid (pr s 4 1 = 16 * (dg (byt s 2)) + dg (byt s 2)) := rfl
            have E2 : Hid (pr s 4 2 = 16 * (dg (byt s 3)) + dg (byt s 3)) := rfl
            have E3 : Hid (pr s 4 3 = 16 * (15) + 15) := rfl
            have hB : Below w.heap.size w w1 := (((Below.refl _ _).alloc (Nat.le_refl _) _).trans (Below.mono (hbel.trans hb1) (by omega)))
            have hz9 := ((hbel.trans hb1)).size; simp at hz9
            have k0 := hcell 0 _ rfl
            have k1 := hcell 1 _ rfl
            have k2 := hcell 2 _ rfl
            have k3 := hcell 3 _ rfl
            have k4 := hcell 4 _ rfl
            have k5 := hcell 5 _ rfl
            have k6 := hcell 6 _ rfl
            have k7 := hcell 7 _ rfl
            have r0 : (w1).cell? ⟨w.heap.size, 0, none⟩ = some (.int .u8 0) := (((hbel.trans hb1)).cell (p := ⟨w.heap.size, 0, none⟩) (by simp)).trans (World.cell?_alloc_at _ _ _ _ rfl)
            have r1 : (w1).cell? ⟨w.heap.size, 1, none⟩ = some (.int .u8 0) := (((hbel.trans hb1)).cell (p := ⟨w.heap.size, 1, none⟩) (by simp)).trans (World.cell?_alloc_at _ _ _ _ rfl)
            have r2 : (w1).cell? ⟨w.heap.size, 2, none⟩ = some (.int .u8 0) := (((hbel.trans hb1)).cell (p := ⟨w.heap.size, 2, none⟩) (by simp)).trans (World.cell?_alloc_at _ _ _ _ rfl)
            have r3 : (w1).cell? ⟨w.heap.size, 3, none⟩ = some (.int .u8 0) := (((hbel.trans hb1)).cell (p := ⟨w.heap.size, 3, none⟩) (by simp)).trans (World.cell?_alloc_at _ _ _ _ rfl)
            have f0 : ∀ o, (w1).frozen? ⟨w.heap.size, o, none⟩ = false := fun o => (((hbel.trans hb1)).frozen (p := ⟨w.heap.size, o, none⟩) (by simp)).trans (World.frozen?_alloc_at _ _ _ _ rfl)
            clear hcell hown1
            subst hv
            generalize dg (byt s 1) = a at *
            generalize dg (byt s 2) = b at *
            generalize dg (byt s 3) = c at *
            obtain ⟨a0, a1⟩ := h1; obtain ⟨b0, b1⟩ := h2; obtain ⟨c0, c1⟩ := h3
            refine wp_region_steady_then (Held w 1 [(⟨w.heap.size, 0, none⟩, .int .u8 (0)), (⟨w.heap.size, 1, none⟩, .int .u8 (0)), (⟨w.heap.size, 2, none⟩, .int .u8 (0)), (⟨w.heap.size, 3, none⟩, .int .u8 (0)), (⟨g, 0, none⟩, .int .i64 (a)), (⟨g, 1, none⟩, .int .i64 (a)), (⟨g, 2, none⟩, .int .i64 (b)), (⟨g, 3, none⟩, .int .i64 (b)), (⟨g, 4, none⟩, .int .i64 (c)), (⟨g, 5, none⟩, .int .i64 (c)), (⟨g, 6, none⟩, .int .i64 (15)), (⟨g, 7, none⟩, .int .i64 (15))]) 37 (by kernel_rfl) (by kernel_rfl) (by decide) (by kernel_rfl) (by kernel_rfl) ⟨by first | exact hB | exact Below.drew hB, (by (try simp) <;> omega), (by simp only [Cells]; go_simp)⟩ ?_
            simp only [List.take_succ_cons, List.take_zero]
            repeat (first | (refine' wpSteady_do _ _ _; rotate_left; (focus rfl); (focus (intro w1 hS R hR; have hc := hS.cells; simp only [Cells] at hc; go_simp; (try go_bits); first | exact hR _ hS | fail)); simp only [Act.put, List.setIfInBounds_toArray, List.set_cons_zero, List.set_cons_succ]) | (refine wpSteady_pass ?_ ?_; (focus rfl); simp only [Act.put, List.setIfInBounds_toArray, List.set_cons_zero, List.set_cons_succ]))
            refine wpSteady_nil (fun w9 hS => ?_)
            have hc := hS.cells; have hb := hS.old; have hz := hS.size; clear hS; simp only [Cells] at hc
            simp only [List.drop_succ_cons, List.drop_zero, List.drop_nil]
            go_wp2
            refine bodyPost_ret (v := .tuple #[.agg #[.int .u8 (16 * a + a), .int .u8 (16 * b + b), .int .u8 (16 * c + c), .int .u8 (16 * 15 + 15)], .int .i64 0, .int .i64 0]) (by simp [results, Tryd.results10, go_sem, hc]) rfl ⟨by rw [E0.out, E1.out, E2.out, E3.out], (by repeat (first | exact Below.refl _ _ | assumption | refine Below.drew ?_ | refine Below.alloc ?_ (by (try simp) <;> omega) _ | refine Below.setCell ?_ (by (try simp) <;> omega) _ | (refine Below.trans ?_ (Below.mono (by assumption) (by (try simp) <;> omega)))))⟩
      · have hge : s.size ≤ 7 := by omega
        have hge' : 7 ≤ s.size := by omega
        clear hk H4 hs hpos h9
        go_wp2
        go_loopw [6, 7] (fun d i wr => ∃ j : Nat, j ≤ 6 ∧ i = .int .i64 (((j + 1 : Nat)) : Int) ∧ wr.ownsRow (w.heap.size + 1) 3 1 d (digs s 7 j).length ((digs s 7 j).map (Value.int .i64)) ∧ Below (w.heap.size + 1) (w.alloc (.cells #[.int .u8 0, .int .u8 0, .int .u8 0, .int .u8 0] 23)) wr) (fun _ i _ => 7 - (intOf i).toNat)
        case atStart => exact ⟨0, by omega, rfl, ⟨by simp [digs], .inl ⟨rfl, rfl⟩⟩, Below.refl _ _⟩
        case round =>
          obtain ⟨j, hj, rfl, hown, hbel⟩ := hrel
          have hsz := hbel.size; simp at hsz
          have hlen := digs_len s 7 j
          by_cases hj6 : j < 6
          · have hlt : j + 1 < s.size := by omega
            have DG := fun w => digit_any (byt s (j + 1)) w (HB.out _)
            rw [byt_eq hlt] at DG
            replace DG := Lib.hid DG
            go_wp2_with (first
              | (go_at_call 28; (with_reducible refine (DG.out _).mono ?_); rintro e w1 ⟨rfl, rfl⟩)
              | (at_builtin; refine wpList_append_new rfl _ _ _ rfl (w.heap.size + 1) 3 i0 _ 1 8 Tryd.underlying52 hi0 hz0 hz1 hz2 rfl (by omega) wr 1 _ _ _ _ (by rfl) (by assumption) (by rfl) rfl (by simp [Value.oneCell']) (by (try simp) <;> omega) (by unfold maxLen; (try simp) <;> omega) (by omega) ?_; intro v1 w1 hown1 hb1))
            go_roundw
            case rel => exact ⟨j + 1, by omega, by go_num, by simpa [digs_succ, dl, byt_eq hlt] using hown1, hbel.trans hb1⟩
            case measure => simp [intOf]; omega
          · obtain rfl : j = 6 := by omega
            have h1 := six_dg HC.out (j := 1) (by omega) (by omega)
            have h2 := six_dg HC.out (j := 2) (by omega) (by omega)
            have h3 := six_dg HC.out (j := 3) (by omega) (by omega)
            have h4 := six_dg HC.out (j := 4) (by omega) (by omega)
            have h5 := six_dg HC.out (j := 5) (by omega) (by omega)
            have h6 := six_dg HC.out (j := 6) (by omega) (by omega)
            have hown' : wr.ownsRow (w.heap.size + 1) 3 1 u6 6 [.int .i64 (dg (byt s 1)), .int .i64 (dg (byt s 2)), .int .i64 (dg (byt s 3)), .int .i64 (dg (byt s 4)), .int .i64 (dg (byt s 5)), .int .i64 (dg (byt s 6))] := hown
            clear hown hlen HC HB hj hj6
            go_wp2_with (at_builtin; refine wpList_append_new rfl _ _ _ rfl (w.heap.size + 1) 3 i0 _ 1 8 Tryd.underlying52 hi0 hz0 hz1 hz2 rfl (by omega) wr 2 _ _ _ _ (by rfl) (by assumption) (by rfl) rfl (by simp [Value.oneCell']) (by (try simp) <;> omega) (by unfold maxLen; (try simp) <;> omega) (by omega) ?_; intro v1 w1 hown1 hb1)
            clear hown'
            obtain ⟨g, cap, hv, hg, hglt, hnc, hcm, hcell⟩ := own_open (show (w1).ownsRow (w.heap.size + 1) 3 1 _ 8 [.int .i64 (dg (byt s 1)), .int .i64 (dg (byt s 2)), .int .i64 (dg (byt s 3)), .int .i64 (dg (byt s 4)), .int .i64 (dg (byt s 5)), .int .i64 (dg (byt s 6)), .int .i64 (15), .int .i64 (15)] from hown1) (by omega)
            have E0 : Hid (pr s 7 0 = 16 * (dg (byt s 1)) + dg (byt s 2)) := rfl
            have E1 : Hid (pr s 7 1 = 16 * (dg (byt s 3)) + dg (byt s 4)) := rfl
            have E2 : Hid (pr s 7 2 = 16 * (dg (byt s 5)) + dg (byt s 6)) := rfl
            have E3 : Hid (pr s 7 3 = 16 * (15) + 15) := rfl
            have hB : Below w.heap.size w w1 := (((Below.refl _ _).alloc (Nat.le_refl _) _).trans (Below.mono (hbel.trans hb1) (by omega)))
            have hz9 := ((hbel.trans hb1)).size; simp at hz9
            have k0 := hcell 0 _ rfl
            have k1 := hcell 1 _ rfl
            have k2 := hcell 2 _ rfl
            have k3 := hcell 3 _ rfl
            have k4 := hcell 4 _ rfl
            have k5 := hcell 5 _ rfl
            have k6 := hcell 6 _ rfl
            have k7 := hcell 7 _ rfl
            have r0 : (w1).cell? ⟨w.heap.size, 0, none⟩ = some (.int .u8 0) := (((hbel.trans hb1)).cell (p := ⟨w.heap.size, 0, none⟩) (by simp)).trans (World.cell?_alloc_at _ _ _ _ rfl)
            have r1 : (w1).cell? ⟨w.heap.size, 1, none⟩ = some (.int .u8 0) := (((hbel.trans hb1)).cell (p := ⟨w.heap.size, 1, none⟩) (by simp)).trans (World.cell?_alloc_at _ _ _ _ rfl)
            have r2 : (w1).cell? ⟨w.heap.size, 2, none⟩ = some (.int .u8 0) := (((hbel.trans hb1)).cell (p := ⟨w.heap.size, 2, none⟩) (by simp)).trans (World.cell?_alloc_at _ _ _ _ rfl)
            have r3 : (w1).cell? ⟨w.heap.size, 3, none⟩ = some (.int .u8 0) := (((hbel.trans hb1)).cell (p := ⟨w.heap.size, 3, none⟩) (by simp)).trans (World.cell?_alloc_at _ _ _ _ rfl)
            have f0 : ∀ o, (w1).frozen? ⟨w.heap.size, o, none⟩ = false := fun o => (((hbel.trans hb1)).frozen (p := ⟨w.heap.size, o, none⟩) (by simp)).trans (World.frozen?_alloc_at _ _ _ _ rfl)
            clear hcell hown1
            subst hv
            generalize dg (byt s 1) = a at *
            generalize dg (byt s 2) = b at *
            generalize dg (byt s 3) = c at *
            generalize dg (byt s 4) = d at *
            generalize dg (byt s 5) = e at *
            generalize dg (byt s 6) = f at *
            obtain ⟨a0, a1⟩ := h1; obtain ⟨b0, b1⟩ := h2; obtain ⟨c0, c1⟩ := h3; obtain ⟨d0, d1⟩ := h4; obtain ⟨e0, e1⟩ := h5; obtain ⟨g0, g1⟩ := h6
            refine wp_region_steady_then (Held w 1 [(⟨w.heap.size, 0, none⟩, .int .u8 (0)), (⟨w.heap.size, 1, none⟩, .int .u8 (0)), (⟨w.heap.size, 2, none⟩, .int .u8 (0)), (⟨w.heap.size, 3, none⟩, .int .u8 (0)), (⟨g, 0, none⟩, .int .i64 (a)), (⟨g, 1, none⟩, .int .i64 (b)), (⟨g, 2, none⟩, .int .i64 (c)), (⟨g, 3, none⟩, .int .i64 (d)), (⟨g, 4, none⟩, .int .i64 (e)), (⟨g, 5, none⟩, .int .i64 (f)), (⟨g, 6, none⟩, .int .i64 (15)), (⟨g, 7, none⟩, .int .i64 (15))]) 37 (by kernel_rfl) (by kernel_rfl) (by decide) (by kernel_rfl) (by kernel_rfl) ⟨by first | exact hB | exact Below.drew hB, (by (try simp) <;> omega), (by simp only [Cells]; go_simp)⟩ ?_
            simp only [List.take_succ_cons, List.take_zero]
            repeat (first | (refine' wpSteady_do _ _ _; rotate_left; (focus rfl); (focus (intro w1 hS R hR; have hc := hS.cells; simp only [Cells] at hc; go_simp; (try go_bits); first | exact hR _ hS | fail)); simp only [Act.put, List.setIfInBounds_toArray, List.set_cons_zero, List.set_cons_succ]) | (refine wpSteady_pass ?_ ?_; (focus rfl); simp only [Act.put, List.setIfInBounds_toArray, List.set_cons_zero, List.set_cons_succ]))
            refine wpSteady_nil (fun w9 hS => ?_)
            have hc := hS.cells; have hb := hS.old; have hz := hS.size; clear hS; simp only [Cells] at hc
            simp only [List.drop_succ_cons, List.drop_zero, List.drop_nil]
            go_wp2
            refine bodyPost_ret (v := .tuple #[.agg #[.int .u8 (16 * a + b), .int .u8 (16 * c + d), .int .u8 (16 * e + f), .int .u8 (16 * 15 + 15)], .int .i64 0, .int .i64 0]) (by simp [results, Tryd.results10, go_sem, hc]) rfl ⟨by rw [E0.out, E1.out, E2.out, E3.out], (by repeat (first | exact Below.refl _ _ | assumption | refine Below.drew ?_ | refine Below.alloc ?_ (by (try simp) <;> omega) _ | refine Below.setCell ?_ (by (try simp) <;> omega) _ | (refine Below.trans ?_ (Below.mono (by assumption) (by (try simp) <;> omega)))))⟩
      · have hge : s.size ≤ 9 := by omega
        have hge' : 9 ≤ s.size := by omega
        clear hk H4 hs hpos h9
        go_wp2
        go_loopw [6, 7] (fun d i wr => ∃ j : Nat, j ≤ 8 ∧ i = .int .i64 (((j + 1 : Nat)) : Int) ∧ wr.ownsRow (w.heap.size + 1) 3 1 d (digs s 9 j).length ((digs s 9 j).map (Value.int .i64)) ∧ Below (w.heap.size + 1) (w.alloc (.cells #[.int .u8 0, .int .u8 0, .int .u8 0, .int .u8 0] 23)) wr) (fun _ i _ => 9 - (intOf i).toNat)
        case atStart => exact ⟨0, by omega, rfl, ⟨by simp [digs], .inl ⟨rfl, rfl⟩⟩, Below.refl _ _⟩
        case round =>
          obtain ⟨j, hj, rfl, hown, hbel⟩ := hrel
          have hsz := hbel.size; simp at hsz
          have hlen := digs_len s 9 j
          by_cases hj6 : j < 8
          · have hlt : j + 1 < s.size := by omega
            have DG := fun w => digit_any (byt s (j + 1)) w (HB.out _)
            rw [byt_eq hlt] at DG
            replace DG := Lib.hid DG
            go_wp2_with (first
              | (go_at_call 28; (with_reducible refine (DG.out _).mono ?_); rintro e w1 ⟨rfl, rfl⟩)
              | (at_builtin; refine wpList_append_new rfl _ _ _ rfl (w.heap.size + 1) 3 i0 _ 1 8 Tryd.underlying52 hi0 hz0 hz1 hz2 rfl (by omega) wr 1 _ _ _ _ (by rfl) (by assumption) (by rfl) rfl (by simp [Value.oneCell']) (by (try simp) <;> omega) (by unfold maxLen; (try simp) <;> omega) (by omega) ?_; intro v1 w1 hown1 hb1))
            go_roundw
            case rel => exact ⟨j + 1, by omega, by go_num, by simpa [digs_succ, dl, byt_eq hlt] using hown1, hbel.trans hb1⟩
            case measure => simp [intOf]; omega
          · obtain rfl : j = 8 := by omega
            have h1 := six_dg HC.out (j := 1) (by omega) (by omega)
            have h2 := six_dg HC.out (j := 2) (by omega) (by omega)
            have h3 := six_dg HC.out (j := 3) (by omega) (by omega)
            have h4 := six_dg HC.out (j := 4) (by omega) (by omega)
            have h5 := six_dg HC.out (j := 5) (by omega) (by omega)
            have h6 := six_dg HC.out (j := 6) (by omega) (by omega)
            have h7 := six_dg HC.out (j := 7) (by omega) (by omega)
            have h8 := six_dg HC.out (j := 8) (by omega) (by omega)
            clear hlen HC HB hj hj6
            obtain ⟨g, cap, hv, hg, hglt, hnc, hcm, hcell⟩ := own_open (show (wr).ownsRow (w.heap.size + 1) 3 1 _ 8 [.int .i64 (dg (byt s 1)), .int .i64 (dg (byt s 2)), .int .i64 (dg (byt s 3)), .int .i64 (dg (byt s 4)), .int .i64 (dg (byt s 5)), .int .i64 (dg (byt s 6)), .int .i64 (dg (byt s 7)), .int .i64 (dg (byt s 8))] from hown) (by omega)
            have E0 : Hid (pr s 9 0 = 16 * (dg (byt s 1)) + dg (byt s 2)) := rfl
            have E1 : Hid (pr s 9 1 = 16 * (dg (byt s 3)) + dg (byt s 4)) := rfl
            have E2 : Hid (pr s 9 2 = 16 * (dg (byt s 5)) + dg (byt s 6)) := rfl
            have E3 : Hid (pr s 9 3 = 16 * (dg (byt s 7)) + dg (byt s 8)) := rfl
            have hB : Below w.heap.size w wr := (((Below.refl _ _).alloc (Nat.le_refl _) _).trans (Below.mono hbel (by omega)))
            have hz9 := (hbel).size; simp at hz9
            have k0 := hcell 0 _ rfl
            have k1 := hcell 1 _ rfl
            have k2 := hcell 2 _ rfl
            have k3 := hcell 3 _ rfl
            have k4 := hcell 4 _ rfl
            have k5 := hcell 5 _ rfl
            have k6 := hcell 6 _ rfl
            have k7 := hcell 7 _ rfl
            have r0 : (wr).cell? ⟨w.heap.size, 0, none⟩ = some (.int .u8 0) := ((hbel).cell (p := ⟨w.heap.size, 0, none⟩) (by simp)).trans (World.cell?_alloc_at _ _ _ _ rfl)
            have r1 : (wr).cell? ⟨w.heap.size, 1, none⟩ = some (.int .u8 0) := ((hbel).cell (p := ⟨w.heap.size, 1, none⟩) (by simp)).trans (World.cell?_alloc_at _ _ _ _ rfl)
            have r2 : (wr).cell? ⟨w.heap.size, 2, none⟩ = some (.int .u8 0) := ((hbel).cell (p := ⟨w.heap.size, 2, none⟩) (by simp)).trans (World.cell?_alloc_at _ _ _ _ rfl)
            have r3 : (wr).cell? ⟨w.heap.size, 3, none⟩ = some (.int .u8 0) := ((hbel).cell (p := ⟨w.heap.size, 3, none⟩) (by simp)).trans (World.cell?_alloc_at _ _ _ _ rfl)
            have f0 : ∀ o, (wr).frozen? ⟨w.heap.size, o, none⟩ = false := fun o => ((hbel).frozen (p := ⟨w.heap.size, o, none⟩) (by simp)).trans (World.frozen?_alloc_at _ _ _ _ rfl)
            clear hcell hown
            subst hv
            generalize dg (byt s 1) = a at *
            generalize dg (byt s 2) = b at *
            generalize dg (byt s 3) = c at *
            generalize dg (byt s 4) = d at *
            generalize dg (byt s 5) = e at *
            generalize dg (byt s 6) = f at *
            generalize dg (byt s 7) = p at *
            generalize dg (byt s 8) = q at *
            obtain ⟨a0, a1⟩ := h1; obtain ⟨b0, b1⟩ := h2; obtain ⟨c0, c1⟩ := h3; obtain ⟨d0, d1⟩ := h4; obtain ⟨e0, e1⟩ := h5; obtain ⟨g0, g1⟩ := h6; obtain ⟨p0, p1⟩ := h7; obtain ⟨q0, q1⟩ := h8
            go_wp2
            refine wp_region_steady_then (Held w 1 [(⟨w.heap.size, 0, none⟩, .int .u8 (0)), (⟨w.heap.size, 1, none⟩, .int .u8 (0)), (⟨w.heap.size, 2, none⟩, .int .u8 (0)), (⟨w.heap.size, 3, none⟩, .int .u8 (0)), (⟨g, 0, none⟩, .int .i64 (a)), (⟨g, 1, none⟩, .int .i64 (b)), (⟨g, 2, none⟩, .int .i64 (c)), (⟨g, 3, none⟩, .int .i64 (d)), (⟨g, 4, none⟩, .int .i64 (e)), (⟨g, 5, none⟩, .int .i64 (f)), (⟨g, 6, none⟩, .int .i64 (p)), (⟨g, 7, none⟩, .int .i64 (q))]) 37 (by kernel_rfl) (by kernel_rfl) (by decide) (by kernel_rfl) (by kernel_rfl) ⟨by first | exact hB | exact Below.drew hB, (by (try simp) <;> omega), (by simp only [Cells]; go_simp)⟩ ?_
            simp only [List.take_succ_cons, List.take_zero]
            repeat (first | (refine' wpSteady_do _ _ _; rotate_left; (focus rfl); (focus (intro w1 hS R hR; have hc := hS.cells; simp only [Cells] at hc; go_simp; (try go_bits); first | exact hR _ hS | fail)); simp only [Act.put, List.setIfInBounds_toArray, List.set_cons_zero, List.set_cons_succ]) | (refine wpSteady_pass ?_ ?_; (focus rfl); simp only [Act.put, List.setIfInBounds_toArray, List.set_cons_zero, List.set_cons_succ]))
            refine wpSteady_nil (fun w9 hS => ?_)
            have hc := hS.cells; have hb := hS.old; have hz := hS.size; clear hS; simp only [Cells] at hc
            simp only [List.drop_succ_cons, List.drop_zero, List.drop_nil]
            go_wp2
            refine bodyPost_ret (v := .tuple #[.agg #[.int .u8 (16 * a + b), .int .u8 (16 * c + d), .int .u8 (16 * e + f), .int .u8 (16 * p + q)], .int .i64 0, .int .i64 0]) (by simp [results, Tryd.results10, go_sem, hc]) rfl ⟨by rw [E0.out, E1.out, E2.out, E3.out], (by repeat (first | exact Below.refl _ _ | assumption | refine Below.drew ?_ | refine Below.alloc ?_ (by (try simp) <;> omega) _ | refine Below.setCell ?_ (by (try simp) <;> omega) _ | (refine Below.trans ?_ (Below.mono (by assumption) (by (try simp) <;> omega)))))⟩
end Go.Proofs.YthecbopffdpefaaDoor
