/-
  Plain, by both.
-/
import Derived.Test.YtpbolbpenkfpiaaDoorVecF
namespace Go.Proofs.YtpbolbpenkfpiaaDoor
open Go.RowKit
set_option linter.unusedVariables false
attribute [local go_sem] vwp vUpon_value vUpon_skip vUpon_enter vUpon_row
set_option linter.unusedSimpArgs false
set_option linter.unusedVariables false
def plGo : List UInt8 → Nat → List UInt8 → List UInt8 × Nat × Int
  | [], _, out => (out, 0, 0)
  | c :: r, i, out => if stB c.toNat then plGo r (i + 1) (out ++ [c]) else
      match r with
      | a :: b :: d :: r' => if escV c.toNat a.toNat b.toNat d.toNat < 0 then ([], i, 160) else plGo r' (i + 4) (out ++ [UInt8.ofNat (escV c.toNat a.toNat b.toNat d.toNat).toNat])
      | _ => ([], i, 160)
def plS (s : ByteArray) : List UInt8 × Nat × Int := plGo s.data.toList 0 []
theorem drop_cons (s : ByteArray) (k : Nat) (h : k < s.size) : s.data.toList.drop k = s[k] :: s.data.toList.drop (k + 1) := by
  rw [List.drop_eq_getElem_cons (by simpa using h)]; rfl
theorem pl_cons1 (c : UInt8) (r : List UInt8) (i : Nat) (out : List UInt8) (h : stB c.toNat = true) : plGo (c :: r) i out = plGo r (i + 1) (out ++ [c]) := by
  rcases r with _ | ⟨a, _ | ⟨b, _ | ⟨d, r⟩⟩⟩ <;> simp [plGo, h]
theorem pl_cons2 (c : UInt8) (r : List UInt8) (i : Nat) (out : List UInt8) (h : stB c.toNat = false) (hl : r.length < 3) : plGo (c :: r) i out = ([], i, 160) := by
  rcases r with _ | ⟨a, _ | ⟨b, _ | ⟨d, r⟩⟩⟩
  · simp [plGo, h]
  · simp [plGo, h]
  · simp [plGo, h]
  · simp at hl; omega
theorem pl_cons3 (c a b d : UInt8) (r : List UInt8) (i : Nat) (out : List UInt8) (h : stB c.toNat = false) : plGo (c :: a :: b :: d :: r) i out = if escV c.toNat a.toNat b.toNat d.toNat < 0 then ([], i, 160) else plGo r (i + 4) (out ++ [UInt8.ofNat (escV c.toNat a.toNat b.toNat d.toNat).toNat]) := by
  rw [plGo, if_neg (by rw [h]; decide)]
theorem pl_end (s : ByteArray) (k i : Nat) (out : List UInt8) (h : s.size ≤ k) : plGo (s.data.toList.drop k) i out = (out, 0, 0) := by
  rw [List.drop_eq_nil_of_le (by simpa using h)]; rfl
theorem pl_st (s : ByteArray) (k i : Nat) (out : List UInt8) (h : k < s.size) (hs : stB s[k].toNat = true) : plGo (s.data.toList.drop k) i out = plGo (s.data.toList.drop (k + 1)) (i + 1) (out ++ [s[k]]) := by
  rw [drop_cons s k h, pl_cons1 _ _ _ _ hs]
theorem pl_short (s : ByteArray) (k i : Nat) (out : List UInt8) (h : k < s.size) (hs : stB s[k].toNat = false) (h4 : s.size < k + 4) : plGo (s.data.toList.drop k) i out = ([], i, 160) := by
  rw [drop_cons s k h, pl_cons2 _ _ _ _ hs (by simp; omega)]
theorem pl_esc (s : ByteArray) (k i : Nat) (out : List UInt8) (h4 : k + 4 ≤ s.size) (hs : stB (s[k]'(by omega)).toNat = false) (V : Int) (hV : escV (s[k]'(by omega)).toNat (s[k+1]'(by omega)).toNat (s[k+2]'(by omega)).toNat (s[k+3]'(by omega)).toNat = V) :
    plGo (s.data.toList.drop k) i out = if V < 0 then ([], i, 160) else plGo (s.data.toList.drop (k + 4)) (i + 4) (out ++ [UInt8.ofNat V.toNat]) := by
  rw [drop_cons s k (by omega), drop_cons s (k + 1) (by omega), drop_cons s (k + 1 + 1) (by omega), drop_cons s (k + 1 + 1 + 1) (by omega), pl_cons3 _ _ _ _ _ _ _ hs]
  show (if escV (s[k]'(by omega)).toNat (s[k+1]'(by omega)).toNat (s[k+2]'(by omega)).toNat (s[k+3]'(by omega)).toNat < 0 then _ else _) = _
  rw [hV]
theorem byte_snocI (l : List UInt8) (V : Int) (h0 : 0 ≤ V) (h1 : V ≤ 255) : Lib.byteCells l ++ [.int .u8 V] = Lib.byteCells (l ++ [UInt8.ofNat V.toNat]) := by
  have : ((UInt8.ofNat V.toNat).toNat : Int) = V := by
    rw [UInt8.toNat_ofNat']; omega
  simp [Lib.byteCells]
  omega
def PlPost (R : List UInt8 × Nat × Int) (w : World) (e : Ending) (w' : World) : Prop := e = .returned (.tuple #[.string ⟨R.1.toArray⟩, .int .i64 R.2.1, .int .i64 R.2.2]) ∧ Below w.heap.size w w'
def PlRel (w : World) (s : ByteArray) (R : List UInt8 × Nat × Int) (k : Nat) (out : List UInt8) (ov : Value) (wr : World) : Prop :=
  OwnsY w.heap.size wr ov out ∧ out.length ≤ k ∧ plGo (s.data.toList.drop k) k out = R ∧ Below w.heap.size w wr
set_option maxHeartbeats 1000000 in
set_option maxRecDepth 100000 in
theorem kplain_any (s : ByteArray) (w : World) (hs : s.size ≤ 100000) : Calls Tryd.prog 7 #[.string s] w (PlPost (plS s) w) := by
  obtain ⟨iB, hi0, hz0, hz1, hz2⟩ := info_parts infoB
  obtain ⟨R, hR⟩ : ∃ R, plS s = R := ⟨_, rfl⟩
  rw [hR]
  replace hR := Lib.hid hR
  go_enter Tryd.func7, Tryd.ntmps7
  go_wp2
  go_loopw [5, 6] (fun ov iv wr => ∃ (k : Nat) (out : List UInt8), k ≤ s.size ∧ iv = .int .i64 k ∧ PlRel w s R k out ov wr) (fun _ iv _ => s.size - (intOf iv).toNat)
  case atStart => exact ⟨0, [], Nat.zero_le _, rfl, World.ownsRow_nil _ _ _ _, Nat.le_refl _, hR.out, (by repeat (first | exact Below.refl _ _ | assumption | refine Below.drew ?_ | refine Below.alloc ?_ (by (try simp) <;> omega) _ | refine Below.setCell ?_ (by (try simp) <;> omega) _))⟩
  case round =>
    obtain ⟨k, out, hk, rfl, hown, hol, hgo, hbr⟩ := hrel
    have zr := hbr.size
    obtain ⟨N, hN⟩ : ∃ N, out.length = N := ⟨_, rfl⟩
    unfold OwnsY at hown
    rw [hN] at hown hol
    by_cases hkn : k < s.size
    · have hu : U8 (s[k].toNat : Int) := ⟨by omega, by have := s[k].toNat_lt; omega⟩
      have P := fun w => stands_any (s[k].toNat : Int) w hu
      obtain ⟨bb, hbb⟩ : ∃ bb, stB (s[k].toNat : Int) = bb := ⟨_, rfl⟩
      rw [hbb] at P
      replace P := Lib.hid P
      replace hown := Lib.hid hown
      replace hN := Lib.hid hN
      cases bb
      · by_cases h4 : s.size < k + 4
        · rw [pl_short s k k out hkn hbb h4] at hgo
          have E := fun w => kesc_short s k w hs hkn h4
          replace E := Lib.hid E
          clear hbb
          subst hgo
          go_wp2_with (first
            | (go_at_call 25; (with_reducible refine (P.out _).mono ?_); rintro e w1 ⟨rfl, rfl⟩)
            | (go_at_call 26; (with_reducible refine (E.out _).mono ?_); rintro e w2 ⟨rfl, hb2⟩)
            | go_in)
          refine bodyPost_ret (v := .tuple #[.string ⟨#[]⟩, .int .i64 k, .int .i64 160]) (by simp [results, Tryd.results7, go_sem]) rfl ⟨rfl, hbr.trans (hb2.mono zr)⟩
        · have h4 : k + 4 ≤ s.size := by omega
          obtain ⟨V, hV⟩ : ∃ V, escV (s[k]'(by omega)).toNat (s[k+1]'(by omega)).toNat (s[k+2]'(by omega)).toNat (s[k+3]'(by omega)).toNat = V := ⟨_, rfl⟩
          rw [pl_esc s k k out h4 hbb V hV] at hgo
          have E := fun w => kesc_any s k w hs h4
          rw [hV] at E
          have bV := escV_bd (s[k]'(by omega)).toNat (s[k+1]'(by omega)).toNat (s[k+2]'(by omega)).toNat (s[k+3]'(by omega)).toNat
          rw [hV] at bV
          replace E := Lib.hid E
          clear hbb hV
          by_cases hv : V < 0
          · rw [if_pos hv] at hgo
            subst hgo
            go_wp2_with (first
              | (go_at_call 25; (with_reducible refine (P.out _).mono ?_); rintro e w1 ⟨rfl, rfl⟩)
              | (go_at_call 26; (with_reducible refine (E.out _).mono ?_); rintro e w2 ⟨rfl, hb2⟩)
              | go_in)
            refine bodyPost_ret (v := .tuple #[.string ⟨#[]⟩, .int .i64 k, .int .i64 160]) (by simp [results, Tryd.results7, go_sem]) rfl ⟨rfl, hbr.trans (hb2.mono zr)⟩
          · rw [if_neg hv] at hgo
            replace hgo := Lib.hid hgo
            have v0 : 0 ≤ V := by omega
            have v1 : V ≤ 255 := by omega
            clear hv bV
            go_wp2_with (first
              | (go_at_call 25; (with_reducible refine (P.out _).mono ?_); rintro e w1 ⟨rfl, rfl⟩)
              | ((go_at_call 26; (with_reducible refine (E.out _).mono ?_); rintro e w2 ⟨rfl, hb2⟩); have hr2 := hbr.trans (hb2.mono zr); have zr2 := hr2.size; have hown2 := Lib.hid (ownsRow_below hown.out hb2 (Nat.le_refl _)))
              | (at_builtin; refine wpList_append_new rfl _ _ _ rfl w.heap.size 5 iB _ 1 1 Tryd.underlying44 hi0 hz0 hz1 hz2 rfl (by omega) w2 1 _ _ _ _ (by rfl) hown2.out (by rfl) rfl (by simp [Value.oneCell']) (by omega) (by unfold maxLen; omega) zr2 ?_; intro v6 w6 hown6 hb6)
              | go_in)
            rw [byte_snocI out V v0 v1] at hown6
            have hi2 : OwnsY w.heap.size w6 v6 (out ++ [UInt8.ofNat V.toNat]) := by
              unfold OwnsY
              rw [List.length_append, hN.out]
              exact hown6
            replace hi2 := Lib.hid hi2
            have hbw6 := Lib.hid (hr2.trans hb6)
            clear hown6 hb6 hb2 hr2
            go_wp2
            go_roundw
            case rel => exact ⟨k + 4, out ++ [UInt8.ofNat V.toNat], by omega, by go_num, hi2.out, by rw [List.length_append, hN.out]; simp; omega, hgo.out, hbw6.out⟩
            case measure => simp [intOf]; omega
      · rw [pl_st s k k out hkn hbb] at hgo
        replace hgo := Lib.hid hgo
        clear hbb
        go_wp2_with (first
          | (go_at_call 25; (with_reducible refine (P.out _).mono ?_); rintro e w1 ⟨rfl, rfl⟩)
          | (at_builtin; refine wpList_append_new rfl _ _ _ rfl w.heap.size 5 iB _ 1 1 Tryd.underlying44 hi0 hz0 hz1 hz2 rfl (by omega) wr 1 _ _ _ _ (by rfl) hown.out (by rfl) rfl (by simp [Value.oneCell']) (by omega) (by unfold maxLen; omega) zr ?_; intro v6 w6 hown6 hb6)
          | go_in)
        have hi2 : OwnsY w.heap.size w6 v6 (out ++ [s[k]]) := by
          unfold OwnsY
          rw [bytes_snocB] at hown6
          rw [List.length_append, hN.out]
          exact hown6
        replace hi2 := Lib.hid hi2
        clear hown6
        go_wp2
        go_roundw
        case rel => exact ⟨k + 1, out ++ [s[k]], by omega, by go_num, hi2.out, by rw [List.length_append, hN.out]; simp; omega, hgo.out, hbr.trans hb6⟩
        case measure => simp [intOf]; omega
    · obtain rfl : k = s.size := by omega
      rw [pl_end s s.size s.size out (Nat.le_refl _)] at hgo
      subst hgo
      have S := own_textY (l := out) (by unfold OwnsY; rw [hN]; exact hown)
      replace hown := Lib.hid hown
      clear hN
      go_wp2
      refine bodyPost_ret (v := .tuple #[.string ⟨out.toArray⟩, .int .i64 0, .int .i64 0]) (by simp [results, Tryd.results7, go_sem]) rfl ⟨rfl, hbr⟩
end Go.Proofs.YtpbolbpenkfpiaaDoor
