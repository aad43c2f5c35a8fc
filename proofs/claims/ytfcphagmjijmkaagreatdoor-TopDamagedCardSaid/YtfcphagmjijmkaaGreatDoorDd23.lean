/-
  Cells, plain: what a terminal's text tells of runs is read back.
-/
import Derived.Lib.TrimUEq
import Derived.Test.YtfcphagmjijmkaaGreatDoorDd22
namespace Go.Proofs.YtfcphagmjijmkaaGreatDoor
open Go.RowKit
set_option linter.unusedVariables false
set_option linter.unusedSimpArgs false
attribute [local go_sem] vwp vUpon_value vUpon_skip vUpon_enter vUpon_row
set_option maxHeartbeats 16000000
/-! ### decimal numbers -/
theorem dg_nat {d : Nat} (h : d < 10) : (UInt8.ofNat (48 + d)).toNat = 48 + d := by
 rw [UInt8.toNat_ofNat']; exact Nat.mod_eq_of_lt (by omega)
theorem dg_dig {d : Nat} (h : d < 10) : digB (UInt8.ofNat (48 + d)) = true := by
 unfold digB; rw [dg_nat h]
 simp
 omega
theorem dec_digits (u : Nat) : ∀ c ∈ Lib.decDigits u, digB c = true := by
 induction u using Nat.strongRecOn with
 | ind u ih =>
  intro c hc
  rw [Lib.decDigits] at hc
  split at hc
  ·rename_i h
   simp only [List.mem_singleton] at hc; subst hc; exact dg_dig h
  ·rename_i h
   rcases List.mem_append.1 hc with hc | hc
   ·exact ih (u / 10) (by omega) c hc
   ·simp only [List.mem_singleton] at hc
    subst hc; exact dg_dig (by omega)
theorem dec_val (u : Nat) : valL 0 (Lib.decDigits u) = u := by
 induction u using Nat.strongRecOn with
 | ind u ih =>
  rw [Lib.decDigits]
  split
  ·rename_i h
   show 0 * 10 + (((UInt8.ofNat (48 + u)).toNat : Int) - 48) = u
   rw [dg_nat h]; omega
  ·rename_i h
   rw [valL_snoc, ih (u / 10) (by omega), dg_nat (by omega)]; omega
theorem dec_ne (u : Nat) : Lib.decDigits u ≠ [] := by
 rw [Lib.decDigits]
 split <;> simp
theorem dec_head (u : Nat) : (Lib.decDigits u)[0]? = some 48 → u = 0 := by
 induction u using Nat.strongRecOn with
 | ind u ih =>
  intro h
  rw [Lib.decDigits] at h
  split at h
  ·rename_i hu
   simp only [List.getElem?_cons_zero, Option.some.injEq] at h; have h2 := congrArg UInt8.toNat h; rw [dg_nat hu] at h2; have h3 : (48 : UInt8).toNat = 48 := rfl; omega
  ·rename_i hu
   rw [List.getElem?_append_left (by have := List.length_pos_iff.2 (dec_ne (u / 10)); exact this)] at h; have := ih (u / 10) (by omega) h; omega
theorem dec_zero_len : (Lib.decDigits 0).length = 1 := by
 rw [Lib.decDigits]; rfl
theorem numP_dec {most : Int} {u : Nat} {c : UInt8} {r : List UInt8} (hm : (u : Int) ≤ most) (hc : digB c = false) : numP most (Lib.decDigits u ++ c :: r) = some ((u : Int), (Lib.decDigits u).length) := by
 rw [numP_run]
 have ht : (Lib.decDigits u ++ c :: r).takeWhile digB = Lib.decDigits u := by
  rw [List.takeWhile_append_of_pos (dec_digits u), List.takeWhile_cons_of_neg (by simp [hc]), List.append_nil]
 rw [ht]; refine ⟨dec_ne u, ?_, by rw [dec_val]; exact hm, (dec_val u).symm, rfl⟩
 rintro ⟨h1, h2⟩
 have := dec_head u h2; subst this; rw [dec_zero_len] at h1; omega
theorem numsP_dec {most : Int} {e : UInt8} {k u : Nat} {c : UInt8} {r : List UInt8} (hm : (u : Int) ≤ most) (hc : digB c = false) :
  numsP most e (k + 1) (Lib.decDigits u ++ c :: r) = if c = (if k = 0 then e else 59) then (match numsP most e k r with | none => none | some (ns, r') => some ((u : Int) :: ns, r')) else none := by
 rw [numsP, numP_dec hm hc]; dsimp only; rw [List.drop_left]
 rfl
theorem numsP_next {most : Int} {e : UInt8} {k u : Nat} {r r' : List UInt8} {ns : List Int} (hm : (u : Int) ≤ most) (hr : numsP most e (k + 1) r = some (ns, r')) : numsP most e (k + 2) (Lib.decDigits u ++ 59 :: r) = some ((u : Int) :: ns, r') := by
 rw [numsP_dec hm (by decide), if_pos (by rw [if_neg (Nat.succ_ne_zero k)]), hr]
theorem numsP_fail {most : Int} {e : UInt8} {k u : Nat} {r : List UInt8} (hm : (u : Int) ≤ most) (hr : numsP most e (k + 1) r = none) : numsP most e (k + 2) (Lib.decDigits u ++ 59 :: r) = none := by
 rw [numsP_dec hm (by decide), if_pos (by rw [if_neg (Nat.succ_ne_zero k)]), hr]
theorem numsP_last {most : Int} {e : UInt8} {u : Nat} {r : List UInt8} (hm : (u : Int) ≤ most) (he : digB e = false) : numsP most e 1 (Lib.decDigits u ++ e :: r) = some ([(u : Int)], r) := by
 rw [numsP_dec hm he, if_pos (by rw [if_pos rfl])]
 rfl
theorem numsP_bad {most : Int} {e c : UInt8} {u : Nat} {r : List UInt8} (hm : (u : Int) ≤ most) (hd : digB c = false) (hc : c ≠ e) : numsP most e 1 (Lib.decDigits u ++ c :: r) = none := by
 rw [numsP_dec hm hd, if_neg (by rw [if_pos rfl]; exact hc)]
theorem itoa_nat (k : Nat) : Lib.itoa (k : Int) = Lib.decDigits k := by unfold Lib.itoa; rw [if_neg (by omega), Int.toNat_natCast]
theorem d59 : digB 59 = false := by decide
theorem d72 : digB 72 = false := by decide
theorem d109 : digB 109 = false := by decide
theorem escL_two (a b : Nat) (R : List UInt8) : escL 72 [(a : Int), (b : Int)] ++ R = 27 :: 91 :: (Lib.decDigits a ++ 59 :: (Lib.decDigits b ++ 72 :: R)) := by
 simp [escL, numsL, semiL, itoa_nat]
theorem escL_six (n a b c d : Nat) (R : List UInt8) : escL 109 [(n : Int), 2, (a : Int), (b : Int), (c : Int), (d : Int)] ++ R = 27 :: 91 :: (Lib.decDigits n ++ 59 :: (Lib.decDigits 2 ++ 59 :: (Lib.decDigits a ++ 59 :: (Lib.decDigits b ++ 59 :: (Lib.decDigits c ++ 59 :: (Lib.decDigits d ++ 109 :: R)))))) := by
 have h2 : Lib.itoa 2 = Lib.decDigits 2 := itoa_nat 2
 simp [escL, numsL, semiL, itoa_nat, h2]
theorem escP_body (t : Tm) (l : List UInt8) : escP t (27 :: 91 :: l) = match numsP 16384 72 2 l with
  | some ([y, x], r) => if x < 1 ∨ y < 1 then none else some ({ t with x := x - 1, y := y - 1 }, l.length + 2 - r.length)
  | _ => match numsP 255 109 6 l with
   | some ([a, b, c0, c1, c2, c3], r) => if b = 2 then (if a = 38 then some ({ t with col := ⟨c0, c1, c2, c3⟩ }, l.length + 2 - r.length) else if a = 48 then some ({ t with back := ⟨c0, c1, c2, c3⟩ }, l.length + 2 - r.length) else none) else none
   | _ => none := rfl
theorem escP_two (t : Tm) (a b : Nat) (R : List UInt8) (a1 : 1 ≤ a) (a2 : a ≤ 16384) (b1 : 1 ≤ b) (b2 : b ≤ 16384) :
  escP t (escL 72 [(a : Int), (b : Int)] ++ R) = some ({ t with x := (b : Int) - 1, y := (a : Int) - 1 }, (escL 72 [(a : Int), (b : Int)]).length) := by
 have hl : (escL 72 [(a : Int), (b : Int)] ++ R).length = (escL 72 [(a : Int), (b : Int)]).length + R.length := List.length_append
 have e : numsP 16384 72 2 (Lib.decDigits a ++ 59 :: (Lib.decDigits b ++ 72 :: R)) = some ([(a : Int), (b : Int)], R) := by
  exact numsP_next (by omega) (numsP_last (by omega) d72)
 rw [escL_two] at hl ⊢; rw [escP_body, e]; dsimp only; rw [if_neg (by omega)]; simp only [List.length_cons] at hl
 congr 2
 omega
theorem nums_not (n : Nat) (hn : n ≤ 255) (r : List UInt8) : numsP 16384 72 2 (Lib.decDigits n ++ 59 :: (Lib.decDigits 2 ++ 59 :: r)) = none := by
 exact numsP_fail (by omega) (numsP_bad (by decide) d59 (by decide))
theorem nums_six {n a b c d : Nat} {R : List UInt8} (hn : n ≤ 255) (ha : a ≤ 255) (hb : b ≤ 255) (hc : c ≤ 255) (hd : d ≤ 255) :
  numsP 255 109 6 (Lib.decDigits n ++ 59 :: (Lib.decDigits 2 ++ 59 :: (Lib.decDigits a ++ 59 :: (Lib.decDigits b ++ 59 :: (Lib.decDigits c ++ 59 :: (Lib.decDigits d ++ 109 :: R)))))) = some ([(n : Int), 2, (a : Int), (b : Int), (c : Int), (d : Int)], R) := by
 exact numsP_next (by omega) (numsP_next (by decide) (numsP_next (by omega) (numsP_next (by omega) (numsP_next (by omega) (numsP_last (by omega) d109)))))
theorem escP_six (t : Tm) (n a b c d : Nat) (R : List UInt8) (hn : n = 38 ∨ n = 48) (ha : a ≤ 255) (hb : b ≤ 255) (hc : c ≤ 255) (hd : d ≤ 255) :
  escP t (escL 109 [(n : Int), 2, (a : Int), (b : Int), (c : Int), (d : Int)] ++ R) = some (if n = 38 then { t with col := ⟨a, b, c, d⟩ } else { t with back := ⟨a, b, c, d⟩ }, (escL 109 [(n : Int), 2, (a : Int), (b : Int), (c : Int), (d : Int)]).length) := by
 have hl : (escL 109 [(n : Int), 2, (a : Int), (b : Int), (c : Int), (d : Int)] ++ R).length = (escL 109 [(n : Int), 2, (a : Int), (b : Int), (c : Int), (d : Int)]).length + R.length := List.length_append; rw [escL_six] at hl ⊢; rw [escP_body, nums_not n (by omega), nums_six (by omega) ha hb hc hd]; dsimp only; rw [if_pos rfl]; simp only [List.length_cons] at hl
 rcases hn with rfl | rfl
 ·rw [if_pos (by decide), if_pos rfl]
  congr 2
  omega
 ·rw [if_neg (by decide), if_pos (by decide), if_neg (by decide)]
  congr 2
  omega
/-! ### a rune and its bytes -/
theorem byte_nat {z : Nat} (h : z < 256) : ((z : Int).toNat.toUInt8).toNat = z := by
 rw [Int.toNat_natCast]
 show (UInt8.ofNat z).toNat = z
 rw [UInt8.toNat_ofNat']; exact Nat.mod_eq_of_lt (by omega)
theorem enc_bytes {n : Nat} (hv : validR (n : Int) = true) : ∃ bs : List Nat, Lib.encodeRune (n : Int) = bs.map (fun z : Nat => (z : Int).toNat.toUInt8) ∧ (∀ z ∈ bs, z < 256) ∧
  ((n ≤ 127 ∧ bs = [n]) ∨ (128 ≤ n ∧ n ≤ 2047 ∧ bs = [192 + n / 64, 128 + n % 64]) ∨ (2048 ≤ n ∧ (n < 55296 ∨ 57343 < n) ∧ n ≤ 65535 ∧ bs = [224 + n / 4096, 128 + n / 64 % 64, 128 + n % 64]) ∨ (65536 ≤ n ∧ n ≤ 1114111 ∧ bs = [240 + n / 262144, 128 + n / 4096 % 64, 128 + n / 64 % 64, 128 + n % 64])) := by
 unfold validR at hv; simp only [Bool.or_eq_true, Bool.and_eq_true, decide_eq_true_eq] at hv
 by_cases c1 : n ≤ 127
 ·refine ⟨[n], ?_, by intro z hz; simp at hz; omega, .inl ⟨c1, rfl⟩⟩
  unfold Lib.encodeRune; rw [Lib.encodeRuneZ_one (by omega) (by omega)]
  rfl
 ·by_cases c2 : n ≤ 2047
  ·refine ⟨[192 + n / 64, 128 + n % 64], ?_, by intro z hz; simp at hz; omega, .inr (.inl ⟨by omega, c2, rfl⟩)⟩
   unfold Lib.encodeRune; rw [Lib.encodeRuneZ_two (by omega) (by omega), show 192 + (n : Int) / 64 = ((192 + n / 64 : Nat) : Int) by omega, show 128 + (n : Int) % 64 = ((128 + n % 64 : Nat) : Int) by omega]
   rfl
  ·by_cases c3 : n ≤ 65535
   ·refine ⟨[224 + n / 4096, 128 + n / 64 % 64, 128 + n % 64], ?_, by intro z hz; simp at hz; omega, .inr (.inr (.inl ⟨by omega, by omega, c3, rfl⟩))⟩
    unfold Lib.encodeRune; rw [Lib.encodeRuneZ_three (by omega), show 224 + (n : Int) / 4096 = ((224 + n / 4096 : Nat) : Int) by omega, show 128 + (n : Int) / 64 % 64 = ((128 + n / 64 % 64 : Nat) : Int) by omega, show 128 + (n : Int) % 64 = ((128 + n % 64 : Nat) : Int) by omega]
    rfl
   ·refine ⟨[240 + n / 262144, 128 + n / 4096 % 64, 128 + n / 64 % 64, 128 + n % 64], ?_, by intro z hz; simp at hz; omega, .inr (.inr (.inr ⟨by omega, by omega, rfl⟩))⟩
    unfold Lib.encodeRune; rw [Lib.encodeRuneZ_four (by omega) (by omega), show 240 + (n : Int) / 262144 = ((240 + n / 262144 : Nat) : Int) by omega, show 128 + (n : Int) / 4096 % 64 = ((128 + n / 4096 % 64 : Nat) : Int) by omega, show 128 + (n : Int) / 64 % 64 = ((128 + n / 64 % 64 : Nat) : Int) by omega, show 128 + (n : Int) % 64 = ((128 + n % 64 : Nat) : Int) by omega]
    rfl
theorem dec_list (bs : List Nat) (R : List UInt8) (hb : ∀ z ∈ bs, z < 256) (k : Nat) (z : Nat) (h : bs[k]? = some z) : ((bs.map (fun z : Nat => (z : Int).toNat.toUInt8) ++ R).getD k 0).toNat = z := by
 have hk := (List.getElem?_eq_some_iff.1 h).1; rw [List.getD_eq_getElem?_getD, List.getElem?_append_left (by rw [List.length_map]; exact hk), List.getElem?_map, h]; exact byte_nat (hb z (List.mem_of_getElem? h))
theorem dec_enc {n : Nat} (hv : validR (n : Int) = true) (R : List UInt8) : Lib.decodeGo (strL (Lib.encodeRune (n : Int) ++ R)) = (n, (Lib.encodeRune (n : Int)).length) := by
 obtain ⟨bs, he, hb, hc⟩ := enc_bytes hv
 have hl : (Lib.encodeRune (n : Int)).length = bs.length := by rw [he, List.length_map]
 have hp : 1 ≤ bs.length := by rcases hc with ⟨_, rfl⟩ | ⟨_, _, rfl⟩ | ⟨_, _, _, rfl⟩ | ⟨_, _, rfl⟩ <;> simp
 have hd := dec_list bs R hb; unfold Lib.decodeGo; rw [if_neg (by rw [strL_size, List.length_append, hl]; omega)]; have e : Utf8.decode (strL (Lib.encodeRune (n : Int) ++ R)) 0 = Lib.decodeL (Lib.encodeRune (n : Int) ++ R) := rfl; rw [e, Lib.decodeL_N, hl, List.length_append, hl, he]; generalize bs.map (fun z : Nat => (z : Int).toNat.toUInt8) ++ R = L at hd ⊢; generalize R.length = rl; clear he hb hp e hl
 rcases hc with ⟨h1, rfl⟩ | ⟨h1, h2, rfl⟩ | ⟨h1, h3, h2, rfl⟩ | ⟨h1, h2, rfl⟩
 ·rw [hd 0 _ rfl]
  unfold Lib.decodeN; rw [if_pos (by omega)]
  rfl
 ·rw [hd 0 _ rfl, hd 1 _ rfl]
  simp only [List.length_cons, List.length_nil]; generalize (L.getD 2 0).toNat = b2; generalize (L.getD 3 0).toNat = b3; unfold Lib.decodeN; rw [if_neg (by omega), if_pos (by omega), if_pos (by omega)]; rw [show (192 + n / 64) % 32 * 64 + (128 + n % 64) % 64 = n by omega]
 ·rw [hd 0 _ rfl, hd 1 _ rfl, hd 2 _ rfl]
  simp only [List.length_cons, List.length_nil]; generalize (L.getD 3 0).toNat = b3; unfold Lib.decodeN; rw [if_neg (by omega), if_neg (by omega), if_pos (by omega), if_pos (by omega)]; rw [show (224 + n / 4096) % 16 * 4096 + (128 + n / 64 % 64) % 64 * 64 + (128 + n % 64) % 64 = n by omega]
 ·rw [hd 0 _ rfl, hd 1 _ rfl, hd 2 _ rfl, hd 3 _ rfl]
  simp only [List.length_cons, List.length_nil]; unfold Lib.decodeN; rw [if_neg (by omega), if_neg (by omega), if_neg (by omega), if_pos (by omega), if_pos (by omega)]; rw [show (240 + n / 262144) % 8 * 262144 + (128 + n / 4096 % 64) % 64 * 4096 + (128 + n / 64 % 64) % 64 * 64 + (128 + n % 64) % 64 = n by omega]
theorem enc_head {n : Nat} (hv : validR (n : Int) = true) (h32 : 32 ≤ n) : ∃ c r, Lib.encodeRune (n : Int) = c :: r ∧ 32 ≤ c.toNat := by
 obtain ⟨bs, he, hb, hc⟩ := enc_bytes hv
 rcases hc with ⟨h1, rfl⟩ | ⟨h1, h2, rfl⟩ | ⟨h1, h3, h2, rfl⟩ | ⟨h1, h2, rfl⟩
 ·exact ⟨_, _, he, by rw [byte_nat (by omega)]; omega⟩
 ·exact ⟨_, _, he, by rw [byte_nat (by omega)]; omega⟩
 ·exact ⟨_, _, he, by rw [byte_nat (by omega)]; omega⟩
 ·exact ⟨_, _, he, by rw [byte_nat (by omega)]; omega⟩
theorem may_nat {c : Ce} (h : mayC c = true) : ∃ n : Nat, c.rune = (n : Int) ∧ validR (n : Int) = true ∧ 32 ≤ n ∧ ((widR c.rune = 1 ∧ c.wide = false ∧ c.tail = false) ∨ (widR c.rune = 2 ∧ ((c.wide = true ∧ c.tail = false) ∨ (c.wide = false ∧ c.tail = true)))) := by
 unfold mayC at h; rw [Bool.and_eq_true] at h; obtain ⟨hv, hw⟩ := h; have hv2 := hv; unfold validR at hv2; simp only [Bool.or_eq_true, Bool.and_eq_true, decide_eq_true_eq] at hv2; obtain ⟨n, hn⟩ : ∃ n : Nat, c.rune = (n : Int) := ⟨c.rune.toNat, by omega⟩; refine ⟨n, hn, by rw [← hn]; exact hv, ?_, ?_⟩
 ·rcases Nat.lt_or_ge n 32 with h | h
  ·exfalso
   have : widR c.rune = 0 := by
    unfold widR; rw [if_neg (by rw [hv]; decide)]
    have : ctlR c.rune = true := by unfold ctlR; rw [hn]; simp; omega
    rw [this]
    rfl
   rw [this] at hw
   simp at hw
  ·exact h
 ·by_cases h1 : widR c.rune = 1
  ·rw [if_pos h1] at hw
   simp at hw
   exact .inl ⟨h1, hw.1, hw.2⟩
  ·rw [if_neg h1] at hw
   by_cases h2 : widR c.rune = 2
   ·rw [if_pos h2] at hw
    refine .inr ⟨h2, ?_⟩
    cases hwi : c.wide <;> cases hta : c.tail <;> simp [hwi, hta] at hw ⊢
   ·rw [if_neg h2] at hw
    cases hw
def putGo (wd : Int) (cs : List Ce) (l : List Rn) : List Ce := l.foldl (fun cs r => splC cs (r.y * wd + r.x).toNat r.cells) cs
def fitR (wd ht : Int) (r : Rn) : Bool := plcS wd ht r.x r.y && (!(r.cells.length == 0) && (decide ((r.cells.length : Int) ≤ wd - r.x) && r.cells.all mayC))
theorem fitR_true {wd ht : Int} {r : Rn} : fitR wd ht r = true ↔ (plcS wd ht r.x r.y = true ∧ r.cells.length ≠ 0 ∧ (r.cells.length : Int) ≤ wd - r.x ∧ r.cells.all mayC = true) := by
 unfold fitR; simp only [Bool.and_eq_true, decide_eq_true_eq, Bool.not_eq_true', beq_eq_false_iff_ne]
theorem fit_len {wd ht : Int} (hfit : fitsS wd ht = true) {cs : List Ce} (hl : (cs.length : Int) = wd * ht) {r : Rn} (h : fitR wd ht r = true) : (r.y * wd + r.x).toNat + r.cells.length ≤ cs.length := by
 obtain ⟨h1, h2, h3, _⟩ := fitR_true.1 h; obtain ⟨p1, p2, p3, p4⟩ := plcS_true.1 h1; obtain ⟨z0, z1, z2, z3, z4⟩ := fitsS_true.1 hfit; obtain ⟨e1, e2⟩ := row_end z0 p2 p4; omega
theorem co_eqb {p q : Co} (h : p.eqb q = true) : p = q := by
 obtain ⟨a, b, c, d⟩ := p; obtain ⟨a', b', c', d'⟩ := q
 simpa [Co.eqb, eq4, and_assoc] using h
theorem readL_one {wd ht : Int} {cs cs' : List Ce} {t t' : Tm} {T R : List UInt8} {p : Nat} (hT : T ≠ []) (h : stepP wd ht cs t (T ++ R) = some (cs', t', T.length)) : readL wd ht cs t (T ++ R) p = readL wd ht cs' t' R (p + T.length) := by
 rw [readL_step (by simp [hT]), h]; dsimp only; rw [List.drop_left]
theorem escL_ne (c : UInt8) (ns : List Int) : escL c ns ≠ [] := by simp [escL]
theorem read_esc {wd ht : Int} {cs : List Ce} {t t' : Tm} {c : UInt8} {ns : List Int} {R : List UInt8} {p : Nat} (h : escP t (escL c ns ++ R) = some (t', (escL c ns).length)) :
  readL wd ht cs t (escL c ns ++ R) p = readL wd ht cs t' R (p + (escL c ns).length) :=
 readL_one (escL_ne c ns) (by
  have e : (escL c ns ++ R).head? = some 27 := rfl; unfold stepP
  rw [if_pos e, h])
theorem col_nat {c : Co} (h : c.Wf) : ∃ a b d e : Nat, c = ⟨a, b, d, e⟩ ∧ a ≤ 255 ∧ b ≤ 255 ∧ d ≤ 255 ∧ e ≤ 255 := by
 obtain ⟨r, g, b, a⟩ := c; obtain ⟨h1, h2, h3, h4⟩ := h; simp only at h1 h2 h3 h4; unfold U8 at h1 h2 h3 h4; refine ⟨r.toNat, g.toNat, b.toNat, a.toNat, ?_, by omega, by omega, by omega, by omega⟩; rw [Int.toNat_of_nonneg h1.1, Int.toNat_of_nonneg h2.1, Int.toNat_of_nonneg h3.1, Int.toNat_of_nonneg h4.1]
theorem read_dip38 {wd ht : Int} {cs : List Ce} {x y : Int} {tc tb c : Co} {R : List UInt8} {p : Nat} (hc : c.Wf) :
  readL wd ht cs ⟨x, y, tc, tb⟩ (dipL 38 tc c ++ R) p = readL wd ht cs ⟨x, y, c, tb⟩ R (p + (dipL 38 tc c).length) := by
 unfold dipL
 cases he : tc.eqb c
 ·obtain ⟨a, b, d, e, rfl, h1, h2, h3, h4⟩ := col_nat hc
  exact read_esc (escP_six ⟨x, y, tc, tb⟩ 38 a b d e R (.inl rfl) h1 h2 h3 h4)
 ·rw [co_eqb he]
  rfl
theorem read_dip48 {wd ht : Int} {cs : List Ce} {x y : Int} {tc tb c : Co} {R : List UInt8} {p : Nat} (hc : c.Wf) :
  readL wd ht cs ⟨x, y, tc, tb⟩ (dipL 48 tb c ++ R) p = readL wd ht cs ⟨x, y, tc, c⟩ R (p + (dipL 48 tb c).length) := by
 unfold dipL
 cases he : tb.eqb c
 ·obtain ⟨a, b, d, e, rfl, h1, h2, h3, h4⟩ := col_nat hc
  exact read_esc (escP_six ⟨x, y, tc, tb⟩ 48 a b d e R (.inr rfl) h1 h2 h3 h4)
 ·rw [co_eqb he]
  rfl
theorem cell_go {wd ht : Int} {cs : List Ce} {t : Tm} {c : UInt8} {r : List UInt8} {n k : Nat} {P : List Ce} (hd : Lib.decodeGo (strL ((c :: r).drop (skipP c))) = (n, k)) (hk : ¬ (n = 65533 ∧ k < 3)) (hP : putL (halfP c) n t.col t.back = P) (hne : P ≠ [])
  (hpl : plcS wd ht t.x t.y = true) (hr : ¬ wd - t.x < (P.length : Int)) :
  cellP wd ht cs t (c :: r) = some (splC cs (t.y * wd + t.x).toNat P, { t with x := t.x + P.length }, skipP c + k) := by
 rw [cellP]; dsimp only; rw [hd]; dsimp only; rw [hP, if_neg hk, if_neg (by rintro (h | h | h); exact hne h; rw [hpl] at h; cases h; exact hr h)]
theorem enc_len3 {n : Nat} (hv : validR (n : Int) = true) : ¬ (n = 65533 ∧ (Lib.encodeRune (n : Int)).length < 3) := by
 rintro ⟨rfl, h⟩
 exact absurd h (by decide)
theorem read_rune {wd ht : Int} {cs : List Ce} {x y : Int} {tc tb : Co} {M R : List UInt8} {p : Nat} {h : Int} (hM : (M = [] ∧ h = 0) ∨ (M = [14] ∧ h = 14) ∨ (M = [15] ∧ h = 15)) {n : Nat} (hv : validR (n : Int) = true) (h32 : 32 ≤ n) {P : List Ce} (hP : putL h n tc tb = P) (hne : P ≠ [])
  (hpl : plcS wd ht x y = true) (hr : (P.length : Int) ≤ wd - x) :
  readL wd ht cs ⟨x, y, tc, tb⟩ ((M ++ Lib.encodeRune (n : Int)) ++ R) p = readL wd ht (splC cs (y * wd + x).toNat P) ⟨x + P.length, y, tc, tb⟩ R (p + (M ++ Lib.encodeRune (n : Int)).length) := by
 obtain ⟨c, r, he, hc⟩ := enc_head hv h32; have hD := dec_enc hv R; have hk := enc_len3 hv; refine readL_one (by rw [he]; simp) ?_
 have hne27 : ∀ k : Nat, k < 32 → c ≠ UInt8.ofNat k := by
  intro k hk h
  rw [h, UInt8.toNat_ofNat'] at hc; have := Nat.mod_le k (2 ^ 8); omega
 rcases hM with ⟨rfl, rfl⟩ | ⟨rfl, rfl⟩ | ⟨rfl, rfl⟩
 ·rw [List.nil_append]
  rw [he] at hD hk ⊢; rw [List.cons_append] at hD ⊢
  have s0 : skipP c = 0 := by unfold skipP; rw [if_neg (by rintro (h | h); exact hne27 14 (by decide) h; exact hne27 15 (by decide) h)]
  have f0 : halfP c = 0 := by unfold halfP; rw [if_neg (by rintro (h | h); exact hne27 14 (by decide) h; exact hne27 15 (by decide) h)]
  unfold stepP; rw [if_neg (by intro h; exact hne27 27 (by decide) (by simpa using h)), cell_go (n := n) (k := (c :: r).length) (P := P) (by rw [s0]; exact hD) hk (by rw [f0]; exact hP) hne hpl (by show ¬ wd - x < (P.length : Int); omega), s0, Nat.zero_add]
 ·have e : ([14] ++ Lib.encodeRune (n : Int)) ++ R = 14 :: (Lib.encodeRune (n : Int) ++ R) := rfl
  rw [e]; unfold stepP; rw [if_neg (by simp), cell_go (c := 14) (r := Lib.encodeRune (n : Int) ++ R) (n := n) (k := (Lib.encodeRune (n : Int)).length) (P := P) hD hk (by rw [show halfP 14 = 14 by decide]; exact hP) hne hpl (by show ¬ wd - x < (P.length : Int); omega)]; exact congrArg some (congrArg (Prod.mk _) (congrArg (Prod.mk _) (by rw [List.length_append]; rfl)))
 ·have e : ([15] ++ Lib.encodeRune (n : Int)) ++ R = 15 :: (Lib.encodeRune (n : Int) ++ R) := rfl
  rw [e]; unfold stepP; rw [if_neg (by simp), cell_go (c := 15) (r := Lib.encodeRune (n : Int) ++ R) (n := n) (k := (Lib.encodeRune (n : Int)).length) (P := P) hD hk (by rw [show halfP 15 = 15 by decide]; exact hP) hne hpl (by show ¬ wd - x < (P.length : Int); omega)]; exact congrArg some (congrArg (Prod.mk _) (congrArg (Prod.mk _) (by rw [List.length_append]; rfl)))
/-! ### cells -/
theorem splC_nil (cs : List Ce) (i : Nat) : splC cs i [] = cs := by
 unfold splC; rw [List.append_nil, List.length_nil, Nat.add_zero, List.take_append_drop]
theorem splC_two {cs p q : List Ce} {i : Nat} (h : i + p.length + q.length ≤ cs.length) : splC (splC cs i p) (i + p.length) q = splC cs i (p ++ q) := by
 have e : (cs.take i ++ p).length = i + p.length := by rw [List.length_append, List.length_take]; omega
 unfold splC
 have e1 : (cs.take i ++ p ++ cs.drop (i + p.length)).take (i + p.length) = cs.take i ++ p := by rw [← e, List.take_left]
 have e2 : (cs.take i ++ p ++ cs.drop (i + p.length)).drop (i + p.length + q.length) = cs.drop (i + p.length + q.length) := by
  rw [show i + p.length + q.length = (cs.take i ++ p).length + q.length by omega, List.drop_append, List.drop_drop]
  simp [e]
  try (congr 1; omega)
 rw [e1, e2]; simp only [List.length_append, Nat.add_assoc, List.append_assoc]
theorem cell_text (tc tb : Co) (c : Ce) (wh : Bool) (R : List UInt8) : cellL tc tb c wh ++ R = dipL 38 tc c.col ++ (dipL 48 tb c.back ++ ((markL c wh ++ Lib.encodeRune c.rune) ++ R)) := by
 unfold cellL; simp only [List.append_assoc]
theorem cell_size (tc tb : Co) (c : Ce) (wh : Bool) (p : Nat) : p + (cellL tc tb c wh).length = p + (dipL 38 tc c.col).length + (dipL 48 tb c.back).length + (markL c wh ++ Lib.encodeRune c.rune).length := by
 unfold cellL; simp only [List.length_append]; omega
theorem read_cell {wd ht : Int} {cs : List Ce} {x y : Int} {tc tb : Co} {R : List UInt8} {p : Nat} {c : Ce} (hm : mayC c = true) (hw : c.Wf) (hpl : plcS wd ht x y = true) :
  readL wd ht cs ⟨x, y, tc, tb⟩ (cellL tc tb c false ++ R) p = readL wd ht (splC cs (y * wd + x).toNat [c]) ⟨x + 1, y, c.col, c.back⟩ R (p + (cellL tc tb c false).length) := by
 obtain ⟨n, hn, hv, h32, hc⟩ := may_nat hm; have hx := (plcS_true.1 hpl).2.2.1; rw [cell_text, read_dip38 hw.2.1, read_dip48 hw.2.2, cell_size]; obtain ⟨r, col, back, wi, ta⟩ := c; simp only at hn hc ⊢; subst hn
 rcases hc with ⟨w1, rfl, rfl⟩ | ⟨w2, ⟨rfl, rfl⟩ | ⟨rfl, rfl⟩⟩
 ·exact read_rune (h := 0) (.inl ⟨rfl, rfl⟩) hv h32 (P := [⟨n, col, back, false, false⟩]) (by unfold putL; rw [if_pos w1, if_pos rfl]) (by simp) hpl (by simp; omega)
 ·exact read_rune (h := 14) (.inr (.inl ⟨rfl, rfl⟩)) hv h32 (P := [⟨n, col, back, true, false⟩]) (by unfold putL; rw [if_neg (by omega), if_pos w2, if_pos rfl]) (by simp) hpl (by simp; omega)
 ·exact read_rune (h := 15) (.inr (.inr ⟨rfl, rfl⟩)) hv h32 (P := [⟨n, col, back, false, true⟩]) (by unfold putL; rw [if_neg (by omega), if_pos w2, if_neg (by decide), if_pos rfl]) (by simp) hpl (by simp; omega)
theorem read_pair {wd ht : Int} {cs : List Ce} {x y : Int} {tc tb : Co} {R : List UInt8} {p : Nat} {c d : Ce} (h : wholeC c d = true) (hm : mayC c = true) (hm2 : mayC d = true) (hw : c.Wf) (hpl : plcS wd ht x y = true) (h2 : 2 ≤ wd - x) :
  readL wd ht cs ⟨x, y, tc, tb⟩ (cellL tc tb c true ++ R) p = readL wd ht (splC cs (y * wd + x).toNat [c, d]) ⟨x + 2, y, c.col, c.back⟩ R (p + (cellL tc tb c true).length) := by
 obtain ⟨n, hn, hv, h32, hc⟩ := may_nat hm; obtain ⟨n', hn', _, _, hc'⟩ := may_nat hm2; rw [cell_text, read_dip38 hw.2.1, read_dip48 hw.2.2, cell_size]; unfold wholeC pairC at h; simp only [Bool.and_eq_true, beq_iff_eq] at h; obtain ⟨⟨⟨h1, h3⟩, h4⟩, h5, h6⟩ := h; have e5 := co_eqb h5; have e6 := co_eqb h6; obtain ⟨r, col, back, wi, ta⟩ := c; obtain ⟨r', col', back', wi', ta'⟩ := d; simp only at hn hn' hc hc' h1 h3 h4 e5 e6 ⊢; subst h1 h3 e5 e6; subst hn; subst h4
 rcases hc with ⟨w1, h, _⟩ | ⟨w2, ⟨_, rfl⟩ | ⟨h, _⟩⟩
 ·cases h
 ·rcases hc' with ⟨_, _, h⟩ | ⟨_, ⟨_, h⟩ | ⟨rfl, _⟩⟩
  ·cases h
  ·cases h
  ·exact read_rune (h := 0) (.inl ⟨rfl, rfl⟩) hv h32 (P := [⟨n, col, back, true, false⟩, ⟨n, col, back, false, true⟩]) (by unfold putL; rw [if_neg (by omega), if_pos w2, if_neg (by decide), if_neg (by decide)]) (by simp) hpl (by simp; omega)
 ·cases h
theorem idx_next {wd x y : Int} (h0 : 0 ≤ y * wd) (hx : 0 ≤ x) (k : Nat) : (y * wd + (x + k)).toNat = (y * wd + x).toNat + k := by omega
theorem read_cells {wd ht : Int} (hfit : fitsS wd ht = true) : ∀ (cells : List Ce) (o o' : List UInt8) (tc tb tc' tb' : Co), escCells o tc tb cells = some (o', tc', tb') → (∀ c ∈ cells, mayC c = true) → CeL cells →
  ∃ T, o' = o ++ T ∧ ∀ (cs : List Ce) (x y : Int) (R : List UInt8) (p : Nat), (cs.length : Int) = wd * ht → 0 ≤ x → 0 ≤ y → y < ht → x + cells.length ≤ wd →
   readL wd ht cs ⟨x, y, tc, tb⟩ (T ++ R) p = readL wd ht (splC cs (y * wd + x).toNat cells) ⟨x + cells.length, y, tc', tb'⟩ R (p + T.length)
 | [], o, o', tc, tb, tc', tb', h, _, _ => by
  rw [escCells] at h
  cases h
  refine ⟨[], by simp, fun cs x y R p _ _ _ _ _ => ?_⟩; rw [splC_nil, List.nil_append]
  simp
 | [c], o, o', tc, tb, tc', tb', h, hm, hw => by
  rw [escCells] at h
  split at h
  ·cases h
  ·cases h
   refine ⟨_, rfl, fun cs x y R p _ hx hy hy2 hx2 => ?_⟩; simp only [List.length_cons, List.length_nil] at hx2 ⊢; rw [read_cell (hm c (by simp)) (hw c (by simp)) (plcS_true.2 ⟨hx, hy, by omega, hy2⟩)]
   rfl
 | c :: d :: r, o, o', tc, tb, tc', tb', h, hm, hw => by
  obtain ⟨z0, z1, z2, z3, z4⟩ := fitsS_true.1 hfit; rw [escCells] at h
  split at h
  ·cases h
  ·by_cases hwh : wholeC c d = true
   ·rw [if_pos hwh] at h
    obtain ⟨T, rfl, hT⟩ := read_cells hfit r _ o' _ _ tc' tb' h (fun e he => hm e (by simp [he])) (fun e he => hw e (by simp [he])); refine ⟨cellL tc tb c true ++ T, by rw [List.append_assoc], fun cs x y R p hl hx hy hy2 hx2 => ?_⟩; simp only [List.length_cons] at hx2 ⊢; obtain ⟨e1, e2⟩ := row_end z0 hy hy2; have hpl : plcS wd ht x y = true := plcS_true.2 ⟨hx, hy, by omega, hy2⟩; have hs : (splC cs (y * wd + x).toNat [c, d]).length = cs.length := splC_len (by simp; omega); rw [List.append_assoc, read_pair hwh (hm c (by simp)) (hm d (by simp)) (hw c (by simp)) hpl (by omega), hT _ (x + 2) y R _ (by rw [hs]; exact hl) (by omega) hy hy2 (by omega)]
    have i2 := idx_next e1 hx 2; rw [show (x + ((2 : Nat) : Int)) = x + 2 by rfl] at i2; have s2 := splC_two (cs := cs) (p := [c, d]) (q := r) (i := (y * wd + x).toNat) (by simp; omega); simp only [List.length_cons, List.length_nil, List.cons_append, List.nil_append] at s2; rw [i2, s2, List.length_append, Nat.add_assoc]
    congr 2
    omega
   ·rw [if_neg hwh] at h
    obtain ⟨T, rfl, hT⟩ := read_cells hfit (d :: r) _ o' _ _ tc' tb' h (fun e he => hm e (List.mem_cons_of_mem _ he)) (fun e he => hw e (List.mem_cons_of_mem _ he))
    have hwf : wholeC c d = false := by cases h : wholeC c d; rfl; exact absurd h hwh
    refine ⟨cellL tc tb c false ++ T, by rw [List.append_assoc], fun cs x y R p hl hx hy hy2 hx2 => ?_⟩; simp only [List.length_cons] at hx2 ⊢; obtain ⟨e1, e2⟩ := row_end z0 hy hy2; have hpl : plcS wd ht x y = true := plcS_true.2 ⟨hx, hy, by omega, hy2⟩; have hs : (splC cs (y * wd + x).toNat [c]).length = cs.length := splC_len (by simp; omega); rw [List.append_assoc, read_cell (hm c (by simp)) (hw c (by simp)) hpl, hT _ (x + 1) y R _ (by rw [hs]; exact hl) (by omega) hy hy2 (by simp only [List.length_cons]; omega)]; have i2 := idx_next e1 hx 1; rw [show (x + ((1 : Nat) : Int)) = x + 1 by rfl] at i2
    have s2 := splC_two (cs := cs) (p := [c]) (q := d :: r) (i := (y * wd + x).toNat) (by simp; omega); simp only [List.length_cons, List.length_nil, List.cons_append, List.nil_append] at s2; rw [i2, s2, List.length_append, Nat.add_assoc]; simp only [List.length_cons]
    congr 2
    omega
/-! ### runs -/
theorem read_runs {wd ht : Int} (hfit : fitsS wd ht = true) : ∀ (rs : List Rn) (o o' : List UInt8) (tc tb : Co), escRuns o tc tb rs = some o' → (∀ r ∈ rs, fitR wd ht r = true ∧ CeL r.cells) →
  ∃ T, o' = o ++ T ∧ ∀ (cs : List Ce) (x y : Int) (p : Nat), (cs.length : Int) = wd * ht → readL wd ht cs ⟨x, y, tc, tb⟩ T p = .ok (putGo wd cs rs)
 | [], o, o', tc, tb, h, _ => by
  rw [escRuns] at h
  injection h with h
  subst h; exact ⟨[], by simp, fun cs x y p _ => readL_nil _ _ _ _ _⟩
 | r :: rs, o, o', tc, tb, h, hr => by
  obtain ⟨z0, z1, z2, z3, z4⟩ := fitsS_true.1 hfit; obtain ⟨hf, hcw⟩ := hr r (by simp); obtain ⟨h1, h2, h3, h4⟩ := fitR_true.1 hf; obtain ⟨p1, p2, p3, p4⟩ := plcS_true.1 h1; rw [escRuns] at h
  split at h
  ·cases h
  ·rename_i o1 tc1 tb1 he
   obtain ⟨T1, rfl, hT1⟩ := read_cells hfit r.cells _ _ _ _ _ _ he (fun c hc => List.all_eq_true.1 h4 c hc) hcw; obtain ⟨T2, rfl, hT2⟩ := read_runs hfit rs _ o' _ _ h (fun q hq => hr q (by simp [hq])); refine ⟨escL 72 [r.y + 1, r.x + 1] ++ (T1 ++ T2), by simp only [List.append_assoc], fun cs x y p hl => ?_⟩; obtain ⟨a, ha⟩ : ∃ a : Nat, r.y + 1 = (a : Int) := ⟨(r.y + 1).toNat, by omega⟩; obtain ⟨b, hb⟩ : ∃ b : Nat, r.x + 1 = (b : Int) := ⟨(r.x + 1).toNat, by omega⟩; have hE := escP_two ⟨x, y, tc, tb⟩ a b (T1 ++ T2) (by omega) (by omega) (by omega) (by omega); rw [← ha, ← hb] at hE; rw [read_esc hE]
   have ex : r.x + 1 - 1 = r.x := by omega
   have ey : r.y + 1 - 1 = r.y := by omega
   simp only [ex, ey]; rw [hT1 cs r.x r.y T2 _ hl p1 p2 p4 (by omega), hT2 _ _ _ _ (by rw [splC_len (fit_len hfit hl hf)]; exact hl)]
   rfl
/-! ### the runs, put -/
def mixC (ls ms : List Ce) (i : Nat) : List Ce := ms.take i ++ ls.drop i
theorem mix_same {ls ms : List Ce} {i : Nat} (hl : ls.length = ms.length) (hi : i < ls.length) (h : dif ls ms i = false) : mixC ls ms (i + 1) = mixC ls ms i := by
 obtain ⟨a, ha⟩ := get_at (l := ls) rfl hi; obtain ⟨b, hb⟩ := get_at (l := ms) rfl (show i < ms.length by omega); rw [dif_at ha hb] at h; have e : a = b := Ce.eqb_iff.1 (by simpa using h); subst e; unfold mixC; rw [List.take_add_one, hb, drop_get ha]
 simp
theorem mix_run {ls ms : List Ce} {x e : Nat} (hl : ls.length = ms.length) (h : x ≤ e) (he : e ≤ ms.length) : splC (mixC ls ms x) x ((ms.drop x).take (e - x)) = mixC ls ms e := by
 have hp : ((ms.drop x).take (e - x)).length = e - x := by rw [List.length_take, List.length_drop]; omega
 have hx : (ms.take x).length = x := by rw [List.length_take]; omega
 unfold splC mixC; rw [hp]
 have e1 : (ms.take x ++ ls.drop x).take x = ms.take x := by
  conv => lhs; arg 1; rw [← hx]
  rw [List.take_left]
 have e2 : (ms.take x ++ ls.drop x).drop (x + (e - x)) = ls.drop e := by
  rw [List.drop_append, hx, List.drop_drop, List.drop_eq_nil_of_le (by rw [hx]; omega), List.nil_append]
  congr 1
  omega
 rw [e1, e2]
 congr 1
 conv => rhs; rw [show e = x + (e - x) by omega]
 rw [List.take_add]
theorem rEnd_at (ls ms : List Ce) (P N : Nat) : ∀ (f x : Nat), N - x ≤ f → rEnd ls ms P N f x < N → dif ls ms (P + rEnd ls ms P N f x) = false
 | 0, x, h, h2 => by rw [rEnd] at h2; omega
 | f + 1, x, h, h2 => by
  rw [rEnd] at h2 ⊢
  split at h2
  ·rename_i hc
   rw [if_pos hc]; exact rEnd_at ls ms P N f (x + 1) (by omega) h2
  ·rename_i hc
   rw [if_neg hc]
   cases hd : dif ls ms (P + x)
   ·rfl
   ·exact absurd ⟨h2, hd⟩ hc
theorem runTo_at {ls ms : List Ce} {P N x : Nat} (h : runTo ls ms P N x < N) : dif ls ms (P + runTo ls ms P N x) = false := rEnd_at ls ms P N (N - x) x lrr h
theorem runTo_bd (ls ms : List Ce) (P N x : Nat) : x ≤ runTo ls ms P N x ∧ (x ≤ N → runTo ls ms P N x ≤ N) := rEnd_bd ls ms P N (N - x) x
theorem putGo_app (wd : Int) (cs : List Ce) (a b : List Rn) : putGo wd cs (a ++ b) = putGo wd (putGo wd cs a) b := by
 unfold putGo; rw [List.foldl_append]
theorem put_one {ls ms : List Ce} {N y x e : Nat} (hl : ls.length = ms.length) (hx : x ≤ e) (he : y * N + e ≤ ms.length) : putGo N (mixC ls ms (y * N + x)) (runOne ms (y * N) y x e) = mixC ls ms (y * N + e) := by
 unfold runOne
 split
 ·rename_i h
  show splC _ ((y : Int) * (N : Int) + (x : Int)).toNat _ = _
  have ei : ((y : Int) * (N : Int) + (x : Int)).toNat = y * N + x := by rw [← Int.natCast_mul]; omega
  rw [ei]; have := mix_run (x := y * N + x) (e := y * N + e) hl (by omega) he; rw [show y * N + e - (y * N + x) = e - x by omega] at this; exact this
 ·rename_i h
  have : x = e := by omega
  subst this
  rfl
theorem put_row {ls ms : List Ce} {N y : Nat} (hl : ls.length = ms.length) (hP : y * N + N ≤ ls.length) : ∀ (f x : Nat), N - x ≤ f → x ≤ N → putGo N (mixC ls ms (y * N + x)) (runRow ls ms (y * N) N y x) = mixC ls ms (y * N + N) := by
 intro f
 induction f with
 | zero =>
  intro x hf hx
  have : x = N := by omega
  subst this; rw [runRow_end (by omega)]
  rfl
 | succ f ih =>
  intro x hf hx
  by_cases hxN : x < N
  ·obtain ⟨b1, b2⟩ := runTo_bd ls ms (y * N) N x
   have b2 := b2 hx; rw [runRow_step hxN, putGo_app, put_one hl b1 (by omega)]
   by_cases he : runTo ls ms (y * N) N x < N
   ·have hd := runTo_at he
    rw [← mix_same hl (by omega) hd, Nat.add_assoc]; exact ih (runTo ls ms (y * N) N x + 1) (by omega) (by omega)
   ·have e : runTo ls ms (y * N) N x = N := by omega
    rw [e, runRow_end (by omega)]
    rfl
  ·have : x = N := by omega
   subst this; rw [runRow_end (by omega)]
   rfl
theorem put_runs {ls ms : List Ce} {N : Nat} (hl : ls.length = ms.length) : ∀ (n y : Nat), (y + n) * N ≤ ls.length → putGo N (mixC ls ms (y * N)) (runsGo ls ms N n y) = mixC ls ms ((y + n) * N)
 | 0, y, _ => rfl
 | n + 1, y, h => by
  have e : (y + (n + 1)) * N = (y + 1 + n) * N := by congr 1; omega
  have h2 : (y + 1) * N ≤ (y + 1 + n) * N := Nat.mul_le_mul_right N (by omega); rw [Nat.add_mul y 1 N, Nat.one_mul] at h2; rw [e] at h ⊢; rw [runsGo, putGo_app]; have := put_row (N := N) (y := y) hl (by omega) N 0 (by omega) (Nat.zero_le _); rw [Nat.add_zero] at this; rw [this, ← put_runs hl n (y + 1) h, Nat.add_mul y 1, Nat.one_mul]
/-! ### the runs may be -/
def totC (l : List Rn) : Nat := (l.map fun r => r.cells.length).sum
theorem totC_app (a b : List Rn) : totC (a ++ b) = totC a + totC b := by simp [totC]
theorem totC_len {l : List Rn} (h : ∀ r ∈ l, r.cells.length ≠ 0) : l.length ≤ totC l := by
 induction l with
 | nil => simp [totC]
 | cons r l ih =>
  have h1 := h r (by simp); have h2 := ih (fun q hq => h q (by simp [hq])); have e : totC (r :: l) = r.cells.length + totC l := rfl; rw [List.length_cons]; omega
theorem one_ok {ms : List Ce} {N M y x e : Nat} (hm : ms.all mayC = true) (hw : CeL ms) (hl : ms.length = N * M) (hy : y < M) (hx : x ≤ e) (he : e ≤ N) :
  (∀ r ∈ runOne ms (y * N) y x e, fitR N M r = true ∧ CeL r.cells) ∧ totC (runOne ms (y * N) y x e) + x ≤ e := by
 unfold runOne
 split
 ·rename_i h
  have hle : (y + 1) * N ≤ M * N := Nat.mul_le_mul_right N (by omega); rw [Nat.add_mul, Nat.one_mul, Nat.mul_comm M] at hle
  have hp : ((ms.drop (y * N + x)).take (e - x)).length = e - x := by rw [List.length_take, List.length_drop]; omega
  refine ⟨fun r hr => ?_, ?_⟩
  ·simp only [List.mem_singleton] at hr
   subst hr; refine ⟨fitR_true.2 ⟨plcS_true.2 ⟨by show (0 : Int) ≤ (x : Int); omega, by show (0 : Int) ≤ (y : Int); omega, by show (x : Int) < (N : Int); omega, by show (y : Int) < (M : Int); omega⟩, ?_, ?_, ?_⟩, ?_⟩
   ·simp only [hp]; omega
   ·simp only [hp]; omega
   ·rw [List.all_eq_true] at hm ⊢
    exact fun c hc => hm c (List.mem_of_mem_drop (List.mem_of_mem_take hc))
   ·exact fun c hc => hw c (List.mem_of_mem_drop (List.mem_of_mem_take hc))
  ·have e1 : totC [(⟨x, y, (ms.drop (y * N + x)).take (e - x)⟩ : Rn)] = ((ms.drop (y * N + x)).take (e - x)).length := by simp [totC]
   rw [e1, hp]; omega
 ·exact ⟨(fun r hr => by cases hr), by simp [totC]; omega⟩
theorem row_ok {ls ms : List Ce} {N M y : Nat} (hm : ms.all mayC = true) (hw : CeL ms) (hl : ms.length = N * M) (hy : y < M) : ∀ (f x : Nat), N - x ≤ f → x ≤ N →
  (∀ r ∈ runRow ls ms (y * N) N y x, fitR N M r = true ∧ CeL r.cells) ∧ totC (runRow ls ms (y * N) N y x) + x ≤ N := by
 intro f
 induction f with
 | zero =>
  intro x hf hx
  rw [runRow_end (by omega)]; exact ⟨(fun r hr => by cases hr), by simp [totC]; omega⟩
 | succ f ih =>
  intro x hf hx
  by_cases hxN : x < N
  ·obtain ⟨b1, b2⟩ := runTo_bd ls ms (y * N) N x
   have b2 := b2 hx; obtain ⟨o1, o2⟩ := one_ok hm hw hl hy b1 b2; rw [runRow_step hxN, totC_app]
   by_cases he : runTo ls ms (y * N) N x < N
   ·obtain ⟨q1, q2⟩ := ih (runTo ls ms (y * N) N x + 1) (by omega) (by omega)
    refine ⟨fun r hr => ?_, by omega⟩
    rcases List.mem_append.1 hr with h | h
    ·exact o1 r h
    ·exact q1 r h
   ·rw [runRow_end (x := runTo ls ms (y * N) N x + 1) (by omega)]
    refine ⟨fun r hr => ?_, by simp only [totC, List.map_nil, List.sum_nil] at o2 ⊢; omega⟩; rw [List.append_nil] at hr; exact o1 r hr
  ·rw [runRow_end hxN]
   exact ⟨(fun r hr => by cases hr), by simp [totC]; omega⟩
theorem runs_ok {ls ms : List Ce} {N M : Nat} (hm : ms.all mayC = true) (hw : CeL ms) (hl : ms.length = N * M) : ∀ (n y : Nat), y + n ≤ M → (∀ r ∈ runsGo ls ms N n y, fitR N M r = true ∧ CeL r.cells) ∧ totC (runsGo ls ms N n y) ≤ n * N
 | 0, y, _ => ⟨(fun r hr => by cases hr), by simp [runsGo, totC]⟩
 | n + 1, y, h => by
  obtain ⟨q1, q2⟩ := row_ok (ls := ls) (y := y) hm hw hl (by omega) N 0 (by omega) (Nat.zero_le _); obtain ⟨g1, g2⟩ := runs_ok (ls := ls) hm hw hl n (y + 1) (by omega); rw [runsGo, totC_app, Nat.add_mul, Nat.one_mul]; refine ⟨fun r hr => ?_, by omega⟩
  rcases List.mem_append.1 hr with h | h
  ·exact q1 r h
  ·exact g1 r h
/-! ### a screen and itself -/
/-! ### the text's size -/
/-! ### the whole -/
/-! ### line ends -/
theorem cells_bd : ∀ (cells : List Ce) (o o' : List UInt8) (x y x' y' : Co), escCells o x y cells = some (o', x', y') → cells ≠ [] → o'.length ≤ 1048576
 | [], o, o', x, y, x', y', h, h0 => absurd rfl h0
 | [c], o, o', x, y, x', y', h, _ => by
  rw [escCells] at h
  split at h
  ·cases h
  ·rename_i hb
   injection h with h
   injection h with h1 _
   subst h1; omega
 | c :: d :: r, o, o', x, y, x', y', h, _ => by
  rw [escCells] at h
  split at h
  ·cases h
  ·rename_i hb
   split at h
   ·rename_i hw
    rw [hw] at hb
    cases r with
    | nil =>
     rw [escCells] at h
     injection h with h
     injection h with h1 _
     subst h1; omega
    | cons e r => exact cells_bd (e :: r) _ _ _ _ _ _ h (by simp)
   ·exact cells_bd (d :: r) _ _ _ _ _ _ h (by simp)
theorem eruns_bd : ∀ (rs : List Rn) (o o' : List UInt8) (x y : Co), escRuns o x y rs = some o' → (∀ r ∈ rs, r.cells ≠ []) → o.length ≤ 1048576 → o'.length ≤ 1048576
 | [], o, o', x, y, h, _, hl => by
  rw [escRuns] at h
  injection h with h
  subst h; exact hl
 | r :: rs, o, o', x, y, h, hr, hl => by
  rw [escRuns] at h
  split at h
  ·cases h
  ·rename_i o1 x1 y1 he
   exact eruns_bd rs _ _ _ _ h (fun q hq => hr q (by simp [hq])) (cells_bd _ _ _ _ _ _ _ he (hr r (by simp)))
set_option maxRecDepth 100000 in
theorem sent_law {wd ht : Int} {ls ms : List Ce} (h1 : chkS wd ht ls = 0) (h2 : chkS wd ht ms = 0) (hw : CeL ms) (hs : ls.length ≤ 4096) :
  runsE wd ht ls wd ht ms = 0 ∧ (∀ r ∈ runsL wd ht ls wd ht ms, RnWf r) ∧ (runsL wd ht ls wd ht ms).length ≤ 4096 ∧
   (escE (runsL wd ht ls wd ht ms) = 4 ∨ ∃ o, escE (runsL wd ht ls wd ht ms) = 0 ∧ escT (runsL wd ht ls wd ht ms) = strL o ∧ o.length ≤ 2000000 ∧ readS wd ht ls o = (0, 0, wd, ht, ms)) := by
 obtain ⟨f1, n1, m1⟩ := chkS_zero h1; obtain ⟨f2, n2, m2⟩ := chkS_zero h2; obtain ⟨z0, z1, z2, z3, z4⟩ := fitsS_true.1 f1; obtain ⟨N, rfl⟩ : ∃ N : Nat, wd = N := ⟨wd.toNat, by omega⟩; obtain ⟨M, rfl⟩ : ∃ M : Nat, ht = M := ⟨ht.toNat, by omega⟩
 have ok2 : runsOk N M ls N M ms = true := by unfold runsOk; rw [h1, h2]; simp
 have k1 : ls.length = N * M := by
  have h : ((ls.length : Nat) : Int) = ((N * M : Nat) : Int) := by rw [n1, Int.natCast_mul]
  exact Int.ofNat.inj h
 have k2 : ms.length = N * M := by
  have h : ((ms.length : Nat) : Int) = ((N * M : Nat) : Int) := by rw [n2, Int.natCast_mul]
  exact Int.ofNat.inj h
 have e2 : runsL N M ls N M ms = runsGo ls ms N M 0 := by unfold runsL; rw [if_pos ok2]; rfl
 obtain ⟨g1, g2⟩ := runs_ok (ls := ls) (N := N) (M := M) m2 hw k2 M 0 (by omega)
 have g3 : totC (runsGo ls ms N M 0) ≤ 4096 := by rw [Nat.mul_comm] at g2; omega
 have hput : putGo N ls (runsGo ls ms N M 0) = ms := by
  have h := put_runs (ls := ls) (ms := ms) (N := N) (by omega) M 0 (by rw [Nat.zero_add, Nat.mul_comm]; omega); rw [Nat.zero_mul, Nat.zero_add, Nat.mul_comm M] at h; unfold mixC at h; rw [List.take_zero, List.drop_zero, List.nil_append, List.take_of_length_le (by omega), List.drop_eq_nil_of_le (by omega), List.append_nil] at h; exact h
 have hne : ∀ r ∈ runsGo ls ms N M 0, r.cells.length ≠ 0 := fun r hr => (fitR_true.1 (g1 r hr).1).2.1
 have hlen := totC_len (l := runsGo ls ms N M 0) hne
 have hall : (runsGo ls ms N M 0).all runOkC = true := by
  rw [List.all_eq_true]
  intro r hr
  obtain ⟨q1, q2, q3, q4⟩ := fitR_true.1 (g1 r hr).1; obtain ⟨p1, p2, p3, p4⟩ := plcS_true.1 q1; unfold runOkC; simp only [Bool.and_eq_true, decide_eq_true_eq, Bool.not_eq_true', beq_eq_false_iff_ne]; exact ⟨q2, q4, p1, p2, by omega, by omega⟩
 have hwf : ∀ r ∈ runsGo ls ms N M 0, RnWf r := by
  intro r hr
  obtain ⟨q1, _, _, _⟩ := fitR_true.1 (g1 r hr).1; obtain ⟨p1, p2, p3, p4⟩ := plcS_true.1 q1; unfold RnWf I64; exact ⟨by omega, by omega, (g1 r hr).2⟩
 refine ⟨by unfold runsE; rw [if_pos ok2], by rw [e2]; exact hwf, by rw [e2]; omega, ?_⟩; rw [e2]
 cases ho : escRuns [] Co.zero Co.zero (runsGo ls ms N M 0) with
 | none =>
  have hR : escR (runsGo ls ms N M 0) = (none, 4) := by
   unfold escR; rw [if_neg (by omega), if_pos hall, ho]
  exact .inl (by unfold escE; rw [hR])
 | some o =>
  have hR : escR (runsGo ls ms N M 0) = (some o, 0) := by
   unfold escR; rw [if_neg (by omega), if_pos hall, ho]
  have hbd := eruns_bd _ _ _ _ _ ho (fun r hr h => hne r hr (by rw [h]; rfl)) (Nat.zero_le _); obtain ⟨T, hT, hRd⟩ := read_runs f1 _ _ _ _ _ ho g1; rw [List.nil_append] at hT; subst hT; refine .inr ⟨o, by unfold escE; rw [hR], by unfold escT; rw [hR]; rfl, by omega, ?_⟩; unfold readS; rw [if_pos h1, if_neg (by omega)]; have := hRd ls 0 0 0 n1; have ez : Tm.zero = ⟨0, 0, Co.zero, Co.zero⟩ := rfl; rw [ez, this, hput]
end Go.Proofs.YtfcphagmjijmkaaGreatDoor
