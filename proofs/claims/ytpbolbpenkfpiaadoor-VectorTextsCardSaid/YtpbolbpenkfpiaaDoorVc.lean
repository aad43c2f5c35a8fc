/-
  XVc: XColA XColB XColC XColP XColQ XColR XColR2 XColN XColM XDooA XDooB XDooC XDooE XDooF XDooG XDooH XDooI XDooJ.
-/
import Derived.Test.YtpbolbpenkfpiaaDoorLisE
import Derived.KernelRfl
import Derived.Laws.BitsAllLaws
import Derived.Laws.BytesArg
import Derived.Laws.Externs
import Derived.Laws.OwnMore
import Derived.Laws.Strings3
import Derived.Laws.StructEq
import Derived.Lib.Bytealg
import Derived.Lib.ConvBytes
import Derived.Lib.Hide
import Derived.Lib.Walk
import Derived.Maps.AppendAt
import Derived.WalkKit
import Derived.WalkLawsBesides
import Derived.WalkSpells
namespace Go.Proofs.YtpbolbpenkfpiaaDoor
open Go.RowKit
set_option linter.unusedVariables false
attribute [local go_sem] vwp vUpon_value vUpon_skip vUpon_enter vUpon_row
set_option linter.unusedSimpArgs false
set_option linter.unusedVariables false
section
/-- A part laid over another one. -/
def part (up down x y : Int) : Int := (up * x + down * y + (up + down) / 2) / (up + down)
theorem part_bd (up down x y : Int) (hx : U8 x) (hy : U8 y) (h1 : 0 ≤ up) (h3 : 0 ≤ down) (h5 : 0 < up + down) : U8 (part up down x y) := by
  obtain ⟨hx0, hx1⟩ := hx; obtain ⟨hy0, hy1⟩ := hy
  unfold part U8
  have m1 : 0 ≤ up * x := Int.mul_nonneg h1 hx0
  have m2 : up * x ≤ up * 255 := Int.mul_le_mul_of_nonneg_left hx1 h1
  have m3 : 0 ≤ down * y := Int.mul_nonneg h3 hy0
  have m4 : down * y ≤ down * 255 := Int.mul_le_mul_of_nonneg_left hy1 h3
  generalize up * x = p at *; generalize down * y = q at *
  refine ⟨Int.ediv_nonneg (by omega) (by omega), ?_⟩
  have : p + q + (up + down) / 2 < 256 * (up + down) := by omega
  have := Int.ediv_lt_of_lt_mul h5 this
  omega

/-- P4.3, over numbers. -/
def ov (aA bA x y : Int) : Int := if aA = 0 then y else part (255 * aA) ((255 - aA) * bA) x y
def ovA (aA bA : Int) : Int := if aA = 0 then bA else (255 * aA + (255 - aA) * bA + 127) / 255

theorem down_bd (aA bA : Int) (h1 : U8 aA) (h2 : U8 bA) : 0 ≤ (255 - aA) * bA ∧ (255 - aA) * bA ≤ (255 - aA) * 255 ∧ 255 * aA + (255 - aA) * bA ≤ 65025 := by
  obtain ⟨a, b⟩ := h1; obtain ⟨c, d⟩ := h2
  have m1 : 0 ≤ (255 - aA) * bA := Int.mul_nonneg (by omega) c
  have m2 : (255 - aA) * bA ≤ (255 - aA) * 255 := Int.mul_le_mul_of_nonneg_left d (by omega)
  exact ⟨m1, m2, by omega⟩
theorem ov_bd (aA bA x y : Int) (h1 : U8 aA) (h2 : U8 bA) (hx : U8 x) (hy : U8 y) : U8 (ov aA bA x y) := by
  obtain ⟨m1, m2, m3⟩ := down_bd aA bA h1 h2
  unfold ov
  split
  · exact hy
  · have : 0 < aA := by have := h1.1; omega
    exact part_bd _ _ _ _ hx hy (by omega) m1 (by omega)
theorem ovA_bd (aA bA : Int) (h1 : U8 aA) (h2 : U8 bA) : U8 (ovA aA bA) := by
  obtain ⟨m1, m2, m3⟩ := down_bd aA bA h1 h2
  obtain ⟨a, b⟩ := h1
  unfold ovA
  split
  · exact h2
  · exact ⟨by omega, by omega⟩

end
section
/-- P4.4, over numbers. -/
def mixN (x y p : Int) : Int := (x * (255 - p) + y * p + 127) / 255
theorem mix_bds (x y p : Int) (hx : U8 x) (hy : U8 y) (hp : U8 p) : 0 ≤ x * (255 - p) ∧ x * (255 - p) ≤ 255 * (255 - p) ∧ 0 ≤ y * p ∧ y * p ≤ 255 * p :=
  ⟨Int.mul_nonneg hx.1 (by have := hp.2; omega), Int.mul_le_mul_of_nonneg_right hx.2 (by have := hp.2; omega), Int.mul_nonneg hy.1 hp.1, Int.mul_le_mul_of_nonneg_right hy.2 hp.1⟩
theorem mix_bd (x y p : Int) (hx : U8 x) (hy : U8 y) (hp : U8 p) : U8 (mixN x y p) := by
  obtain ⟨a, b, c, d⟩ := mix_bds x y p hx hy hp
  unfold mixN; exact ⟨by omega, by omega⟩

end
section
theorem u0 : U8 0 := ⟨by omega, by omega⟩
theorem u255 : U8 255 := ⟨by omega, by omega⟩
def lightN (r g b a : Int) : Int := (2126 * ov a 255 r 0 + 7152 * ov a 255 g 0 + 722 * ov a 255 b 0) * 20 / 51
theorem lightN_bd (r g b a : Int) (h1 : U8 r) (h2 : U8 g) (h3 : U8 b) (h4 : U8 a) : 0 ≤ lightN r g b a ∧ lightN r g b a ≤ 1000000 := by
  have := ov_bd a 255 r 0 h4 u255 h1 u0
  have := ov_bd a 255 g 0 h4 u255 h2 u0
  have := ov_bd a 255 b 0 h4 u255 h3 u0
  unfold U8 at *
  unfold lightN; omega

/-- P4.6, over the two lights. -/
def clearB (l m : Int) : Bool := decide (9 * (min l m + 50000) ≤ 2 * (max l m + 50000))
theorem clearB_ge (l m : Int) (h : m ≤ l) : clearB l m = decide (45 * (m + 50000) ≤ 10 * (l + 50000)) := by
  unfold clearB; rw [Int.min_eq_right h, Int.max_eq_left h]; congr 1; exact propext ⟨fun _ => by omega, fun _ => by omega⟩
theorem clearB_le (l m : Int) (h : l ≤ m) : clearB l m = decide (45 * (l + 50000) ≤ 10 * (m + 50000)) := by
  unfold clearB; rw [Int.min_eq_left h, Int.max_eq_right h]; congr 1; exact propext ⟨fun _ => by omega, fun _ => by omega⟩
def clearC (ar ag ab aA br bg bb bA : Int) : Bool :=
  clearB (lightN (ov aA (ovA bA 255) ar (ov bA 255 br 0)) (ov aA (ovA bA 255) ag (ov bA 255 bg 0)) (ov aA (ovA bA 255) ab (ov bA 255 bb 0)) (ovA aA (ovA bA 255))) (lightN (ov bA 255 br 0) (ov bA 255 bg 0) (ov bA 255 bb 0) (ovA bA 255))

end
section
/-- A sixteen's worth. -/
def dg (b : Int) : Int := if 48 ≤ b ∧ b ≤ 57 then b - 48 else if 97 ≤ b ∧ b ≤ 102 then b - 87 else if 65 ≤ b ∧ b ≤ 70 then b - 55 else -1
theorem dg_bd (b : Int) : -1 ≤ dg b ∧ dg b ≤ 15 := by unfold dg; split <;> (try split) <;> (try split) <;> omega

/-- The k-th byte; 0 behind the end. -/
def byt (s : ByteArray) (k : Nat) : Int := if h : k < s.size then ((s[k]).toNat : Int) else 0
theorem byt_eq {s : ByteArray} {k : Nat} (h : k < s.size) : byt s k = ((s[k]).toNat : Int) := dif_pos h
theorem byt_bd (s : ByteArray) (k : Nat) : U8 (byt s k) := by
  unfold byt U8
  split
  · have := (s[k]).toNat_lt; omega
  · omega
def okAt (s : ByteArray) (k : Nat) : Prop := if k = 0 then byt s 0 = 35 else 0 ≤ dg (byt s k)
/-- So many bytes are a beginning. -/
structure Cnt (s : ByteArray) (k : Nat) : Prop where
  le : k ≤ s.size
  nine : k ≤ 9
  ok : ∀ j, j < k → okAt s j
  stop : ¬ (k < s.size ∧ k < 9 ∧ okAt s k)
theorem Cnt.exists_ (s : ByteArray) : ∃ k, Cnt s k := by
  have : ∀ f k : Nat, 9 - k = f → k ≤ s.size → k ≤ 9 → (∀ j, j < k → okAt s j) → ∃ k, Cnt s k := by
    intro f
    induction f with
    | zero => intro k hf h1 h2 h3; exact ⟨k, h1, h2, h3, fun ⟨_, h, _⟩ => by omega⟩
    | succ f ih =>
      intro k hf h1 h2 h3
      by_cases h : k < s.size ∧ k < 9 ∧ okAt s k
      · exact ih (k + 1) (by omega) (by omega) (by omega) (fun j hj => by
          rcases Nat.lt_or_ge j k with h' | h'
          · exact h3 j h'
          · obtain rfl : j = k := by omega
            exact h.2.2)
      · exact ⟨k, h1, h2, h3, h⟩
  exact this 9 0 rfl (Nat.zero_le _) (by omega) (fun j hj => by omega)
def dl (s : ByteArray) (k j : Nat) : List Int := if k = 4 then [dg (byt s (j + 1)), dg (byt s (j + 1))] else [dg (byt s (j + 1))]
def digs (s : ByteArray) (k m : Nat) : List Int := (List.range m).flatMap (dl s k)
theorem digs_succ (s : ByteArray) (k m : Nat) : digs s k (m + 1) = digs s k m ++ dl s k m := by
  unfold digs; rw [List.range_succ, List.flatMap_append]; simp
theorem digs_len (s : ByteArray) (k m : Nat) : (digs s k m).length ≤ 2 * m := by
  induction m with
  | zero => simp [digs]
  | succ m ih => rw [digs_succ, List.length_append]; unfold dl; split <;> simp <;> omega
/-- The eight sixteens. -/
def fin (s : ByteArray) (k : Nat) : List Int := digs s k (k - 1) ++ (if k < 9 then [15, 15] else [])
def pr (s : ByteArray) (k j : Nat) : Int := 16 * (fin s k).getD (2 * j) 0 + (fin s k).getD (2 * j + 1) 0
def Six (x : Int) : Prop := 0 ≤ x ∧ x ≤ 15
theorem six_dg {s : ByteArray} {k j : Nat} (hC : Cnt s k) (h0 : 0 < j) (h : j < k) : Six (dg (byt s j)) := by
  have := hC.ok j h
  unfold okAt at this
  rw [if_neg (by omega)] at this
  exact ⟨this, (dg_bd _).2⟩
theorem fin_eight {s : ByteArray} {k : Nat} (hC : Cnt s k) (hk : k = 4 ∨ k = 7 ∨ k = 9) :
    ∃ a b c d e f g h : Int, fin s k = [a, b, c, d, e, f, g, h] ∧ Six a ∧ Six b ∧ Six c ∧ Six d ∧ Six e ∧ Six f ∧ Six g ∧ Six h := by
  have s15 : Six 15 := ⟨by omega, by omega⟩
  rcases hk with rfl | rfl | rfl
  · have h1 := six_dg hC (j := 1) (by omega) (by omega)
    have h2 := six_dg hC (j := 2) (by omega) (by omega)
    have h3 := six_dg hC (j := 3) (by omega) (by omega)
    exact ⟨_, _, _, _, _, _, _, _, rfl, h1, h1, h2, h2, h3, h3, s15, s15⟩
  · have h1 := six_dg hC (j := 1) (by omega) (by omega)
    have h2 := six_dg hC (j := 2) (by omega) (by omega)
    have h3 := six_dg hC (j := 3) (by omega) (by omega)
    have h4 := six_dg hC (j := 4) (by omega) (by omega)
    have h5 := six_dg hC (j := 5) (by omega) (by omega)
    have h6 := six_dg hC (j := 6) (by omega) (by omega)
    exact ⟨_, _, _, _, _, _, _, _, rfl, h1, h2, h3, h4, h5, h6, s15, s15⟩
  · have h1 := six_dg hC (j := 1) (by omega) (by omega)
    have h2 := six_dg hC (j := 2) (by omega) (by omega)
    have h3 := six_dg hC (j := 3) (by omega) (by omega)
    have h4 := six_dg hC (j := 4) (by omega) (by omega)
    have h5 := six_dg hC (j := 5) (by omega) (by omega)
    have h6 := six_dg hC (j := 6) (by omega) (by omega)
    have h7 := six_dg hC (j := 7) (by omega) (by omega)
    have h8 := six_dg hC (j := 8) (by omega) (by omega)
    exact ⟨_, _, _, _, _, _, _, _, rfl, h1, h2, h3, h4, h5, h6, h7, h8⟩

theorem info_int : (Tryd.prog.info? 3).map (fun i => (i.zero, i.size, i.bytes)) = some (some (.int .i64 0), 1, 8) := by kernel_rfl

end
section
theorem sixteen (n : Nat) (h : n < 16) : n = 0 ∨ n = 1 ∨ n = 2 ∨ n = 3 ∨ n = 4 ∨ n = 5 ∨ n = 6 ∨ n = 7 ∨ n = 8 ∨ n = 9 ∨ n = 10 ∨ n = 11 ∨ n = 12 ∨ n = 13 ∨ n = 14 ∨ n = 15 := by omega
theorem sixteenI (n : Int) (h0 : 0 ≤ n) (h : n < 16) : n = 0 ∨ n = 1 ∨ n = 2 ∨ n = 3 ∨ n = 4 ∨ n = 5 ∨ n = 6 ∨ n = 7 ∨ n = 8 ∨ n = 9 ∨ n = 10 ∨ n = 11 ∨ n = 12 ∨ n = 13 ∨ n = 14 ∨ n = 15 := by omega

/-- A level of the cube. -/
def levelN (n : Int) : Int := if n = 0 then 0 else 55 + 40 * n
def namedS : Nat → ByteArray
  | 0 => ⟨#[35, 48, 48, 48]⟩
  | 1 => ⟨#[35, 56, 48, 48, 48, 48, 48]⟩
  | 2 => ⟨#[35, 48, 48, 56, 48, 48, 48]⟩
  | 3 => ⟨#[35, 56, 48, 56, 48, 48, 48]⟩
  | 4 => ⟨#[35, 48, 48, 48, 48, 56, 48]⟩
  | 5 => ⟨#[35, 56, 48, 48, 48, 56, 48]⟩
  | 6 => ⟨#[35, 48, 48, 56, 48, 56, 48]⟩
  | 7 => ⟨#[35, 99, 48, 99, 48, 99, 48]⟩
  | 8 => ⟨#[35, 56, 48, 56, 48, 56, 48]⟩
  | 9 => ⟨#[35, 102, 48, 48]⟩
  | 10 => ⟨#[35, 48, 102, 48]⟩
  | 11 => ⟨#[35, 102, 102, 48]⟩
  | 12 => ⟨#[35, 48, 48, 102]⟩
  | 13 => ⟨#[35, 102, 48, 102]⟩
  | 14 => ⟨#[35, 48, 102, 102]⟩
  | _ => ⟨#[35, 102, 102, 102]⟩
def bkV (k : Int) : Int := if 8 < k then 255 else 128
def bkR (k : Int) : Int := if k = 7 then 192 else if k = 8 then 128 else if k < 16 then bkV k * (k % 2) else if 232 ≤ k then 8 + 10 * (k - 232) else levelN ((k - 16) / 36)
def bkG (k : Int) : Int := if k = 7 then 192 else if k = 8 then 128 else if k < 16 then bkV k * (k / 2 % 2) else if 232 ≤ k then 8 + 10 * (k - 232) else levelN ((k - 16) / 6 % 6)
def bkB (k : Int) : Int := if k = 7 then 192 else if k = 8 then 128 else if k < 16 then bkV k * (k / 4 % 2) else if 232 ≤ k then 8 + 10 * (k - 232) else levelN ((k - 16) % 6)
theorem levelN_bd (n : Int) (h0 : 0 ≤ n) (h5 : n ≤ 5) : U8 (levelN n) := by unfold levelN U8; split <;> omega
theorem bk_gray (k : Int) (h : 232 ≤ k) : bkR k = 8 + 10 * (k - 232) ∧ bkG k = 8 + 10 * (k - 232) ∧ bkB k = 8 + 10 * (k - 232) := by
  unfold bkR bkG bkB
  refine ⟨?_, ?_, ?_⟩ <;> rw [if_neg (by omega), if_neg (by omega), if_neg (by omega), if_pos h]
theorem bk_cube (k : Int) (h : 16 ≤ k) (h' : k < 232) : bkR k = levelN ((k - 16) / 36) ∧ bkG k = levelN ((k - 16) / 6 % 6) ∧ bkB k = levelN ((k - 16) % 6) := by
  unfold bkR bkG bkB
  refine ⟨?_, ?_, ?_⟩ <;> rw [if_neg (by omega), if_neg (by omega), if_neg (by omega), if_neg (by omega)]
theorem bk_bd (k : Int) (h : U8 k) : U8 (bkR k) ∧ U8 (bkG k) ∧ U8 (bkB k) := by
  obtain ⟨h0, h1⟩ := h
  by_cases c : k < 16
  · rcases sixteenI k h0 c with rfl | rfl | rfl | rfl | rfl | rfl | rfl | rfl | rfl | rfl | rfl | rfl | rfl | rfl | rfl | rfl <;> (unfold U8; decide)
  · by_cases d : 232 ≤ k
    · obtain ⟨a, b, e⟩ := bk_gray k d
      rw [a, b, e]; unfold U8; omega
    · obtain ⟨a, b, e⟩ := bk_cube k (by omega) (by omega)
      rw [a, b, e]
      exact ⟨levelN_bd _ (by omega) (by omega), levelN_bd _ (by omega) (by omega), levelN_bd _ (by omega) (by omega)⟩

theorem cnt_of (s : ByteArray) (k : Nat) (hk : k = s.size) (h9 : k ≤ 9) (h : (List.range k).all (fun j => if j = 0 then byt s 0 == 35 else decide (0 ≤ dg (byt s j))) = true) : Cnt s k := by
  refine ⟨by omega, h9, fun j hj => ?_, fun ⟨h1, _⟩ => by omega⟩
  have := List.all_eq_true.1 h j (List.mem_range.2 hj)
  unfold okAt
  by_cases h0 : j = 0
  · rw [if_pos h0] at this ⊢; simpa using this
  · rw [if_neg h0] at this ⊢; simpa using this
/-- What the sixteen names read as. -/
theorem named_read (n : Nat) (h : n < 16) : Cnt (namedS n) (namedS n).size ∧ ((namedS n).size = 4 ∨ (namedS n).size = 7 ∨ (namedS n).size = 9) ∧
    pr (namedS n) (namedS n).size 0 = bkR n ∧ pr (namedS n) (namedS n).size 1 = bkG n ∧ pr (namedS n) (namedS n).size 2 = bkB n ∧ pr (namedS n) (namedS n).size 3 = 255 := by
  rcases sixteen n h with rfl | rfl | rfl | rfl | rfl | rfl | rfl | rfl | rfl | rfl | rfl | rfl | rfl | rfl | rfl | rfl
  all_goals exact ⟨cnt_of _ _ rfl (by decide) (by decide +kernel), by decide, by decide +kernel, by decide +kernel, by decide +kernel, by decide +kernel⟩

end
section
end
section
theorem named_small (n : Nat) (h : n < 16) : (namedS n).size ≤ 9 := by
  obtain ⟨hC, _⟩ := named_read n h
  exact hC.nine
def sq (x y : Int) : Int := (x - y) * (x - y)
theorem sq_bd (x y : Int) (hx : U8 x) (hy : U8 y) : 0 ≤ sq x y ∧ sq x y ≤ 65025 := by
  unfold U8 at hx hy
  unfold sq
  obtain ⟨d, hd⟩ : ∃ d, x - y = d := ⟨_, rfl⟩
  rw [hd]
  rcases Int.le_total 0 d with h | h
  · exact ⟨Int.mul_nonneg h h, by have := Int.mul_le_mul (show d ≤ 255 by omega) (show d ≤ 255 by omega) h (by omega); simpa using this⟩
  · have e : d * d = (-d) * (-d) := by rw [Int.neg_mul_neg]
    rw [e]
    have h' : 0 ≤ -d := by omega
    exact ⟨Int.mul_nonneg h' h', by have := Int.mul_le_mul (show -d ≤ 255 by omega) (show -d ≤ 255 by omega) h' (by omega); simpa using this⟩
def farN (ar ag ab br bg bb : Int) : Int := 2 * sq ar br + 4 * sq ag bg + 3 * sq ab bb
theorem farN_bd (ar ag ab br bg bb : Int) (h1 : U8 ar) (h2 : U8 ag) (h3 : U8 ab) (h5 : U8 br) (h6 : U8 bg) (h7 : U8 bb) : 0 ≤ farN ar ag ab br bg bb ∧ farN ar ag ab br bg bb ≤ 585225 := by
  have := sq_bd ar br h1 h5; have := sq_bd ag bg h2 h6; have := sq_bd ab bb h3 h7
  unfold farN; omega
end
section
/-- The number of the nearest of the first k. -/
def bestN (d : Nat → Int) : Nat → Nat
  | 0 => 0
  | k + 1 => if d k < d (bestN d k) then k else bestN d k
theorem bestN_le (d : Nat → Int) : ∀ k, bestN d k ≤ k
  | 0 => Nat.le_refl _
  | k + 1 => by
    have := bestN_le d k
    unfold bestN; split <;> omega
theorem bestN_lt (d : Nat → Int) : ∀ k, 0 < k → bestN d k < k
  | 0, h => by omega
  | k + 1, _ => by
    have := bestN_le d k
    unfold bestN; split <;> omega
def leastV (d : Nat → Int) (k : Nat) : Int := if k = 0 then 1073741824 else d (bestN d k)
def dist (r g b : Int) (k : Nat) : Int := farN r g b (bkR k) (bkG k) (bkB k)
theorem near_step (d : Nat → Int) (k : Nat) (h0 : 0 ≤ d k) (h1 : d k ≤ 585225) :
    (d k < leastV d k → bestN d (k + 1) = k ∧ leastV d (k + 1) = d k) ∧ (¬ d k < leastV d k → bestN d (k + 1) = bestN d k ∧ leastV d (k + 1) = leastV d k) := by
  unfold leastV
  by_cases hk : k = 0
  · subst hk
    simp only [if_true, bestN]
    refine ⟨fun _ => ⟨by simp, by simp⟩, fun h => by omega⟩
  · rw [if_neg hk, if_neg (show k + 1 ≠ 0 by omega)]
    refine ⟨fun h => ?_, fun h => ?_⟩
    · have : bestN d (k + 1) = k := by unfold bestN; rw [if_pos h]
      exact ⟨this, by rw [this]⟩
    · have : bestN d (k + 1) = bestN d k := by
        conv => lhs; unfold bestN
        rw [if_neg h]
      exact ⟨this, by rw [this]⟩
theorem dist_bd (r g b : Int) (k : Nat) (h1 : U8 r) (h2 : U8 g) (h3 : U8 b) (hk : k < 256) : 0 ≤ dist r g b k ∧ dist r g b k ≤ 585225 := by
  obtain ⟨b1, b2, b3⟩ := bk_bd (k : Int) ⟨by omega, by omega⟩
  exact farN_bd r g b _ _ _ h1 h2 h3 b1 b2 b3
theorem leastV_bd (r g b : Int) (k : Nat) (h1 : U8 r) (h2 : U8 g) (h3 : U8 b) (hk : k ≤ 256) : 0 ≤ leastV (dist r g b) k ∧ leastV (dist r g b) k ≤ 1073741824 := by
  unfold leastV
  by_cases h : k = 0
  · rw [if_pos h]; omega
  · rw [if_neg h]
    have := bestN_lt (dist r g b) k (by omega)
    have := dist_bd r g b (bestN (dist r g b) k) h1 h2 h3 (by omega)
    omega

end
section
/-- P4.5's number, of so many. -/
def numN (r g b a : Int) (n : Nat) : Int := (bestN (dist (ov a 255 r 0) (ov a 255 g 0) (ov a 255 b 0)) n : Nat)
theorem numN_bd (r g b a : Int) (n : Nat) (h : 0 < n) : 0 ≤ numN r g b a n ∧ numN r g b a n < n := by
  have := bestN_lt (dist (ov a 255 r 0) (ov a 255 g 0) (ov a 255 b 0)) n h
  unfold numN; omega
end
section
set_option linter.unusedSimpArgs false
set_option linter.unusedVariables false
theorem slix_any (s : ByteArray) (c : Int) (w : World) : Calls Tryd.prog 37 #[.string s, .int .u8 c] w fun e w' => e = .returned (.int .i64 (Lib.indexByte s.data.toList c.toNat.toUInt8)) ∧ w = w' := by
  go_enter Tryd.func37, Tryd.ntmps37
  go_wp2
  rw [run_callFunc_extern Tryd.func45 (by kernel_rfl) (by kernel_rfl) (by kernel_rfl) (e := Extern.BytealgIndexByte.indexByte) (by kernel_rfl), Lib.run_indexByteString]
  simp only [Result.andThen]
  rw [Oper.upon_value]
  go_wp2
  go_ret
  exact ⟨rfl, rfl⟩
theorem sixb_any (s : ByteArray) (c : Int) (w : World) : Calls Tryd.prog 24 #[.string s, .int .u8 c] w fun e w' => e = .returned (.int .i64 (Lib.indexByte s.data.toList c.toNat.toUInt8)) ∧ w = w' := by
  go_enter Tryd.func24, Tryd.ntmps24
  go_wp2_with (first
    | (go_at_call 37; (with_reducible refine (slix_any _ _ _).mono ?_); rintro e w1 ⟨rfl, rfl⟩)
    | go_in)
  go_ret
  exact ⟨rfl, rfl⟩
def hpB (s : ByteArray) : Bool := decide (0 < s.size ∧ byt s 0 = 35)
theorem hp_none {s : ByteArray} (h : ¬ 1 ≤ s.size) : hpB s = false := by
  unfold hpB; simp; omega
theorem hp_some {s : ByteArray} (h : 1 ≤ s.size) : ((s.extract 0 1).toList == [35]) = hpB s := by
  obtain ⟨⟨l⟩⟩ := s
  cases l with
  | nil => exact absurd h (by decide)
  | cons x t =>
    have e0 : ((⟨⟨x :: t⟩⟩ : ByteArray).extract 0 1).toList = [x] := by
      rw [ByteArray.toList_eq, Lib.extract_data]; rfl
    have e1 : byt (⟨⟨x :: t⟩⟩ : ByteArray) 0 = (x.toNat : Int) := by
      rw [byt_eq (show 0 < (⟨⟨x :: t⟩⟩ : ByteArray).size from h)]; rfl
    have e2 : 0 < (⟨⟨x :: t⟩⟩ : ByteArray).size := h
    unfold hpB
    rw [e0, e1]
    by_cases hx : x = 35
    · subst hx
      simp [e2]
    · have h3 : ¬ ((x.toNat : Int) = 35) := fun h => hx (by
        have h4 : x.toNat = 35 := by omega
        exact UInt8.toNat_inj.1 h4)
      simp [hx, h3]
def digS : ByteArray := ⟨#[48, 49, 50, 51, 52, 53, 54, 55, 56, 57, 97, 98, 99, 100, 101, 102, 65, 66, 67, 68, 69, 70]⟩
def ixD (b : Int) : Int := Lib.indexByte digS.data.toList b.toNat.toUInt8
theorem ixD_iff (b : Int) (h : U8 b) : (0 ≤ ixD b) ↔ (0 ≤ dg b) := by
  have key : ∀ n : Nat, n < 256 → decide (0 ≤ ixD (n : Int)) = decide (0 ≤ dg (n : Int)) := by
    have : (List.range 256).all (fun n => decide (0 ≤ ixD (n : Int)) == decide (0 ≤ dg (n : Int))) = true := by decide +kernel
    intro n hn
    simpa using List.all_eq_true.1 this n (List.mem_range.2 hn)
  obtain ⟨n, rfl⟩ := Int.eq_ofNat_of_zero_le h.1
  have := key n (by have := h.2; omega)
  simpa using this
theorem ixD_bd (b : Int) (h : U8 b) : -1 ≤ ixD b ∧ ixD b ≤ 21 := by
  have key : ∀ n : Nat, n < 256 → decide (-1 ≤ ixD (n : Int) ∧ ixD (n : Int) ≤ 21) = true := by
    have : (List.range 256).all (fun n => decide (-1 ≤ ixD (n : Int) ∧ ixD (n : Int) ≤ 21)) = true := by decide +kernel
    intro n hn
    exact List.all_eq_true.1 this n (List.mem_range.2 hn)
  obtain ⟨n, rfl⟩ := Int.eq_ofNat_of_zero_le h.1
  exact of_decide_eq_true (key n (by have := h.2; omega))
end
section
set_option linter.unusedSimpArgs false
set_option linter.unusedVariables false
def valN (t : ByteArray) : Nat → Int
  | 0 => 0
  | k + 1 => 16 * valN t k + dg (byt t k)
theorem valN_bd {t : ByteArray} (h : ∀ j, j < t.size → 0 ≤ dg (byt t j)) : ∀ k, k ≤ t.size → 0 ≤ valN t k ∧ valN t k < 16 ^ k := by
  intro k
  induction k with
  | zero => intro _; simp [valN]
  | succ k ih =>
    intro hk
    have a := ih (by omega)
    have b := h k (by omega)
    have c := (dg_bd (byt t k)).2
    simp only [valN]
    rw [Int.pow_succ]
    omega
theorem byt_getD {t : ByteArray} {j : Nat} (h : j < t.size) : byt t j = ((t.data.toList.getD j 0).toNat : Int) := by
  rw [byt_eq h]
  have h' : j < t.data.toList.length := by simpa using h
  rw [List.getD, List.getElem?_eq_getElem h']
  rfl
theorem low_up (b : Int) (h : 65 ≤ b ∧ b ≤ 70) : bits .or .u8 b 32 = b + 32 := by
  have : b = 65 ∨ b = 66 ∨ b = 67 ∨ b = 68 ∨ b = 69 ∨ b = 70 := by omega
  rcases this with rfl | rfl | rfl | rfl | rfl | rfl <;> decide
theorem low_lo (b : Int) (h : 97 ≤ b ∧ b ≤ 102) : bits .or .u8 b 32 = b := by
  have : b = 97 ∨ b = 98 ∨ b = 99 ∨ b = 100 ∨ b = 101 ∨ b = 102 := by omega
  rcases this with rfl | rfl | rfl | rfl | rfl | rfl <;> decide
theorem dg_cases {b : Int} (h : 0 ≤ dg b) : (48 ≤ b ∧ b ≤ 57 ∧ dg b = b - 48) ∨ (97 ≤ b ∧ b ≤ 102 ∧ dg b = b - 97 + 10) ∨ (65 ≤ b ∧ b ≤ 70 ∧ dg b = b - 65 + 10) := by
  unfold dg at h ⊢
  split at h <;> rename_i h1
  · rw [if_pos h1]; omega
  · rw [if_neg h1]
    split at h <;> rename_i h2
    · rw [if_pos h2]; omega
    · rw [if_neg h2]
      split at h <;> rename_i h3
      · rw [if_pos h3]; omega
      · omega
end
section
set_option linter.unusedSimpArgs false
set_option linter.unusedVariables false
def tl (s : ByteArray) : ByteArray := s.extract 1 s.size
theorem tl_size (s : ByteArray) : (tl s).size = s.size - 1 := by simp [tl]
theorem tl_byt {s : ByteArray} {j : Nat} (h : j + 1 < s.size) : byt (tl s) j = byt s (j + 1) := by
  have h2 : j < (tl s).size := by rw [tl_size]; omega
  rw [byt_getD h2, byt_getD h]
  unfold tl
  rw [Lib.extract_data, List.getD, List.getElem?_take, if_pos (by omega), List.getElem?_drop, List.getD, Nat.add_comm]
theorem hp_zero {s : ByteArray} {k : Nat} (hC : Cnt s k) (hb : hpB s = false) : k = 0 := by
  rcases Nat.eq_zero_or_pos k with h | h
  · exact h
  · have a := hC.ok 0 h
    have b := hC.le
    unfold okAt at a
    rw [if_pos rfl] at a
    unfold hpB at hb
    simp at hb
    omega
theorem hp_pos {s : ByteArray} {k : Nat} (hC : Cnt s k) (hb : hpB s = true) : 1 ≤ k := by
  unfold hpB at hb
  simp at hb
  rcases Nat.eq_zero_or_pos k with h | h
  · subst h
    exact absurd ⟨hb.1, by omega, by unfold okAt; rw [if_pos rfl]; exact hb.2⟩ hC.stop
  · exact h
theorem six_at (b : Int) (w : World) : Calls Tryd.prog 24 #[.string ⟨#[48, 49, 50, 51, 52, 53, 54, 55, 56, 57, 97, 98, 99, 100, 101, 102, 65, 66, 67, 68, 69, 70]⟩, .int .u8 b] w fun e w' => e = .returned (.int .i64 (ixD b)) ∧ w = w' := sixb_any digS b w
theorem and15 (x : Int) (h0 : 0 ≤ x) (h1 : x < 18446744073709551616) : bits .and .u64 x 15 = x % 16 := by
  rw [u64_and x 15 h0 h1 (by omega) (by omega)]
  have : x.toNat &&& (15 : Int).toNat = x.toNat % 16 := Nat.and_two_pow_sub_one_eq_mod x.toNat 4
  rw [this]
  omega
theorem or255 (x : Int) (h0 : 0 ≤ x) (h1 : x < 16777216) : bits .or .u64 (x * 256) 255 = x * 256 + 255 := by
  rw [u64_or (x * 256) 255 (by omega) (by omega) (by omega) (by omega)]
  obtain ⟨n, rfl⟩ := Int.eq_ofNat_of_zero_le h0
  have : (((n : Int) * 256).toNat ||| (255 : Int).toNat) = n * 256 + 255 := by
    have e := Nat.two_pow_add_eq_or_of_lt (i := 8) (b := 255) (by decide) n
    rw [show ((n : Int) * 256).toNat = 2 ^ 8 * n by omega, show (255 : Int).toNat = 255 from rfl, ← e]
    omega
  rw [this]
  omega
end
section
set_option linter.unusedSimpArgs false
set_option linter.unusedVariables false
theorem eq4_refl (a b c d : Int) : eq4 a b c d a b c d = true := by simp [eq4]
theorem eql_colour (w : World) (a b c e a' b' c' e' : Int) : (binOp .eql 30 (.agg #[.int .u8 (a), .int .u8 (b), .int .u8 (c), .int .u8 (e)]) (.agg #[.int .u8 (a'), .int .u8 (b'), .int .u8 (c'), .int .u8 (e')])).run Tryd.prog w = .ok (.bool (eq4 a b c e a' b' c' e')) w := by
  rw [run_eql_struct, eq_colour 9998]
  rfl
theorem neq_colour (w : World) (a b c e a' b' c' e' : Int) : (binOp .neq 30 (.agg #[.int .u8 (a), .int .u8 (b), .int .u8 (c), .int .u8 (e)]) (.agg #[.int .u8 (a'), .int .u8 (b'), .int .u8 (c'), .int .u8 (e')])).run Tryd.prog w = .ok (.bool (!eq4 a b c e a' b' c' e')) w := by
  rw [run_neq_struct, eq_colour 9998]
  rfl
attribute [local go_sem high] eql_colour neq_colour
def oneS : ByteArray := ⟨#[35, 49, 97, 70]⟩
theorem b8 {x : Int} (h : 0 ≤ x ∧ x ≤ 255) : U8 x := h
end
section
set_option linter.unusedSimpArgs false
set_option linter.unusedVariables false
def allS : ByteArray := ⟨#[48, 49, 50, 51, 52, 53, 54, 55, 56, 57, 97, 98, 99, 100, 101, 102]⟩
def hxU (n : Nat) : UInt8 := [48, 49, 50, 51, 52, 53, 54, 55, 56, 57, 97, 98, 99, 100, 101, 102].getD n 0
theorem ex_one (q : Nat) (h : q < 16) : (⟨#[48, 49, 50, 51, 52, 53, 54, 55, 56, 57, 97, 98, 99, 100, 101, 102]⟩ : ByteArray).extract q (q + 1) = ⟨#[hxU q]⟩ := by
  rcases sixteen q h with rfl | rfl | rfl | rfl | rfl | rfl | rfl | rfl | rfl | rfl | rfl | rfl | rfl | rfl | rfl | rfl <;> decide
def tw (q m : Nat) : ByteArray := ⟨#[hxU q, hxU m]⟩
set_option maxHeartbeats 1000000 in
theorem two_any (b : Int) (q m : Nat) (w : World) (hb : b = 16 * q + m) (hq : q < 16) (hm : m < 16) : Calls Tryd.prog 44 #[.int .u8 b] w fun e w' => e = .returned (.string (tw q m)) ∧ Below w.heap.size w w' := by
  have e0 : b / 16 = (q : Int) := by omega
  have e1 : b % 16 = (m : Int) := by omega
  have b0 : 0 ≤ b := by omega
  have b1 : b ≤ 255 := by omega
  have i0 : (q : Int) + 1 ≤ 16 := by omega
  have i1 : (m : Int) + 1 ≤ 16 := by omega
  have i2 : (q : Int) ≤ q + 1 := by omega
  have i3 : (m : Int) ≤ m + 1 := by omega
  have x0 := ex_one q hq
  have x1 := ex_one m hm
  clear hb
  go_enter Tryd.func44, Tryd.ntmps44
  go_wp2
  refine wp_region_steady (Held w 0 []) (by kernel_rfl) (by kernel_rfl) ⟨(by repeat (first | exact Below.refl _ _ | assumption | refine Below.drew ?_ | refine Below.alloc ?_ (by (try simp) <;> omega) _ | refine Below.setCell ?_ (by (try simp) <;> omega) _ | (refine Below.trans ?_ (Below.mono (by assumption) (by (try simp) <;> omega))))), (by (try simp) <;> omega), (by first | exact trivial | (simp only [Cells]; go_simp))⟩ ?_
  repeat (first | (refine' wpSteady_do _ _ _; rotate_left; (focus rfl); (focus (intro w1 hS R hR; have hc := hS.cells; simp only [Cells] at hc; obtain ⟨hco, hfo⟩ := bcell hS.old; go_simp; (try go_bits); first | exact hR _ hS | fail)); simp only [Act.put, List.setIfInBounds_toArray, List.set_cons_zero, List.set_cons_succ]) | (refine wpSteady_pass ?_ ?_; (focus rfl); simp only [Act.put, List.setIfInBounds_toArray, List.set_cons_zero, List.set_cons_succ]))
  refine wpSteady_nil (fun uA hSA => ?_)
  have hcA := hSA.cells; have hbA := hSA.old; have hzA := hSA.size; clear hSA; simp only [Cells] at hcA; obtain ⟨hcoA, hfoA⟩ := bcell hbA
  go_wp2
  go_ret
  exact ⟨rfl, hbA⟩
end
section
set_option linter.unusedSimpArgs false
set_option linter.unusedVariables false
structure Nib where
  r1 : Nat
  r2 : Nat
  g1 : Nat
  g2 : Nat
  b1 : Nat
  b2 : Nat
  a1 : Nat
  a2 : Nat
structure Nib.Of (x : Nib) (r g b a : Int) : Prop where
  r : r = 16 * x.r1 + x.r2 ∧ x.r1 < 16 ∧ x.r2 < 16
  g : g = 16 * x.g1 + x.g2 ∧ x.g1 < 16 ∧ x.g2 < 16
  b : b = 16 * x.b1 + x.b2 ∧ x.b1 < 16 ∧ x.b2 < 16
  a : a = 16 * x.a1 + x.a2 ∧ x.a1 < 16 ∧ x.a2 < 16
theorem nib1 (n : Int) (h : U8 n) : n = 16 * ((n / 16).toNat : Int) + ((n % 16).toNat : Int) ∧ (n / 16).toNat < 16 ∧ (n % 16).toNat < 16 := by
  obtain ⟨h0, h1⟩ := h; omega
theorem nib_of (r g b a : Int) (h1 : U8 r) (h2 : U8 g) (h3 : U8 b) (h4 : U8 a) : ∃ x : Nib, x.Of r g b a :=
  ⟨⟨_, _, _, _, _, _, _, _⟩, ⟨nib1 r h1, nib1 g h2, nib1 b h3, nib1 a h4⟩⟩
def Nib.short (x : Nib) : Bool := decide (x.r1 = x.r2 ∧ x.g1 = x.g2 ∧ x.b1 = x.b2)
def Nib.full (x : Nib) : Bool := decide (x.a1 = 15 ∧ x.a2 = 15)
def Nib.tx (x : Nib) : ByteArray :=
  if x.full then (if x.short then ⟨#[35, hxU x.r1, hxU x.g1, hxU x.b1]⟩ else ⟨#[35, hxU x.r1, hxU x.r2, hxU x.g1, hxU x.g2, hxU x.b1, hxU x.b2]⟩)
  else ⟨#[35, hxU x.r1, hxU x.r2, hxU x.g1, hxU x.g2, hxU x.b1, hxU x.b2, hxU x.a1, hxU x.a2]⟩
theorem hx_inj (q m : Nat) (hq : q < 16) (hm : m < 16) : (((hxU q).toNat : Int) == ((hxU m).toNat : Int)) = decide (q = m) := by
  have key : (List.range 16).all (fun q => (List.range 16).all fun m => (((hxU q).toNat : Int) == ((hxU m).toNat : Int)) == decide (q = m)) = true := by decide +kernel
  have := List.all_eq_true.1 (List.all_eq_true.1 key q (List.mem_range.2 hq)) m (List.mem_range.2 hm)
  simpa using this
theorem tw_ix0 (q m : Nat) (w : World) : (Instr.index 9 (.string (tw q m)) (.int .i64 0)).run Tryd.prog w = .ok (.int .u8 ((hxU q).toNat : Int)) w := by
  have A := Tryd.underlying9
  have h : (tw q m)[0]? = some (hxU q) := rfl
  simp [Instr.index, asIntOf, run_underlying A, h]
theorem tw_ix1 (q m : Nat) (w : World) : (Instr.index 9 (.string (tw q m)) (.int .i64 1)).run Tryd.prog w = .ok (.int .u8 ((hxU m).toNat : Int)) w := by
  have A := Tryd.underlying9
  have h : (tw q m)[1]? = some (hxU m) := rfl
  simp [Instr.index, asIntOf, run_underlying A, h]
set_option maxHeartbeats 1000000 in
theorem rtext_any (r g b a : Int) (x : Nib) (w : World) (h : x.Of r g b a) : Calls Tryd.prog 35 #[.agg #[.int .u8 (r), .int .u8 (g), .int .u8 (b), .int .u8 (a)]] w fun e w' => e = .returned (.string x.tx) ∧ Below w.heap.size w w' := by
  obtain ⟨⟨er, hr1, hr2⟩, ⟨eg, hg1, hg2⟩, ⟨eb, hb1, hb2⟩, ⟨ea, ha1, ha2⟩⟩ := h
  have T1 := fun w => two_any r x.r1 x.r2 w er hr1 hr2
  have T2 := fun w => two_any g x.g1 x.g2 w eg hg1 hg2
  have T3 := fun w => two_any b x.b1 x.b2 w eb hb1 hb2
  have T4 := fun w => two_any a x.a1 x.a2 w ea ha1 ha2
  have J0 := fun w => tw_ix0 x.r1 x.r2 w
  have J1 := fun w => tw_ix1 x.r1 x.r2 w
  have J2 := fun w => tw_ix0 x.g1 x.g2 w
  have J3 := fun w => tw_ix1 x.g1 x.g2 w
  have J4 := fun w => tw_ix0 x.b1 x.b2 w
  have J5 := fun w => tw_ix1 x.b1 x.b2 w
  have Q0 := hx_inj x.r1 x.r2 hr1 hr2
  have Q1 := hx_inj x.g1 x.g2 hg1 hg2
  have Q2 := hx_inj x.b1 x.b2 hb1 hb2
  have S0 : (tw x.r1 x.r2).size = 2 := rfl
  have S1 : (tw x.g1 x.g2).size = 2 := rfl
  have S2 : (tw x.b1 x.b2).size = 2 := rfl
  have S3 : (tw x.a1 x.a2).size = 2 := rfl
  have X0 : (tw x.r1 x.r2).extract 0 1 = ⟨#[hxU x.r1]⟩ := rfl
  have X1 : (tw x.g1 x.g2).extract 0 1 = ⟨#[hxU x.g1]⟩ := rfl
  have X2 : (tw x.b1 x.b2).extract 0 1 = ⟨#[hxU x.b1]⟩ := rfl
  have ba : 0 ≤ a ∧ a ≤ 255 := by omega
  cases hf : x.full
  · have hne : (a == 255) = false := by
      unfold Nib.full at hf
      simp at hf ⊢
      omega
    have hlt : a < 255 := by simp at hne; omega
    have etx : x.tx = ⟨#[35, hxU x.r1, hxU x.r2, hxU x.g1, hxU x.g2, hxU x.b1, hxU x.b2, hxU x.a1, hxU x.a2]⟩ := by unfold Nib.tx; rw [hf]; rfl
    rw [etx]
    clear etx er eg eb ea hf
    replace T1 := Lib.hid T1
    replace T2 := Lib.hid T2
    replace T3 := Lib.hid T3
    replace T4 := Lib.hid T4
    go_enter Tryd.func35, Tryd.ntmps35
    go_wp2_with fail
    refine wp_region_steady (Held w 1 [(⟨w.heap.size, 0, none⟩, .int .u8 (r)), (⟨w.heap.size, 1, none⟩, .int .u8 (g)), (⟨w.heap.size, 2, none⟩, .int .u8 (b)), (⟨w.heap.size, 3, none⟩, .int .u8 (a))]) (by kernel_rfl) (by kernel_rfl) ⟨(by repeat (first | exact Below.refl _ _ | assumption | refine Below.drew ?_ | refine Below.alloc ?_ (by (try simp) <;> omega) _ | refine Below.setCell ?_ (by (try simp) <;> omega) _ | (refine Below.trans ?_ (Below.mono (by assumption) (by (try simp) <;> omega))))), (by (try simp) <;> omega), (by simp only [Cells]; go_simp)⟩ ?_
    repeat (first | (refine' wpSteady_do _ _ _; rotate_left; (focus rfl); (focus (intro w1 hS R hR; have hc := hS.cells; simp only [Cells] at hc; go_simp; (try go_bits); first | exact hR _ hS | first | (go_at_call 44; (with_reducible refine (T1.out _).mono ?_); rintro e w2 ⟨rfl, hb2⟩; exact ⟨_, rfl, hR _ (hS.below hb2)⟩) | (go_at_call 44; (with_reducible refine (T2.out _).mono ?_); rintro e w2 ⟨rfl, hb2⟩; exact ⟨_, rfl, hR _ (hS.below hb2)⟩) | (go_at_call 44; (with_reducible refine (T3.out _).mono ?_); rintro e w2 ⟨rfl, hb2⟩; exact ⟨_, rfl, hR _ (hS.below hb2)⟩))); simp only [Act.put, List.setIfInBounds_toArray, List.set_cons_zero, List.set_cons_succ]) | (refine wpSteady_pass ?_ ?_; (focus rfl); simp only [Act.put, List.setIfInBounds_toArray, List.set_cons_zero, List.set_cons_succ]))
    refine wpSteady_nil (fun uA hSA => ?_)
    have hcA := hSA.cells; have hbA := hSA.old; have hzA := hSA.size; clear hSA; simp only [Cells] at hcA
    go_wp2_with fail
    refine wp_region_steady (Held w 1 [(⟨w.heap.size, 0, none⟩, .int .u8 (r)), (⟨w.heap.size, 1, none⟩, .int .u8 (g)), (⟨w.heap.size, 2, none⟩, .int .u8 (b)), (⟨w.heap.size, 3, none⟩, .int .u8 (a))]) (by kernel_rfl) (by kernel_rfl) ⟨(by repeat (first | exact Below.refl _ _ | assumption | refine Below.drew ?_ | refine Below.alloc ?_ (by (try simp) <;> omega) _ | refine Below.setCell ?_ (by (try simp) <;> omega) _ | (refine Below.trans ?_ (Below.mono (by assumption) (by (try simp) <;> omega))))), (by (try simp) <;> omega), (by simp only [Cells]; go_simp)⟩ ?_
    repeat (first | (refine' wpSteady_do _ _ _; rotate_left; (focus rfl); (focus (intro w1 hS R hR; have hc := hS.cells; simp only [Cells] at hc; go_simp; (try go_bits); first | exact hR _ hS | fail)); simp only [Act.put, List.setIfInBounds_toArray, List.set_cons_zero, List.set_cons_succ]) | (refine wpSteady_pass ?_ ?_; (focus rfl); simp only [Act.put, List.setIfInBounds_toArray, List.set_cons_zero, List.set_cons_succ]))
    refine wpSteady_nil (fun uB hSB => ?_)
    have hcB := hSB.cells; have hbB := hSB.old; have hzB := hSB.size; clear hSB; simp only [Cells] at hcB
    go_wp2_with (first | (go_at_call 44; (with_reducible refine (T4.out _).mono ?_); rintro e w4 ⟨rfl, hb4⟩) | go_in)
    go_ret
    exact ⟨rfl, (by repeat (first | exact Below.refl _ _ | assumption | refine Below.drew ?_ | refine Below.alloc ?_ (by (try simp) <;> omega) _ | refine Below.setCell ?_ (by (try simp) <;> omega) _ | (refine Below.trans ?_ (Below.mono (by assumption) (by (try simp) <;> omega)))))⟩
  · have ea : a = 255 := by
      unfold Nib.full at hf
      simp at hf
      omega
    subst ea
    cases hsh : x.short
    · have etx : x.tx = ⟨#[35, hxU x.r1, hxU x.r2, hxU x.g1, hxU x.g2, hxU x.b1, hxU x.b2]⟩ := by unfold Nib.tx; rw [hf, hsh]; rfl
      rw [etx]
      unfold Nib.short at hsh
      have hh : (decide (x.r1 = x.r2) = false) ∨ (decide (x.r1 = x.r2) = true ∧ decide (x.g1 = x.g2) = false) ∨ (decide (x.r1 = x.r2) = true ∧ decide (x.g1 = x.g2) = true ∧ decide (x.b1 = x.b2) = false) := by
        simp at hsh
        by_cases c1 : x.r1 = x.r2
        · by_cases c2 : x.g1 = x.g2
          · exact .inr (.inr ⟨by simpa using c1, by simpa using c2, by simpa using hsh c1 c2⟩)
          · exact .inr (.inl ⟨by simpa using c1, by simpa using c2⟩)
        · exact .inl (by simpa using c1)
      clear etx er eg eb ea hf hsh
      replace T1 := Lib.hid T1
      replace T2 := Lib.hid T2
      replace T3 := Lib.hid T3
      clear T4
      rcases hh with c1 | ⟨c1, c2⟩ | ⟨c1, c2, c3⟩
      · rw [c1] at Q0
        clear c1
        go_enter Tryd.func35, Tryd.ntmps35
        go_wp2_with fail
        refine wp_region_steady (Held w 1 [(⟨w.heap.size, 0, none⟩, .int .u8 (r)), (⟨w.heap.size, 1, none⟩, .int .u8 (g)), (⟨w.heap.size, 2, none⟩, .int .u8 (b)), (⟨w.heap.size, 3, none⟩, .int .u8 (255))]) (by kernel_rfl) (by kernel_rfl) ⟨(by repeat (first | exact Below.refl _ _ | assumption | refine Below.drew ?_ | refine Below.alloc ?_ (by (try simp) <;> omega) _ | refine Below.setCell ?_ (by (try simp) <;> omega) _ | (refine Below.trans ?_ (Below.mono (by assumption) (by (try simp) <;> omega))))), (by (try simp) <;> omega), (by simp only [Cells]; go_simp)⟩ ?_
        repeat (first | (refine' wpSteady_do _ _ _; rotate_left; (focus rfl); (focus (intro w1 hS R hR; have hc := hS.cells; simp only [Cells] at hc; go_simp; (try go_bits); first | exact hR _ hS | first | (go_at_call 44; (with_reducible refine (T1.out _).mono ?_); rintro e w2 ⟨rfl, hb2⟩; exact ⟨_, rfl, hR _ (hS.below hb2)⟩) | (go_at_call 44; (with_reducible refine (T2.out _).mono ?_); rintro e w2 ⟨rfl, hb2⟩; exact ⟨_, rfl, hR _ (hS.below hb2)⟩) | (go_at_call 44; (with_reducible refine (T3.out _).mono ?_); rintro e w2 ⟨rfl, hb2⟩; exact ⟨_, rfl, hR _ (hS.below hb2)⟩))); simp only [Act.put, List.setIfInBounds_toArray, List.set_cons_zero, List.set_cons_succ]) | (refine wpSteady_pass ?_ ?_; (focus rfl); simp only [Act.put, List.setIfInBounds_toArray, List.set_cons_zero, List.set_cons_succ]))
        refine wpSteady_nil (fun uA hSA => ?_)
        have hcA := hSA.cells; have hbA := hSA.old; have hzA := hSA.size; clear hSA; simp only [Cells] at hcA
        go_wp2_with fail
        refine wp_region_steady (Held w 1 [(⟨w.heap.size, 0, none⟩, .int .u8 (r)), (⟨w.heap.size, 1, none⟩, .int .u8 (g)), (⟨w.heap.size, 2, none⟩, .int .u8 (b)), (⟨w.heap.size, 3, none⟩, .int .u8 (255))]) (by kernel_rfl) (by kernel_rfl) ⟨(by repeat (first | exact Below.refl _ _ | assumption | refine Below.drew ?_ | refine Below.alloc ?_ (by (try simp) <;> omega) _ | refine Below.setCell ?_ (by (try simp) <;> omega) _ | (refine Below.trans ?_ (Below.mono (by assumption) (by (try simp) <;> omega))))), (by (try simp) <;> omega), (by simp only [Cells]; go_simp)⟩ ?_
        repeat (first | (refine' wpSteady_do _ _ _; rotate_left; (focus rfl); (focus (intro w1 hS R hR; have hc := hS.cells; simp only [Cells] at hc; go_simp; (try go_bits); first | exact hR _ hS | fail)); simp only [Act.put, List.setIfInBounds_toArray, List.set_cons_zero, List.set_cons_succ]) | (refine wpSteady_pass ?_ ?_; (focus rfl); simp only [Act.put, List.setIfInBounds_toArray, List.set_cons_zero, List.set_cons_succ]))
        refine wpSteady_nil (fun uB hSB => ?_)
        have hcB := hSB.cells; have hbB := hSB.old; have hzB := hSB.size; clear hSB; simp only [Cells] at hcB
        go_wp2
        go_ret
        exact ⟨rfl, (by repeat (first | exact Below.refl _ _ | assumption | refine Below.drew ?_ | refine Below.alloc ?_ (by (try simp) <;> omega) _ | refine Below.setCell ?_ (by (try simp) <;> omega) _ | (refine Below.trans ?_ (Below.mono (by assumption) (by (try simp) <;> omega)))))⟩
      · rw [c1] at Q0
        rw [c2] at Q1
        clear c1 c2
        go_enter Tryd.func35, Tryd.ntmps35
        go_wp2_with fail
        refine wp_region_steady (Held w 1 [(⟨w.heap.size, 0, none⟩, .int .u8 (r)), (⟨w.heap.size, 1, none⟩, .int .u8 (g)), (⟨w.heap.size, 2, none⟩, .int .u8 (b)), (⟨w.heap.size, 3, none⟩, .int .u8 (255))]) (by kernel_rfl) (by kernel_rfl) ⟨(by repeat (first | exact Below.refl _ _ | assumption | refine Below.drew ?_ | refine Below.alloc ?_ (by (try simp) <;> omega) _ | refine Below.setCell ?_ (by (try simp) <;> omega) _ | (refine Below.trans ?_ (Below.mono (by assumption) (by (try simp) <;> omega))))), (by (try simp) <;> omega), (by simp only [Cells]; go_simp)⟩ ?_
        repeat (first | (refine' wpSteady_do _ _ _; rotate_left; (focus rfl); (focus (intro w1 hS R hR; have hc := hS.cells; simp only [Cells] at hc; go_simp; (try go_bits); first | exact hR _ hS | first | (go_at_call 44; (with_reducible refine (T1.out _).mono ?_); rintro e w2 ⟨rfl, hb2⟩; exact ⟨_, rfl, hR _ (hS.below hb2)⟩) | (go_at_call 44; (with_reducible refine (T2.out _).mono ?_); rintro e w2 ⟨rfl, hb2⟩; exact ⟨_, rfl, hR _ (hS.below hb2)⟩) | (go_at_call 44; (with_reducible refine (T3.out _).mono ?_); rintro e w2 ⟨rfl, hb2⟩; exact ⟨_, rfl, hR _ (hS.below hb2)⟩))); simp only [Act.put, List.setIfInBounds_toArray, List.set_cons_zero, List.set_cons_succ]) | (refine wpSteady_pass ?_ ?_; (focus rfl); simp only [Act.put, List.setIfInBounds_toArray, List.set_cons_zero, List.set_cons_succ]))
        refine wpSteady_nil (fun uA hSA => ?_)
        have hcA := hSA.cells; have hbA := hSA.old; have hzA := hSA.size; clear hSA; simp only [Cells] at hcA
        go_wp2_with fail
        refine wp_region_steady (Held w 1 [(⟨w.heap.size, 0, none⟩, .int .u8 (r)), (⟨w.heap.size, 1, none⟩, .int .u8 (g)), (⟨w.heap.size, 2, none⟩, .int .u8 (b)), (⟨w.heap.size, 3, none⟩, .int .u8 (255))]) (by kernel_rfl) (by kernel_rfl) ⟨(by repeat (first | exact Below.refl _ _ | assumption | refine Below.drew ?_ | refine Below.alloc ?_ (by (try simp) <;> omega) _ | refine Below.setCell ?_ (by (try simp) <;> omega) _ | (refine Below.trans ?_ (Below.mono (by assumption) (by (try simp) <;> omega))))), (by (try simp) <;> omega), (by simp only [Cells]; go_simp)⟩ ?_
        repeat (first | (refine' wpSteady_do _ _ _; rotate_left; (focus rfl); (focus (intro w1 hS R hR; have hc := hS.cells; simp only [Cells] at hc; go_simp; (try go_bits); first | exact hR _ hS | fail)); simp only [Act.put, List.setIfInBounds_toArray, List.set_cons_zero, List.set_cons_succ]) | (refine wpSteady_pass ?_ ?_; (focus rfl); simp only [Act.put, List.setIfInBounds_toArray, List.set_cons_zero, List.set_cons_succ]))
        refine wpSteady_nil (fun uB hSB => ?_)
        have hcB := hSB.cells; have hbB := hSB.old; have hzB := hSB.size; clear hSB; simp only [Cells] at hcB
        go_wp2
        go_ret
        exact ⟨rfl, (by repeat (first | exact Below.refl _ _ | assumption | refine Below.drew ?_ | refine Below.alloc ?_ (by (try simp) <;> omega) _ | refine Below.setCell ?_ (by (try simp) <;> omega) _ | (refine Below.trans ?_ (Below.mono (by assumption) (by (try simp) <;> omega)))))⟩
      · rw [c1] at Q0
        rw [c2] at Q1
        rw [c3] at Q2
        clear c1 c2 c3
        go_enter Tryd.func35, Tryd.ntmps35
        go_wp2_with fail
        refine wp_region_steady (Held w 1 [(⟨w.heap.size, 0, none⟩, .int .u8 (r)), (⟨w.heap.size, 1, none⟩, .int .u8 (g)), (⟨w.heap.size, 2, none⟩, .int .u8 (b)), (⟨w.heap.size, 3, none⟩, .int .u8 (255))]) (by kernel_rfl) (by kernel_rfl) ⟨(by repeat (first | exact Below.refl _ _ | assumption | refine Below.drew ?_ | refine Below.alloc ?_ (by (try simp) <;> omega) _ | refine Below.setCell ?_ (by (try simp) <;> omega) _ | (refine Below.trans ?_ (Below.mono (by assumption) (by (try simp) <;> omega))))), (by (try simp) <;> omega), (by simp only [Cells]; go_simp)⟩ ?_
        repeat (first | (refine' wpSteady_do _ _ _; rotate_left; (focus rfl); (focus (intro w1 hS R hR; have hc := hS.cells; simp only [Cells] at hc; go_simp; (try go_bits); first | exact hR _ hS | first | (go_at_call 44; (with_reducible refine (T1.out _).mono ?_); rintro e w2 ⟨rfl, hb2⟩; exact ⟨_, rfl, hR _ (hS.below hb2)⟩) | (go_at_call 44; (with_reducible refine (T2.out _).mono ?_); rintro e w2 ⟨rfl, hb2⟩; exact ⟨_, rfl, hR _ (hS.below hb2)⟩) | (go_at_call 44; (with_reducible refine (T3.out _).mono ?_); rintro e w2 ⟨rfl, hb2⟩; exact ⟨_, rfl, hR _ (hS.below hb2)⟩))); simp only [Act.put, List.setIfInBounds_toArray, List.set_cons_zero, List.set_cons_succ]) | (refine wpSteady_pass ?_ ?_; (focus rfl); simp only [Act.put, List.setIfInBounds_toArray, List.set_cons_zero, List.set_cons_succ]))
        refine wpSteady_nil (fun uA hSA => ?_)
        have hcA := hSA.cells; have hbA := hSA.old; have hzA := hSA.size; clear hSA; simp only [Cells] at hcA
        go_wp2_with fail
        refine wp_region_steady (Held w 1 [(⟨w.heap.size, 0, none⟩, .int .u8 (r)), (⟨w.heap.size, 1, none⟩, .int .u8 (g)), (⟨w.heap.size, 2, none⟩, .int .u8 (b)), (⟨w.heap.size, 3, none⟩, .int .u8 (255))]) (by kernel_rfl) (by kernel_rfl) ⟨(by repeat (first | exact Below.refl _ _ | assumption | refine Below.drew ?_ | refine Below.alloc ?_ (by (try simp) <;> omega) _ | refine Below.setCell ?_ (by (try simp) <;> omega) _ | (refine Below.trans ?_ (Below.mono (by assumption) (by (try simp) <;> omega))))), (by (try simp) <;> omega), (by simp only [Cells]; go_simp)⟩ ?_
        repeat (first | (refine' wpSteady_do _ _ _; rotate_left; (focus rfl); (focus (intro w1 hS R hR; have hc := hS.cells; simp only [Cells] at hc; go_simp; (try go_bits); first | exact hR _ hS | fail)); simp only [Act.put, List.setIfInBounds_toArray, List.set_cons_zero, List.set_cons_succ]) | (refine wpSteady_pass ?_ ?_; (focus rfl); simp only [Act.put, List.setIfInBounds_toArray, List.set_cons_zero, List.set_cons_succ]))
        refine wpSteady_nil (fun uB hSB => ?_)
        have hcB := hSB.cells; have hbB := hSB.old; have hzB := hSB.size; clear hSB; simp only [Cells] at hcB
        go_wp2
        go_ret
        exact ⟨rfl, (by repeat (first | exact Below.refl _ _ | assumption | refine Below.drew ?_ | refine Below.alloc ?_ (by (try simp) <;> omega) _ | refine Below.setCell ?_ (by (try simp) <;> omega) _ | (refine Below.trans ?_ (Below.mono (by assumption) (by (try simp) <;> omega)))))⟩
    · have etx : x.tx = ⟨#[35, hxU x.r1, hxU x.g1, hxU x.b1]⟩ := by unfold Nib.tx; rw [hf, hsh]; rfl
      rw [etx]
      unfold Nib.short at hsh
      simp at hsh
      obtain ⟨c1, c2, c3⟩ := hsh
      rw [decide_eq_true c1] at Q0
      rw [decide_eq_true c2] at Q1
      rw [decide_eq_true c3] at Q2
      clear etx er eg eb ea hf c1 c2 c3
      replace T1 := Lib.hid T1
      replace T2 := Lib.hid T2
      replace T3 := Lib.hid T3
      clear T4
      go_enter Tryd.func35, Tryd.ntmps35
      go_wp2_with fail
      refine wp_region_steady (Held w 1 [(⟨w.heap.size, 0, none⟩, .int .u8 (r)), (⟨w.heap.size, 1, none⟩, .int .u8 (g)), (⟨w.heap.size, 2, none⟩, .int .u8 (b)), (⟨w.heap.size, 3, none⟩, .int .u8 (255))]) (by kernel_rfl) (by kernel_rfl) ⟨(by repeat (first | exact Below.refl _ _ | assumption | refine Below.drew ?_ | refine Below.alloc ?_ (by (try simp) <;> omega) _ | refine Below.setCell ?_ (by (try simp) <;> omega) _ | (refine Below.trans ?_ (Below.mono (by assumption) (by (try simp) <;> omega))))), (by (try simp) <;> omega), (by simp only [Cells]; go_simp)⟩ ?_
      repeat (first | (refine' wpSteady_do _ _ _; rotate_left; (focus rfl); (focus (intro w1 hS R hR; have hc := hS.cells; simp only [Cells] at hc; go_simp; (try go_bits); first | exact hR _ hS | first | (go_at_call 44; (with_reducible refine (T1.out _).mono ?_); rintro e w2 ⟨rfl, hb2⟩; exact ⟨_, rfl, hR _ (hS.below hb2)⟩) | (go_at_call 44; (with_reducible refine (T2.out _).mono ?_); rintro e w2 ⟨rfl, hb2⟩; exact ⟨_, rfl, hR _ (hS.below hb2)⟩) | (go_at_call 44; (with_reducible refine (T3.out _).mono ?_); rintro e w2 ⟨rfl, hb2⟩; exact ⟨_, rfl, hR _ (hS.below hb2)⟩))); simp only [Act.put, List.setIfInBounds_toArray, List.set_cons_zero, List.set_cons_succ]) | (refine wpSteady_pass ?_ ?_; (focus rfl); simp only [Act.put, List.setIfInBounds_toArray, List.set_cons_zero, List.set_cons_succ]))
      refine wpSteady_nil (fun uA hSA => ?_)
      have hcA := hSA.cells; have hbA := hSA.old; have hzA := hSA.size; clear hSA; simp only [Cells] at hcA
      go_wp2_with fail
      refine wp_region_steady (Held w 1 [(⟨w.heap.size, 0, none⟩, .int .u8 (r)), (⟨w.heap.size, 1, none⟩, .int .u8 (g)), (⟨w.heap.size, 2, none⟩, .int .u8 (b)), (⟨w.heap.size, 3, none⟩, .int .u8 (255))]) (by kernel_rfl) (by kernel_rfl) ⟨(by repeat (first | exact Below.refl _ _ | assumption | refine Below.drew ?_ | refine Below.alloc ?_ (by (try simp) <;> omega) _ | refine Below.setCell ?_ (by (try simp) <;> omega) _ | (refine Below.trans ?_ (Below.mono (by assumption) (by (try simp) <;> omega))))), (by (try simp) <;> omega), (by simp only [Cells]; go_simp)⟩ ?_
      repeat (first | (refine' wpSteady_do _ _ _; rotate_left; (focus rfl); (focus (intro w1 hS R hR; have hc := hS.cells; simp only [Cells] at hc; go_simp; (try go_bits); first | exact hR _ hS | fail)); simp only [Act.put, List.setIfInBounds_toArray, List.set_cons_zero, List.set_cons_succ]) | (refine wpSteady_pass ?_ ?_; (focus rfl); simp only [Act.put, List.setIfInBounds_toArray, List.set_cons_zero, List.set_cons_succ]))
      refine wpSteady_nil (fun uB hSB => ?_)
      have hcB := hSB.cells; have hbB := hSB.old; have hzB := hSB.size; clear hSB; simp only [Cells] at hcB
      go_wp2_with fail
      refine wp_region_steady (Held w 1 [(⟨w.heap.size, 0, none⟩, .int .u8 (r)), (⟨w.heap.size, 1, none⟩, .int .u8 (g)), (⟨w.heap.size, 2, none⟩, .int .u8 (b)), (⟨w.heap.size, 3, none⟩, .int .u8 (255))]) (by kernel_rfl) (by kernel_rfl) ⟨(by repeat (first | exact Below.refl _ _ | assumption | refine Below.drew ?_ | refine Below.alloc ?_ (by (try simp) <;> omega) _ | refine Below.setCell ?_ (by (try simp) <;> omega) _ | (refine Below.trans ?_ (Below.mono (by assumption) (by (try simp) <;> omega))))), (by (try simp) <;> omega), (by simp only [Cells]; go_simp)⟩ ?_
      repeat (first | (refine' wpSteady_do _ _ _; rotate_left; (focus rfl); (focus (intro w1 hS R hR; have hc := hS.cells; simp only [Cells] at hc; go_simp; (try go_bits); first | exact hR _ hS | fail)); simp only [Act.put, List.setIfInBounds_toArray, List.set_cons_zero, List.set_cons_succ]) | (refine wpSteady_pass ?_ ?_; (focus rfl); simp only [Act.put, List.setIfInBounds_toArray, List.set_cons_zero, List.set_cons_succ]))
      refine wpSteady_nil (fun uD hSD => ?_)
      have hcD := hSD.cells; have hbD := hSD.old; have hzD := hSD.size; clear hSD; simp only [Cells] at hcD
      go_wp2
      go_ret
      exact ⟨rfl, (by repeat (first | exact Below.refl _ _ | assumption | refine Below.drew ?_ | refine Below.alloc ?_ (by (try simp) <;> omega) _ | refine Below.setCell ?_ (by (try simp) <;> omega) _ | (refine Below.trans ?_ (Below.mono (by assumption) (by (try simp) <;> omega)))))⟩
end
section
set_option linter.unusedSimpArgs false
set_option linter.unusedVariables false
/-- 'append(s, x, y ..)' onto a row of the call's own, as a step by itself; what else it owns stays. -/
theorem wp_append_two {P : Program} {o : Oper} {a : Act} {K : Act → World → Prop} {Q : Exit → Act → World → Prop} (s x : Operand) (t : TypeId)
    (ho : o.op = .call { callee := .builtin .append, args := #[s, x], argTypes := #[t, t] })
    (base : Nat) (e : TypeId) (i : TypeInfo) (z : Value) (size bytes : Nat) (ht : P.underlying t = some (.slice e)) (hi : P.info? e = some i) (hz : i.zero = some z)
    (hsize : i.size = size) (hby : i.bytes = bytes) (hzs : z.cells.size = size) (hsz : 0 < size)
    (w : World) (m : Nat) (us : List Value) (v : Value) (n : Nat) (xs : List Value) (hs : a.eval s = v) (hown : w.ownsRow base e size v n xs)
    (hx : a.eval x = .slice (some ⟨w.heap.size, 0, none⟩) m m) (hl : us.length = m * size) (h1 : ∀ u ∈ us, u.oneCell' = true)
    (hbytes : (n + m) * bytes ≤ 140737488355328) (h63 : n + m ≤ maxLen) (hbase : base ≤ w.heap.size)
    (h : ∀ v' w', w'.ownsRow base e size v' (n + m) (xs ++ us) → w.grownBy w' v.ownBlock → (∀ g, v'.ownBlock = some g → v.ownBlock = some g ∨ w.heap.size < g) → Below base w w' → K (a.put o.dst v') w') :
    o.wp P a (w.alloc (.cells us.toArray e)) K Q := by
  obtain ⟨v', w', hr, h2, h3, _, h5⟩ := run_append_own_at (P := P) (w.alloc (.cells us.toArray e)) base t o.type e i z size bytes ht hi hz hsize hby hzs hsz v n xs (hown.alloc _) ⟨w.heap.size, 0, none⟩ m m us hl (fun j u hj => by
    rw [show (⟨w.heap.size, 0, none⟩ : Addr).add j = ⟨w.heap.size, j, none⟩ by unfold Addr.add; split <;> simp_all]
    rw [World.cell?_alloc_at _ _ _ _ rfl]
    simpa using hj) h1 h63 hbytes (by simp; omega)
  unfold Oper.wp execOp
  simp only [ho, resolve, invoke, builtin, Sem.run_bind, Sem.run_pure, Result.andThen_ok, List.map_toArray, List.map_cons, List.map_nil, hs, hx, hr]
  refine h v' w' h2 ?_ ?_ ?_
  · have hal : w.grownBy (w.alloc (.cells us.toArray e)) v.ownBlock := ⟨rfl, rfl, rfl, by simp, fun k hk _ => ((Below.refl w.heap.size w).alloc (Nat.le_refl _) _).block k hk⟩
    exact ⟨h3.os.trans hal.os, h3.tape.trans hal.tape, h3.output.trans hal.output, Nat.le_trans hal.size h3.size, fun k hk hne => (h3.block k (Nat.lt_of_lt_of_le hk hal.size) hne).trans (hal.block k hk hne)⟩
  · intro g hg
    rcases h5 with h5 | h5
    · exact .inl (h5 ▸ hg)
    · rw [h5] at hg
      injection hg with hg
      simp at hg
      exact .inr (by omega)
  · exact (((Below.refl _ _).alloc hbase _).grown h3 (by simp; omega) (fun k hk => (hown.lt k hk).1))
def dig (n : Nat) : Int := ((hxU n).toNat : Int)
theorem dig_ix (n : Nat) (h : n < 16) (w : World) : (Instr.index 9 (.string ⟨#[48, 49, 50, 51, 52, 53, 54, 55, 56, 57, 97, 98, 99, 100, 101, 102, 65, 66, 67, 68, 69, 70]⟩) (.int .u8 (n : Int))).run Tryd.prog w = .ok (.int .u8 (dig n)) w := by
  have A := Tryd.underlying9
  have hh : (⟨#[48, 49, 50, 51, 52, 53, 54, 55, 56, 57, 97, 98, 99, 100, 101, 102, 65, 66, 67, 68, 69, 70]⟩ : ByteArray)[n]? = some (hxU n) := by
    rcases sixteen n h with rfl | rfl | rfl | rfl | rfl | rfl | rfl | rfl | rfl | rfl | rfl | rfl | rfl | rfl | rfl | rfl <;> rfl
  simp [Instr.index, asIntOf, run_underlying A, hh, dig]
theorem infoB : (Tryd.prog.info? 5).map (fun i => (i.zero, i.size, i.bytes)) = some (some (.int .u8 0), 1, 1) := by kernel_rfl
def vB (l : List Int) : List Value := l.map (Value.int .u8)
theorem own_text {w : World} {base : Nat} {v : Value} {n : Nat} {l : List Int} (h : w.ownsRow base 5 1 v n (vB l)) (hn : 0 < n) : ∃ g cap, v = .slice (some ⟨g, 0, none⟩) n cap ∧ (convert 44 9 v).run Tryd.prog w = .ok (.string (strOfNums l)) w := by
  obtain ⟨g, cap, rfl, _, _, _, _, hc⟩ := own_open h hn
  have hl : l.length = n := by have := h.1; simpa [vB] using this
  refine ⟨g, cap, rfl, run_convert_bytes_arg w 44 5 Tryd.underlying44 Tryd.underlying5 g 0 n cap l hl (fun i hi => ?_) 9 Tryd.underlying9⟩
  rw [Nat.zero_add]
  refine (hc i _ ?_).1
  simp [vB, List.getD, List.getElem?_eq_getElem (show i < l.length by omega)]
theorem short_any (b : Int) (w : World) (h : U8 b) : Calls Tryd.prog 42 #[.int .u8 b] w fun e w' => e = .returned (.bool (decide (b % 17 = 0))) ∧ w = w' := by
  obtain ⟨h0, h1⟩ := h
  go_enter Tryd.func42, Tryd.ntmps42
  go_wp2
  go_ret
  exact ⟨rfl, rfl⟩
end
section
set_option linter.unusedSimpArgs false
set_option linter.unusedVariables false
theorem nib17 (r : Int) (r1 r2 : Nat) (h : r = 16 * r1 + r2) (h1 : r1 < 16) (h2 : r2 < 16) : decide (r % 17 = 0) = decide (r1 = r2) := by
  by_cases e : r1 = r2
  · subst e; simp; omega
  · simp [e]; omega
theorem and15b (n1 n2 : Nat) (h1 : n1 < 16) (h2 : n2 < 16) : bits .and .u8 (16 * (n1 : Int) + n2) 15 = (n2 : Int) := by
  have e : (16 * (n1 : Int) + n2) = ((16 * n1 + n2 : Nat) : Int) := by omega
  rw [e]
  show bits .and .u8 _ ((15 : Nat) : Int) = _
  rw [u8_and_nat _ 15 (by omega) (by omega)]
  have : (16 * n1 + n2) &&& 15 = (16 * n1 + n2) % 16 := Nat.and_two_pow_sub_one_eq_mod _ 4
  rw [this]
  omega
theorem shortS (x : Nib) : strOfNums [35, dig x.r1, dig x.g1, dig x.b1] = ⟨#[35, hxU x.r1, hxU x.g1, hxU x.b1]⟩ := by
  simp [strOfNums, dig]
set_option maxHeartbeats 2000000 in
theorem ltext_short (r g b : Int) (x : Nib) (w : World) (h : x.Of r g b 255) (hs : x.short = true) : Calls Tryd.prog 32 #[.agg #[.int .u8 (r), .int .u8 (g), .int .u8 (b), .int .u8 (255)]] w fun e w' => e = .returned (.string (⟨#[35, hxU x.r1, hxU x.g1, hxU x.b1]⟩)) ∧ Below w.heap.size w w' := by
  obtain ⟨iB, hi0, hz0, hz1, hz2⟩ := info_parts infoB
  obtain ⟨⟨er, hr1, hr2⟩, ⟨eg, hg1, hg2⟩, ⟨eb, hb1, hb2⟩, ea⟩ := h
  clear ea
  unfold Nib.short at hs
  simp at hs
  obtain ⟨c1, c2, c3⟩ := hs
  have R := fun w => short_any r w ⟨by omega, by omega⟩
  have G := fun w => short_any g w ⟨by omega, by omega⟩
  have B := fun w => short_any b w ⟨by omega, by omega⟩
  rw [nib17 r _ _ er hr1 hr2, decide_eq_true c1] at R
  rw [nib17 g _ _ eg hg1 hg2, decide_eq_true c2] at G
  rw [nib17 b _ _ eb hb1 hb2, decide_eq_true c3] at B
  have q0 : r / 17 = (x.r1 : Int) := by omega
  have q1 : g / 17 = (x.g1 : Int) := by omega
  have q2 : b / 17 = (x.b1 : Int) := by omega
  have D0 := fun w => dig_ix x.r1 hr1 w
  have D1 := fun w => dig_ix x.g1 hg1 w
  have D2 := fun w => dig_ix x.b1 hb1 w
  have fs := shortS x
  have r0 : 0 ≤ r ∧ r ≤ 255 := by omega
  have g0 : 0 ≤ g ∧ g ≤ 255 := by omega
  have b0 : 0 ≤ b ∧ b ≤ 255 := by omega
  have q0 : r.tdiv 17 % 256 = (x.r1 : Int) := by rw [Int.tdiv_eq_ediv_of_nonneg r0.1, q0]; omega
  have q1 : g.tdiv 17 % 256 = (x.g1 : Int) := by rw [Int.tdiv_eq_ediv_of_nonneg g0.1, q1]; omega
  have q2 : b.tdiv 17 % 256 = (x.b1 : Int) := by rw [Int.tdiv_eq_ediv_of_nonneg b0.1, q2]; omega
  clear r0 g0 b0
  generalize dig x.r1 = d0 at *
  generalize dig x.g1 = d1 at *
  generalize dig x.b1 = d2 at *
  replace fs := Lib.hid fs
  replace R := Lib.hid R
  replace G := Lib.hid G
  replace B := Lib.hid B
  clear er eg eb c1 c2 c3
  go_enter Tryd.func32, Tryd.ntmps32
  go_wp2_with (first
    | (go_at_call 42; (with_reducible refine (R.out _).mono ?_); rintro e w1 ⟨rfl, rfl⟩)
    | (go_at_call 42; (with_reducible refine (G.out _).mono ?_); rintro e w1 ⟨rfl, rfl⟩)
    | (go_at_call 42; (with_reducible refine (B.out _).mono ?_); rintro e w1 ⟨rfl, rfl⟩)
    | go_in)
  have k0 : ((w.alloc (.cells #[.int .u8 r, .int .u8 g, .int .u8 b, .int .u8 255] 30)).alloc (.cells #[.int .u8 35] 5)).cell? ⟨w.heap.size, 0, none⟩ = some (.int .u8 r) := by go_simp
  have k1 : ((w.alloc (.cells #[.int .u8 r, .int .u8 g, .int .u8 b, .int .u8 255] 30)).alloc (.cells #[.int .u8 35] 5)).cell? ⟨w.heap.size, 1, none⟩ = some (.int .u8 g) := by go_simp
  have k2 : ((w.alloc (.cells #[.int .u8 r, .int .u8 g, .int .u8 b, .int .u8 255] 30)).alloc (.cells #[.int .u8 35] 5)).cell? ⟨w.heap.size, 2, none⟩ = some (.int .u8 b) := by go_simp
  have kz : w.heap.size < ((w.alloc (.cells #[.int .u8 r, .int .u8 g, .int .u8 b, .int .u8 255] 30)).alloc (.cells #[.int .u8 35] 5)).heap.size := by simp; omega
  have hbv : Below w.heap.size w ((w.alloc (.cells #[.int .u8 r, .int .u8 g, .int .u8 b, .int .u8 255] 30)).alloc (.cells #[.int .u8 35] 5)) := ((Below.refl _ _).alloc (Nat.le_refl _) _).alloc (by simp) _
  have h35 : ((w.alloc (.cells #[.int .u8 r, .int .u8 g, .int .u8 b, .int .u8 255] 30)).alloc (.cells #[.int .u8 35] 5)).ownsRow (w.heap.size + 1) 5 1 (.slice (some ⟨w.heap.size + 1, 0, none⟩) 1 1) 1 (vB [35]) := by
    have := World.ownsRow_lit (base := w.heap.size + 1) (e := 5) (size := 1) (w.alloc (.cells #[.int .u8 r, .int .u8 g, .int .u8 b, .int .u8 255] 30)) #[.int .u8 35] 1 (by simp) (by unfold maxLen; omega) rfl
    simpa [vB] using this
  obtain ⟨wv, hwv⟩ : ∃ wv, (w.alloc (.cells #[.int .u8 r, .int .u8 g, .int .u8 b, .int .u8 255] 30)).alloc (.cells #[.int .u8 35] 5) = wv := ⟨_, rfl⟩
  rw [hwv] at k0 k1 k2 kz hbv h35 ⊢
  clear hwv
  refine held_begin (fun w' => w'.cell? ⟨w.heap.size, 0, none⟩ = some (.int .u8 r) ∧ w'.cell? ⟨w.heap.size, 1, none⟩ = some (.int .u8 g) ∧ w'.cell? ⟨w.heap.size, 2, none⟩ = some (.int .u8 b)) (by kernel_rfl) ⟨by go_simp, by go_simp, by go_simp⟩ (fun hS => ?_)
  (first | (refine' held_do (i := 0) _ (by kernel_rfl) (by kernel_rfl) (by kernel_rfl) _ _ hS _ _; rotate_left 2; (focus (simp only [List.getElem?_toArray, List.getElem?_cons_succ, List.getElem?_cons_zero]; rfl)); (focus exact fun _ _ _ h => h); (focus rfl); (focus (intro w1 hSS R hR; have hc := hSS; (try simp only [Held, Cells] at hc); go_simp; (try go_bits); exact hR)); simp only [Act.put, List.setIfInBounds_toArray, List.set_cons_zero, List.set_cons_succ]) | (refine' held_pass (i := 0) _ (by kernel_rfl) (by kernel_rfl) (by kernel_rfl) _ _ hS _; rotate_left; (focus (simp only [List.getElem?_toArray, List.getElem?_cons_succ, List.getElem?_cons_zero]; rfl)); (focus exact fun _ _ _ h => h); (focus rfl); simp only [Act.put, List.setIfInBounds_toArray, List.set_cons_zero, List.set_cons_succ]))
  (first | (refine' held_do (i := 1) _ (by kernel_rfl) (by kernel_rfl) (by kernel_rfl) _ _ hS _ _; rotate_left 2; (focus (simp only [List.getElem?_toArray, List.getElem?_cons_succ, List.getElem?_cons_zero]; rfl)); (focus exact fun _ _ _ h => h); (focus rfl); (focus (intro w1 hSS R hR; have hc := hSS; (try simp only [Held, Cells] at hc); go_simp; (try go_bits); exact hR)); simp only [Act.put, List.setIfInBounds_toArray, List.set_cons_zero, List.set_cons_succ]) | (refine' held_pass (i := 1) _ (by kernel_rfl) (by kernel_rfl) (by kernel_rfl) _ _ hS _; rotate_left; (focus (simp only [List.getElem?_toArray, List.getElem?_cons_succ, List.getElem?_cons_zero]; rfl)); (focus exact fun _ _ _ h => h); (focus rfl); simp only [Act.put, List.setIfInBounds_toArray, List.set_cons_zero, List.set_cons_succ]))
  (first | (refine' held_do (i := 2) _ (by kernel_rfl) (by kernel_rfl) (by kernel_rfl) _ _ hS _ _; rotate_left 2; (focus (simp only [List.getElem?_toArray, List.getElem?_cons_succ, List.getElem?_cons_zero]; rfl)); (focus exact fun _ _ _ h => h); (focus rfl); (focus (intro w1 hSS R hR; have hc := hSS; (try simp only [Held, Cells] at hc); go_simp; (try go_bits); exact hR)); simp only [Act.put, List.setIfInBounds_toArray, List.set_cons_zero, List.set_cons_succ]) | (refine' held_pass (i := 2) _ (by kernel_rfl) (by kernel_rfl) (by kernel_rfl) _ _ hS _; rotate_left; (focus (simp only [List.getElem?_toArray, List.getElem?_cons_succ, List.getElem?_cons_zero]; rfl)); (focus exact fun _ _ _ h => h); (focus rfl); simp only [Act.put, List.setIfInBounds_toArray, List.set_cons_zero, List.set_cons_succ]))
  (first | (refine' held_do (i := 3) _ (by kernel_rfl) (by kernel_rfl) (by kernel_rfl) _ _ hS _ _; rotate_left 2; (focus (simp only [List.getElem?_toArray, List.getElem?_cons_succ, List.getElem?_cons_zero]; rfl)); (focus exact fun _ _ _ h => h); (focus rfl); (focus (intro w1 hSS R hR; have hc := hSS; (try simp only [Held, Cells] at hc); go_simp; (try go_bits); exact hR)); simp only [Act.put, List.setIfInBounds_toArray, List.set_cons_zero, List.set_cons_succ]) | (refine' held_pass (i := 3) _ (by kernel_rfl) (by kernel_rfl) (by kernel_rfl) _ _ hS _; rotate_left; (focus (simp only [List.getElem?_toArray, List.getElem?_cons_succ, List.getElem?_cons_zero]; rfl)); (focus exact fun _ _ _ h => h); (focus rfl); simp only [Act.put, List.setIfInBounds_toArray, List.set_cons_zero, List.set_cons_succ]))
  (first | (refine' held_do (i := 4) _ (by kernel_rfl) (by kernel_rfl) (by kernel_rfl) _ _ hS _ _; rotate_left 2; (focus (simp only [List.getElem?_toArray, List.getElem?_cons_succ, List.getElem?_cons_zero]; rfl)); (focus exact fun _ _ _ h => h); (focus rfl); (focus (intro w1 hSS R hR; have hc := hSS; (try simp only [Held, Cells] at hc); go_simp; (try go_bits); exact hR)); simp only [Act.put, List.setIfInBounds_toArray, List.set_cons_zero, List.set_cons_succ]) | (refine' held_pass (i := 4) _ (by kernel_rfl) (by kernel_rfl) (by kernel_rfl) _ _ hS _; rotate_left; (focus (simp only [List.getElem?_toArray, List.getElem?_cons_succ, List.getElem?_cons_zero]; rfl)); (focus exact fun _ _ _ h => h); (focus rfl); simp only [Act.put, List.setIfInBounds_toArray, List.set_cons_zero, List.set_cons_succ]))
  (first | (refine' held_do (i := 5) _ (by kernel_rfl) (by kernel_rfl) (by kernel_rfl) _ _ hS _ _; rotate_left 2; (focus (simp only [List.getElem?_toArray, List.getElem?_cons_succ, List.getElem?_cons_zero]; rfl)); (focus exact fun _ _ _ h => h); (focus rfl); (focus (intro w1 hSS R hR; have hc := hSS; (try simp only [Held, Cells] at hc); go_simp; (try go_bits); exact hR)); simp only [Act.put, List.setIfInBounds_toArray, List.set_cons_zero, List.set_cons_succ]) | (refine' held_pass (i := 5) _ (by kernel_rfl) (by kernel_rfl) (by kernel_rfl) _ _ hS _; rotate_left; (focus (simp only [List.getElem?_toArray, List.getElem?_cons_succ, List.getElem?_cons_zero]; rfl)); (focus exact fun _ _ _ h => h); (focus rfl); simp only [Act.put, List.setIfInBounds_toArray, List.set_cons_zero, List.set_cons_succ]))
  (first | (refine' held_do (i := 6) _ (by kernel_rfl) (by kernel_rfl) (by kernel_rfl) _ _ hS _ _; rotate_left 2; (focus (simp only [List.getElem?_toArray, List.getElem?_cons_succ, List.getElem?_cons_zero]; rfl)); (focus exact fun _ _ _ h => h); (focus rfl); (focus (intro w1 hSS R hR; have hc := hSS; (try simp only [Held, Cells] at hc); go_simp; (try go_bits); exact hR)); simp only [Act.put, List.setIfInBounds_toArray, List.set_cons_zero, List.set_cons_succ]) | (refine' held_pass (i := 6) _ (by kernel_rfl) (by kernel_rfl) (by kernel_rfl) _ _ hS _; rotate_left; (focus (simp only [List.getElem?_toArray, List.getElem?_cons_succ, List.getElem?_cons_zero]; rfl)); (focus exact fun _ _ _ h => h); (focus rfl); simp only [Act.put, List.setIfInBounds_toArray, List.set_cons_zero, List.set_cons_succ]))
  (first | (refine' held_do (i := 7) _ (by kernel_rfl) (by kernel_rfl) (by kernel_rfl) _ _ hS _ _; rotate_left 2; (focus (simp only [List.getElem?_toArray, List.getElem?_cons_succ, List.getElem?_cons_zero]; rfl)); (focus exact fun _ _ _ h => h); (focus rfl); (focus (intro w1 hSS R hR; have hc := hSS; (try simp only [Held, Cells] at hc); go_simp; (try go_bits); exact hR)); simp only [Act.put, List.setIfInBounds_toArray, List.set_cons_zero, List.set_cons_succ]) | (refine' held_pass (i := 7) _ (by kernel_rfl) (by kernel_rfl) (by kernel_rfl) _ _ hS _; rotate_left; (focus (simp only [List.getElem?_toArray, List.getElem?_cons_succ, List.getElem?_cons_zero]; rfl)); (focus exact fun _ _ _ h => h); (focus rfl); simp only [Act.put, List.setIfInBounds_toArray, List.set_cons_zero, List.set_cons_succ]))
  (first | (refine' held_do (i := 8) _ (by kernel_rfl) (by kernel_rfl) (by kernel_rfl) _ _ hS _ _; rotate_left 2; (focus (simp only [List.getElem?_toArray, List.getElem?_cons_succ, List.getElem?_cons_zero]; rfl)); (focus exact fun _ _ _ h => h); (focus rfl); (focus (intro w1 hSS R hR; have hc := hSS; (try simp only [Held, Cells] at hc); go_simp; (try go_bits); exact hR)); simp only [Act.put, List.setIfInBounds_toArray, List.set_cons_zero, List.set_cons_succ]) | (refine' held_pass (i := 8) _ (by kernel_rfl) (by kernel_rfl) (by kernel_rfl) _ _ hS _; rotate_left; (focus (simp only [List.getElem?_toArray, List.getElem?_cons_succ, List.getElem?_cons_zero]; rfl)); (focus exact fun _ _ _ h => h); (focus rfl); simp only [Act.put, List.setIfInBounds_toArray, List.set_cons_zero, List.set_cons_succ]))
  (first | (refine' held_do (i := 9) _ (by kernel_rfl) (by kernel_rfl) (by kernel_rfl) _ _ hS _ _; rotate_left 2; (focus (simp only [List.getElem?_toArray, List.getElem?_cons_succ, List.getElem?_cons_zero]; rfl)); (focus exact fun _ _ _ h => h); (focus rfl); (focus (intro w1 hSS R hR; have hc := hSS; (try simp only [Held, Cells] at hc); go_simp; (try go_bits); exact hR)); simp only [Act.put, List.setIfInBounds_toArray, List.set_cons_zero, List.set_cons_succ]) | (refine' held_pass (i := 9) _ (by kernel_rfl) (by kernel_rfl) (by kernel_rfl) _ _ hS _; rotate_left; (focus (simp only [List.getElem?_toArray, List.getElem?_cons_succ, List.getElem?_cons_zero]; rfl)); (focus exact fun _ _ _ h => h); (focus rfl); simp only [Act.put, List.setIfInBounds_toArray, List.set_cons_zero, List.set_cons_succ]))
  (first | (refine' held_do (i := 10) _ (by kernel_rfl) (by kernel_rfl) (by kernel_rfl) _ _ hS _ _; rotate_left 2; (focus (simp only [List.getElem?_toArray, List.getElem?_cons_succ, List.getElem?_cons_zero]; rfl)); (focus exact fun _ _ _ h => h); (focus rfl); (focus (intro w1 hSS R hR; have hc := hSS; (try simp only [Held, Cells] at hc); go_simp; (try go_bits); exact hR)); simp only [Act.put, List.setIfInBounds_toArray, List.set_cons_zero, List.set_cons_succ]) | (refine' held_pass (i := 10) _ (by kernel_rfl) (by kernel_rfl) (by kernel_rfl) _ _ hS _; rotate_left; (focus (simp only [List.getElem?_toArray, List.getElem?_cons_succ, List.getElem?_cons_zero]; rfl)); (focus exact fun _ _ _ h => h); (focus rfl); simp only [Act.put, List.setIfInBounds_toArray, List.set_cons_zero, List.set_cons_succ]))
  (first | (refine' held_do (i := 11) _ (by kernel_rfl) (by kernel_rfl) (by kernel_rfl) _ _ hS _ _; rotate_left 2; (focus (simp only [List.getElem?_toArray, List.getElem?_cons_succ, List.getElem?_cons_zero]; rfl)); (focus exact fun _ _ _ h => h); (focus rfl); (focus (intro w1 hSS R hR; have hc := hSS; (try simp only [Held, Cells] at hc); go_simp; (try go_bits); exact hR)); simp only [Act.put, List.setIfInBounds_toArray, List.set_cons_zero, List.set_cons_succ]) | (refine' held_pass (i := 11) _ (by kernel_rfl) (by kernel_rfl) (by kernel_rfl) _ _ hS _; rotate_left; (focus (simp only [List.getElem?_toArray, List.getElem?_cons_succ, List.getElem?_cons_zero]; rfl)); (focus exact fun _ _ _ h => h); (focus rfl); simp only [Act.put, List.setIfInBounds_toArray, List.set_cons_zero, List.set_cons_succ]))
  (first | (refine' held_do (i := 12) _ (by kernel_rfl) (by kernel_rfl) (by kernel_rfl) _ _ hS _ _; rotate_left 2; (focus (simp only [List.getElem?_toArray, List.getElem?_cons_succ, List.getElem?_cons_zero]; rfl)); (focus exact fun _ _ _ h => h); (focus rfl); (focus (intro w1 hSS R hR; have hc := hSS; (try simp only [Held, Cells] at hc); go_simp; (try go_bits); exact hR)); simp only [Act.put, List.setIfInBounds_toArray, List.set_cons_zero, List.set_cons_succ]) | (refine' held_pass (i := 12) _ (by kernel_rfl) (by kernel_rfl) (by kernel_rfl) _ _ hS _; rotate_left; (focus (simp only [List.getElem?_toArray, List.getElem?_cons_succ, List.getElem?_cons_zero]; rfl)); (focus exact fun _ _ _ h => h); (focus rfl); simp only [Act.put, List.setIfInBounds_toArray, List.set_cons_zero, List.set_cons_succ]))
  (refine' held_one (i := 13) _ (by kernel_rfl) _ _; rotate_left; (focus (simp only [List.getElem?_toArray, List.getElem?_cons_succ, List.getElem?_cons_zero]; rfl)); (focus rfl); intro K hK; go_simp)
  refine hK _ _ ⟨by go_simp, by go_simp, by go_simp⟩ ?_
  clear hK
  (try simp only [Act.put, List.setIfInBounds_toArray, List.set_cons_zero, List.set_cons_succ])
  rw [show (wv.alloc (.cells #[.int .u8 d0, .int .u8 d1, .int .u8 d2] 5)).drew = wv.drew.alloc (.cells [.int .u8 d0, .int .u8 d1, .int .u8 d2].toArray 5) from rfl]
  (refine' held_one (i := 14) _ (by kernel_rfl) _ _; rotate_left; (focus (simp only [List.getElem?_toArray, List.getElem?_cons_succ, List.getElem?_cons_zero]; rfl)); (focus rfl); intro K hK)
  (refine wp_append_two _ _ _ rfl (w.heap.size + 1) 5 iB _ 1 1 Tryd.underlying44 hi0 hz0 hz1 hz2 rfl (by omega) wv.drew 3 _ _ _ _ (by rfl) h35.drew (by rfl) rfl (by simp [Value.oneCell']) (by omega) (by unfold maxLen; omega) (by simp; omega) ?_; intro v4 w4 hown4 hgr4 hat4 hb4)
  obtain ⟨g4, cap4, e4, hcv4⟩ := own_text (l := [35, d0, d1, d2]) hown4 (by omega)
  subst e4
  rw [fs.out] at hcv4
  have j0 : w4.cell? ⟨w.heap.size, 0, none⟩ = some (.int .u8 r) := (hb4.cell (p := ⟨w.heap.size, 0, none⟩) (by simp)).trans k0
  have j1 : w4.cell? ⟨w.heap.size, 1, none⟩ = some (.int .u8 g) := (hb4.cell (p := ⟨w.heap.size, 1, none⟩) (by simp)).trans k1
  have j2 : w4.cell? ⟨w.heap.size, 2, none⟩ = some (.int .u8 b) := (hb4.cell (p := ⟨w.heap.size, 2, none⟩) (by simp)).trans k2
  refine hK _ _ ⟨j0, j1, j2⟩ ?_
  clear hK
  (try simp only [Act.put, List.setIfInBounds_toArray, List.set_cons_zero, List.set_cons_succ])
  (refine' held_one (i := 15) _ (by kernel_rfl) _ _; rotate_left; (focus (simp only [List.getElem?_toArray, List.getElem?_cons_succ, List.getElem?_cons_zero]; rfl)); (focus rfl); intro K hK; go_simp)
  refine hK _ _ ⟨by go_simp, by go_simp, by go_simp⟩ ?_
  clear hK
  (try simp only [Act.put, List.setIfInBounds_toArray, List.set_cons_zero, List.set_cons_succ])
  (refine' held_one (i := 16) _ (by kernel_rfl) _ _; rotate_left; (focus (simp only [List.getElem?_toArray, List.getElem?_cons_succ, List.getElem?_cons_zero]; rfl)); (focus rfl); intro K hK; go_simp)
  refine hK _ _ ⟨by go_simp, by go_simp, by go_simp⟩ ?_
  clear hK
  (try simp only [Act.put, List.setIfInBounds_toArray, List.set_cons_zero, List.set_cons_succ])
  refine wpAnyH_done (by kernel_rfl) ?_ _
  go_wp2
  go_ret
  exact ⟨rfl, hbv.drew.trans (hb4.mono (by omega))⟩
end
section
set_option linter.unusedSimpArgs false
set_option linter.unusedVariables false
def Nib.n1 (x : Nib) : Nat → Nat
  | 0 => x.r1
  | 1 => x.g1
  | 2 => x.b1
  | _ => x.a1
def Nib.n2 (x : Nib) : Nat → Nat
  | 0 => x.r2
  | 1 => x.g2
  | 2 => x.b2
  | _ => x.a2
def Nib.bs (x : Nib) : Nat → List Int
  | 0 => [35]
  | k + 1 => x.bs k ++ [dig (x.n1 k), dig (x.n2 k)]
theorem bs_three (x : Nib) : strOfNums (x.bs 3) = ⟨#[35, hxU x.r1, hxU x.r2, hxU x.g1, hxU x.g2, hxU x.b1, hxU x.b2]⟩ := by
  simp [strOfNums, dig, Nib.bs, Nib.n1, Nib.n2]
theorem bs_four (x : Nib) : strOfNums (x.bs 4) = ⟨#[35, hxU x.r1, hxU x.r2, hxU x.g1, hxU x.g2, hxU x.b1, hxU x.b2, hxU x.a1, hxU x.a2]⟩ := by
  simp [strOfNums, dig, Nib.bs, Nib.n1, Nib.n2]
theorem bs_snoc (x : Nib) (k : Nat) : vB (x.bs k) ++ [.int .u8 (dig (x.n1 k)), .int .u8 (dig (x.n2 k))] = vB (x.bs (k + 1)) := by
  simp [vB, Nib.bs]
theorem own_slice {w : World} {base : Nat} {e : TypeId} {size n : Nat} {v : Value} {xs : List Value} (h : w.ownsRow base e size v n xs) : ∃ s cap, v = .slice s n cap := by
  rcases h.2 with ⟨rfl, rfl⟩ | ⟨g, cap, cur, rfl, _⟩
  · exact ⟨_, _, rfl⟩
  · exact ⟨_, _, rfl⟩
set_option maxHeartbeats 2000000 in
theorem ltext_four (r g b a : Int) (x : Nib) (w : World) (h : x.Of r g b a) (ha : a < 255) : Calls Tryd.prog 32 #[.agg #[.int .u8 (r), .int .u8 (g), .int .u8 (b), .int .u8 (a)]] w fun e w' => e = .returned (.string (⟨#[35, hxU x.r1, hxU x.r2, hxU x.g1, hxU x.g2, hxU x.b1, hxU x.b2, hxU x.a1, hxU x.a2]⟩)) ∧ Below w.heap.size w w' := by
  obtain ⟨iB, hi0, hz0, hz1, hz2⟩ := info_parts infoB
  obtain ⟨⟨er, hr1, hr2⟩, ⟨eg, hg1, hg2⟩, ⟨eb, hb1, hb2⟩, ⟨ea, ha1, ha2⟩⟩ := h
  rw [← bs_four x]
  have hne255 : (a == 255) = false := by simp; omega
  replace er := Lib.hid er
  replace eg := Lib.hid eg
  replace eb := Lib.hid eb
  replace ea := Lib.hid ea
  go_enter Tryd.func32, Tryd.ntmps32
  go_wp2_with fail
  have h35 : (((w.alloc (.cells #[.int .u8 r, .int .u8 g, .int .u8 b, .int .u8 a] 30)).alloc (.cells #[.int .u8 35] 5)).alloc (.cells #[.int .u8 r, .int .u8 g, .int .u8 b, .int .u8 a] 5)).ownsRow (w.heap.size + 1) 5 1 (.slice (some ⟨w.heap.size + 1, 0, none⟩) 1 1) 1 (vB [35]) := by
    have := World.ownsRow_lit (base := w.heap.size + 1) (e := 5) (size := 1) (w.alloc (.cells #[.int .u8 r, .int .u8 g, .int .u8 b, .int .u8 a] 30)) #[.int .u8 35] 1 (by simp) (by unfold maxLen; omega) rfl
    have h2 : ((w.alloc (.cells #[.int .u8 r, .int .u8 g, .int .u8 b, .int .u8 a] 30)).alloc (.cells #[.int .u8 35] 5)).ownsRow (w.heap.size + 1) 5 1 (.slice (some ⟨w.heap.size + 1, 0, none⟩) 1 1) 1 (vB [35]) := by simpa [vB] using this
    exact h2.alloc _
  have hbl : (((w.alloc (.cells #[.int .u8 r, .int .u8 g, .int .u8 b, .int .u8 a] 30)).alloc (.cells #[.int .u8 35] 5)).alloc (.cells #[.int .u8 r, .int .u8 g, .int .u8 b, .int .u8 a] 5)).heap[w.heap.size + 1 + 1]? = some (.cells #[.int .u8 r, .int .u8 g, .int .u8 b, .int .u8 a] 5 (0, 0)) := by
    have := heap_alloc_new ((w.alloc (.cells #[.int .u8 r, .int .u8 g, .int .u8 b, .int .u8 a] 30)).alloc (.cells #[.int .u8 35] 5)) (.cells #[.int .u8 r, .int .u8 g, .int .u8 b, .int .u8 a] 5)
    simpa using this
  have hbv : Below w.heap.size w (((w.alloc (.cells #[.int .u8 r, .int .u8 g, .int .u8 b, .int .u8 a] 30)).alloc (.cells #[.int .u8 35] 5)).alloc (.cells #[.int .u8 r, .int .u8 g, .int .u8 b, .int .u8 a] 5)) := (((Below.refl _ _).alloc (Nat.le_refl _) _).alloc (by simp) _).alloc (by simp; omega) _
  have hsz : w.heap.size + 1 + 1 < (((w.alloc (.cells #[.int .u8 r, .int .u8 g, .int .u8 b, .int .u8 a] 30)).alloc (.cells #[.int .u8 35] 5)).alloc (.cells #[.int .u8 r, .int .u8 g, .int .u8 b, .int .u8 a] 5)).heap.size := by simp
  obtain ⟨wv, hwv⟩ : ∃ wv, ((w.alloc (.cells #[.int .u8 r, .int .u8 g, .int .u8 b, .int .u8 a] 30)).alloc (.cells #[.int .u8 35] 5)).alloc (.cells #[.int .u8 r, .int .u8 g, .int .u8 b, .int .u8 a] 5) = wv := ⟨_, rfl⟩
  rw [hwv] at h35 hbl hbv hsz ⊢
  clear hwv
  replace h35 := Lib.hid h35
  replace hbl := Lib.hid hbl
  replace hbv := Lib.hid hbv
  go_loopw [3, 58] (fun vb i wr => ∃ k : Nat, k ≤ 4 ∧ i = .int .i64 k ∧ Hid (wr.ownsRow (w.heap.size + 1) 5 1 vb (1 + 2 * k) (vB (x.bs k)) ∧ (∀ g, vb.ownBlock = some g → g ≠ w.heap.size + 1 + 1) ∧ wr.heap[w.heap.size + 1 + 1]? = some (.cells #[.int .u8 r, .int .u8 g, .int .u8 b, .int .u8 a] 5 (0, 0)) ∧ Below w.heap.size w wr ∧ w.heap.size + 1 + 1 < wr.heap.size)) (fun _ i _ => 4 - (intOf i).toNat)
  case atStart => exact ⟨0, Nat.zero_le _, rfl, Lib.hid ⟨h35.out, (fun g hg => by simp [Value.ownBlock] at hg; omega), hbl.out, hbv.out, hsz⟩⟩
  case round =>
    obtain ⟨k, hk, rfl, hh⟩ := hrel
    obtain ⟨hown, hne, hblk, hbr, hlt⟩ := hh.out
    clear hh h35 hbl hbv hsz
    by_cases hkn : k < 4
    · obtain ⟨v, hv, n10, n20, hve⟩ : ∃ v : Int, wr.cell? ⟨w.heap.size + 1 + 1, k, none⟩ = some (.int .u8 v) ∧ x.n1 k < 16 ∧ x.n2 k < 16 ∧ v = 16 * (x.n1 k : Int) + x.n2 k := by
        have hc : ∀ j u, (#[.int .u8 r, .int .u8 g, .int .u8 b, .int .u8 a] : Array Value)[j]? = some u → wr.cell? ⟨w.heap.size + 1 + 1, j, none⟩ = some u := fun j u hj => by simp only [World.cell?, hblk]; simpa using hj
        rcases (by omega : k = 0 ∨ k = 1 ∨ k = 2 ∨ k = 3) with rfl | rfl | rfl | rfl
        · exact ⟨r, hc 0 _ rfl, hr1, hr2, er.out⟩
        · exact ⟨g, hc 1 _ rfl, hg1, hg2, eg.out⟩
        · exact ⟨b, hc 2 _ rfl, hb1, hb2, eb.out⟩
        · first | omega | exact ⟨a, hc 3 _ rfl, ha1, ha2, ea.out⟩
      have hkk : (k : Int) < 4 := by omega
      have hsn := bs_snoc x k
      have D0 := fun w => dig_ix (x.n1 k) n10 w
      have D1 := fun w => dig_ix (x.n2 k) n20 w
      have q1 : bits .and .u8 v 15 = (x.n2 k : Int) := by rw [hve]; exact and15b _ _ n10 n20
      have q0 : v / 16 = (x.n1 k : Int) := by omega
      have v0 : 0 ≤ v := by omega
      have v1 : v ≤ 255 := by omega
      replace hsn := Lib.hid hsn
      obtain ⟨s5, c5, rfl⟩ := own_slice hown
      generalize dig (x.n1 k) = d0 at *
      generalize dig (x.n2 k) = d1 at *
      clear hve
      replace hown := Lib.hid hown
      replace hblk := Lib.hid hblk
      replace hne := Lib.hid hne
      go_wp2_with fail
      refine held_begin (fun w' => True) (by kernel_rfl) trivial (fun hS => ?_)
      (first | (refine' held_do (i := 0) _ (by kernel_rfl) (by kernel_rfl) (by kernel_rfl) _ _ hS _ _; rotate_left 2; (focus (simp only [List.getElem?_toArray, List.getElem?_cons_succ, List.getElem?_cons_zero]; rfl)); (focus exact fun _ _ _ h => h); (focus rfl); (focus (intro w1 hSS R hR; have hc := hSS; (try simp only [Held, Cells] at hc); go_simp; (try go_bits); exact hR)); simp only [Act.put, List.setIfInBounds_toArray, List.set_cons_zero, List.set_cons_succ]) | (refine' held_pass (i := 0) _ (by kernel_rfl) (by kernel_rfl) (by kernel_rfl) _ _ hS _; rotate_left; (focus (simp only [List.getElem?_toArray, List.getElem?_cons_succ, List.getElem?_cons_zero]; rfl)); (focus exact fun _ _ _ h => h); (focus rfl); simp only [Act.put, List.setIfInBounds_toArray, List.set_cons_zero, List.set_cons_succ]))
      (first | (refine' held_do (i := 1) _ (by kernel_rfl) (by kernel_rfl) (by kernel_rfl) _ _ hS _ _; rotate_left 2; (focus (simp only [List.getElem?_toArray, List.getElem?_cons_succ, List.getElem?_cons_zero]; rfl)); (focus exact fun _ _ _ h => h); (focus rfl); (focus (intro w1 hSS R hR; have hc := hSS; (try simp only [Held, Cells] at hc); go_simp; (try go_bits); exact hR)); simp only [Act.put, List.setIfInBounds_toArray, List.set_cons_zero, List.set_cons_succ]) | (refine' held_pass (i := 1) _ (by kernel_rfl) (by kernel_rfl) (by kernel_rfl) _ _ hS _; rotate_left; (focus (simp only [List.getElem?_toArray, List.getElem?_cons_succ, List.getElem?_cons_zero]; rfl)); (focus exact fun _ _ _ h => h); (focus rfl); simp only [Act.put, List.setIfInBounds_toArray, List.set_cons_zero, List.set_cons_succ]))
      (first | (refine' held_do (i := 2) _ (by kernel_rfl) (by kernel_rfl) (by kernel_rfl) _ _ hS _ _; rotate_left 2; (focus (simp only [List.getElem?_toArray, List.getElem?_cons_succ, List.getElem?_cons_zero]; rfl)); (focus exact fun _ _ _ h => h); (focus rfl); (focus (intro w1 hSS R hR; have hc := hSS; (try simp only [Held, Cells] at hc); go_simp; (try go_bits); exact hR)); simp only [Act.put, List.setIfInBounds_toArray, List.set_cons_zero, List.set_cons_succ]) | (refine' held_pass (i := 2) _ (by kernel_rfl) (by kernel_rfl) (by kernel_rfl) _ _ hS _; rotate_left; (focus (simp only [List.getElem?_toArray, List.getElem?_cons_succ, List.getElem?_cons_zero]; rfl)); (focus exact fun _ _ _ h => h); (focus rfl); simp only [Act.put, List.setIfInBounds_toArray, List.set_cons_zero, List.set_cons_succ]))
      (first | (refine' held_do (i := 3) _ (by kernel_rfl) (by kernel_rfl) (by kernel_rfl) _ _ hS _ _; rotate_left 2; (focus (simp only [List.getElem?_toArray, List.getElem?_cons_succ, List.getElem?_cons_zero]; rfl)); (focus exact fun _ _ _ h => h); (focus rfl); (focus (intro w1 hSS R hR; have hc := hSS; (try simp only [Held, Cells] at hc); go_simp; (try go_bits); exact hR)); simp only [Act.put, List.setIfInBounds_toArray, List.set_cons_zero, List.set_cons_succ]) | (refine' held_pass (i := 3) _ (by kernel_rfl) (by kernel_rfl) (by kernel_rfl) _ _ hS _; rotate_left; (focus (simp only [List.getElem?_toArray, List.getElem?_cons_succ, List.getElem?_cons_zero]; rfl)); (focus exact fun _ _ _ h => h); (focus rfl); simp only [Act.put, List.setIfInBounds_toArray, List.set_cons_zero, List.set_cons_succ]))
      (first | (refine' held_do (i := 4) _ (by kernel_rfl) (by kernel_rfl) (by kernel_rfl) _ _ hS _ _; rotate_left 2; (focus (simp only [List.getElem?_toArray, List.getElem?_cons_succ, List.getElem?_cons_zero]; rfl)); (focus exact fun _ _ _ h => h); (focus rfl); (focus (intro w1 hSS R hR; have hc := hSS; (try simp only [Held, Cells] at hc); go_simp; (try go_bits); exact hR)); simp only [Act.put, List.setIfInBounds_toArray, List.set_cons_zero, List.set_cons_succ]) | (refine' held_pass (i := 4) _ (by kernel_rfl) (by kernel_rfl) (by kernel_rfl) _ _ hS _; rotate_left; (focus (simp only [List.getElem?_toArray, List.getElem?_cons_succ, List.getElem?_cons_zero]; rfl)); (focus exact fun _ _ _ h => h); (focus rfl); simp only [Act.put, List.setIfInBounds_toArray, List.set_cons_zero, List.set_cons_succ]))
      (first | (refine' held_do (i := 5) _ (by kernel_rfl) (by kernel_rfl) (by kernel_rfl) _ _ hS _ _; rotate_left 2; (focus (simp only [List.getElem?_toArray, List.getElem?_cons_succ, List.getElem?_cons_zero]; rfl)); (focus exact fun _ _ _ h => h); (focus rfl); (focus (intro w1 hSS R hR; have hc := hSS; (try simp only [Held, Cells] at hc); go_simp; (try go_bits); exact hR)); simp only [Act.put, List.setIfInBounds_toArray, List.set_cons_zero, List.set_cons_succ]) | (refine' held_pass (i := 5) _ (by kernel_rfl) (by kernel_rfl) (by kernel_rfl) _ _ hS _; rotate_left; (focus (simp only [List.getElem?_toArray, List.getElem?_cons_succ, List.getElem?_cons_zero]; rfl)); (focus exact fun _ _ _ h => h); (focus rfl); simp only [Act.put, List.setIfInBounds_toArray, List.set_cons_zero, List.set_cons_succ]))
      (first | (refine' held_do (i := 6) _ (by kernel_rfl) (by kernel_rfl) (by kernel_rfl) _ _ hS _ _; rotate_left 2; (focus (simp only [List.getElem?_toArray, List.getElem?_cons_succ, List.getElem?_cons_zero]; rfl)); (focus exact fun _ _ _ h => h); (focus rfl); (focus (intro w1 hSS R hR; have hc := hSS; (try simp only [Held, Cells] at hc); go_simp; (try go_bits); exact hR)); simp only [Act.put, List.setIfInBounds_toArray, List.set_cons_zero, List.set_cons_succ]) | (refine' held_pass (i := 6) _ (by kernel_rfl) (by kernel_rfl) (by kernel_rfl) _ _ hS _; rotate_left; (focus (simp only [List.getElem?_toArray, List.getElem?_cons_succ, List.getElem?_cons_zero]; rfl)); (focus exact fun _ _ _ h => h); (focus rfl); simp only [Act.put, List.setIfInBounds_toArray, List.set_cons_zero, List.set_cons_succ]))
      (refine' held_one (i := 7) _ (by kernel_rfl) _ _; rotate_left; (focus (simp only [List.getElem?_toArray, List.getElem?_cons_succ, List.getElem?_cons_zero]; rfl)); (focus rfl); intro K hK; go_simp)
      refine hK _ _ trivial ?_
      clear hK
      (try simp only [Act.put, List.setIfInBounds_toArray, List.set_cons_zero, List.set_cons_succ])
      rw [show (wr.alloc (.cells #[.int .u8 d0, .int .u8 d1] 5)).drew = wr.drew.alloc (.cells [.int .u8 d0, .int .u8 d1].toArray 5) from rfl]
      (refine' held_one (i := 8) _ (by kernel_rfl) _ _; rotate_left; (focus (simp only [List.getElem?_toArray, List.getElem?_cons_succ, List.getElem?_cons_zero]; rfl)); (focus rfl); intro K hK)
      (refine wp_append_two _ _ _ rfl (w.heap.size + 1) 5 iB _ 1 1 Tryd.underlying44 hi0 hz0 hz1 hz2 rfl (by omega) wr.drew 2 _ _ _ _ (by rfl) hown.out.drew (by rfl) rfl (by simp [Value.oneCell']) (by omega) (by unfold maxLen; omega) (by simp; omega) ?_; intro v4 w4 hown4 hgr4 hat4 hb4)
      refine hK _ _ trivial ?_
      clear hK
      (try simp only [Act.put, List.setIfInBounds_toArray, List.set_cons_zero, List.set_cons_succ])
      (refine' held_one (i := 9) _ (by kernel_rfl) _ _; rotate_left; (focus (simp only [List.getElem?_toArray, List.getElem?_cons_succ, List.getElem?_cons_zero]; rfl)); (focus rfl); intro K hK; go_simp)
      refine hK _ _ trivial ?_
      clear hK
      (try simp only [Act.put, List.setIfInBounds_toArray, List.set_cons_zero, List.set_cons_succ])
      refine wpAnyH_done (by kernel_rfl) ?_ _
      have hblk4 : w4.heap[w.heap.size + 1 + 1]? = some (.cells #[.int .u8 r, .int .u8 g, .int .u8 b, .int .u8 a] 5 (0, 0)) := (hgr4.block _ (by simpa using hlt) (fun e => hne.out _ e.symm rfl)).trans hblk.out
      have hne4 : ∀ g, v4.ownBlock = some g → g ≠ w.heap.size + 1 + 1 := fun g hg => by
        rcases hat4 g hg with h3 | h3
        · exact hne.out g h3
        · simp at h3; omega
      have hb04 : Below w.heap.size w w4 := hbr.drew.trans (hb4.mono (by omega))
      have hlt4 : w.heap.size + 1 + 1 < w4.heap.size := Nat.lt_of_lt_of_le hlt (by have := hgr4.size; simpa using this)
      rw [hsn.out, show 1 + 2 * k + 2 = 1 + 2 * (k + 1) by omega] at hown4
      replace hown4 := Lib.hid hown4
      clear hblk hne hown hgr4 hat4 hb4
      replace hblk4 := Lib.hid hblk4
      replace hne4 := Lib.hid hne4
      go_wp2
      go_roundw
      case rel => exact ⟨k + 1, by omega, by go_num, Lib.hid ⟨hown4.out, hne4.out, hblk4.out, hb04, hlt4⟩⟩
      case measure => simp [intOf]; omega
    · obtain rfl : k = 4 := by omega
      obtain ⟨g4, cap4, e4, hcv4⟩ := own_text hown (by omega)
      subst e4
      clear hown hne hblk
      go_wp2
      go_ret
      exact ⟨rfl, hbr⟩
set_option maxHeartbeats 4000000 in
theorem ltext_three (r g b : Int) (x : Nib) (w : World) (h : x.Of r g b 255) (hs : x.short = false) : Calls Tryd.prog 32 #[.agg #[.int .u8 (r), .int .u8 (g), .int .u8 (b), .int .u8 (255)]] w fun e w' => e = .returned (.string (⟨#[35, hxU x.r1, hxU x.r2, hxU x.g1, hxU x.g2, hxU x.b1, hxU x.b2]⟩)) ∧ Below w.heap.size w w' := by
  obtain ⟨iB, hi0, hz0, hz1, hz2⟩ := info_parts infoB
  obtain ⟨⟨er, hr1, hr2⟩, ⟨eg, hg1, hg2⟩, ⟨eb, hb1, hb2⟩, ea⟩ := h
  clear ea
  rw [← bs_three x]
  have R := fun w => short_any r w ⟨by omega, by omega⟩
  have G := fun w => short_any g w ⟨by omega, by omega⟩
  have B := fun w => short_any b w ⟨by omega, by omega⟩
  rw [nib17 r _ _ er hr1 hr2] at R
  rw [nib17 g _ _ eg hg1 hg2] at G
  rw [nib17 b _ _ eb hb1 hb2] at B
  unfold Nib.short at hs
  have hh : (decide (x.r1 = x.r2) = false) ∨ (decide (x.r1 = x.r2) = true ∧ decide (x.g1 = x.g2) = false) ∨ (decide (x.r1 = x.r2) = true ∧ decide (x.g1 = x.g2) = true ∧ decide (x.b1 = x.b2) = false) := by
    simp at hs
    by_cases c1 : x.r1 = x.r2
    · by_cases c2 : x.g1 = x.g2
      · exact .inr (.inr ⟨by simpa using c1, by simpa using c2, by simpa using hs c1 c2⟩)
      · exact .inr (.inl ⟨by simpa using c1, by simpa using c2⟩)
    · exact .inl (by simpa using c1)
  clear hs
  replace er := Lib.hid er
  replace eg := Lib.hid eg
  replace eb := Lib.hid eb
  rcases hh with c1 | ⟨c1, c2⟩ | ⟨c1, c2, c3⟩
  · rw [c1] at R
    clear c1 G B
    (try replace R := Lib.hid R)
    (try replace G := Lib.hid G)
    (try replace B := Lib.hid B)
    go_enter Tryd.func32, Tryd.ntmps32
    go_wp2_with (first | (go_at_call 42; (with_reducible refine (R.out _).mono ?_); rintro e w1 ⟨rfl, rfl⟩) | (go_at_call 42; (with_reducible refine (G.out _).mono ?_); rintro e w1 ⟨rfl, rfl⟩) | (go_at_call 42; (with_reducible refine (B.out _).mono ?_); rintro e w1 ⟨rfl, rfl⟩) | fail)
    have h35 : (((w.alloc (.cells #[.int .u8 r, .int .u8 g, .int .u8 b, .int .u8 255] 30)).alloc (.cells #[.int .u8 35] 5)).alloc (.cells #[.int .u8 r, .int .u8 g, .int .u8 b, .int .u8 255] 5)).ownsRow (w.heap.size + 1) 5 1 (.slice (some ⟨w.heap.size + 1, 0, none⟩) 1 1) 1 (vB [35]) := by
      have := World.ownsRow_lit (base := w.heap.size + 1) (e := 5) (size := 1) (w.alloc (.cells #[.int .u8 r, .int .u8 g, .int .u8 b, .int .u8 255] 30)) #[.int .u8 35] 1 (by simp) (by unfold maxLen; omega) rfl
      have h2 : ((w.alloc (.cells #[.int .u8 r, .int .u8 g, .int .u8 b, .int .u8 255] 30)).alloc (.cells #[.int .u8 35] 5)).ownsRow (w.heap.size + 1) 5 1 (.slice (some ⟨w.heap.size + 1, 0, none⟩) 1 1) 1 (vB [35]) := by simpa [vB] using this
      exact h2.alloc _
    have hbl : (((w.alloc (.cells #[.int .u8 r, .int .u8 g, .int .u8 b, .int .u8 255] 30)).alloc (.cells #[.int .u8 35] 5)).alloc (.cells #[.int .u8 r, .int .u8 g, .int .u8 b, .int .u8 255] 5)).heap[w.heap.size + 1 + 1]? = some (.cells #[.int .u8 r, .int .u8 g, .int .u8 b, .int .u8 255] 5 (0, 0)) := by
      have := heap_alloc_new ((w.alloc (.cells #[.int .u8 r, .int .u8 g, .int .u8 b, .int .u8 255] 30)).alloc (.cells #[.int .u8 35] 5)) (.cells #[.int .u8 r, .int .u8 g, .int .u8 b, .int .u8 255] 5)
      simpa using this
    have hbv : Below w.heap.size w (((w.alloc (.cells #[.int .u8 r, .int .u8 g, .int .u8 b, .int .u8 255] 30)).alloc (.cells #[.int .u8 35] 5)).alloc (.cells #[.int .u8 r, .int .u8 g, .int .u8 b, .int .u8 255] 5)) := (((Below.refl _ _).alloc (Nat.le_refl _) _).alloc (by simp) _).alloc (by simp; omega) _
    have hsz : w.heap.size + 1 + 1 < (((w.alloc (.cells #[.int .u8 r, .int .u8 g, .int .u8 b, .int .u8 255] 30)).alloc (.cells #[.int .u8 35] 5)).alloc (.cells #[.int .u8 r, .int .u8 g, .int .u8 b, .int .u8 255] 5)).heap.size := by simp
    obtain ⟨wv, hwv⟩ : ∃ wv, ((w.alloc (.cells #[.int .u8 r, .int .u8 g, .int .u8 b, .int .u8 255] 30)).alloc (.cells #[.int .u8 35] 5)).alloc (.cells #[.int .u8 r, .int .u8 g, .int .u8 b, .int .u8 255] 5) = wv := ⟨_, rfl⟩
    rw [hwv] at h35 hbl hbv hsz ⊢
    clear hwv
    replace h35 := Lib.hid h35
    replace hbl := Lib.hid hbl
    replace hbv := Lib.hid hbv
    go_loopw [3, 58] (fun vb i wr => ∃ k : Nat, k ≤ 3 ∧ i = .int .i64 k ∧ Hid (wr.ownsRow (w.heap.size + 1) 5 1 vb (1 + 2 * k) (vB (x.bs k)) ∧ (∀ g, vb.ownBlock = some g → g ≠ w.heap.size + 1 + 1) ∧ wr.heap[w.heap.size + 1 + 1]? = some (.cells #[.int .u8 r, .int .u8 g, .int .u8 b, .int .u8 255] 5 (0, 0)) ∧ Below w.heap.size w wr ∧ w.heap.size + 1 + 1 < wr.heap.size)) (fun _ i _ => 3 - (intOf i).toNat)
    case atStart => exact ⟨0, Nat.zero_le _, rfl, Lib.hid ⟨h35.out, (fun g hg => by simp [Value.ownBlock] at hg; omega), hbl.out, hbv.out, hsz⟩⟩
    case round =>
      obtain ⟨k, hk, rfl, hh⟩ := hrel
      obtain ⟨hown, hne, hblk, hbr, hlt⟩ := hh.out
      clear hh h35 hbl hbv hsz
      by_cases hkn : k < 3
      · obtain ⟨v, hv, n10, n20, hve⟩ : ∃ v : Int, wr.cell? ⟨w.heap.size + 1 + 1, k, none⟩ = some (.int .u8 v) ∧ x.n1 k < 16 ∧ x.n2 k < 16 ∧ v = 16 * (x.n1 k : Int) + x.n2 k := by
          have hc : ∀ j u, (#[.int .u8 r, .int .u8 g, .int .u8 b, .int .u8 255] : Array Value)[j]? = some u → wr.cell? ⟨w.heap.size + 1 + 1, j, none⟩ = some u := fun j u hj => by simp only [World.cell?, hblk]; simpa using hj
          rcases (by omega : k = 0 ∨ k = 1 ∨ k = 2 ∨ k = 3) with rfl | rfl | rfl | rfl
          · exact ⟨r, hc 0 _ rfl, hr1, hr2, er.out⟩
          · exact ⟨g, hc 1 _ rfl, hg1, hg2, eg.out⟩
          · exact ⟨b, hc 2 _ rfl, hb1, hb2, eb.out⟩
          · first | omega | exact ⟨255, hc 3 _ rfl, ha1, ha2, ea.out⟩
        have hkk : (k : Int) < 3 := by omega
        have hsn := bs_snoc x k
        have D0 := fun w => dig_ix (x.n1 k) n10 w
        have D1 := fun w => dig_ix (x.n2 k) n20 w
        have q1 : bits .and .u8 v 15 = (x.n2 k : Int) := by rw [hve]; exact and15b _ _ n10 n20
        have q0 : v / 16 = (x.n1 k : Int) := by omega
        have v0 : 0 ≤ v := by omega
        have v1 : v ≤ 255 := by omega
        replace hsn := Lib.hid hsn
        obtain ⟨s5, c5, rfl⟩ := own_slice hown
        generalize dig (x.n1 k) = d0 at *
        generalize dig (x.n2 k) = d1 at *
        clear hve
        replace hown := Lib.hid hown
        replace hblk := Lib.hid hblk
        replace hne := Lib.hid hne
        go_wp2_with fail
        refine held_begin (fun w' => True) (by kernel_rfl) trivial (fun hS => ?_)
        (first | (refine' held_do (i := 0) _ (by kernel_rfl) (by kernel_rfl) (by kernel_rfl) _ _ hS _ _; rotate_left 2; (focus (simp only [List.getElem?_toArray, List.getElem?_cons_succ, List.getElem?_cons_zero]; rfl)); (focus exact fun _ _ _ h => h); (focus rfl); (focus (intro w1 hSS R hR; have hc := hSS; (try simp only [Held, Cells] at hc); go_simp; (try go_bits); exact hR)); simp only [Act.put, List.setIfInBounds_toArray, List.set_cons_zero, List.set_cons_succ]) | (refine' held_pass (i := 0) _ (by kernel_rfl) (by kernel_rfl) (by kernel_rfl) _ _ hS _; rotate_left; (focus (simp only [List.getElem?_toArray, List.getElem?_cons_succ, List.getElem?_cons_zero]; rfl)); (focus exact fun _ _ _ h => h); (focus rfl); simp only [Act.put, List.setIfInBounds_toArray, List.set_cons_zero, List.set_cons_succ]))
        (first | (refine' held_do (i := 1) _ (by kernel_rfl) (by kernel_rfl) (by kernel_rfl) _ _ hS _ _; rotate_left 2; (focus (simp only [List.getElem?_toArray, List.getElem?_cons_succ, List.getElem?_cons_zero]; rfl)); (focus exact fun _ _ _ h => h); (focus rfl); (focus (intro w1 hSS R hR; have hc := hSS; (try simp only [Held, Cells] at hc); go_simp; (try go_bits); exact hR)); simp only [Act.put, List.setIfInBounds_toArray, List.set_cons_zero, List.set_cons_succ]) | (refine' held_pass (i := 1) _ (by kernel_rfl) (by kernel_rfl) (by kernel_rfl) _ _ hS _; rotate_left; (focus (simp only [List.getElem?_toArray, List.getElem?_cons_succ, List.getElem?_cons_zero]; rfl)); (focus exact fun _ _ _ h => h); (focus rfl); simp only [Act.put, List.setIfInBounds_toArray, List.set_cons_zero, List.set_cons_succ]))
        (first | (refine' held_do (i := 2) _ (by kernel_rfl) (by kernel_rfl) (by kernel_rfl) _ _ hS _ _; rotate_left 2; (focus (simp only [List.getElem?_toArray, List.getElem?_cons_succ, List.getElem?_cons_zero]; rfl)); (focus exact fun _ _ _ h => h); (focus rfl); (focus (intro w1 hSS R hR; have hc := hSS; (try simp only [Held, Cells] at hc); go_simp; (try go_bits); exact hR)); simp only [Act.put, List.setIfInBounds_toArray, List.set_cons_zero, List.set_cons_succ]) | (refine' held_pass (i := 2) _ (by kernel_rfl) (by kernel_rfl) (by kernel_rfl) _ _ hS _; rotate_left; (focus (simp only [List.getElem?_toArray, List.getElem?_cons_succ, List.getElem?_cons_zero]; rfl)); (focus exact fun _ _ _ h => h); (focus rfl); simp only [Act.put, List.setIfInBounds_toArray, List.set_cons_zero, List.set_cons_succ]))
        (first | (refine' held_do (i := 3) _ (by kernel_rfl) (by kernel_rfl) (by kernel_rfl) _ _ hS _ _; rotate_left 2; (focus (simp only [List.getElem?_toArray, List.getElem?_cons_succ, List.getElem?_cons_zero]; rfl)); (focus exact fun _ _ _ h => h); (focus rfl); (focus (intro w1 hSS R hR; have hc := hSS; (try simp only [Held, Cells] at hc); go_simp; (try go_bits); exact hR)); simp only [Act.put, List.setIfInBounds_toArray, List.set_cons_zero, List.set_cons_succ]) | (refine' held_pass (i := 3) _ (by kernel_rfl) (by kernel_rfl) (by kernel_rfl) _ _ hS _; rotate_left; (focus (simp only [List.getElem?_toArray, List.getElem?_cons_succ, List.getElem?_cons_zero]; rfl)); (focus exact fun _ _ _ h => h); (focus rfl); simp only [Act.put, List.setIfInBounds_toArray, List.set_cons_zero, List.set_cons_succ]))
        (first | (refine' held_do (i := 4) _ (by kernel_rfl) (by kernel_rfl) (by kernel_rfl) _ _ hS _ _; rotate_left 2; (focus (simp only [List.getElem?_toArray, List.getElem?_cons_succ, List.getElem?_cons_zero]; rfl)); (focus exact fun _ _ _ h => h); (focus rfl); (focus (intro w1 hSS R hR; have hc := hSS; (try simp only [Held, Cells] at hc); go_simp; (try go_bits); exact hR)); simp only [Act.put, List.setIfInBounds_toArray, List.set_cons_zero, List.set_cons_succ]) | (refine' held_pass (i := 4) _ (by kernel_rfl) (by kernel_rfl) (by kernel_rfl) _ _ hS _; rotate_left; (focus (simp only [List.getElem?_toArray, List.getElem?_cons_succ, List.getElem?_cons_zero]; rfl)); (focus exact fun _ _ _ h => h); (focus rfl); simp only [Act.put, List.setIfInBounds_toArray, List.set_cons_zero, List.set_cons_succ]))
        (first | (refine' held_do (i := 5) _ (by kernel_rfl) (by kernel_rfl) (by kernel_rfl) _ _ hS _ _; rotate_left 2; (focus (simp only [List.getElem?_toArray, List.getElem?_cons_succ, List.getElem?_cons_zero]; rfl)); (focus exact fun _ _ _ h => h); (focus rfl); (focus (intro w1 hSS R hR; have hc := hSS; (try simp only [Held, Cells] at hc); go_simp; (try go_bits); exact hR)); simp only [Act.put, List.setIfInBounds_toArray, List.set_cons_zero, List.set_cons_succ]) | (refine' held_pass (i := 5) _ (by kernel_rfl) (by kernel_rfl) (by kernel_rfl) _ _ hS _; rotate_left; (focus (simp only [List.getElem?_toArray, List.getElem?_cons_succ, List.getElem?_cons_zero]; rfl)); (focus exact fun _ _ _ h => h); (focus rfl); simp only [Act.put, List.setIfInBounds_toArray, List.set_cons_zero, List.set_cons_succ]))
        (first | (refine' held_do (i := 6) _ (by kernel_rfl) (by kernel_rfl) (by kernel_rfl) _ _ hS _ _; rotate_left 2; (focus (simp only [List.getElem?_toArray, List.getElem?_cons_succ, List.getElem?_cons_zero]; rfl)); (focus exact fun _ _ _ h => h); (focus rfl); (focus (intro w1 hSS R hR; have hc := hSS; (try simp only [Held, Cells] at hc); go_simp; (try go_bits); exact hR)); simp only [Act.put, List.setIfInBounds_toArray, List.set_cons_zero, List.set_cons_succ]) | (refine' held_pass (i := 6) _ (by kernel_rfl) (by kernel_rfl) (by kernel_rfl) _ _ hS _; rotate_left; (focus (simp only [List.getElem?_toArray, List.getElem?_cons_succ, List.getElem?_cons_zero]; rfl)); (focus exact fun _ _ _ h => h); (focus rfl); simp only [Act.put, List.setIfInBounds_toArray, List.set_cons_zero, List.set_cons_succ]))
        (refine' held_one (i := 7) _ (by kernel_rfl) _ _; rotate_left; (focus (simp only [List.getElem?_toArray, List.getElem?_cons_succ, List.getElem?_cons_zero]; rfl)); (focus rfl); intro K hK; go_simp)
        refine hK _ _ trivial ?_
        clear hK
        (try simp only [Act.put, List.setIfInBounds_toArray, List.set_cons_zero, List.set_cons_succ])
        rw [show (wr.alloc (.cells #[.int .u8 d0, .int .u8 d1] 5)).drew = wr.drew.alloc (.cells [.int .u8 d0, .int .u8 d1].toArray 5) from rfl]
        (refine' held_one (i := 8) _ (by kernel_rfl) _ _; rotate_left; (focus (simp only [List.getElem?_toArray, List.getElem?_cons_succ, List.getElem?_cons_zero]; rfl)); (focus rfl); intro K hK)
        (refine wp_append_two _ _ _ rfl (w.heap.size + 1) 5 iB _ 1 1 Tryd.underlying44 hi0 hz0 hz1 hz2 rfl (by omega) wr.drew 2 _ _ _ _ (by rfl) hown.out.drew (by rfl) rfl (by simp [Value.oneCell']) (by omega) (by unfold maxLen; omega) (by simp; omega) ?_; intro v4 w4 hown4 hgr4 hat4 hb4)
        refine hK _ _ trivial ?_
        clear hK
        (try simp only [Act.put, List.setIfInBounds_toArray, List.set_cons_zero, List.set_cons_succ])
        (refine' held_one (i := 9) _ (by kernel_rfl) _ _; rotate_left; (focus (simp only [List.getElem?_toArray, List.getElem?_cons_succ, List.getElem?_cons_zero]; rfl)); (focus rfl); intro K hK; go_simp)
        refine hK _ _ trivial ?_
        clear hK
        (try simp only [Act.put, List.setIfInBounds_toArray, List.set_cons_zero, List.set_cons_succ])
        refine wpAnyH_done (by kernel_rfl) ?_ _
        have hblk4 : w4.heap[w.heap.size + 1 + 1]? = some (.cells #[.int .u8 r, .int .u8 g, .int .u8 b, .int .u8 255] 5 (0, 0)) := (hgr4.block _ (by simpa using hlt) (fun e => hne.out _ e.symm rfl)).trans hblk.out
        have hne4 : ∀ g, v4.ownBlock = some g → g ≠ w.heap.size + 1 + 1 := fun g hg => by
          rcases hat4 g hg with h3 | h3
          · exact hne.out g h3
          · simp at h3; omega
        have hb04 : Below w.heap.size w w4 := hbr.drew.trans (hb4.mono (by omega))
        have hlt4 : w.heap.size + 1 + 1 < w4.heap.size := Nat.lt_of_lt_of_le hlt (by have := hgr4.size; simpa using this)
        rw [hsn.out, show 1 + 2 * k + 2 = 1 + 2 * (k + 1) by omega] at hown4
        replace hown4 := Lib.hid hown4
        clear hblk hne hown hgr4 hat4 hb4
        replace hblk4 := Lib.hid hblk4
        replace hne4 := Lib.hid hne4
        go_wp2
        go_roundw
        case rel => exact ⟨k + 1, by omega, by go_num, Lib.hid ⟨hown4.out, hne4.out, hblk4.out, hb04, hlt4⟩⟩
        case measure => simp [intOf]; omega
      · obtain rfl : k = 3 := by omega
        obtain ⟨g4, cap4, e4, hcv4⟩ := own_text hown (by omega)
        subst e4
        clear hown hne hblk
        go_wp2
        go_ret
        exact ⟨rfl, hbr⟩
  · rw [c1] at R
    rw [c2] at G
    clear c1 c2 B
    (try replace R := Lib.hid R)
    (try replace G := Lib.hid G)
    (try replace B := Lib.hid B)
    go_enter Tryd.func32, Tryd.ntmps32
    go_wp2_with (first | (go_at_call 42; (with_reducible refine (R.out _).mono ?_); rintro e w1 ⟨rfl, rfl⟩) | (go_at_call 42; (with_reducible refine (G.out _).mono ?_); rintro e w1 ⟨rfl, rfl⟩) | (go_at_call 42; (with_reducible refine (B.out _).mono ?_); rintro e w1 ⟨rfl, rfl⟩) | fail)
    have h35 : (((w.alloc (.cells #[.int .u8 r, .int .u8 g, .int .u8 b, .int .u8 255] 30)).alloc (.cells #[.int .u8 35] 5)).alloc (.cells #[.int .u8 r, .int .u8 g, .int .u8 b, .int .u8 255] 5)).ownsRow (w.heap.size + 1) 5 1 (.slice (some ⟨w.heap.size + 1, 0, none⟩) 1 1) 1 (vB [35]) := by
      have := World.ownsRow_lit (base := w.heap.size + 1) (e := 5) (size := 1) (w.alloc (.cells #[.int .u8 r, .int .u8 g, .int .u8 b, .int .u8 255] 30)) #[.int .u8 35] 1 (by simp) (by unfold maxLen; omega) rfl
      have h2 : ((w.alloc (.cells #[.int .u8 r, .int .u8 g, .int .u8 b, .int .u8 255] 30)).alloc (.cells #[.int .u8 35] 5)).ownsRow (w.heap.size + 1) 5 1 (.slice (some ⟨w.heap.size + 1, 0, none⟩) 1 1) 1 (vB [35]) := by simpa [vB] using this
      exact h2.alloc _
    have hbl : (((w.alloc (.cells #[.int .u8 r, .int .u8 g, .int .u8 b, .int .u8 255] 30)).alloc (.cells #[.int .u8 35] 5)).alloc (.cells #[.int .u8 r, .int .u8 g, .int .u8 b, .int .u8 255] 5)).heap[w.heap.size + 1 + 1]? = some (.cells #[.int .u8 r, .int .u8 g, .int .u8 b, .int .u8 255] 5 (0, 0)) := by
      have := heap_alloc_new ((w.alloc (.cells #[.int .u8 r, .int .u8 g, .int .u8 b, .int .u8 255] 30)).alloc (.cells #[.int .u8 35] 5)) (.cells #[.int .u8 r, .int .u8 g, .int .u8 b, .int .u8 255] 5)
      simpa using this
    have hbv : Below w.heap.size w (((w.alloc (.cells #[.int .u8 r, .int .u8 g, .int .u8 b, .int .u8 255] 30)).alloc (.cells #[.int .u8 35] 5)).alloc (.cells #[.int .u8 r, .int .u8 g, .int .u8 b, .int .u8 255] 5)) := (((Below.refl _ _).alloc (Nat.le_refl _) _).alloc (by simp) _).alloc (by simp; omega) _
    have hsz : w.heap.size + 1 + 1 < (((w.alloc (.cells #[.int .u8 r, .int .u8 g, .int .u8 b, .int .u8 255] 30)).alloc (.cells #[.int .u8 35] 5)).alloc (.cells #[.int .u8 r, .int .u8 g, .int .u8 b, .int .u8 255] 5)).heap.size := by simp
    obtain ⟨wv, hwv⟩ : ∃ wv, ((w.alloc (.cells #[.int .u8 r, .int .u8 g, .int .u8 b, .int .u8 255] 30)).alloc (.cells #[.int .u8 35] 5)).alloc (.cells #[.int .u8 r, .int .u8 g, .int .u8 b, .int .u8 255] 5) = wv := ⟨_, rfl⟩
    rw [hwv] at h35 hbl hbv hsz ⊢
    clear hwv
    replace h35 := Lib.hid h35
    replace hbl := Lib.hid hbl
    replace hbv := Lib.hid hbv
    go_loopw [3, 58] (fun vb i wr => ∃ k : Nat, k ≤ 3 ∧ i = .int .i64 k ∧ Hid (wr.ownsRow (w.heap.size + 1) 5 1 vb (1 + 2 * k) (vB (x.bs k)) ∧ (∀ g, vb.ownBlock = some g → g ≠ w.heap.size + 1 + 1) ∧ wr.heap[w.heap.size + 1 + 1]? = some (.cells #[.int .u8 r, .int .u8 g, .int .u8 b, .int .u8 255] 5 (0, 0)) ∧ Below w.heap.size w wr ∧ w.heap.size + 1 + 1 < wr.heap.size)) (fun _ i _ => 3 - (intOf i).toNat)
    case atStart => exact ⟨0, Nat.zero_le _, rfl, Lib.hid ⟨h35.out, (fun g hg => by simp [Value.ownBlock] at hg; omega), hbl.out, hbv.out, hsz⟩⟩
    case round =>
      obtain ⟨k, hk, rfl, hh⟩ := hrel
      obtain ⟨hown, hne, hblk, hbr, hlt⟩ := hh.out
      clear hh h35 hbl hbv hsz
      by_cases hkn : k < 3
      · obtain ⟨v, hv, n10, n20, hve⟩ : ∃ v : Int, wr.cell? ⟨w.heap.size + 1 + 1, k, none⟩ = some (.int .u8 v) ∧ x.n1 k < 16 ∧ x.n2 k < 16 ∧ v = 16 * (x.n1 k : Int) + x.n2 k := by
          have hc : ∀ j u, (#[.int .u8 r, .int .u8 g, .int .u8 b, .int .u8 255] : Array Value)[j]? = some u → wr.cell? ⟨w.heap.size + 1 + 1, j, none⟩ = some u := fun j u hj => by simp only [World.cell?, hblk]; simpa using hj
          rcases (by omega : k = 0 ∨ k = 1 ∨ k = 2 ∨ k = 3) with rfl | rfl | rfl | rfl
          · exact ⟨r, hc 0 _ rfl, hr1, hr2, er.out⟩
          · exact ⟨g, hc 1 _ rfl, hg1, hg2, eg.out⟩
          · exact ⟨b, hc 2 _ rfl, hb1, hb2, eb.out⟩
          · first | omega | exact ⟨255, hc 3 _ rfl, ha1, ha2, ea.out⟩
        have hkk : (k : Int) < 3 := by omega
        have hsn := bs_snoc x k
        have D0 := fun w => dig_ix (x.n1 k) n10 w
        have D1 := fun w => dig_ix (x.n2 k) n20 w
        have q1 : bits .and .u8 v 15 = (x.n2 k : Int) := by rw [hve]; exact and15b _ _ n10 n20
        have q0 : v / 16 = (x.n1 k : Int) := by omega
        have v0 : 0 ≤ v := by omega
        have v1 : v ≤ 255 := by omega
        replace hsn := Lib.hid hsn
        obtain ⟨s5, c5, rfl⟩ := own_slice hown
        generalize dig (x.n1 k) = d0 at *
        generalize dig (x.n2 k) = d1 at *
        clear hve
        replace hown := Lib.hid hown
        replace hblk := Lib.hid hblk
        replace hne := Lib.hid hne
        go_wp2_with fail
        refine held_begin (fun w' => True) (by kernel_rfl) trivial (fun hS => ?_)
        (first | (refine' held_do (i := 0) _ (by kernel_rfl) (by kernel_rfl) (by kernel_rfl) _ _ hS _ _; rotate_left 2; (focus (simp only [List.getElem?_toArray, List.getElem?_cons_succ, List.getElem?_cons_zero]; rfl)); (focus exact fun _ _ _ h => h); (focus rfl); (focus (intro w1 hSS R hR; have hc := hSS; (try simp only [Held, Cells] at hc); go_simp; (try go_bits); exact hR)); simp only [Act.put, List.setIfInBounds_toArray, List.set_cons_zero, List.set_cons_succ]) | (refine' held_pass (i := 0) _ (by kernel_rfl) (by kernel_rfl) (by kernel_rfl) _ _ hS _; rotate_left; (focus (simp only [List.getElem?_toArray, List.getElem?_cons_succ, List.getElem?_cons_zero]; rfl)); (focus exact fun _ _ _ h => h); (focus rfl); simp only [Act.put, List.setIfInBounds_toArray, List.set_cons_zero, List.set_cons_succ]))
        (first | (refine' held_do (i := 1) _ (by kernel_rfl) (by kernel_rfl) (by kernel_rfl) _ _ hS _ _; rotate_left 2; (focus (simp only [List.getElem?_toArray, List.getElem?_cons_succ, List.getElem?_cons_zero]; rfl)); (focus exact fun _ _ _ h => h); (focus rfl); (focus (intro w1 hSS R hR; have hc := hSS; (try simp only [Held, Cells] at hc); go_simp; (try go_bits); exact hR)); simp only [Act.put, List.setIfInBounds_toArray, List.set_cons_zero, List.set_cons_succ]) | (refine' held_pass (i := 1) _ (by kernel_rfl) (by kernel_rfl) (by kernel_rfl) _ _ hS _; rotate_left; (focus (simp only [List.getElem?_toArray, List.getElem?_cons_succ, List.getElem?_cons_zero]; rfl)); (focus exact fun _ _ _ h => h); (focus rfl); simp only [Act.put, List.setIfInBounds_toArray, List.set_cons_zero, List.set_cons_succ]))
        (first | (refine' held_do (i := 2) _ (by kernel_rfl) (by kernel_rfl) (by kernel_rfl) _ _ hS _ _; rotate_left 2; (focus (simp only [List.getElem?_toArray, List.getElem?_cons_succ, List.getElem?_cons_zero]; rfl)); (focus exact fun _ _ _ h => h); (focus rfl); (focus (intro w1 hSS R hR; have hc := hSS; (try simp only [Held, Cells] at hc); go_simp; (try go_bits); exact hR)); simp only [Act.put, List.setIfInBounds_toArray, List.set_cons_zero, List.set_cons_succ]) | (refine' held_pass (i := 2) _ (by kernel_rfl) (by kernel_rfl) (by kernel_rfl) _ _ hS _; rotate_left; (focus (simp only [List.getElem?_toArray, List.getElem?_cons_succ, List.getElem?_cons_zero]; rfl)); (focus exact fun _ _ _ h => h); (focus rfl); simp only [Act.put, List.setIfInBounds_toArray, List.set_cons_zero, List.set_cons_succ]))
        (first | (refine' held_do (i := 3) _ (by kernel_rfl) (by kernel_rfl) (by kernel_rfl) _ _ hS _ _; rotate_left 2; (focus (simp only [List.getElem?_toArray, List.getElem?_cons_succ, List.getElem?_cons_zero]; rfl)); (focus exact fun _ _ _ h => h); (focus rfl); (focus (intro w1 hSS R hR; have hc := hSS; (try simp only [Held, Cells] at hc); go_simp; (try go_bits); exact hR)); simp only [Act.put, List.setIfInBounds_toArray, List.set_cons_zero, List.set_cons_succ]) | (refine' held_pass (i := 3) _ (by kernel_rfl) (by kernel_rfl) (by kernel_rfl) _ _ hS _; rotate_left; (focus (simp only [List.getElem?_toArray, List.getElem?_cons_succ, List.getElem?_cons_zero]; rfl)); (focus exact fun _ _ _ h => h); (focus rfl); simp only [Act.put, List.setIfInBounds_toArray, List.set_cons_zero, List.set_cons_succ]))
        (first | (refine' held_do (i := 4) _ (by kernel_rfl) (by kernel_rfl) (by kernel_rfl) _ _ hS _ _; rotate_left 2; (focus (simp only [List.getElem?_toArray, List.getElem?_cons_succ, List.getElem?_cons_zero]; rfl)); (focus exact fun _ _ _ h => h); (focus rfl); (focus (intro w1 hSS R hR; have hc := hSS; (try simp only [Held, Cells] at hc); go_simp; (try go_bits); exact hR)); simp only [Act.put, List.setIfInBounds_toArray, List.set_cons_zero, List.set_cons_succ]) | (refine' held_pass (i := 4) _ (by kernel_rfl) (by kernel_rfl) (by kernel_rfl) _ _ hS _; rotate_left; (focus (simp only [List.getElem?_toArray, List.getElem?_cons_succ, List.getElem?_cons_zero]; rfl)); (focus exact fun _ _ _ h => h); (focus rfl); simp only [Act.put, List.setIfInBounds_toArray, List.set_cons_zero, List.set_cons_succ]))
        (first | (refine' held_do (i := 5) _ (by kernel_rfl) (by kernel_rfl) (by kernel_rfl) _ _ hS _ _; rotate_left 2; (focus (simp only [List.getElem?_toArray, List.getElem?_cons_succ, List.getElem?_cons_zero]; rfl)); (focus exact fun _ _ _ h => h); (focus rfl); (focus (intro w1 hSS R hR; have hc := hSS; (try simp only [Held, Cells] at hc); go_simp; (try go_bits); exact hR)); simp only [Act.put, List.setIfInBounds_toArray, List.set_cons_zero, List.set_cons_succ]) | (refine' held_pass (i := 5) _ (by kernel_rfl) (by kernel_rfl) (by kernel_rfl) _ _ hS _; rotate_left; (focus (simp only [List.getElem?_toArray, List.getElem?_cons_succ, List.getElem?_cons_zero]; rfl)); (focus exact fun _ _ _ h => h); (focus rfl); simp only [Act.put, List.setIfInBounds_toArray, List.set_cons_zero, List.set_cons_succ]))
        (first | (refine' held_do (i := 6) _ (by kernel_rfl) (by kernel_rfl) (by kernel_rfl) _ _ hS _ _; rotate_left 2; (focus (simp only [List.getElem?_toArray, List.getElem?_cons_succ, List.getElem?_cons_zero]; rfl)); (focus exact fun _ _ _ h => h); (focus rfl); (focus (intro w1 hSS R hR; have hc := hSS; (try simp only [Held, Cells] at hc); go_simp; (try go_bits); exact hR)); simp only [Act.put, List.setIfInBounds_toArray, List.set_cons_zero, List.set_cons_succ]) | (refine' held_pass (i := 6) _ (by kernel_rfl) (by kernel_rfl) (by kernel_rfl) _ _ hS _; rotate_left; (focus (simp only [List.getElem?_toArray, List.getElem?_cons_succ, List.getElem?_cons_zero]; rfl)); (focus exact fun _ _ _ h => h); (focus rfl); simp only [Act.put, List.setIfInBounds_toArray, List.set_cons_zero, List.set_cons_succ]))
        (refine' held_one (i := 7) _ (by kernel_rfl) _ _; rotate_left; (focus (simp only [List.getElem?_toArray, List.getElem?_cons_succ, List.getElem?_cons_zero]; rfl)); (focus rfl); intro K hK; go_simp)
        refine hK _ _ trivial ?_
        clear hK
        (try simp only [Act.put, List.setIfInBounds_toArray, List.set_cons_zero, List.set_cons_succ])
        rw [show (wr.alloc (.cells #[.int .u8 d0, .int .u8 d1] 5)).drew = wr.drew.alloc (.cells [.int .u8 d0, .int .u8 d1].toArray 5) from rfl]
        (refine' held_one (i := 8) _ (by kernel_rfl) _ _; rotate_left; (focus (simp only [List.getElem?_toArray, List.getElem?_cons_succ, List.getElem?_cons_zero]; rfl)); (focus rfl); intro K hK)
        (refine wp_append_two _ _ _ rfl (w.heap.size + 1) 5 iB _ 1 1 Tryd.underlying44 hi0 hz0 hz1 hz2 rfl (by omega) wr.drew 2 _ _ _ _ (by rfl) hown.out.drew (by rfl) rfl (by simp [Value.oneCell']) (by omega) (by unfold maxLen; omega) (by simp; omega) ?_; intro v4 w4 hown4 hgr4 hat4 hb4)
        refine hK _ _ trivial ?_
        clear hK
        (try simp only [Act.put, List.setIfInBounds_toArray, List.set_cons_zero, List.set_cons_succ])
        (refine' held_one (i := 9) _ (by kernel_rfl) _ _; rotate_left; (focus (simp only [List.getElem?_toArray, List.getElem?_cons_succ, List.getElem?_cons_zero]; rfl)); (focus rfl); intro K hK; go_simp)
        refine hK _ _ trivial ?_
        clear hK
        (try simp only [Act.put, List.setIfInBounds_toArray, List.set_cons_zero, List.set_cons_succ])
        refine wpAnyH_done (by kernel_rfl) ?_ _
        have hblk4 : w4.heap[w.heap.size + 1 + 1]? = some (.cells #[.int .u8 r, .int .u8 g, .int .u8 b, .int .u8 255] 5 (0, 0)) := (hgr4.block _ (by simpa using hlt) (fun e => hne.out _ e.symm rfl)).trans hblk.out
        have hne4 : ∀ g, v4.ownBlock = some g → g ≠ w.heap.size + 1 + 1 := fun g hg => by
          rcases hat4 g hg with h3 | h3
          · exact hne.out g h3
          · simp at h3; omega
        have hb04 : Below w.heap.size w w4 := hbr.drew.trans (hb4.mono (by omega))
        have hlt4 : w.heap.size + 1 + 1 < w4.heap.size := Nat.lt_of_lt_of_le hlt (by have := hgr4.size; simpa using this)
        rw [hsn.out, show 1 + 2 * k + 2 = 1 + 2 * (k + 1) by omega] at hown4
        replace hown4 := Lib.hid hown4
        clear hblk hne hown hgr4 hat4 hb4
        replace hblk4 := Lib.hid hblk4
        replace hne4 := Lib.hid hne4
        go_wp2
        go_roundw
        case rel => exact ⟨k + 1, by omega, by go_num, Lib.hid ⟨hown4.out, hne4.out, hblk4.out, hb04, hlt4⟩⟩
        case measure => simp [intOf]; omega
      · obtain rfl : k = 3 := by omega
        obtain ⟨g4, cap4, e4, hcv4⟩ := own_text hown (by omega)
        subst e4
        clear hown hne hblk
        go_wp2
        go_ret
        exact ⟨rfl, hbr⟩
  · rw [c1] at R
    rw [c2] at G
    rw [c3] at B
    clear c1 c2 c3
    (try replace R := Lib.hid R)
    (try replace G := Lib.hid G)
    (try replace B := Lib.hid B)
    go_enter Tryd.func32, Tryd.ntmps32
    go_wp2_with (first | (go_at_call 42; (with_reducible refine (R.out _).mono ?_); rintro e w1 ⟨rfl, rfl⟩) | (go_at_call 42; (with_reducible refine (G.out _).mono ?_); rintro e w1 ⟨rfl, rfl⟩) | (go_at_call 42; (with_reducible refine (B.out _).mono ?_); rintro e w1 ⟨rfl, rfl⟩) | fail)
    have h35 : (((w.alloc (.cells #[.int .u8 r, .int .u8 g, .int .u8 b, .int .u8 255] 30)).alloc (.cells #[.int .u8 35] 5)).alloc (.cells #[.int .u8 r, .int .u8 g, .int .u8 b, .int .u8 255] 5)).ownsRow (w.heap.size + 1) 5 1 (.slice (some ⟨w.heap.size + 1, 0, none⟩) 1 1) 1 (vB [35]) := by
      have := World.ownsRow_lit (base := w.heap.size + 1) (e := 5) (size := 1) (w.alloc (.cells #[.int .u8 r, .int .u8 g, .int .u8 b, .int .u8 255] 30)) #[.int .u8 35] 1 (by simp) (by unfold maxLen; omega) rfl
      have h2 : ((w.alloc (.cells #[.int .u8 r, .int .u8 g, .int .u8 b, .int .u8 255] 30)).alloc (.cells #[.int .u8 35] 5)).ownsRow (w.heap.size + 1) 5 1 (.slice (some ⟨w.heap.size + 1, 0, none⟩) 1 1) 1 (vB [35]) := by simpa [vB] using this
      exact h2.alloc _
    have hbl : (((w.alloc (.cells #[.int .u8 r, .int .u8 g, .int .u8 b, .int .u8 255] 30)).alloc (.cells #[.int .u8 35] 5)).alloc (.cells #[.int .u8 r, .int .u8 g, .int .u8 b, .int .u8 255] 5)).heap[w.heap.size + 1 + 1]? = some (.cells #[.int .u8 r, .int .u8 g, .int .u8 b, .int .u8 255] 5 (0, 0)) := by
      have := heap_alloc_new ((w.alloc (.cells #[.int .u8 r, .int .u8 g, .int .u8 b, .int .u8 255] 30)).alloc (.cells #[.int .u8 35] 5)) (.cells #[.int .u8 r, .int .u8 g, .int .u8 b, .int .u8 255] 5)
      simpa using this
    have hbv : Below w.heap.size w (((w.alloc (.cells #[.int .u8 r, .int .u8 g, .int .u8 b, .int .u8 255] 30)).alloc (.cells #[.int .u8 35] 5)).alloc (.cells #[.int .u8 r, .int .u8 g, .int .u8 b, .int .u8 255] 5)) := (((Below.refl _ _).alloc (Nat.le_refl _) _).alloc (by simp) _).alloc (by simp; omega) _
    have hsz : w.heap.size + 1 + 1 < (((w.alloc (.cells #[.int .u8 r, .int .u8 g, .int .u8 b, .int .u8 255] 30)).alloc (.cells #[.int .u8 35] 5)).alloc (.cells #[.int .u8 r, .int .u8 g, .int .u8 b, .int .u8 255] 5)).heap.size := by simp
    obtain ⟨wv, hwv⟩ : ∃ wv, ((w.alloc (.cells #[.int .u8 r, .int .u8 g, .int .u8 b, .int .u8 255] 30)).alloc (.cells #[.int .u8 35] 5)).alloc (.cells #[.int .u8 r, .int .u8 g, .int .u8 b, .int .u8 255] 5) = wv := ⟨_, rfl⟩
    rw [hwv] at h35 hbl hbv hsz ⊢
    clear hwv
    replace h35 := Lib.hid h35
    replace hbl := Lib.hid hbl
    replace hbv := Lib.hid hbv
    go_loopw [3, 58] (fun vb i wr => ∃ k : Nat, k ≤ 3 ∧ i = .int .i64 k ∧ Hid (wr.ownsRow (w.heap.size + 1) 5 1 vb (1 + 2 * k) (vB (x.bs k)) ∧ (∀ g, vb.ownBlock = some g → g ≠ w.heap.size + 1 + 1) ∧ wr.heap[w.heap.size + 1 + 1]? = some (.cells #[.int .u8 r, .int .u8 g, .int .u8 b, .int .u8 255] 5 (0, 0)) ∧ Below w.heap.size w wr ∧ w.heap.size + 1 + 1 < wr.heap.size)) (fun _ i _ => 3 - (intOf i).toNat)
    case atStart => exact ⟨0, Nat.zero_le _, rfl, Lib.hid ⟨h35.out, (fun g hg => by simp [Value.ownBlock] at hg; omega), hbl.out, hbv.out, hsz⟩⟩
    case round =>
      obtain ⟨k, hk, rfl, hh⟩ := hrel
      obtain ⟨hown, hne, hblk, hbr, hlt⟩ := hh.out
      clear hh h35 hbl hbv hsz
      by_cases hkn : k < 3
      · obtain ⟨v, hv, n10, n20, hve⟩ : ∃ v : Int, wr.cell? ⟨w.heap.size + 1 + 1, k, none⟩ = some (.int .u8 v) ∧ x.n1 k < 16 ∧ x.n2 k < 16 ∧ v = 16 * (x.n1 k : Int) + x.n2 k := by
          have hc : ∀ j u, (#[.int .u8 r, .int .u8 g, .int .u8 b, .int .u8 255] : Array Value)[j]? = some u → wr.cell? ⟨w.heap.size + 1 + 1, j, none⟩ = some u := fun j u hj => by simp only [World.cell?, hblk]; simpa using hj
          rcases (by omega : k = 0 ∨ k = 1 ∨ k = 2 ∨ k = 3) with rfl | rfl | rfl | rfl
          · exact ⟨r, hc 0 _ rfl, hr1, hr2, er.out⟩
          · exact ⟨g, hc 1 _ rfl, hg1, hg2, eg.out⟩
          · exact ⟨b, hc 2 _ rfl, hb1, hb2, eb.out⟩
          · first | omega | exact ⟨255, hc 3 _ rfl, ha1, ha2, ea.out⟩
        have hkk : (k : Int) < 3 := by omega
        have hsn := bs_snoc x k
        have D0 := fun w => dig_ix (x.n1 k) n10 w
        have D1 := fun w => dig_ix (x.n2 k) n20 w
        have q1 : bits .and .u8 v 15 = (x.n2 k : Int) := by rw [hve]; exact and15b _ _ n10 n20
        have q0 : v / 16 = (x.n1 k : Int) := by omega
        have v0 : 0 ≤ v := by omega
        have v1 : v ≤ 255 := by omega
        replace hsn := Lib.hid hsn
        obtain ⟨s5, c5, rfl⟩ := own_slice hown
        generalize dig (x.n1 k) = d0 at *
        generalize dig (x.n2 k) = d1 at *
        clear hve
        replace hown := Lib.hid hown
        replace hblk := Lib.hid hblk
        replace hne := Lib.hid hne
        go_wp2_with fail
        refine held_begin (fun w' => True) (by kernel_rfl) trivial (fun hS => ?_)
        (first | (refine' held_do (i := 0) _ (by kernel_rfl) (by kernel_rfl) (by kernel_rfl) _ _ hS _ _; rotate_left 2; (focus (simp only [List.getElem?_toArray, List.getElem?_cons_succ, List.getElem?_cons_zero]; rfl)); (focus exact fun _ _ _ h => h); (focus rfl); (focus (intro w1 hSS R hR; have hc := hSS; (try simp only [Held, Cells] at hc); go_simp; (try go_bits); exact hR)); simp only [Act.put, List.setIfInBounds_toArray, List.set_cons_zero, List.set_cons_succ]) | (refine' held_pass (i := 0) _ (by kernel_rfl) (by kernel_rfl) (by kernel_rfl) _ _ hS _; rotate_left; (focus (simp only [List.getElem?_toArray, List.getElem?_cons_succ, List.getElem?_cons_zero]; rfl)); (focus exact fun _ _ _ h => h); (focus rfl); simp only [Act.put, List.setIfInBounds_toArray, List.set_cons_zero, List.set_cons_succ]))
        (first | (refine' held_do (i := 1) _ (by kernel_rfl) (by kernel_rfl) (by kernel_rfl) _ _ hS _ _; rotate_left 2; (focus (simp only [List.getElem?_toArray, List.getElem?_cons_succ, List.getElem?_cons_zero]; rfl)); (focus exact fun _ _ _ h => h); (focus rfl); (focus (intro w1 hSS R hR; have hc := hSS; (try simp only [Held, Cells] at hc); go_simp; (try go_bits); exact hR)); simp only [Act.put, List.setIfInBounds_toArray, List.set_cons_zero, List.set_cons_succ]) | (refine' held_pass (i := 1) _ (by kernel_rfl) (by kernel_rfl) (by kernel_rfl) _ _ hS _; rotate_left; (focus (simp only [List.getElem?_toArray, List.getElem?_cons_succ, List.getElem?_cons_zero]; rfl)); (focus exact fun _ _ _ h => h); (focus rfl); simp only [Act.put, List.setIfInBounds_toArray, List.set_cons_zero, List.set_cons_succ]))
        (first | (refine' held_do (i := 2) _ (by kernel_rfl) (by kernel_rfl) (by kernel_rfl) _ _ hS _ _; rotate_left 2; (focus (simp only [List.getElem?_toArray, List.getElem?_cons_succ, List.getElem?_cons_zero]; rfl)); (focus exact fun _ _ _ h => h); (focus rfl); (focus (intro w1 hSS R hR; have hc := hSS; (try simp only [Held, Cells] at hc); go_simp; (try go_bits); exact hR)); simp only [Act.put, List.setIfInBounds_toArray, List.set_cons_zero, List.set_cons_succ]) | (refine' held_pass (i := 2) _ (by kernel_rfl) (by kernel_rfl) (by kernel_rfl) _ _ hS _; rotate_left; (focus (simp only [List.getElem?_toArray, List.getElem?_cons_succ, List.getElem?_cons_zero]; rfl)); (focus exact fun _ _ _ h => h); (focus rfl); simp only [Act.put, List.setIfInBounds_toArray, List.set_cons_zero, List.set_cons_succ]))
        (first | (refine' held_do (i := 3) _ (by kernel_rfl) (by kernel_rfl) (by kernel_rfl) _ _ hS _ _; rotate_left 2; (focus (simp only [List.getElem?_toArray, List.getElem?_cons_succ, List.getElem?_cons_zero]; rfl)); (focus exact fun _ _ _ h => h); (focus rfl); (focus (intro w1 hSS R hR; have hc := hSS; (try simp only [Held, Cells] at hc); go_simp; (try go_bits); exact hR)); simp only [Act.put, List.setIfInBounds_toArray, List.set_cons_zero, List.set_cons_succ]) | (refine' held_pass (i := 3) _ (by kernel_rfl) (by kernel_rfl) (by kernel_rfl) _ _ hS _; rotate_left; (focus (simp only [List.getElem?_toArray, List.getElem?_cons_succ, List.getElem?_cons_zero]; rfl)); (focus exact fun _ _ _ h => h); (focus rfl); simp only [Act.put, List.setIfInBounds_toArray, List.set_cons_zero, List.set_cons_succ]))
        (first | (refine' held_do (i := 4) _ (by kernel_rfl) (by kernel_rfl) (by kernel_rfl) _ _ hS _ _; rotate_left 2; (focus (simp only [List.getElem?_toArray, List.getElem?_cons_succ, List.getElem?_cons_zero]; rfl)); (focus exact fun _ _ _ h => h); (focus rfl); (focus (intro w1 hSS R hR; have hc := hSS; (try simp only [Held, Cells] at hc); go_simp; (try go_bits); exact hR)); simp only [Act.put, List.setIfInBounds_toArray, List.set_cons_zero, List.set_cons_succ]) | (refine' held_pass (i := 4) _ (by kernel_rfl) (by kernel_rfl) (by kernel_rfl) _ _ hS _; rotate_left; (focus (simp only [List.getElem?_toArray, List.getElem?_cons_succ, List.getElem?_cons_zero]; rfl)); (focus exact fun _ _ _ h => h); (focus rfl); simp only [Act.put, List.setIfInBounds_toArray, List.set_cons_zero, List.set_cons_succ]))
        (first | (refine' held_do (i := 5) _ (by kernel_rfl) (by kernel_rfl) (by kernel_rfl) _ _ hS _ _; rotate_left 2; (focus (simp only [List.getElem?_toArray, List.getElem?_cons_succ, List.getElem?_cons_zero]; rfl)); (focus exact fun _ _ _ h => h); (focus rfl); (focus (intro w1 hSS R hR; have hc := hSS; (try simp only [Held, Cells] at hc); go_simp; (try go_bits); exact hR)); simp only [Act.put, List.setIfInBounds_toArray, List.set_cons_zero, List.set_cons_succ]) | (refine' held_pass (i := 5) _ (by kernel_rfl) (by kernel_rfl) (by kernel_rfl) _ _ hS _; rotate_left; (focus (simp only [List.getElem?_toArray, List.getElem?_cons_succ, List.getElem?_cons_zero]; rfl)); (focus exact fun _ _ _ h => h); (focus rfl); simp only [Act.put, List.setIfInBounds_toArray, List.set_cons_zero, List.set_cons_succ]))
        (first | (refine' held_do (i := 6) _ (by kernel_rfl) (by kernel_rfl) (by kernel_rfl) _ _ hS _ _; rotate_left 2; (focus (simp only [List.getElem?_toArray, List.getElem?_cons_succ, List.getElem?_cons_zero]; rfl)); (focus exact fun _ _ _ h => h); (focus rfl); (focus (intro w1 hSS R hR; have hc := hSS; (try simp only [Held, Cells] at hc); go_simp; (try go_bits); exact hR)); simp only [Act.put, List.setIfInBounds_toArray, List.set_cons_zero, List.set_cons_succ]) | (refine' held_pass (i := 6) _ (by kernel_rfl) (by kernel_rfl) (by kernel_rfl) _ _ hS _; rotate_left; (focus (simp only [List.getElem?_toArray, List.getElem?_cons_succ, List.getElem?_cons_zero]; rfl)); (focus exact fun _ _ _ h => h); (focus rfl); simp only [Act.put, List.setIfInBounds_toArray, List.set_cons_zero, List.set_cons_succ]))
        (refine' held_one (i := 7) _ (by kernel_rfl) _ _; rotate_left; (focus (simp only [List.getElem?_toArray, List.getElem?_cons_succ, List.getElem?_cons_zero]; rfl)); (focus rfl); intro K hK; go_simp)
        refine hK _ _ trivial ?_
        clear hK
        (try simp only [Act.put, List.setIfInBounds_toArray, List.set_cons_zero, List.set_cons_succ])
        rw [show (wr.alloc (.cells #[.int .u8 d0, .int .u8 d1] 5)).drew = wr.drew.alloc (.cells [.int .u8 d0, .int .u8 d1].toArray 5) from rfl]
        (refine' held_one (i := 8) _ (by kernel_rfl) _ _; rotate_left; (focus (simp only [List.getElem?_toArray, List.getElem?_cons_succ, List.getElem?_cons_zero]; rfl)); (focus rfl); intro K hK)
        (refine wp_append_two _ _ _ rfl (w.heap.size + 1) 5 iB _ 1 1 Tryd.underlying44 hi0 hz0 hz1 hz2 rfl (by omega) wr.drew 2 _ _ _ _ (by rfl) hown.out.drew (by rfl) rfl (by simp [Value.oneCell']) (by omega) (by unfold maxLen; omega) (by simp; omega) ?_; intro v4 w4 hown4 hgr4 hat4 hb4)
        refine hK _ _ trivial ?_
        clear hK
        (try simp only [Act.put, List.setIfInBounds_toArray, List.set_cons_zero, List.set_cons_succ])
        (refine' held_one (i := 9) _ (by kernel_rfl) _ _; rotate_left; (focus (simp only [List.getElem?_toArray, List.getElem?_cons_succ, List.getElem?_cons_zero]; rfl)); (focus rfl); intro K hK; go_simp)
        refine hK _ _ trivial ?_
        clear hK
        (try simp only [Act.put, List.setIfInBounds_toArray, List.set_cons_zero, List.set_cons_succ])
        refine wpAnyH_done (by kernel_rfl) ?_ _
        have hblk4 : w4.heap[w.heap.size + 1 + 1]? = some (.cells #[.int .u8 r, .int .u8 g, .int .u8 b, .int .u8 255] 5 (0, 0)) := (hgr4.block _ (by simpa using hlt) (fun e => hne.out _ e.symm rfl)).trans hblk.out
        have hne4 : ∀ g, v4.ownBlock = some g → g ≠ w.heap.size + 1 + 1 := fun g hg => by
          rcases hat4 g hg with h3 | h3
          · exact hne.out g h3
          · simp at h3; omega
        have hb04 : Below w.heap.size w w4 := hbr.drew.trans (hb4.mono (by omega))
        have hlt4 : w.heap.size + 1 + 1 < w4.heap.size := Nat.lt_of_lt_of_le hlt (by have := hgr4.size; simpa using this)
        rw [hsn.out, show 1 + 2 * k + 2 = 1 + 2 * (k + 1) by omega] at hown4
        replace hown4 := Lib.hid hown4
        clear hblk hne hown hgr4 hat4 hb4
        replace hblk4 := Lib.hid hblk4
        replace hne4 := Lib.hid hne4
        go_wp2
        go_roundw
        case rel => exact ⟨k + 1, by omega, by go_num, Lib.hid ⟨hown4.out, hne4.out, hblk4.out, hb04, hlt4⟩⟩
        case measure => simp [intOf]; omega
      · obtain rfl : k = 3 := by omega
        obtain ⟨g4, cap4, e4, hcv4⟩ := own_text hown (by omega)
        subst e4
        clear hown hne hblk
        go_wp2
        go_ret
        exact ⟨rfl, hbr⟩
/-- P4.2. -/
theorem ltext_any (r g b a : Int) (x : Nib) (w : World) (h : x.Of r g b a) : Calls Tryd.prog 32 #[.agg #[.int .u8 (r), .int .u8 (g), .int .u8 (b), .int .u8 (a)]] w fun e w' => e = .returned (.string x.tx) ∧ Below w.heap.size w w' := by
  cases hf : x.full
  · have etx : x.tx = ⟨#[35, hxU x.r1, hxU x.r2, hxU x.g1, hxU x.g2, hxU x.b1, hxU x.b2, hxU x.a1, hxU x.a2]⟩ := by unfold Nib.tx; rw [hf]; rfl
    rw [etx]
    refine ltext_four r g b a x w h ?_
    obtain ⟨e, h1, h2⟩ := h.a
    unfold Nib.full at hf
    simp at hf
    omega
  · have ea : a = 255 := by
      obtain ⟨e, h1, h2⟩ := h.a
      unfold Nib.full at hf
      simp at hf
      omega
    subst ea
    cases hsh : x.short
    · have etx : x.tx = ⟨#[35, hxU x.r1, hxU x.r2, hxU x.g1, hxU x.g2, hxU x.b1, hxU x.b2]⟩ := by unfold Nib.tx; rw [hf, hsh]; rfl
      rw [etx]
      exact ltext_three r g b x w h hsh
    · have etx : x.tx = ⟨#[35, hxU x.r1, hxU x.g1, hxU x.b1]⟩ := by unfold Nib.tx; rw [hf, hsh]; rfl
      rw [etx]
      exact ltext_short r g b x w h hsh
end
end Go.Proofs.YtpbolbpenkfpiaaDoor
