/-
  Cells, plain: a text's lines, its runes, what each has in cells; pieces.
-/
import Derived.KernelRfl
import Derived.Laws.Externs
import Derived.Lib.Bytealg
import Derived.Lib.DecodeNEq
import Derived.Lib.IndexBytes
import Derived.Test.YtffmomgmkpmpkaaGreatDoorProg
import Derived.Test.YtffmomgmkpmpkaaGreatDoorKu3
namespace Go.Proofs.YtffmomgmkpmpkaaGreatDoor
open Go.RowKit
set_option linter.unusedVariables false
attribute [local go_sem] vwp vUpon_value vUpon_skip vUpon_enter vUpon_row
set_option linter.unusedSimpArgs false
set_option linter.unusedVariables false
/-! ### decoding -/
theorem dec_bd (s : ByteArray) (p : Nat) : 1 ≤ (Utf8.decode s p).2 ∧ (Utf8.decode s p).2 ≤ 4 ∧ (p < s.size → p + (Utf8.decode s p).2 ≤ s.size) ∧ validR ((Utf8.decode s p).1 : Int) = true := by
  rw [Lib.decode_at]
  have h1 := (s.get! p).toNat_lt
  have h2 := (s.get! (p + 1)).toNat_lt
  have h3 := (s.get! (p + 2)).toNat_lt
  have h4 := (s.get! (p + 3)).toNat_lt
  generalize (s.get! p).toNat = b0 at *
  generalize (s.get! (p + 1)).toNat = b1 at *
  generalize (s.get! (p + 2)).toNat = b2 at *
  generalize (s.get! (p + 3)).toNat = b3 at *
  unfold Lib.decodeN validR
  simp only [Bool.or_eq_true, Bool.and_eq_true, decide_eq_true_eq]
  repeat' split
  all_goals (refine ⟨?_, ?_, ?_, ?_⟩ <;> (try simp only) <;> omega)
theorem dec_pos (s : ByteArray) (p : Nat) : 1 ≤ (Utf8.decode s p).2 := (dec_bd s p).1
theorem dec_fit {s : ByteArray} {p : Nat} (h : p < s.size) : p + (Utf8.decode s p).2 ≤ s.size := (dec_bd s p).2.2.1 h
theorem dec_valid (s : ByteArray) (p : Nat) : validR ((Utf8.decode s p).1 : Int) = true := (dec_bd s p).2.2.2
/-! ### runes -/
def runesF : Nat → ByteArray → Nat → List Int
  | 0, _, _ => []
  | n + 1, s, p => if p < s.size then ((Utf8.decode s p).1 : Int) :: runesF n s (p + (Utf8.decode s p).2) else []
theorem runesF_more (s : ByteArray) : ∀ (n m p : Nat), s.size - p ≤ n → s.size - p ≤ m → runesF n s p = runesF m s p
  | 0, 0, _, _, _ => rfl
  | 0, m + 1, p, h1, _ => by rw [runesF, runesF, if_neg (by omega)]
  | n + 1, 0, p, _, h2 => by rw [runesF, runesF, if_neg (by omega)]
  | n + 1, m + 1, p, h1, h2 => by
    rw [runesF, runesF]
    by_cases hp : p < s.size
    · have := dec_pos s p
      rw [if_pos hp, if_pos hp, runesF_more s n m _ (by omega) (by omega)]
    · rw [if_neg hp, if_neg hp]
def runesAt (s : ByteArray) (p : Nat) : List Int := runesF (s.size - p) s p
theorem runesAt_end {s : ByteArray} {p : Nat} (h : ¬ p < s.size) : runesAt s p = [] := by
  unfold runesAt
  rw [show s.size - p = 0 by omega]; rfl
theorem runesAt_step {s : ByteArray} {p : Nat} (h : p < s.size) : runesAt s p = ((Utf8.decode s p).1 : Int) :: runesAt s (p + (Utf8.decode s p).2) := by
  unfold runesAt
  obtain ⟨n, hn⟩ : ∃ n, s.size - p = n + 1 := ⟨s.size - p - 1, by omega⟩
  have := dec_pos s p
  rw [hn, runesF, if_pos h, runesF_more s n (s.size - (p + (Utf8.decode s p).2)) _ (by omega) (Nat.le_refl _)]
/-! ### what they have in cells -/
def glyR (r n : Int) : List Gl := if n = 1 then [⟨r, false, false⟩] else if n = 2 then [⟨r, true, false⟩, ⟨r, false, true⟩] else []
def rowG (rs : List Int) : List Gl := rs.flatMap fun r => glyR r (widR r)
theorem rowG_cons (r : Int) (rs : List Int) : rowG (r :: rs) = glyR r (widR r) ++ rowG rs := rfl
/-! ### lines -/
def splB (s : ByteArray) : Nat → Nat → Nat → List ByteArray
  | 0, f, i => [s.extract f i]
  | n + 1, f, i => if s.get! i = 10 then s.extract f i :: splB s n (i + 1) (i + 1) else splB s n f (i + 1)
def linesB (s : ByteArray) : List ByteArray := splB s s.size 0 0
theorem splB_skip (s : ByteArray) (f : Nat) : ∀ (d i : Nat), i + d ≤ s.size → (∀ k, i ≤ k → k < i + d → s.get! k ≠ 10) → splB s (s.size - i) f i = splB s (s.size - (i + d)) f (i + d)
  | 0, i, _, _ => rfl
  | d + 1, i, h, hk => by
    have e : s.size - i = (s.size - (i + 1)) + 1 := by omega
    rw [e, splB, if_neg (hk i (Nat.le_refl _) (by omega)), splB_skip s f d (i + 1) (by omega) (fun k h1 h2 => hk k (by omega) (by omega))]
    rw [show i + 1 + d = i + (d + 1) by omega]
theorem splB_hit {s : ByteArray} {f j : Nat} (h : j < s.size) (hb : s.get! j = 10) : splB s (s.size - j) f j = s.extract f j :: splB s (s.size - (j + 1)) (j + 1) (j + 1) := by
  have e : s.size - j = (s.size - (j + 1)) + 1 := by omega
  rw [e, splB, if_pos hb]
theorem splB_end {s : ByteArray} {f j : Nat} (h : s.size ≤ j) : splB s (s.size - j) f j = [s.extract f j] := by
  rw [show s.size - j = 0 by omega]; rfl
theorem splB_len (s : ByteArray) : ∀ (n f i : Nat), (splB s n f i).length ≤ n + 1
  | 0, f, i => by simp [splB]
  | n + 1, f, i => by
    rw [splB]
    split
    · rw [List.length_cons]; have := splB_len s n (i + 1) (i + 1); omega
    · have := splB_len s n f (i + 1); omega
theorem splB_size (s : ByteArray) : ∀ (n f i : Nat), ∀ x ∈ splB s n f i, x.size ≤ s.size
  | 0, f, i, x, hx => by
    simp only [splB, List.mem_singleton] at hx
    subst hx
    simp
    omega
  | n + 1, f, i, x, hx => by
    rw [splB] at hx
    split at hx
    · rcases List.mem_cons.1 hx with rfl | hx
      · simp
        omega
      · exact splB_size s n _ _ x hx
    · exact splB_size s n _ _ x hx
def lineG (l : ByteArray) : List Gl := rowG (runesAt l 0)
def glyS (s : ByteArray) : List (List Gl) := (linesB s).map lineG
/-! ### the iterator's lines -/
theorem get!_extract (s : ByteArray) (a b k : Nat) (h : a + k < b) (hb : b ≤ s.size) : (s.extract a b).get! k = s.get! (a + k) := by
  have h1 : k < (s.extract a b).size := by simp; omega
  have e1 : (s.extract a b).get! k = (s.extract a b)[k]'h1 := by
    generalize s.extract a b = t at h1 ⊢
    cases t; exact getElem!_pos _ k h1
  have e2 : s.get! (a + k) = s[a + k]'(by omega) := by
    cases s; exact getElem!_pos _ _ _
  rw [e1, e2, ByteArray.getElem_extract]
/-- What the iterator gives of what is left. -/
theorem lines_none {s : ByteArray} {p : Nat} (hp : p ≤ s.size) (h : ∀ k, p ≤ k → k < s.size → s.get! k ≠ 10) : splB s (s.size - p) p p = [s.extract p s.size] := by
  have := splB_skip s p (s.size - p) p (by omega) (fun k h1 h2 => h k h1 (by omega))
  rw [this, show p + (s.size - p) = s.size by omega]
  exact splB_end (Nat.le_refl _)
theorem lines_some {s : ByteArray} {p j : Nat} (hj : p + j < s.size) (hb : s.get! (p + j) = 10) (h : ∀ k, p ≤ k → k < p + j → s.get! k ≠ 10) : splB s (s.size - p) p p = s.extract p (p + j) :: splB s (s.size - (p + j + 1)) (p + j + 1) (p + j + 1) := by
  rw [splB_skip s p j p (by omega) h]
  exact splB_hit hj hb
/-! ### pieces -/
end Go.Proofs.YtffmomgmkpmpkaaGreatDoor

namespace Go.Proofs.YtffmomgmkpmpkaaGreatDoor
open Go.RowKit
set_option linter.unusedVariables false
attribute [local go_sem] vwp vUpon_value vUpon_skip vUpon_enter vUpon_row
set_option linter.unusedSimpArgs false
set_option linter.unusedVariables false
attribute [local go_sem] Oper.semAt_some
theorem wide_fn (f : FuncId) : Fence.wide.fn f = True := rfl
theorem wide_depth : Fence.wide.depth = none := rfl
attribute [local go_sem] wide_fn wide_depth
set_option maxRecDepth 100000 in
theorem slix_any (s : ByteArray) (c : Int) (w : World) : Calls Tryz.prog 187 #[.string s, .int .u8 c] w fun e w' => e = .returned (.int .i64 (Lib.indexByte s.data.toList c.toNat.toUInt8)) ∧ w = w' := by
  go_enter Tryz.func187, Tryz.ntmps187
  go_wp2
  rw [run_callFunc_extern Tryz.func198 (by kernel_rfl) (by kernel_rfl) (by kernel_rfl) (e := Extern.BytealgIndexByte.indexByte) (by kernel_rfl), Lib.run_indexByteString]
  simp only [Result.andThen]
  rw [Oper.upon_value]
  go_wp2
  go_ret
  exact ⟨rfl, rfl⟩
theorem slidx_any (s : ByteArray) (w : World) : Calls Tryz.prog 173 #[.string s, .string ⟨#[10]⟩] w fun e w' => e = .returned (.int .i64 (Lib.indexByte s.data.toList 10)) ∧ w = w' := by
  cases hs : ([10] == s.toList)
  · go_enter Tryz.func173, Tryz.ntmps173
    go_wp2_with (go_at_call 187; (with_reducible refine (slix_any _ _ _).mono ?_); rintro e w1 ⟨rfl, rfl⟩)
    go_ret
    exact ⟨rfl, rfl⟩
  · have e : Lib.indexByte s.data.toList 10 = 0 := by
      have h := eq_of_beq hs
      rw [ByteArray.toList_eq] at h
      rw [← h]
      rfl
    rw [e]
    go_enter Tryz.func173, Tryz.ntmps173
    go_wp2
    go_ret
    exact ⟨rfl, rfl⟩
theorem sidx_any (s : ByteArray) (w : World) : Calls Tryz.prog 158 #[.string s, .string ⟨#[10]⟩] w fun e w' => e = .returned (.int .i64 (Lib.indexByte s.data.toList 10)) ∧ w = w' := by
  go_enter Tryz.func158, Tryz.ntmps158
  go_wp2_with (go_at_call 173; (with_reducible refine (slidx_any _ _).mono ?_); rintro e w1 ⟨rfl, rfl⟩)
  go_ret
  exact ⟨rfl, rfl⟩
theorem splitSeq_any (s : ByteArray) (w : World) : Calls Tryz.prog 125 #[.string s, .string ⟨#[10]⟩, .int .i64 0] w fun e w' => e = .returned (.func (.func 157) #[] #[.pointer (some ⟨w.heap.size + 1, 0, none⟩), .pointer (some ⟨w.heap.size, 0, none⟩), .pointer (some ⟨w.heap.size + 1 + 1, 0, none⟩)]) ∧ w' = ((w.alloc (.cells #[.string s] 9)).alloc (.cells #[.string ⟨#[10]⟩] 9)).alloc (.cells #[.int .i64 0] 3) := by
  go_enter Tryz.func125, Tryz.ntmps125
  go_wp2
  go_ret
  exact ⟨rfl, rfl⟩
theorem ssplitSeq_any (s : ByteArray) (w : World) : Calls Tryz.prog 90 #[.string s, .string ⟨#[10]⟩] w fun e w' => e = .returned (.func (.func 157) #[] #[.pointer (some ⟨w.heap.size + 1, 0, none⟩), .pointer (some ⟨w.heap.size, 0, none⟩), .pointer (some ⟨w.heap.size + 1 + 1, 0, none⟩)]) ∧ w' = ((w.alloc (.cells #[.string s] 9)).alloc (.cells #[.string ⟨#[10]⟩] 9)).alloc (.cells #[.int .i64 0] 3) := by
  go_enter Tryz.func90, Tryz.ntmps90
  go_wp2_with (go_at_call 125; (with_reducible refine (splitSeq_any _ _).mono ?_); rintro e w1 ⟨rfl, rfl⟩)
  go_ret
  exact ⟨rfl, rfl⟩
theorem Blk.keeps {w w' : World} {b lo hi : Nat} {cs : List Value} {e : TypeId} (h : Blk w b cs e) (hk : keepsIn lo hi w w') (h1 : lo ≤ b) (h2 : b < hi) : Blk w' b cs e := (hk b h1 h2).trans h
theorem extract_whole (s : ByteArray) : s.extract 0 s.size = s := by
  apply ByteArray.ext_getElem <;> simp
theorem extract_head {s : ByteArray} {p j : Nat} (h : p + j ≤ s.size) : (s.extract p s.size).extract 0 j = s.extract p (p + j) := by
  rw [ByteArray.extract_extract]
  congr 1
  omega
theorem extract_tail {s : ByteArray} {p j : Nat} (h : p + j ≤ s.size) : (s.extract p s.size).extract j (s.size - p) = s.extract (p + j) s.size := by
  rw [ByteArray.extract_extract]
  congr 1
  omega
def strLen (v : Option Value) : Nat := match v with | some (.string s) => s.size | _ => 0
theorem ext_list {s : ByteArray} {p k : Nat} (h : p + k < s.size) : (s.extract p s.size).data.toList[k]? = some (s.get! (p + k)) := by
  have h1 : k < (s.extract p s.size).size := by simp; omega
  have e := get!_extract s p s.size k h (Nat.le_refl _)
  rw [← e]
  generalize s.extract p s.size = t at h1 ⊢
  obtain ⟨d⟩ := t
  have h1 : k < d.size := h1
  show d.toList[k]? = some (d[k]!)
  rw [Array.getElem?_toList, Array.getElem?_eq_getElem h1, getElem!_pos d k h1]
/-- The first line end of what is left. -/
theorem index_none {s : ByteArray} {p : Nat} (h : Lib.indexByte (s.extract p s.size).data.toList 10 = -1) : ∀ k, p ≤ k → k < s.size → s.get! k ≠ 10 := by
  intro k h1 h2 e
  have := Lib.indexByte_none h (k - p)
  rw [ext_list (by omega), show p + (k - p) = k by omega, e] at this
  exact this rfl
theorem index_some {s : ByteArray} {p j : Nat} (h : Lib.indexByte (s.extract p s.size).data.toList 10 = (j : Int)) : p + j < s.size ∧ s.get! (p + j) = 10 ∧ ∀ k, p ≤ k → k < p + j → s.get! k ≠ 10 := by
  obtain ⟨a1, a2⟩ := Lib.indexByte_some h
  have hj : p + j < s.size := by
    have := (List.getElem?_eq_some_iff.1 a1).1
    have e : (s.extract p s.size).data.toList.length = s.size - p := by
      rw [Array.length_toList]
      show (s.extract p s.size).size = _
      simp
    omega
  rw [ext_list hj] at a1
  refine ⟨hj, by injection a1, fun k h1 h2 e => ?_⟩
  have := a2 (k - p) (by omega)
  rw [ext_list (by omega), show p + (k - p) = k by omega, e] at this
  exact this rfl
theorem Blk.but {w w' : World} {b : Nat} {X : Nat → Prop} {cs : List Value} {e : TypeId} (h : Blk w b cs e) (hk : KeptBut X w w') (hx : ¬ X b) : Blk w' b cs e := (hk.same b h.lt hx).trans h
set_option maxHeartbeats 4000000 in
set_option maxRecDepth 100000 in
theorem split_iter (n b : Nat) (s : ByteArray) (w : World) (hm : s.size ≤ maxLen) (h0 : Blk w b [.string s] 9) (h1 : Blk w (b + 1) [.string ⟨#[10]⟩] 9) (h2 : Blk w (b + 1 + 1) [.int .i64 0] 3) :
  IterOwn n Tryz.prog 157 #[.pointer (some ⟨b + 1, 0, none⟩), .pointer (some ⟨b, 0, none⟩), .pointer (some ⟨b + 1 + 1, 0, none⟩)] b b (b + 3) (linesB s) w := by
 intro l J W hW hz hJ hY hj0
 have B0 : Blk W b [.string s] 9 := h0.keeps hW (by omega) (by omega)
 have B1 : Blk W (b + 1) [.string ⟨#[10]⟩] 9 := h1.keeps hW (by omega) (by omega)
 have B2 : Blk W (b + 1 + 1) [.int .i64 0] 3 := h2.keeps hW (by omega) (by omega)
 clear h0 h1 h2 hW
 have hall := Lib.hid (show linesB s = linesB s from rfl)
 unfold maxLen at hm
 refine callsIn_of_wp Tryz.func157 rfl trivial ?_ rfl
 simp only [Tryz.ntmps157, List.size_toArray, List.length_cons, List.length_nil, Nat.reduceAdd, Nat.reduceSub, Array.replicate_succ, Array.replicate_zero, List.push_toArray, List.append_toArray, List.nil_append, List.cons_append]
 have q1 := B1.cell (o := 0) rfl
 obtain ⟨L, hL⟩ : ∃ L, linesB s = L := ⟨_, rfl⟩
 rw [hL]
 gi_wp2
 gi_loopw [] (fun wr => ∃ (pre : List ByteArray) (p : Nat), p ≤ s.size ∧ Blk wr b [.string (s.extract p s.size)] 9 ∧ Blk wr (b + 1) [.string ⟨#[10]⟩] 9 ∧ Blk wr (b + 1 + 1) [.int .i64 0] 3 ∧ Hid (pre ++ splB s (s.size - p) p p = L) ∧ J pre wr ∧ b + 3 ≤ wr.heap.size) (fun wr => strLen (wr.cell? ⟨b, 0, none⟩))
 case atStart => exact ⟨[], 0, Nat.zero_le _, by rw [extract_whole]; exact B0, B1, B2, Lib.hid hL, hj0, hz⟩
 case round =>
  clear q1 B0 B1 B2 hz
  replace hL := Lib.hid hL
  obtain ⟨pre, p, hp, B0, B1, B2, hx, hj, hz⟩ := hrel
  have q0 := B0.cell (o := 0) rfl
  have q1 := B1.cell (o := 0) rfl
  have q2 := B2.cell (o := 0) rfl
  have f0 := B0.free
  obtain ⟨I, hI⟩ : ∃ I, Lib.indexByte (s.extract p s.size).data.toList 10 = I := ⟨_, rfl⟩
  have IX := fun w => callsIn_wide (n := n - 1) |>.2 (sidx_any (s.extract p s.size) w)
  rw [hI] at IX
  by_cases c : I = -1
  ·subst c
   have hlast := lines_none hp (index_none hI)
   obtain ⟨fn, tmps, assign, body, hy, hR⟩ := hY pre (s.extract p s.size) [] wr (by rw [← hlast, hL.out]; exact hx.out) hj
   replace hR := Lib.hid hR
   replace hI := Lib.hid hI
   gi_wp2_with (gi_at_call 158; (with_reducible refine (IX _).mono ?_); rintro e w1 ⟨rfl, rfl⟩)
   refine hR.out.mono ?_
   rintro e W3 ⟨rfl, hJ3, _, _⟩
   rw [hlast] at hx
   have hx := hx.out
   rw [hx] at hJ3
   gi_wp2
   go_end0
   exact ⟨⟨_, rfl⟩, hJ3⟩
  ·obtain ⟨j, rfl⟩ : ∃ j : Nat, I = (j : Int) := ⟨I.toNat, by have := Lib.indexByte_ge (s.extract p s.size).data.toList 10; omega⟩
   obtain ⟨hj1, hj2, hj3⟩ := index_some hI
   have hcons := lines_some hj1 hj2 hj3
   have e1 := extract_head (s := s) (p := p) (j := j) (by omega)
   have e2 := extract_tail (s := s) (p := p) (j := j + 1) (by omega)
   obtain ⟨fn, tmps, assign, body, hy, hR⟩ := hY pre (s.extract p (p + j)) _ wr (by rw [← hcons, hL.out]; exact hx.out) hj
   have zs : (s.extract p s.size).size = s.size - p := by simp
   obtain ⟨t, ht⟩ : ∃ t, s.extract p s.size = t := ⟨_, rfl⟩
   rw [ht] at q0 B0 IX e1 e2 zs
   have hjt : j < t.size := by omega
   have hj0 : ¬ (j : Int) < 0 := by omega
   replace hR := Lib.hid hR
   replace hI := Lib.hid hI
   replace hx := Lib.hid hx
   clear c hj2 hj3
   gi_wp2_with (gi_at_call 158; (with_reducible refine (IX _).mono ?_); rintro e w1 ⟨rfl, rfl⟩)
   refine hR.out.mono ?_
   rintro e W3 ⟨rfl, hJ3, hk3, hz3⟩
   have D0 : Blk W3 b [.string t] 9 := B0.keeps hk3 (by omega) (by omega)
   have D1 : Blk W3 (b + 1) [.string ⟨#[10]⟩] 9 := B1.keeps hk3 (by omega) (by omega)
   have D2 : Blk W3 (b + 1 + 1) [.int .i64 0] 3 := B2.keeps hk3 (by omega) (by omega)
   have m0 : strLen (wr.cell? ⟨b, 0, none⟩) = t.size := by rw [q0]; rfl
   clear B0 B1 B2 q0 q1 q2 f0 hR
   have q0 := D0.cell (o := 0) rfl
   have q1 := D1.cell (o := 0) rfl
   have q2 := D2.cell (o := 0) rfl
   have f0 := D0.free
   have hj2 : j + 1 ≤ t.size := by omega
   have hji : ((j + 1 : Nat) : Int) ≤ (t.size : Int) := by omega
   gi_wp2
   have E0 := D0.set 0 (.string (s.extract (p + (j + 1)) s.size))
   have e0 := E0.cell (o := 0) rfl
   go_roundw
   case rel =>
    refine ⟨pre ++ [s.extract p (p + j)], p + (j + 1), by omega, E0, D1.set_ne (by simp) _, D2.set_ne (by simp; omega) _, Lib.hid ?_, hJ _ _ _ hJ3 ((KeptBut.refl _ _).setCell _ _ rfl), by simp; omega⟩
    rw [List.append_assoc, ← hx.out, hcons]
    rfl
   case measure =>
    rw [e0, m0]
    show (s.extract (p + (j + 1)) s.size).size < t.size
    simp
    omega
end Go.Proofs.YtffmomgmkpmpkaaGreatDoor

namespace Go.Proofs.YtffmomgmkpmpkaaGreatDoor
open Go.RowKit
set_option linter.unusedVariables false
attribute [local go_sem] vwp vUpon_value vUpon_skip vUpon_enter vUpon_row
set_option linter.unusedSimpArgs false
set_option linter.unusedVariables false
theorem held_alloc {W u v : World} {k : Nat} {ob : Obj} (h : Held W k [] u) (hv : u.alloc ob = v) : Held W k [] v := by
  subst hv
  exact h.below ((Below.refl _ _).alloc (Nat.le_refl _) _)
theorem held_size {W u : World} (h : Held W 0 [] u) : W.heap.size ≤ u.heap.size := by
  have := h.2.1; omega
theorem held_kept {W u v : World} {b : Nat} (h : Held W 0 [] u) (hk : KeptBut (· = b) u v) (hb : W.heap.size ≤ b) : Held W 0 [] v :=
  ⟨KeptBut.toBelow h.1 hk (held_size h) (fun k h1 h2 => by omega), by have := hk.size; have := held_size h; omega, trivial⟩
theorem Blk.alloc_eq {w v : World} {b : Nat} {cs : List Value} {e : TypeId} {ob : Obj} (h : Blk w b cs e) (hv : w.alloc ob = v) : Blk v b cs e := by
  subst hv
  exact h.alloc _
theorem Blk.new_eq {w v : World} {cs : List Value} {e : TypeId} (hv : w.alloc (.cells cs.toArray e) = v) : Blk v w.heap.size cs e := by
  subst hv
  exact Blk.new' rfl
end Go.Proofs.YtffmomgmkpmpkaaGreatDoor
