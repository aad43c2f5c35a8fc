/-
  Cells, plain: a text's lines, its runes, what each has in cells; pieces.
-/
import Derived.Laws.Externs
import Derived.Lib.Bytealg
import Derived.Lib.DecodeNEq
import Derived.Lib.IndexBytes
import Derived.Test.YtfcphagmjijmkaaGreatDoorDm5
namespace Go.Proofs.YtfcphagmjijmkaaGreatDoor
open Go.RowKit
set_option linter.unusedVariables false
set_option linter.unusedSimpArgs false
attribute [local go_sem] vwp vUpon_value vUpon_skip vUpon_enter vUpon_row
set_option maxHeartbeats 16000000
/-! ### decoding -/
theorem dec_bd (s : ByteArray) (p : Nat) : 1 ≤ (Utf8.decode s p).2 ∧ (Utf8.decode s p).2 ≤ 4 ∧ (p < s.size → p + (Utf8.decode s p).2 ≤ s.size) ∧ validR ((Utf8.decode s p).1 : Int) = true := by
 rw [Lib.decode_at]; have h1 := (s.get! p).toNat_lt; have h2 := (s.get! (p + 1)).toNat_lt; have h3 := (s.get! (p + 2)).toNat_lt; have h4 := (s.get! (p + 3)).toNat_lt; generalize (s.get! p).toNat = b0 at *; generalize (s.get! (p + 1)).toNat = b1 at *; generalize (s.get! (p + 2)).toNat = b2 at *; generalize (s.get! (p + 3)).toNat = b3 at *; unfold Lib.decodeN validR; simp only [Bool.or_eq_true, Bool.and_eq_true, decide_eq_true_eq]
 repeat' split
 all_goals (refine ⟨?_, ?_, ?_, ?_⟩ <;> (try simp only) <;> omega)
theorem dec_pos (s : ByteArray) (p : Nat) : 1 ≤ (Utf8.decode s p).2 := (dec_bd s p).1
theorem dec_fit {s : ByteArray} {p : Nat} (h : p < s.size) : p + (Utf8.decode s p).2 ≤ s.size := (dec_bd s p).2.2.1 h
/-! ### runes -/
def runesF : Nat → ByteArray → Nat → List Int
 | 0, _, _ => []
 | n + 1, s, p => if p < s.size then ((Utf8.decode s p).1 : Int) :: runesF n s (p + (Utf8.decode s p).2) else []
theorem runesF_more (s : ByteArray) : ∀ (n m p : Nat), s.size - p ≤ n → s.size - p ≤ m → runesF n s p = runesF m s p
 | 0, 0, _, _, _ => rfl
 | 0, m + 1, p, h1, _ => by rw [runesF, runesF, if_neg (by omega)]
 | n + 1, 0, p, _, h2 => by rw [runesF, runesF, if_neg (by omega)]
 | n + 1, m + 1, p, h1, h2 => by
  rw [runesF, runesF]
  by_cases hp : p < s.size
  ·have := dec_pos s p
   rw [if_pos hp, if_pos hp, runesF_more s n m _ (by omega) (by omega)]
  ·rw [if_neg hp, if_neg hp]
def runesAt (s : ByteArray) (p : Nat) : List Int := runesF (s.size - p) s p
theorem runesAt_end {s : ByteArray} {p : Nat} (h : ¬ p < s.size) : runesAt s p = [] := by
 unfold runesAt; rw [show s.size - p = 0 by omega]; rfl
theorem runesAt_step {s : ByteArray} {p : Nat} (h : p < s.size) : runesAt s p = ((Utf8.decode s p).1 : Int) :: runesAt s (p + (Utf8.decode s p).2) := by
 unfold runesAt; obtain ⟨n, hn⟩ : ∃ n, s.size - p = n + 1 := ⟨s.size - p - 1, by omega⟩; have := dec_pos s p; rw [hn, runesF, if_pos h, runesF_more s n (s.size - (p + (Utf8.decode s p).2)) _ (by omega) lrr]
/-! ### what they have in cells -/
def glyR (r n : Int) : List Gl := if n = 1 then [⟨r, false, false⟩] else if n = 2 then [⟨r, true, false⟩, ⟨r, false, true⟩] else []
def rowG (rs : List Int) : List Gl := rs.flatMap fun r => glyR r (widR r)
theorem glyR_len (r n : Int) : (glyR r n).length ≤ 2 := by
 unfold glyR; split <;> (try split) <;> simp
theorem rowG_cons (r : Int) (rs : List Int) : rowG (r :: rs) = glyR r (widR r) ++ rowG rs := rfl
theorem mark_valid {r : Int} (h : inL r marksL = true) : validR r = true := by
 simp only [inL, marksL, List.any_cons, List.any_nil, Bool.or_false, Bool.or_eq_true, Bool.and_eq_true, decide_eq_true_eq] at h; unfold validR; simp only [Bool.or_eq_true, Bool.and_eq_true, decide_eq_true_eq]; omega
theorem mark_wid {r : Int} (h : inL r marksL = true) : widR r = 0 := by
 unfold widR; rw [mark_valid h, h]
 simp
/-! ### lines -/
def splB (s : ByteArray) : Nat → Nat → Nat → List ByteArray
 | 0, f, i => [s.extract f i]
 | n + 1, f, i => if s.get! i = 10 then s.extract f i :: splB s n (i + 1) (i + 1) else splB s n f (i + 1)
def linesB (s : ByteArray) : List ByteArray := splB s s.size 0 0
theorem splB_skip (s : ByteArray) (f : Nat) : ∀ (d i : Nat), i + d ≤ s.size → (∀ k, i ≤ k → k < i + d → s.get! k ≠ 10) → splB s (s.size - i) f i = splB s (s.size - (i + d)) f (i + d)
 | 0, i, _, _ => rfl
 | d + 1, i, h, hk => by
  have e : s.size - i = (s.size - (i + 1)) + 1 := by omega
  rw [e, splB, if_neg (hk i lrr (by omega)), splB_skip s f d (i + 1) (by omega) (fun k h1 h2 => hk k (by omega) (by omega))]; rw [show i + 1 + d = i + (d + 1) by omega]
theorem splB_hit {s : ByteArray} {f j : Nat} (h : j < s.size) (hb : s.get! j = 10) : splB s (s.size - j) f j = s.extract f j :: splB s (s.size - (j + 1)) (j + 1) (j + 1) := by
 have e : s.size - j = (s.size - (j + 1)) + 1 := by omega
 rw [e, splB, if_pos hb]
theorem splB_miss {s : ByteArray} {f j : Nat} (h : j < s.size) (hb : s.get! j ≠ 10) : splB s (s.size - j) f j = splB s (s.size - (j + 1)) f (j + 1) := by
 have e : s.size - j = (s.size - (j + 1)) + 1 := by omega
 rw [e, splB, if_neg hb]
theorem splB_end {s : ByteArray} {f j : Nat} (h : s.size ≤ j) : splB s (s.size - j) f j = [s.extract f j] := by
 rw [show s.size - j = 0 by omega]; rfl
theorem splB_len (s : ByteArray) : ∀ (n f i : Nat), (splB s n f i).length ≤ n + 1
 | 0, f, i => by simp [splB]
 | n + 1, f, i => by
  rw [splB]
  split
  ·rw [List.length_cons]; have := splB_len s n (i + 1) (i + 1); omega
  ·have := splB_len s n f (i + 1); omega
theorem splB_size (s : ByteArray) : ∀ (n f i : Nat), ∀ x ∈ splB s n f i, x.size ≤ s.size
 | 0, f, i, x, hx => by
  simp only [splB, List.mem_singleton] at hx; subst hx
  simp
  omega
 | n + 1, f, i, x, hx => by
  rw [splB] at hx
  split at hx
  ·rcases List.mem_cons.1 hx with rfl | hx
   ·simp
    omega
   ·exact splB_size s n _ _ x hx
  ·exact splB_size s n _ _ x hx
def lineG (l : ByteArray) : List Gl := rowG (runesAt l 0)
def glyS (s : ByteArray) : List (List Gl) := (linesB s).map lineG
/-! ### the iterator's lines -/
theorem get!_extract (s : ByteArray) (a b k : Nat) (h : a + k < b) (hb : b ≤ s.size) : (s.extract a b).get! k = s.get! (a + k) := by
 have h1 : k < (s.extract a b).size := by simp; omega
 have e1 : (s.extract a b).get! k = (s.extract a b)[k]'h1 := by
  generalize s.extract a b = t at h1 ⊢
  cases t; exact getElem!_pos _ k h1
 have e2 : s.get! (a + k) = s[a + k]'(by omega) := by
  cases s; exact getElem!_pos _ _ _
 rw [e1, e2, ByteArray.getElem_extract]
theorem lines_none {s : ByteArray} {p : Nat} (hp : p ≤ s.size) (h : ∀ k, p ≤ k → k < s.size → s.get! k ≠ 10) : splB s (s.size - p) p p = [s.extract p s.size] := by
 have := splB_skip s p (s.size - p) p (by omega) (fun k h1 h2 => h k h1 (by omega)); rw [this, show p + (s.size - p) = s.size by omega]; exact splB_end lrr
theorem lines_some {s : ByteArray} {p j : Nat} (hj : p + j < s.size) (hb : s.get! (p + j) = 10) (h : ∀ k, p ≤ k → k < p + j → s.get! k ≠ 10) : splB s (s.size - p) p p = s.extract p (p + j) :: splB s (s.size - (p + j + 1)) (p + j + 1) (p + j + 1) := by
 rw [splB_skip s p j p (by omega) h]; exact splB_hit hj hb
/-! ### pieces -/
structure Pc where
 fr : Nat
 en : Nat
 first : Int
 cells : Int
def mkEnd : Nat → ByteArray → Nat → Nat
 | 0, _, p => p
 | n + 1, s, p => if p < s.size ∧ inL ((Utf8.decode s p).1 : Int) marksL = true then mkEnd n s (p + (Utf8.decode s p).2) else p
theorem mkEnd_bd (s : ByteArray) : ∀ (n p : Nat), p ≤ mkEnd n s p ∧ (p ≤ s.size → mkEnd n s p ≤ s.size)
 | 0, p => ⟨Nat.le_refl _, id⟩
 | n + 1, p => by
  rw [mkEnd]
  split
  ·rename_i h
   have := mkEnd_bd s n (p + (Utf8.decode s p).2); have h2 := dec_fit h.1; exact ⟨by omega, fun _ => this.2 h2⟩
  ·exact ⟨Nat.le_refl _, id⟩
theorem mkEnd_more (s : ByteArray) : ∀ (n m p : Nat), s.size - p ≤ n → s.size - p ≤ m → mkEnd n s p = mkEnd m s p
 | 0, 0, _, _, _ => rfl
 | 0, m + 1, p, h1, _ => by rw [mkEnd, mkEnd, if_neg (by omega)]
 | n + 1, 0, p, _, h2 => by rw [mkEnd, mkEnd, if_neg (by omega)]
 | n + 1, m + 1, p, h1, h2 => by
  rw [mkEnd, mkEnd]
  by_cases hp : p < s.size ∧ inL ((Utf8.decode s p).1 : Int) marksL = true
  ·have := dec_pos s p
   rw [if_pos hp, if_pos hp, mkEnd_more s n m _ (by omega) (by omega)]
  ·rw [if_neg hp, if_neg hp]
def markEnd (s : ByteArray) (p : Nat) : Nat := mkEnd (s.size - p) s p
theorem markEnd_step {s : ByteArray} {p : Nat} (h : p < s.size) (hm : inL ((Utf8.decode s p).1 : Int) marksL = true) : markEnd s p = markEnd s (p + (Utf8.decode s p).2) := by
 unfold markEnd; obtain ⟨n, hn⟩ : ∃ n, s.size - p = n + 1 := ⟨s.size - p - 1, by omega⟩; have := dec_pos s p; rw [hn, mkEnd, if_pos ⟨h, hm⟩]; exact mkEnd_more s _ _ _ (by omega) lrr
theorem markEnd_stop {s : ByteArray} {p : Nat} (h : ¬ (p < s.size ∧ inL ((Utf8.decode s p).1 : Int) marksL = true)) : markEnd s p = p := by
 unfold markEnd
 cases hn : s.size - p with
 | zero => rfl
 | succ n => rw [mkEnd, if_neg h]
theorem mkEnd_row (s : ByteArray) : ∀ (n p : Nat), rowG (runesAt s p) = rowG (runesAt s (mkEnd n s p))
 | 0, p => rfl
 | n + 1, p => by
  rw [mkEnd]
  split
  ·rename_i h
   rw [← mkEnd_row s n, runesAt_step h.1, rowG_cons, mark_wid h.2]
   rfl
  ·rfl
def pcTo (s : ByteArray) (p : Nat) : Nat := if ctlR ((Utf8.decode s p).1 : Int) = true then p + (Utf8.decode s p).2 else markEnd s (p + (Utf8.decode s p).2)
theorem pcTo_bd {s : ByteArray} {p : Nat} (h : p < s.size) : p < pcTo s p ∧ pcTo s p ≤ s.size := by
 have h1 := dec_pos s p; have h2 := dec_fit h; unfold pcTo
 split
 ·omega
 ·have := mkEnd_bd s (s.size - (p + (Utf8.decode s p).2)) (p + (Utf8.decode s p).2)
  unfold markEnd; omega
def pcAt (s : ByteArray) (p : Nat) : Pc := ⟨p, pcTo s p, ((Utf8.decode s p).1 : Int), widR ((Utf8.decode s p).1 : Int)⟩
def pcF : Nat → ByteArray → Nat → List Pc
 | 0, _, _ => []
 | n + 1, s, p => if p < s.size then pcAt s p :: pcF n s (pcTo s p) else []
theorem pcF_more (s : ByteArray) : ∀ (n m p : Nat), s.size - p ≤ n → s.size - p ≤ m → pcF n s p = pcF m s p
 | 0, 0, _, _, _ => rfl
 | 0, m + 1, p, h1, _ => by rw [pcF, pcF, if_neg (by omega)]
 | n + 1, 0, p, _, h2 => by rw [pcF, pcF, if_neg (by omega)]
 | n + 1, m + 1, p, h1, h2 => by
  rw [pcF, pcF]
  by_cases hp : p < s.size
  ·have := pcTo_bd hp
   rw [if_pos hp, if_pos hp, pcF_more s n m _ (by omega) (by omega)]
  ·rw [if_neg hp, if_neg hp]
def pcsAt (s : ByteArray) (p : Nat) : List Pc := pcF (s.size - p) s p
theorem pcsAt_end {s : ByteArray} {p : Nat} (h : ¬ p < s.size) : pcsAt s p = [] := by
 unfold pcsAt; rw [show s.size - p = 0 by omega]; rfl
theorem pcsAt_step {s : ByteArray} {p : Nat} (h : p < s.size) : pcsAt s p = pcAt s p :: pcsAt s (pcTo s p) := by
 unfold pcsAt; obtain ⟨n, hn⟩ : ∃ n, s.size - p = n + 1 := ⟨s.size - p - 1, by omega⟩; have := pcTo_bd h; rw [hn, pcF, if_pos h, pcF_more s n (s.size - pcTo s p) _ (by omega) lrr]
theorem pcF_len (s : ByteArray) : ∀ (n p : Nat), (pcF n s p).length ≤ n
 | 0, p => by simp [pcF]
 | n + 1, p => by
  rw [pcF]
  split
  ·rw [List.length_cons]; have := pcF_len s n (pcTo s p); omega
  ·simp
theorem pcsAt_len (s : ByteArray) (p : Nat) : (pcsAt s p).length ≤ s.size - p := pcF_len _ _ _
def rowP (ps : List Pc) : List Gl := ps.flatMap fun c => glyR c.first c.cells
theorem rowP_cons (c : Pc) (ps : List Pc) : rowP (c :: ps) = glyR c.first c.cells ++ rowP ps := rfl
theorem pcTo_row {s : ByteArray} {p : Nat} (h : p < s.size) : rowG (runesAt s (p + (Utf8.decode s p).2)) = rowG (runesAt s (pcTo s p)) := by
 unfold pcTo
 by_cases c : ctlR ((Utf8.decode s p).1 : Int) = true
 ·rw [if_pos c]
 ·rw [if_neg c]
  exact mkEnd_row s _ _
theorem rowP_pcF (s : ByteArray) : ∀ (n p : Nat), s.size - p ≤ n → rowP (pcsAt s p) = rowG (runesAt s p)
 | 0, p, hn => by rw [pcsAt_end (by omega), runesAt_end (by omega)]; rfl
 | n + 1, p, hn => by
  by_cases h : p < s.size
  ·have hb := pcTo_bd h
   have e1 := congrArg rowP (pcsAt_step h); have e2 := congrArg rowG (runesAt_step h); have ih := rowP_pcF s n (pcTo s p) (by omega); have e3 := pcTo_row h; rw [rowP_cons, ih, ← e3] at e1; rw [rowG_cons] at e2
   have e4 : (pcAt s p).first = ((Utf8.decode s p).1 : Int) := by simp only [pcAt]
   have e5 : (pcAt s p).cells = widR ((Utf8.decode s p).1 : Int) := by simp only [pcAt]
   rw [e4, e5] at e1; generalize Utf8.decode s p = D at e1 e2; exact e1.trans e2.symm
  ·rw [pcsAt_end h, runesAt_end h]; rfl
theorem rowP_pcs (s : ByteArray) (p : Nat) : rowP (pcsAt s p) = rowG (runesAt s p) := rowP_pcF s _ p lrr
theorem pcs_row (s : ByteArray) : rowP (pcsAt s 0) = lineG s := rowP_pcs s 0
section
attribute [local go_sem] Oper.semAt_some
theorem wide_fn (f : FuncId) : Fence.wide.fn f = True := rfl
theorem wide_depth : Fence.wide.depth = none := rfl
attribute [local go_sem] wide_fn wide_depth
set_option maxRecDepth 100000 in
theorem slix_any (s : ByteArray) (c : Int) (w : World) : Calls Tryz.prog 225 #[.string s, .int .u8 c] w fun e w' => e = .returned (.int .i64 (Lib.indexByte s.data.toList c.toNat.toUInt8)) ∧ w = w' := by
 go_enter Tryz.func225, Tryz.ntmps225
 go_wp2; rw [run_callFunc_extern Tryz.func236 (by kernel_rfl) (by kernel_rfl) (by kernel_rfl) (e := Extern.BytealgIndexByte.indexByte) (by kernel_rfl), Lib.run_indexByteString]; simp only [Result.andThen]; rw [Oper.upon_value]; go_wp2; go_ret; exact ⟨rfl, rfl⟩
theorem slidx_any (s : ByteArray) (w : World) : Calls Tryz.prog 213 #[.string s, .string ⟨#[10]⟩] w fun e w' => e = .returned (.int .i64 (Lib.indexByte s.data.toList 10)) ∧ w = w' := by
 cases hs : ([10] == s.toList)
 ·go_enter Tryz.func213, Tryz.ntmps213
  go_wp2_with (go_at_call 225; (with_reducible refine (slix_any _ _ _).mono ?_); rintro e w1 ⟨rfl, rfl⟩)
  go_ret; exact ⟨rfl, rfl⟩
 ·have e : Lib.indexByte s.data.toList 10 = 0 := by
   have h := eq_of_beq hs; rw [ByteArray.toList_eq] at h; rw [← h]
   rfl
  rw [e]
  go_enter Tryz.func213, Tryz.ntmps213
  go_wp2; go_ret; exact ⟨rfl, rfl⟩
theorem sidx_any (s : ByteArray) (w : World) : Calls Tryz.prog 184 #[.string s, .string ⟨#[10]⟩] w fun e w' => e = .returned (.int .i64 (Lib.indexByte s.data.toList 10)) ∧ w = w' := by
 go_enter Tryz.func184, Tryz.ntmps184
 go_wp2_with (go_at_call 213; (with_reducible refine (slidx_any _ _).mono ?_); rintro e w1 ⟨rfl, rfl⟩)
 go_ret; exact ⟨rfl, rfl⟩
theorem splitSeq_any (s : ByteArray) (w : World) : Calls Tryz.prog 139 #[.string s, .string ⟨#[10]⟩, .int .i64 0] w fun e w' => e = .returned (.func (.func 183) #[] #[.pointer (some ⟨w.heap.size + 1, 0, none⟩), .pointer (some ⟨w.heap.size, 0, none⟩), .pointer (some ⟨w.heap.size + 1 + 1, 0, none⟩)]) ∧ w' = ((w.alloc (.cells #[.string s] 9)).alloc (.cells #[.string ⟨#[10]⟩] 9)).alloc (.cells #[.int .i64 0] 3) := by
 go_enter Tryz.func139, Tryz.ntmps139
 go_wp2; go_ret; exact ⟨rfl, rfl⟩
theorem ssplitSeq_any (s : ByteArray) (w : World) : Calls Tryz.prog 98 #[.string s, .string ⟨#[10]⟩] w fun e w' => e = .returned (.func (.func 183) #[] #[.pointer (some ⟨w.heap.size + 1, 0, none⟩), .pointer (some ⟨w.heap.size, 0, none⟩), .pointer (some ⟨w.heap.size + 1 + 1, 0, none⟩)]) ∧ w' = ((w.alloc (.cells #[.string s] 9)).alloc (.cells #[.string ⟨#[10]⟩] 9)).alloc (.cells #[.int .i64 0] 3) := by
 go_enter Tryz.func98, Tryz.ntmps98
 go_wp2_with (go_at_call 139; (with_reducible refine (splitSeq_any _ _).mono ?_); rintro e w1 ⟨rfl, rfl⟩)
 go_ret; exact ⟨rfl, rfl⟩
theorem Blk.keeps {w w' : World} {b lo hi : Nat} {cs : List Value} {e : TypeId} (h : Blk w b cs e) (hk : keepsIn lo hi w w') (h1 : lo ≤ b) (h2 : b < hi) : Blk w' b cs e := (hk b h1 h2).trans h
theorem extract_whole (s : ByteArray) : s.extract 0 s.size = s := by
 apply ByteArray.ext_getElem <;> simp
theorem extract_head {s : ByteArray} {p j : Nat} (h : p + j ≤ s.size) : (s.extract p s.size).extract 0 j = s.extract p (p + j) := by
 rw [ByteArray.extract_extract]
 congr 1
 omega
theorem extract_tail {s : ByteArray} {p j : Nat} (h : p + j ≤ s.size) : (s.extract p s.size).extract j (s.size - p) = s.extract (p + j) s.size := by
 rw [ByteArray.extract_extract]
 congr 1
 omega
def strLen (v : Option Value) : Nat := match v with | some (.string s) => s.size | _ => 0
theorem ext_list {s : ByteArray} {p k : Nat} (h : p + k < s.size) : (s.extract p s.size).data.toList[k]? = some (s.get! (p + k)) := by
 have h1 : k < (s.extract p s.size).size := by simp; omega
 have e := get!_extract s p s.size k h lrr; rw [← e]; generalize s.extract p s.size = t at h1 ⊢; obtain ⟨d⟩ := t; have h1 : k < d.size := h1
 show d.toList[k]? = some (d[k]!)
 rw [Array.getElem?_toList, Array.getElem?_eq_getElem h1, getElem!_pos d k h1]
theorem index_none {s : ByteArray} {p : Nat} (h : Lib.indexByte (s.extract p s.size).data.toList 10 = -1) : ∀ k, p ≤ k → k < s.size → s.get! k ≠ 10 := by
 intro k h1 h2 e
 have := Lib.indexByte_none h (k - p); rw [ext_list (by omega), show p + (k - p) = k by omega, e] at this; exact this rfl
theorem index_some {s : ByteArray} {p j : Nat} (h : Lib.indexByte (s.extract p s.size).data.toList 10 = (j : Int)) : p + j < s.size ∧ s.get! (p + j) = 10 ∧ ∀ k, p ≤ k → k < p + j → s.get! k ≠ 10 := by
 obtain ⟨a1, a2⟩ := Lib.indexByte_some h
 have hj : p + j < s.size := by
  have := (List.getElem?_eq_some_iff.1 a1).1
  have e : (s.extract p s.size).data.toList.length = s.size - p := by
   rw [Array.length_toList]
   show (s.extract p s.size).size = _
   simp
  omega
 rw [ext_list hj] at a1; refine ⟨hj, by injection a1, fun k h1 h2 e => ?_⟩; have := a2 (k - p) (by omega); rw [ext_list (by omega), show p + (k - p) = k by omega, e] at this; exact this rfl
theorem Blk.but {w w' : World} {b : Nat} {X : Nat → Prop} {cs : List Value} {e : TypeId} (h : Blk w b cs e) (hk : KeptBut X w w') (hx : ¬ X b) : Blk w' b cs e := (hk.same b h.lt hx).trans h
set_option maxRecDepth 100000 in
theorem split_iter (n b : Nat) (s : ByteArray) (w : World) (hm : s.size ≤ maxLen) (h0 : Blk w b [.string s] 9) (h1 : Blk w (b + 1) [.string ⟨#[10]⟩] 9) (h2 : Blk w (b + 1 + 1) [.int .i64 0] 3) :
  IterOwn n Tryz.prog 183 #[.pointer (some ⟨b + 1, 0, none⟩), .pointer (some ⟨b, 0, none⟩), .pointer (some ⟨b + 1 + 1, 0, none⟩)] b b (b + 3) (linesB s) w := by
 intro l J W hW hz hJ hY hj0
 have B0 : Blk W b [.string s] 9 := h0.keeps hW (by omega) (by omega); have B1 : Blk W (b + 1) [.string ⟨#[10]⟩] 9 := h1.keeps hW (by omega) (by omega); have B2 : Blk W (b + 1 + 1) [.int .i64 0] 3 := h2.keeps hW (by omega) (by omega); clear h0 h1 h2 hW; have hall := hdh (show linesB s = linesB s from rfl); unfold maxLen at hm; refine callsIn_of_wp Tryz.func183 rfl trivial ?_ rfl; simp only [Tryz.ntmps183, List.size_toArray, List.length_cons, List.length_nil, Nat.reduceAdd, Nat.reduceSub, Array.replicate_succ, Array.replicate_zero, List.push_toArray, List.append_toArray, List.nil_append, List.cons_append]
 have q1 := B1.cell (o := 0) rfl; obtain ⟨L, hL⟩ := exx (linesB s); rw [hL]
 gi_wp2
 gi_loopw [] (fun wr => ∃ (pre : List ByteArray) (p : Nat), p ≤ s.size ∧ Blk wr b [.string (s.extract p s.size)] 9 ∧ Blk wr (b + 1) [.string ⟨#[10]⟩] 9 ∧ Blk wr (b + 1 + 1) [.int .i64 0] 3 ∧ Hid (pre ++ splB s (s.size - p) p p = L) ∧ J pre wr ∧ b + 3 ≤ wr.heap.size) (fun wr => strLen (wr.cell? ⟨b, 0, none⟩))
 case atStart => exact ⟨[], 0, Nat.zero_le _, by rw [extract_whole]; exact B0, B1, B2, hdh hL, hj0, hz⟩
 case round =>
  clear q1 B0 B1 B2 hz; replace hL := hdh hL; obtain ⟨pre, p, hp, B0, B1, B2, hx, hj, hz⟩ := hrel; have q0 := B0.cell (o := 0) rfl; have q1 := B1.cell (o := 0) rfl; have q2 := B2.cell (o := 0) rfl; have f0 := B0.free; obtain ⟨I, hI⟩ := exx (Lib.indexByte (s.extract p s.size).data.toList 10)
  have IX := fun w => callsIn_wide (n := n - 1) |>.2 (sidx_any (s.extract p s.size) w)
  rw [hI] at IX
  by_cases c : I = -1
  ·subst c
   have hlast := lines_none hp (index_none hI); obtain ⟨fn, tmps, assign, body, hy, hR⟩ := hY pre (s.extract p s.size) [] wr (by rw [← hlast, hL.out]; exact hx.out) hj; replace hR := hdh hR; replace hI := hdh hI
   gi_wp2_with (gi_at_call 184; (with_reducible refine (IX _).mono ?_); rintro e w1 ⟨rfl, rfl⟩)
   refine hR.out.mono ?_
   rintro e W3 ⟨rfl, hJ3, _, _⟩
   rw [hlast] at hx; have hx := hx.out; rw [hx] at hJ3
   gi_wp2
   go_end0
   exact ⟨⟨_, rfl⟩, hJ3⟩
  ·obtain ⟨j, rfl⟩ : ∃ j : Nat, I = (j : Int) := ⟨I.toNat, by have := Lib.indexByte_ge (s.extract p s.size).data.toList 10; omega⟩
   obtain ⟨hj1, hj2, hj3⟩ := index_some hI; have hcons := lines_some hj1 hj2 hj3; have e1 := extract_head (s := s) (p := p) (j := j) (by omega); have e2 := extract_tail (s := s) (p := p) (j := j + 1) (by omega); obtain ⟨fn, tmps, assign, body, hy, hR⟩ := hY pre (s.extract p (p + j)) _ wr (by rw [← hcons, hL.out]; exact hx.out) hj
   have zs : (s.extract p s.size).size = s.size - p := by simp
   obtain ⟨t, ht⟩ := exx (s.extract p s.size); rw [ht] at q0 B0 IX e1 e2 zs
   have hjt : j < t.size := by omega
   have hj0 : ¬ (j : Int) < 0 := by omega
   replace hR := hdh hR; replace hI := hdh hI; replace hx := hdh hx; clear c hj2 hj3
   gi_wp2_with (gi_at_call 184; (with_reducible refine (IX _).mono ?_); rintro e w1 ⟨rfl, rfl⟩)
   refine hR.out.mono ?_
   rintro e W3 ⟨rfl, hJ3, hk3, hz3⟩
   have D0 : Blk W3 b [.string t] 9 := B0.keeps hk3 (by omega) (by omega); have D1 : Blk W3 (b + 1) [.string ⟨#[10]⟩] 9 := B1.keeps hk3 (by omega) (by omega); have D2 : Blk W3 (b + 1 + 1) [.int .i64 0] 3 := B2.keeps hk3 (by omega) (by omega)
   have m0 : strLen (wr.cell? ⟨b, 0, none⟩) = t.size := by rw [q0]; rfl
   clear B0 B1 B2 q0 q1 q2 f0 hR; have q0 := D0.cell (o := 0) rfl; have q1 := D1.cell (o := 0) rfl; have q2 := D2.cell (o := 0) rfl; have f0 := D0.free
   have hj2 : j + 1 ≤ t.size := by omega
   have hji : ((j + 1 : Nat) : Int) ≤ (t.size : Int) := by omega
   gi_wp2
   have E0 := D0.set 0 (.string (s.extract (p + (j + 1)) s.size)); have e0 := E0.cell (o := 0) rfl; go_roundw
   case rel =>
    refine ⟨pre ++ [s.extract p (p + j)], p + (j + 1), by omega, E0, D1.set_ne (by simp) _, D2.set_ne (by simp; omega) _, hdh ?_, hJ _ _ _ hJ3 ((KeptBut.refl _ _).setCell _ _ rfl), by simp; omega⟩; rw [List.append_assoc, ← hx.out, hcons]
    rfl
   case measure =>
    rw [e0, m0]
    show (s.extract (p + (j + 1)) s.size).size < t.size
    simp
    omega
end
theorem held_alloc {W u v : World} {k : Nat} {ob : Obj} (h : Held W k [] u) (hv : u.alloc ob = v) : Held W k [] v := by
 subst hv; exact h.below ((Below.refl _ _).alloc lrr _)
theorem held_size {W u : World} (h : Held W 0 [] u) : W.heap.size ≤ u.heap.size := by
 have := h.2.1; omega
theorem held_kept {W u v : World} {b : Nat} (h : Held W 0 [] u) (hk : KeptBut (· = b) u v) (hb : W.heap.size ≤ b) : Held W 0 [] v :=
 ⟨KeptBut.toBelow h.1 hk (held_size h) (fun k h1 h2 => by omega), by have := hk.size; have := held_size h; omega, trivial⟩
theorem Blk.alloc_eq {w v : World} {b : Nat} {cs : List Value} {e : TypeId} {ob : Obj} (h : Blk w b cs e) (hv : w.alloc ob = v) : Blk v b cs e := by
 subst hv; exact h.alloc _
theorem Blk.new_eq {w v : World} {cs : List Value} {e : TypeId} (hv : w.alloc (.cells cs.toArray e) = v) : Blk v w.heap.size cs e := by
 subst hv; exact Blk.new' rfl
structure Ce where
 rune : Int
 col : Co
 back : Co
 wide : Bool
 tail : Bool
instance : Inhabited Ce := ⟨⟨0, ⟨0, 0, 0, 0⟩, ⟨0, 0, 0, 0⟩, false, false⟩⟩
def Ce.enc (c : Ce) : List Value := [.int .i32 c.rune] ++ c.col.enc ++ c.back.enc ++ [.bool c.wide, .bool c.tail]
theorem Ce.enc_len (c : Ce) : c.enc.length = 11 := rfl
def Ce.Wf (c : Ce) : Prop := True ∧ c.col.Wf ∧ c.back.Wf
def CeL (l : List Ce) : Prop := ∀ c ∈ l, c.Wf
def mayC (c : Ce) : Bool := validR c.rune && (if widR c.rune = 1 then !c.wide && !c.tail else if widR c.rune = 2 then c.wide != c.tail else false)
def CMem (w : World) (b p : Nat) (c : Ce) : Prop :=
 w.cell? ⟨b, p, none⟩ = some (.int .i32 c.rune) ∧ w.cell? ⟨b, p + 1, none⟩ = some (.int .u8 c.col.r) ∧ w.cell? ⟨b, p + 2, none⟩ = some (.int .u8 c.col.g) ∧ w.cell? ⟨b, p + 3, none⟩ = some (.int .u8 c.col.b) ∧ w.cell? ⟨b, p + 4, none⟩ = some (.int .u8 c.col.a) ∧ w.cell? ⟨b, p + 5, none⟩ = some (.int .u8 c.back.r) ∧ w.cell? ⟨b, p + 6, none⟩ = some (.int .u8 c.back.g) ∧ w.cell? ⟨b, p + 7, none⟩ = some (.int .u8 c.back.b) ∧ w.cell? ⟨b, p + 8, none⟩ = some (.int .u8 c.back.a) ∧ w.cell? ⟨b, p + 9, none⟩ = some (.bool c.wide) ∧ w.cell? ⟨b, p + 10, none⟩ = some (.bool c.tail)
theorem cmem_of {w : World} {b p : Nat} {c : Ce} (h : ∀ i u, c.enc[i]? = some u → w.cell? ⟨b, p + i, none⟩ = some u) : CMem w b p c :=
 ⟨h 0 _ rfl, h 1 _ rfl, h 2 _ rfl, h 3 _ rfl, h 4 _ rfl, h 5 _ rfl, h 6 _ rfl, h 7 _ rfl, h 8 _ rfl, h 9 _ rfl, h 10 _ rfl⟩
theorem CMem.below {w w' : World} {b p B : Nat} {c : Ce} (h : CMem w b p c) (hb : Below B w w') (hB : b < B) : CMem w' b p c := by
 obtain ⟨h0, h1, h2, h3, h4, h5, h6, h7, h8, h9, h10⟩ := h
 have k : ∀ o v, w.cell? ⟨b, o, none⟩ = some v → w'.cell? ⟨b, o, none⟩ = some v := fun o v e => (hb.cell (p := ⟨b, o, none⟩) hB).trans e
 exact ⟨k _ _ h0, k _ _ h1, k _ _ h2, k _ _ h3, k _ _ h4, k _ _ h5, k _ _ h6, k _ _ h7, k _ _ h8, k _ _ h9, k _ _ h10⟩
theorem row_ce {B : Nat} {w : World} {v : Value} {l : List Ce} (h : Row B 11 Ce.enc w v l) (h0 : 0 < l.length) :
  ∃ b o cap, v = .slice (some ⟨b, o, none⟩) l.length cap ∧ b < B ∧ l.length ≤ cap ∧ cap ≤ maxLen ∧ ∀ (j : Nat) c, l[j]? = some c → CMem w b (o + j * 11) c := by
 obtain ⟨b, o, cap, hv, hb, hc, hm, hx⟩ := h.open_ h0; exact ⟨b, o, cap, hv, hb, hc, hm, fun j c hj => cmem_of (fun i u hu => hx j c hj i u hu)⟩
theorem cmay_any (c : Ce) (w : World) : Calls Tryz.prog 138 #[.agg #[.int .i32 (c).rune, .int .u8 (c).col.r, .int .u8 (c).col.g, .int .u8 (c).col.b, .int .u8 (c).col.a, .int .u8 (c).back.r, .int .u8 (c).back.g, .int .u8 (c).back.b, .int .u8 (c).back.a, .bool (c).wide, .bool (c).tail]] w fun e w' => e = .returned (.bool (mayC c)) ∧ Below w.heap.size w w' := by
 obtain ⟨R, hR⟩ := exx (mayC c); rw [hR]; obtain ⟨ru, ⟨c1, c2, c3, c4⟩, ⟨d1, d2, d3, d4⟩, wi, ta⟩ := c; unfold mayC at hR; dsimp only at hR ⊢; have V := validRune_any ru; have D := width_any ru; have bd := widR_bd ru
 go_enter Tryz.func138, Tryz.ntmps138
 cases hv : validR ru
 ·rw [hv] at V hR
  simp only [Bool.false_and] at hR; subst hR; replace V := hdh V
  go_wp2_with (go_at_call 140; (with_reducible refine cmm (V.out _) fun w1 hb1 => ?_); obtain ⟨hc1, hf1, hz1⟩ := bzz hb1; (try simp at hz1); (try have lt1 : w.heap.size < w1.heap.size := (by omega)))
  go_ret; exact ⟨rfl, belt⟩
 ·rw [hv] at V hR
  simp only [Bool.true_and] at hR; obtain ⟨W, hW⟩ := exx (widR ru); rw [hW] at D hR bd; clear hW; replace V := hdh V; replace D := hdh D
  obtain rfl | rfl | rfl : W = 0 ∨ W = 1 ∨ W = 2 := by omega
  ·simp at hR; subst hR
   go_wp2_with (first | (go_at_call 140; (with_reducible refine cmm (V.out _) fun w1 hb1 => ?_); obtain ⟨hc1, hf1, hz1⟩ := bzz hb1; (try simp at hz1); (try have lt1 : w.heap.size < w1.heap.size := (by omega))) | (go_at_call 99; (with_reducible refine cmm (D.out _) fun w2 hb2 => ?_); obtain ⟨hc2, hf2, hz2⟩ := bzz hb2; (try simp at hz2); (try have lt2 : w.heap.size < w2.heap.size := (by omega))))
   go_ret; exact ⟨rfl, belt⟩
  ·cases wi
   ·cases ta
    ·simp at hR; subst hR
     go_wp2_with (first | (go_at_call 140; (with_reducible refine cmm (V.out _) fun w1 hb1 => ?_); obtain ⟨hc1, hf1, hz1⟩ := bzz hb1; (try simp at hz1); (try have lt1 : w.heap.size < w1.heap.size := (by omega))) | (go_at_call 99; (with_reducible refine cmm (D.out _) fun w2 hb2 => ?_); obtain ⟨hc2, hf2, hz2⟩ := bzz hb2; (try simp at hz2); (try have lt2 : w.heap.size < w2.heap.size := (by omega))))
     go_ret; exact ⟨rfl, belt⟩
    ·simp at hR; subst hR
     go_wp2_with (first | (go_at_call 140; (with_reducible refine cmm (V.out _) fun w1 hb1 => ?_); obtain ⟨hc1, hf1, hz1⟩ := bzz hb1; (try simp at hz1); (try have lt1 : w.heap.size < w1.heap.size := (by omega))) | (go_at_call 99; (with_reducible refine cmm (D.out _) fun w2 hb2 => ?_); obtain ⟨hc2, hf2, hz2⟩ := bzz hb2; (try simp at hz2); (try have lt2 : w.heap.size < w2.heap.size := (by omega))))
     go_ret; exact ⟨rfl, belt⟩
   ·simp at hR; subst hR
    go_wp2_with (first | (go_at_call 140; (with_reducible refine cmm (V.out _) fun w1 hb1 => ?_); obtain ⟨hc1, hf1, hz1⟩ := bzz hb1; (try simp at hz1); (try have lt1 : w.heap.size < w1.heap.size := (by omega))) | (go_at_call 99; (with_reducible refine cmm (D.out _) fun w2 hb2 => ?_); obtain ⟨hc2, hf2, hz2⟩ := bzz hb2; (try simp at hz2); (try have lt2 : w.heap.size < w2.heap.size := (by omega))))
    go_ret; exact ⟨rfl, belt⟩
  ·have e : (wi != ta) = R := by simpa using hR
   clear hR
   cases wi <;> cases ta <;> simp at e <;> subst e
   ·go_wp2_with (first | (go_at_call 140; (with_reducible refine cmm (V.out _) fun w1 hb1 => ?_); obtain ⟨hc1, hf1, hz1⟩ := bzz hb1; (try simp at hz1); (try have lt1 : w.heap.size < w1.heap.size := (by omega))) | (go_at_call 99; (with_reducible refine cmm (D.out _) fun w2 hb2 => ?_); obtain ⟨hc2, hf2, hz2⟩ := bzz hb2; (try simp at hz2); (try have lt2 : w.heap.size < w2.heap.size := (by omega))))
    go_ret; exact ⟨rfl, belt⟩
   ·go_wp2_with (first | (go_at_call 140; (with_reducible refine cmm (V.out _) fun w1 hb1 => ?_); obtain ⟨hc1, hf1, hz1⟩ := bzz hb1; (try simp at hz1); (try have lt1 : w.heap.size < w1.heap.size := (by omega))) | (go_at_call 99; (with_reducible refine cmm (D.out _) fun w2 hb2 => ?_); obtain ⟨hc2, hf2, hz2⟩ := bzz hb2; (try simp at hz2); (try have lt2 : w.heap.size < w2.heap.size := (by omega))))
    go_ret; exact ⟨rfl, belt⟩
   ·go_wp2_with (first | (go_at_call 140; (with_reducible refine cmm (V.out _) fun w1 hb1 => ?_); obtain ⟨hc1, hf1, hz1⟩ := bzz hb1; (try simp at hz1); (try have lt1 : w.heap.size < w1.heap.size := (by omega))) | (go_at_call 99; (with_reducible refine cmm (D.out _) fun w2 hb2 => ?_); obtain ⟨hc2, hf2, hz2⟩ := bzz hb2; (try simp at hz2); (try have lt2 : w.heap.size < w2.heap.size := (by omega))))
    go_ret; exact ⟨rfl, belt⟩
   ·go_wp2_with (first | (go_at_call 140; (with_reducible refine cmm (V.out _) fun w1 hb1 => ?_); obtain ⟨hc1, hf1, hz1⟩ := bzz hb1; (try simp at hz1); (try have lt1 : w.heap.size < w1.heap.size := (by omega))) | (go_at_call 99; (with_reducible refine cmm (D.out _) fun w2 hb2 => ?_); obtain ⟨hc2, hf2, hz2⟩ := bzz hb2; (try simp at hz2); (try have lt2 : w.heap.size < w2.heap.size := (by omega))))
    go_ret; exact ⟨rfl, belt⟩
theorem crcell_any (c : Ce) (w : World) : Calls Tryz.prog 125 #[.agg #[.int .i32 (c).rune, .int .u8 (c).col.r, .int .u8 (c).col.g, .int .u8 (c).col.b, .int .u8 (c).col.a, .int .u8 (c).back.r, .int .u8 (c).back.g, .int .u8 (c).back.b, .int .u8 (c).back.a, .bool (c).wide, .bool (c).tail]] w fun e w' => e = .returned (.bool (mayC c)) ∧ Below w.heap.size w w' := by
 obtain ⟨R, hR⟩ := exx (mayC c); rw [hR]; obtain ⟨ru, ⟨c1, c2, c3, c4⟩, ⟨d1, d2, d3, d4⟩, wi, ta⟩ := c; unfold mayC at hR; dsimp only at hR ⊢; have D := rwidth_any ru; have bd := widR_bd ru
 go_enter Tryz.func125, Tryz.ntmps125
 cases hv : validR ru
 ·rw [hv] at hR
  simp only [Bool.false_and] at hR; subst hR; have hv := valid_of.1 hv; clear D bd
  by_cases q1 : ru < 0
  ·go_wp2
   go_ret; exact ⟨rfl, belt⟩
  ·by_cases q2 : 1114111 < ru
   ·go_wp2
    go_ret; exact ⟨rfl, belt⟩
   ·have q3 : 55296 ≤ ru := by omega
    have q4 : ru ≤ 57343 := by omega
    go_wp2; go_ret; exact ⟨rfl, belt⟩
 ·rw [hv] at hR
  simp only [Bool.true_and] at hR
  have hv : ¬ (ru < 0 ∨ 1114111 < ru ∨ (55296 ≤ ru ∧ ru ≤ 57343)) := fun h => by rw [valid_of.2 h] at hv; cases hv
  have q1 : ¬ ru < 0 := fun h => hv (.inl h)
  have q2 : ¬ 1114111 < ru := fun h => hv (.inr (.inl h))
  obtain ⟨W, hW⟩ := exx (widR ru); rw [hW] at D hR bd; clear hW; replace D := hdh D
  by_cases q3 : 55296 ≤ ru
  ·have q4 : ¬ ru ≤ 57343 := fun h => hv (.inr (.inr ⟨q3, h⟩))
   clear hv
   obtain rfl | rfl | rfl : W = 0 ∨ W = 1 ∨ W = 2 := by omega
   ·simp at hR; subst hR
    go_wp2_with (go_at_call 174; (with_reducible refine cmm (D.out _) fun w2 hb2 => ?_); obtain ⟨hc2, hf2, hz2⟩ := bzz hb2; (try simp at hz2); (try have lt2 : w.heap.size < w2.heap.size := (by omega)))
    go_ret; exact ⟨rfl, belt⟩
   ·cases wi
    ·cases ta
     ·simp at hR; subst hR
      go_wp2_with (go_at_call 174; (with_reducible refine cmm (D.out _) fun w2 hb2 => ?_); obtain ⟨hc2, hf2, hz2⟩ := bzz hb2; (try simp at hz2); (try have lt2 : w.heap.size < w2.heap.size := (by omega)))
      go_ret; exact ⟨rfl, belt⟩
     ·simp at hR; subst hR
      go_wp2_with (go_at_call 174; (with_reducible refine cmm (D.out _) fun w2 hb2 => ?_); obtain ⟨hc2, hf2, hz2⟩ := bzz hb2; (try simp at hz2); (try have lt2 : w.heap.size < w2.heap.size := (by omega)))
      go_ret; exact ⟨rfl, belt⟩
    ·simp at hR; subst hR
     go_wp2_with (go_at_call 174; (with_reducible refine cmm (D.out _) fun w2 hb2 => ?_); obtain ⟨hc2, hf2, hz2⟩ := bzz hb2; (try simp at hz2); (try have lt2 : w.heap.size < w2.heap.size := (by omega)))
     go_ret; exact ⟨rfl, belt⟩
   ·have e : (wi != ta) = R := by simpa using hR
    clear hR
    cases wi <;> cases ta <;> simp at e <;> subst e
    ·go_wp2_with (go_at_call 174; (with_reducible refine cmm (D.out _) fun w2 hb2 => ?_); obtain ⟨hc2, hf2, hz2⟩ := bzz hb2; (try simp at hz2); (try have lt2 : w.heap.size < w2.heap.size := (by omega)))
     go_ret; exact ⟨rfl, belt⟩
    ·go_wp2_with (go_at_call 174; (with_reducible refine cmm (D.out _) fun w2 hb2 => ?_); obtain ⟨hc2, hf2, hz2⟩ := bzz hb2; (try simp at hz2); (try have lt2 : w.heap.size < w2.heap.size := (by omega)))
     go_ret; exact ⟨rfl, belt⟩
    ·go_wp2_with (go_at_call 174; (with_reducible refine cmm (D.out _) fun w2 hb2 => ?_); obtain ⟨hc2, hf2, hz2⟩ := bzz hb2; (try simp at hz2); (try have lt2 : w.heap.size < w2.heap.size := (by omega)))
     go_ret; exact ⟨rfl, belt⟩
    ·go_wp2_with (go_at_call 174; (with_reducible refine cmm (D.out _) fun w2 hb2 => ?_); obtain ⟨hc2, hf2, hz2⟩ := bzz hb2; (try simp at hz2); (try have lt2 : w.heap.size < w2.heap.size := (by omega)))
     go_ret; exact ⟨rfl, belt⟩
  ·clear hv
   obtain rfl | rfl | rfl : W = 0 ∨ W = 1 ∨ W = 2 := by omega
   ·simp at hR; subst hR
    go_wp2_with (go_at_call 174; (with_reducible refine cmm (D.out _) fun w2 hb2 => ?_); obtain ⟨hc2, hf2, hz2⟩ := bzz hb2; (try simp at hz2); (try have lt2 : w.heap.size < w2.heap.size := (by omega)))
    go_ret; exact ⟨rfl, belt⟩
   ·cases wi
    ·cases ta
     ·simp at hR; subst hR
      go_wp2_with (go_at_call 174; (with_reducible refine cmm (D.out _) fun w2 hb2 => ?_); obtain ⟨hc2, hf2, hz2⟩ := bzz hb2; (try simp at hz2); (try have lt2 : w.heap.size < w2.heap.size := (by omega)))
      go_ret; exact ⟨rfl, belt⟩
     ·simp at hR; subst hR
      go_wp2_with (go_at_call 174; (with_reducible refine cmm (D.out _) fun w2 hb2 => ?_); obtain ⟨hc2, hf2, hz2⟩ := bzz hb2; (try simp at hz2); (try have lt2 : w.heap.size < w2.heap.size := (by omega)))
      go_ret; exact ⟨rfl, belt⟩
    ·simp at hR; subst hR
     go_wp2_with (go_at_call 174; (with_reducible refine cmm (D.out _) fun w2 hb2 => ?_); obtain ⟨hc2, hf2, hz2⟩ := bzz hb2; (try simp at hz2); (try have lt2 : w.heap.size < w2.heap.size := (by omega)))
     go_ret; exact ⟨rfl, belt⟩
   ·have e : (wi != ta) = R := by simpa using hR
    clear hR
    cases wi <;> cases ta <;> simp at e <;> subst e
    ·go_wp2_with (go_at_call 174; (with_reducible refine cmm (D.out _) fun w2 hb2 => ?_); obtain ⟨hc2, hf2, hz2⟩ := bzz hb2; (try simp at hz2); (try have lt2 : w.heap.size < w2.heap.size := (by omega)))
     go_ret; exact ⟨rfl, belt⟩
    ·go_wp2_with (go_at_call 174; (with_reducible refine cmm (D.out _) fun w2 hb2 => ?_); obtain ⟨hc2, hf2, hz2⟩ := bzz hb2; (try simp at hz2); (try have lt2 : w.heap.size < w2.heap.size := (by omega)))
     go_ret; exact ⟨rfl, belt⟩
    ·go_wp2_with (go_at_call 174; (with_reducible refine cmm (D.out _) fun w2 hb2 => ?_); obtain ⟨hc2, hf2, hz2⟩ := bzz hb2; (try simp at hz2); (try have lt2 : w.heap.size < w2.heap.size := (by omega)))
     go_ret; exact ⟨rfl, belt⟩
    ·go_wp2_with (go_at_call 174; (with_reducible refine cmm (D.out _) fun w2 hb2 => ?_); obtain ⟨hc2, hf2, hz2⟩ := bzz hb2; (try simp at hz2); (try have lt2 : w.heap.size < w2.heap.size := (by omega)))
     go_ret; exact ⟨rfl, belt⟩
/-! ### rows of cells -/
theorem allC_step {l : List Ce} {k : Nat} {c : Ce} (h : l[k]? = some c) : (l.drop k).all mayC = (mayC c && (l.drop (k + 1)).all mayC) := by
 rw [drop_get h]; rfl
theorem call_any (l : List Ce) (v : Value) (w : World) (hl : Row w.heap.size 11 Ce.enc w v l) :
  Calls Tryz.prog 94 #[v] w fun e w' => e = .returned (.bool (l.all mayC)) ∧ Below w.heap.size w w' := by
 obtain ⟨s0, cap, rfl, hmax⟩ := hl.shape
 have hopen := fun h0 => row_ce hl h0
 obtain ⟨n, en⟩ := exx (l.length); rw [en] at hopen hmax ⊢; obtain ⟨R, hR⟩ := exx (l.all mayC); rw [hR]; have hgo := hdh (show (l.drop 0).all mayC = R from hR); replace hopen := hdh hopen; replace en := hdh en; unfold maxLen at hmax; clear hl hR
 go_enter Tryz.func94, Tryz.ntmps94
 go_wp2
 go_loopw [7] (fun iv wr => ∃ k : Nat, k ≤ n ∧ iv = .int .i64 k ∧ Hid ((l.drop k).all mayC = R) ∧ Below w.heap.size w wr) (fun iv _ => n - (intOf iv).toNat)
 case atStart => exact ⟨0, Nat.zero_le _, rfl, hgo, Below.refl _ _⟩
 case round =>
  obtain ⟨k, hk, rfl, hgo, hbr⟩ := hrel; have zr := hbr.size
  by_cases hkn : k < n
  ·obtain ⟨b, o, cap', e, hb, _, _, hel⟩ := hopen.out (by omega)
   simp at e
   obtain ⟨rfl, rfl⟩ := e; obtain ⟨s, hs⟩ := get_at en.out hkn; obtain ⟨g0, g1, g2, g3, g4, g5, g6, g7, g8, g9, g10⟩ := CMem.below (hel k s hs) hbr hb; have A := cmay_any s; have hg := hgo.out; rw [allC_step hs] at hg
   have hkk : (k : Int) < n := by omega
   have yb : b < wr.heap.size := by omega
   clear hel hs; generalize mayC s = r at A hg; replace A := hdh A
   cases r
   ·rw [Bool.false_and] at hg
    subst hg
    go_wp2_with (go_at_call 138; (with_reducible refine cmm (A.out _) fun w1 hb1 => ?_); obtain ⟨hc1, hf1, hz1⟩ := bzz hb1; (try simp at hz1); (try have lt1 : w.heap.size < w1.heap.size := (by omega)))
    go_ret; exact ⟨rfl, belt⟩
   ·rw [Bool.true_and] at hg
    replace hg := hdh hg
    go_wp2_with (go_at_call 138; (with_reducible refine cmm (A.out _) fun w1 hb1 => ?_); obtain ⟨hc1, hf1, hz1⟩ := bzz hb1; (try simp at hz1); (try have lt1 : w.heap.size < w1.heap.size := (by omega)))
    go_roundw
    case rel => exact ⟨k + 1, by omega, by go_num, hg, belt⟩
    case measure => simp [intOf]; omega
  ·obtain rfl : k = n := by omega
   have hg := hgo.out; rw [List.drop_eq_nil_of_le (by have := en.out; omega)] at hg; have hg : true = R := hg; subst hg; go_wp2; go_ret; exact ⟨rfl, hbr⟩
def fitsS (wd ht : Int) : Bool := decide (0 ≤ wd) && decide (0 ≤ ht) && decide (wd ≤ 16384) && decide (ht ≤ 16384) && decide (wd * ht ≤ 262144)
theorem fitsS_true {wd ht : Int} : fitsS wd ht = true ↔ (0 ≤ wd ∧ 0 ≤ ht ∧ wd ≤ 16384 ∧ ht ≤ 16384 ∧ wd * ht ≤ 262144) := by
 unfold fitsS; simp only [Bool.and_eq_true, decide_eq_true_eq]
 constructor
 ·rintro ⟨⟨⟨⟨a, b⟩, c⟩, d⟩, e⟩; exact ⟨a, b, c, d, e⟩
 ·rintro ⟨a, b, c, d, e⟩; exact ⟨⟨⟨⟨a, b⟩, c⟩, d⟩, e⟩
theorem mul_bd {wd ht : Int} (h0 : 0 ≤ wd) (h1 : 0 ≤ ht) (h2 : wd ≤ 16384) (h3 : ht ≤ 16384) : 0 ≤ wd * ht ∧ wd * ht ≤ 268435456 :=
 ⟨Int.mul_nonneg h0 h1, Int.le_trans (Int.mul_le_mul h2 h3 h1 (by omega)) (by decide)⟩
theorem cfits_any (wd ht : Int) (w : World) (h1 : I64 wd) (h2 : I64 ht) : Calls Tryz.prog 47 #[.agg #[.int .i64 (wd), .int .i64 (ht)]] w fun e w' => e = .returned (.bool (fitsS wd ht)) ∧ Below w.heap.size w w' := by
 obtain ⟨R, hR⟩ := exx (fitsS wd ht); rw [hR]; obtain ⟨P, hP⟩ := exx (wd * ht)
 have bd : 0 ≤ wd → 0 ≤ ht → wd ≤ 16384 → ht ≤ 16384 → 0 ≤ P ∧ P ≤ 268435456 := fun a b c d => hP ▸ mul_bd a b c d
 unfold fitsS at hR; rw [hP] at hR
 go_enter Tryz.func47, Tryz.ntmps47
 by_cases q : wd < ht
 ·have q2 : wd ≤ ht := by omega
  have q3 : max wd ht = ht := by omega
  have q4 : min wd ht = wd := by omega
  by_cases c1 : 0 ≤ wd
  ·by_cases c2 : ht ≤ 16384
   ·have a1 : 0 ≤ wd := by omega
    have a2 : 0 ≤ ht := by omega
    have a3 : wd ≤ 16384 := by omega
    have a4 : ht ≤ 16384 := by omega
    have bd := bd a1 a2 a3 a4
    by_cases c3 : P ≤ 262144
    ·have : R = true := by rw [← hR]; simp [a1, a2, a3, a4, c3]
     subst this; clear hR; go_wp2; go_ret; exact ⟨rfl, belt⟩
    ·have : R = false := by rw [← hR]; simp [c3]
     subst this; clear hR; go_wp2; go_ret; exact ⟨rfl, belt⟩
   ·have : R = false := by rw [← hR]; simp [c2]
    subst this; clear hR bd; go_wp2; go_ret; exact ⟨rfl, belt⟩
  ·have : R = false := by rw [← hR]; simp [c1]
   subst this; clear hR bd; go_wp2; go_ret; exact ⟨rfl, belt⟩
 ·by_cases qq : wd = ht
  ·have q2 : ht ≤ wd := by omega
   have q5 : wd ≤ ht := by omega
   clear qq
   have q3 : max wd ht = wd := by omega
   have q4 : min wd ht = ht := by omega
   by_cases c1 : 0 ≤ ht
   ·by_cases c2 : wd ≤ 16384
    ·have a1 : 0 ≤ wd := by omega
     have a2 : 0 ≤ ht := by omega
     have a3 : wd ≤ 16384 := by omega
     have a4 : ht ≤ 16384 := by omega
     have bd := bd a1 a2 a3 a4
     by_cases c3 : P ≤ 262144
     ·have : R = true := by rw [← hR]; simp [a1, a2, a3, a4, c3]
      subst this; clear hR; go_wp2; go_ret; exact ⟨rfl, belt⟩
     ·have : R = false := by rw [← hR]; simp [c3]
      subst this; clear hR; go_wp2; go_ret; exact ⟨rfl, belt⟩
    ·have : R = false := by rw [← hR]; simp [c2]
     subst this; clear hR bd; go_wp2; go_ret; exact ⟨rfl, belt⟩
   ·have : R = false := by rw [← hR]; simp [c1]
    subst this; clear hR bd; go_wp2; go_ret; exact ⟨rfl, belt⟩
  ·have q2 : ht ≤ wd := by omega
   have q5 : ht < wd := by omega
   have q6 : ¬ wd ≤ ht := by omega
   have q3 : max wd ht = wd := by omega
   have q4 : min wd ht = ht := by omega
   by_cases c1 : 0 ≤ ht
   ·by_cases c2 : wd ≤ 16384
    ·have a1 : 0 ≤ wd := by omega
     have a2 : 0 ≤ ht := by omega
     have a3 : wd ≤ 16384 := by omega
     have a4 : ht ≤ 16384 := by omega
     have bd := bd a1 a2 a3 a4
     by_cases c3 : P ≤ 262144
     ·have : R = true := by rw [← hR]; simp [a1, a2, a3, a4, c3]
      subst this; clear hR; go_wp2; go_ret; exact ⟨rfl, belt⟩
     ·have : R = false := by rw [← hR]; simp [c3]
      subst this; clear hR; go_wp2; go_ret; exact ⟨rfl, belt⟩
    ·have : R = false := by rw [← hR]; simp [c2]
     subst this; clear hR bd; go_wp2; go_ret; exact ⟨rfl, belt⟩
   ·have : R = false := by rw [← hR]; simp [c1]
    subst this; clear hR bd; go_wp2; go_ret; exact ⟨rfl, belt⟩
theorem rsize_any (wd ht : Int) (w : World) (h1 : I64 wd) (h2 : I64 ht) : Calls Tryz.prog 124 #[.agg #[.int .i64 (wd), .int .i64 (ht)]] w fun e w' => e = .returned (.bool (fitsS wd ht)) ∧ Below w.heap.size w w' := by
 obtain ⟨R, hR⟩ := exx (fitsS wd ht); rw [hR]; obtain ⟨P, hP⟩ := exx (wd * ht)
 have bd : 0 ≤ wd → 0 ≤ ht → wd ≤ 16384 → ht ≤ 16384 → 0 ≤ P ∧ P ≤ 268435456 := fun a b c d => hP ▸ mul_bd a b c d
 unfold fitsS at hR; rw [hP] at hR
 go_enter Tryz.func124, Tryz.ntmps124
 by_cases a1 : 0 ≤ wd
 ·by_cases a2 : 0 ≤ ht
  ·by_cases a3 : wd ≤ 16384
   ·by_cases a4 : ht ≤ 16384
    ·have bd := bd a1 a2 a3 a4
     by_cases c3 : P ≤ 262144
     ·have : R = true := by rw [← hR]; simp [a1, a2, a3, a4, c3]
      subst this; clear hR; go_wp2; go_ret; exact ⟨rfl, belt⟩
     ·have : R = false := by rw [← hR]; simp [c3]
      subst this; clear hR; go_wp2; go_ret; exact ⟨rfl, belt⟩
    ·have : R = false := by rw [← hR]; simp [a4]
     subst this; clear hR bd; go_wp2; go_ret; exact ⟨rfl, belt⟩
   ·have : R = false := by rw [← hR]; simp [a3]
    subst this; clear hR bd; go_wp2; go_ret; exact ⟨rfl, belt⟩
  ·have : R = false := by rw [← hR]; simp [a2]
   subst this; clear hR bd; go_wp2; go_ret; exact ⟨rfl, belt⟩
 ·have : R = false := by rw [← hR]; simp [a1]
  subst this; clear hR bd; go_wp2; go_ret; exact ⟨rfl, belt⟩
def chkS (wd ht : Int) (l : List Ce) : Int := if fitsS wd ht && decide ((l.length : Int) = wd * ht) && l.all mayC then 0 else 150
theorem ccheck_any (wd ht : Int) (l : List Ce) (v : Value) (w : World) (h1 : I64 wd) (h2 : I64 ht) (hl : Row w.heap.size 11 Ce.enc w v l) : Calls Tryz.prog 49 #[.agg #[.int .i64 (wd), .int .i64 (ht), v]] w fun e w' => e = .returned (.int .i64 (chkS wd ht l)) ∧ Below w.heap.size w w' := by
 obtain ⟨R, hR⟩ := exx (chkS wd ht l); rw [hR]; unfold chkS at hR; have X := cfits_any wd ht; obtain ⟨P, hP⟩ := exx (wd * ht); rw [hP] at hR; obtain ⟨s0, cap, rfl, hmax⟩ := hl.shape; obtain ⟨n, en⟩ := exx (l.length); rw [en] at hR hmax; unfold maxLen at hmax
 have A := fun (w1 : World) (hb : Below w.heap.size w w1) => call_any l _ w1 ((hl.below hb).mono hb.size)
 rw [en] at A
 go_enter Tryz.func49, Tryz.ntmps49
 rw [en]
 cases hf : fitsS wd ht
 ·rw [hf] at X hR
  have : R = 150 := by rw [← hR]; simp
  subst this; replace X := hdh X; replace A := hdh A
  go_wp2_with (go_at_call 47; (with_reducible refine cmm (X.out _ ‹_› ‹_›) fun w1 hb1 => ?_); obtain ⟨hc1, hf1, hz1⟩ := bzz hb1; (try simp at hz1); (try have lt1 : w.heap.size < w1.heap.size := (by omega)))
  go_ret; exact ⟨rfl, belt⟩
 ·rw [hf] at X hR
  obtain ⟨a1, a2, a3, a4, a5⟩ := fitsS_true.1 hf; have bd := mul_bd a1 a2 a3 a4; rw [hP] at bd a5; replace X := hdh X
  by_cases c : (n : Int) = P
  ·cases ha : l.all mayC
   ·rw [ha] at A hR
    have : R = 150 := by rw [← hR]; simp
    subst this; replace A := hdh A
    have cb : ((n : Int) != P) = false := by simp [c]
    go_wp2_with (first | (go_at_call 47; (with_reducible refine cmm (X.out _ ‹_› ‹_›) fun w1 hb1 => ?_); obtain ⟨hc1, hf1, hz1⟩ := bzz hb1; (try simp at hz1); (try have lt1 : w.heap.size < w1.heap.size := (by omega))) | (go_at_call 94; (with_reducible refine cmm (A.out _ belt) fun w2 hb2 => ?_); obtain ⟨hc2, hf2, hz2⟩ := bzz hb2; (try simp at hz2); (try have lt2 : w.heap.size < w2.heap.size := (by omega))))
    go_ret; exact ⟨rfl, belt⟩
   ·rw [ha] at A hR
    have : R = 0 := by rw [← hR]; simp [c]
    subst this; replace A := hdh A
    have cb : ((n : Int) != P) = false := by simp [c]
    go_wp2_with (first | (go_at_call 47; (with_reducible refine cmm (X.out _ ‹_› ‹_›) fun w1 hb1 => ?_); obtain ⟨hc1, hf1, hz1⟩ := bzz hb1; (try simp at hz1); (try have lt1 : w.heap.size < w1.heap.size := (by omega))) | (go_at_call 94; (with_reducible refine cmm (A.out _ belt) fun w2 hb2 => ?_); obtain ⟨hc2, hf2, hz2⟩ := bzz hb2; (try simp at hz2); (try have lt2 : w.heap.size < w2.heap.size := (by omega))))
    go_ret; exact ⟨rfl, belt⟩
  ·have : R = 150 := by rw [← hR]; simp [c]
   subst this; replace A := hdh A
   have cb : ((n : Int) != P) = true := by simp [c]
   have cb2 : ((n : Int) == P) = false := by simp [c]
   go_wp2_with (first | (go_at_call 47; (with_reducible refine cmm (X.out _ ‹_› ‹_›) fun w1 hb1 => ?_); obtain ⟨hc1, hf1, hz1⟩ := bzz hb1; (try simp at hz1); (try have lt1 : w.heap.size < w1.heap.size := (by omega))) | (go_at_call 94; (with_reducible refine cmm (A.out _ belt) fun w2 hb2 => ?_); obtain ⟨hc2, hf2, hz2⟩ := bzz hb2; (try simp at hz2); (try have lt2 : w.heap.size < w2.heap.size := (by omega))))
   go_ret; exact ⟨rfl, belt⟩
end Go.Proofs.YtfcphagmjijmkaaGreatDoor
