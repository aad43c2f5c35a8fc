/-
  A range over a function whose iterator writes a variable of its own between two rounds: what is asked of the iterator, and a law for the caller whose body falls off its end in every round.
-/
import Derived.Lib.DecodeNEq
import Derived.LoopIn
import Derived.LoopNIn
import Derived.OwnWalkIn
import Derived.RangeFuncBound
import Derived.RangeFuncCalls
import Derived.RangeFuncLeaves
import Derived.RangeFuncNested
import Derived.Shelf.RegionOpen
import Derived.TacticsInMore
import Derived.Test.YtffmomgmkpmpkaaGreatDoorProg
import Derived.Test.YtffmomgmkpmpkaaGreatDoorKd5
namespace Go.Proofs.YtffmomgmkpmpkaaGreatDoor
open Go.RowKit
set_option linter.unusedVariables false
set_option linter.unusedSimpArgs false
attribute [local go_sem] vwp vUpon_value vUpon_skip vUpon_enter vUpon_row
/-- Every block that lay and is not among X lies as it lay. -/
structure KeptBut (X : Nat → Prop) (W W' : World) : Prop where
  os : W'.os = W.os
  tape : W'.tape = W.tape
  output : W'.output = W.output
  size : W.heap.size ≤ W'.heap.size
  same : ∀ k, k < W.heap.size → ¬ X k → W'.heap[k]? = W.heap[k]?
theorem KeptBut.refl (X : Nat → Prop) (W : World) : KeptBut X W W := ⟨rfl, rfl, rfl, Nat.le_refl _, fun _ _ _ => rfl⟩
theorem KeptBut.trans {X : Nat → Prop} {A B C : World} (h : KeptBut X A B) (k : KeptBut X B C) : KeptBut X A C :=
  ⟨k.os.trans h.os, k.tape.trans h.tape, k.output.trans h.output, Nat.le_trans h.size k.size, fun i hi hx => (k.same i (Nat.lt_of_lt_of_le hi h.size) hx).trans (h.same i hi hx)⟩
theorem KeptBut.wider {X Y : Nat → Prop} {A B : World} (h : KeptBut X A B) (hXY : ∀ k, X k → Y k) : KeptBut Y A B := ⟨h.os, h.tape, h.output, h.size, fun i hi hy => h.same i hi (fun hx => hy (hXY i hx))⟩
theorem KeptBut.below {X : Nat → Prop} {A B C : World} (h : KeptBut X A B) (hb : Below B.heap.size B C) : KeptBut X A C :=
  h.trans ⟨hb.os, hb.tape, hb.output, hb.size, fun k hk _ => hb.block k hk⟩
theorem KeptBut.alloc {X : Nat → Prop} {A B : World} (h : KeptBut X A B) (o : Obj) : KeptBut X A (B.alloc o) := h.below ((Below.refl _ B).alloc (Nat.le_refl _) o)
theorem KeptBut.drew {X : Nat → Prop} {A B : World} (h : KeptBut X A B) : KeptBut X A B.drew := ⟨h.os, h.tape, h.output, h.size, h.same⟩
theorem KeptBut.setCell {X : Nat → Prop} {A B : World} (h : KeptBut X A B) (p : Addr) (v : Value) (hp : X p.block) : KeptBut X A (B.setCell p v) :=
  h.trans ⟨rfl, rfl, rfl, (KeepsWalks.setCell B p v).size, fun k _ hx => Below.heap_setCell B p v k (fun e => hx (e ▸ hp))⟩
theorem KeptBut.putObj {X : Nat → Prop} {A B : World} (h : KeptBut X A B) (l : Nat) (o : Obj) (hl : X l) : KeptBut X A (B.putObj l o) :=
  h.trans ⟨rfl, rfl, rfl, by simp, fun k _ hx => World.putObj_heap_other (fun e => hx (e ▸ hl))⟩
theorem KeptBut.toBelow {X : Nat → Prop} {n : Nat} {A B C : World} (hb : Below n A B) (h : KeptBut X B C) (hn : n ≤ B.heap.size) (hx : ∀ k, k < n → ¬ X k) : Below n A C :=
  hb.trans ⟨h.os, h.tape, h.output, h.size, fun k hk => h.same k (by omega) (hx k hk)⟩
def keepsIn (lo hi : Nat) (W W' : World) : Prop := ∀ k, lo ≤ k → k < hi → W'.heap[k]? = W.heap[k]?
/-- What is asked of the iterator: its own variables lie in the blocks lo .. hi, of which it writes B alone. -/
def IterOwn (n : Nat) (P : Program) (g : Nat) (lb : Array Value) (B lo hi : Nat) (xs : List ByteArray) (w : World) : Prop :=
  ∀ (l : Nat) (J : List ByteArray → World → Prop) (W : World), keepsIn lo hi w W → hi ≤ W.heap.size →
    (∀ pre W1 W2, J pre W1 → KeptBut (· = B) W1 W2 → J pre W2) →
    (∀ pre x rest W1, pre ++ x :: rest = xs → J pre W1 → YieldAt Fence.wide (n - 1) P l #[.string x] W1 fun e W2 => e = .returned (.bool true) ∧ J (pre ++ [x]) W2 ∧ keepsIn lo hi W1 W2 ∧ W1.heap.size ≤ W2.heap.size) →
    J [] W → CallsIn Fence.wide n P g (#[.func (.yield l) #[] #[]] ++ lb) W fun e W' => (∃ v, e = .returned v) ∧ J xs W'
def roundEnd (lo hi D : Nat) (I : World → Prop) (W : World) : Exit → Act → World → Prop
  | .normal, _, W' => I W' ∧ W.heap.size ≤ W'.heap.size ∧ keepsIn lo hi W W' ∧ keepsIn D (D + 2) W W'
  | _, _, _ => False
theorem wpIn_range_own {P : Program} {n : Nat} {g : Operand} {ps : Array Tmp} {assign body : Code} {Q : Exit → Act → World → Prop} {a : Act} {w : World} {gf : Nat} {lb : Array Value}
  (hg : a.eval g = .func (.func gf) #[] lb) (eg : ∀ args w, (callFunc gf args).run P w = .ok (.enter gf args) w) {B lo hi : Nat} {xs : List ByteArray} (hseq : IterOwn (n - 1) P gf lb B lo hi xs w)
  (hB : lo ≤ B) (hB2 : B < hi) (hhi : hi ≤ w.heap.size) (hps : ps.size = 1)
  (I : List ByteArray → World → Prop) (hI : ∀ pre W W', I pre W → KeptBut (fun k => k = B ∨ k = w.heap.size ∨ k = w.heap.size + 1) W W' → I pre W') (h0 : I [] w) (a₁ : ByteArray → Act)
  (hassign : ∀ (l : Nat) (x : ByteArray) (W : World) (K : Act → World → Prop), K (a₁ x) W →
   assign.wpIn (Fence.wide.inRound l) (n - 1 - 1) P (Exit.then K (fun _ _ _ => False)) { tmps := (ps.zip #[Value.string x]).foldl (fun t (p, v) => t.setIfInBounds p v) a.tmps, defers := [] } W)
  (hbody : ∀ (l : Nat) (pre : List ByteArray) (x : ByteArray) (rest : List ByteArray) (W : World), pre ++ x :: rest = xs → I pre W → w.heap.size + 2 ≤ W.heap.size → body.wpIn (Fence.wide.inRound l) (n - 1 - 1) P (roundEnd lo hi w.heap.size (I (pre ++ [x])) W) (a₁ x) W)
  (hdone : ∀ (W : World), I xs W → W.heap[w.heap.size]? = some (.deferred (some [])) → Q .normal { a with defers := { target := .collected w.heap.size, args := #[] } :: a.defers } W) :
  (Code.rangeFunc g ps assign body).wpIn Fence.wide n P Q a w := by
 refine wpIn_rangeFunc ?_
 intro fn _
 obtain ⟨rc, hrc⟩ : ∃ rc : LoopState → Loop, rc = fun st => { state := st, pending := none, fn, tmps := a.tmps, params := ps, assign, body, defers := w.heap.size } := ⟨_, rfl⟩
 obtain ⟨W1, hW1⟩ : ∃ W1, (w.alloc (.deferred (some []))).alloc (.loop (rc .ready)) = W1 := ⟨_, rfl⟩
 have kW1 : KeptBut (fun k => k = B ∨ k = w.heap.size ∨ k = w.heap.size + 1) w W1 := by rw [← hW1]; exact ((KeptBut.refl _ _).alloc _).alloc _
 have sW1 : W1.heap.size = w.heap.size + 2 := by rw [← hW1]; simp
 have hL1 : W1.heap[w.heap.size + 1]? = some (.loop (rc .ready)) := by
  have := World.alloc_heap_new (w.alloc (.deferred (some []))) (.loop (rc .ready))
  rw [World.size_alloc, hW1] at this; exact this
 have hD1 : W1.heap[w.heap.size]? = some (.deferred (some [])) := by
  rw [← hW1]; exact (Below.heap_alloc _ _ _ (by simp)).trans (World.alloc_heap_new w _)
 have hround : Fence.wide.round = none := rfl
 refine ⟨w.heap.size + 1, [{ target := .collected w.heap.size, args := #[] }], W1, { target := .fn (.func gf) lb, args := #[.func (.yield (w.heap.size + 1)) #[] #[]] }, W1, gf,
  #[.func (.yield (w.heap.size + 1)) #[] #[]] ++ lb, W1, ?_, ?_, fun _ _ => trivial, ?_, fun h => ?_, ?_⟩
 ·rw [hround, ← hW1, hrc]; exact run_enterLoop_outer _ _ _ _ _
 ·simp only [resolve, hg]
  simp [go_sem]
 ·simp [invoke, go_sem, eg]
 ·simp [Fence.wide] at h
 ·refine (hseq (w.heap.size + 1) (fun pre W => I pre W ∧ w.heap.size + 2 ≤ W.heap.size ∧ W.heap[w.heap.size + 1]? = some (.loop (rc .ready)) ∧ W.heap[w.heap.size]? = some (.deferred (some []))) W1
   (fun k _ h2 => by rw [← hW1]; exact (Below.heap_alloc _ _ _ (by simp; omega)).trans (Below.heap_alloc _ _ _ (by omega))) (by omega) ?_ ?_ ⟨hI _ _ _ h0 kW1, by omega, hL1, hD1⟩).mono ?_
  ·rintro pre A C ⟨hi1, hs, hl, hd⟩ hk
   refine ⟨hI _ _ _ hi1 (hk.wider (fun k e => .inl e)), Nat.le_trans hs hk.size, (hk.same _ (by omega) (by omega)).trans hl, (hk.same _ (by omega) (by omega)).trans hd⟩
  ·rintro pre x rest W hpre ⟨hi1, hs, hl, hd⟩
   have hy := run_yield (P := P) (args := #[Value.string x]) hl (by rw [hrc]; exact hps.symm)
   rw [hrc] at hy
   refine ⟨fn, _, assign, body, hy, roundIn_of_wpIn trivial (hassign _ x W _ ⟨_, run_beginRound hl (by rw [hrc]), ?_⟩)⟩
   have hkb : KeptBut (fun k => k = B ∨ k = w.heap.size ∨ k = w.heap.size + 1) W (W.putObj (w.heap.size + 1) (.loop { rc .ready with state := .busy })) := (KeptBut.refl _ _).putObj _ _ (.inr (.inr rfl))
   have hl2 : (W.putObj (w.heap.size + 1) (.loop { rc .ready with state := .busy })).heap[w.heap.size + 1]? = some (.loop { rc .ready with state := .busy }) := World.putObj_heap_same (by omega)
   have hd2 : (W.putObj (w.heap.size + 1) (.loop { rc .ready with state := .busy })).heap[w.heap.size]? = some (.deferred (some [])) := (World.putObj_heap_other (by omega)).trans hd
   have hlo2 : keepsIn lo hi W (W.putObj (w.heap.size + 1) (.loop { rc .ready with state := .busy })) := fun k _ h2 => World.putObj_heap_other (by omega)
   refine wpIn_mono (hbody _ pre x rest _ hpre (hI _ _ _ hi1 hkb) (by simpa using hs)) ?_
   rintro e a3 W3 hp
   cases e with
   | normal =>
    obtain ⟨hi3, hz3, hlo3, hD3⟩ := hp
    have hz3 : W.heap.size ≤ W3.heap.size := by simpa using hz3
    have hl3 := (hD3 (w.heap.size + 1) (by omega) (by omega)).trans hl2
    have hd3 := (hD3 w.heap.size (by omega) (by omega)).trans hd2
    have hr := run_endRound (P := P) none hl3
    refine ⟨_, _, hr, rfl, ⟨hI _ _ _ hi3 ((KeptBut.refl _ _).putObj _ _ (.inr (.inr rfl))), by simp; omega, ?_, (World.putObj_heap_other (by omega)).trans hd3⟩, fun k h1 h2 => ?_, by simp; omega⟩
    ·rw [World.putObj_heap_same (by omega), hrc]; rfl
    ·exact (World.putObj_heap_other (by omega)).trans ((hlo3 k h1 h2).trans (hlo2 k h1 h2))
   | ret => exact hp.elim
   | exit id => exact hp.elim
   | goto t => exact hp.elim
   | panic ch => exact hp.elim
   | outgrown => exact hp.elim
  ·rintro e W2 ⟨⟨v, rfl⟩, hi2, hs2, hl2, hd2⟩
   refine ⟨none, _, by have := run_endLoop (P := P) hl2 (by rw [hrc]; simp); rw [hrc] at this; exact this, ?_⟩
   exact hdone _ (hI _ _ _ hi2 ((KeptBut.refl _ _).putObj _ _ (.inr (.inr rfl)))) ((World.putObj_heap_other (by omega)).trans hd2)
end Go.Proofs.YtffmomgmkpmpkaaGreatDoor

namespace Go.Proofs.YtffmomgmkpmpkaaGreatDoor
open Go.RowKit
set_option linter.unusedVariables false
attribute [local go_sem] vwp vUpon_value vUpon_skip vUpon_enter vUpon_row
set_option linter.unusedSimpArgs false
set_option linter.unusedVariables false
structure Gl where
  rune : Int
  wide : Bool
  tail : Bool
instance : Inhabited Gl := ⟨⟨0, false, false⟩⟩
def Gl.enc (g : Gl) : List Value := [.int .i32 g.rune, .bool g.wide, .bool g.tail]
theorem Gl.enc_len (g : Gl) : g.enc.length = 3 := rfl
def Grid (B : Nat) (w : World) (v : Value) (g : List (List Gl)) : Prop :=
  ∃ vs : List Value, vs.length = g.length ∧ Row B 1 (fun u => [u]) w v vs ∧ ∀ (j : Nat) u r, vs[j]? = some u → g[j]? = some r → Row B 3 Gl.enc w u r
theorem Grid.below {B : Nat} {w w' : World} {v : Value} {g : List (List Gl)} (h : Grid B w v g) (hb : Below B w w') : Grid B w' v g := by
  obtain ⟨vs, hl, hr, hx⟩ := h
  exact ⟨vs, hl, hr.below hb, fun j u r hu hg => (hx j u r hu hg).below hb⟩
theorem Grid.mono {B B' : Nat} {w : World} {v : Value} {g : List (List Gl)} (h : Grid B w v g) (hb : B ≤ B') : Grid B' w v g := by
  obtain ⟨vs, hl, hr, hx⟩ := h
  exact ⟨vs, hl, hr.mono hb, fun j u r hu hg => (hx j u r hu hg).mono hb⟩
theorem Grid.shape {B : Nat} {w : World} {v : Value} {g : List (List Gl)} (h : Grid B w v g) : ∃ s cap, v = .slice s g.length cap ∧ g.length ≤ maxLen := by
  obtain ⟨vs, hl, hr, _⟩ := h
  obtain ⟨s, cap, e, hm⟩ := hr.shape
  rw [hl] at e hm
  exact ⟨s, cap, e, hm⟩
theorem Grid.at_ {B : Nat} {w : World} {v : Value} {g : List (List Gl)} {Y : Nat} {r : List Gl} (h : Grid B w v g) (hr : g[Y]? = some r) :
    ∃ b o cap s c, v = .slice (some ⟨b, o, none⟩) g.length cap ∧ b < B ∧ r.length ≤ maxLen ∧ w.cell? ⟨b, o + Y, none⟩ = some (.slice s r.length c) ∧ Row B 3 Gl.enc w (.slice s r.length c) r := by
  obtain ⟨vs, hl, hrow, hx⟩ := h
  have hY : Y < g.length := (List.getElem?_eq_some_iff.1 hr).1
  obtain ⟨b, o, cap, e, hb, _, _, hc⟩ := hrow.open_ (by omega)
  obtain ⟨u, hu⟩ : ∃ u, vs[Y]? = some u := ⟨vs[Y]'(by omega), List.getElem?_eq_getElem _⟩
  have hur := hx Y u r hu hr
  obtain ⟨s, c, rfl, hm⟩ := hur.shape
  have := hc Y _ hu 0 _ rfl
  rw [hl] at e
  exact ⟨b, o, cap, s, c, e, hb, hm, by simpa using this, hur⟩
theorem Gl.at_ {B : Nat} {w : World} {v : Value} {r : List Gl} {X : Nat} {k : Gl} (h : Row B 3 Gl.enc w v r) (hk : r[X]? = some k) :
    ∃ b o cap, v = .slice (some ⟨b, o, none⟩) r.length cap ∧ b < B ∧ w.cell? ⟨b, o + X * 3, none⟩ = some (.int .i32 k.rune) ∧ w.cell? ⟨b, o + X * 3 + 1, none⟩ = some (.bool k.wide) ∧ w.cell? ⟨b, o + X * 3 + 2, none⟩ = some (.bool k.tail) := by
  have hX : X < r.length := (List.getElem?_eq_some_iff.1 hk).1
  obtain ⟨b, o, cap, e, hb, _, _, hc⟩ := h.open_ (by omega)
  exact ⟨b, o, cap, e, hb, hc X k hk 0 _ rfl, hc X k hk 1 _ rfl, hc X k hk 2 _ rfl⟩
def GridO (w : World) (lo : Nat) (v : Value) (g : List (List Gl)) : Prop := ∀ w'' : World, (∀ k, lo ≤ k → k < w.heap.size → w''.heap[k]? = w.heap[k]?) → Grid w.heap.size w'' v g
theorem GridO.grid {w : World} {lo : Nat} {v : Value} {g : List (List Gl)} (h : GridO w lo v g) : Grid w.heap.size w v g := h w (fun _ _ _ => rfl)
theorem GridO.keep {w w' : World} {lo : Nat} {v : Value} {g : List (List Gl)} {ob : Option Nat} (h : GridO w lo v g) (hg : w.grownBy w' ob) (hn : ∀ b, ob = some b → b < lo) : GridO w' lo v g :=
  fun w'' hw => (h w'' (fun k h1 h2 => (hw k h1 (by have := hg.size; omega)).trans (hg.block k h2 (fun e => by have := hn k e.symm; omega)))).mono hg.size
theorem GridO.below {w w' : World} {lo : Nat} {v : Value} {g : List (List Gl)} (h : GridO w lo v g) (hb : Below w.heap.size w w') : GridO w' lo v g :=
  fun w'' hw => (h w'' (fun k h1 h2 => (hw k h1 (by have := hb.size; omega)).trans (hb.block k h2))).mono hb.size
theorem GridO.lo {w : World} {lo lo' : Nat} {v : Value} {g : List (List Gl)} (h : GridO w lo v g) (hl : lo' ≤ lo) : GridO w lo' v g := fun w'' hw => h w'' (fun k h1 h2 => hw k (by omega) h2)
theorem GridO.nil (w : World) (lo : Nat) : GridO w lo (.slice none 0 0) [] := fun w'' _ => ⟨[], rfl, ⟨none, 0, rfl, Nat.le_refl _, Nat.zero_le _, fun h => by simp at h⟩, fun j u r hu _ => by simp at hu⟩
theorem Row.own_lt {α : Type} {B base sz : Nat} {e : TypeId} {enc : α → List Value} {w : World} {v : Value} {xs : List α} (he : ∀ x, (enc x).length = sz) (h : w.ownsRow base e sz v xs.length (xs.flatMap enc)) (hB : ∀ g, v.ownBlock = some g → g < B) (hsz : 0 < sz) : Row B sz enc w v xs := by
  obtain ⟨s, cap, hv, hl, hc, hx⟩ := Row.own he h (Nat.le_refl _) hsz
  refine ⟨s, cap, hv, hl, hc, fun h0 => ?_⟩
  obtain ⟨b, o, hs, _, hcell⟩ := hx h0
  exact ⟨b, o, hs, hB b (by rw [hv, hs]; simp [Value.ownBlock]), hcell⟩
end Go.Proofs.YtffmomgmkpmpkaaGreatDoor

namespace Go.Proofs.YtffmomgmkpmpkaaGreatDoor
open Go.RowKit
set_option linter.unusedVariables false
attribute [local go_sem] vwp vUpon_value vUpon_skip vUpon_enter vUpon_row
set_option linter.unusedSimpArgs false
set_option linter.unusedVariables false
/-! ### decoding -/
theorem dec_bd (s : ByteArray) (p : Nat) : 1 ≤ (Utf8.decode s p).2 ∧ (Utf8.decode s p).2 ≤ 4 ∧ (p < s.size → p + (Utf8.decode s p).2 ≤ s.size) ∧ validR ((Utf8.decode s p).1 : Int) = true := by
  rw [Lib.decode_at]
  have h1 := (s.get! p).toNat_lt
  have h2 := (s.get! (p + 1)).toNat_lt
  have h3 := (s.get! (p + 2)).toNat_lt
  have h4 := (s.get! (p + 3)).toNat_lt
  generalize (s.get! p).toNat = b0 at *
  generalize (s.get! (p + 1)).toNat = b1 at *
  generalize (s.get! (p + 2)).toNat = b2 at *
  generalize (s.get! (p + 3)).toNat = b3 at *
  unfold Lib.decodeN validR
  simp only [Bool.or_eq_true, Bool.and_eq_true, decide_eq_true_eq]
  repeat' split
  all_goals (refine ⟨?_, ?_, ?_, ?_⟩ <;> (try simp only) <;> omega)
theorem dec_pos (s : ByteArray) (p : Nat) : 1 ≤ (Utf8.decode s p).2 := (dec_bd s p).1
theorem dec_fit {s : ByteArray} {p : Nat} (h : p < s.size) : p + (Utf8.decode s p).2 ≤ s.size := (dec_bd s p).2.2.1 h
theorem dec_valid (s : ByteArray) (p : Nat) : validR ((Utf8.decode s p).1 : Int) = true := (dec_bd s p).2.2.2
/-! ### runes -/
def runesF : Nat → ByteArray → Nat → List Int
  | 0, _, _ => []
  | n + 1, s, p => if p < s.size then ((Utf8.decode s p).1 : Int) :: runesF n s (p + (Utf8.decode s p).2) else []
theorem runesF_more (s : ByteArray) : ∀ (n m p : Nat), s.size - p ≤ n → s.size - p ≤ m → runesF n s p = runesF m s p
  | 0, 0, _, _, _ => rfl
  | 0, m + 1, p, h1, _ => by rw [runesF, runesF, if_neg (by omega)]
  | n + 1, 0, p, _, h2 => by rw [runesF, runesF, if_neg (by omega)]
  | n + 1, m + 1, p, h1, h2 => by
    rw [runesF, runesF]
    by_cases hp : p < s.size
    · have := dec_pos s p
      rw [if_pos hp, if_pos hp, runesF_more s n m _ (by omega) (by omega)]
    · rw [if_neg hp, if_neg hp]
def runesAt (s : ByteArray) (p : Nat) : List Int := runesF (s.size - p) s p
theorem runesAt_end {s : ByteArray} {p : Nat} (h : ¬ p < s.size) : runesAt s p = [] := by
  unfold runesAt
  rw [show s.size - p = 0 by omega]; rfl
theorem runesAt_step {s : ByteArray} {p : Nat} (h : p < s.size) : runesAt s p = ((Utf8.decode s p).1 : Int) :: runesAt s (p + (Utf8.decode s p).2) := by
  unfold runesAt
  obtain ⟨n, hn⟩ : ∃ n, s.size - p = n + 1 := ⟨s.size - p - 1, by omega⟩
  have := dec_pos s p
  rw [hn, runesF, if_pos h, runesF_more s n (s.size - (p + (Utf8.decode s p).2)) _ (by omega) (Nat.le_refl _)]
/-! ### what they have in cells -/
def glyR (r n : Int) : List Gl := if n = 1 then [⟨r, false, false⟩] else if n = 2 then [⟨r, true, false⟩, ⟨r, false, true⟩] else []
def rowG (rs : List Int) : List Gl := rs.flatMap fun r => glyR r (widR r)
theorem glyR_len (r n : Int) : (glyR r n).length ≤ 2 := by
  unfold glyR; split <;> (try split) <;> simp
theorem rowG_cons (r : Int) (rs : List Int) : rowG (r :: rs) = glyR r (widR r) ++ rowG rs := rfl
theorem mark_valid {r : Int} (h : inL r marksL = true) : validR r = true := by
  simp only [inL, marksL, List.any_cons, List.any_nil, Bool.or_false, Bool.or_eq_true, Bool.and_eq_true, decide_eq_true_eq] at h
  unfold validR
  simp only [Bool.or_eq_true, Bool.and_eq_true, decide_eq_true_eq]
  omega
theorem mark_wid {r : Int} (h : inL r marksL = true) : widR r = 0 := by
  unfold widR
  rw [mark_valid h, h]
  simp
/-! ### lines -/
def splB (s : ByteArray) : Nat → Nat → Nat → List ByteArray
  | 0, f, i => [s.extract f i]
  | n + 1, f, i => if s.get! i = 10 then s.extract f i :: splB s n (i + 1) (i + 1) else splB s n f (i + 1)
def linesB (s : ByteArray) : List ByteArray := splB s s.size 0 0
theorem splB_skip (s : ByteArray) (f : Nat) : ∀ (d i : Nat), i + d ≤ s.size → (∀ k, i ≤ k → k < i + d → s.get! k ≠ 10) → splB s (s.size - i) f i = splB s (s.size - (i + d)) f (i + d)
  | 0, i, _, _ => rfl
  | d + 1, i, h, hk => by
    have e : s.size - i = (s.size - (i + 1)) + 1 := by omega
    rw [e, splB, if_neg (hk i (Nat.le_refl _) (by omega)), splB_skip s f d (i + 1) (by omega) (fun k h1 h2 => hk k (by omega) (by omega))]
    rw [show i + 1 + d = i + (d + 1) by omega]
theorem splB_hit {s : ByteArray} {f j : Nat} (h : j < s.size) (hb : s.get! j = 10) : splB s (s.size - j) f j = s.extract f j :: splB s (s.size - (j + 1)) (j + 1) (j + 1) := by
  have e : s.size - j = (s.size - (j + 1)) + 1 := by omega
  rw [e, splB, if_pos hb]
theorem splB_miss {s : ByteArray} {f j : Nat} (h : j < s.size) (hb : s.get! j ≠ 10) : splB s (s.size - j) f j = splB s (s.size - (j + 1)) f (j + 1) := by
  have e : s.size - j = (s.size - (j + 1)) + 1 := by omega
  rw [e, splB, if_neg hb]
theorem splB_end {s : ByteArray} {f j : Nat} (h : s.size ≤ j) : splB s (s.size - j) f j = [s.extract f j] := by
  rw [show s.size - j = 0 by omega]; rfl
theorem splB_len (s : ByteArray) : ∀ (n f i : Nat), (splB s n f i).length ≤ n + 1
  | 0, f, i => by simp [splB]
  | n + 1, f, i => by
    rw [splB]
    split
    · rw [List.length_cons]; have := splB_len s n (i + 1) (i + 1); omega
    · have := splB_len s n f (i + 1); omega
theorem splB_size (s : ByteArray) : ∀ (n f i : Nat), ∀ x ∈ splB s n f i, x.size ≤ s.size
  | 0, f, i, x, hx => by
    simp only [splB, List.mem_singleton] at hx
    subst hx
    simp
    omega
  | n + 1, f, i, x, hx => by
    rw [splB] at hx
    split at hx
    · rcases List.mem_cons.1 hx with rfl | hx
      · simp
        omega
      · exact splB_size s n _ _ x hx
    · exact splB_size s n _ _ x hx
def lineG (l : ByteArray) : List Gl := rowG (runesAt l 0)
def glyS (s : ByteArray) : List (List Gl) := (linesB s).map lineG
/-! ### the iterator's lines -/
theorem get!_extract (s : ByteArray) (a b k : Nat) (h : a + k < b) (hb : b ≤ s.size) : (s.extract a b).get! k = s.get! (a + k) := by
  have h1 : k < (s.extract a b).size := by simp; omega
  have e1 : (s.extract a b).get! k = (s.extract a b)[k]'h1 := by
    generalize s.extract a b = t at h1 ⊢
    cases t; exact getElem!_pos _ k h1
  have e2 : s.get! (a + k) = s[a + k]'(by omega) := by
    cases s; exact getElem!_pos _ _ _
  rw [e1, e2, ByteArray.getElem_extract]
/-- What the iterator gives of what is left. -/
theorem lines_none {s : ByteArray} {p : Nat} (hp : p ≤ s.size) (h : ∀ k, p ≤ k → k < s.size → s.get! k ≠ 10) : splB s (s.size - p) p p = [s.extract p s.size] := by
  have := splB_skip s p (s.size - p) p (by omega) (fun k h1 h2 => h k h1 (by omega))
  rw [this, show p + (s.size - p) = s.size by omega]
  exact splB_end (Nat.le_refl _)
theorem lines_some {s : ByteArray} {p j : Nat} (hj : p + j < s.size) (hb : s.get! (p + j) = 10) (h : ∀ k, p ≤ k → k < p + j → s.get! k ≠ 10) : splB s (s.size - p) p p = s.extract p (p + j) :: splB s (s.size - (p + j + 1)) (p + j + 1) (p + j + 1) := by
  rw [splB_skip s p j p (by omega) h]
  exact splB_hit hj hb
/-! ### pieces -/
structure Pc where
  fr : Nat
  en : Nat
  first : Int
  cells : Int
def mkEnd : Nat → ByteArray → Nat → Nat
  | 0, _, p => p
  | n + 1, s, p => if p < s.size ∧ inL ((Utf8.decode s p).1 : Int) marksL = true then mkEnd n s (p + (Utf8.decode s p).2) else p
theorem mkEnd_bd (s : ByteArray) : ∀ (n p : Nat), p ≤ mkEnd n s p ∧ (p ≤ s.size → mkEnd n s p ≤ s.size)
  | 0, p => ⟨Nat.le_refl _, id⟩
  | n + 1, p => by
    rw [mkEnd]
    split
    · rename_i h
      have := mkEnd_bd s n (p + (Utf8.decode s p).2)
      have h2 := dec_fit h.1
      exact ⟨by omega, fun _ => this.2 h2⟩
    · exact ⟨Nat.le_refl _, id⟩
theorem mkEnd_more (s : ByteArray) : ∀ (n m p : Nat), s.size - p ≤ n → s.size - p ≤ m → mkEnd n s p = mkEnd m s p
  | 0, 0, _, _, _ => rfl
  | 0, m + 1, p, h1, _ => by rw [mkEnd, mkEnd, if_neg (by omega)]
  | n + 1, 0, p, _, h2 => by rw [mkEnd, mkEnd, if_neg (by omega)]
  | n + 1, m + 1, p, h1, h2 => by
    rw [mkEnd, mkEnd]
    by_cases hp : p < s.size ∧ inL ((Utf8.decode s p).1 : Int) marksL = true
    · have := dec_pos s p
      rw [if_pos hp, if_pos hp, mkEnd_more s n m _ (by omega) (by omega)]
    · rw [if_neg hp, if_neg hp]
def markEnd (s : ByteArray) (p : Nat) : Nat := mkEnd (s.size - p) s p
theorem markEnd_step {s : ByteArray} {p : Nat} (h : p < s.size) (hm : inL ((Utf8.decode s p).1 : Int) marksL = true) : markEnd s p = markEnd s (p + (Utf8.decode s p).2) := by
  unfold markEnd
  obtain ⟨n, hn⟩ : ∃ n, s.size - p = n + 1 := ⟨s.size - p - 1, by omega⟩
  have := dec_pos s p
  rw [hn, mkEnd, if_pos ⟨h, hm⟩]
  exact mkEnd_more s _ _ _ (by omega) (Nat.le_refl _)
theorem markEnd_stop {s : ByteArray} {p : Nat} (h : ¬ (p < s.size ∧ inL ((Utf8.decode s p).1 : Int) marksL = true)) : markEnd s p = p := by
  unfold markEnd
  cases hn : s.size - p with
  | zero => rfl
  | succ n => rw [mkEnd, if_neg h]
theorem mkEnd_row (s : ByteArray) : ∀ (n p : Nat), rowG (runesAt s p) = rowG (runesAt s (mkEnd n s p))
  | 0, p => rfl
  | n + 1, p => by
    rw [mkEnd]
    split
    · rename_i h
      rw [← mkEnd_row s n, runesAt_step h.1, rowG_cons, mark_wid h.2]
      rfl
    · rfl
def pcTo (s : ByteArray) (p : Nat) : Nat := if ctlR ((Utf8.decode s p).1 : Int) = true then p + (Utf8.decode s p).2 else markEnd s (p + (Utf8.decode s p).2)
theorem pcTo_bd {s : ByteArray} {p : Nat} (h : p < s.size) : p < pcTo s p ∧ pcTo s p ≤ s.size := by
  have h1 := dec_pos s p
  have h2 := dec_fit h
  unfold pcTo
  split
  · omega
  · have := mkEnd_bd s (s.size - (p + (Utf8.decode s p).2)) (p + (Utf8.decode s p).2)
    unfold markEnd
    omega
def pcAt (s : ByteArray) (p : Nat) : Pc := ⟨p, pcTo s p, ((Utf8.decode s p).1 : Int), widR ((Utf8.decode s p).1 : Int)⟩
def pcF : Nat → ByteArray → Nat → List Pc
  | 0, _, _ => []
  | n + 1, s, p => if p < s.size then pcAt s p :: pcF n s (pcTo s p) else []
theorem pcF_more (s : ByteArray) : ∀ (n m p : Nat), s.size - p ≤ n → s.size - p ≤ m → pcF n s p = pcF m s p
  | 0, 0, _, _, _ => rfl
  | 0, m + 1, p, h1, _ => by rw [pcF, pcF, if_neg (by omega)]
  | n + 1, 0, p, _, h2 => by rw [pcF, pcF, if_neg (by omega)]
  | n + 1, m + 1, p, h1, h2 => by
    rw [pcF, pcF]
    by_cases hp : p < s.size
    · have := pcTo_bd hp
      rw [if_pos hp, if_pos hp, pcF_more s n m _ (by omega) (by omega)]
    · rw [if_neg hp, if_neg hp]
def pcsAt (s : ByteArray) (p : Nat) : List Pc := pcF (s.size - p) s p
theorem pcsAt_end {s : ByteArray} {p : Nat} (h : ¬ p < s.size) : pcsAt s p = [] := by
  unfold pcsAt
  rw [show s.size - p = 0 by omega]; rfl
theorem pcsAt_step {s : ByteArray} {p : Nat} (h : p < s.size) : pcsAt s p = pcAt s p :: pcsAt s (pcTo s p) := by
  unfold pcsAt
  obtain ⟨n, hn⟩ : ∃ n, s.size - p = n + 1 := ⟨s.size - p - 1, by omega⟩
  have := pcTo_bd h
  rw [hn, pcF, if_pos h, pcF_more s n (s.size - pcTo s p) _ (by omega) (Nat.le_refl _)]
theorem pcF_len (s : ByteArray) : ∀ (n p : Nat), (pcF n s p).length ≤ n
  | 0, p => by simp [pcF]
  | n + 1, p => by
    rw [pcF]
    split
    · rw [List.length_cons]; have := pcF_len s n (pcTo s p); omega
    · simp
theorem pcsAt_len (s : ByteArray) (p : Nat) : (pcsAt s p).length ≤ s.size - p := pcF_len _ _ _
def rowP (ps : List Pc) : List Gl := ps.flatMap fun c => glyR c.first c.cells
theorem rowP_cons (c : Pc) (ps : List Pc) : rowP (c :: ps) = glyR c.first c.cells ++ rowP ps := rfl
theorem pcTo_row {s : ByteArray} {p : Nat} (h : p < s.size) : rowG (runesAt s (p + (Utf8.decode s p).2)) = rowG (runesAt s (pcTo s p)) := by
  unfold pcTo
  by_cases c : ctlR ((Utf8.decode s p).1 : Int) = true
  · rw [if_pos c]
  · rw [if_neg c]
    exact mkEnd_row s _ _
theorem rowP_pcF (s : ByteArray) : ∀ (n p : Nat), s.size - p ≤ n → rowP (pcsAt s p) = rowG (runesAt s p)
  | 0, p, hn => by rw [pcsAt_end (by omega), runesAt_end (by omega)]; rfl
  | n + 1, p, hn => by
    by_cases h : p < s.size
    · have hb := pcTo_bd h
      have e1 := congrArg rowP (pcsAt_step h)
      have e2 := congrArg rowG (runesAt_step h)
      have ih := rowP_pcF s n (pcTo s p) (by omega)
      have e3 := pcTo_row h
      rw [rowP_cons, ih, ← e3] at e1
      rw [rowG_cons] at e2
      have e4 : (pcAt s p).first = ((Utf8.decode s p).1 : Int) := by simp only [pcAt]
      have e5 : (pcAt s p).cells = widR ((Utf8.decode s p).1 : Int) := by simp only [pcAt]
      rw [e4, e5] at e1
      generalize Utf8.decode s p = D at e1 e2
      exact e1.trans e2.symm
    · rw [pcsAt_end h, runesAt_end h]; rfl
theorem rowP_pcs (s : ByteArray) (p : Nat) : rowP (pcsAt s p) = rowG (runesAt s p) := rowP_pcF s _ p (Nat.le_refl _)
theorem pcs_row (s : ByteArray) : rowP (pcsAt s 0) = lineG s := rowP_pcs s 0
end Go.Proofs.YtffmomgmkpmpkaaGreatDoor
