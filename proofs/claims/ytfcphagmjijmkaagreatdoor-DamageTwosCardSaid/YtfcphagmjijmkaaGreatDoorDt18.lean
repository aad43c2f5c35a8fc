/-
  XGe: XRegCa XRegCb XRegCc XRegCd.
-/
import Derived.Laws.CopyOwn
import Derived.Test.YtfcphagmjijmkaaGreatDoorDt8
namespace Go.Proofs.YtfcphagmjijmkaaGreatDoor
open Go.RowKit
set_option linter.unusedVariables false
set_option linter.unusedSimpArgs false
attribute [local go_sem] vwp vUpon_value vUpon_skip vUpon_enter vUpon_row
set_option maxHeartbeats 16000000
section
theorem kmay_any (q : Re) (w : World) (hq : q.Wf) : Calls Tryz.prog 126 #[.agg #[.int .i64 (q).x, .int .i64 (q).y, .int .i64 (q).wd, .int .i64 (q).ht]] w fun e w' => e = .returned (.bool (mayR q)) ∧ Below w.heap.size w w' := by
 obtain ⟨x, y, a, b⟩ := q; obtain ⟨⟨x1, x2⟩, ⟨y1, y2⟩, ⟨a1, a2⟩, ⟨b1, b2⟩⟩ := hq; simp only at x1 x2 y1 y2 a1 a2 b1 b2 ⊢
 by_cases c1 : a < 0
 ·have hm : mayR ⟨x, y, a, b⟩ = false := by simp [mayR, spanB, inB, sdB]; omega
  rw [show mayR ⟨x, y, a, b⟩ = false from hm]; clear hm
  go_enter Tryz.func126, Tryz.ntmps126
  go_wp2; go_ret; exact ⟨rfl, belt⟩
 by_cases c2 : b < 0
 ·have hm : mayR ⟨x, y, a, b⟩ = false := by simp [mayR, spanB, inB, sdB]; omega
  rw [show mayR ⟨x, y, a, b⟩ = false from hm]; clear hm
  go_enter Tryz.func126, Tryz.ntmps126
  go_wp2; go_ret; exact ⟨rfl, belt⟩
 by_cases c3 : x < -16384
 ·have hm : mayR ⟨x, y, a, b⟩ = false := by simp [mayR, spanB, inB, sdB]; omega
  rw [show mayR ⟨x, y, a, b⟩ = false from hm]; clear hm
  go_enter Tryz.func126, Tryz.ntmps126
  go_wp2; go_ret; exact ⟨rfl, belt⟩
 by_cases c4 : y < -16384
 ·have hm : mayR ⟨x, y, a, b⟩ = false := by simp [mayR, spanB, inB, sdB]; omega
  rw [show mayR ⟨x, y, a, b⟩ = false from hm]; clear hm
  go_enter Tryz.func126, Tryz.ntmps126
  go_wp2; go_ret; exact ⟨rfl, belt⟩
 by_cases c5 : 16384 < x
 ·have hm : mayR ⟨x, y, a, b⟩ = false := by simp [mayR, spanB, inB, sdB]; omega
  rw [show mayR ⟨x, y, a, b⟩ = false from hm]; clear hm
  go_enter Tryz.func126, Tryz.ntmps126
  go_wp2; go_ret; exact ⟨rfl, belt⟩
 by_cases c6 : 16384 < y
 ·have hm : mayR ⟨x, y, a, b⟩ = false := by simp [mayR, spanB, inB, sdB]; omega
  rw [show mayR ⟨x, y, a, b⟩ = false from hm]; clear hm
  go_enter Tryz.func126, Tryz.ntmps126
  go_wp2; go_ret; exact ⟨rfl, belt⟩
 have d3 : -16384 ≤ x := by omega
 have d4 : -16384 ≤ y := by omega
 have d5 : x ≤ 16384 := by omega
 have d6 : y ≤ 16384 := by omega
 by_cases c7 : a ≤ 16384 - x
 ·by_cases c8 : b ≤ 16384 - y
  ·have hm : mayR ⟨x, y, a, b⟩ = true := by simp [mayR, spanB, inB, sdB]; omega
   rw [show mayR ⟨x, y, a, b⟩ = true from hm]; clear hm
   go_enter Tryz.func126, Tryz.ntmps126
   go_wp2; go_ret; exact ⟨rfl, belt⟩
  ·have hm : mayR ⟨x, y, a, b⟩ = false := by simp [mayR, spanB, inB, sdB]; omega
   rw [show mayR ⟨x, y, a, b⟩ = false from hm]; clear hm
   go_enter Tryz.func126, Tryz.ntmps126
   go_wp2; go_ret; exact ⟨rfl, belt⟩
 ·have hm : mayR ⟨x, y, a, b⟩ = false := by simp [mayR, spanB, inB, sdB]; omega
  rw [show mayR ⟨x, y, a, b⟩ = false from hm]; clear hm
  go_enter Tryz.func126, Tryz.ntmps126
  go_wp2; go_ret; exact ⟨rfl, belt⟩
theorem kempty_any (q : Re) (w : World) : Calls Tryz.prog 198 #[.agg #[.int .i64 (q).x, .int .i64 (q).y, .int .i64 (q).wd, .int .i64 (q).ht]] w fun e w' => e = .returned (.bool (noneR q)) ∧ Below w.heap.size w w' := by
 obtain ⟨x, y, a, b⟩ := q; simp only
 by_cases c1 : a = 0
 ·have hm : noneR ⟨x, y, a, b⟩ = true := by simp [noneR, c1]
  have d1 : (a == 0) = true := by simp [c1]
  clear c1; rw [show noneR ⟨x, y, a, b⟩ = true from hm]; clear hm
  go_enter Tryz.func198, Tryz.ntmps198
  go_wp2; go_ret; exact ⟨rfl, belt⟩
 have d1 : (a == 0) = false := by simp [c1]
 by_cases c2 : b = 0
 ·have hm : noneR ⟨x, y, a, b⟩ = true := by simp [noneR, c2]
  have d2 : (b == 0) = true := by simp [c2]
  clear c2; rw [show noneR ⟨x, y, a, b⟩ = true from hm]; clear hm
  go_enter Tryz.func198, Tryz.ntmps198
  go_wp2; go_ret; exact ⟨rfl, belt⟩
 have d2 : (b == 0) = false := by simp [c2]
 have hm : noneR ⟨x, y, a, b⟩ = false := by simp [noneR, c1, c2]
 rw [show noneR ⟨x, y, a, b⟩ = false from hm]; clear hm
 go_enter Tryz.func198, Tryz.ntmps198
 go_wp2; go_ret; exact ⟨rfl, belt⟩
theorem all_may_step {l : List Re} {k : Nat} {q : Re} (h : l[k]? = some q) : (l.drop k).all mayR = (mayR q && (l.drop (k + 1)).all mayR) := by
 rw [drop_get h]; rfl
set_option maxRecDepth 100000 in
theorem kasked_any (l : List Re) (v : Value) (w : World) (hl : Row w.heap.size 4 Re.enc w v l) (wl : (∀ q ∈ l, q.Wf)) : Calls Tryz.prog 77 #[v] w fun e w' => e = .returned (.int .i64 (chkR l)) ∧ Below w.heap.size w w' := by
 obtain ⟨s0, cap, rfl, hmax⟩ := hl.shape
 have hopen := fun h0 => row_re hl h0
 obtain ⟨n, en⟩ := exx (l.length); rw [en] at hopen hmax ⊢; unfold maxLen at hmax; clear hl
 by_cases c1 : 1024 < n
 ·rw [show chkR l = 4 by unfold chkR; rw [if_pos (by omega)]]
  have c1' : (1024 : Int) < n := by omega
  replace hopen := hdh hopen; replace en := hdh en
  go_enter Tryz.func77, Tryz.ntmps77
  go_wp2; go_ret; exact ⟨rfl, belt⟩
 have c1' : ¬ (1024 : Int) < n := by omega
 obtain ⟨R, hR⟩ := exx (l.all mayR)
 have e : chkR l = if R then 0 else 5 := by unfold chkR; rw [if_neg (by omega), hR]
 rw [e]; clear e; have hgo : (l.drop 0).all mayR = R := hR; clear hR; replace hgo := hdh hgo; replace hopen := hdh hopen; replace en := hdh en; replace wl := hdh wl
 go_enter Tryz.func77, Tryz.ntmps77
 go_wp2
 go_loopw [3] (fun iv wr => ∃ k : Nat, k ≤ n ∧ iv = .int .i64 k ∧ Hid ((l.drop k).all mayR = R) ∧ Below w.heap.size w wr) (fun iv _ => n - (intOf iv).toNat)
 case atStart => exact ⟨0, Nat.zero_le _, rfl, hgo, Below.refl _ _⟩
 case round =>
  clear hgo; obtain ⟨k, hk, rfl, hgo, hbr⟩ := hrel; have zr := hbr.size; obtain ⟨hcr, hfr⟩ := bcell hbr
  by_cases hkn : k < n
  ·obtain ⟨b, o, cap', e, yb, _, _, hel⟩ := hopen.out (by omega)
   simp at e
   obtain ⟨rfl, rfl⟩ := e; obtain ⟨q, hq⟩ := get_at en.out hkn; obtain ⟨g0, g1, g2, g3⟩ := hel k q hq
   have A := fun w => kmay_any q w (wl.out q (List.mem_of_getElem? hq))
   have hgo := hgo.out; rw [all_may_step hq] at hgo
   have hkk : (k : Int) < n := by omega
   clear hel hq
   cases hm : mayR q
   ·rw [hm] at A hgo
    have hgo : false = R := hgo; subst hgo; replace A := hdh A
    go_wp2_with (first | (go_at_call 126; (with_reducible refine cmm (A.out _) fun w1 hb1 => ?_); obtain ⟨hc1, hf1, hz1⟩ := bzz hb1; (try simp at hz1); (try have lt1 : w.heap.size < w1.heap.size := (by omega))) | go_in)
    go_ret; exact ⟨rfl, hbr.trans (hb1.mono zr)⟩
   ·rw [hm] at A hgo
    have hgo := hdh (show (l.drop (k + 1)).all mayR = R from hgo); replace A := hdh A; clear hm
    go_wp2_with (first | (go_at_call 126; (with_reducible refine cmm (A.out _) fun w1 hb1 => ?_); obtain ⟨hc1, hf1, hz1⟩ := bzz hb1; (try simp at hz1); (try have lt1 : w.heap.size < w1.heap.size := (by omega))) | go_in)
    go_roundw
    case rel => exact ⟨k + 1, by omega, by go_num, hgo, hbr.trans (hb1.mono zr)⟩
    case measure => simp [intOf]; omega
  ·obtain rfl : k = n := by omega
   have hgo := hgo.out; rw [List.drop_eq_nil_of_le (by have := en.out; omega)] at hgo; have hgo : true = R := hgo; subst hgo; go_wp2; go_ret; exact ⟨rfl, hbr⟩
theorem hasL_at {l : List Re} {k : Nat} {q : Re} (h : l[k]? = some q) (x y : Int) : hasL (l.drop k) x y = (hasR q x y || hasL (l.drop (k + 1)) x y) := by
 rw [drop_get h]; rfl
set_option maxRecDepth 100000 in
theorem khas_any (l : List Re) (v : Value) (px py : Int) (w : World) (hl : Row w.heap.size 4 Re.enc w v l) (ml : MayL l) : Calls Tryz.prog 129 #[v, .int .i64 px, .int .i64 py] w fun e w' => e = .returned (.bool (hasL l px py)) ∧ Below w.heap.size w w' := by
 obtain ⟨s0, cap, rfl, hmax⟩ := hl.shape
 have hopen := fun h0 => row_re hl h0
 obtain ⟨n, en⟩ := exx (l.length); rw [en] at hopen hmax ⊢; unfold maxLen at hmax; obtain ⟨R, hR⟩ := exx (hasL l px py); rw [hR]; have hgo := hdh (show hasL (l.drop 0) px py = R from hR); clear hl hR; replace hopen := hdh hopen; replace en := hdh en; replace ml := hdh ml
 go_enter Tryz.func129, Tryz.ntmps129
 go_wp2
 go_loopw [7] (fun iv wr => ∃ k : Nat, k ≤ n ∧ iv = .int .i64 k ∧ Hid (hasL (l.drop k) px py = R) ∧ Below w.heap.size w wr) (fun iv _ => n - (intOf iv).toNat)
 case atStart => exact ⟨0, Nat.zero_le _, rfl, hgo, Below.refl _ _⟩
 case round =>
  clear hgo; obtain ⟨k, hk, rfl, hgo, hbr⟩ := hrel; have zr := hbr.size; obtain ⟨hcr, hfr⟩ := bcell hbr
  by_cases hkn : k < n
  ·obtain ⟨b, o, cap', e, yb, _, _, hel⟩ := hopen.out (by omega)
   simp at e
   obtain ⟨rfl, rfl⟩ := e; obtain ⟨⟨qx, qy, qa, qb⟩, hq⟩ := get_at en.out hkn; obtain ⟨g0, g1, g2, g3⟩ := hel k _ hq; simp only at g0 g1 g2 g3; have hbd := may_bd (ml.out _ (List.mem_of_getElem? hq)); obtain ⟨x0, x1, y0, y1, a0, a1, b0, b1⟩ := hbd; simp only at x0 x1 y0 y1 a0 a1 b0 b1; have hgo := hgo.out; rw [hasL_at hq] at hgo
   have hkk : (k : Int) < n := by omega
   clear hel hq
   by_cases c1 : qx ≤ px
   ·by_cases c2 : px < qx + qa
    ·by_cases c3 : qy ≤ py
     ·by_cases c4 : py < qy + qb
      ·rw [show hasR ⟨qx, qy, qa, qb⟩ px py = true by simp [hasR, c1, c2, c3, c4]] at hgo
       have hgo : true = R := by simpa using hgo
       subst hgo; go_wp2; go_ret; exact ⟨rfl, belt⟩
      ·have hm : hasR ⟨qx, qy, qa, qb⟩ px py = false := by simp [hasR, c4]
       rw [show hasR ⟨qx, qy, qa, qb⟩ px py = false from hm] at hgo; have hgo := hdh (show hasL (l.drop (k + 1)) px py = R from hgo); clear hm; go_wp2; go_roundw
       case rel => exact ⟨k + 1, by omega, by go_num, hgo, belt⟩
       case measure => simp [intOf]; omega
     ·have hm : hasR ⟨qx, qy, qa, qb⟩ px py = false := by simp [hasR, c3]
      rw [show hasR ⟨qx, qy, qa, qb⟩ px py = false from hm] at hgo; have hgo := hdh (show hasL (l.drop (k + 1)) px py = R from hgo); clear hm; go_wp2; go_roundw
      case rel => exact ⟨k + 1, by omega, by go_num, hgo, belt⟩
      case measure => simp [intOf]; omega
    ·have hm : hasR ⟨qx, qy, qa, qb⟩ px py = false := by simp [hasR, c2]
     rw [show hasR ⟨qx, qy, qa, qb⟩ px py = false from hm] at hgo; have hgo := hdh (show hasL (l.drop (k + 1)) px py = R from hgo); clear hm; go_wp2; go_roundw
     case rel => exact ⟨k + 1, by omega, by go_num, hgo, belt⟩
     case measure => simp [intOf]; omega
   ·have hm : hasR ⟨qx, qy, qa, qb⟩ px py = false := by simp [hasR, c1]
    rw [show hasR ⟨qx, qy, qa, qb⟩ px py = false from hm] at hgo; have hgo := hdh (show hasL (l.drop (k + 1)) px py = R from hgo); clear hm; go_wp2; go_roundw
    case rel => exact ⟨k + 1, by omega, by go_num, hgo, belt⟩
    case measure => simp [intOf]; omega
  ·obtain rfl : k = n := by omega
   have hgo := hgo.out; rw [List.drop_eq_nil_of_le (by have := en.out; omega)] at hgo; have hgo : false = R := hgo; subst hgo; go_wp2; go_ret; exact ⟨rfl, hbr⟩
end
section
theorem edgeI_has (n : Int) : ∀ (l : List Int) (a : Nat) (x : Int), (∀ (j : Nat) y, j < a → l[j]? = some y → y < n) → l[a]? = some x → x = n → edgeI l n = l
 | [], a, x, _, h, _ => by simp at h
 | y :: l, 0, x, _, h, e => by
  simp at h; subst h; subst e
  unfold edgeI; rw [if_neg (by omega), if_pos rfl]
 | y :: l, a + 1, x, hl, h, e => by
  unfold edgeI; rw [if_pos (hl 0 y (by omega) rfl), edgeI_has n l a x (fun j z hj hz => hl (j + 1) z (by omega) (by simpa using hz)) (by simpa using h) e]
theorem edgeI_ins (n : Int) : ∀ (l : List Int) (a : Nat), (∀ (j : Nat) y, j < a → l[j]? = some y → y < n) → (∀ y, l[a]? = some y → n < y) → a ≤ l.length → edgeI l n = l.take a ++ n :: l.drop a
 | [], a, _, _, h => by
  have : a = 0 := by simpa using h
  subst this; rfl
 | y :: l, 0, _, h2, _ => by
  have := h2 y rfl; unfold edgeI; rw [if_neg (by omega), if_neg (by omega)]
  rfl
 | y :: l, a + 1, hl, h2, h3 => by
  unfold edgeI; rw [if_pos (hl 0 y (by omega) rfl), edgeI_ins n l a (fun j z hj hz => hl (j + 1) z (by omega) (by simpa using hz)) (fun z hz => h2 z (by simpa using hz)) (by simpa using h3)]
  rfl
theorem edgeI_len (l : List Int) (n : Int) : (edgeI l n).length ≤ l.length + 1 := by
 induction l with
 | nil => simp [edgeI]
 | cons a r ih =>
  unfold edgeI
  split
  ·simp; omega
  ·split <;> simp
def vI (n : Int) : Value := .int .i64 n
theorem own_insI {w7 : World} {base g cap L a : Nat} {n : Int} {ix : List Int} {cur : Array Value} {e : TypeId} (hh : w7.heap[g]? = some (.cells (splice cur.toList (a + 1) ((ix.map vI).drop a)).toArray e (0, 0))) (hbase : base ≤ g) (hnc : L + 1 ≤ cap) (hcm : cap ≤ maxLen) (hs : cur.size = cap * 1)
  (ht : cur.toList.take ((L + 1) * 1) = ix.map vI ++ [Value.int .i64 0]) (hL : ix.length = L) (ha : a ≤ L) :
  (w7.setCell ⟨g, a, none⟩ (.int .i64 n)).ownsRow base e 1 (.slice (some ⟨g, 0, none⟩) (L + 1) cap) (L + 1) ((ix.take a ++ n :: ix.drop a).map vI) := by
 have hsp := length_splice cur.toList (a + 1) ((ix.map vI).drop a) (by simp; omega); refine ⟨by simp; omega, .inr ⟨g, cap, _, rfl, hbase, heap_setCell_same _ _ _ _ _ _ hh, hnc, hcm, by rw [Array.size_setIfInBounds, List.size_toArray, hsp]; simpa using hs, ?_⟩⟩; rw [Array.toList_setIfInBounds, Nat.mul_one]; rw [Nat.mul_one] at ht
 have h1 : cur.toList.take (a + 1) = (ix.map vI ++ [Value.int .i64 0]).take (a + 1) := by rw [← ht, List.take_take, Nat.min_eq_left (by omega)]
 obtain ⟨z, h2⟩ : ∃ z, (ix.map vI ++ [Value.int .i64 0]).take (a + 1) = (ix.map vI).take a ++ [z] := by
  refine ⟨(ix.map vI ++ [Value.int .i64 0])[a]'(by simp; omega), ?_⟩; rw [List.take_succ_eq_append_getElem (by simp; omega), List.take_append_of_le_length (by simp; omega)]
 unfold splice; rw [h1, h2]
 have h3 : ((ix.map vI).take a ++ [z] ++ ((ix.map vI).drop a ++ cur.toList.drop (a + 1 + ((ix.map vI).drop a).length))).set a (.int .i64 n) = ((ix.map vI).take a ++ [.int .i64 n] ++ (ix.map vI).drop a) ++ cur.toList.drop (a + 1 + ((ix.map vI).drop a).length) := by
  rw [List.append_assoc, List.set_append_right _ _ (by simp; omega)]
  have : a - ((ix.map vI).take a).length = 0 := by simp; omega
  rw [this]
  simp
 rw [h3, List.take_left' (by simp; omega)]
 simp [vI, List.map_take, List.map_drop]
theorem flatVI (l : List Int) : l.flatMap encI = l.map vI := by
 induction l with
 | nil => rfl
 | cons a r ih => rw [List.flatMap_cons, ih]; rfl
theorem wpList_copy_grown {P : Program} {w : World} {ops : Array Oper} {rest : List Oper} {o : Oper} {a : Act} {Q : Exit → Act → World → Prop} (hgd : o.guard = none) (d s : Operand) (dT sT : TypeId)
  (ho : o.op = .call { callee := .builtin .copy, args := #[d, s], argTypes := #[dT, sT] }) (elem : TypeId) (hu : P.underlying dT = some (.slice elem)) (hsz : (P.info? elem).map (·.size) = some 1)
  (dp sp : Option Addr) (dLen dCap sLen sCap : Nat) (hd : a.eval d = .slice dp dLen dCap) (hs : a.eval s = .slice sp sLen sCap)
  (g off : Nat) (cur : List Value) (t : TypeId) (hg : w.heap[g]? = some (.cells cur.toArray t (0, 0))) (cs : List Value) (hn : cs.length = Nat.min sLen dLen)
  (hpos : 0 < cs.length → dp = some ⟨g, off, none⟩ ∧ ∃ ad, sp = some ad ∧ ∀ j v, cs[j]? = some v → w.cell? (ad.add j) = some v)
  (hfit : off + cs.length ≤ cur.length) (h1 : ∀ v ∈ cs, v.oneCell' = true)
  (h : ∀ w', Hid (w'.heap[g]? = some (.cells (splice cur off cs).toArray t (0, 0))) → w.grownBy w' (some g) → wpList P ops Q rest (a.put o.dst (goInt cs.length)) w') :
  wpList P ops Q (o :: rest) a w := by
 by_cases h0 : cs.length = 0
 ·obtain rfl : cs = [] := List.eq_nil_of_length_eq_zero h0
  refine wpList_copy_nothing hgd d s dT sT ho elem hu hsz dp sp dLen dCap sLen sCap hd hs (by simpa using hn.symm) ?_; exact h w (show _ = _ by simpa [splice] using hg) (grown_refl _ _)
 ·obtain ⟨rfl, ad, rfl, hsrc⟩ := hpos (by omega)
  refine wpList_copy_own hgd d s dT sT ho elem hu hsz g off dLen dCap ad sLen sCap hd hs cur.toArray t hg cs hn hsrc (by simpa using hfit) h1 ?_; refine h _ (show _ = _ by simpa [splice] using setRow_heap w g _ _ t _ hg) ⟨rfl, rfl, rfl, by simp [World.setRow], fun k hk hne => setRow_other w g k _ (by intro e; exact hne (by rw [e]))⟩
theorem edge_close {w w6 uE w7 : World} {r : Option Nat} {g6 : Nat} (h6 : w.grownBy w6 r) (t6 : r = some g6 ∨ w.heap.size < g6) (hE : Below w6.heap.size w6 uE) (h7 : uE.grownBy w7 (some g6)) (o : Nat) (x : Option (Nat × Nat)) (u : Value) :
  w.grownBy (w7.setCell ⟨g6, o, none⟩ u) r := by
 refine ⟨h7.os.trans (hE.os.trans h6.os), h7.tape.trans (hE.tape.trans h6.tape), h7.output.trans (hE.output.trans h6.output), ?_, fun k hk hne => ?_⟩
 ·have e : (w7.setCell ⟨g6, o, none⟩ u).heap.size = w7.heap.size := by simp
  rw [e]; exact Nat.le_trans h6.size (Nat.le_trans hE.size h7.size)
 ·have hkg : k ≠ g6 := by
   rintro rfl
   rcases t6 with h | h
   ·exact hne h.symm
   ·omega
  have k6 := Nat.lt_of_lt_of_le hk h6.size; rw [heap_setCell_other _ _ _ _ hkg, h7.block k (Nat.lt_of_lt_of_le k6 hE.size) (by intro e; injection e with e; exact hkg e), hE.block k k6, h6.block k hk hne]
def EdgePost (ns : List Int) (B : Nat) (v : Value) (w : World) (e : Ending) (w' : World) : Prop := w.grownBy w' v.ownBlock ∧ ∃ v', e = .returned v' ∧ OwnsI B w' v' ns ∧ ∀ g, v'.ownBlock = some g → v.ownBlock = some g ∨ w.heap.size ≤ g
set_option maxRecDepth 100000 in
theorem edge_any (ns : List Int) (n : Int) (v : Value) (B : Nat) (w : World) (h : OwnsI B w v ns) (hB : B ≤ w.heap.size) (hmany : ns.length ≤ 1000000) : Calls Tryz.prog 199 #[v, .int .i64 n] w (EdgePost (edgeI ns n) B v w) := by
 obtain ⟨iI, hi0, hz0, hz1, hz2⟩ := info_parts infoIn
 have hcells := fun h0 => row_in (h.row lrr) h0
 have hown := h; unfold OwnsI at hown; obtain ⟨L, hL⟩ := exx (ns.length); rw [hL] at hown hmany hcells; obtain ⟨s3, cap3, rfl⟩ := own_slice hown; clear h; replace hcells := hdh hcells; replace hown := hdh hown; replace hL := hdh hL
 go_enter Tryz.func199, Tryz.ntmps199
 go_wp2
 go_loop [5] (fun av => ∃ a : Nat, a ≤ L ∧ av = .int .i64 a ∧ (∀ (j : Nat) x, j < a → ns[j]? = some x → x < n)) (fun av => L - (intOf av).toNat)
 case atStart => exact ⟨0, Nat.zero_le _, rfl, fun _ _ h => absurd h (Nat.not_lt_zero _)⟩
 case round =>
  obtain ⟨a, ha, rfl, hlow⟩ := hrel; replace hlow := hdh hlow
  by_cases haL : a < L
  ·obtain ⟨g, o, cap4, e, hg1, hg2, hg3, hcl⟩ := hcells.out (by omega)
   simp at e
   obtain ⟨rfl, rfl⟩ := e; obtain ⟨x, ex⟩ := get_at hL.out haL; have c1 := hcl a x ex
   have haa : (a : Int) < L := by omega
   clear hcl
   by_cases hlt : x < n
   ·replace ex := hdh ex
    go_wp2; go_round
    case rel =>
     refine ⟨a + 1, by omega, by go_num, fun j y hj hy => ?_⟩
     rcases Nat.lt_succ_iff_lt_or_eq.1 hj with hj | rfl
     ·exact hlow.out j y hj hy
     ·rw [ex.out] at hy; obtain rfl := Option.some.inj hy; exact hlt
    case measure => simp [intOf]; omega
   ·by_cases heq : x = n
    ·have hins := edgeI_has n ns a x hlow.out ex heq
     have g4 : (x == n) = true := by simpa using heq
     replace hins := hdh hins; replace ex := hdh ex; subst heq; go_wp2; go_ret; refine ⟨grown_refl _ _, _, rfl, ?_, fun g hg => .inl hg⟩; unfold OwnsI; rw [hins.out, hL.out]; exact hown.out
    ·have hgt : n < x := by omega
     have hins := edgeI_ins n ns a hlow.out (fun y hy => by rw [ex] at hy; obtain rfl := Option.some.inj hy; exact hgt) (by have := hL.out; omega)
     have g4 : (x == n) = false := by simpa using heq
     replace hins := hdh hins; replace ex := hdh ex; clear heq; have hownD := hown.out; have zD : B ≤ w.heap.size := hB
     go_wp2_with (at_builtin; refine wpList_append_two rfl _ _ _ rfl B 3 iI _ 1 8 Tryz.underlying52 hi0 hz0 hz1 hz2 rfl (by omega) w 1 _ _ _ _ (by rfl) hownD (by rfl) rfl (by simp [Value.oneCell']) (by omega) (by unfold maxLen; omega) zD ?_; intro v6 w6 hown6 hgr6 htw6 hb6)
     rcases hown6.2 with ⟨_, h⟩ | ⟨g6, cap6, cur6, rfl, hg6, hh6, hn6, hm6, hs6, ht6⟩
     ·exact absurd h (by omega)
     have htw := htw6 g6 rfl; replace htw := hdh htw; replace hgr6 := hdh hgr6; clear htw6; have gl6 := Go.lt_of_block hh6
     have hn6i : (L : Int) + 1 ≤ cap6 := by omega
     rw [flatVI] at ht6; clear hown6 hownD hb6 zD; unfold maxLen at hm6
     have q1 : (a : Int) ≤ (L : Int) + 1 := by omega
     have q2 : (a : Int) + 1 ≤ (L : Int) + 1 := by omega
     have q3 : ¬ cap6 = a := by omega
     by_cases hac : a + 1 < cap6
     ·have haci : (a : Int) + 1 < cap6 := by omega
      have q4 : ¬ cap6 = a + 1 := by omega
      refine wp_region_steady_then (Held w6 0 []) 7 (by kernel_rfl) (by kernel_rfl) (by decide) (by kernel_rfl) (by kernel_rfl) ⟨belt, (by (try simp) <;> omega), (by first | exact trivial | (simp only [Cells]; go_simp))⟩ ?_; simp only [List.take_succ_cons, List.take_zero]
      repeat (first | (refine' sdo ?_; simp only [pu]) | (refine spa ?_; simp only [pu]))
      refine wpSteady_nil (fun uE hSE => ?_); obtain ⟨hcE, hbE, hzE, hcoE, hfoE⟩ := hall hSE; clear hSE; simp only [Cells] at hcE; simp only [List.drop_succ_cons, List.drop_zero, List.drop_nil]; have hhE := (hbE.block g6 gl6).trans hh6
      refine wpList_copy_grown rfl _ _ _ _ rfl 3 Tryz.underlying52 (by kernel_rfl) _ _ _ _ _ _ (by rfl) (by rfl) g6 (a + 1) cur6.toList 3 (by simpa using hhE) ((ns.map vI).drop a) (by have := hL.out; simp [Nat.min_def]; (try split) <;> omega) (fun h0 => ⟨rfl, ⟨g6, a, none⟩, rfl, fun j v hj => by
             rw [show (⟨g6, a, none⟩ : Addr).add j = ⟨g6, a + j, none⟩ by (unfold Addr.add; split <;> simp_all)]; rw [List.getElem?_drop] at hj; have hjl := (List.getElem?_eq_some_iff.1 hj).1
             have e1 : (cur6.toList.take ((L + 1) * 1))[a + j]? = some v := by rw [ht6, List.getElem?_append_left hjl]; exact hj
             rw [List.getElem?_take_of_lt (by have := hL.out; simp at hjl; omega)] at e1; simp only [World.cell?, hhE]
             simpa using e1⟩) (by have := hL.out; simp; omega) (fun v hv => by obtain ⟨i, _, rfl⟩ := List.mem_map.1 (List.mem_of_mem_drop hv); rfl) ?_
      intro w7 hh7 hgr7
      replace hgr7 := hdh hgr7; replace hbE := hdh hbE; have hh7' := hh7.out
      have hl7 : a < (splice cur6.toList (a + 1) ((ns.map vI).drop a)).length := by rw [length_splice _ _ _ (by have := hL.out; simp; omega)]; simp; omega
      have c7 : w7.cell? ⟨g6, a, none⟩ = some ((splice cur6.toList (a + 1) ((ns.map vI).drop a))[a]'hl7) := by
       simp only [World.cell?, hh7']
       simp [List.getElem?_eq_getElem hl7]
      have f7 : w7.frozen? ⟨g6, a, none⟩ = false := by simp [World.frozen?, hh7']
      have haL1 : (a : Int) < (L : Int) + 1 := by have := hL.out; omega
      obtain ⟨z7, hz7⟩ := exx ((splice cur6.toList (a + 1) ((ns.map vI).drop a))[a]'hl7); rw [hz7] at c7; clear hz7 hl7 hcE hcoE hfoE hhE hzE hh7'; replace hh6 := hdh hh6; replace ht6 := hdh ht6; replace hs6 := hdh hs6; go_wp2; go_ret; refine ⟨edge_close hgr6.out htw.out hbE.out hgr7.out a none _, _, rfl, ?_, fun g hg => by cases hg; exact htw.out.imp id Nat.le_of_lt⟩; have h := own_insI (n := n) (base := B) hh7.out hg6 hn6 hm6 hs6.out ht6.out hL.out (by have := hL.out; omega); unfold OwnsI
      have e : (ns.take a ++ n :: ns.drop a).length = L + 1 := by have := hL.out; simp; omega
      rw [hins.out, e, flatVI]; exact h
     ·(exfalso; omega)
  ·have haE : a = L := by omega
   have hins := edgeI_ins n ns a hlow.out (fun y hy => by rw [List.getElem?_eq_none (by have := hL.out; omega)] at hy; cases hy) (by have := hL.out; omega); replace haE := hdh haE; replace hins := hdh hins; have hownD := hown.out; have zD : B ≤ w.heap.size := hB
   go_wp2_with (at_builtin; refine wpList_append_two rfl _ _ _ rfl B 3 iI _ 1 8 Tryz.underlying52 hi0 hz0 hz1 hz2 rfl (by omega) w 1 _ _ _ _ (by rfl) hownD (by rfl) rfl (by simp [Value.oneCell']) (by omega) (by unfold maxLen; omega) zD ?_; intro v6 w6 hown6 hgr6 htw6 hb6)
   rcases hown6.2 with ⟨_, h⟩ | ⟨g6, cap6, cur6, rfl, hg6, hh6, hn6, hm6, hs6, ht6⟩
   ·exact absurd h (by omega)
   have htw := htw6 g6 rfl; replace htw := hdh htw; replace hgr6 := hdh hgr6; clear htw6; have gl6 := Go.lt_of_block hh6
   have hn6i : (L : Int) + 1 ≤ cap6 := by omega
   rw [flatVI] at ht6; clear hown6 hownD hb6 zD; unfold maxLen at hm6
   have q1 : (a : Int) ≤ (L : Int) + 1 := by omega
   have q2 : (a : Int) + 1 ≤ (L : Int) + 1 := by omega
   have q3 : ¬ cap6 = a := by omega
   by_cases hac : a + 1 < cap6
   ·have haci : (a : Int) + 1 < cap6 := by omega
    have q4 : ¬ cap6 = a + 1 := by omega
    refine wp_region_steady_then (Held w6 0 []) 7 (by kernel_rfl) (by kernel_rfl) (by decide) (by kernel_rfl) (by kernel_rfl) ⟨belt, (by (try simp) <;> omega), (by first | exact trivial | (simp only [Cells]; go_simp))⟩ ?_; simp only [List.take_succ_cons, List.take_zero]
    repeat (first | (refine' sdo ?_; simp only [pu]) | (refine spa ?_; simp only [pu]))
    refine wpSteady_nil (fun uE hSE => ?_); obtain ⟨hcE, hbE, hzE, hcoE, hfoE⟩ := hall hSE; clear hSE; simp only [Cells] at hcE; simp only [List.drop_succ_cons, List.drop_zero, List.drop_nil]; have hhE := (hbE.block g6 gl6).trans hh6
    refine wpList_copy_grown rfl _ _ _ _ rfl 3 Tryz.underlying52 (by kernel_rfl) _ _ _ _ _ _ (by rfl) (by rfl) g6 (a + 1) cur6.toList 3 (by simpa using hhE) ((ns.map vI).drop a) (by have := hL.out; simp [Nat.min_def]; (try split) <;> omega) (fun h0 => ⟨rfl, ⟨g6, a, none⟩, rfl, fun j v hj => by
         rw [show (⟨g6, a, none⟩ : Addr).add j = ⟨g6, a + j, none⟩ by (unfold Addr.add; split <;> simp_all)]; rw [List.getElem?_drop] at hj; have hjl := (List.getElem?_eq_some_iff.1 hj).1
         have e1 : (cur6.toList.take ((L + 1) * 1))[a + j]? = some v := by rw [ht6, List.getElem?_append_left hjl]; exact hj
         rw [List.getElem?_take_of_lt (by have := hL.out; simp at hjl; omega)] at e1; simp only [World.cell?, hhE]
         simpa using e1⟩) (by have := hL.out; simp; omega) (fun v hv => by obtain ⟨i, _, rfl⟩ := List.mem_map.1 (List.mem_of_mem_drop hv); rfl) ?_
    intro w7 hh7 hgr7
    replace hgr7 := hdh hgr7; replace hbE := hdh hbE; have hh7' := hh7.out
    have hl7 : a < (splice cur6.toList (a + 1) ((ns.map vI).drop a)).length := by rw [length_splice _ _ _ (by have := hL.out; simp; omega)]; simp; omega
    have c7 : w7.cell? ⟨g6, a, none⟩ = some ((splice cur6.toList (a + 1) ((ns.map vI).drop a))[a]'hl7) := by
     simp only [World.cell?, hh7']
     simp [List.getElem?_eq_getElem hl7]
    have f7 : w7.frozen? ⟨g6, a, none⟩ = false := by simp [World.frozen?, hh7']
    have haL1 : (a : Int) < (L : Int) + 1 := by have := hL.out; omega
    obtain ⟨z7, hz7⟩ := exx ((splice cur6.toList (a + 1) ((ns.map vI).drop a))[a]'hl7); rw [hz7] at c7; clear hz7 hl7 hcE hcoE hfoE hhE hzE hh7'; replace hh6 := hdh hh6; replace ht6 := hdh ht6; replace hs6 := hdh hs6; go_wp2; go_ret; refine ⟨edge_close hgr6.out htw.out hbE.out hgr7.out a none _, _, rfl, ?_, fun g hg => by cases hg; exact htw.out.imp id Nat.le_of_lt⟩; have h := own_insI (n := n) (base := B) hh7.out hg6 hn6 hm6 hs6.out ht6.out hL.out (by have := hL.out; omega); unfold OwnsI
    have e : (ns.take a ++ n :: ns.drop a).length = L + 1 := by have := hL.out; simp; omega
    rw [hins.out, e, flatVI]; exact h
   ·obtain rfl : cap6 = a + 1 := by omega
    refine wp_region_steady_then (Held w6 0 []) 7 (by kernel_rfl) (by kernel_rfl) (by decide) (by kernel_rfl) (by kernel_rfl) ⟨belt, (by (try simp) <;> omega), (by first | exact trivial | (simp only [Cells]; go_simp))⟩ ?_; simp only [List.take_succ_cons, List.take_zero]
    repeat (first | (refine' sdo ?_; simp only [pu]) | (refine spa ?_; simp only [pu]))
    refine wpSteady_nil (fun uE hSE => ?_); obtain ⟨hcE, hbE, hzE, hcoE, hfoE⟩ := hall hSE; clear hSE; simp only [Cells] at hcE; simp only [List.drop_succ_cons, List.drop_zero, List.drop_nil]; have hhE := (hbE.block g6 gl6).trans hh6; refine wpList_copy_grown rfl _ _ _ _ rfl 3 Tryz.underlying52 (by kernel_rfl) _ _ _ _ _ _ (by rfl) (by rfl) g6 (a + 1) cur6.toList 3 (by simpa using hhE) ((ns.map vI).drop a) (by have := hL.out; simp [Nat.min_def]; (try split) <;> omega) (fun h0 => by exfalso; have := hL.out; simp at h0; omega) (by have := hL.out; simp; omega) (fun v hv => by obtain ⟨i, _, rfl⟩ := List.mem_map.1 (List.mem_of_mem_drop hv); rfl) ?_
    intro w7 hh7 hgr7
    replace hgr7 := hdh hgr7; replace hbE := hdh hbE; have hh7' := hh7.out
    have hl7 : a < (splice cur6.toList (a + 1) ((ns.map vI).drop a)).length := by rw [length_splice _ _ _ (by have := hL.out; simp; omega)]; simp; omega
    have c7 : w7.cell? ⟨g6, a, none⟩ = some ((splice cur6.toList (a + 1) ((ns.map vI).drop a))[a]'hl7) := by
     simp only [World.cell?, hh7']
     simp [List.getElem?_eq_getElem hl7]
    have f7 : w7.frozen? ⟨g6, a, none⟩ = false := by simp [World.frozen?, hh7']
    have haL1 : (a : Int) < (L : Int) + 1 := by have := hL.out; omega
    obtain ⟨z7, hz7⟩ := exx ((splice cur6.toList (a + 1) ((ns.map vI).drop a))[a]'hl7); rw [hz7] at c7; clear hz7 hl7 hcE hcoE hfoE hhE hzE hh7'; replace hh6 := hdh hh6; replace ht6 := hdh ht6; replace hs6 := hdh hs6; go_wp2; go_ret; refine ⟨edge_close hgr6.out htw.out hbE.out hgr7.out a none _, _, rfl, ?_, fun g hg => by cases hg; exact htw.out.imp id Nat.le_of_lt⟩; have h := own_insI (n := n) (base := B) hh7.out hg6 hn6 hm6 hs6.out ht6.out hL.out (by have := hL.out; omega); unfold OwnsI
    have e : (ns.take a ++ n :: ns.drop a).length = L + 1 := by have := hL.out; simp; omega
    rw [hins.out, e, flatVI]; exact h
end
section
def edgF (down : Bool) (y : Int) (ts : List Int) (q : Re) : List Int := if down then edgY ts q else edgX y ts q
theorem edgF_len (down : Bool) (y : Int) (ts : List Int) (q : Re) : (edgF down y ts q).length ≤ ts.length + 2 := by
 have h1 := edgeI_len ts q.y; have h2 := edgeI_len (edgeI ts q.y) (q.y + q.ht); have h3 := edgeI_len ts q.x; have h4 := edgeI_len (edgeI ts q.x) (q.x + q.wd); unfold edgF edgY edgX
 split
 ·split <;> omega
 ·split
  ·omega
  ·split <;> omega
theorem edgF_fold (down : Bool) (y : Int) : ∀ (l : List Re) (ts : List Int), (l.foldl (edgF down y) ts).length ≤ ts.length + l.length * 2
 | [], ts => by simp
 | q :: l, ts => by
  have h1 := edgF_fold down y l (edgF down y ts q); have h2 := edgF_len down y ts q; rw [List.foldl_cons, List.length_cons]; omega
theorem edgF_step {l : List Re} {k : Nat} {q : Re} (h : l[k]? = some q) (down : Bool) (y : Int) (ts : List Int) : (l.drop k).foldl (edgF down y) ts = (l.drop (k + 1)).foldl (edgF down y) (edgF down y ts q) := by
 rw [drop_get h]; rfl
def EdI (v : Value) (w : World) (tv : Value) (wr : World) : Prop := w.grownBy wr v.ownBlock ∧ ∀ g, tv.ownBlock = some g → v.ownBlock = some g ∨ w.heap.size ≤ g
theorem EdI.start (v : Value) (w : World) : EdI v w v w := ⟨grown_refl _ _, fun g hg => .inl hg⟩
theorem EdI.step {v tv v' : Value} {w wr w1 w2 : World} (h : EdI v w tv wr) (hb : Below wr.heap.size wr w1) (hg : w1.grownBy w2 tv.ownBlock) (tw : ∀ g, v'.ownBlock = some g → tv.ownBlock = some g ∨ w1.heap.size ≤ g) : EdI v w v' w2 := by
 obtain ⟨h1, h2⟩ := h; have z1 := h1.size; have z2 := hb.size; refine ⟨⟨hg.os.trans (hb.os.trans h1.os), hg.tape.trans (hb.tape.trans h1.tape), hg.output.trans (hb.output.trans h1.output), Nat.le_trans (Nat.le_trans z1 z2) hg.size, fun k hk hne => ?_⟩, fun g hg' => ?_⟩
 ·rw [hg.block k (by omega) (by
   intro e
   rcases h2 k e.symm with h | h
   ·exact hne h.symm
   ·omega), hb.block k (by omega), h1.block k hk hne]
 ·rcases tw g hg' with h | h
  ·exact h2 g h
  ·exact .inr (by omega)
theorem EdI.stay {v tv : Value} {w wr w1 : World} (h : EdI v w tv wr) (hb : Below wr.heap.size wr w1) : EdI v w tv w1 :=
 h.step hb (grown_refl _ _) (fun g hg => .inl hg)
theorem grown_far {w w' : World} {r : Option Nat} (h : w.grownBy w' r) {b : Nat} (hb : b < w.heap.size) (hr : ∀ g, r = some g → g ≠ b) (o : Nat) : w'.cell? ⟨b, o, none⟩ = w.cell? ⟨b, o, none⟩ :=
 World.cell?_of_block (a := ⟨b, o, none⟩) (h.block b hb (fun e => hr b e.symm rfl))
theorem grown_below {B : Nat} {w w' : World} {r : Option Nat} (h : w.grownBy w' r) (hB : B ≤ w.heap.size) (hr : ∀ g, r = some g → B ≤ g) : Below B w w' :=
 ⟨h.os, h.tape, h.output, h.size, fun k hk => h.block k (by omega) (fun e => by have := hr k e.symm; omega)⟩
set_option maxRecDepth 100000 in
theorem kedges_any (ts : List Int) (l : List Re) (v vl : Value) (down : Bool) (y : Int) (B : Nat) (w : World) (ht : OwnsI B w v ts) (hl : Row B 4 Re.enc w vl l) (ml : MayL l) (hB : B ≤ w.heap.size) (h1 : ts.length ≤ 400000) (h2 : l.length ≤ 100000) :
  Calls Tryz.prog 171 #[v, vl, .bool down, .int .i64 y] w (EdgePost (l.foldl (edgF down y) ts) B v w) := by
 obtain ⟨s0, cap, rfl, hmax⟩ := hl.shape
 have hopen := fun h0 => row_re hl h0
 obtain ⟨n, en⟩ := exx (l.length); rw [en] at hopen hmax h2 ⊢; obtain ⟨R, hR⟩ := exx (l.foldl (edgF down y) ts); rw [hR]; have hgo := hdh (show (l.drop 0).foldl (edgF down y) ts = R from hR); have ht0 := hdh ht; have hvB := hdh (fun g h => (own_block_lt ht g h).1); clear hl hR; replace hopen := hdh hopen; replace en := hdh en; replace ml := hdh ml; have hts := hdh h1; clear ht h1
 go_enter Tryz.func171, Tryz.ntmps171
 go_wp2
 go_loopw [0, 9] (fun tv iv wr => ∃ (k : Nat) (T : List Int), k ≤ n ∧ iv = .int .i64 k ∧ OwnsI B wr tv T ∧ Hid ((l.drop k).foldl (edgF down y) T = R) ∧ Hid (T.length ≤ 400000 + k * 2) ∧ EdI v w tv wr) (fun _ iv _ => n - (intOf iv).toNat)
 case atStart => exact ⟨0, ts, Nat.zero_le _, rfl, ht0.out, hgo, hts, EdI.start _ _⟩
 case round =>
  clear hgo ht0 hts; obtain ⟨k, T, hk, rfl, hT, hgo, hTl, hI⟩ := hrel; have hbr : Below B w wr := grown_below hI.1 hB hvB.out; have zr := hbr.size
  by_cases hkn : k < n
  ·obtain ⟨b, o, cap', e, yb, _, _, hel⟩ := hopen.out (by omega)
   simp at e
   obtain ⟨rfl, rfl⟩ := e; obtain ⟨q, hq⟩ := get_at en.out hkn; have hbd := may_bd (ml.out _ (List.mem_of_getElem? hq)); obtain ⟨x, yy, wd, hgt⟩ := q; obtain ⟨g0, g1, g2, g3⟩ := hel k _ hq; simp only at g0 g1 g2 g3; obtain ⟨x0, x1, y0, y1, a0, a1, b0, b1⟩ := hbd; simp only at x0 x1 y0 y1 a0 a1 b0 b1; have hgo := hgo.out; rw [edgF_step hq] at hgo
   have hkk : (k : Int) < n := by omega
   have EM := fun w => kempty_any ⟨x, yy, wd, hgt⟩ w
   simp only at EM; have hTl2 := hdh (edgF_len down y T ⟨x, yy, wd, hgt⟩); have hTlt := hdh (fun g h => Nat.ne_of_lt (own_block_lt hT g h).2); clear hel hq
   have ybr : b < wr.heap.size := by omega
   replace g0 := (hbr.cell (p := ⟨b, _, none⟩) yb).trans g0; replace g1 := (hbr.cell (p := ⟨b, _, none⟩) yb).trans g1; replace g2 := (hbr.cell (p := ⟨b, _, none⟩) yb).trans g2; replace g3 := (hbr.cell (p := ⟨b, _, none⟩) yb).trans g3; replace hT := hdh hT; clear hbr
   cases hn : noneR ⟨x, yy, wd, hgt⟩
   ·rw [hn] at EM
    cases down
    ·by_cases c1 : yy ≤ y
     ·by_cases c2 : y < yy + hgt
      ·have hgo := hdh (show (l.drop (k + 1)).foldl (edgF false y) (edgeI (edgeI T x) (x + wd)) = R by
        rw [← hgo]; unfold edgF edgX inRow; rw [hn]; simp [c1, c2])
       replace hTl2 := hdh (show (edgeI (edgeI T x) (x + wd)).length ≤ T.length + 2 by have := hTl2.out; unfold edgF edgX inRow at this; rw [hn] at this; simpa [c1, c2] using this); clear hn; replace EM := hdh EM; replace hI := hdh hI
       go_wp2_with (first | (go_at_call 198; (with_reducible refine cmm (EM.out _) fun w1 hb1 => ?_); obtain ⟨hc1, hf1⟩ := bcell hb1; have hbr1 : Below wr.heap.size wr w1 := ((Below.refl _ _).alloc lrr _).trans (hb1.mono (by simp)); have l1 : wr.heap.size < w1.heap.size := (by have := hb1.size; simp at this; omega); have E1 := hdh (OwnsI.below hT.out hbr1 lrr)) | (go_at_call 199; (with_reducible refine (edge_any T _ _ B _ E1.out (by omega) (by have := hTl.out; omega)).mono ?_); rintro e w2 ⟨hg2, v2, rfl, hT2, tw2⟩; have hc2 := fun o => grown_far hg2 l1 hTlt.out o; have b2 := grown_below hg2 (B := B) (by omega) (fun g h => (own_block_lt E1.out g h).1); have hT2 := hdh hT2; have tw2 := hdh tw2; have hg2 := hdh hg2) | (go_at_call 199; (with_reducible refine (edge_any (edgeI T x) _ v2 B _ hT2.out (by have := hg2.out.size; omega) (by have := hTl.out; have := edgeI_len T x; omega)).mono ?_); rintro e w3 ⟨hg3, v3, rfl, hT3, tw3⟩; have b3 := grown_below hg3 (B := B) (by have := hg2.out.size; omega) (fun g h => (own_block_lt hT2.out g h).1)) | go_in)
       go_roundw
       case rel => exact ⟨k + 1, _, by omega, by go_num, hT3, hgo, hdh (by have := hTl.out; have := hTl2.out; omega), (hI.out.step hbr1 hg2.out tw2.out).step (Below.refl _ _) hg3 tw3⟩
       case measure => simp [intOf]; omega
      ·have hgo := hdh (show (l.drop (k + 1)).foldl (edgF false y) T = R by
        rw [← hgo]; unfold edgF edgX inRow; rw [hn]; simp [c1, c2])
       clear hn; replace EM := hdh EM; replace hI := hdh hI
       go_wp2_with (first | (go_at_call 198; (with_reducible refine cmm (EM.out _) fun w1 hb1 => ?_); obtain ⟨hc1, hf1⟩ := bcell hb1; have hbr1 : Below wr.heap.size wr w1 := ((Below.refl _ _).alloc lrr _).trans (hb1.mono (by simp)); have l1 : wr.heap.size < w1.heap.size := (by have := hb1.size; simp at this; omega); have E1 := hdh (OwnsI.below hT.out hbr1 lrr)) | go_in)
       go_roundw
       case rel => exact ⟨k + 1, T, by omega, by go_num, E1.out, hgo, hdh (by have := hTl.out; omega), hI.out.stay hbr1⟩
       case measure => simp [intOf]; omega
     ·have hgo := hdh (show (l.drop (k + 1)).foldl (edgF false y) T = R by
       rw [← hgo]; unfold edgF edgX inRow; rw [hn]; simp [c1])
      clear hn; replace EM := hdh EM; replace hI := hdh hI
      go_wp2_with (first | (go_at_call 198; (with_reducible refine cmm (EM.out _) fun w1 hb1 => ?_); obtain ⟨hc1, hf1⟩ := bcell hb1; have hbr1 : Below wr.heap.size wr w1 := ((Below.refl _ _).alloc lrr _).trans (hb1.mono (by simp)); have l1 : wr.heap.size < w1.heap.size := (by have := hb1.size; simp at this; omega); have E1 := hdh (OwnsI.below hT.out hbr1 lrr)) | go_in)
      go_roundw
      case rel => exact ⟨k + 1, T, by omega, by go_num, E1.out, hgo, hdh (by have := hTl.out; omega), hI.out.stay hbr1⟩
      case measure => simp [intOf]; omega
    ·have hgo := hdh (show (l.drop (k + 1)).foldl (edgF true y) (edgeI (edgeI T yy) (yy + hgt)) = R by
      rw [← hgo]; unfold edgF edgY; rw [hn]; simp)
     replace hTl2 := hdh (show (edgeI (edgeI T yy) (yy + hgt)).length ≤ T.length + 2 by have := hTl2.out; unfold edgF edgY at this; rw [hn] at this; simpa using this); clear hn; replace EM := hdh EM; replace hI := hdh hI
     go_wp2_with (first | (go_at_call 198; (with_reducible refine cmm (EM.out _) fun w1 hb1 => ?_); obtain ⟨hc1, hf1⟩ := bcell hb1; have hbr1 : Below wr.heap.size wr w1 := ((Below.refl _ _).alloc lrr _).trans (hb1.mono (by simp)); have l1 : wr.heap.size < w1.heap.size := (by have := hb1.size; simp at this; omega); have E1 := hdh (OwnsI.below hT.out hbr1 lrr)) | (go_at_call 199; (with_reducible refine (edge_any T _ _ B _ E1.out (by omega) (by have := hTl.out; omega)).mono ?_); rintro e w2 ⟨hg2, v2, rfl, hT2, tw2⟩; have hc2 := fun o => grown_far hg2 l1 hTlt.out o; have b2 := grown_below hg2 (B := B) (by omega) (fun g h => (own_block_lt E1.out g h).1); have hT2 := hdh hT2; have tw2 := hdh tw2; have hg2 := hdh hg2) | (go_at_call 199; (with_reducible refine (edge_any (edgeI T yy) _ v2 B _ hT2.out (by have := hg2.out.size; omega) (by have := hTl.out; have := edgeI_len T yy; omega)).mono ?_); rintro e w3 ⟨hg3, v3, rfl, hT3, tw3⟩; have b3 := grown_below hg3 (B := B) (by have := hg2.out.size; omega) (fun g h => (own_block_lt hT2.out g h).1)) | go_in)
     go_roundw
     case rel => exact ⟨k + 1, _, by omega, by go_num, hT3, hgo, hdh (by have := hTl.out; have := hTl2.out; omega), (hI.out.step hbr1 hg2.out tw2.out).step (Below.refl _ _) hg3 tw3⟩
     case measure => simp [intOf]; omega
   ·rw [hn] at EM
    have hgo := hdh (show (l.drop (k + 1)).foldl (edgF down y) T = R by
     rw [← hgo]; unfold edgF edgX edgY; rw [hn]; simp)
    clear hn; replace EM := hdh EM; replace hI := hdh hI
    go_wp2_with (first | (go_at_call 198; (with_reducible refine cmm (EM.out _) fun w1 hb1 => ?_); obtain ⟨hc1, hf1⟩ := bcell hb1; have hbr1 : Below wr.heap.size wr w1 := ((Below.refl _ _).alloc lrr _).trans (hb1.mono (by simp)); have l1 : wr.heap.size < w1.heap.size := (by have := hb1.size; simp at this; omega); have E1 := hdh (OwnsI.below hT.out hbr1 lrr)) | go_in)
    go_roundw
    case rel => exact ⟨k + 1, T, by omega, by go_num, E1.out, hgo, hdh (by have := hTl.out; omega), hI.out.stay hbr1⟩
    case measure => simp [intOf]; omega
  ·obtain rfl : k = n := by omega
   have hgo := hgo.out; rw [List.drop_eq_nil_of_le (by have := en.out; omega)] at hgo; have hgo : T = R := hgo; subst hgo; replace hT := hdh hT; go_wp2; go_ret; exact ⟨hI.1, _, rfl, hT.out, hI.2⟩
end
section
theorem kkept_any (a b : List Re) (va vb : Value) (what x y : Int) (w : World) (ha : Row w.heap.size 4 Re.enc w va a) (hb : Row w.heap.size 4 Re.enc w vb b) (ma : MayL a) (mb : MayL b) (hw : what = 1 ∨ what = 2 ∨ what = 3) :
  Calls Tryz.prog 200 #[va, vb, .int .i64 what, .int .i64 x, .int .i64 y] w fun e w' => e = .returned (.bool (keptB a b what x y)) ∧ Below w.heap.size w w' := by
 have A := khas_any a va x y w ha ma
 have B := fun W (h : Below w.heap.size w W) => khas_any b vb x y W ((hb.below h).mono h.size) mb
 unfold keptB; obtain ⟨o, ho⟩ := exx (hasL a x y); obtain ⟨p, hp⟩ := exx (hasL b x y); simp only [ho] at A; simp only [hp] at B; rw [ho, hp]; clear ha hb ho hp ma mb; obtain ⟨r, hr⟩ := exx (wantB what o p); rw [hr]
 rcases hw with rfl | rfl | rfl <;> cases o <;> cases p <;> simp [wantB] at hr <;> subst hr
 all_goals
  replace A := hdh A; replace B := hdh B
  go_enter Tryz.func200, Tryz.ntmps200
  go_wp2_with (first
   | (go_at_call 129; (with_reducible refine cmm (A.out) fun w1 hb1 => ?_))
   | (go_at_call 129; (with_reducible refine cmm (B.out _ hb1) fun w2 hb2 => ?_))
   | go_in)
  go_ret; exact ⟨rfl, hb1.trans (hb2.mono hb1.size)⟩
theorem endsS_last : ∀ {M : List Sp} {p : Nat} {t : Sp}, M[p]? = some t → (endsS M)[2 * p + 1]? = some t.2
 | [], p, t, h => by simp at h
 | s :: M, 0, t, h => by simp at h; subst h; rfl
 | s :: M, p + 1, t, h => by
  have := endsS_last (M := M) (p := p) (t := t) (by simpa using h); rw [show endsS (s :: M) = s.1 :: s.2 :: endsS M from rfl, show 2 * (p + 1) + 1 = (2 * p + 1) + 1 + 1 by omega, List.getElem?_cons_succ, List.getElem?_cons_succ]; exact this
theorem endsS_set : ∀ {M : List Sp} {p : Nat} {t : Sp} {y : Int}, M[p]? = some t → endsS (M.set p (t.1, y)) = (endsS M).set (2 * p + 1) y
 | [], p, t, y, h => by simp at h
 | s :: M, 0, t, y, h => by simp at h; subst h; rfl
 | s :: M, p + 1, t, y, h => by
  have := endsS_set (M := M) (p := p) (t := t) (y := y) (by simpa using h); rw [List.set_cons_succ, show endsS (s :: M.set p (t.1, y)) = s.1 :: s.2 :: endsS (M.set p (t.1, y)) from rfl, this, show endsS (s :: M) = s.1 :: s.2 :: endsS M from rfl, show 2 * (p + 1) + 1 = (2 * p + 1) + 1 + 1 by omega, List.set_cons_succ, List.set_cons_succ]
theorem endsS_app (M : List Sp) (x y : Int) : endsS (M ++ [(x, y)]) = endsS M ++ [x, y] := by
 unfold endsS; rw [List.flatMap_append]
 rfl
theorem own_unfzI {w : World} {base g n cap : Nat} {C : List Int} (h : OwnsI base w (.slice (some ⟨g, 0, none⟩) n cap) C) (o : Nat) : w.frozen? ⟨g, o, none⟩ = false := by
 rcases h.2 with ⟨h0, _⟩ | ⟨g', cap', cur, hv, hg, hh, _⟩
 ·cases h0
 ·injection hv with hv _ _
  injection hv with hv
  injection hv with hv _ _
  subst hv
  simp [World.frozen?, hh]
theorem own_putI {w : World} {base g n cap k : Nat} {C : List Int} (h : OwnsI base w (.slice (some ⟨g, 0, none⟩) n cap) C) (hn : C.length = n) (hk : k < n) (u : Int) : OwnsI base (w.setCell ⟨g, k, none⟩ (.int .i64 u)) (.slice (some ⟨g, 0, none⟩) n cap) (C.set k u) := by
 unfold OwnsI at *; rw [List.length_set, hn]; rw [hn] at h; have := own_put h (k := k) (by omega) (.int .i64 u); rw [flatVI] at this ⊢; rw [List.map_set]; exact this
theorem own_lessI {w : World} {base B : Nat} {v : Value} {C : List Int} (h : OwnsI base w v C) (hB : B ≤ base) : OwnsI B w v C := by
 unfold OwnsI at *; obtain ⟨h1, h2⟩ := h; refine ⟨h1, ?_⟩
 rcases h2 with h2 | ⟨g, cap, cur, hv, hg, r⟩
 ·exact .inl h2
 ·exact .inr ⟨g, cap, cur, hv, by omega, r⟩
theorem edgF_false (y : Int) : edgF false y = edgX y := by funext t q; rfl
theorem edgF_true (y : Int) : edgF true y = edgY := by funext t q; rfl
theorem edgesX_len (a b : List Re) (y : Int) : (edgesX a b y).length ≤ a.length * 2 + b.length * 2 := by
 unfold edgesX; have h1 := edgF_fold false y a []; have h2 := edgF_fold false y b (a.foldl (edgX y) []); rw [edgF_false] at h1 h2
 simp at h1
 omega
def SpansPost (l : List Sp) (w : World) (e : Ending) (w' : World) : Prop := Below w.heap.size w w' ∧ ∃ v, e = .returned v ∧ OwnsI w.heap.size w' v (endsS l)
set_option maxRecDepth 100000 in
theorem kspans_any (a b : List Re) (va vb : Value) (what y0 : Int) (w : World) (ha : Row w.heap.size 4 Re.enc w va a) (hb : Row w.heap.size 4 Re.enc w vb b) (ma : MayL a) (mb : MayL b) (la : a.length ≤ 100000) (lb : b.length ≤ 100000) (hw : what = 1 ∨ what = 2 ∨ what = 3) :
  Calls Tryz.prog 172 #[va, vb, .int .i64 what, .int .i64 y0] w (SpansPost (spansP a b what y0) w) := by
 obtain ⟨iS, hi0, hm0, hm1, hm2⟩ := info_parts infoIn; have E1 := kedges_any [] a (.slice none 0 0) va false y0 w.heap.size w (OwnsI.nil _ _) ha ma lrr (by simp) la
 have E2 := fun w1 v1 (h : OwnsI w.heap.size w1 v1 (a.foldl (edgF false y0) [])) (h2 : Below w.heap.size w w1) => kedges_any (a.foldl (edgF false y0) []) b v1 vb false y0 w.heap.size w1 h (hb.below h2) mb h2.size (by have := edgF_fold false y0 a []; simp at this; omega) lb
 obtain ⟨X1, hX1⟩ := exx (a.foldl (edgF false y0) []); obtain ⟨X, hX⟩ := exx (edgesX a b y0)
 have hXe : b.foldl (edgF false y0) X1 = X := by rw [← hX, ← hX1, edgF_false]; rfl
 have hXl : X.length ≤ 400000 := by rw [← hX]; have := edgesX_len a b y0; omega
 have hXin : ∀ x ∈ X, InM x := fun x hx => by rw [← hX] at hx; exact edgesX_in ma mb y0 x hx
 rw [hX1] at E1 E2; rw [hXe] at E2; obtain ⟨R, hR⟩ := exx (spansP a b what y0)
 have hgo : mixGo (fun x => keptB a b what x y0) [] (X.drop 0) = R := by rw [List.drop_zero, ← hX]; exact hR
 have KP := fun x W (h : Below w.heap.size w W) => kkept_any a b va vb what x y0 W ((ha.below h).mono h.size) ((hb.below h).mono h.size) ma mb hw
 obtain ⟨s1, c1, rfl, hmax1⟩ := ha.shape; obtain ⟨s2, c2, rfl, hmax2⟩ := hb.shape; unfold SpansPost; rw [hR]; replace E1 := hdh E1; replace E2 := hdh E2; replace KP := hdh KP; replace hgo := hdh hgo; replace hXin := hdh hXin; clear ha hb hX1 hX hXe hR hw
 go_enter Tryz.func172, Tryz.ntmps172
 go_wp2_with (first
  | (go_at_call 171; (with_reducible refine (E1.out).mono ?_); rintro e w1 ⟨gr1, v1, rfl, ow1, _⟩; have hb1 : Below w.heap.size w w1 := grown_below gr1 lrr (fun g h => by cases h); replace ow1 := hdh ow1)
  | (go_at_call 171; (with_reducible refine (E2.out _ _ ow1.out hb1).mono ?_); rintro e w4 ⟨gr4, v4, rfl, ow4, _⟩; have hb04 : Below w.heap.size w w4 := hb1.trans (grown_below gr4 hb1.size (fun g h => (own_block_lt ow1.out g h).1)))
  | go_in)
 clear hb1 gr1 gr4 ow1 E1 E2; obtain ⟨s4, c4, rfl⟩ := own_slice ow4
 have hX4 := fun (wr : World) (hb : Below w4.heap.size w4 wr) h0 => row_in ((ow4.row lrr).below hb) h0
 have z04 := hb04.size; obtain ⟨L, hL⟩ := exx (X.length); rw [hL] at hX4 hXl ⊢; replace hX4 := hdh hX4; replace hL := hdh hL; clear ow4
 go_loopw [10, 11] (fun ov iv wr => ∃ (i : Nat) (M : List Sp), i ≤ L ∧ iv = .int .i64 i ∧ Hid (M.length ≤ i) ∧ Hid (mixGo (fun x => keptB a b what x y0) M (X.drop i) = R) ∧ OwnsI w4.heap.size wr ov (endsS M) ∧ Below w4.heap.size w4 wr) (fun _ iv _ => L - (intOf iv).toNat)
 case atStart => exact ⟨0, [], Nat.zero_le _, rfl, hdh (Nat.zero_le _), hgo, OwnsI.nil _ _, Below.refl _ _⟩
 case round =>
  obtain ⟨i, M, hi, rfl, hMl, hgo, hown, hb4r⟩ := hrel; have hbr := hb04.trans (hb4r.mono z04); have zr := hbr.size; have z4r := hb4r.size
  by_cases hiL : i + 1 < L
  ·obtain ⟨bb, o, cap', e, yb, _, _, hel⟩ := hX4.out w4 (Below.refl _ _) (by omega)
   simp at e
   obtain ⟨rfl, rfl⟩ := e; obtain ⟨x, hx⟩ := get_at hL.out (show i < L by omega); obtain ⟨y, hy⟩ := get_at hL.out hiL; have g0 := hel i x hx; have g1 := hel (i + 1) y hy; obtain ⟨hcr, hfr⟩ := bcell hb4r; obtain ⟨x0, x1⟩ := id (hXin.out x (List.mem_of_getElem? hx)); obtain ⟨y0', y1⟩ := id (hXin.out y (List.mem_of_getElem? hy))
   have KP := fun W (h : Below wr.heap.size wr W) => KP.out x W (hbr.trans (h.mono zr))
   have hgo := hgo.out; rw [mix_step hx hy] at hgo
   have hii : (i : Int) < L := by omega
   have hii2 : (i : Int) + 1 < L := by omega
   have ybr : bb < wr.heap.size := by omega
   clear hel hx hy; generalize keptB a b what x y0 = kb at KP hgo
   have kl : (endsS M).length ≤ 800000 := by rw [endsS_len]; have := hMl.out; omega
   cases kb
   ·rw [if_neg (by decide)] at hgo
    replace hgo := hdh hgo; replace hown := hdh hown; replace KP := hdh KP
    go_wp2_with (first | (go_at_call 200; (with_reducible refine cmm (KP.out _ (Below.refl _ _)) fun wk hbk => ?_); obtain ⟨hck, hfk⟩ := bcell hbk; have zk := hbk.size) | go_in)
    go_roundw
    case rel => exact ⟨i + 1, M, by omega, by go_num, hdh (by have := hMl.out; omega), hgo, hown.out.below hbk lrr, hb4r.trans (hbk.mono z4r)⟩
    case measure => simp [intOf]; omega
   ·rw [if_pos rfl] at hgo
    obtain ⟨st0, cap0, rfl⟩ := own_slice hown; obtain ⟨k, hk⟩ := exx ((endsS M).length); rw [hk] at kl hown ⊢; replace KP := hdh KP
    rcases Nat.eq_zero_or_pos M.length with h0 | h0
    ·have hM : M = [] := List.length_eq_zero_iff.1 h0
     rw [show putS M x y = M ++ [(x, y)] by rw [hM]; rfl] at hgo
     obtain rfl : k = 0 := by rw [← hk, hM]; rfl
     clear hM h0; replace hgo := hdh hgo; replace hown := hdh hown; replace hk := hdh hk
     go_wp2_with (first | (go_at_call 200; (with_reducible refine cmm (KP.out _ (Below.refl _ _)) fun wk hbk => ?_); obtain ⟨hck, hfk⟩ := bcell hbk; have zk := hbk.size) | go_in)
     have ybk : bb < wk.heap.size := by omega
     refine rst (Held wk 0 []) ?_
     repeat (first | (refine' sdo ?_; simp only [pu]) | (refine spa ?_; simp only [pu]))
     refine wpSteady_nil (fun uB hSB => ?_); obtain ⟨hcB, hbB, hzB, hcoB, hfoB⟩ := hall hSB; clear hSB; simp only [Cells] at hcB; go_wp2; have hownB := (hown.out.below hbk lrr).below hbB lrr; unfold OwnsI at hownB; rw [hk.out] at hownB; have hb4B := (hb4r.trans (hbk.mono z4r)).trans (hbB.mono (by have := hbk.size; omega)); have zB := hb4B.size; refine held_begin (Held w4 0 []) (by kernel_rfl) ⟨Below.drew hb4B, by simp; omega, trivial⟩ (fun hS => ?_); replace hownB := hdh hownB
     (refine' hdo 0 hS ?_; simp only [pu])
     (refine' hdo 1 hS ?_; simp only [pu])
     (refine' hdo 2 hS ?_; simp only [pu])
     (refine' hdo 3 hS ?_; simp only [pu])
     (refine' hdo 4 hS ?_; simp only [pu])
     (refine' hdo 5 hS ?_; simp only [pu])
     (refine' hdo 6 hS ?_; simp only [pu])
     (refine' hdo 7 hS ?_; simp only [pu])
     (refine' hdo 8 hS ?_; simp only [pu])
     (refine' hdo 9 hS ?_; simp only [pu])
     (refine honn 10 fun K hK => ?_; go_simp)
     have hS1 := hS.below ((Below.refl _ _).alloc lrr (.cells #[.int .i64 x, .int .i64 y] 3)); refine hK _ _ hS1 ?_; clear hK
     (try simp only [pu])
     (refine' held_one (i := 11) _ (by kernel_rfl) _ _; rotate_left; (focus exact geti); (focus rfl); intro K hK)
     refine wp_append_blk _ _ _ rfl w4.heap.size 3 iS _ 1 8 Tryz.underlying52 hi0 hm0 hm1 hm2 rfl (by omega) _ 2 _ _ _ _ _ _ (by rfl) (hownB.out.drew.alloc _) (Blk.new' rfl) (by rfl) (by rfl) (by simp [Value.oneCell']) (by omega) (by unfold maxLen; omega) (by simp; omega) ?_
     intro v6 w6 own6 gr6 at6 hb6
     have hS2 : Held w4 0 [] w6 := ⟨hS1.1.trans hb6, Nat.le_trans hS1.2.1 gr6.size, trivial⟩; refine hK _ _ hS2 ?_; clear hK
     (try simp only [pu])
     have hown6 := own6; rw [flatI2 _ x y rfl] at hown6; clear own6; replace hown6 := hdh hown6
     (refine honn 12 fun K hK => ?_; go_simp)
     refine hK _ _ hS2 ?_; clear hK
     (try simp only [pu])
     refine wpAnyH_done (by kernel_rfl) ?_ _; go_wp2; go_roundw
     case rel =>
      refine ⟨i + 1, M ++ [(x, y)], by omega, by go_num, by rw [List.length_append]; have := hMl.out; simp <;> omega, hgo, ?_, hS2.1⟩; rw [endsS_app]; unfold OwnsI; rw [List.length_append, hk.out]; exact hown6.out
     case measure => simp [intOf]; omega
    ·obtain ⟨p, hp⟩ : ∃ p, M.length = p + 1 := ⟨M.length - 1, by omega⟩
     obtain ⟨t, ht⟩ := get_at (k := p) hp (by omega); have htl := endsS_last ht
     have hm : k = 2 * p + 1 + 1 := by rw [← hk, endsS_len, hp]; omega
     obtain ⟨m, hme⟩ := exx (2 * p + 1); rw [hme] at hm htl; subst hm; have hown' := hown; unfold OwnsI at hown'; rw [hk] at hown'; obtain ⟨g, rfl, hgB, hgl⟩ := own_addr hown' (by omega); have j0 := own_int hown htl; have hfz := own_unfzI hown
     have hpi : (0 : Int) < (m : Int) + 1 := by omega
     have hpi2 : (m : Int) < (m : Int) + 1 := by omega
     clear hown' h0 htl; replace hown := hdh hown; replace hme := hdh hme
     by_cases htx : t.2 = x
     ·rw [putS_set hp ht htx] at hgo
      have hth := hdh ht; replace hgo := hdh hgo; have hkh := hdh hk; have hph := hdh hp; clear hk ht hp; obtain ⟨t1, t2⟩ := t; simp only at j0 htx; subst htx
      go_wp2_with (first | (go_at_call 200; (with_reducible refine cmm (KP.out _ (Below.refl _ _)) fun wk hbk => ?_); obtain ⟨hck, hfk⟩ := bcell hbk; have zk := hbk.size) | go_in)
      have ybk : bb < wk.heap.size := by omega
      have ygk : g < wk.heap.size := by omega
      refine rst (Held wk 0 []) ?_
      repeat (first | (refine' sdo ?_; simp only [pu]) | (refine spa ?_; simp only [pu]))
      refine wpSteady_nil (fun uB hSB => ?_); obtain ⟨hcB, hbB, hzB, hcoB, hfoB⟩ := hall hSB; clear hSB; simp only [Cells] at hcB
      have yB : bb < uB.heap.size := by omega
      have yBg : g < uB.heap.size := by omega
      have hfzB : ∀ o, uB.frozen? ⟨g, o, none⟩ = false := fun o => (hfoB g o ygk).trans ((hfk g o hgl).trans (hfz o))
      go_wp2; go_roundw
      case rel =>
       refine ⟨i + 1, M.set p (t1, y), by omega, by go_num, hdh (by rw [List.length_set]; have := hMl.out; omega), hgo, ?_, ?_⟩
       ·rw [endsS_set hth.out, hme.out]
        exact own_putI ((hown.out.below hbk lrr).below hbB lrr) hkh.out (by omega) y
       ·exact ((hb4r.trans (hbk.mono z4r)).trans (hbB.mono (by omega))).setCell (by simp; omega) _
      case measure => simp [intOf]; omega
     ·rw [putS_app hp ht htx] at hgo
      replace hgo := hdh hgo; obtain ⟨t1, t2⟩ := t; simp only at j0 htx
      have htx' : (t2 == x) = false := by simp [htx]
      have htx2 : decide (t2 = x) = false := by simp [htx]
      clear ht; replace hp := hdh hp; replace hk := hdh hk
      go_wp2_with (first | (go_at_call 200; (with_reducible refine cmm (KP.out _ (Below.refl _ _)) fun wk hbk => ?_); obtain ⟨hck, hfk⟩ := bcell hbk; have zk := hbk.size) | go_in)
      have ybk : bb < wk.heap.size := by omega
      have ygk : g < wk.heap.size := by omega
      refine rst (Held wk 0 []) ?_
      repeat (first | (refine' sdo ?_; simp only [pu]) | (refine spa ?_; simp only [pu]))
      refine wpSteady_nil (fun uB hSB => ?_); obtain ⟨hcB, hbB, hzB, hcoB, hfoB⟩ := hall hSB; clear hSB; simp only [Cells] at hcB; go_wp2; have hownB := (hown.out.below hbk lrr).below hbB lrr; unfold OwnsI at hownB; rw [hk.out] at hownB; have hb4B := (hb4r.trans (hbk.mono z4r)).trans (hbB.mono (by have := hbk.size; omega)); have zB := hb4B.size; refine held_begin (Held w4 0 []) (by kernel_rfl) ⟨Below.drew hb4B, by simp; omega, trivial⟩ (fun hS => ?_); replace hownB := hdh hownB
      (refine' hdo 0 hS ?_; simp only [pu])
      (refine' hdo 1 hS ?_; simp only [pu])
      (refine' hdo 2 hS ?_; simp only [pu])
      (refine' hdo 3 hS ?_; simp only [pu])
      (refine' hdo 4 hS ?_; simp only [pu])
      (refine' hdo 5 hS ?_; simp only [pu])
      (refine' hdo 6 hS ?_; simp only [pu])
      (refine' hdo 7 hS ?_; simp only [pu])
      (refine' hdo 8 hS ?_; simp only [pu])
      (refine' hdo 9 hS ?_; simp only [pu])
      (refine honn 10 fun K hK => ?_; go_simp)
      have hS1 := hS.below ((Below.refl _ _).alloc lrr (.cells #[.int .i64 x, .int .i64 y] 3)); refine hK _ _ hS1 ?_; clear hK
      (try simp only [pu])
      (refine' held_one (i := 11) _ (by kernel_rfl) _ _; rotate_left; (focus exact geti); (focus rfl); intro K hK)
      refine wp_append_blk _ _ _ rfl w4.heap.size 3 iS _ 1 8 Tryz.underlying52 hi0 hm0 hm1 hm2 rfl (by omega) _ 2 _ _ _ _ _ _ (by rfl) (hownB.out.drew.alloc _) (Blk.new' rfl) (by rfl) (by rfl) (by simp [Value.oneCell']) (by omega) (by unfold maxLen; omega) (by simp; omega) ?_
      intro v6 w6 own6 gr6 at6 hb6
      have hS2 : Held w4 0 [] w6 := ⟨hS1.1.trans hb6, Nat.le_trans hS1.2.1 gr6.size, trivial⟩; refine hK _ _ hS2 ?_; clear hK
      (try simp only [pu])
      have hown6 := own6; rw [flatI2 _ x y rfl] at hown6; clear own6; replace hown6 := hdh hown6
      (refine honn 12 fun K hK => ?_; go_simp)
      refine hK _ _ hS2 ?_; clear hK
      (try simp only [pu])
      refine wpAnyH_done (by kernel_rfl) ?_ _; go_wp2; go_roundw
      case rel =>
       refine ⟨i + 1, M ++ [(x, y)], by omega, by go_num, by rw [List.length_append]; have := hMl.out; simp <;> omega, hgo, ?_, hS2.1⟩; rw [endsS_app]; unfold OwnsI; rw [List.length_append, hk.out]; exact hown6.out
      case measure => simp [intOf]; omega
  ·have hgo := hgo.out
   rw [mix_end (by have := hL.out; omega)] at hgo; subst hgo; obtain ⟨st0, cap0, rfl⟩ := own_slice hown; replace hown := hdh hown
   have hii2 : ¬ (i : Int) + 1 < L := by omega
   go_wp2; go_ret; exact ⟨hbr, _, rfl, own_lessI hown.out z04⟩
end
end Go.Proofs.YtfcphagmjijmkaaGreatDoor
