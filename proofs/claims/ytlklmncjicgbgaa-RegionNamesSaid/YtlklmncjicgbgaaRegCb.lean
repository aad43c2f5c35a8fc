/-
  The document's answer: edge, a number put into a rising list, once.
-/
import Derived.Test.YtlklmncjicgbgaaRegCa
import Derived.Test.YtlklmncjicgbgaaRegBc
import Derived.Deep.DeepCutAuto
import Derived.Laws.CopyOwn
namespace Go.Proofs.Ytlklmncjicgbgaa
open Go.RowKit
set_option linter.unusedVariables false
attribute [local go_sem] vwp vUpon_value vUpon_skip vUpon_enter vUpon_row
set_option linter.unusedSimpArgs false
set_option linter.unusedVariables false
theorem edgeI_has (n : Int) : ∀ (l : List Int) (a : Nat) (x : Int), (∀ (j : Nat) y, j < a → l[j]? = some y → y < n) → l[a]? = some x → x = n → edgeI l n = l
  | [], a, x, _, h, _ => by simp at h
  | y :: l, 0, x, _, h, e => by
    simp at h; subst h; subst e
    unfold edgeI
    rw [if_neg (by omega), if_pos rfl]
  | y :: l, a + 1, x, hl, h, e => by
    unfold edgeI
    rw [if_pos (hl 0 y (by omega) rfl), edgeI_has n l a x (fun j z hj hz => hl (j + 1) z (by omega) (by simpa using hz)) (by simpa using h) e]
theorem edgeI_ins (n : Int) : ∀ (l : List Int) (a : Nat), (∀ (j : Nat) y, j < a → l[j]? = some y → y < n) → (∀ y, l[a]? = some y → n < y) → a ≤ l.length → edgeI l n = l.take a ++ n :: l.drop a
  | [], a, _, _, h => by
    have : a = 0 := by simpa using h
    subst this; rfl
  | y :: l, 0, _, h2, _ => by
    have := h2 y rfl
    unfold edgeI
    rw [if_neg (by omega), if_neg (by omega)]
    rfl
  | y :: l, a + 1, hl, h2, h3 => by
    unfold edgeI
    rw [if_pos (hl 0 y (by omega) rfl), edgeI_ins n l a (fun j z hj hz => hl (j + 1) z (by omega) (by simpa using hz)) (fun z hz => h2 z (by simpa using hz)) (by simpa using h3)]
    rfl
theorem edgeI_len (l : List Int) (n : Int) : (edgeI l n).length ≤ l.length + 1 := by
  induction l with
  | nil => simp [edgeI]
  | cons a r ih =>
    unfold edgeI
    split
    · simp; omega
    · split <;> simp
def vI (n : Int) : Value := .int .i64 n
theorem own_insI {w7 : World} {base g cap L a : Nat} {n : Int} {ix : List Int} {cur : Array Value} {e : TypeId} (hh : w7.heap[g]? = some (.cells (splice cur.toList (a + 1) ((ix.map vI).drop a)).toArray e (0, 0))) (hbase : base ≤ g) (hnc : L + 1 ≤ cap) (hcm : cap ≤ maxLen) (hs : cur.size = cap * 1)
    (ht : cur.toList.take ((L + 1) * 1) = ix.map vI ++ [Value.int .i64 0]) (hL : ix.length = L) (ha : a ≤ L) :
    (w7.setCell ⟨g, a, none⟩ (.int .i64 n)).ownsRow base e 1 (.slice (some ⟨g, 0, none⟩) (L + 1) cap) (L + 1) ((ix.take a ++ n :: ix.drop a).map vI) := by
  have hsp := length_splice cur.toList (a + 1) ((ix.map vI).drop a) (by simp; omega)
  refine ⟨by simp; omega, .inr ⟨g, cap, _, rfl, hbase, heap_setCell_same _ _ _ _ _ _ hh, hnc, hcm, by rw [Array.size_setIfInBounds, List.size_toArray, hsp]; simpa using hs, ?_⟩⟩
  rw [Array.toList_setIfInBounds, Nat.mul_one]
  rw [Nat.mul_one] at ht
  have h1 : cur.toList.take (a + 1) = (ix.map vI ++ [Value.int .i64 0]).take (a + 1) := by rw [← ht, List.take_take, Nat.min_eq_left (by omega)]
  obtain ⟨z, h2⟩ : ∃ z, (ix.map vI ++ [Value.int .i64 0]).take (a + 1) = (ix.map vI).take a ++ [z] := by
    refine ⟨(ix.map vI ++ [Value.int .i64 0])[a]'(by simp; omega), ?_⟩
    rw [List.take_succ_eq_append_getElem (by simp; omega), List.take_append_of_le_length (by simp; omega)]
  unfold splice
  rw [h1, h2]
  have h3 : ((ix.map vI).take a ++ [z] ++ ((ix.map vI).drop a ++ cur.toList.drop (a + 1 + ((ix.map vI).drop a).length))).set a (.int .i64 n) = ((ix.map vI).take a ++ [.int .i64 n] ++ (ix.map vI).drop a) ++ cur.toList.drop (a + 1 + ((ix.map vI).drop a).length) := by
    rw [List.append_assoc, List.set_append_right _ _ (by simp; omega)]
    have : a - ((ix.map vI).take a).length = 0 := by simp; omega
    rw [this]
    simp
  rw [h3, List.take_left' (by simp; omega)]
  simp [vI, List.map_take, List.map_drop]
theorem flatVI (l : List Int) : l.flatMap encI = l.map vI := by
  induction l with
  | nil => rfl
  | cons a r ih => rw [List.flatMap_cons, ih]; rfl
theorem wpList_copy_grown {P : Program} {w : World} {ops : Array Oper} {rest : List Oper} {o : Oper} {a : Act} {Q : Exit → Act → World → Prop} (hgd : o.guard = none) (d s : Operand) (dT sT : TypeId)
    (ho : o.op = .call { callee := .builtin .copy, args := #[d, s], argTypes := #[dT, sT] }) (elem : TypeId) (hu : P.underlying dT = some (.slice elem)) (hsz : (P.info? elem).map (·.size) = some 1)
    (dp sp : Option Addr) (dLen dCap sLen sCap : Nat) (hd : a.eval d = .slice dp dLen dCap) (hs : a.eval s = .slice sp sLen sCap)
    (g off : Nat) (cur : List Value) (t : TypeId) (hg : w.heap[g]? = some (.cells cur.toArray t (0, 0))) (cs : List Value) (hn : cs.length = Nat.min sLen dLen)
    (hpos : 0 < cs.length → dp = some ⟨g, off, none⟩ ∧ ∃ ad, sp = some ad ∧ ∀ j v, cs[j]? = some v → w.cell? (ad.add j) = some v)
    (hfit : off + cs.length ≤ cur.length) (h1 : ∀ v ∈ cs, v.oneCell' = true)
    (h : ∀ w', Hid (w'.heap[g]? = some (.cells (splice cur off cs).toArray t (0, 0))) → w.grownBy w' (some g) → wpList P ops Q rest (a.put o.dst (goInt cs.length)) w') :
    wpList P ops Q (o :: rest) a w := by
  by_cases h0 : cs.length = 0
  · obtain rfl : cs = [] := List.eq_nil_of_length_eq_zero h0
    refine wpList_copy_nothing hgd d s dT sT ho elem hu hsz dp sp dLen dCap sLen sCap hd hs (by simpa using hn.symm) ?_
    exact h w (show _ = _ by simpa [splice] using hg) (grown_refl _ _)
  · obtain ⟨rfl, ad, rfl, hsrc⟩ := hpos (by omega)
    refine wpList_copy_own hgd d s dT sT ho elem hu hsz g off dLen dCap ad sLen sCap hd hs cur.toArray t hg cs hn hsrc (by simpa using hfit) h1 ?_
    refine h _ (show _ = _ by simpa [splice] using setRow_heap w g _ _ t _ hg) ⟨rfl, rfl, rfl, by simp [World.setRow], fun k hk hne => setRow_other w g k _ (by intro e; exact hne (by rw [e]))⟩
theorem edge_close {w w6 uE w7 : World} {r : Option Nat} {g6 : Nat} (h6 : w.grownBy w6 r) (t6 : r = some g6 ∨ w.heap.size < g6) (hE : Below w6.heap.size w6 uE) (h7 : uE.grownBy w7 (some g6)) (o : Nat) (x : Option (Nat × Nat)) (u : Value) :
    w.grownBy (w7.setCell ⟨g6, o, none⟩ u) r := by
  refine ⟨h7.os.trans (hE.os.trans h6.os), h7.tape.trans (hE.tape.trans h6.tape), h7.output.trans (hE.output.trans h6.output), ?_, fun k hk hne => ?_⟩
  · have e : (w7.setCell ⟨g6, o, none⟩ u).heap.size = w7.heap.size := by simp
    rw [e]
    exact Nat.le_trans h6.size (Nat.le_trans hE.size h7.size)
  · have hkg : k ≠ g6 := by
      rintro rfl
      rcases t6 with h | h
      · exact hne h.symm
      · omega
    have k6 := Nat.lt_of_lt_of_le hk h6.size
    rw [heap_setCell_other _ _ _ _ hkg, h7.block k (Nat.lt_of_lt_of_le k6 hE.size) (by intro e; injection e with e; exact hkg e), hE.block k k6, h6.block k hk hne]
def EdgePost (ns : List Int) (B : Nat) (v : Value) (w : World) (e : Ending) (w' : World) : Prop := w.grownBy w' v.ownBlock ∧ ∃ v', e = .returned v' ∧ OwnsI B w' v' ns ∧ ∀ g, v'.ownBlock = some g → v.ownBlock = some g ∨ w.heap.size ≤ g
set_option maxHeartbeats 4000000 in
set_option maxRecDepth 100000 in
theorem edge_any (ns : List Int) (n : Int) (v : Value) (B : Nat) (w : World) (h : OwnsI B w v ns) (hB : B ≤ w.heap.size) (hmany : ns.length ≤ 1000000) : Calls Try.prog 71 #[v, .int .i64 n] w (EdgePost (edgeI ns n) B v w) := by
  obtain ⟨iI, hi0, hz0, hz1, hz2⟩ := info_parts infoIn
  have hcells := fun h0 => row_in (h.row (Nat.le_refl _)) h0
  have hown := h
  unfold OwnsI at hown
  obtain ⟨L, hL⟩ : ∃ L, ns.length = L := ⟨_, rfl⟩
  rw [hL] at hown hmany hcells
  obtain ⟨s3, cap3, rfl⟩ := own_slice hown
  clear h
  replace hcells := Lib.hid hcells
  replace hown := Lib.hid hown
  replace hL := Lib.hid hL
  go_enter Try.func71, Try.ntmps71
  go_wp2
  go_loop [5] (fun av => ∃ a : Nat, a ≤ L ∧ av = .int .i64 a ∧ (∀ (j : Nat) x, j < a → ns[j]? = some x → x < n)) (fun av => L - (intOf av).toNat)
  case atStart => exact ⟨0, Nat.zero_le _, rfl, fun _ _ h => absurd h (Nat.not_lt_zero _)⟩
  case round =>
    obtain ⟨a, ha, rfl, hlow⟩ := hrel
    replace hlow := Lib.hid hlow
    by_cases haL : a < L
    · obtain ⟨g, o, cap4, e, hg1, hg2, hg3, hcl⟩ := hcells.out (by omega)
      simp at e
      obtain ⟨rfl, rfl⟩ := e
      obtain ⟨x, ex⟩ := get_at hL.out haL
      have c1 := hcl a x ex
      have haa : (a : Int) < L := by omega
      clear hcl
      by_cases hlt : x < n
      · replace ex := Lib.hid ex
        go_wp2
        go_round
        case rel =>
          refine ⟨a + 1, by omega, by go_num, fun j y hj hy => ?_⟩
          rcases Nat.lt_succ_iff_lt_or_eq.1 hj with hj | rfl
          · exact hlow.out j y hj hy
          · rw [ex.out] at hy; obtain rfl := Option.some.inj hy; exact hlt
        case measure => simp [intOf]; omega
      · by_cases heq : x = n
        · have hins := edgeI_has n ns a x hlow.out ex heq
          have g4 : (x == n) = true := by simpa using heq
          replace hins := Lib.hid hins
          replace ex := Lib.hid ex
          subst heq
          go_wp2
          go_ret
          refine ⟨grown_refl _ _, _, rfl, ?_, fun g hg => .inl hg⟩
          unfold OwnsI
          rw [hins.out, hL.out]
          exact hown.out
        · have hgt : n < x := by omega
          have hins := edgeI_ins n ns a hlow.out (fun y hy => by rw [ex] at hy; obtain rfl := Option.some.inj hy; exact hgt) (by have := hL.out; omega)
          have g4 : (x == n) = false := by simpa using heq
          replace hins := Lib.hid hins
          replace ex := Lib.hid ex
          clear heq
          have hownD := hown.out
          have zD : B ≤ w.heap.size := hB
          go_wp2_with (at_builtin; refine wpList_append_two rfl _ _ _ rfl B 3 iI _ 1 8 Try.underlying58 hi0 hz0 hz1 hz2 rfl (by omega) w 1 _ _ _ _ (by rfl) hownD (by rfl) rfl (by simp [Value.oneCell']) (by omega) (by unfold maxLen; omega) zD ?_; intro v6 w6 hown6 hgr6 htw6 hb6)
          rcases hown6.2 with ⟨_, h⟩ | ⟨g6, cap6, cur6, rfl, hg6, hh6, hn6, hm6, hs6, ht6⟩
          · exact absurd h (by omega)
          have htw := htw6 g6 rfl
          replace htw := Lib.hid htw
          replace hgr6 := Lib.hid hgr6
          clear htw6
          have gl6 := Go.lt_of_block hh6
          have hn6i : (L : Int) + 1 ≤ cap6 := by omega
          rw [flatVI] at ht6
          clear hown6 hownD hb6 zD
          unfold maxLen at hm6
          have q1 : (a : Int) ≤ (L : Int) + 1 := by omega
          have q2 : (a : Int) + 1 ≤ (L : Int) + 1 := by omega
          have q3 : ¬ cap6 = a := by omega
          by_cases hac : a + 1 < cap6
          · have haci : (a : Int) + 1 < cap6 := by omega
            have q4 : ¬ cap6 = a + 1 := by omega
            refine wp_region_steady_then (Held w6 0 []) 7 (by kernel_rfl) (by kernel_rfl) (by decide) (by kernel_rfl) (by kernel_rfl) ⟨(by repeat (first | exact Below.refl _ _ | assumption | refine Below.drew ?_ | refine Below.alloc ?_ (by (try simp) <;> omega) _ | refine Below.setCell ?_ (by (try simp) <;> omega) _ | (refine Below.trans ?_ (Below.mono (by assumption) (by (try simp) <;> omega))))), (by (try simp) <;> omega), (by first | exact trivial | (simp only [Cells]; go_simp))⟩ ?_
            simp only [List.take_succ_cons, List.take_zero]
            repeat (first | (refine' wpSteady_do _ _ _; rotate_left; (focus rfl); (focus (intro w1 hS R hR; have hc := hS.cells; simp only [Cells] at hc; obtain ⟨hco, hfo⟩ := bcell hS.old; go_simp; (try go_bits); first | exact hR _ hS | fail)); simp only [Act.put, List.setIfInBounds_toArray, List.set_cons_zero, List.set_cons_succ]) | (refine wpSteady_pass ?_ ?_; (focus rfl); simp only [Act.put, List.setIfInBounds_toArray, List.set_cons_zero, List.set_cons_succ]))
            refine wpSteady_nil (fun uE hSE => ?_)
            have hcE := hSE.cells; have hbE := hSE.old; have hzE := hSE.size; clear hSE; simp only [Cells] at hcE; obtain ⟨hcoE, hfoE⟩ := bcell hbE
            simp only [List.drop_succ_cons, List.drop_zero, List.drop_nil]
            have hhE := (hbE.block g6 gl6).trans hh6
            refine wpList_copy_grown rfl _ _ _ _ rfl 3 Try.underlying58 (by kernel_rfl) _ _ _ _ _ _ (by rfl) (by rfl) g6 (a + 1) cur6.toList 3 (by simpa using hhE) ((ns.map vI).drop a) (by have := hL.out; simp [Nat.min_def]; (try split) <;> omega) (fun h0 => ⟨rfl, ⟨g6, a, none⟩, rfl, fun j v hj => by
                          rw [show (⟨g6, a, none⟩ : Addr).add j = ⟨g6, a + j, none⟩ by (unfold Addr.add; split <;> simp_all)]
                          rw [List.getElem?_drop] at hj
                          have hjl := (List.getElem?_eq_some_iff.1 hj).1
                          have e1 : (cur6.toList.take ((L + 1) * 1))[a + j]? = some v := by rw [ht6, List.getElem?_append_left hjl]; exact hj
                          rw [List.getElem?_take_of_lt (by have := hL.out; simp at hjl; omega)] at e1
                          simp only [World.cell?, hhE]
                          simpa using e1⟩) (by have := hL.out; simp; omega) (fun v hv => by obtain ⟨i, _, rfl⟩ := List.mem_map.1 (List.mem_of_mem_drop hv); rfl) ?_
            intro w7 hh7 hgr7
            replace hgr7 := Lib.hid hgr7
            replace hbE := Lib.hid hbE
            have hh7' := hh7.out
            have hl7 : a < (splice cur6.toList (a + 1) ((ns.map vI).drop a)).length := by rw [length_splice _ _ _ (by have := hL.out; simp; omega)]; simp; omega
            have c7 : w7.cell? ⟨g6, a, none⟩ = some ((splice cur6.toList (a + 1) ((ns.map vI).drop a))[a]'hl7) := by
              simp only [World.cell?, hh7']
              simp [List.getElem?_eq_getElem hl7]
            have f7 : w7.frozen? ⟨g6, a, none⟩ = false := by simp [World.frozen?, hh7']
            have haL1 : (a : Int) < (L : Int) + 1 := by have := hL.out; omega
            obtain ⟨z7, hz7⟩ : ∃ z7, (splice cur6.toList (a + 1) ((ns.map vI).drop a))[a]'hl7 = z7 := ⟨_, rfl⟩
            rw [hz7] at c7
            clear hz7 hl7 hcE hcoE hfoE hhE hzE hh7'
            replace hh6 := Lib.hid hh6
            replace ht6 := Lib.hid ht6
            replace hs6 := Lib.hid hs6
            go_wp2
            go_ret
            refine ⟨edge_close hgr6.out htw.out hbE.out hgr7.out a none _, _, rfl, ?_, fun g hg => by cases hg; exact htw.out.imp id Nat.le_of_lt⟩
            have h := own_insI (n := n) (base := B) hh7.out hg6 hn6 hm6 hs6.out ht6.out hL.out (by have := hL.out; omega)
            unfold OwnsI
            have e : (ns.take a ++ n :: ns.drop a).length = L + 1 := by have := hL.out; simp; omega
            rw [hins.out, e, flatVI]
            exact h
          · (exfalso; omega)
    · have haE : a = L := by omega
      have hins := edgeI_ins n ns a hlow.out (fun y hy => by rw [List.getElem?_eq_none (by have := hL.out; omega)] at hy; cases hy) (by have := hL.out; omega)
      replace haE := Lib.hid haE
      replace hins := Lib.hid hins
      have hownD := hown.out
      have zD : B ≤ w.heap.size := hB
      go_wp2_with (at_builtin; refine wpList_append_two rfl _ _ _ rfl B 3 iI _ 1 8 Try.underlying58 hi0 hz0 hz1 hz2 rfl (by omega) w 1 _ _ _ _ (by rfl) hownD (by rfl) rfl (by simp [Value.oneCell']) (by omega) (by unfold maxLen; omega) zD ?_; intro v6 w6 hown6 hgr6 htw6 hb6)
      rcases hown6.2 with ⟨_, h⟩ | ⟨g6, cap6, cur6, rfl, hg6, hh6, hn6, hm6, hs6, ht6⟩
      · exact absurd h (by omega)
      have htw := htw6 g6 rfl
      replace htw := Lib.hid htw
      replace hgr6 := Lib.hid hgr6
      clear htw6
      have gl6 := Go.lt_of_block hh6
      have hn6i : (L : Int) + 1 ≤ cap6 := by omega
      rw [flatVI] at ht6
      clear hown6 hownD hb6 zD
      unfold maxLen at hm6
      have q1 : (a : Int) ≤ (L : Int) + 1 := by omega
      have q2 : (a : Int) + 1 ≤ (L : Int) + 1 := by omega
      have q3 : ¬ cap6 = a := by omega
      by_cases hac : a + 1 < cap6
      · have haci : (a : Int) + 1 < cap6 := by omega
        have q4 : ¬ cap6 = a + 1 := by omega
        refine wp_region_steady_then (Held w6 0 []) 7 (by kernel_rfl) (by kernel_rfl) (by decide) (by kernel_rfl) (by kernel_rfl) ⟨(by repeat (first | exact Below.refl _ _ | assumption | refine Below.drew ?_ | refine Below.alloc ?_ (by (try simp) <;> omega) _ | refine Below.setCell ?_ (by (try simp) <;> omega) _ | (refine Below.trans ?_ (Below.mono (by assumption) (by (try simp) <;> omega))))), (by (try simp) <;> omega), (by first | exact trivial | (simp only [Cells]; go_simp))⟩ ?_
        simp only [List.take_succ_cons, List.take_zero]
        repeat (first | (refine' wpSteady_do _ _ _; rotate_left; (focus rfl); (focus (intro w1 hS R hR; have hc := hS.cells; simp only [Cells] at hc; obtain ⟨hco, hfo⟩ := bcell hS.old; go_simp; (try go_bits); first | exact hR _ hS | fail)); simp only [Act.put, List.setIfInBounds_toArray, List.set_cons_zero, List.set_cons_succ]) | (refine wpSteady_pass ?_ ?_; (focus rfl); simp only [Act.put, List.setIfInBounds_toArray, List.set_cons_zero, List.set_cons_succ]))
        refine wpSteady_nil (fun uE hSE => ?_)
        have hcE := hSE.cells; have hbE := hSE.old; have hzE := hSE.size; clear hSE; simp only [Cells] at hcE; obtain ⟨hcoE, hfoE⟩ := bcell hbE
        simp only [List.drop_succ_cons, List.drop_zero, List.drop_nil]
        have hhE := (hbE.block g6 gl6).trans hh6
        refine wpList_copy_grown rfl _ _ _ _ rfl 3 Try.underlying58 (by kernel_rfl) _ _ _ _ _ _ (by rfl) (by rfl) g6 (a + 1) cur6.toList 3 (by simpa using hhE) ((ns.map vI).drop a) (by have := hL.out; simp [Nat.min_def]; (try split) <;> omega) (fun h0 => ⟨rfl, ⟨g6, a, none⟩, rfl, fun j v hj => by
                  rw [show (⟨g6, a, none⟩ : Addr).add j = ⟨g6, a + j, none⟩ by (unfold Addr.add; split <;> simp_all)]
                  rw [List.getElem?_drop] at hj
                  have hjl := (List.getElem?_eq_some_iff.1 hj).1
                  have e1 : (cur6.toList.take ((L + 1) * 1))[a + j]? = some v := by rw [ht6, List.getElem?_append_left hjl]; exact hj
                  rw [List.getElem?_take_of_lt (by have := hL.out; simp at hjl; omega)] at e1
                  simp only [World.cell?, hhE]
                  simpa using e1⟩) (by have := hL.out; simp; omega) (fun v hv => by obtain ⟨i, _, rfl⟩ := List.mem_map.1 (List.mem_of_mem_drop hv); rfl) ?_
        intro w7 hh7 hgr7
        replace hgr7 := Lib.hid hgr7
        replace hbE := Lib.hid hbE
        have hh7' := hh7.out
        have hl7 : a < (splice cur6.toList (a + 1) ((ns.map vI).drop a)).length := by rw [length_splice _ _ _ (by have := hL.out; simp; omega)]; simp; omega
        have c7 : w7.cell? ⟨g6, a, none⟩ = some ((splice cur6.toList (a + 1) ((ns.map vI).drop a))[a]'hl7) := by
          simp only [World.cell?, hh7']
          simp [List.getElem?_eq_getElem hl7]
        have f7 : w7.frozen? ⟨g6, a, none⟩ = false := by simp [World.frozen?, hh7']
        have haL1 : (a : Int) < (L : Int) + 1 := by have := hL.out; omega
        obtain ⟨z7, hz7⟩ : ∃ z7, (splice cur6.toList (a + 1) ((ns.map vI).drop a))[a]'hl7 = z7 := ⟨_, rfl⟩
        rw [hz7] at c7
        clear hz7 hl7 hcE hcoE hfoE hhE hzE hh7'
        replace hh6 := Lib.hid hh6
        replace ht6 := Lib.hid ht6
        replace hs6 := Lib.hid hs6
        go_wp2
        go_ret
        refine ⟨edge_close hgr6.out htw.out hbE.out hgr7.out a none _, _, rfl, ?_, fun g hg => by cases hg; exact htw.out.imp id Nat.le_of_lt⟩
        have h := own_insI (n := n) (base := B) hh7.out hg6 hn6 hm6 hs6.out ht6.out hL.out (by have := hL.out; omega)
        unfold OwnsI
        have e : (ns.take a ++ n :: ns.drop a).length = L + 1 := by have := hL.out; simp; omega
        rw [hins.out, e, flatVI]
        exact h
      · obtain rfl : cap6 = a + 1 := by omega
        refine wp_region_steady_then (Held w6 0 []) 7 (by kernel_rfl) (by kernel_rfl) (by decide) (by kernel_rfl) (by kernel_rfl) ⟨(by repeat (first | exact Below.refl _ _ | assumption | refine Below.drew ?_ | refine Below.alloc ?_ (by (try simp) <;> omega) _ | refine Below.setCell ?_ (by (try simp) <;> omega) _ | (refine Below.trans ?_ (Below.mono (by assumption) (by (try simp) <;> omega))))), (by (try simp) <;> omega), (by first | exact trivial | (simp only [Cells]; go_simp))⟩ ?_
        simp only [List.take_succ_cons, List.take_zero]
        repeat (first | (refine' wpSteady_do _ _ _; rotate_left; (focus rfl); (focus (intro w1 hS R hR; have hc := hS.cells; simp only [Cells] at hc; obtain ⟨hco, hfo⟩ := bcell hS.old; go_simp; (try go_bits); first | exact hR _ hS | fail)); simp only [Act.put, List.setIfInBounds_toArray, List.set_cons_zero, List.set_cons_succ]) | (refine wpSteady_pass ?_ ?_; (focus rfl); simp only [Act.put, List.setIfInBounds_toArray, List.set_cons_zero, List.set_cons_succ]))
        refine wpSteady_nil (fun uE hSE => ?_)
        have hcE := hSE.cells; have hbE := hSE.old; have hzE := hSE.size; clear hSE; simp only [Cells] at hcE; obtain ⟨hcoE, hfoE⟩ := bcell hbE
        simp only [List.drop_succ_cons, List.drop_zero, List.drop_nil]
        have hhE := (hbE.block g6 gl6).trans hh6
        refine wpList_copy_grown rfl _ _ _ _ rfl 3 Try.underlying58 (by kernel_rfl) _ _ _ _ _ _ (by rfl) (by rfl) g6 (a + 1) cur6.toList 3 (by simpa using hhE) ((ns.map vI).drop a) (by have := hL.out; simp [Nat.min_def]; (try split) <;> omega) (fun h0 => by exfalso; have := hL.out; simp at h0; omega) (by have := hL.out; simp; omega) (fun v hv => by obtain ⟨i, _, rfl⟩ := List.mem_map.1 (List.mem_of_mem_drop hv); rfl) ?_
        intro w7 hh7 hgr7
        replace hgr7 := Lib.hid hgr7
        replace hbE := Lib.hid hbE
        have hh7' := hh7.out
        have hl7 : a < (splice cur6.toList (a + 1) ((ns.map vI).drop a)).length := by rw [length_splice _ _ _ (by have := hL.out; simp; omega)]; simp; omega
        have c7 : w7.cell? ⟨g6, a, none⟩ = some ((splice cur6.toList (a + 1) ((ns.map vI).drop a))[a]'hl7) := by
          simp only [World.cell?, hh7']
          simp [List.getElem?_eq_getElem hl7]
        have f7 : w7.frozen? ⟨g6, a, none⟩ = false := by simp [World.frozen?, hh7']
        have haL1 : (a : Int) < (L : Int) + 1 := by have := hL.out; omega
        obtain ⟨z7, hz7⟩ : ∃ z7, (splice cur6.toList (a + 1) ((ns.map vI).drop a))[a]'hl7 = z7 := ⟨_, rfl⟩
        rw [hz7] at c7
        clear hz7 hl7 hcE hcoE hfoE hhE hzE hh7'
        replace hh6 := Lib.hid hh6
        replace ht6 := Lib.hid ht6
        replace hs6 := Lib.hid hs6
        go_wp2
        go_ret
        refine ⟨edge_close hgr6.out htw.out hbE.out hgr7.out a none _, _, rfl, ?_, fun g hg => by cases hg; exact htw.out.imp id Nat.le_of_lt⟩
        have h := own_insI (n := n) (base := B) hh7.out hg6 hn6 hm6 hs6.out ht6.out hL.out (by have := hL.out; omega)
        unfold OwnsI
        have e : (ns.take a ++ n :: ns.drop a).length = L + 1 := by have := hL.out; simp; omega
        rw [hins.out, e, flatVI]
        exact h
end Go.Proofs.Ytlklmncjicgbgaa
