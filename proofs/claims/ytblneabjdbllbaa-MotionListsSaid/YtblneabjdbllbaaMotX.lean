/-
  'counts' of the document's answer, walked.
-/
import Derived.Test.YtblneabjdbllbaaMotW
import Derived.Deep.DeepCutAuto
namespace Go.Proofs.Ytblneabjdbllbaa
open Go.RowKit
set_option linter.unusedVariables false
attribute [local go_sem] vwp vUpon_value vUpon_skip vUpon_enter vUpon_row
set_option linter.unusedSimpArgs false
def vN (i : Nat) : Value := .int .i64 (i : Int)
theorem own_ins {w7 : World} {base g cap L a k : Nat} {cur : Array Value} {e : TypeId} {ix : List Nat} (hh : w7.heap[g]? = some (.cells (splice cur.toList (a + 1) ((ix.map vN).drop a)).toArray e (0, 0))) (hbase : base ≤ g) (hnc : L + 1 ≤ cap) (hcm : cap ≤ maxLen) (hs : cur.size = cap * 1)
    (ht : cur.toList.take ((L + 1) * 1) = ix.map vN ++ [Value.int .i64 0]) (hL : ix.length = L) (ha : a ≤ L) :
    (w7.setCell ⟨g, a, none⟩ (.int .i64 (k : Int))).ownsRow base e 1 (.slice (some ⟨g, 0, none⟩) (L + 1) cap) (L + 1) ((ix.take a ++ k :: ix.drop a).map vN) := by
  have hsp := length_splice cur.toList (a + 1) ((ix.map vN).drop a) (by simp; omega)
  refine ⟨by simp; omega, .inr ⟨g, cap, _, rfl, hbase, heap_setCell_same _ _ _ _ _ _ hh, hnc, hcm, by rw [Array.size_setIfInBounds, List.size_toArray, hsp]; simpa using hs, ?_⟩⟩
  rw [Array.toList_setIfInBounds, Nat.mul_one]
  rw [Nat.mul_one] at ht
  have h1 : cur.toList.take (a + 1) = (ix.map vN ++ [Value.int .i64 0]).take (a + 1) := by rw [← ht, List.take_take, Nat.min_eq_left (by omega)]
  obtain ⟨z, h2⟩ : ∃ z, (ix.map vN ++ [Value.int .i64 0]).take (a + 1) = (ix.map vN).take a ++ [z] := by
    refine ⟨(ix.map vN ++ [Value.int .i64 0])[a]'(by simp; omega), ?_⟩
    rw [List.take_succ_eq_append_getElem (by simp; omega), List.take_append_of_le_length (by simp; omega)]
  unfold splice
  rw [h1, h2]
  have h3 : ((ix.map vN).take a ++ [z] ++ ((ix.map vN).drop a ++ cur.toList.drop (a + 1 + ((ix.map vN).drop a).length))).set a (.int .i64 (k : Int)) = ((ix.map vN).take a ++ [.int .i64 (k : Int)] ++ (ix.map vN).drop a) ++ cur.toList.drop (a + 1 + ((ix.map vN).drop a).length) := by
    rw [List.append_assoc, List.set_append_right _ _ (by simp; omega)]
    have : a - ((ix.map vN).take a).length = 0 := by simp; omega
    rw [this]
    simp
  rw [h3, List.take_left' (by simp; omega)]
  simp [vN, List.map_take, List.map_drop]
set_option maxHeartbeats 4000000 in
theorem counts_any (ms : List Mo) (v : Value) (w : World) (hl : Lst w v ms) (hmany : ms.length ≤ 4096) : Calls Try.prog 36 #[v] w fun e w' => Below w.heap.size w w' ∧ ∃ (ix : List Nat) (vo : Value), e = .returned vo ∧ IsIx ms ix (srt ms) ∧ w'.ownsRow w.heap.size 3 1 vo ix.length (ix.map vN) := by
  obtain ⟨s, cap, rfl, hmax⟩ := lst_slice' hl
  obtain ⟨n, hn⟩ : ∃ n, ms.length = n := ⟨_, rfl⟩
  have hopen := fun h0 => lst_open hl h0
  rw [hn] at hopen hmax hmany ⊢
  clear hl
  replace hopen := Lib.hid hopen
  replace hn := Lib.hid hn
  obtain ⟨iI, hi0, hz0, hz1, hz2⟩ := info_parts infoI
  go_enter Try.func36, Try.ntmps36
  go_wp2
  go_loopw [3, 4] (fun out i wr => ∃ (k : Nat) (ix : List Nat), k ≤ n ∧ i = .int .i64 ((k : Int) - 1) ∧ IsIx ms ix (srt (ms.drop k)) ∧ wr.ownsRow w.heap.size 3 1 out ix.length (ix.map vN) ∧ Below w.heap.size w wr) (fun _ i _ => (intOf i + 1).toNat)
  case atStart =>
    refine ⟨n, [], Nat.le_refl _, rfl, ?_, World.ownsRow_nil _ _ _ _, Below.refl _ _⟩
    rw [List.drop_of_length_le (Nat.le_of_eq hn.out)]
    exact ⟨rfl, fun j m h => by simp [srt] at h⟩
  case round =>
    obtain ⟨k, ix, hk, rfl, hix, hown, hbr⟩ := hrel
    have zr := hbr.size
    by_cases hk0 : 0 < k
    · obtain ⟨k', rfl⟩ : ∃ k', k = k' + 1 := ⟨k - 1, by omega⟩
      rw [show (((k' + 1 : Nat) : Int) - 1) = (k' : Int) by omega]
      obtain ⟨b, o, cap', e, hb, hel⟩ := hopen.out (by omega)
      simp at e
      obtain ⟨rfl, rfl⟩ := e
      obtain ⟨m, hm⟩ : ∃ m, ms[k']? = some m := ⟨ms[k']'(by have := hn.out; omega), List.getElem?_eq_getElem _⟩
      have hdrop : ms.drop k' = m :: ms.drop (k' + 1) := by
        obtain ⟨hk', e⟩ := List.getElem?_eq_some_iff.1 hm
        rw [List.drop_eq_getElem_cons hk', e]
      have hsrt : srt (ms.drop k') = insM m (srt (ms.drop (k' + 1))) := by rw [hdrop]; rfl
      have hup := srt_up (ms.drop (k' + 1))
      obtain ⟨l, hlq⟩ : ∃ l, srt (ms.drop (k' + 1)) = l := ⟨_, rfl⟩
      rw [hlq] at hix hsrt hup
      have c0 := (hel k' m hm).1
      obtain ⟨L, hL⟩ : ∃ L, ix.length = L := ⟨_, rfl⟩
      have hLl : l.length = L := by rw [← hix.1, hL]
      have hLn : L ≤ 4096 := by
        have := srt_len (ms.drop (k' + 1))
        rw [hlq, hLl, List.length_drop, hn.out] at this; omega
      rw [hL] at hown
      obtain ⟨s3, cap3, rfl⟩ := own_slice hown
      have hkk : (k' : Int) < n := by omega
      have yb : b < wr.heap.size := by omega
      -- the motion that the j-th number tells
      have hnode : ∀ j, j < L → ∃ (x : Mo) (i : Nat), l[j]? = some x ∧ (ix.map vN)[j]? = some (.int .i64 (i : Int)) ∧ i < n ∧ w.cell? ⟨b, o + i * 8, none⟩ = some (.int .i64 x.node) := by
        intro j hj
        obtain ⟨i, e1, e2⟩ := hix.2 j _ (List.getElem?_eq_getElem (by omega))
        refine ⟨_, i, List.getElem?_eq_getElem (by omega), by simp [e1, vN], ?_, (hel i _ e2).1⟩
        have := (List.getElem?_eq_some_iff.1 e2).1
        rw [← hn.out]; exact this
      have hcells := fun h0 => own_open hown h0
      replace hcells := Lib.hid hcells
      replace hnode := Lib.hid hnode
      replace hown := Lib.hid hown
      replace hdrop := Lib.hid hdrop
      replace hsrt := Lib.hid hsrt
      replace hlq := Lib.hid hlq
      replace hL := Lib.hid hL
      replace hLl := Lib.hid hLl
      replace hel := Lib.hid hel
      obtain ⟨wo, rfl⟩ : ∃ wo : World, wo = wr := ⟨_, rfl⟩
      obtain ⟨hcr, hfr⟩ := bcell hbr
      go_wp2
      go_loopw [5] (fun av wr => ∃ a : Nat, a ≤ L ∧ av = .int .i64 a ∧ (∀ j x, j < a → l[j]? = some x → x.node < m.node) ∧ Below wo.heap.size wo wr) (fun av _ => L - (intOf av).toNat)
      case atStart => exact ⟨0, Nat.zero_le _, rfl, fun _ _ h => absurd h (Nat.not_lt_zero _), Below.refl _ _⟩
      case round =>
        obtain ⟨a, ha, rfl, hlow, hbi⟩ := hrel
        have zi := hbi.size
        obtain ⟨hci, hfi⟩ := bcell hbi
        replace hlow := Lib.hid hlow
        by_cases haL : a < L
        · obtain ⟨g, cap4, e, hg1, hg2, hg3, hg4, hcl⟩ := hcells.out (by omega)
          simp at e
          obtain ⟨rfl, rfl⟩ := e
          obtain ⟨x, i, ex, ei, hin, ci⟩ := hnode.out a haL
          have c1 := (hcl a _ ei).1
          have haa : (a : Int) < L := by omega
          have hii : (i : Int) < n := by omega
          have yg : g < wr.heap.size := by omega
          have ybr : b < wr.heap.size := by omega
          have g1 : decide (a < L) = true := by simpa using haL
          have g2 : decide ((a : Int) < L) = true := by simpa using haa
          clear ei
          by_cases hlt : x.node < m.node
          · have g3 : decide (x.node < m.node) = true := by simpa using hlt
            replace ex := Lib.hid ex
            go_wp2
            refine wp_region_steady (Held wr 0 []) (by kernel_rfl) (by kernel_rfl) ⟨(by repeat (first | exact Below.refl _ _ | assumption | refine Below.drew ?_ | refine Below.alloc ?_ (by (try simp) <;> omega) _ | refine Below.setCell ?_ (by (try simp) <;> omega) _ | (refine Below.trans ?_ (Below.mono (by assumption) (by (try simp) <;> omega))))), (by (try simp) <;> omega), (by first | exact trivial | (simp only [Cells]; go_simp))⟩ ?_
            repeat (first | (refine' wpSteady_do _ _ _; rotate_left; (focus rfl); (focus (intro w1 hS R hR; have hc := hS.cells; simp only [Cells] at hc; obtain ⟨hco, hfo⟩ := bcell hS.old; go_simp; (try go_bits); first | exact hR _ hS | fail)); simp only [Act.put, List.setIfInBounds_toArray, List.set_cons_zero, List.set_cons_succ]) | (refine wpSteady_pass ?_ ?_; (focus rfl); simp only [Act.put, List.setIfInBounds_toArray, List.set_cons_zero, List.set_cons_succ]))
            refine wpSteady_nil (fun uA hSA => ?_)
            have hcA := hSA.cells; have hbA := hSA.old; have hzA := hSA.size; clear hSA; simp only [Cells] at hcA; obtain ⟨hcoA, hfoA⟩ := bcell hbA
            go_wp2
            go_roundw
            case rel =>
              refine ⟨a + 1, by omega, by go_num, fun j y hj hy => ?_, hbi.trans (hbA.mono zi)⟩
              rcases Nat.lt_succ_iff_lt_or_eq.1 hj with hj | rfl
              · exact hlow.out j y hj hy
              · rw [ex.out] at hy; obtain rfl := Option.some.inj hy; exact hlt
            case measure => simp [intOf]; omega
          · have g3 : decide (x.node < m.node) = false := by simpa using hlt
            by_cases heq : x.node = m.node
            · have hins := insM_has m l a x hlow.out ex heq
              replace hins := Lib.hid hins
              replace ex := Lib.hid ex
              rw [heq] at ci g3
              replace heq := Lib.hid heq
              clear hlt
              go_wp2
              refine wp_region_steady (Held wr 0 []) (by kernel_rfl) (by kernel_rfl) ⟨(by repeat (first | exact Below.refl _ _ | assumption | refine Below.drew ?_ | refine Below.alloc ?_ (by (try simp) <;> omega) _ | refine Below.setCell ?_ (by (try simp) <;> omega) _ | (refine Below.trans ?_ (Below.mono (by assumption) (by (try simp) <;> omega))))), (by (try simp) <;> omega), (by first | exact trivial | (simp only [Cells]; go_simp))⟩ ?_
              repeat (first | (refine' wpSteady_do _ _ _; rotate_left; (focus rfl); (focus (intro w1 hS R hR; have hc := hS.cells; simp only [Cells] at hc; obtain ⟨hco, hfo⟩ := bcell hS.old; go_simp; (try go_bits); first | exact hR _ hS | fail)); simp only [Act.put, List.setIfInBounds_toArray, List.set_cons_zero, List.set_cons_succ]) | (refine wpSteady_pass ?_ ?_; (focus rfl); simp only [Act.put, List.setIfInBounds_toArray, List.set_cons_zero, List.set_cons_succ]))
              refine wpSteady_nil (fun uA hSA => ?_)
              have hcA := hSA.cells; have hbA := hSA.old; have hzA := hSA.size; clear hSA; simp only [Cells] at hcA; obtain ⟨hcoA, hfoA⟩ := bcell hbA
              have y1 : g < uA.heap.size := by omega
              have y2 : b < uA.heap.size := by omega
              clear hcA
              go_wp2
              refine wp_region_steady (Held uA 0 []) (by kernel_rfl) (by kernel_rfl) ⟨(by repeat (first | exact Below.refl _ _ | assumption | refine Below.drew ?_ | refine Below.alloc ?_ (by (try simp) <;> omega) _ | refine Below.setCell ?_ (by (try simp) <;> omega) _ | (refine Below.trans ?_ (Below.mono (by assumption) (by (try simp) <;> omega))))), (by (try simp) <;> omega), (by first | exact trivial | (simp only [Cells]; go_simp))⟩ ?_
              repeat (first | (refine' wpSteady_do _ _ _; rotate_left; (focus rfl); (focus (intro w1 hS R hR; have hc := hS.cells; simp only [Cells] at hc; obtain ⟨hco, hfo⟩ := bcell hS.old; go_simp; (try go_bits); first | exact hR _ hS | fail)); simp only [Act.put, List.setIfInBounds_toArray, List.set_cons_zero, List.set_cons_succ]) | (refine wpSteady_pass ?_ ?_; (focus rfl); simp only [Act.put, List.setIfInBounds_toArray, List.set_cons_zero, List.set_cons_succ]))
              refine wpSteady_nil (fun uD hSD => ?_)
              have hcD := hSD.cells; have hbD := hSD.old; have hzD := hSD.size; clear hSD; simp only [Cells] at hcD; obtain ⟨hcoD, hfoD⟩ := bcell hbD
              go_wp2
              go_roundw
              case rel =>
                refine ⟨k', ix, by omega, rfl, by rw [hsrt.out, hins.out]; exact hix, ?_, (hbr.trans (hbi.mono zr)).trans ((hbA.trans (hbD.mono hbA.size)).mono (by omega))⟩
                rw [hL.out]
                exact ownsRow_below (ownsRow_below (ownsRow_below hown.out hbi (Nat.le_refl _)) hbA (Nat.le_refl _)) hbD (Nat.le_refl _)
              case measure => first | (simp [intOf]; done) | (simp [intOf]; omega)
            · have hgt : m.node < x.node := by omega
              have hins := insM_eq m l a hlow.out (fun y hy => by rw [ex] at hy; obtain rfl := Option.some.inj hy; exact hgt) (by have := hLl.out; omega)
              have g4 : (x.node == m.node) = false := by simpa using heq
              replace hins := Lib.hid hins
              replace ex := Lib.hid ex
              clear hlt heq
              go_wp2
              refine wp_region_steady (Held wr 0 []) (by kernel_rfl) (by kernel_rfl) ⟨(by repeat (first | exact Below.refl _ _ | assumption | refine Below.drew ?_ | refine Below.alloc ?_ (by (try simp) <;> omega) _ | refine Below.setCell ?_ (by (try simp) <;> omega) _ | (refine Below.trans ?_ (Below.mono (by assumption) (by (try simp) <;> omega))))), (by (try simp) <;> omega), (by first | exact trivial | (simp only [Cells]; go_simp))⟩ ?_
              repeat (first | (refine' wpSteady_do _ _ _; rotate_left; (focus rfl); (focus (intro w1 hS R hR; have hc := hS.cells; simp only [Cells] at hc; obtain ⟨hco, hfo⟩ := bcell hS.old; go_simp; (try go_bits); first | exact hR _ hS | fail)); simp only [Act.put, List.setIfInBounds_toArray, List.set_cons_zero, List.set_cons_succ]) | (refine wpSteady_pass ?_ ?_; (focus rfl); simp only [Act.put, List.setIfInBounds_toArray, List.set_cons_zero, List.set_cons_succ]))
              refine wpSteady_nil (fun uA hSA => ?_)
              have hcA := hSA.cells; have hbA := hSA.old; have hzA := hSA.size; clear hSA; simp only [Cells] at hcA; obtain ⟨hcoA, hfoA⟩ := bcell hbA
              have y1 : g < uA.heap.size := by omega
              have y2 : b < uA.heap.size := by omega
              clear hcA
              go_wp2
              refine wp_region_steady (Held uA 0 []) (by kernel_rfl) (by kernel_rfl) ⟨(by repeat (first | exact Below.refl _ _ | assumption | refine Below.drew ?_ | refine Below.alloc ?_ (by (try simp) <;> omega) _ | refine Below.setCell ?_ (by (try simp) <;> omega) _ | (refine Below.trans ?_ (Below.mono (by assumption) (by (try simp) <;> omega))))), (by (try simp) <;> omega), (by first | exact trivial | (simp only [Cells]; go_simp))⟩ ?_
              repeat (first | (refine' wpSteady_do _ _ _; rotate_left; (focus rfl); (focus (intro w1 hS R hR; have hc := hS.cells; simp only [Cells] at hc; obtain ⟨hco, hfo⟩ := bcell hS.old; go_simp; (try go_bits); first | exact hR _ hS | fail)); simp only [Act.put, List.setIfInBounds_toArray, List.set_cons_zero, List.set_cons_succ]) | (refine wpSteady_pass ?_ ?_; (focus rfl); simp only [Act.put, List.setIfInBounds_toArray, List.set_cons_zero, List.set_cons_succ]))
              refine wpSteady_nil (fun uD hSD => ?_)
              have hcD := hSD.cells; have hbD := hSD.old; have hzD := hSD.size; clear hSD; simp only [Cells] at hcD; obtain ⟨hcoD, hfoD⟩ := bcell hbD
              have hownD := ownsRow_below (ownsRow_below (ownsRow_below hown.out hbi (Nat.le_refl _)) hbA (Nat.le_refl _)) hbD (Nat.le_refl _)
              have hbrD : Below w.heap.size w uD := (hbr.trans (hbi.mono zr)).trans ((hbA.trans (hbD.mono hbA.size)).mono (by omega))
              have zD := hbrD.size
              clear hcoA hfoA hcD hcoD hfoD hci hfi hcr hfr c0 c1 ci y1 y2 yg ybr yb hbA hbD hzA hzD
              go_wp2_with (at_builtin; refine wpList_append_new rfl _ _ _ rfl w.heap.size 3 iI _ 1 8 Try.underlying36 hi0 hz0 hz1 hz2 rfl (by omega) uD 1 _ _ _ _ (by rfl) hownD (by rfl) rfl (by simp [Value.oneCell']) (by omega) (by unfold maxLen; omega) zD ?_; intro v6 w6 hown6 hb6)
              rcases hown6.2 with ⟨_, h⟩ | ⟨g6, cap6, cur6, rfl, hg6, hh6, hn6, hm6, hs6, ht6⟩
              · exact absurd h (by omega)
              have hb6r : Below w.heap.size w w6 := hbrD.trans hb6
              have gl6 := Go.lt_of_block hh6
              have hn6i : (L : Int) + 1 ≤ cap6 := by omega
              clear hown6 hownD hb6 hbrD zD
              unfold maxLen at hm6
              have q1 : (a : Int) ≤ (L : Int) + 1 := by omega
              have q2 : (a : Int) + 1 ≤ (L : Int) + 1 := by omega
              have q3 : ¬ cap6 = a := by omega
              by_cases hac : a + 1 < cap6
              · have haci : (a : Int) + 1 < cap6 := by omega
                have q4 : ¬ cap6 = a + 1 := by omega
                refine wp_region_steady_then (Held w6 0 []) 7 (by kernel_rfl) (by kernel_rfl) (by decide) (by kernel_rfl) (by kernel_rfl) ⟨(by repeat (first | exact Below.refl _ _ | assumption | refine Below.drew ?_ | refine Below.alloc ?_ (by (try simp) <;> omega) _ | refine Below.setCell ?_ (by (try simp) <;> omega) _ | (refine Below.trans ?_ (Below.mono (by assumption) (by (try simp) <;> omega))))), (by (try simp) <;> omega), (by first | exact trivial | (simp only [Cells]; go_simp))⟩ ?_
                simp only [List.take_succ_cons, List.take_zero]
                repeat (first | (refine' wpSteady_do _ _ _; rotate_left; (focus rfl); (focus (intro w1 hS R hR; have hc := hS.cells; simp only [Cells] at hc; obtain ⟨hco, hfo⟩ := bcell hS.old; go_simp; (try go_bits); first | exact hR _ hS | fail)); simp only [Act.put, List.setIfInBounds_toArray, List.set_cons_zero, List.set_cons_succ]) | (refine wpSteady_pass ?_ ?_; (focus rfl); simp only [Act.put, List.setIfInBounds_toArray, List.set_cons_zero, List.set_cons_succ]))
                refine wpSteady_nil (fun uE hSE => ?_)
                have hcE := hSE.cells; have hbE := hSE.old; have hzE := hSE.size; clear hSE; simp only [Cells] at hcE; obtain ⟨hcoE, hfoE⟩ := bcell hbE
                simp only [List.drop_succ_cons, List.drop_zero, List.drop_nil]
                have hhE := (hbE.block g6 gl6).trans hh6
                have hbrE : Below w.heap.size w uE := hb6r.trans (hbE.mono hb6r.size)
                refine wpList_copy_splice rfl _ _ _ _ rfl 3 Try.underlying36 (by kernel_rfl) _ _ _ _ _ _ (by rfl) (by rfl) g6 (a + 1) cur6.toList 3 (by simpa using hhE) ((ix.map vN).drop a) (by have := hL.out; simp [Nat.min_def]; (try split) <;> omega) (fun h0 => ⟨rfl, ⟨g6, a, none⟩, rfl, fun j v hj => by
                                  rw [show (⟨g6, a, none⟩ : Addr).add j = ⟨g6, a + j, none⟩ by (unfold Addr.add; split <;> simp_all)]
                                  rw [List.getElem?_drop] at hj
                                  have hjl := (List.getElem?_eq_some_iff.1 hj).1
                                  have e1 : (cur6.toList.take ((L + 1) * 1))[a + j]? = some v := by rw [ht6, List.getElem?_append_left hjl]; exact hj
                                  rw [List.getElem?_take_of_lt (by have := hL.out; simp at hjl; omega)] at e1
                                  simp only [World.cell?, hhE]
                                  simpa using e1⟩) (by have := hL.out; simp; omega) (fun v hv => by obtain ⟨i, _, rfl⟩ := List.mem_map.1 (List.mem_of_mem_drop hv); rfl) w.heap.size w hbrE hg6 ?_
                intro w7 hh7 hb7
                have hh7' := hh7.out
                have hl7 : a < (splice cur6.toList (a + 1) ((ix.map vN).drop a)).length := by rw [length_splice _ _ _ (by have := hL.out; simp; omega)]; simp; omega
                have c7 : w7.cell? ⟨g6, a, none⟩ = some ((splice cur6.toList (a + 1) ((ix.map vN).drop a))[a]'hl7) := by
                  simp only [World.cell?, hh7']
                  simp [List.getElem?_eq_getElem hl7]
                have f7 : w7.frozen? ⟨g6, a, none⟩ = false := by simp [World.frozen?, hh7']
                have haL1 : (a : Int) < (L : Int) + 1 := by have := hL.out; omega
                obtain ⟨z7, hz7⟩ : ∃ z7, (splice cur6.toList (a + 1) ((ix.map vN).drop a))[a]'hl7 = z7 := ⟨_, rfl⟩
                rw [hz7] at c7
                clear hz7 hl7 hcE hcoE hfoE hhE hzE hh7'
                replace hh6 := Lib.hid hh6
                replace ht6 := Lib.hid ht6
                replace hs6 := Lib.hid hs6
                go_wp2
                go_roundw
                case rel =>
                  refine ⟨k', ix.take a ++ k' :: ix.drop a, by omega, rfl, by rw [hsrt.out, hins.out]; exact hix.ins k' m hm a (by have := hLl.out; omega), ?_, hb7.setCell (by simpa using hg6) _⟩
                  have h := own_ins (k := k') (base := w.heap.size) hh7.out hg6 hn6 hm6 hs6.out ht6.out hL.out (by have := hL.out; omega)
                  have e : (ix.take a ++ k' :: ix.drop a).length = L + 1 := by have := hL.out; simp; omega
                  rw [e]
                  exact h
                case measure => first | (simp [intOf]; done) | (simp [intOf]; omega)
              · (exfalso; omega)
        · have haE : a = L := by omega
          have hins := insM_eq m l a hlow.out (fun y hy => by rw [List.getElem?_eq_none (by have := hLl.out; omega)] at hy; cases hy) (by have := hLl.out; omega)
          have g1 : decide (a < L) = false := by simp; omega
          have g2 : decide ((a : Int) < L) = false := by simp; omega
          replace haE := Lib.hid haE
          replace hins := Lib.hid hins
          go_wp2
          refine wp_region_steady (Held wr 0 []) (by kernel_rfl) (by kernel_rfl) ⟨(by repeat (first | exact Below.refl _ _ | assumption | refine Below.drew ?_ | refine Below.alloc ?_ (by (try simp) <;> omega) _ | refine Below.setCell ?_ (by (try simp) <;> omega) _ | (refine Below.trans ?_ (Below.mono (by assumption) (by (try simp) <;> omega))))), (by (try simp) <;> omega), (by first | exact trivial | (simp only [Cells]; go_simp))⟩ ?_
          repeat (first | (refine' wpSteady_do _ _ _; rotate_left; (focus rfl); (focus (intro w1 hS R hR; have hc := hS.cells; simp only [Cells] at hc; obtain ⟨hco, hfo⟩ := bcell hS.old; go_simp; (try go_bits); first | exact hR _ hS | fail)); simp only [Act.put, List.setIfInBounds_toArray, List.set_cons_zero, List.set_cons_succ]) | (refine wpSteady_pass ?_ ?_; (focus rfl); simp only [Act.put, List.setIfInBounds_toArray, List.set_cons_zero, List.set_cons_succ]))
          refine wpSteady_nil (fun uA hSA => ?_)
          have hcA := hSA.cells; have hbA := hSA.old; have hzA := hSA.size; clear hSA; simp only [Cells] at hcA; obtain ⟨hcoA, hfoA⟩ := bcell hbA
          clear hcA
          go_wp2
          refine wp_region_steady (Held uA 0 []) (by kernel_rfl) (by kernel_rfl) ⟨(by repeat (first | exact Below.refl _ _ | assumption | refine Below.drew ?_ | refine Below.alloc ?_ (by (try simp) <;> omega) _ | refine Below.setCell ?_ (by (try simp) <;> omega) _ | (refine Below.trans ?_ (Below.mono (by assumption) (by (try simp) <;> omega))))), (by (try simp) <;> omega), (by first | exact trivial | (simp only [Cells]; go_simp))⟩ ?_
          repeat (first | (refine' wpSteady_do _ _ _; rotate_left; (focus rfl); (focus (intro w1 hS R hR; have hc := hS.cells; simp only [Cells] at hc; obtain ⟨hco, hfo⟩ := bcell hS.old; go_simp; (try go_bits); first | exact hR _ hS | fail)); simp only [Act.put, List.setIfInBounds_toArray, List.set_cons_zero, List.set_cons_succ]) | (refine wpSteady_pass ?_ ?_; (focus rfl); simp only [Act.put, List.setIfInBounds_toArray, List.set_cons_zero, List.set_cons_succ]))
          refine wpSteady_nil (fun uD hSD => ?_)
          have hcD := hSD.cells; have hbD := hSD.old; have hzD := hSD.size; clear hSD; simp only [Cells] at hcD; obtain ⟨hcoD, hfoD⟩ := bcell hbD
          have hownD := ownsRow_below (ownsRow_below (ownsRow_below hown.out hbi (Nat.le_refl _)) hbA (Nat.le_refl _)) hbD (Nat.le_refl _)
          have hbrD : Below w.heap.size w uD := (hbr.trans (hbi.mono zr)).trans ((hbA.trans (hbD.mono hbA.size)).mono (by omega))
          have zD := hbrD.size
          clear hcoA hfoA hcD hcoD hfoD hci hfi hcr hfr c0 yb hbA hbD hzA hzD
          go_wp2_with (at_builtin; refine wpList_append_new rfl _ _ _ rfl w.heap.size 3 iI _ 1 8 Try.underlying36 hi0 hz0 hz1 hz2 rfl (by omega) uD 1 _ _ _ _ (by rfl) hownD (by rfl) rfl (by simp [Value.oneCell']) (by omega) (by unfold maxLen; omega) zD ?_; intro v6 w6 hown6 hb6)
          rcases hown6.2 with ⟨_, h⟩ | ⟨g6, cap6, cur6, rfl, hg6, hh6, hn6, hm6, hs6, ht6⟩
          · exact absurd h (by omega)
          have hb6r : Below w.heap.size w w6 := hbrD.trans hb6
          have gl6 := Go.lt_of_block hh6
          have hn6i : (L : Int) + 1 ≤ cap6 := by omega
          clear hown6 hownD hb6 hbrD zD
          unfold maxLen at hm6
          have q1 : (a : Int) ≤ (L : Int) + 1 := by omega
          have q2 : (a : Int) + 1 ≤ (L : Int) + 1 := by omega
          have q3 : ¬ cap6 = a := by omega
          by_cases hac : a + 1 < cap6
          · have haci : (a : Int) + 1 < cap6 := by omega
            have q4 : ¬ cap6 = a + 1 := by omega
            refine wp_region_steady_then (Held w6 0 []) 7 (by kernel_rfl) (by kernel_rfl) (by decide) (by kernel_rfl) (by kernel_rfl) ⟨(by repeat (first | exact Below.refl _ _ | assumption | refine Below.drew ?_ | refine Below.alloc ?_ (by (try simp) <;> omega) _ | refine Below.setCell ?_ (by (try simp) <;> omega) _ | (refine Below.trans ?_ (Below.mono (by assumption) (by (try simp) <;> omega))))), (by (try simp) <;> omega), (by first | exact trivial | (simp only [Cells]; go_simp))⟩ ?_
            simp only [List.take_succ_cons, List.take_zero]
            repeat (first | (refine' wpSteady_do _ _ _; rotate_left; (focus rfl); (focus (intro w1 hS R hR; have hc := hS.cells; simp only [Cells] at hc; obtain ⟨hco, hfo⟩ := bcell hS.old; go_simp; (try go_bits); first | exact hR _ hS | fail)); simp only [Act.put, List.setIfInBounds_toArray, List.set_cons_zero, List.set_cons_succ]) | (refine wpSteady_pass ?_ ?_; (focus rfl); simp only [Act.put, List.setIfInBounds_toArray, List.set_cons_zero, List.set_cons_succ]))
            refine wpSteady_nil (fun uE hSE => ?_)
            have hcE := hSE.cells; have hbE := hSE.old; have hzE := hSE.size; clear hSE; simp only [Cells] at hcE; obtain ⟨hcoE, hfoE⟩ := bcell hbE
            simp only [List.drop_succ_cons, List.drop_zero, List.drop_nil]
            have hhE := (hbE.block g6 gl6).trans hh6
            have hbrE : Below w.heap.size w uE := hb6r.trans (hbE.mono hb6r.size)
            refine wpList_copy_splice rfl _ _ _ _ rfl 3 Try.underlying36 (by kernel_rfl) _ _ _ _ _ _ (by rfl) (by rfl) g6 (a + 1) cur6.toList 3 (by simpa using hhE) ((ix.map vN).drop a) (by have := hL.out; simp [Nat.min_def]; (try split) <;> omega) (fun h0 => ⟨rfl, ⟨g6, a, none⟩, rfl, fun j v hj => by
                          rw [show (⟨g6, a, none⟩ : Addr).add j = ⟨g6, a + j, none⟩ by (unfold Addr.add; split <;> simp_all)]
                          rw [List.getElem?_drop] at hj
                          have hjl := (List.getElem?_eq_some_iff.1 hj).1
                          have e1 : (cur6.toList.take ((L + 1) * 1))[a + j]? = some v := by rw [ht6, List.getElem?_append_left hjl]; exact hj
                          rw [List.getElem?_take_of_lt (by have := hL.out; simp at hjl; omega)] at e1
                          simp only [World.cell?, hhE]
                          simpa using e1⟩) (by have := hL.out; simp; omega) (fun v hv => by obtain ⟨i, _, rfl⟩ := List.mem_map.1 (List.mem_of_mem_drop hv); rfl) w.heap.size w hbrE hg6 ?_
            intro w7 hh7 hb7
            have hh7' := hh7.out
            have hl7 : a < (splice cur6.toList (a + 1) ((ix.map vN).drop a)).length := by rw [length_splice _ _ _ (by have := hL.out; simp; omega)]; simp; omega
            have c7 : w7.cell? ⟨g6, a, none⟩ = some ((splice cur6.toList (a + 1) ((ix.map vN).drop a))[a]'hl7) := by
              simp only [World.cell?, hh7']
              simp [List.getElem?_eq_getElem hl7]
            have f7 : w7.frozen? ⟨g6, a, none⟩ = false := by simp [World.frozen?, hh7']
            have haL1 : (a : Int) < (L : Int) + 1 := by have := hL.out; omega
            obtain ⟨z7, hz7⟩ : ∃ z7, (splice cur6.toList (a + 1) ((ix.map vN).drop a))[a]'hl7 = z7 := ⟨_, rfl⟩
            rw [hz7] at c7
            clear hz7 hl7 hcE hcoE hfoE hhE hzE hh7'
            replace hh6 := Lib.hid hh6
            replace ht6 := Lib.hid ht6
            replace hs6 := Lib.hid hs6
            go_wp2
            go_roundw
            case rel =>
              refine ⟨k', ix.take a ++ k' :: ix.drop a, by omega, rfl, by rw [hsrt.out, hins.out]; exact hix.ins k' m hm a (by have := hLl.out; omega), ?_, hb7.setCell (by simpa using hg6) _⟩
              have h := own_ins (k := k') (base := w.heap.size) hh7.out hg6 hn6 hm6 hs6.out ht6.out hL.out (by have := hL.out; omega)
              have e : (ix.take a ++ k' :: ix.drop a).length = L + 1 := by have := hL.out; simp; omega
              rw [e]
              exact h
            case measure => first | (simp [intOf]; done) | (simp [intOf]; omega)
          · obtain rfl : cap6 = a + 1 := by omega
            refine wp_region_steady_then (Held w6 0 []) 7 (by kernel_rfl) (by kernel_rfl) (by decide) (by kernel_rfl) (by kernel_rfl) ⟨(by repeat (first | exact Below.refl _ _ | assumption | refine Below.drew ?_ | refine Below.alloc ?_ (by (try simp) <;> omega) _ | refine Below.setCell ?_ (by (try simp) <;> omega) _ | (refine Below.trans ?_ (Below.mono (by assumption) (by (try simp) <;> omega))))), (by (try simp) <;> omega), (by first | exact trivial | (simp only [Cells]; go_simp))⟩ ?_
            simp only [List.take_succ_cons, List.take_zero]
            repeat (first | (refine' wpSteady_do _ _ _; rotate_left; (focus rfl); (focus (intro w1 hS R hR; have hc := hS.cells; simp only [Cells] at hc; obtain ⟨hco, hfo⟩ := bcell hS.old; go_simp; (try go_bits); first | exact hR _ hS | fail)); simp only [Act.put, List.setIfInBounds_toArray, List.set_cons_zero, List.set_cons_succ]) | (refine wpSteady_pass ?_ ?_; (focus rfl); simp only [Act.put, List.setIfInBounds_toArray, List.set_cons_zero, List.set_cons_succ]))
            refine wpSteady_nil (fun uE hSE => ?_)
            have hcE := hSE.cells; have hbE := hSE.old; have hzE := hSE.size; clear hSE; simp only [Cells] at hcE; obtain ⟨hcoE, hfoE⟩ := bcell hbE
            simp only [List.drop_succ_cons, List.drop_zero, List.drop_nil]
            have hhE := (hbE.block g6 gl6).trans hh6
            have hbrE : Below w.heap.size w uE := hb6r.trans (hbE.mono hb6r.size)
            refine wpList_copy_splice rfl _ _ _ _ rfl 3 Try.underlying36 (by kernel_rfl) _ _ _ _ _ _ (by rfl) (by rfl) g6 (a + 1) cur6.toList 3 (by simpa using hhE) ((ix.map vN).drop a) (by have := hL.out; simp [Nat.min_def]; (try split) <;> omega) (fun h0 => by exfalso; have := hL.out; simp at h0; omega) (by have := hL.out; simp; omega) (fun v hv => by obtain ⟨i, _, rfl⟩ := List.mem_map.1 (List.mem_of_mem_drop hv); rfl) w.heap.size w hbrE hg6 ?_
            intro w7 hh7 hb7
            have hh7' := hh7.out
            have hl7 : a < (splice cur6.toList (a + 1) ((ix.map vN).drop a)).length := by rw [length_splice _ _ _ (by have := hL.out; simp; omega)]; simp; omega
            have c7 : w7.cell? ⟨g6, a, none⟩ = some ((splice cur6.toList (a + 1) ((ix.map vN).drop a))[a]'hl7) := by
              simp only [World.cell?, hh7']
              simp [List.getElem?_eq_getElem hl7]
            have f7 : w7.frozen? ⟨g6, a, none⟩ = false := by simp [World.frozen?, hh7']
            have haL1 : (a : Int) < (L : Int) + 1 := by have := hL.out; omega
            obtain ⟨z7, hz7⟩ : ∃ z7, (splice cur6.toList (a + 1) ((ix.map vN).drop a))[a]'hl7 = z7 := ⟨_, rfl⟩
            rw [hz7] at c7
            clear hz7 hl7 hcE hcoE hfoE hhE hzE hh7'
            replace hh6 := Lib.hid hh6
            replace ht6 := Lib.hid ht6
            replace hs6 := Lib.hid hs6
            go_wp2
            go_roundw
            case rel =>
              refine ⟨k', ix.take a ++ k' :: ix.drop a, by omega, rfl, by rw [hsrt.out, hins.out]; exact hix.ins k' m hm a (by have := hLl.out; omega), ?_, hb7.setCell (by simpa using hg6) _⟩
              have h := own_ins (k := k') (base := w.heap.size) hh7.out hg6 hn6 hm6 hs6.out ht6.out hL.out (by have := hL.out; omega)
              have e : (ix.take a ++ k' :: ix.drop a).length = L + 1 := by have := hL.out; simp; omega
              rw [e]
              exact h
            case measure => first | (simp [intOf]; done) | (simp [intOf]; omega)
    · obtain rfl : k = 0 := by omega
      rw [List.drop_zero] at hix
      replace hix := Lib.hid hix
      replace hown := Lib.hid hown
      go_wp2
      go_ret
      exact ⟨hbr, ix, _, rfl, hix.out, hown.out⟩
end Go.Proofs.Ytblneabjdbllbaa
