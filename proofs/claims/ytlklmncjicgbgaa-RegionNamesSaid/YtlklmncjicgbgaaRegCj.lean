/-
  'lent', 'kept', 'over', 'work' of the law.
-/
import Derived.Test.YtlklmncjicgbgaaRegCi
import Derived.ArgAppend
namespace Go.Proofs.Ytlklmncjicgbgaa
open Go.RowKit
set_option linter.unusedVariables false
attribute [local go_sem] vwp vUpon_value vUpon_skip vUpon_enter vUpon_row
set_option linter.unusedSimpArgs false
set_option linter.unusedVariables false
def mkR : Re := ⟨777, 0, 0, 0⟩
def LentPost (xs : List Re) (n : Nat) (w : World) (e : Ending) (w' : World) : Prop := ∃ g cap, e = .returned (.slice (some ⟨g, 0, none⟩) n cap) ∧ OwnsR w.heap.size w' (.slice (some ⟨g, 0, none⟩) (n + 1) cap) (xs ++ [mkR]) ∧ Below w.heap.size w w'
set_option maxHeartbeats 1000000 in
set_option maxRecDepth 100000 in
theorem lent_any (xs : List Re) (v : Value) (n : Nat) (w : World) (hl : Row w.heap.size 4 Re.enc w v xs) (hm : xs.length ≤ 20000) (en : xs.length = n) : Calls Try.prog 10 #[v] w (LentPost xs n w) := by
  obtain ⟨iM, hi0, hm0, hm1, hm2⟩ := info_parts infoRe
  obtain ⟨s, cap, rfl, hmax⟩ := hl.shape
  have hnil : World.ownsRow w w.heap.size 49 4 (.slice none 0 0) 0 [] := World.ownsRow_nil _ _ _ _
  replace hl := Lib.hid hl
  go_enter Try.func10, Try.ntmps10
  go_wp2_with (first
    | (at_builtin; refine wpList_append_row rfl _ _ _ rfl w.heap.size 49 iM _ 4 32 Try.underlying22 hi0 hm0 hm1 hm2 rfl (by omega) w _ _ _ (by rfl) hnil Re.enc_len Re.enc_one w.heap.size _ xs hl.out (by rfl) (by unfold maxLen; omega) (by omega) (Nat.le_refl _) ?_; intro v3 w3 hown3 hgr3)
    | (have hb3 : Below w.heap.size w w3 := (Below.refl _ _).grown hgr3 (Nat.le_refl _) (fun k hk => by simp [Value.ownBlock] at hk); (at_builtin; refine wpList_append_new rfl _ _ _ rfl w.heap.size 49 iM _ 4 32 Try.underlying22 hi0 hm0 hm1 hm2 rfl (by omega) w3 1 _ _ _ _ (by rfl) hown3 (by rfl) rfl (by simp [Value.oneCell']) (by omega) (by unfold maxLen; omega) hgr3.size ?_; intro v4 w4 hown4 hb4); rw [Nat.zero_add, List.nil_append, flatR_snoc (t := mkR) (cs := [.int .i64 777, .int .i64 0, .int .i64 0, .int .i64 0]) rfl, en] at hown4; obtain ⟨s4, c4, rfl⟩ := own_slice hown4; obtain ⟨g, rfl, hg1, hg2⟩ := own_addr hown4 (by omega); obtain ⟨hc1, hc2⟩ := own_len hown4; have hi1 : (n : Int) ≤ n + 1 := (by omega); have hi2 : (n : Int) ≤ c4 := (by omega); unfold maxLen at hc2; replace hown4 := Lib.hid hown4)
    | go_in)
  have hb3 : Below w.heap.size w w3 := (Below.refl _ _).grown hgr3 (Nat.le_refl _) (fun k hk => by simp [Value.ownBlock] at hk)
  go_ret
  refine ⟨g, c4, rfl, ?_, hb3.trans hb4⟩
  unfold OwnsR
  rw [List.length_append, en]
  exact hown4.out
theorem row_cutR {B : Nat} {w : World} {s : Option Addr} {n m cap : Nat} {xs ys : List Re} (h : Row B 4 Re.enc w (.slice s m cap) (xs ++ ys)) (hn : xs.length = n) : Row B 4 Re.enc w (.slice s n cap) xs := by
  obtain ⟨s', cap', e, hl, hc, h⟩ := h
  injection e with e1 _ e2
  subst e1
  subst e2
  refine ⟨s, cap, by rw [hn], by rw [List.length_append] at hl; omega, hc, fun h0 => ?_⟩
  obtain ⟨b, o, hs, hlt, hx⟩ := h (by rw [List.length_append]; omega)
  refine ⟨b, o, hs, hlt, fun j x hj => hx j x ?_⟩
  rw [List.getElem?_append_left (List.getElem?_eq_some_iff.1 hj).1]
  exact hj
set_option maxHeartbeats 1000000 in
set_option maxRecDepth 100000 in
theorem kepts_any (xs : List Re) (g cap n B : Nat) (v2 : Value) (w : World) (hn : OwnsR B w (.slice (some ⟨g, 0, none⟩) (n + 1) cap) (xs ++ [mkR])) (hl : Row w.heap.size 4 Re.enc w v2 xs) (hm : xs.length ≤ 20000) (en : xs.length = n) : Calls Try.prog 21 #[.slice (some ⟨g, 0, none⟩) n cap, v2] w fun e w' => e = .returned (.bool true) ∧ Below w.heap.size w w' := by
  have hcut : Row w.heap.size 4 Re.enc w (.slice (some ⟨g, 0, none⟩) n cap) xs := row_cutR (hn.row (Nat.le_refl _)) en
  obtain ⟨s, cap2, rfl, hmax⟩ := hl.shape
  obtain ⟨g0, g1, g2, g3⟩ := own_rmem hn (k := n) (q := mkR) (by rw [List.getElem?_append_right (by omega), en, Nat.sub_self]; rfl)
  simp only [mkR] at g0 g1 g2 g3
  have hn' := hn
  unfold OwnsR at hn'
  rw [List.length_append, en] at hn'
  obtain ⟨hc1, hc2⟩ := own_len hn'
  (try simp only [List.length_cons, List.length_nil, Nat.zero_add] at hc1)
  have S := sameR_any xs xs _ _ w hcut hl (by omega) (by omega)
  rw [eqRs_refl] at S
  rw [en] at S hm ⊢
  clear hl hn hcut hn'
  replace S := Lib.hid S
  replace en := Lib.hid en
  have n1 : (n : Int) + 1 ≤ cap := by omega
  have n2 : (n : Int) < n + 1 := by omega
  unfold maxLen at hc2
  go_enter Try.func21, Try.ntmps21
  go_wp2_with (first
    | (go_at_call 51; (with_reducible refine (S.out).mono ?_); rintro e w3 ⟨rfl, hb3⟩; have hc3 := fun o => hb3.cell (p := ⟨g, o, none⟩) (World.block_lt_of_cell? w ⟨g, n * 4, none⟩ g0))
    | go_in)
  go_ret
  exact ⟨rfl, hb3⟩
def workB (l : List Re) : Bool := (decide (40 < l.length) && decide (l.length ≤ 1024)) || decide (3000 < l.length)
theorem work_any (xs : List Re) (v : Value) (w : World) (hl : Row w.heap.size 4 Re.enc w v xs) : Calls Try.prog 9 #[v] w fun e w' => e = .returned (.bool (workB xs)) ∧ Below w.heap.size w w' := by
  obtain ⟨s, cap, rfl, hmax⟩ := hl.shape
  unfold workB
  obtain ⟨n, en⟩ : ∃ n, xs.length = n := ⟨_, rfl⟩
  rw [en] at hmax ⊢
  unfold maxLen at hmax
  clear hl en
  by_cases c1 : (40 : Int) < n
  · by_cases c2 : (n : Int) ≤ 1024
    · rw [show (decide (40 < n) && decide (n ≤ 1024) || decide (3000 < n)) = true by simp; omega]
      go_enter Try.func9, Try.ntmps9
      go_wp2
      go_ret
      exact ⟨rfl, (by repeat (first | exact Below.refl _ _ | assumption | refine Below.drew ?_ | refine Below.alloc ?_ (by (try simp) <;> omega) _ | refine Below.setCell ?_ (by (try simp) <;> omega) _))⟩
    · by_cases c3 : (3000 : Int) < n
      · rw [show (decide (40 < n) && decide (n ≤ 1024) || decide (3000 < n)) = true by simp; omega]
        go_enter Try.func9, Try.ntmps9
        go_wp2
        go_ret
        exact ⟨rfl, (by repeat (first | exact Below.refl _ _ | assumption | refine Below.drew ?_ | refine Below.alloc ?_ (by (try simp) <;> omega) _ | refine Below.setCell ?_ (by (try simp) <;> omega) _))⟩
      · rw [show (decide (40 < n) && decide (n ≤ 1024) || decide (3000 < n)) = false by simp; omega]
        go_enter Try.func9, Try.ntmps9
        go_wp2
        go_ret
        exact ⟨rfl, (by repeat (first | exact Below.refl _ _ | assumption | refine Below.drew ?_ | refine Below.alloc ?_ (by (try simp) <;> omega) _ | refine Below.setCell ?_ (by (try simp) <;> omega) _))⟩
  · have c3 : ¬ (3000 : Int) < n := by omega
    rw [show (decide (40 < n) && decide (n ≤ 1024) || decide (3000 < n)) = false by simp; omega]
    go_enter Try.func9, Try.ntmps9
    go_wp2
    go_ret
    exact ⟨rfl, (by repeat (first | exact Below.refl _ _ | assumption | refine Below.drew ?_ | refine Below.alloc ?_ (by (try simp) <;> omega) _ | refine Below.setCell ?_ (by (try simp) <;> omega) _))⟩
/-- A list that is written over: its block, or a new one. -/
def Ovr (w wr : World) (vb : Option Nat) (v : Value) (n : Nat) : Prop :=
  (∃ s cap, v = .slice s n cap ∧ cap ≤ maxLen ∧ n ≤ cap ∧ ((s = none ∧ cap = 0) ∨ ∃ g cur, s = some ⟨g, 0, none⟩ ∧ wr.heap[g]? = some (.cells cur 49 (0, 0)) ∧ cap * 4 ≤ cur.size ∧ (vb = some g ∨ w.heap.size ≤ g))) ∧ w.grownBy wr vb
theorem Ovr.set {w wr : World} {vb : Option Nat} {g n cap : Nat} (h : Ovr w wr vb (.slice (some ⟨g, 0, none⟩) n cap) n) (o : Nat) (u : Value) : Ovr w (wr.setCell ⟨g, o, none⟩ u) vb (.slice (some ⟨g, 0, none⟩) n cap) n := by
  obtain ⟨⟨s, cap', e, hm, hn, h⟩, hg⟩ := h
  injection e with e1 _ e2
  subst e1
  subst e2
  rcases h with ⟨h, _⟩ | ⟨g', cur, e, hh, hs, hv⟩
  · cases h
  · injection e with e
    injection e with e _ _
    subst e
    refine ⟨⟨_, cap, rfl, hm, hn, .inr ⟨g, _, rfl, heap_setCell_same _ _ _ _ _ _ hh, by simpa using hs, hv⟩⟩, hg.os, hg.tape, hg.output, by simpa using hg.size, fun k hk hne => ?_⟩
    rw [heap_setCell_other _ _ _ _ (by
      rintro rfl
      rcases hv with hv | hv
      · exact hne hv.symm
      · omega)]
    exact hg.block k hk hne
theorem setCells_at {g : Nat} {t : TypeId} : ∀ (vs : List Value) (o : Nat) (w : World) (cur : Array Value), w.heap[g]? = some (.cells cur t (0, 0)) → (∃ cur', (w.setCells g o vs).heap[g]? = some (.cells cur' t (0, 0)) ∧ cur'.size = cur.size) ∧ w.grownBy (w.setCells g o vs) (some g)
  | [], _, w, cur, h => ⟨⟨cur, h, rfl⟩, grown_refl _ _⟩
  | v :: vs, o, w, cur, h => by
    obtain ⟨⟨cur', h1, h2⟩, h3⟩ := setCells_at vs (o + 1) (w.setCell ⟨g, o, none⟩ v) _ (heap_setCell_same _ _ _ _ _ _ h)
    refine ⟨⟨cur', h1, by rw [h2]; simp⟩, ?_⟩
    have hs := grown_set (grown_refl w (some g)) rfl o v
    exact ⟨h3.os.trans hs.os, h3.tape.trans hs.tape, h3.output.trans hs.output, Nat.le_trans hs.size h3.size, fun k hk hne => (h3.block k (Nat.lt_of_lt_of_le hk hs.size) hne).trans (hs.block k hk hne)⟩
theorem grown_two {w w1 w2 : World} {r r1 : Option Nat} (h1 : w.grownBy w1 r) (h2 : w1.grownBy w2 r1) (h : ∀ g, r1 = some g → r = some g ∨ w.heap.size ≤ g) : w.grownBy w2 r := by
  refine ⟨h2.os.trans h1.os, h2.tape.trans h1.tape, h2.output.trans h1.output, Nat.le_trans h1.size h2.size, fun k hk hne => ?_⟩
  rw [h2.block k (Nat.lt_of_lt_of_le hk h1.size) (by
    intro e
    rcases h k e.symm with h | h
    · exact hne h.symm
    · omega), h1.block k hk hne]
theorem ovr_own {w w1 w2 : World} {vb : Option Nat} {B n : Nat} {v : Value} {cs : List Value} (h1 : w.grownBy w1 vb) (h2 : w1.grownBy w2 none) (hB : w.heap.size ≤ B) (ho : w2.ownsRow B 49 4 v (n + 1) cs) : Ovr w w2 vb v (n + 1) := by
  refine ⟨?_, grown_two h1 h2 (fun g h => by cases h)⟩
  rcases ho.2 with ⟨_, h0⟩ | ⟨g, cap, cur, rfl, hg, hh, hnc, hcm, hcur, _⟩
  · omega
  · exact ⟨_, cap, rfl, hcm, hnc, .inr ⟨g, cur, rfl, hh, by rw [hcur]; exact Nat.le_refl _, .inr (by omega)⟩⟩
theorem wpList_append_ovr {ops : Array Oper} {rest : List Oper} {o : Oper} {a : Act} {Q : Exit → Act → World → Prop} (hgd : o.guard = none) (s x : Operand)
    (ho : o.op = .call { callee := .builtin .append, args := #[s, x], argTypes := #[22, 22] })
    (w0 w : World) (us : List Value) (vb : Option Nat) (v : Value) (n : Nat) (hs : a.eval s = v) (hv : Ovr w0 w vb v n) (hn : n ≤ 100000)
    (hx : a.eval x = .slice (some ⟨w.heap.size, 0, none⟩) 1 1) (hl : us.length = 4) (h1 : ∀ u ∈ us, u.oneCell' = true)
    (h : ∀ v' w', Ovr w0 w' vb v' (n + 1) → wpList Try.prog ops Q rest (a.put o.dst v') w') :
    wpList Try.prog ops Q (o :: rest) a (w.alloc (.cells us.toArray 49)) := by
  obtain ⟨iM, hi0, hm0, hm1, hm2⟩ := info_parts infoRe
  obtain ⟨⟨s0, cap, rfl, hcm, hnc, hc⟩, hg⟩ := hv
  have hal : w.grownBy (w.alloc (.cells us.toArray 49)) none := World.grownBy_alloc _ _ _
  have hg1 : w0.grownBy (w.alloc (.cells us.toArray 49)) vb := grown_two hg hal (fun g h => by cases h)
  have hnew : ∀ j u, us[j]? = some u → (w.alloc (.cells us.toArray 49)).cell? ((⟨w.heap.size, 0, none⟩ : Addr).add j) = some u := fun j u hj => by
    rw [show (⟨w.heap.size, 0, none⟩ : Addr).add j = ⟨w.heap.size, j, none⟩ by unfold Addr.add; split <;> simp_all]
    rw [World.cell?_alloc_at _ _ _ _ rfl]
    simpa using hj
  rcases hc with ⟨rfl, rfl⟩ | ⟨g, cur, rfl, hh, hcur, hvb⟩
  · obtain rfl : n = 0 := by omega
    refine wpList_append_own _ hgd s x _ ho w.heap.size 49 iM _ 4 32 Try.underlying22 hi0 hm0 hm1 hm2 rfl (by omega) _ 0 [] hs (World.ownsRow_nil _ _ _ _) ⟨w.heap.size, 0, none⟩ 1 1 us hx (by omega) hnew h1 (by unfold maxLen; omega) (by omega) (by simp) (fun v' w' h2 h3 _ => h v' w' ?_)
    exact ovr_own (n := 0) hg1 h3 hg.size h2
  · have hgl := lt_of_block hh
    have hhA : (w.alloc (.cells us.toArray 49)).heap[g]? = some (.cells cur 49 (0, 0)) := (hal.block g hgl (by simp)).trans hh
    have hcell : ∀ j, j < cur.size → (w.alloc (.cells us.toArray 49)).cell? ⟨g, j, none⟩ = cur[j]? := fun j hj => by
      simp only [World.cell?, hhA]
      simp
    refine wpList_append_arg _ hgd s x _ ho 49 iM _ 4 32 Try.underlying22 hi0 hm0 hm1 hm2 rfl (by omega) g 0 n cap (cur.toList.take (n * 4)) hs (by rw [List.length_take, Array.length_toList]; omega) (fun j u hj => ?_) ⟨w.heap.size, 0, none⟩ 1 1 us hx (by omega) hnew h1 (fun hr j hj => ?_) (by unfold maxLen; omega) (by omega) (fun hr => h _ _ ?_) (fun hr v' w' h2 h3 => h v' w' ?_)
    · rw [Nat.zero_add]
      have hjl : j < n * 4 := by have := (List.getElem?_eq_some_iff.1 hj).1; rw [List.length_take] at this; omega
      rw [List.getElem?_take_of_lt hjl] at hj
      rw [hcell j (by omega)]
      simpa using hj
    · rw [hl] at hj
      refine ⟨?_, by simp [World.frozen?, hhA]⟩
      rw [Nat.zero_add, hcell (n * 4 + j) (by omega)]
      rw [Array.getElem?_eq_getElem (by omega)]
      rfl
    · obtain ⟨⟨cur', h2, h3⟩, h4⟩ := setCells_at us (0 + n * 4) _ _ hhA
      exact ⟨⟨_, cap, rfl, hcm, hr, .inr ⟨g, cur', rfl, h2, by rw [h3]; exact hcur, hvb⟩⟩, grown_two hg1 h4 (fun k hk => by injection hk with hk; subst hk; exact hvb)⟩
    · exact ovr_own hg1 h3 (Nat.le_trans hg.size hal.size) h2
set_option maxHeartbeats 2000000 in
set_option maxRecDepth 100000 in
theorem over_any (base : Nat) (l : List Re) (v : Value) (w : World) (h : CutR base w v l) (hm : l.length ≤ 20000) : Calls Try.prog 20 #[v] w fun e w' => e = .returned (.tuple #[]) ∧ w.grownBy w' v.ownBlock := by
  have hO : Ovr w w v.ownBlock v l.length := by
    refine ⟨?_, grown_refl _ _⟩
    rcases h with ⟨rfl, rfl⟩ | ⟨g, cap, cur, rfl, h2, h3, h4, h5, h6, h7⟩
    · exact ⟨_, _, rfl, by unfold maxLen; omega, Nat.le_refl _, .inl ⟨rfl, rfl⟩⟩
    · exact ⟨_, cap, rfl, h5, h4, .inr ⟨g, cur, rfl, h3, h6, .inl rfl⟩⟩
  obtain ⟨n, en⟩ : ∃ n, l.length = n := ⟨_, rfl⟩
  rw [en] at hO hm
  obtain ⟨vb, hvb⟩ : ∃ vb, v.ownBlock = vb := ⟨_, rfl⟩
  rw [hvb] at hO ⊢
  obtain ⟨s, cap, rfl⟩ : ∃ s cap, v = .slice s n cap := by obtain ⟨⟨s, cap, e, _⟩, _⟩ := hO; exact ⟨s, cap, e⟩
  clear h hvb
  replace hO := Lib.hid hO
  go_enter Try.func20, Try.ntmps20
  go_wp2
  go_loopw [2] (fun i wr => ∃ k : Nat, k ≤ n ∧ i = .int .i64 k ∧ Ovr w wr vb (.slice s n cap) n) (fun i _ => n - (intOf i).toNat)
  case atStart => exact ⟨0, Nat.zero_le _, rfl, hO.out⟩
  case round =>
    obtain ⟨k, hk, rfl, hov⟩ := hrel
    by_cases hkn : k < n
    · have hkk : (k : Int) < n := by omega
      obtain ⟨⟨s', cap', e, hcm, hnc, hc⟩, _⟩ := id hov
      injection e with e1 _ e2
      subst e1
      subst e2
      rcases hc with ⟨_, h0⟩ | ⟨g, cur, rfl, hh, hcur, _⟩
      · omega
      have hgl := lt_of_block hh
      have hf : ∀ o, wr.frozen? ⟨g, o, none⟩ = false := fun o => by simp [World.frozen?, hh]
      have hcell : ∀ o, o < cur.size → ∃ u, wr.cell? ⟨g, o, none⟩ = some u := fun o ho => ⟨cur[o], by simp only [World.cell?, hh]; simp [Array.getElem?_eq_getElem ho]⟩
      obtain ⟨u0, g0⟩ := hcell (k * 4) (by omega)
      obtain ⟨u1, g1⟩ := hcell (k * 4 + 1) (by omega)
      obtain ⟨u2, g2⟩ := hcell (k * 4 + 2) (by omega)
      obtain ⟨u3, g3⟩ := hcell (k * 4 + 3) (by omega)
      unfold maxLen at hcm
      clear hcell hh hcur
      replace hov := Lib.hid hov
      go_wp2
      go_roundw
      case rel => exact ⟨k + 1, by omega, by go_num, by repeat (first | (with_reducible exact hov.out) | (with_reducible refine Ovr.set ?_ _ _))⟩
      case measure => simp [intOf]; omega
    · obtain rfl : k = n := by omega
      have hst := Lib.hid hov
      clear hov
      go_wp2
      go_loopw [0, 3] (fun lv i wr => ∃ j : Nat, j ≤ 9 ∧ i = .int .i64 j ∧ Ovr w wr vb lv (k + j)) (fun _ i _ => 9 - (intOf i).toNat)
      case atStart => exact ⟨0, by omega, rfl, hst.out⟩
      case round =>
        clear hst
        obtain ⟨j, hj, rfl, hov⟩ := hrel
        obtain ⟨s1, cap1, rfl⟩ : ∃ s cap, u0 = .slice s (k + j) cap := by obtain ⟨⟨s, cap, e, _⟩, _⟩ := hov; exact ⟨s, cap, e⟩
        replace hov := Lib.hid hov
        by_cases hj9 : j < 9
        · have hji : (j : Int) < 9 := by omega
          go_wp2_with (at_builtin; refine wpList_append_ovr rfl _ _ rfl w wr _ vb _ (k + j) (by rfl) hov.out (by omega) (by rfl) (by rfl) (by simp [Value.oneCell']) ?_; intro v6 w6 hov6)
          replace hov6 := Lib.hid hov6
          go_roundw
          case rel => exact ⟨j + 1, by omega, by go_num, hov6.out⟩
          case measure => simp [intOf]; omega
        · obtain rfl : j = 9 := by omega
          have hgr := hov.out.2
          replace hgr := Lib.hid hgr
          go_wp2
          exact bodyPost_end (v := .tuple #[]) (by simp [results, Try.results20, go_sem]) rfl ⟨rfl, hgr.out⟩
end Go.Proofs.Ytlklmncjicgbgaa
