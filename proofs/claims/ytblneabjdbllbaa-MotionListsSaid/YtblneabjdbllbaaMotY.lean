/-
  'All' of the document's answer, walked.
-/
import Derived.Test.YtblneabjdbllbaaMotX
import Derived.Test.YtblneabjdbllbaaMotU
import Derived.Maps.AppendAt
namespace Go.Proofs.Ytblneabjdbllbaa
open Go.RowKit
set_option linter.unusedVariables false
attribute [local go_sem] vwp vUpon_value vUpon_skip vUpon_enter vUpon_row
set_option linter.unusedSimpArgs false
theorem own_keep {w w' : World} {base : Nat} {ob : Option Nat} {e : TypeId} {size n : Nat} {v : Value} {xs : List Value} (h : w.ownsRow base e size v n xs) (hg : w.grownBy w' ob) (hr : ∀ g, v.ownBlock = some g → ob ≠ some g) : w'.ownsRow base e size v n xs := by
  obtain ⟨h1, h2⟩ := h
  refine ⟨h1, ?_⟩
  rcases h2 with h2 | ⟨g, cap, cur, rfl, hgb, hh, r'⟩
  · exact .inl h2
  · exact .inr ⟨g, cap, cur, rfl, hgb, by rw [hg.block g (Go.lt_of_block hh) (fun e => hr g (by simp [Value.ownBlock]) e.symm)]; exact hh, r'⟩
/-- 'append(s, x, y ..)' onto a row of the call's own; what else it owns stays. -/
theorem wpList_append_two {P : Program} {ops : Array Oper} {rest : List Oper} {o : Oper} {a : Act} {Q : Exit → Act → World → Prop} (hgd : o.guard = none) (s x : Operand) (t : TypeId)
    (ho : o.op = .call { callee := .builtin .append, args := #[s, x], argTypes := #[t, t] })
    (base : Nat) (e : TypeId) (i : TypeInfo) (z : Value) (size bytes : Nat) (ht : P.underlying t = some (.slice e)) (hi : P.info? e = some i) (hz : i.zero = some z)
    (hsize : i.size = size) (hby : i.bytes = bytes) (hzs : z.cells.size = size) (hsz : 0 < size)
    (w : World) (m : Nat) (us : List Value) (v : Value) (n : Nat) (xs : List Value) (hs : a.eval s = v) (hown : w.ownsRow base e size v n xs)
    (hx : a.eval x = .slice (some ⟨w.heap.size, 0, none⟩) m m) (hl : us.length = m * size) (h1 : ∀ u ∈ us, u.oneCell' = true)
    (hbytes : (n + m) * bytes ≤ 140737488355328) (h63 : n + m ≤ maxLen) (hbase : base ≤ w.heap.size)
    (h : ∀ v' w', w'.ownsRow base e size v' (n + m) (xs ++ us) → w.grownBy w' v.ownBlock → (∀ g, v'.ownBlock = some g → v.ownBlock = some g ∨ w.heap.size < g) → Below base w w' → wpList P ops Q rest (a.put o.dst v') w') :
    wpList P ops Q (o :: rest) a (w.alloc (.cells us.toArray e)) := by
  refine wpList_append_own_at _ hgd s x t ho base e i z size bytes ht hi hz hsize hby hzs hsz v n xs hs (hown.alloc _) ⟨w.heap.size, 0, none⟩ m m us hx (by omega) (fun j u hj => ?_) h1 h63 hbytes (by simp; omega) (fun v' w' h2 h3 _ h5 => h v' w' h2 ?_ ?_ ?_)
  · rw [show (⟨w.heap.size, 0, none⟩ : Addr).add j = ⟨w.heap.size, j, none⟩ by unfold Addr.add; split <;> simp_all]
    rw [World.cell?_alloc_at _ _ _ _ rfl]
    simpa using hj
  · have hal : w.grownBy (w.alloc (.cells us.toArray e)) v.ownBlock := ⟨rfl, rfl, rfl, by simp, fun k hk _ => ((Below.refl w.heap.size w).alloc (Nat.le_refl _) _).block k hk⟩
    exact ⟨h3.os.trans hal.os, h3.tape.trans hal.tape, h3.output.trans hal.output, Nat.le_trans hal.size h3.size, fun k hk hne => (h3.block k (Nat.lt_of_lt_of_le hk hal.size) hne).trans (hal.block k hk hne)⟩
  · intro g hg
    rcases h5 with h5 | h5
    · exact .inl (h5 ▸ hg)
    · rw [h5] at hg
      injection hg with hg
      simp at hg
      exact .inr (by omega)
  · exact (((Below.refl _ _).alloc hbase _).grown h3 (by simp; omega) (fun k hk => (hown.lt k hk).1))
/-- What 'All' of the document's answer tells. -/
def RAllPost (ms : List Mo) (t : Int) (w : World) (e : Ending) (w' : World) : Prop :=
  Below w.heap.size w w' ∧ ((cntE ms t ≠ 0 ∧ e = .returned (.tuple #[.slice none 0 0, .slice none 0 0, .int .i64 (cntE ms t)])) ∨
    (cntE ms t = 0 ∧ ∃ v1 v2, e = .returned (.tuple #[v1, v2, .int .i64 0]) ∧
      w'.ownsRow w.heap.size 3 1 v1 (srt ms).length ((nodesN ms).map (Value.int .i64)) ∧ w'.ownsRow w.heap.size 3 1 v2 (srt ms).length ((placesN ms t).map (Value.int .i64))))
theorem own_less {w : World} {base B : Nat} {e : TypeId} {size n : Nat} {v : Value} {xs : List Value} (h : w.ownsRow base e size v n xs) (hB : B ≤ base) : w.ownsRow B e size v n xs := by
  obtain ⟨h1, h2⟩ := h
  refine ⟨h1, ?_⟩
  rcases h2 with h2 | ⟨g, cap, cur, hv, hg, r⟩
  · exact .inl h2
  · exact .inr ⟨g, cap, cur, hv, by omega, r⟩
theorem rAt_ok (m : Mo) (t : Int) (w : World) (hw : Wf m) (h : Ok m) (t0 : 0 ≤ t) (t1 : t ≤ 1048576) : Calls Try.prog 11 #[.agg #[.int .i64 ((m).node), .int .i64 ((m).fr), .int .i64 ((m).to), .int .i64 ((m).st), .int .i64 ((m).ln), .int .u8 ((m).es), .int .i64 ((m).ts), .bool ((m).bk)], .int .i64 t] w fun e w' => e = .returned (.tuple #[.int .i64 (atV m t), .bool (atG m t), .int .i64 0]) ∧ Below w.heap.size w w' := by
  have a := rAt_any m t w hw
  have e0 : resE m t = 0 := by
    unfold resE
    have hl : lateB t = false := by unfold lateB; simp; omega
    rw [if_pos h.chk, hl]; rfl
  rw [show resV m t = atV m t from if_pos e0, show resG m t = atG m t from if_pos e0, e0] at a
  exact a
set_option maxHeartbeats 2000000 in
theorem rAll_any (ms : List Mo) (v : Value) (t : Int) (w : World) (hl : Lst w v ms) (hw : ∀ m ∈ ms, Wf m) (ht : I64 t) : Calls Try.prog 21 #[v, .int .i64 t] w (RAllPost ms t w) := by
  have AK := fun w hl => asked_any ms v t w hl hw ht
  replace AK := Lib.hid AK
  have hlh := Lib.hid hl
  clear hl
  obtain ⟨iI, hi0, hz0, hz1, hz2⟩ := info_parts infoI
  by_cases h0 : cntE ms t = 0
  · obtain ⟨hte, hok⟩ := cntE_zero hw h0
    obtain ⟨T0, T1⟩ := hte
    have hmany : ms.length ≤ 4096 := by
      unfold cntE at h0; split at h0
      · omega
      · omega
    rw [h0] at AK
    have hsl := srt_len ms
    obtain ⟨n, hn⟩ : ∃ n, (srt ms).length = n := ⟨_, rfl⟩
    replace hok := Lib.hid hok
    go_enter Try.func21, Try.ntmps21
    go_wp2_with (first
      | (go_at_call 35; (with_reducible refine (AK.out _ hlh.out).mono ?_); rintro e w1 ⟨rfl, hb1⟩; obtain ⟨hc1, hf1⟩ := bcell hb1; have hz1 := hb1.size; (try simp at hz1); (try have lt1 : w.heap.size < w1.heap.size := (by omega)))
      | (go_at_call 36; (with_reducible refine (counts_any ms v _ (hlh.out.below hb1) hmany).mono ?_); rintro e w2 ⟨hb2, ix, vo, rfl, hix, hown⟩)
      | go_in)
    have hl2 := (hlh.out.below hb1).below hb2
    obtain ⟨s, cap, rfl, hmax⟩ := lst_slice' hl2
    have hopen := fun h0 => lst_open hl2 h0
    have hixl : ix.length = n := by rw [hix.1, hn]
    have hn4 : n ≤ 4096 := by omega
    have hix2 := hix.2
    rw [hixl] at hown
    obtain ⟨s3, cap3, rfl⟩ := own_slice hown
    have hcells := fun h0 => own_open hown h0
    have hb02 : Below w.heap.size w w2 := hb1.trans (hb2.mono hb1.size)
    have hz02 := hb02.size
    replace hopen := Lib.hid hopen
    replace hcells := Lib.hid hcells
    replace hix2 := Lib.hid hix2
    replace hn := Lib.hid hn
    replace hixl := Lib.hid hixl
    clear hown hl2 hb1 hb2 hc1 hf1 hz1 hix
    go_loopw [9, 10, 11] (fun s4 s5 i wr => ∃ k : Nat, k ≤ n ∧ i = .int .i64 k ∧ wr.ownsRow w2.heap.size 3 1 s4 k (((nodesN ms).take k).map (Value.int .i64)) ∧ wr.ownsRow w2.heap.size 3 1 s5 k (((placesN ms t).take k).map (Value.int .i64)) ∧ (∀ g, s4.ownBlock = some g → s5.ownBlock ≠ some g) ∧ Below w2.heap.size w2 wr) (fun _ _ i _ => n - (intOf i).toNat)
    case atStart => exact ⟨0, Nat.zero_le _, rfl, World.ownsRow_nil _ _ _ _, World.ownsRow_nil _ _ _ _, (fun _ h => by cases h), Below.refl _ _⟩
    case round =>
      obtain ⟨k, hk, rfl, hown4, hown5, hap, hbr⟩ := hrel
      have zr := hbr.size
      obtain ⟨hcr, hfr⟩ := bcell hbr
      obtain ⟨s4, cap4, rfl⟩ := own_slice hown4
      obtain ⟨s5, cap5, rfl⟩ := own_slice hown5
      by_cases hkn : k < n
      · obtain ⟨g, cap', e, hg1, hg2, hg3, hg4, hcell⟩ := hcells.out (by omega)
        simp at e
        obtain ⟨rfl, rfl⟩ := e
        obtain ⟨m, hm⟩ : ∃ m, (srt ms)[k]? = some m := ⟨(srt ms)[k]'(by have := hn.out; omega), List.getElem?_eq_getElem _⟩
        have hmc := (srt_mem ms m).1 (List.mem_of_getElem? hm)
        obtain ⟨i, ei, ej⟩ := hix2.out k m hm
        have c1 := (hcell k (.int .i64 (i : Int)) (by simp [ei, vN])).1
        obtain ⟨b, o, cap', e, hb, hel⟩ := hopen.out (by have := (List.getElem?_eq_some_iff.1 ej).1; omega)
        simp at e
        obtain ⟨rfl, rfl⟩ := e
        have hin : i < ms.length := (List.getElem?_eq_some_iff.1 ej).1
        have hii : (i : Int) < ms.length := by omega
        obtain ⟨g0, g1, g2, g3, g4, g5, g6, g7⟩ := (hel i m ej).2
        simp only [Addr.add, if_neg (show ¬ (1:Nat) = 0 by decide), if_neg (show ¬ (2:Nat) = 0 by decide), if_neg (show ¬ (3:Nat) = 0 by decide), if_neg (show ¬ (4:Nat) = 0 by decide), if_neg (show ¬ (5:Nat) = 0 by decide), if_neg (show ¬ (6:Nat) = 0 by decide), if_neg (show ¬ (7:Nat) = 0 by decide)] at g1 g2 g3 g4 g5 g6 g7
        have A := fun w => rAt_ok m t w (hw m hmc.mem) (hok.out m hmc.mem) T0 T1
        have hp : (placesN ms t)[k]? = some (atV m t) := by simp [placesN, hm]
        have hq : (nodesN ms)[k]? = some m.node := by simp [nodesN, hm]
        have hkk : (k : Int) < n := by omega
        have yb : b < wr.heap.size := by omega
        have yg : g < wr.heap.size := by omega
        replace A := Lib.hid A
        replace hp := Lib.hid hp
        replace hq := Lib.hid hq
        replace hel := Lib.hid hel
        clear hcell hm hmc ei ej
        go_wp2_with (first
          | (go_at_call 11; (with_reducible refine (A.out _).mono ?_); rintro e w6 ⟨rfl, hb6⟩; obtain ⟨hc6, hf6⟩ := bcell hb6; have hz6 := hb6.size; (try simp at hz6); (try have lt6 : w.heap.size < w6.heap.size := (by omega)))
          | (at_builtin; refine wpList_append_two rfl _ _ _ rfl w2.heap.size 3 iI _ 1 8 Try.underlying36 hi0 hz0 hz1 hz2 rfl (by omega) w6 1 _ _ _ _ (by rfl) (ownsRow_below hown4 hb6 (Nat.le_refl _)) (by rfl) rfl (by simp [Value.oneCell']) (by omega) (by unfold maxLen; omega) (by omega) ?_; intro v7 w7 hown7 hgr7 hat7 hb7)
          | (at_builtin; refine wpList_append_two rfl _ _ _ rfl w2.heap.size 3 iI _ 1 8 Try.underlying36 hi0 hz0 hz1 hz2 rfl (by omega) w7 1 _ _ _ _ (by rfl) (own_keep (ownsRow_below hown5 hb6 (Nat.le_refl _)) hgr7 (fun g h1 h2 => hap g h2 h1)) (by rfl) rfl (by simp [Value.oneCell']) (by omega) (by unfold maxLen; omega) (Nat.le_trans (Nat.le_trans zr hz6) hgr7.size) ?_; intro v8 w8 hown8 hgr8 hat8 hb8)
          | go_in)
        have hkA := own_keep hown7 hgr8 (fun g h1 h2 => by
          rcases hat7 g h1 with h3 | h3
          · exact hap g h3 h2
          · have := own_lt hown5 g h2; omega)
        have hlt7 := own_lt hown7
        have hap8 : ∀ g, v7.ownBlock = some g → v8.ownBlock ≠ some g := fun g h1 h2 => by
          rcases hat8 g h2 with h3 | h3
          · rcases hat7 g h1 with h4 | h4
            · exact hap g h4 h3
            · have := own_lt hown5 g h3; omega
          · have := hlt7 g h1; omega
        have hbr8 : Below w2.heap.size w2 w8 := ((hbr.trans (hb6.mono zr)).trans hb7).trans hb8
        replace hkA := Lib.hid hkA
        replace hown8 := Lib.hid hown8
        replace hap8 := Lib.hid hap8
        clear hgr7 hgr8 hat7 hat8 hlt7 hown7 hap
        go_wp2
        go_roundw
        case rel =>
          refine ⟨k + 1, by omega, by go_num, ?_, ?_, hap8.out, hbr8⟩
          · rw [List.take_add_one, hq.out, List.map_append]
            exact hkA.out
          · rw [List.take_add_one, hp.out, List.map_append]
            exact hown8.out
        case measure => simp [intOf]; omega
      · obtain rfl : k = n := by omega
        replace hown4 := Lib.hid hown4
        replace hown5 := Lib.hid hown5
        go_wp2
        go_ret3
        refine ⟨hb02.trans (hbr.mono hz02), .inr ⟨h0, _, _, rfl, ?_, ?_⟩⟩
        · have h := own_less hown4.out hz02
          rw [List.take_of_length_le (by have := hn.out; simp [nodesN]; omega)] at h
          rw [hn.out]; exact h
        · have h := own_less hown5.out hz02
          rw [List.take_of_length_le (by have := hn.out; simp [placesN]; omega)] at h
          rw [hn.out]; exact h
  · have hnb : (cntE ms t == 0) = false := by simp [h0]
    have hnb2 : (cntE ms t != 0) = true := by simp [h0]
    obtain ⟨E, hE⟩ : ∃ E, cntE ms t = E := ⟨_, rfl⟩
    unfold RAllPost
    rw [hE] at AK h0 hnb hnb2 ⊢
    replace hE := Lib.hid hE
    go_enter Try.func21, Try.ntmps21
    go_wp2_with (first | (go_at_call 35; (with_reducible refine (AK.out _ hlh.out).mono ?_); rintro e w1 ⟨rfl, hb1⟩; obtain ⟨hc1, hf1⟩ := bcell hb1; have hz1 := hb1.size; (try simp at hz1); (try have lt1 : w.heap.size < w1.heap.size := (by omega))) | go_in)
    go_ret3
    exact ⟨hb1, .inl ⟨h0, rfl⟩⟩
end Go.Proofs.Ytblneabjdbllbaa
