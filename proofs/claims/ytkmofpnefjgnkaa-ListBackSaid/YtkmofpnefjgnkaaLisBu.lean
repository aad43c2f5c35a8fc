/-
  list.busy: a list without idle pairs.
-/
import Derived.Test.YtkmofpnefjgnkaaLisDf
import Derived.ScopeJumps
namespace Go.Proofs.Ytkmofpnefjgnkaa
open Go.RowKit
set_option linter.unusedVariables false
attribute [local go_sem] vwp vUpon_value vUpon_skip vUpon_enter vUpon_row
set_option linter.unusedSimpArgs false
set_option linter.unusedVariables false
def BusyJ (base : Nat) (xs : List St) (vb : Option Nat) (w : World) (a' : Act) (w' : World) : Prop :=
  ∃ (ys : List St) (vy : Value) (x3 x4 x5 x6 x7 x8 x9 x10 x11 x12 x13 x14 x15 x16 x17 x18 x19 x20 x21 x22 x23 x24 x25 x26 x27 x28 x29 x30 x31 : Value), a' = { tmps := #[vy, undef, .slice none 0 0, x3, x4, x5, x6, x7, x8, x9, x10, x11, x12, x13, x14, x15, x16, x17, x18, x19, x20, x21, x22, x23, x24, x25, x26, x27, x28, x29, x30, x31], defers := [] } ∧ Owns base w' vy ys ∧ busyL ys = busyL xs ∧ w.grownBy w' vb ∧ vy.ownBlock = vb ∧ ys.length ≤ xs.length
def busyM (a' : Act) : Nat := match a'.tmps.getD 0 undef with | .slice _ n _ => n | _ => 0
theorem grown_trans {w w1 w2 : World} {o : Option Nat} (h1 : w.grownBy w1 o) (h2 : w1.grownBy w2 o) : w.grownBy w2 o :=
  ⟨h2.os.trans h1.os, h2.tape.trans h1.tape, h2.output.trans h1.output, Nat.le_trans h1.size h2.size, fun k hk hne => (h2.block k (Nat.lt_of_lt_of_le hk h1.size) hne).trans (h1.block k hk hne)⟩
set_option maxHeartbeats 2000000 in
set_option maxRecDepth 100000 in
theorem busy_any (base : Nat) (xs : List St) (v : Value) (w : World) (h : Owns base w v xs) (hm : xs.length ≤ 100000) :
    Calls Try.prog 48 #[v] w fun e w' => ∃ v', e = .returned v' ∧ Owns base w' v' (busyL xs) ∧ w.grownBy w' v.ownBlock ∧ v'.ownBlock = v.ownBlock := by
  obtain ⟨vb, hvb0⟩ : ∃ vb, v.ownBlock = vb := ⟨_, rfl⟩
  replace hvb0 := Lib.hid hvb0
  go_enter Try.func48, Try.ntmps48
  go_wp2
  refine wp_scope_jumps 0 (BusyJ base xs vb w) (fun a' _ => busyM a') rfl ?_ ?_
  · go_wp2
    go_step3
    go_wp2
    obtain ⟨ys, hown, hbus, hle⟩ : ∃ ys, Owns base w v ys ∧ busyL ys = busyL xs ∧ ys.length ≤ xs.length := ⟨xs, h, rfl, Nat.le_refl _⟩
    have hgr : w.grownBy w vb := grown_refl _ _
    have hvb : v.ownBlock = vb := hvb0.out
    clear h
    obtain ⟨st, cap, rfl⟩ := own_slice hown
    obtain ⟨m, hm'⟩ : ∃ m, ys.length = m := ⟨_, rfl⟩
    have hD := fun (i j : Nat) hij hj => delete_any base i j ys _ w hown hij hj (by omega)
    have hsm := fun (g : Nat) (k : Nat) (s : St) (h : Owns base w (.slice (some ⟨g, 0, none⟩) m cap) ys) (hs : ys[k]? = some s) => own_smem h hs
    unfold Owns at hown
    rw [hm'] at hown hD hle hvb
    replace hD := Lib.hid hD
    replace hsm := Lib.hid hsm
    replace hm' := Lib.hid hm'
    replace hbus := Lib.hid hbus
    replace hgr := Lib.hid hgr
    replace hvb := Lib.hid hvb
    (try rw [hm'.out])
    replace hown := Lib.hid hown
    go_wp2
    go_loopw [0, 3] (fun l i wr => l = .slice st m cap ∧ w = wr ∧ ∃ k : Nat, 1 ≤ k ∧ (k ≤ m ∨ k = 1) ∧ i = .int .i64 k ∧ Hid (∀ (j : Nat) c o, j + 1 < k → ys[j]? = some c → ys[j + 1]? = some o → pairB c o = false)) (fun _ i _ => m + 1 - (intOf i).toNat)
    case atStart => exact ⟨by first | rfl | trivial, by first | rfl | trivial, 1, Nat.le_refl _, .inr rfl, rfl, Lib.hid (fun j c o hj => by omega)⟩
    case round =>
      obtain ⟨rfl, rfl, k, hk1, hk2, rfl, hno⟩ := hrel
      by_cases hkn : k < m
      · obtain ⟨g, rfl, hg, hgl⟩ := own_addr hown.out (by omega)
        obtain ⟨c, hc⟩ : ∃ c, ys[k - 1]? = some c := ⟨ys[k - 1]'(by have := hm'.out; omega), List.getElem?_eq_getElem _⟩
        obtain ⟨o, ho⟩ : ∃ o, ys[k]? = some o := ⟨ys[k]'(by have := hm'.out; omega), List.getElem?_eq_getElem _⟩
        have hO : Owns base w (.slice (some ⟨g, 0, none⟩) m cap) ys := by unfold Owns; rw [hm'.out]; exact hown.out
        obtain ⟨g0, _⟩ := hsm.out g (k - 1) c hO hc
        obtain ⟨j0, _⟩ := hsm.out g k o hO ho
        have hkk : (k : Int) < m := by omega
        have p2 : (1 : Int) ≤ k := by omega
        have p3 : (k : Int) - 1 < m := by omega
        have p4 : ((k : Int) - 1).toNat = k - 1 := by omega
        have p5 : (0 : Int) ≤ (k : Int) - 1 := by omega
        have ho' : ys[k - 1 + 1]? = some o := by rw [show k - 1 + 1 = k by omega]; exact ho
        clear hO
        by_cases q4 : c.kind = 4
        · by_cases q5 : o.kind = 5
          · have hp : pairB c o = true := by unfold pairB; simp [q4, q5]
            have hbd := busy_del hc ho' hp
            have D := hD.out (k - 1) (k + 1) (by omega) (by omega)
            rw [show ((k - 1 : Nat) : Int) = (k : Int) - 1 by omega, show ((k + 1 : Nat) : Int) = (k : Int) + 1 by omega] at D
            rw [show k - 1 + 2 = k + 1 by omega] at hbd
            replace D := Lib.hid D
            replace hbd := Lib.hid hbd
            rw [q4] at g0
            rw [q5] at j0
            clear hc ho ho' hp q4 q5
            go_wp2_with (first
              | (go_at_call 64; (with_reducible refine (D.out).mono ?_); rintro e w2 ⟨v2, rfl, hown2, hgr2, hvb2⟩)
              | go_in)
            go_step3
            have hgr2' := hgr2
            rw [hvb.out] at hgr2' hvb2
            have hl2 : (ys.take (k - 1) ++ ys.drop (k + 1)).length < m := by rw [List.length_append, List.length_take, List.length_drop, hm'.out]; omega
            obtain ⟨s2, c2, rfl⟩ := own_slice hown2
            exact ⟨rfl, ⟨_, _, _, _, _, _, _, _, _, _, _, _, _, _, _, _, _, _, _, _, _, _, _, _, _, _, _, _, _, _, _, rfl, hown2, hbd.out.trans hbus.out, grown_trans hgr.out hgr2', hvb2, by omega⟩⟩
          · have hp : pairB c o = false := by unfold pairB; simp [q5]
            have hno' : Hid (∀ (j : Nat) c o, j + 1 < k + 1 → ys[j]? = some c → ys[j + 1]? = some o → pairB c o = false) := Lib.hid (fun j c' o' hj h1 h2 => by
              by_cases hjk : j + 1 < k
              · exact hno.out j c' o' hjk h1 h2
              · obtain rfl : j = k - 1 := by omega
                rw [hc] at h1; rw [ho'] at h2
                injection h1 with h1; injection h2 with h2
                rw [← h1, ← h2]; exact hp)
            have q5b : (o.kind == 5) = false := by simp [q5]
            rw [q4] at g0
            clear hc ho ho' hp q4
            go_wp2
            go_roundw
            case rel => exact ⟨by first | rfl | trivial, by first | rfl | trivial, k + 1, by omega, by omega, by go_num, hno'⟩
            case measure => simp [intOf]; omega
        · have hp : pairB c o = false := by unfold pairB; simp [q4]
          have hno' : Hid (∀ (j : Nat) c o, j + 1 < k + 1 → ys[j]? = some c → ys[j + 1]? = some o → pairB c o = false) := Lib.hid (fun j c' o' hj h1 h2 => by
            by_cases hjk : j + 1 < k
            · exact hno.out j c' o' hjk h1 h2
            · obtain rfl : j = k - 1 := by omega
              rw [hc] at h1; rw [ho'] at h2
              injection h1 with h1; injection h2 with h2
              rw [← h1, ← h2]; exact hp)
          have q4b : (c.kind == 4) = false := by simp [q4]
          clear hc ho ho' hp
          go_wp2
          go_roundw
          case rel => exact ⟨by first | rfl | trivial, by first | rfl | trivial, k + 1, by omega, by omega, by go_num, hno'⟩
          case measure => simp [intOf]; omega
      · have hnp : busyL ys = ys := busy_none (noPair_of (fun j c o h1 h2 => hno.out j c o (by have := (List.getElem?_eq_some_iff.1 h2).1; have := hm'.out; omega) h1 h2))
        have hkk : ¬ (k : Int) < m := by omega
        have hby := hbus.out
        rw [hnp] at hby
        replace hby := Lib.hid hby
        clear hnp
        go_wp2
        simp only [Exit.jump]
        go_ret
        refine ⟨_, rfl, ?_, by rw [hvb0.out]; exact hgr.out, by rw [hvb0.out]; exact hvb.out⟩
        rw [← hby.out]
        unfold Owns
        rw [hm'.out]
        exact hown.out
  · rintro a' w1 ⟨ys, vy, x3, x4, x5, x6, x7, x8, x9, x10, x11, x12, x13, x14, x15, x16, x17, x18, x19, x20, x21, x22, x23, x24, x25, x26, x27, x28, x29, x30, x31, rfl, hown, hbus, hgr, hvb, hle⟩
    clear h
    obtain ⟨st, cap, rfl⟩ := own_slice hown
    obtain ⟨m, hm'⟩ : ∃ m, ys.length = m := ⟨_, rfl⟩
    have hD := fun (i j : Nat) hij hj => delete_any base i j ys _ w1 hown hij hj (by omega)
    have hsm := fun (g : Nat) (k : Nat) (s : St) (h : Owns base w1 (.slice (some ⟨g, 0, none⟩) m cap) ys) (hs : ys[k]? = some s) => own_smem h hs
    unfold Owns at hown
    rw [hm'] at hown hD hle hvb
    replace hD := Lib.hid hD
    replace hsm := Lib.hid hsm
    replace hm' := Lib.hid hm'
    replace hbus := Lib.hid hbus
    replace hgr := Lib.hid hgr
    replace hvb := Lib.hid hvb
    (try rw [hm'.out])
    replace hown := Lib.hid hown
    go_wp2
    go_loopw [0, 3] (fun l i wr => l = .slice st m cap ∧ w1 = wr ∧ ∃ k : Nat, 1 ≤ k ∧ (k ≤ m ∨ k = 1) ∧ i = .int .i64 k ∧ Hid (∀ (j : Nat) c o, j + 1 < k → ys[j]? = some c → ys[j + 1]? = some o → pairB c o = false)) (fun _ i _ => m + 1 - (intOf i).toNat)
    case atStart => exact ⟨by first | rfl | trivial, by first | rfl | trivial, 1, Nat.le_refl _, .inr rfl, rfl, Lib.hid (fun j c o hj => by omega)⟩
    case round =>
      obtain ⟨rfl, rfl, k, hk1, hk2, rfl, hno⟩ := hrel
      by_cases hkn : k < m
      · obtain ⟨g, rfl, hg, hgl⟩ := own_addr hown.out (by omega)
        obtain ⟨c, hc⟩ : ∃ c, ys[k - 1]? = some c := ⟨ys[k - 1]'(by have := hm'.out; omega), List.getElem?_eq_getElem _⟩
        obtain ⟨o, ho⟩ : ∃ o, ys[k]? = some o := ⟨ys[k]'(by have := hm'.out; omega), List.getElem?_eq_getElem _⟩
        have hO : Owns base w1 (.slice (some ⟨g, 0, none⟩) m cap) ys := by unfold Owns; rw [hm'.out]; exact hown.out
        obtain ⟨g0, _⟩ := hsm.out g (k - 1) c hO hc
        obtain ⟨j0, _⟩ := hsm.out g k o hO ho
        have hkk : (k : Int) < m := by omega
        have p2 : (1 : Int) ≤ k := by omega
        have p3 : (k : Int) - 1 < m := by omega
        have p4 : ((k : Int) - 1).toNat = k - 1 := by omega
        have p5 : (0 : Int) ≤ (k : Int) - 1 := by omega
        have ho' : ys[k - 1 + 1]? = some o := by rw [show k - 1 + 1 = k by omega]; exact ho
        clear hO
        by_cases q4 : c.kind = 4
        · by_cases q5 : o.kind = 5
          · have hp : pairB c o = true := by unfold pairB; simp [q4, q5]
            have hbd := busy_del hc ho' hp
            have D := hD.out (k - 1) (k + 1) (by omega) (by omega)
            rw [show ((k - 1 : Nat) : Int) = (k : Int) - 1 by omega, show ((k + 1 : Nat) : Int) = (k : Int) + 1 by omega] at D
            rw [show k - 1 + 2 = k + 1 by omega] at hbd
            replace D := Lib.hid D
            replace hbd := Lib.hid hbd
            rw [q4] at g0
            rw [q5] at j0
            clear hc ho ho' hp q4 q5
            go_wp2_with (first
              | (go_at_call 64; (with_reducible refine (D.out).mono ?_); rintro e w2 ⟨v2, rfl, hown2, hgr2, hvb2⟩)
              | go_in)
            go_step3
            have hgr2' := hgr2
            rw [hvb.out] at hgr2' hvb2
            have hl2 : (ys.take (k - 1) ++ ys.drop (k + 1)).length < m := by rw [List.length_append, List.length_take, List.length_drop, hm'.out]; omega
            obtain ⟨s2, c2, rfl⟩ := own_slice hown2
            exact ⟨rfl, ⟨_, _, _, _, _, _, _, _, _, _, _, _, _, _, _, _, _, _, _, _, _, _, _, _, _, _, _, _, _, _, _, rfl, hown2, hbd.out.trans hbus.out, grown_trans hgr.out hgr2', hvb2, by omega⟩, hl2⟩
          · have hp : pairB c o = false := by unfold pairB; simp [q5]
            have hno' : Hid (∀ (j : Nat) c o, j + 1 < k + 1 → ys[j]? = some c → ys[j + 1]? = some o → pairB c o = false) := Lib.hid (fun j c' o' hj h1 h2 => by
              by_cases hjk : j + 1 < k
              · exact hno.out j c' o' hjk h1 h2
              · obtain rfl : j = k - 1 := by omega
                rw [hc] at h1; rw [ho'] at h2
                injection h1 with h1; injection h2 with h2
                rw [← h1, ← h2]; exact hp)
            have q5b : (o.kind == 5) = false := by simp [q5]
            rw [q4] at g0
            clear hc ho ho' hp q4
            go_wp2
            go_roundw
            case rel => exact ⟨by first | rfl | trivial, by first | rfl | trivial, k + 1, by omega, by omega, by go_num, hno'⟩
            case measure => simp [intOf]; omega
        · have hp : pairB c o = false := by unfold pairB; simp [q4]
          have hno' : Hid (∀ (j : Nat) c o, j + 1 < k + 1 → ys[j]? = some c → ys[j + 1]? = some o → pairB c o = false) := Lib.hid (fun j c' o' hj h1 h2 => by
            by_cases hjk : j + 1 < k
            · exact hno.out j c' o' hjk h1 h2
            · obtain rfl : j = k - 1 := by omega
              rw [hc] at h1; rw [ho'] at h2
              injection h1 with h1; injection h2 with h2
              rw [← h1, ← h2]; exact hp)
          have q4b : (c.kind == 4) = false := by simp [q4]
          clear hc ho ho' hp
          go_wp2
          go_roundw
          case rel => exact ⟨by first | rfl | trivial, by first | rfl | trivial, k + 1, by omega, by omega, by go_num, hno'⟩
          case measure => simp [intOf]; omega
      · have hnp : busyL ys = ys := busy_none (noPair_of (fun j c o h1 h2 => hno.out j c o (by have := (List.getElem?_eq_some_iff.1 h2).1; have := hm'.out; omega) h1 h2))
        have hkk : ¬ (k : Int) < m := by omega
        have hby := hbus.out
        rw [hnp] at hby
        replace hby := Lib.hid hby
        clear hnp
        go_wp2
        simp only [Exit.jump]
        go_ret
        refine ⟨_, rfl, ?_, by rw [hvb0.out]; exact hgr.out, by rw [hvb0.out]; exact hvb.out⟩
        rw [← hby.out]
        unfold Owns
        rw [hm'.out]
        exact hown.out
end Go.Proofs.Ytkmofpnefjgnkaa
