/-
  XVm: XLisJ XLisO.
-/
import Derived.Test.YtpbolbpenkfpiaaDoorLisI
import Derived.Laws.AppendOwnNone
import Derived.OneCell
namespace Go.Proofs.YtpbolbpenkfpiaaDoor
open Go.RowKit
set_option linter.unusedVariables false
attribute [local go_sem] vwp vUpon_value vUpon_skip vUpon_enter vUpon_row
set_option linter.unusedSimpArgs false
set_option linter.unusedVariables false
section
set_option linter.unusedSimpArgs false
set_option linter.unusedVariables false
theorem flat_len {α : Type} {enc : α → List Value} {sz : Nat} (he : ∀ y, (enc y).length = sz) (ys : List α) : (ys.flatMap enc).length = ys.length * sz := by
  induction ys with
  | nil => simp
  | cons y ys ih => rw [List.flatMap_cons, List.length_append, ih, he, List.length_cons, Nat.add_mul]; omega
theorem flat_get {α : Type} {enc : α → List Value} {sz : Nat} (he : ∀ y, (enc y).length = sz) (hsz : 0 < sz) : ∀ (ys : List α) (p : Nat), (ys.flatMap enc)[p]? = (ys[p / sz]?).bind (fun y => (enc y)[p % sz]?)
  | [], p => by simp
  | y :: ys, p => by
    rw [List.flatMap_cons]
    by_cases hp : p < sz
    · rw [List.getElem?_append_left (by rw [he]; exact hp), Nat.div_eq_of_lt hp, Nat.mod_eq_of_lt hp]; rfl
    · rw [List.getElem?_append_right (by rw [he]; omega), he, flat_get he hsz ys (p - sz)]
      obtain ⟨q, rfl⟩ : ∃ q, p = q + sz := ⟨p - sz, by omega⟩
      rw [Nat.add_sub_cancel, Nat.add_div_right _ hsz, Nat.add_mod_right]
      rfl
theorem row_flat {α : Type} {enc : α → List Value} {sz B : Nat} {w : World} {v : Value} {xs : List α} (he : ∀ y, (enc y).length = sz) (hsz : 0 < sz) (h : Row B sz enc w v xs) (h0 : 0 < xs.length) :
    ∃ b o cap, v = .slice (some ⟨b, o, none⟩) xs.length cap ∧ b < B ∧ ∀ p u, (xs.flatMap enc)[p]? = some u → w.cell? ⟨b, o + p, none⟩ = some u := by
  obtain ⟨b, o, cap, e, hb, _, _, hx⟩ := h.open_ h0
  refine ⟨b, o, cap, e, hb, fun p u hp => ?_⟩
  rw [flat_get he hsz] at hp
  cases hm : xs[p / sz]? with
  | none => rw [hm] at hp; cases hp
  | some m =>
    rw [hm] at hp
    have := hx _ m hm _ u hp
    rwa [Nat.add_assoc, Nat.mul_comm, Nat.div_add_mod] at this
theorem run_append_none {P : Program} {w : World} (base : Nat) (t ty e : TypeId) (i : TypeInfo) (size : Nat) (ht : P.underlying t = some (.slice e)) (hi : P.info? e = some i)
    (v : Value) (n c : Nat) (xs : List Value) (hown : w.ownsRow base e size v n xs) :
    (Builtin.append_ #[t, t] ty #[v, .slice none 0 c]).run P w = .ok v w := by
  rcases hown.2 with ⟨rfl, rfl⟩ | ⟨g, cap, cur, rfl, _, _, hnc, _⟩
  · simp [Builtin.append_, run_underlying ht, sizeOf, typeInfo, hi, Builtin.lenOf, Builtin.firstCells]
  · simp [Builtin.append_, run_underlying ht, sizeOf, typeInfo, hi, Builtin.lenOf, Builtin.firstCells, hnc, storeCells]
theorem grown_refl (w : World) (o : Option Nat) : w.grownBy w o := ⟨rfl, rfl, rfl, Nat.le_refl _, fun _ _ _ => rfl⟩
theorem wpList_append_row {P : Program} {ops : Array Oper} {rest : List Oper} {o : Oper} {a : Act} {Q : Exit → Act → World → Prop} (hgd : o.guard = none) (s x : Operand) (t : TypeId)
    (ho : o.op = .call { callee := .builtin .append, args := #[s, x], argTypes := #[t, t] })
    (base : Nat) (e : TypeId) (i : TypeInfo) (z : Value) (size bytes : Nat) (ht : P.underlying t = some (.slice e)) (hi : P.info? e = some i) (hz : i.zero = some z)
    (hsize : i.size = size) (hby : i.bytes = bytes) (hzs : z.cells.size = size) (hsz : 0 < size)
    (w : World) (v : Value) (n : Nat) (xs : List Value) (hs : a.eval s = v) (hown : w.ownsRow base e size v n xs)
    {α : Type} {enc : α → List Value} (he : ∀ y, (enc y).length = size) (h1 : ∀ y, ∀ u ∈ enc y, u.oneCell' = true) (B : Nat) (vx : Value) (ys : List α) (hrow : Row B size enc w vx ys) (hx : a.eval x = vx)
    (h63 : n + ys.length ≤ maxLen) (hbytes : (n + ys.length) * bytes ≤ 140737488355328) (hbase : base ≤ w.heap.size)
    (h : ∀ v' w', w'.ownsRow base e size v' (n + ys.length) (xs ++ ys.flatMap enc) → w.grownBy w' v.ownBlock → wpList P ops Q rest (a.put o.dst v') w') :
    wpList P ops Q (o :: rest) a w := by
  have hone : ∀ u ∈ ys.flatMap enc, u.oneCell' = true := by
    intro u hu
    obtain ⟨y, _, hy⟩ := List.mem_flatMap.1 hu
    exact h1 y u hy
  rcases Nat.eq_zero_or_pos ys.length with h0 | h0
  · have hy : ys = [] := List.length_eq_zero_iff.1 h0
    subst hy
    obtain ⟨s0, cap, rfl, hl, hc, _⟩ := hrow
    cases s0 with
    | none =>
      refine wpList_plain hgd fun K hK => ?_
      have hrun := run_append_none (P := P) (w := w) base t o.type e i size ht hi v n cap xs hown
      unfold Oper.wp
      simp [execOp, ho, resolve, invoke, builtin, hs, hx, hrun, Result.andThen]
      exact hK _ _ (h v w (by simpa using hown) (grown_refl _ _))
    | some ad =>
      refine wpList_append_own _ hgd s x t ho base e i z size bytes ht hi hz hsize hby hzs hsz v n xs hs hown ad 0 cap [] (by simpa using hx) (by simp) (fun j u hj => by simp at hj) (fun u hu => by simp at hu) (by simpa using h63) (by simpa using hbytes) hbase (fun v' w' h2 h3 _ => h v' w' (by simpa using h2) h3)
  · obtain ⟨b, o', cap, rfl, hb, hc⟩ := row_flat he hsz hrow h0
    refine wpList_append_own _ hgd s x t ho base e i z size bytes ht hi hz hsize hby hzs hsz v n xs hs hown ⟨b, o', none⟩ ys.length cap (ys.flatMap enc) hx (flat_len he ys) (fun j u hj => ?_) hone h63 hbytes hbase (fun v' w' h2 h3 _ => h v' w' h2 h3)
    rw [show (⟨b, o', none⟩ : Addr).add j = ⟨b, o' + j, none⟩ by unfold Addr.add; split <;> simp_all]
    exact hc j u hj
theorem St.enc_len (s : St) : s.enc.length = 15 := rfl
theorem St.enc_one (s : St) : ∀ u ∈ s.enc, u.oneCell' = true := by
  intro u hu
  simp only [St.enc, Re.enc, Co.enc, List.cons_append, List.nil_append, List.mem_cons, List.not_mem_nil, or_false] at hu
  rcases hu with rfl | rfl | rfl | rfl | rfl | rfl | rfl | rfl | rfl | rfl | rfl | rfl | rfl | rfl | rfl <;> rfl
theorem infoSt : (Tryd.prog.info? 32).map (fun i => (i.zero, i.size, i.bytes)) = some (some (.agg #[.int .u8 0, .int .i64 0, .int .i64 0, .int .i64 0, .int .i64 0, .int .u8 0, .int .u8 0, .int .u8 0, .int .u8 0, .int .u8 0, .int .u8 0, .int .u8 0, .int .u8 0, .string ⟨#[]⟩, .int .i64 0]), 15, 72) := by kernel_rfl
/-- What a call hands out: a row of its own. -/
def Owns (base : Nat) (w : World) (v : Value) (xs : List St) : Prop := w.ownsRow base 32 15 v xs.length (xs.flatMap St.enc)
theorem Owns.row {base B : Nat} {w : World} {v : Value} {xs : List St} (h : Owns base w v xs) (hB : w.heap.size ≤ B) : Row B 15 St.enc w v xs := Row.own St.enc_len h hB (by omega)
theorem Owns.below {base B : Nat} {w w' : World} {v : Value} {xs : List St} (h : Owns base w v xs) (hb : Below B w w') (hB : w.heap.size ≤ B) : Owns base w' v xs := ownsRow_below h hb hB
theorem Owns.nil (base : Nat) (w : World) : Owns base w (.slice none 0 0) [] := World.ownsRow_nil _ _ _ _
end
section
set_option linter.unusedSimpArgs false
set_option linter.unusedVariables false
def sameL : List St → List St → Bool
  | [], [] => true
  | x :: xs, y :: ys => x.eqb y && sameL xs ys
  | _, _ => false
theorem sameL_len : ∀ {xs ys : List St}, xs.length ≠ ys.length → sameL xs ys = false
  | [], [], h => absurd rfl h
  | [], _ :: _, _ => rfl
  | _ :: _, [], _ => rfl
  | x :: xs, y :: ys, h => by
    unfold sameL
    rw [sameL_len (by simpa using h), Bool.and_false]
theorem St.eqb_refl (s : St) : s.eqb s = true := by simp [St.eqb, Re.eqb, Co.eqb, eq4]
theorem sameL_refl : ∀ xs : List St, sameL xs xs = true
  | [] => rfl
  | x :: xs => by unfold sameL; rw [x.eqb_refl, sameL_refl xs]; rfl
theorem same_step {xs ys : List St} {k : Nat} {x y : St} (hx : xs[k]? = some x) (hy : ys[k]? = some y) : sameL (xs.drop k) (ys.drop k) = (x.eqb y && sameL (xs.drop (k + 1)) (ys.drop (k + 1))) := by
  obtain ⟨hk, e⟩ := List.getElem?_eq_some_iff.1 hx
  obtain ⟨hk', e'⟩ := List.getElem?_eq_some_iff.1 hy
  rw [List.drop_eq_getElem_cons hk, e, List.drop_eq_getElem_cons hk', e']
  rfl
theorem neq_stroke (w : World) (k x y wd ht c0 c1 c2 c3 b0 b1 b2 b3 n k' x' y' wd' ht' c0' c1' c2' c3' b0' b1' b2' b3' n' : Int) (t t' : ByteArray) :
    (binOp .neq 32 (.agg #[.int .u8 k, .int .i64 x, .int .i64 y, .int .i64 wd, .int .i64 ht, .int .u8 c0, .int .u8 c1, .int .u8 c2, .int .u8 c3, .int .u8 b0, .int .u8 b1, .int .u8 b2, .int .u8 b3, .string t, .int .i64 n]) (.agg #[.int .u8 k', .int .i64 x', .int .i64 y', .int .i64 wd', .int .i64 ht', .int .u8 c0', .int .u8 c1', .int .u8 c2', .int .u8 c3', .int .u8 b0', .int .u8 b1', .int .u8 b2', .int .u8 b3', .string t', .int .i64 n'])).run Tryd.prog w
      = .ok (.bool (!St.eqb ⟨k, ⟨x, y, wd, ht⟩, ⟨c0, c1, c2, c3⟩, ⟨b0, b1, b2, b3⟩, t, n⟩ ⟨k', ⟨x', y', wd', ht'⟩, ⟨c0', c1', c2', c3'⟩, ⟨b0', b1', b2', b3'⟩, t', n'⟩)) w := by
  rw [run_neq_struct]
  have h := eq_stroke 9996 w ⟨k, ⟨x, y, wd, ht⟩, ⟨c0, c1, c2, c3⟩, ⟨b0, b1, b2, b3⟩, t, n⟩ ⟨k', ⟨x', y', wd', ht'⟩, ⟨c0', c1', c2', c3'⟩, ⟨b0', b1', b2', b3'⟩, t', n'⟩
  simp only at h
  rw [h]
  rfl
attribute [local go_sem high] neq_stroke
set_option maxHeartbeats 2000000 in
set_option maxRecDepth 100000 in
theorem rsame_any (xs ys : List St) (v1 v2 : Value) (w : World) (h1 : Row w.heap.size 15 St.enc w v1 xs) (h2 : Row w.heap.size 15 St.enc w v2 ys) (hmany : xs.length ≤ 40000) (hmany2 : ys.length ≤ 40000) : Calls Tryd.prog 10 #[v1, v2] w fun e w' => e = .returned (.bool (sameL xs ys)) ∧ Below w.heap.size w w' := by
  obtain ⟨s1, c1, rfl, hmax1⟩ := h1.shape
  obtain ⟨s2, c2, rfl, hmax2⟩ := h2.shape
  have o1 := fun h0 => row_st h1 h0
  have o2 := fun h0 => row_st h2 h0
  clear h1 h2
  obtain ⟨n, en⟩ : ∃ n, xs.length = n := ⟨_, rfl⟩
  obtain ⟨m, em⟩ : ∃ m, ys.length = m := ⟨_, rfl⟩
  by_cases hnm : n = m
  · subst hnm
    rw [en] at o1 hmany hmax1 ⊢
    rw [em] at o2 hmany2 hmax2 ⊢
    replace o1 := Lib.hid o1
    replace o2 := Lib.hid o2
    replace en := Lib.hid en
    replace em := Lib.hid em
    obtain ⟨res, hres⟩ : ∃ r, sameL xs ys = r := ⟨_, rfl⟩
    rw [hres]
    go_enter Tryd.func10, Tryd.ntmps10
    go_wp2
    go_loopw [5] (fun i wr => ∃ k : Nat, k ≤ n ∧ i = .int .i64 k ∧ sameL (xs.drop k) (ys.drop k) = res ∧ Below w.heap.size w wr) (fun i _ => n - (intOf i).toNat)
    case atStart => exact ⟨0, Nat.zero_le _, rfl, by simpa using hres, (by repeat (first | exact Below.refl _ _ | assumption | refine Below.drew ?_ | refine Below.alloc ?_ (by (try simp) <;> omega) _ | refine Below.setCell ?_ (by (try simp) <;> omega) _))⟩
    case round =>
      obtain ⟨k, hk, rfl, hgo, hbr⟩ := hrel
      clear hres
      have zr := hbr.size
      obtain ⟨hcr, hfr⟩ := bcell hbr
      by_cases hkn : k < n
      · obtain ⟨b, p, cap', e, hb, _, _, hel⟩ := o1.out (by omega)
        simp at e
        obtain ⟨rfl, rfl⟩ := e
        obtain ⟨b', p', cap', e, hb', _, _, hex⟩ := o2.out (by omega)
        simp at e
        obtain ⟨rfl, rfl⟩ := e
        obtain ⟨s, hs⟩ : ∃ s, xs[k]? = some s := ⟨xs[k]'(by have := en.out; omega), List.getElem?_eq_getElem _⟩
        obtain ⟨t, ht⟩ : ∃ s, ys[k]? = some s := ⟨ys[k]'(by have := em.out; omega), List.getElem?_eq_getElem _⟩
        obtain ⟨g0, g1, g2, g3, g4, g5, g6, g7, g8, g9, g10, g11, g12, g13, g14⟩ := hel k s hs
        obtain ⟨j0, j1, j2, j3, j4, j5, j6, j7, j8, j9, j10, j11, j12, j13, j14⟩ := hex k t ht
        rw [same_step hs ht] at hgo
        have hkk : (k : Int) < n := by omega
        have yb : b < wr.heap.size := by omega
        have yb' : b' < wr.heap.size := by omega
        clear hel hex hs ht
        obtain ⟨kd, ⟨x, y, wd, ht⟩, ⟨q0, q1, q2, q3⟩, ⟨r0, r1, r2, r3⟩, tx, nd⟩ := s
        obtain ⟨kd', ⟨x', y', wd', ht'⟩, ⟨q0', q1', q2', q3'⟩, ⟨r0', r1', r2', r3'⟩, tx', nd'⟩ := t
        simp only at g0 g1 g2 g3 g4 g5 g6 g7 g8 g9 g10 g11 g12 g13 g14 j0 j1 j2 j3 j4 j5 j6 j7 j8 j9 j10 j11 j12 j13 j14
        obtain ⟨bb, hc⟩ : ∃ bb, St.eqb ⟨kd, ⟨x, y, wd, ht⟩, ⟨q0, q1, q2, q3⟩, ⟨r0, r1, r2, r3⟩, tx, nd⟩ ⟨kd', ⟨x', y', wd', ht'⟩, ⟨q0', q1', q2', q3'⟩, ⟨r0', r1', r2', r3'⟩, tx', nd'⟩ = bb := ⟨_, rfl⟩
        rw [hc] at hgo
        cases bb
        · rw [Bool.false_and] at hgo
          subst hgo
          go_wp2
          refine wp_region_steady (Held wr 0 []) (by kernel_rfl) (by kernel_rfl) ⟨(by repeat (first | exact Below.refl _ _ | assumption | refine Below.drew ?_ | refine Below.alloc ?_ (by (try simp) <;> omega) _ | refine Below.setCell ?_ (by (try simp) <;> omega) _ | (refine Below.trans ?_ (Below.mono (by assumption) (by (try simp) <;> omega))))), (by (try simp) <;> omega), (by first | exact trivial | (simp only [Cells]; go_simp))⟩ ?_
          repeat (first | (refine' wpSteady_do _ _ _; rotate_left; (focus rfl); (focus (intro w1 hS R hR; have hc := hS.cells; simp only [Cells] at hc; obtain ⟨hco, hfo⟩ := bcell hS.old; go_simp; (try go_bits); first | exact hR _ hS | fail)); simp only [Act.put, List.setIfInBounds_toArray, List.set_cons_zero, List.set_cons_succ]) | (refine wpSteady_pass ?_ ?_; (focus rfl); simp only [Act.put, List.setIfInBounds_toArray, List.set_cons_zero, List.set_cons_succ]))
          refine wpSteady_nil (fun uA hSA => ?_)
          have hcA := hSA.cells; have hbA := hSA.old; have hzA := hSA.size; clear hSA; simp only [Cells] at hcA; obtain ⟨hcoA, hfoA⟩ := bcell hbA
          go_wp2
          go_ret
          exact ⟨rfl, hbr.trans (hbA.mono zr)⟩
        · rw [Bool.true_and] at hgo
          replace hgo := Lib.hid hgo
          go_wp2
          refine wp_region_steady (Held wr 0 []) (by kernel_rfl) (by kernel_rfl) ⟨(by repeat (first | exact Below.refl _ _ | assumption | refine Below.drew ?_ | refine Below.alloc ?_ (by (try simp) <;> omega) _ | refine Below.setCell ?_ (by (try simp) <;> omega) _ | (refine Below.trans ?_ (Below.mono (by assumption) (by (try simp) <;> omega))))), (by (try simp) <;> omega), (by first | exact trivial | (simp only [Cells]; go_simp))⟩ ?_
          repeat (first | (refine' wpSteady_do _ _ _; rotate_left; (focus rfl); (focus (intro w1 hS R hR; have hc := hS.cells; simp only [Cells] at hc; obtain ⟨hco, hfo⟩ := bcell hS.old; go_simp; (try go_bits); first | exact hR _ hS | fail)); simp only [Act.put, List.setIfInBounds_toArray, List.set_cons_zero, List.set_cons_succ]) | (refine wpSteady_pass ?_ ?_; (focus rfl); simp only [Act.put, List.setIfInBounds_toArray, List.set_cons_zero, List.set_cons_succ]))
          refine wpSteady_nil (fun uA hSA => ?_)
          have hcA := hSA.cells; have hbA := hSA.old; have hzA := hSA.size; clear hSA; simp only [Cells] at hcA; obtain ⟨hcoA, hfoA⟩ := bcell hbA
          go_wp2
          go_roundw
          case rel => exact ⟨k + 1, by omega, by go_num, hgo.out, hbr.trans (hbA.mono zr)⟩
          case measure => simp [intOf]; omega
      · obtain rfl : k = n := by omega
        have e1 : xs.drop k = [] := List.drop_eq_nil_of_le (by have := en.out; omega)
        have e2 : ys.drop k = [] := List.drop_eq_nil_of_le (by have := em.out; omega)
        rw [e1, e2] at hgo
        clear e1 e2
        have hgo : true = res := hgo
        subst hgo
        go_wp2
        go_ret
        exact ⟨rfl, hbr⟩
  · rw [sameL_len (by rw [en, em]; exact hnm)]
    rw [en] at hmax1 ⊢
    rw [em] at hmax2 ⊢
    have hni : ¬ (n : Int) = m := by omega
    clear o1 o2
    go_enter Tryd.func10, Tryd.ntmps10
    go_wp2
    go_ret
    exact ⟨rfl, (by repeat (first | exact Below.refl _ _ | assumption | refine Below.drew ?_ | refine Below.alloc ?_ (by (try simp) <;> omega) _ | refine Below.setCell ?_ (by (try simp) <;> omega) _))⟩
end
end Go.Proofs.YtpbolbpenkfpiaaDoor
