/-
  Rows of rectangles, spans and numbers.
-/
import Derived.Test.YtlklmncjicgbgaaLisE
import Derived.Test.YtlklmncjicgbgaaTwo
import Derived.Laws.AppendOwnNone
import Derived.OneCell
namespace Go.Proofs.Ytlklmncjicgbgaa
open Go.RowKit
set_option linter.unusedVariables false
attribute [local go_sem] vwp vUpon_value vUpon_skip vUpon_enter vUpon_row
set_option linter.unusedSimpArgs false
set_option linter.unusedVariables false
theorem flat_len {α : Type} {enc : α → List Value} {sz : Nat} (he : ∀ y, (enc y).length = sz) (ys : List α) : (ys.flatMap enc).length = ys.length * sz := by
  induction ys with
  | nil => simp
  | cons y ys ih => rw [List.flatMap_cons, List.length_append, ih, he, List.length_cons, Nat.add_mul]; omega
theorem flat_get {α : Type} {enc : α → List Value} {sz : Nat} (he : ∀ y, (enc y).length = sz) (hsz : 0 < sz) : ∀ (ys : List α) (p : Nat), (ys.flatMap enc)[p]? = (ys[p / sz]?).bind (fun y => (enc y)[p % sz]?)
  | [], p => by simp
  | y :: ys, p => by
    rw [List.flatMap_cons]
    by_cases hp : p < sz
    · rw [List.getElem?_append_left (by rw [he]; exact hp), Nat.div_eq_of_lt hp, Nat.mod_eq_of_lt hp]; rfl
    · rw [List.getElem?_append_right (by rw [he]; omega), he, flat_get he hsz ys (p - sz)]
      obtain ⟨q, rfl⟩ : ∃ q, p = q + sz := ⟨p - sz, by omega⟩
      rw [Nat.add_sub_cancel, Nat.add_div_right _ hsz, Nat.add_mod_right]
      rfl
theorem row_flat {α : Type} {enc : α → List Value} {sz B : Nat} {w : World} {v : Value} {xs : List α} (he : ∀ y, (enc y).length = sz) (hsz : 0 < sz) (h : Row B sz enc w v xs) (h0 : 0 < xs.length) :
    ∃ b o cap, v = .slice (some ⟨b, o, none⟩) xs.length cap ∧ b < B ∧ ∀ p u, (xs.flatMap enc)[p]? = some u → w.cell? ⟨b, o + p, none⟩ = some u := by
  obtain ⟨b, o, cap, e, hb, _, _, hx⟩ := h.open_ h0
  refine ⟨b, o, cap, e, hb, fun p u hp => ?_⟩
  rw [flat_get he hsz] at hp
  cases hm : xs[p / sz]? with
  | none => rw [hm] at hp; cases hp
  | some m =>
    rw [hm] at hp
    have := hx _ m hm _ u hp
    rwa [Nat.add_assoc, Nat.mul_comm, Nat.div_add_mod] at this
theorem run_append_none {P : Program} {w : World} (base : Nat) (t ty e : TypeId) (i : TypeInfo) (size : Nat) (ht : P.underlying t = some (.slice e)) (hi : P.info? e = some i)
    (v : Value) (n c : Nat) (xs : List Value) (hown : w.ownsRow base e size v n xs) :
    (Builtin.append_ #[t, t] ty #[v, .slice none 0 c]).run P w = .ok v w := by
  rcases hown.2 with ⟨rfl, rfl⟩ | ⟨g, cap, cur, rfl, _, _, hnc, _⟩
  · simp [Builtin.append_, run_underlying ht, sizeOf, typeInfo, hi, Builtin.lenOf, Builtin.firstCells]
  · simp [Builtin.append_, run_underlying ht, sizeOf, typeInfo, hi, Builtin.lenOf, Builtin.firstCells, hnc, storeCells]
theorem grown_refl (w : World) (o : Option Nat) : w.grownBy w o := ⟨rfl, rfl, rfl, Nat.le_refl _, fun _ _ _ => rfl⟩
theorem wpList_append_row {P : Program} {ops : Array Oper} {rest : List Oper} {o : Oper} {a : Act} {Q : Exit → Act → World → Prop} (hgd : o.guard = none) (s x : Operand) (t : TypeId)
    (ho : o.op = .call { callee := .builtin .append, args := #[s, x], argTypes := #[t, t] })
    (base : Nat) (e : TypeId) (i : TypeInfo) (z : Value) (size bytes : Nat) (ht : P.underlying t = some (.slice e)) (hi : P.info? e = some i) (hz : i.zero = some z)
    (hsize : i.size = size) (hby : i.bytes = bytes) (hzs : z.cells.size = size) (hsz : 0 < size)
    (w : World) (v : Value) (n : Nat) (xs : List Value) (hs : a.eval s = v) (hown : w.ownsRow base e size v n xs)
    {α : Type} {enc : α → List Value} (he : ∀ y, (enc y).length = size) (h1 : ∀ y, ∀ u ∈ enc y, u.oneCell' = true) (B : Nat) (vx : Value) (ys : List α) (hrow : Row B size enc w vx ys) (hx : a.eval x = vx)
    (h63 : n + ys.length ≤ maxLen) (hbytes : (n + ys.length) * bytes ≤ 140737488355328) (hbase : base ≤ w.heap.size)
    (h : ∀ v' w', w'.ownsRow base e size v' (n + ys.length) (xs ++ ys.flatMap enc) → w.grownBy w' v.ownBlock → wpList P ops Q rest (a.put o.dst v') w') :
    wpList P ops Q (o :: rest) a w := by
  have hone : ∀ u ∈ ys.flatMap enc, u.oneCell' = true := by
    intro u hu
    obtain ⟨y, _, hy⟩ := List.mem_flatMap.1 hu
    exact h1 y u hy
  rcases Nat.eq_zero_or_pos ys.length with h0 | h0
  · have hy : ys = [] := List.length_eq_zero_iff.1 h0
    subst hy
    obtain ⟨s0, cap, rfl, hl, hc, _⟩ := hrow
    cases s0 with
    | none =>
      refine wpList_plain hgd fun K hK => ?_
      have hrun := run_append_none (P := P) (w := w) base t o.type e i size ht hi v n cap xs hown
      unfold Oper.wp
      simp [execOp, ho, resolve, invoke, builtin, hs, hx, hrun, Result.andThen]
      exact hK _ _ (h v w (by simpa using hown) (grown_refl _ _))
    | some ad =>
      refine wpList_append_own _ hgd s x t ho base e i z size bytes ht hi hz hsize hby hzs hsz v n xs hs hown ad 0 cap [] (by simpa using hx) (by simp) (fun j u hj => by simp at hj) (fun u hu => by simp at hu) (by simpa using h63) (by simpa using hbytes) hbase (fun v' w' h2 h3 _ => h v' w' (by simpa using h2) h3)
  · obtain ⟨b, o', cap, rfl, hb, hc⟩ := row_flat he hsz hrow h0
    refine wpList_append_own _ hgd s x t ho base e i z size bytes ht hi hz hsize hby hzs hsz v n xs hs hown ⟨b, o', none⟩ ys.length cap (ys.flatMap enc) hx (flat_len he ys) (fun j u hj => ?_) hone h63 hbytes hbase (fun v' w' h2 h3 _ => h v' w' h2 h3)
    rw [show (⟨b, o', none⟩ : Addr).add j = ⟨b, o' + j, none⟩ by unfold Addr.add; split <;> simp_all]
    exact hc j u hj
theorem flat_set {α : Type} {enc : α → List Value} {sz : Nat} (he : ∀ y, (enc y).length = sz) (i : Nat) (u : Value) (y y' : α) (hi : i < sz) (h : (enc y).set i u = enc y') : ∀ (ys : List α) (k : Nat), ys[k]? = some y → (ys.flatMap enc).set (k * sz + i) u = (ys.set k y').flatMap enc
  | [], k, hk => by simp at hk
  | z :: ys, 0, hk => by
    simp at hk; subst hk
    rw [List.flatMap_cons, List.set_cons_zero, List.flatMap_cons, List.set_append, if_pos (by rw [he]; omega), Nat.zero_mul, Nat.zero_add, h]
  | z :: ys, k + 1, hk => by
    rw [List.flatMap_cons, List.set_cons_succ, List.flatMap_cons, List.set_append, if_neg (by rw [he, Nat.add_mul]; omega), he, ← flat_set he i u y y' hi h ys k (by simpa using hk)]
    congr 2
    rw [Nat.add_mul]; omega
theorem own_put {w : World} {base g n cap k sz : Nat} {e : TypeId} {cs : List Value} (h : w.ownsRow base e sz (.slice (some ⟨g, 0, none⟩) n cap) n cs) (hk : k < n * sz) (u : Value) : (w.setCell ⟨g, k, none⟩ u).ownsRow base e sz (.slice (some ⟨g, 0, none⟩) n cap) n (cs.set k u) := by
  obtain ⟨hl, h2⟩ := h
  rcases h2 with ⟨h0, _⟩ | ⟨g', cap', cur, hv, hg, hh, hnc, hcm, hcur, htake⟩
  · cases h0
  · injection hv with hv _ hc
    injection hv with hv
    injection hv with hv _ _
    subst hv
    subst hc
    refine ⟨by rw [List.length_set]; exact hl, .inr ⟨g, cap, _, rfl, hg, heap_setCell_same _ _ _ _ _ _ hh, hnc, hcm, by simpa using hcur, ?_⟩⟩
    rw [Array.toList_setIfInBounds, ← htake, List.take_set]
theorem own_slice {w : World} {base : Nat} {e : TypeId} {size n : Nat} {v : Value} {xs : List Value} (h : w.ownsRow base e size v n xs) : ∃ s cap, v = .slice s n cap := by
  rcases h.2 with ⟨rfl, rfl⟩ | ⟨g, cap, cur, rfl, _⟩
  · exact ⟨_, _, rfl⟩
  · exact ⟨_, _, rfl⟩
theorem own_addr {w : World} {base : Nat} {e : TypeId} {size n cap : Nat} {s : Option Addr} {xs : List Value} (h : w.ownsRow base e size (.slice s n cap) n xs) (hn : 0 < n) : ∃ g, s = some ⟨g, 0, none⟩ ∧ base ≤ g ∧ g < w.heap.size := by
  rcases h.2 with ⟨h1, h2⟩ | ⟨g, cap, cur, e, hg, hh, _⟩
  · omega
  · injection e with e _ _
    exact ⟨g, e, hg, lt_of_block hh⟩
theorem Re.enc_len (q : Re) : q.enc.length = 4 := rfl
theorem Re.enc_one (q : Re) : ∀ u ∈ q.enc, u.oneCell' = true := by
  intro u hu
  simp only [Re.enc, List.mem_cons, List.not_mem_nil, or_false] at hu
  rcases hu with rfl | rfl | rfl | rfl <;> rfl
theorem infoRe : (Try.prog.info? 49).map (fun i => (i.zero, i.size, i.bytes)) = some (some (.agg #[.int .i64 0, .int .i64 0, .int .i64 0, .int .i64 0]), 4, 32) := by kernel_rfl
/-- A row of the call's own, of rectangles. -/
def OwnsR (base : Nat) (w : World) (v : Value) (rs : List Re) : Prop := w.ownsRow base 49 4 v rs.length (rs.flatMap Re.enc)
theorem OwnsR.row {base B : Nat} {w : World} {v : Value} {rs : List Re} (h : OwnsR base w v rs) (hB : w.heap.size ≤ B) : Row B 4 Re.enc w v rs := Row.own Re.enc_len h hB (by omega)
theorem OwnsR.below {base B : Nat} {w w' : World} {v : Value} {rs : List Re} (h : OwnsR base w v rs) (hb : Below B w w') (hB : w.heap.size ≤ B) : OwnsR base w' v rs := ownsRow_below h hb hB
theorem Blk.ownsR {base g : Nat} {w : World} {rs : List Re} {n : Nat} (h : Blk w g (rs.flatMap Re.enc) 49) (hn : rs.length = n) (hg : base ≤ g) (hm : n ≤ maxLen) : OwnsR base w (.slice (some ⟨g, 0, none⟩) n n) rs := by
  unfold OwnsR
  rw [hn]
  refine ⟨by rw [flat_len Re.enc_len, hn], .inr ⟨g, n, _, rfl, hg, h, Nat.le_refl _, hm, ?_, ?_⟩⟩
  · simp [flat_len Re.enc_len, hn]
  · rw [List.take_of_length_le (by rw [flat_len Re.enc_len, hn]; omega)]
/-- A store elsewhere leaves it. -/
theorem own_other {w : World} {base n sz : Nat} {e : TypeId} {v : Value} {cs : List Value} (h : w.ownsRow base e sz v n cs) {a : Addr} (ha : ∀ g, v.ownBlock = some g → g ≠ a.block) (u : Value) : (w.setCell a u).ownsRow base e sz v n cs := by
  obtain ⟨h1, h2⟩ := h
  refine ⟨h1, ?_⟩
  rcases h2 with h2 | ⟨g, cap, cur, rfl, hg, hh, r⟩
  · exact .inl h2
  · refine .inr ⟨g, cap, cur, rfl, hg, ?_, r⟩
    rw [heap_setCell_other _ _ _ _ (ha g rfl)]
    exact hh
theorem own_block_lt {w : World} {base n sz : Nat} {e : TypeId} {v : Value} {cs : List Value} (h : w.ownsRow base e sz v n cs) : ∀ g, v.ownBlock = some g → base ≤ g ∧ g < w.heap.size := by
  intro g hg
  rcases h.2 with ⟨rfl, _⟩ | ⟨g', cap, cur, rfl, hb, hh, _⟩
  · cases hg
  · simp [Value.ownBlock] at hg
    subst hg
    exact ⟨hb, lt_of_block hh⟩
/-- The cells of one of its rectangles. -/
def RMem (w : World) (b p : Nat) (q : Re) : Prop := w.cell? ⟨b, p, none⟩ = some (.int .i64 q.x) ∧ w.cell? ⟨b, p + 1, none⟩ = some (.int .i64 q.y) ∧ w.cell? ⟨b, p + 2, none⟩ = some (.int .i64 q.wd) ∧ w.cell? ⟨b, p + 3, none⟩ = some (.int .i64 q.ht)
theorem row_re {B : Nat} {w : World} {v : Value} {rs : List Re} (h : Row B 4 Re.enc w v rs) (h0 : 0 < rs.length) :
    ∃ b o cap, v = .slice (some ⟨b, o, none⟩) rs.length cap ∧ b < B ∧ rs.length ≤ cap ∧ cap ≤ maxLen ∧ ∀ j q, rs[j]? = some q → RMem w b (o + j * 4) q := by
  obtain ⟨b, o, cap, e, hb, h1, h2, hx⟩ := h.open_ h0
  exact ⟨b, o, cap, e, hb, h1, h2, fun j s hj => ⟨hx j s hj 0 _ rfl, hx j s hj 1 _ rfl, hx j s hj 2 _ rfl, hx j s hj 3 _ rfl⟩⟩
theorem own_rmem {w : World} {base g n cap k : Nat} {rs : List Re} {q : Re} (h : OwnsR base w (.slice (some ⟨g, 0, none⟩) n cap) rs) (hs : rs[k]? = some q) : RMem w g (k * 4) q := by
  obtain ⟨b, o, cap', e, _, _, _, hx⟩ := row_re (h.row (Nat.le_refl _)) (by have := (List.getElem?_eq_some_iff.1 hs).1; omega)
  injection e with e _ _
  injection e with e
  injection e with e1 e2 _
  subst e1
  subst e2
  have := hx k q hs
  rwa [Nat.zero_add] at this
theorem RMem.below {w w' : World} {b p B : Nat} {q : Re} (h : RMem w b p q) (hb : Below B w w') (hB : b < B) : RMem w' b p q := by
  obtain ⟨g0, g1, g2, g3⟩ := h
  exact ⟨(hb.cell (p := ⟨b, p, none⟩) hB).trans g0, (hb.cell (p := ⟨b, p + 1, none⟩) hB).trans g1, (hb.cell (p := ⟨b, p + 2, none⟩) hB).trans g2, (hb.cell (p := ⟨b, p + 3, none⟩) hB).trans g3⟩
theorem drop_get {α : Type} {l : List α} {k : Nat} {a : α} (h : l[k]? = some a) : l.drop k = a :: l.drop (k + 1) := by
  obtain ⟨hk, e⟩ := List.getElem?_eq_some_iff.1 h
  rw [List.drop_eq_getElem_cons hk, e]
theorem blk_rmem {w : World} {b k : Nat} {D : List Re} {q : Re} {e : TypeId} (h : Blk w b (D.flatMap Re.enc) e) (hq : D[k]? = some q) : RMem w b (k * 4) q := by
  have key : ∀ i u, i < 4 → q.enc[i]? = some u → w.cell? ⟨b, k * 4 + i, none⟩ = some u := by
    intro i u hi hu
    refine h.cell ?_
    rw [flat_get Re.enc_len (by omega)]
    rw [show (k * 4 + i) / 4 = k by omega, show (k * 4 + i) % 4 = i by omega, hq]
    exact hu
  exact ⟨key 0 _ (by omega) rfl, key 1 _ (by omega) rfl, key 2 _ (by omega) rfl, key 3 _ (by omega) rfl⟩
/-! ### spans and numbers -/
def encS (s : Int × Int) : List Value := [.int .i64 s.1, .int .i64 s.2]
theorem encS_len (s : Int × Int) : (encS s).length = 2 := rfl
theorem encI_len (n : Int) : (encI n).length = 1 := rfl
theorem infoSp : (Try.prog.info? 63).map (fun i => (i.zero, i.size, i.bytes)) = some (some (.agg #[.int .i64 0, .int .i64 0]), 2, 16) := by kernel_rfl
theorem infoIn : (Try.prog.info? 3).map (fun i => (i.zero, i.size, i.bytes)) = some (some (.int .i64 0), 1, 8) := by kernel_rfl
def OwnsS (base : Nat) (w : World) (v : Value) (l : List (Int × Int)) : Prop := w.ownsRow base 63 2 v l.length (l.flatMap encS)
def OwnsI (base : Nat) (w : World) (v : Value) (l : List Int) : Prop := w.ownsRow base 3 1 v l.length (l.flatMap encI)
theorem OwnsS.row {base B : Nat} {w : World} {v : Value} {l : List (Int × Int)} (h : OwnsS base w v l) (hB : w.heap.size ≤ B) : Row B 2 encS w v l := Row.own encS_len h hB (by omega)
theorem OwnsI.row {base B : Nat} {w : World} {v : Value} {l : List Int} (h : OwnsI base w v l) (hB : w.heap.size ≤ B) : Row B 1 encI w v l := Row.own encI_len h hB (by omega)
theorem OwnsS.below {base B : Nat} {w w' : World} {v : Value} {l : List (Int × Int)} (h : OwnsS base w v l) (hb : Below B w w') (hB : w.heap.size ≤ B) : OwnsS base w' v l := ownsRow_below h hb hB
theorem OwnsI.below {base B : Nat} {w w' : World} {v : Value} {l : List Int} (h : OwnsI base w v l) (hb : Below B w w') (hB : w.heap.size ≤ B) : OwnsI base w' v l := ownsRow_below h hb hB
theorem OwnsS.nil (base : Nat) (w : World) : OwnsS base w (.slice none 0 0) [] := World.ownsRow_nil _ _ _ _
theorem OwnsI.nil (base : Nat) (w : World) : OwnsI base w (.slice none 0 0) [] := World.ownsRow_nil _ _ _ _
theorem OwnsR.nil (base : Nat) (w : World) : OwnsR base w (.slice none 0 0) [] := World.ownsRow_nil _ _ _ _
/-- The cells of a span. -/
def SpM (w : World) (b p : Nat) (s : Int × Int) : Prop := w.cell? ⟨b, p, none⟩ = some (.int .i64 s.1) ∧ w.cell? ⟨b, p + 1, none⟩ = some (.int .i64 s.2)
theorem SpM.below {w w' : World} {b p B : Nat} {s : Int × Int} (h : SpM w b p s) (hb : Below B w w') (hB : b < B) : SpM w' b p s := by
  obtain ⟨h0, h1⟩ := h
  exact ⟨(hb.cell (p := ⟨b, p, none⟩) hB).trans h0, (hb.cell (p := ⟨b, p + 1, none⟩) hB).trans h1⟩
theorem row_sp {B : Nat} {w : World} {v : Value} {l : List (Int × Int)} (h : Row B 2 encS w v l) (h0 : 0 < l.length) :
    ∃ b o cap, v = .slice (some ⟨b, o, none⟩) l.length cap ∧ b < B ∧ l.length ≤ cap ∧ cap ≤ maxLen ∧ ∀ j s, l[j]? = some s → SpM w b (o + j * 2) s := by
  obtain ⟨b, o, cap, e, hb, h1, h2, hx⟩ := h.open_ h0
  exact ⟨b, o, cap, e, hb, h1, h2, fun j s hj => ⟨hx j s hj 0 _ rfl, hx j s hj 1 _ rfl⟩⟩
theorem row_in {B : Nat} {w : World} {v : Value} {l : List Int} (h : Row B 1 encI w v l) (h0 : 0 < l.length) :
    ∃ b o cap, v = .slice (some ⟨b, o, none⟩) l.length cap ∧ b < B ∧ l.length ≤ cap ∧ cap ≤ maxLen ∧ ∀ (j : Nat) s, l[j]? = some s → w.cell? ⟨b, o + j, none⟩ = some (.int .i64 s) := by
  obtain ⟨b, o, cap, e, hb, h1, h2, hx⟩ := h.open_ h0
  refine ⟨b, o, cap, e, hb, h1, h2, fun j s hj => ?_⟩
  have := hx j s hj 0 _ rfl
  simpa using this
theorem own_sp {w : World} {base g n cap k : Nat} {l : List (Int × Int)} {s : Int × Int} (h : OwnsS base w (.slice (some ⟨g, 0, none⟩) n cap) l) (hs : l[k]? = some s) : SpM w g (k * 2) s := by
  obtain ⟨b, o, cap', e, _, _, _, hx⟩ := row_sp (h.row (Nat.le_refl _)) (by have := (List.getElem?_eq_some_iff.1 hs).1; omega)
  injection e with e _ _
  injection e with e
  injection e with e1 e2 _
  subst e1
  subst e2
  have := hx k s hs
  rwa [Nat.zero_add] at this
theorem own_int {w : World} {base g n cap k : Nat} {l : List Int} {s : Int} (h : OwnsI base w (.slice (some ⟨g, 0, none⟩) n cap) l) (hs : l[k]? = some s) : w.cell? ⟨g, k, none⟩ = some (.int .i64 s) := by
  obtain ⟨b, o, cap', e, _, _, _, hx⟩ := row_in (h.row (Nat.le_refl _)) (by have := (List.getElem?_eq_some_iff.1 hs).1; omega)
  injection e with e _ _
  injection e with e
  injection e with e1 e2 _
  subst e1
  subst e2
  have := hx k s hs
  rwa [Nat.zero_add] at this
theorem get_at {α : Type} {l : List α} {n k : Nat} (hn : l.length = n) (h : k < n) : ∃ x, l[k]? = some x := ⟨l[k]'(by omega), List.getElem?_eq_getElem _⟩
theorem own_len {w : World} {base n cap sz : Nat} {e : TypeId} {s : Option Addr} {cs : List Value} (h : w.ownsRow base e sz (.slice s n cap) n cs) : n ≤ cap ∧ cap ≤ maxLen := by
  rcases h.2 with ⟨e', _⟩ | ⟨g, cap', cur, e', _, _, h1, h2, _⟩
  · injection e' with _ e2 e3
    unfold maxLen
    omega
  · injection e' with _ _ e3
    subst e3
    exact ⟨h1, h2⟩
end Go.Proofs.Ytlklmncjicgbgaa
