/-
  XGb: XRegA XRegB XRegC XRegD XRegE.
-/
import Derived.Deep.DeepCutAuto
import Derived.Laws.AppendOwnNone
import Derived.Test.YtfcphagmjijmkaaGreatDoorDd3
namespace Go.Proofs.YtfcphagmjijmkaaGreatDoor
open Go.RowKit
set_option linter.unusedVariables false
set_option linter.unusedSimpArgs false
attribute [local go_sem] vwp vUpon_value vUpon_skip vUpon_enter vUpon_row
set_option maxHeartbeats 16000000
section
theorem flat_len {α : Type} {enc : α → List Value} {sz : Nat} (he : ∀ y, (enc y).length = sz) (ys : List α) : (ys.flatMap enc).length = ys.length * sz := by
 induction ys with
 | nil => simp
 | cons y ys ih => rw [List.flatMap_cons, List.length_append, ih, he, List.length_cons, Nat.add_mul]; omega
theorem flat_get {α : Type} {enc : α → List Value} {sz : Nat} (he : ∀ y, (enc y).length = sz) (hsz : 0 < sz) : ∀ (ys : List α) (p : Nat), (ys.flatMap enc)[p]? = (ys[p / sz]?).bind (fun y => (enc y)[p % sz]?)
 | [], p => by simp
 | y :: ys, p => by
  rw [List.flatMap_cons]
  by_cases hp : p < sz
  ·rw [List.getElem?_append_left (by rw [he]; exact hp), Nat.div_eq_of_lt hp, Nat.mod_eq_of_lt hp]; rfl
  ·rw [List.getElem?_append_right (by rw [he]; omega), he, flat_get he hsz ys (p - sz)]
   obtain ⟨q, rfl⟩ : ∃ q, p = q + sz := ⟨p - sz, by omega⟩; rw [Nat.add_sub_cancel, Nat.add_div_right _ hsz, Nat.add_mod_right]
   rfl
theorem row_flat {α : Type} {enc : α → List Value} {sz B : Nat} {w : World} {v : Value} {xs : List α} (he : ∀ y, (enc y).length = sz) (hsz : 0 < sz) (h : Row B sz enc w v xs) (h0 : 0 < xs.length) :
  ∃ b o cap, v = .slice (some ⟨b, o, none⟩) xs.length cap ∧ b < B ∧ ∀ p u, (xs.flatMap enc)[p]? = some u → w.cell? ⟨b, o + p, none⟩ = some u := by
 obtain ⟨b, o, cap, e, hb, _, _, hx⟩ := h.open_ h0; refine ⟨b, o, cap, e, hb, fun p u hp => ?_⟩; rw [flat_get he hsz] at hp
 cases hm : xs[p / sz]? with
 | none => rw [hm] at hp; cases hp
 | some m =>
  rw [hm] at hp; have := hx _ m hm _ u hp
  rwa [Nat.add_assoc, Nat.mul_comm, Nat.div_add_mod] at this
theorem run_append_none {P : Program} {w : World} (base : Nat) (t ty e : TypeId) (i : TypeInfo) (size : Nat) (ht : P.underlying t = some (.slice e)) (hi : P.info? e = some i)
  (v : Value) (n c : Nat) (xs : List Value) (hown : w.ownsRow base e size v n xs) :
  (Builtin.append_ #[t, t] ty #[v, .slice none 0 c]).run P w = .ok v w := by
 rcases hown.2 with ⟨rfl, rfl⟩ | ⟨g, cap, cur, rfl, _, _, hnc, _⟩
 ·simp [Builtin.append_, run_underlying ht, sizeOf, typeInfo, hi, Builtin.lenOf, Builtin.firstCells]
 ·simp [Builtin.append_, run_underlying ht, sizeOf, typeInfo, hi, Builtin.lenOf, Builtin.firstCells, hnc, storeCells]
theorem grown_refl (w : World) (o : Option Nat) : w.grownBy w o := ⟨rfl, rfl, rfl, Nat.le_refl _, fun _ _ _ => rfl⟩
theorem wpList_append_row {P : Program} {ops : Array Oper} {rest : List Oper} {o : Oper} {a : Act} {Q : Exit → Act → World → Prop} (hgd : o.guard = none) (s x : Operand) (t : TypeId)
  (ho : o.op = .call { callee := .builtin .append, args := #[s, x], argTypes := #[t, t] })
  (base : Nat) (e : TypeId) (i : TypeInfo) (z : Value) (size bytes : Nat) (ht : P.underlying t = some (.slice e)) (hi : P.info? e = some i) (hz : i.zero = some z)
  (hsize : i.size = size) (hby : i.bytes = bytes) (hzs : z.cells.size = size) (hsz : 0 < size)
  (w : World) (v : Value) (n : Nat) (xs : List Value) (hs : a.eval s = v) (hown : w.ownsRow base e size v n xs)
  {α : Type} {enc : α → List Value} (he : ∀ y, (enc y).length = size) (h1 : ∀ y, ∀ u ∈ enc y, u.oneCell' = true) (B : Nat) (vx : Value) (ys : List α) (hrow : Row B size enc w vx ys) (hx : a.eval x = vx)
  (h63 : n + ys.length ≤ maxLen) (hbytes : (n + ys.length) * bytes ≤ 140737488355328) (hbase : base ≤ w.heap.size)
  (h : ∀ v' w', w'.ownsRow base e size v' (n + ys.length) (xs ++ ys.flatMap enc) → w.grownBy w' v.ownBlock → wpList P ops Q rest (a.put o.dst v') w') :
  wpList P ops Q (o :: rest) a w := by
 have hone : ∀ u ∈ ys.flatMap enc, u.oneCell' = true := by
  intro u hu
  obtain ⟨y, _, hy⟩ := List.mem_flatMap.1 hu; exact h1 y u hy
 rcases Nat.eq_zero_or_pos ys.length with h0 | h0
 ·have hy : ys = [] := List.length_eq_zero_iff.1 h0
  subst hy; obtain ⟨s0, cap, rfl, hl, hc, _⟩ := hrow
  cases s0 with
  | none =>
   refine wpList_plain hgd fun K hK => ?_
   have hrun := run_append_none (P := P) (w := w) base t o.type e i size ht hi v n cap xs hown; unfold Oper.wp
   simp [execOp, ho, resolve, invoke, builtin, hs, hx, hrun, Result.andThen]
   exact hK _ _ (h v w (by simpa using hown) (grown_refl _ _))
  | some ad =>
   refine wpList_append_own _ hgd s x t ho base e i z size bytes ht hi hz hsize hby hzs hsz v n xs hs hown ad 0 cap [] (by simpa using hx) (by simp) (fun j u hj => by simp at hj) (fun u hu => by simp at hu) (by simpa using h63) (by simpa using hbytes) hbase (fun v' w' h2 h3 _ => h v' w' (by simpa using h2) h3)
 ·obtain ⟨b, o', cap, rfl, hb, hc⟩ := row_flat he hsz hrow h0
  refine wpList_append_own _ hgd s x t ho base e i z size bytes ht hi hz hsize hby hzs hsz v n xs hs hown ⟨b, o', none⟩ ys.length cap (ys.flatMap enc) hx (flat_len he ys) (fun j u hj => ?_) hone h63 hbytes hbase (fun v' w' h2 h3 _ => h v' w' h2 h3); rw [show (⟨b, o', none⟩ : Addr).add j = ⟨b, o' + j, none⟩ by unfold Addr.add; split <;> simp_all]; exact hc j u hj
theorem flat_set {α : Type} {enc : α → List Value} {sz : Nat} (he : ∀ y, (enc y).length = sz) (i : Nat) (u : Value) (y y' : α) (hi : i < sz) (h : (enc y).set i u = enc y') : ∀ (ys : List α) (k : Nat), ys[k]? = some y → (ys.flatMap enc).set (k * sz + i) u = (ys.set k y').flatMap enc
 | [], k, hk => by simp at hk
 | z :: ys, 0, hk => by
  simp at hk; subst hk
  rw [List.flatMap_cons, List.set_cons_zero, List.flatMap_cons, List.set_append, if_pos (by rw [he]; omega), Nat.zero_mul, Nat.zero_add, h]
 | z :: ys, k + 1, hk => by
  rw [List.flatMap_cons, List.set_cons_succ, List.flatMap_cons, List.set_append, if_neg (by rw [he, Nat.add_mul]; omega), he, ← flat_set he i u y y' hi h ys k (by simpa using hk)]
  congr 2
  rw [Nat.add_mul]; omega
theorem own_put {w : World} {base g n cap k sz : Nat} {e : TypeId} {cs : List Value} (h : w.ownsRow base e sz (.slice (some ⟨g, 0, none⟩) n cap) n cs) (hk : k < n * sz) (u : Value) : (w.setCell ⟨g, k, none⟩ u).ownsRow base e sz (.slice (some ⟨g, 0, none⟩) n cap) n (cs.set k u) := by
 obtain ⟨hl, h2⟩ := h
 rcases h2 with ⟨h0, _⟩ | ⟨g', cap', cur, hv, hg, hh, hnc, hcm, hcur, htake⟩
 ·cases h0
 ·injection hv with hv _ hc
  injection hv with hv
  injection hv with hv _ _
  subst hv; subst hc; refine ⟨by rw [List.length_set]; exact hl, .inr ⟨g, cap, _, rfl, hg, heap_setCell_same _ _ _ _ _ _ hh, hnc, hcm, by simpa using hcur, ?_⟩⟩; rw [Array.toList_setIfInBounds, ← htake, List.take_set]
theorem own_slice {w : World} {base : Nat} {e : TypeId} {size n : Nat} {v : Value} {xs : List Value} (h : w.ownsRow base e size v n xs) : ∃ s cap, v = .slice s n cap := by
 rcases h.2 with ⟨rfl, rfl⟩ | ⟨g, cap, cur, rfl, _⟩
 ·exact ⟨_, _, rfl⟩
 ·exact ⟨_, _, rfl⟩
theorem own_addr {w : World} {base : Nat} {e : TypeId} {size n cap : Nat} {s : Option Addr} {xs : List Value} (h : w.ownsRow base e size (.slice s n cap) n xs) (hn : 0 < n) : ∃ g, s = some ⟨g, 0, none⟩ ∧ base ≤ g ∧ g < w.heap.size := by
 rcases h.2 with ⟨h1, h2⟩ | ⟨g, cap, cur, e, hg, hh, _⟩
 ·omega
 ·injection e with e _ _
  exact ⟨g, e, hg, lt_of_block hh⟩
theorem Re.enc_len (q : Re) : q.enc.length = 4 := rfl
theorem Re.enc_one (q : Re) : ∀ u ∈ q.enc, u.oneCell' = true := by
 intro u hu
 simp only [Re.enc, List.mem_cons, List.not_mem_nil, or_false] at hu
 rcases hu with rfl | rfl | rfl | rfl <;> rfl
theorem infoRe : (Tryz.prog.info? 32).map (fun i => (i.zero, i.size, i.bytes)) = some (some (.agg #[.int .i64 0, .int .i64 0, .int .i64 0, .int .i64 0]), 4, 32) := by kernel_rfl
def OwnsR (base : Nat) (w : World) (v : Value) (rs : List Re) : Prop := w.ownsRow base 32 4 v rs.length (rs.flatMap Re.enc)
theorem OwnsR.row {base B : Nat} {w : World} {v : Value} {rs : List Re} (h : OwnsR base w v rs) (hB : w.heap.size ≤ B) : Row B 4 Re.enc w v rs := Row.own Re.enc_len h hB (by omega)
theorem OwnsR.below {base B : Nat} {w w' : World} {v : Value} {rs : List Re} (h : OwnsR base w v rs) (hb : Below B w w') (hB : w.heap.size ≤ B) : OwnsR base w' v rs := ownsRow_below h hb hB
theorem Blk.ownsR {base g : Nat} {w : World} {rs : List Re} {n : Nat} (h : Blk w g (rs.flatMap Re.enc) 32) (hn : rs.length = n) (hg : base ≤ g) (hm : n ≤ maxLen) : OwnsR base w (.slice (some ⟨g, 0, none⟩) n n) rs := by
 unfold OwnsR; rw [hn]; refine ⟨by rw [flat_len Re.enc_len, hn], .inr ⟨g, n, _, rfl, hg, h, Nat.le_refl _, hm, ?_, ?_⟩⟩
 ·simp [flat_len Re.enc_len, hn]
 ·rw [List.take_of_length_le (by rw [flat_len Re.enc_len, hn]; omega)]
theorem own_other {w : World} {base n sz : Nat} {e : TypeId} {v : Value} {cs : List Value} (h : w.ownsRow base e sz v n cs) {a : Addr} (ha : ∀ g, v.ownBlock = some g → g ≠ a.block) (u : Value) : (w.setCell a u).ownsRow base e sz v n cs := by
 obtain ⟨h1, h2⟩ := h; refine ⟨h1, ?_⟩
 rcases h2 with h2 | ⟨g, cap, cur, rfl, hg, hh, r⟩
 ·exact .inl h2
 ·refine .inr ⟨g, cap, cur, rfl, hg, ?_, r⟩
  rw [heap_setCell_other _ _ _ _ (ha g rfl)]; exact hh
theorem own_block_lt {w : World} {base n sz : Nat} {e : TypeId} {v : Value} {cs : List Value} (h : w.ownsRow base e sz v n cs) : ∀ g, v.ownBlock = some g → base ≤ g ∧ g < w.heap.size := by
 intro g hg
 rcases h.2 with ⟨rfl, _⟩ | ⟨g', cap, cur, rfl, hb, hh, _⟩
 ·cases hg
 ·simp [Value.ownBlock] at hg
  subst hg; exact ⟨hb, lt_of_block hh⟩
def RMem (w : World) (b p : Nat) (q : Re) : Prop := w.cell? ⟨b, p, none⟩ = some (.int .i64 q.x) ∧ w.cell? ⟨b, p + 1, none⟩ = some (.int .i64 q.y) ∧ w.cell? ⟨b, p + 2, none⟩ = some (.int .i64 q.wd) ∧ w.cell? ⟨b, p + 3, none⟩ = some (.int .i64 q.ht)
theorem row_re {B : Nat} {w : World} {v : Value} {rs : List Re} (h : Row B 4 Re.enc w v rs) (h0 : 0 < rs.length) :
  ∃ b o cap, v = .slice (some ⟨b, o, none⟩) rs.length cap ∧ b < B ∧ rs.length ≤ cap ∧ cap ≤ maxLen ∧ ∀ j q, rs[j]? = some q → RMem w b (o + j * 4) q := by
 obtain ⟨b, o, cap, e, hb, h1, h2, hx⟩ := h.open_ h0; exact ⟨b, o, cap, e, hb, h1, h2, fun j s hj => ⟨hx j s hj 0 _ rfl, hx j s hj 1 _ rfl, hx j s hj 2 _ rfl, hx j s hj 3 _ rfl⟩⟩
theorem own_rmem {w : World} {base g n cap k : Nat} {rs : List Re} {q : Re} (h : OwnsR base w (.slice (some ⟨g, 0, none⟩) n cap) rs) (hs : rs[k]? = some q) : RMem w g (k * 4) q := by
 obtain ⟨b, o, cap', e, _, _, _, hx⟩ := row_re (h.row lrr) (by have := (List.getElem?_eq_some_iff.1 hs).1; omega)
 injection e with e _ _
 injection e with e
 injection e with e1 e2 _
 subst e1; subst e2; have := hx k q hs
 rwa [Nat.zero_add] at this
theorem drop_get {α : Type} {l : List α} {k : Nat} {a : α} (h : l[k]? = some a) : l.drop k = a :: l.drop (k + 1) := by
 obtain ⟨hk, e⟩ := List.getElem?_eq_some_iff.1 h; rw [List.drop_eq_getElem_cons hk, e]
theorem blk_rmem {w : World} {b k : Nat} {D : List Re} {q : Re} {e : TypeId} (h : Blk w b (D.flatMap Re.enc) e) (hq : D[k]? = some q) : RMem w b (k * 4) q := by
 have key : ∀ i u, i < 4 → q.enc[i]? = some u → w.cell? ⟨b, k * 4 + i, none⟩ = some u := by
  intro i u hi hu
  refine h.cell ?_; rw [flat_get Re.enc_len (by omega)]; rw [show (k * 4 + i) / 4 = k by omega, show (k * 4 + i) % 4 = i by omega, hq]; exact hu
 exact ⟨key 0 _ (by omega) rfl, key 1 _ (by omega) rfl, key 2 _ (by omega) rfl, key 3 _ (by omega) rfl⟩
/-! ### spans and numbers -/
def encS (s : Int × Int) : List Value := [.int .i64 s.1, .int .i64 s.2]
theorem encS_len (s : Int × Int) : (encS s).length = 2 := rfl
theorem encI_len (n : Int) : (encI n).length = 1 := rfl
theorem infoSp : (Tryz.prog.info? 244).map (fun i => (i.zero, i.size, i.bytes)) = some (some (.agg #[.int .i64 0, .int .i64 0]), 2, 16) := by kernel_rfl
theorem infoIn : (Tryz.prog.info? 3).map (fun i => (i.zero, i.size, i.bytes)) = some (some (.int .i64 0), 1, 8) := by kernel_rfl
def OwnsS (base : Nat) (w : World) (v : Value) (l : List (Int × Int)) : Prop := w.ownsRow base 244 2 v l.length (l.flatMap encS)
def OwnsI (base : Nat) (w : World) (v : Value) (l : List Int) : Prop := w.ownsRow base 3 1 v l.length (l.flatMap encI)
theorem OwnsS.row {base B : Nat} {w : World} {v : Value} {l : List (Int × Int)} (h : OwnsS base w v l) (hB : w.heap.size ≤ B) : Row B 2 encS w v l := Row.own encS_len h hB (by omega)
theorem OwnsI.row {base B : Nat} {w : World} {v : Value} {l : List Int} (h : OwnsI base w v l) (hB : w.heap.size ≤ B) : Row B 1 encI w v l := Row.own encI_len h hB (by omega)
theorem OwnsS.below {base B : Nat} {w w' : World} {v : Value} {l : List (Int × Int)} (h : OwnsS base w v l) (hb : Below B w w') (hB : w.heap.size ≤ B) : OwnsS base w' v l := ownsRow_below h hb hB
theorem OwnsI.below {base B : Nat} {w w' : World} {v : Value} {l : List Int} (h : OwnsI base w v l) (hb : Below B w w') (hB : w.heap.size ≤ B) : OwnsI base w' v l := ownsRow_below h hb hB
theorem OwnsS.nil (base : Nat) (w : World) : OwnsS base w (.slice none 0 0) [] := World.ownsRow_nil _ _ _ _
theorem OwnsI.nil (base : Nat) (w : World) : OwnsI base w (.slice none 0 0) [] := World.ownsRow_nil _ _ _ _
theorem OwnsR.nil (base : Nat) (w : World) : OwnsR base w (.slice none 0 0) [] := World.ownsRow_nil _ _ _ _
def SpM (w : World) (b p : Nat) (s : Int × Int) : Prop := w.cell? ⟨b, p, none⟩ = some (.int .i64 s.1) ∧ w.cell? ⟨b, p + 1, none⟩ = some (.int .i64 s.2)
theorem row_sp {B : Nat} {w : World} {v : Value} {l : List (Int × Int)} (h : Row B 2 encS w v l) (h0 : 0 < l.length) :
  ∃ b o cap, v = .slice (some ⟨b, o, none⟩) l.length cap ∧ b < B ∧ l.length ≤ cap ∧ cap ≤ maxLen ∧ ∀ j s, l[j]? = some s → SpM w b (o + j * 2) s := by
 obtain ⟨b, o, cap, e, hb, h1, h2, hx⟩ := h.open_ h0; exact ⟨b, o, cap, e, hb, h1, h2, fun j s hj => ⟨hx j s hj 0 _ rfl, hx j s hj 1 _ rfl⟩⟩
theorem row_in {B : Nat} {w : World} {v : Value} {l : List Int} (h : Row B 1 encI w v l) (h0 : 0 < l.length) :
  ∃ b o cap, v = .slice (some ⟨b, o, none⟩) l.length cap ∧ b < B ∧ l.length ≤ cap ∧ cap ≤ maxLen ∧ ∀ (j : Nat) s, l[j]? = some s → w.cell? ⟨b, o + j, none⟩ = some (.int .i64 s) := by
 obtain ⟨b, o, cap, e, hb, h1, h2, hx⟩ := h.open_ h0; refine ⟨b, o, cap, e, hb, h1, h2, fun j s hj => ?_⟩; have := hx j s hj 0 _ rfl
 simpa using this
theorem own_sp {w : World} {base g n cap k : Nat} {l : List (Int × Int)} {s : Int × Int} (h : OwnsS base w (.slice (some ⟨g, 0, none⟩) n cap) l) (hs : l[k]? = some s) : SpM w g (k * 2) s := by
 obtain ⟨b, o, cap', e, _, _, _, hx⟩ := row_sp (h.row lrr) (by have := (List.getElem?_eq_some_iff.1 hs).1; omega)
 injection e with e _ _
 injection e with e
 injection e with e1 e2 _
 subst e1; subst e2; have := hx k s hs
 rwa [Nat.zero_add] at this
theorem get_at {α : Type} {l : List α} {n k : Nat} (hn : l.length = n) (h : k < n) : ∃ x, l[k]? = some x := ⟨l[k]'(by omega), List.getElem?_eq_getElem _⟩
theorem own_len {w : World} {base n cap sz : Nat} {e : TypeId} {s : Option Addr} {cs : List Value} (h : w.ownsRow base e sz (.slice s n cap) n cs) : n ≤ cap ∧ cap ≤ maxLen := by
 rcases h.2 with ⟨e', _⟩ | ⟨g, cap', cur, e', _, _, h1, h2, _⟩
 ·injection e' with _ e2 e3
  unfold maxLen; omega
 ·injection e' with _ _ e3
  subst e3; exact ⟨h1, h2⟩
end
section
theorem may_bd {q : Re} (h : mayR q = true) : -16384 ≤ q.x ∧ q.x ≤ 16384 ∧ -16384 ≤ q.y ∧ q.y ≤ 16384 ∧ 0 ≤ q.wd ∧ q.wd ≤ 32768 ∧ 0 ≤ q.ht ∧ q.ht ≤ 32768 := by
 unfold mayR spanB at h; simp only [Bool.and_eq_true] at h; obtain ⟨⟨h1, h2, h3⟩, ⟨h4, h5, h6⟩⟩ := h; have := inB_iff.1 h1; have := sdB_iff.1 h2; have := inB_iff.1 h4; have := sdB_iff.1 h5; omega
def areaR (q : Re) : Int := if mayR q then q.wd * q.ht else 0
def emptyR (q : Re) : Bool := areaR q == 0
theorem full_bd {q : Re} (h : emptyR q = false) : mayR q = true ∧ 0 < q.wd ∧ 0 < q.ht := by
 unfold emptyR areaR at h
 cases hm : mayR q
 ·rw [hm] at h; simp at h
 ·rw [hm] at h
  have := may_bd hm
  simp at h
  exact ⟨rfl, by omega, by omega⟩
theorem may_sum {q : Re} (h : mayR q = true) : q.x + q.wd ≤ 16384 ∧ q.y + q.ht ≤ 16384 := by
 unfold mayR spanB at h; simp only [Bool.and_eq_true, decide_eq_true_eq] at h; exact ⟨h.1.2.2, h.2.2.2⟩
theorem may_wf {q : Re} (h : mayR q = true) : q.Wf := by
 have := may_bd h; unfold Re.Wf I64; omega
theorem area_any (q : Re) (w : World) (hq : q.Wf) : Calls Tryz.prog 97 #[.agg #[.int .i64 (q).x, .int .i64 (q).y, .int .i64 (q).wd, .int .i64 (q).ht]] w fun e w' => e = .returned (.int .i64 (areaR q)) ∧ Below w.heap.size w w' := by
 have A := fun w => gcheck_any q w hq
 obtain ⟨x, y, a, b⟩ := q; unfold areaR; simp only at A ⊢
 cases hm : mayR ⟨x, y, a, b⟩
 ·rw [hm] at A
  replace A := hdh A; clear hq hm
  go_enter Tryz.func97, Tryz.ntmps97
  go_wp2_with (first | (go_at_call 55; (with_reducible refine cmm (A.out _) fun w1 hb1 => ?_)) | go_in)
  go_ret; exact ⟨rfl, belt⟩
 ·have hb := may_bd hm
  obtain ⟨_, _, _, _, a0, a1, b0, b1⟩ := hb; simp only at a0 a1 b0 b1; rw [hm] at A; replace A := hdh A; have m0 : 0 ≤ a * b := Int.mul_nonneg a0 b0
  have m1 : a * b ≤ 1073741824 := by have := Int.mul_le_mul a1 b1 b0 (by omega); omega
  clear hq hm
  go_enter Tryz.func97, Tryz.ntmps97
  go_wp2_with (first | (go_at_call 55; (with_reducible refine cmm (A.out _) fun w1 hb1 => ?_); obtain ⟨hc1, hf1, z1⟩ := bzz hb1; (try simp at z1); have l1 : w.heap.size < w1.heap.size := (by omega)) | go_in)
  go_ret; exact ⟨rfl, belt⟩
theorem empty_any (q : Re) (w : World) (hq : q.Wf) : Calls Tryz.prog 52 #[.agg #[.int .i64 (q).x, .int .i64 (q).y, .int .i64 (q).wd, .int .i64 (q).ht]] w fun e w' => e = .returned (.bool (emptyR q)) ∧ Below w.heap.size w w' := by
 have A := fun w => area_any q w hq
 obtain ⟨x, y, a, b⟩ := q; unfold emptyR; simp only at A ⊢; generalize areaR ⟨x, y, a, b⟩ = k at *; replace A := hdh A; clear hq
 go_enter Tryz.func52, Tryz.ntmps52
 go_wp2_with (first | (go_at_call 97; (with_reducible refine cmm (A.out _) fun w1 hb1 => ?_)) | go_in)
 go_ret; exact ⟨rfl, belt⟩
theorem ends_any (q : Re) (w : World) (hq : mayR q = true) : Calls Tryz.prog 95 #[.agg #[.int .i64 (q).x, .int .i64 (q).y, .int .i64 (q).wd, .int .i64 (q).ht]] w fun e w' => e = .returned (.tuple #[.int .i64 (q.x + q.wd), .int .i64 (q.y + q.ht)]) ∧ Below w.heap.size w w' := by
 have hb := may_bd hq; obtain ⟨x, y, a, b⟩ := q; obtain ⟨x0, x1, y0, y1, a0, a1, b0, b1⟩ := hb; simp only at x0 x1 y0 y1 a0 a1 b0 b1 ⊢; clear hq
 go_enter Tryz.func95, Tryz.ntmps95
 go_wp2; refine wp_region_steady (Held w 1 [(⟨w.heap.size, 0, none⟩, .int .i64 x), (⟨w.heap.size, 1, none⟩, .int .i64 y), (⟨w.heap.size, 2, none⟩, .int .i64 a), (⟨w.heap.size, 3, none⟩, .int .i64 b)]) (by kernel_rfl) (by kernel_rfl) ⟨belt, (by (try simp) <;> omega), (by simp only [Cells]; go_simp)⟩ ?_
 repeat (first | (refine' wpSteady_do _ _ _; rotate_left; (focus rfl); (focus (intro w1 hS R hR; have hc := hS.cells; simp only [Cells] at hc; go_simp; (try go_bits); first | exact hR _ hS | fail)); simp only [pu]) | (refine spa ?_; simp only [pu]))
 refine wpSteady_nil (fun w1 hS => ?_); have hc := hS.cells; have hb := hS.old; have hz := hS.size; clear hS; simp only [Cells] at hc; go_wp2; refine bodyPost_ret (v := .tuple #[.int .i64 (x + a), .int .i64 (y + b)]) (by simp [results, Tryz.results95, go_sem]) rfl ⟨rfl, belt⟩
theorem empty_none {q : Re} (h : mayR q = true) : emptyR q = noneR q := by
 have := may_bd h; unfold emptyR areaR noneR; rw [if_pos h]
 by_cases h1 : q.wd = 0
 ·simp [h1]
 ·by_cases h2 : q.ht = 0
  ·simp [h2]
  ·have : q.wd * q.ht ≠ 0 := Int.mul_ne_zero h1 h2
   simp [h1, h2]
theorem has_none {q : Re} {x y : Int} (h : mayR q = true) (hn : noneR q = true) : hasR q x y = false := by
 have := may_bd h; unfold noneR at hn; unfold hasR; simp only [Bool.or_eq_true, decide_eq_true_eq] at hn; rw [Bool.eq_false_iff]; simp only [ne_eq, Bool.and_eq_true, decide_eq_true_eq, not_and]; omega
end
section
def askG : List (List Re) → Int
 | [] => 0
 | l :: r => if chkR l = 0 then askG r else chkR l
def Lists (w : World) (g n : Nat) (ls : List (Value × List Re)) : Prop := ls.length = n ∧ g < w.heap.size ∧ ∀ (i : Nat) p, ls[i]? = some p → w.cell? ⟨g, i, none⟩ = some p.1 ∧ Row w.heap.size 4 Re.enc w p.1 p.2 ∧ ∀ q ∈ p.2, q.Wf
def sndL (ls : List (Value × List Re)) : List (List Re) := ls.map (·.2)
theorem asked_any (ls : List (Value × List Re)) (g n : Nat) (w : World) (hn : n ≤ 2) (h : Lists w g n ls) : Calls Tryz.prog 131 #[.slice (some ⟨g, 0, none⟩) n n] w fun e w' => e = .returned (.int .i64 (askG (sndL ls))) ∧ Below w.heap.size w w' := by
 obtain ⟨en, hg, hc⟩ := h; obtain ⟨R, hR⟩ := exx (askG (sndL ls)); rw [hR]; replace hc := hdh hc; replace en := hdh en
 go_enter Tryz.func131, Tryz.ntmps131
 go_wp2
 go_loopw [10] (fun i wr => ∃ k : Nat, k ≤ n ∧ i = .int .i64 k ∧ askG (sndL (ls.drop k)) = R ∧ Below w.heap.size w wr) (fun i _ => n - (intOf i).toNat)
 case atStart => exact ⟨0, Nat.zero_le _, rfl, hR, Below.refl _ _⟩
 case round =>
  obtain ⟨k, hk, rfl, hgo, hbr⟩ := hrel; clear hR; have zr := hbr.size; obtain ⟨hcr, hfr⟩ := bcell hbr
  by_cases hkn : k < n
  ·obtain ⟨⟨v, l⟩, hp⟩ := get_at en.out hkn
   obtain ⟨c0, hrow, hwf⟩ := hc.out k _ hp; simp only at c0 hrow hwf; rw [drop_get hp] at hgo; replace hgo : (if chkR l = 0 then askG (sndL (ls.drop (k + 1))) else chkR l) = R := hgo; obtain ⟨s, cap, rfl, hmax⟩ := hrow.shape
   have hopen := fun h0 => row_re hrow h0
   obtain ⟨m, em⟩ := exx (l.length); rw [em] at hopen hmax c0; unfold maxLen at hmax; clear hp hrow
   have yg : g < wr.heap.size := by omega
   have hkk : (k : Int) < n := by omega
   replace hopen := hdh hopen; replace hwf := hdh hwf
   by_cases big : 1024 < m
   ·have e : chkR l = 4 := by unfold chkR; rw [if_pos (by omega)]
    rw [e, if_neg (by decide)] at hgo; subst hgo
    have big' : (1024 : Int) < m := by omega
    clear e em; go_wp2; go_ret; exact ⟨rfl, hbr⟩
   ·obtain ⟨bb, hbb⟩ := exx (l.all mayR)
    have e : chkR l = if bb = true then 0 else 5 := by unfold chkR; rw [if_neg (by omega), hbb]
    rw [e] at hgo
    have big' : ¬ (1024 : Int) < m := by omega
    clear e; replace em := hdh em; replace hgo := hdh hgo; replace hbb := hdh hbb; go_wp2; obtain ⟨W1, hW1⟩ : ∃ W1 : World, W1 = wr := ⟨_, rfl⟩; subst hW1
    go_loopw [19] (fun i wr => ∃ j : Nat, j ≤ m ∧ i = .int .i64 j ∧ Hid ((l.drop j).all mayR = bb) ∧ Below W1.heap.size W1 wr) (fun i _ => m - (intOf i).toNat)
    case atStart => exact ⟨0, Nat.zero_le _, rfl, hbb, Below.refl _ _⟩
    case round =>
     obtain ⟨j, hj, rfl, hall, hb2⟩ := hrel; clear hbb; have z2 := hb2.size; obtain ⟨hc2, hf2⟩ := bcell hb2
     by_cases hjm : j < m
     ·obtain ⟨b, o, cap', e, hb, _, _, hel⟩ := hopen.out (by omega)
      simp at e
      obtain ⟨rfl, rfl⟩ := e; obtain ⟨q, hq⟩ := get_at em.out hjm; obtain ⟨g0, g1, g2, g3⟩ := hel j q hq
      have A := fun w => gcheck_any q w (hwf.out q (List.mem_of_getElem? hq))
      have hall := hall.out; rw [drop_get hq, List.all_cons] at hall
      have hjj : (j : Int) < m := by omega
      have yb : b < w.heap.size := by omega
      have yb2 : b < W1.heap.size := by omega
      have yb3 : b < wr.heap.size := by omega
      clear hel hq
      cases hm : mayR q
      ·rw [hm] at hall A
       rw [Bool.false_and] at hall; subst hall; have hgo := hgo.out; rw [if_neg (by decide)] at hgo; subst hgo; replace A := hdh A; clear hm
       go_wp2_with (first
        | (go_at_call 55; (with_reducible refine cmm (A.out _) fun w3 hb3 => ?_))
        | go_in)
       go_ret; have hb23 : Below wr.heap.size wr w3 := belt; exact ⟨rfl, hbr.trans ((hb2.trans (hb23.mono z2)).mono zr)⟩
      ·rw [hm] at hall A
       rw [Bool.true_and] at hall; replace hall := hdh hall; replace A := hdh A; clear hm
       go_wp2_with (first
        | (go_at_call 55; (with_reducible refine cmm (A.out _) fun w3 hb3 => ?_))
        | go_in)
       have hb23 : Below wr.heap.size wr w3 := belt; go_roundw
       case rel => exact ⟨j + 1, by omega, by go_num, hall, hb2.trans (hb23.mono z2)⟩
       case measure => simp [intOf]; omega
     ·obtain rfl : j = m := by omega
      have hall := hall.out; rw [List.drop_eq_nil_of_le (by have := em.out; omega)] at hall; have hall : true = bb := hall; subst hall; have hgo := hgo.out; rw [if_pos rfl, if_pos rfl] at hgo; go_wp2; go_roundw
      case rel => exact ⟨k + 1, by omega, by go_num, hgo, hbr.trans (hb2.mono zr)⟩
      case measure => simp [intOf]; omega
  ·obtain rfl : k = n := by omega
   rw [List.drop_eq_nil_of_le (by have := en.out; omega)] at hgo; have hgo : 0 = R := hgo; subst hgo; go_wp2; go_ret; exact ⟨rfl, hbr⟩
end
section
theorem endsS_len (l : List Sp) : (endsS l).length = l.length * 2 := by
 unfold endsS
 induction l with
 | nil => rfl
 | cons s l ih => rw [List.flatMap_cons, List.length_append, ih]; simp; omega
theorem endsS_snoc {l : List Sp} {k : Nat} {s : Sp} (h : l[k]? = some s) : endsS (l.take (k + 1)) = endsS (l.take k) ++ [s.1, s.2] := by
 unfold endsS; rw [List.take_add_one, h, List.flatMap_append]
 rfl
theorem flatI2 (l : List Int) (a b : Int) {cs : List Value} (h : cs = [.int .i64 a, .int .i64 b]) : l.flatMap encI ++ cs = (l ++ [a, b]).flatMap encI := by
 rw [h, List.flatMap_append]; rfl
theorem ends2_any (ts : List Int) (l : List Sp) (v vl : Value) (B : Nat) (w : World) (ht : OwnsI B w v ts) (hl : Row B 2 encS w vl l) (hB : B ≤ w.heap.size) (h1 : ts.length ≤ 400000) (h2 : l.length ≤ 100000) :
  Calls Tryz.prog 221 #[v, vl] w fun e w' => ∃ v', e = .returned v' ∧ OwnsI B w' v' (ts ++ endsS l) ∧ Below B w w' := by
 obtain ⟨iI, hi0, hm0, hm1, hm2⟩ := info_parts infoIn; obtain ⟨s0, cap, rfl, hmax⟩ := hl.shape
 have hopen := fun (wr : World) (hb : Below B w wr) h0 => row_sp (hl.below hb) h0
 obtain ⟨n, en⟩ := exx (l.length); rw [en] at hopen hmax h2 ⊢; clear hl; replace hopen := hdh hopen; replace en := hdh en
 go_enter Tryz.func221, Tryz.ntmps221
 go_wp2
 go_loopw [0, 9] (fun vv iv wr => ∃ k : Nat, k ≤ n ∧ iv = .int .i64 k ∧ OwnsI B wr vv (ts ++ endsS (l.take k)) ∧ Below B w wr) (fun _ iv _ => n - (intOf iv).toNat)
 case atStart => exact ⟨0, Nat.zero_le _, rfl, by simpa [endsS] using ht, Below.refl _ _⟩
 case round =>
  obtain ⟨k, hk, rfl, hown, hbr⟩ := hrel; have zr := hbr.size
  by_cases hkn : k < n
  ·obtain ⟨b, o, cap', e, hb, _, _, hel⟩ := hopen.out wr hbr (by omega)
   simp at e
   obtain ⟨rfl, rfl⟩ := e; obtain ⟨s, hs⟩ := get_at en.out hkn; obtain ⟨g0, g1⟩ := hel k s hs; have hsn := endsS_snoc hs
   have hkk : (k : Int) < n := by omega
   have yb : b < wr.heap.size := by omega
   have hln : (ts ++ endsS (l.take k)).length ≤ 800000 := by rw [List.length_append, endsS_len]; simp; omega
   unfold OwnsI at hown; obtain ⟨st0, cap0, rfl⟩ := own_slice hown; clear hel hs; replace hsn := hdh hsn; obtain ⟨x, y⟩ := s; simp only at g0 g1 hsn
   go_upto_region 4 with fail
   have hb7 : Below wr.heap.size wr (wr.alloc (.cells #[.int .i64 x, .int .i64 y] 244)) := (Below.refl _ _).alloc lrr _
   have c0 : (wr.alloc (.cells #[.int .i64 x, .int .i64 y] 244)).cell? ⟨wr.heap.size, 0, none⟩ = some (.int .i64 x) := by go_simp
   have c1 : (wr.alloc (.cells #[.int .i64 x, .int .i64 y] 244)).cell? ⟨wr.heap.size, 1, none⟩ = some (.int .i64 y) := by go_simp
   have h57 : wr.heap.size < (wr.alloc (.cells #[.int .i64 x, .int .i64 y] 244)).heap.size := by simp
   generalize wr.alloc (.cells #[.int .i64 x, .int .i64 y] 244) = w7 at hb7 c0 c1 h57 ⊢; have zr7 := hb7.size; clear g0 g1
   go_wp2_with (first
    | (at_builtin; refine wpList_append_new rfl _ _ _ rfl B 3 iI _ 1 8 Tryz.underlying52 hi0 hm0 hm1 hm2 rfl (by omega) w7 2 _ _ _ _ (by rfl) (ownsRow_below hown hb7 lrr) (by rfl) rfl (by simp [Value.oneCell']) (by omega) (by unfold maxLen; omega) (by omega) ?_; intro v6 w6 hown6 hb6)
    | go_in)
   have hb6' : Below B w w6 := (hbr.trans (hb7.mono (by omega))).trans hb6; rw [flatI2 _ x y rfl] at hown6; replace hown6 := hdh hown6; clear hb6; go_wp2; go_roundw
   case rel =>
    refine ⟨k + 1, by omega, by go_num, ?_, hb6'⟩; unfold OwnsI; rw [hsn.out, ← List.append_assoc, List.length_append]; exact hown6.out
   case measure => simp [intOf]; omega
  ·obtain rfl : k = n := by omega
   rw [List.take_of_length_le (by have := en.out; omega)] at hown; obtain ⟨st0, cap0, rfl⟩ := own_slice hown; replace hown := hdh hown; go_wp2; go_ret; exact ⟨_, rfl, hown.out, hbr⟩
theorem either_any (a b : Bool) (w : World) : Calls Tryz.prog 134 #[.bool a, .bool b] w fun e w' => e = .returned (.bool (a || b)) ∧ Below w.heap.size w w' := by
 cases a <;> cases b
 all_goals
  go_enter Tryz.func134, Tryz.ntmps134
  go_wp2; go_ret; exact ⟨rfl, belt⟩
theorem wcmp_any (s : Sp) (x : Int) (w : World) (h1 : InM s.1) (h2 : InM x) : Calls Tryz.prog 234 #[.agg #[.int .i64 s.1, .int .i64 s.2], .int .i64 x] w fun e w' => e = .returned (.int .i64 (s.1 - x)) ∧ Below w.heap.size w w' := by
 obtain ⟨a0, a1⟩ := h1; obtain ⟨b0, b1⟩ := h2; obtain ⟨s1, s2⟩ := s; simp only at a0 a1 b0 b1 ⊢
 go_enter Tryz.func234, Tryz.ntmps234
 go_wp2; go_ret; exact ⟨rfl, belt⟩
end
section
theorem canS_mono {l : List Sp} (h : CanS l) : ∀ (i j : Nat) (s t : Sp), i < j → l[i]? = some s → l[j]? = some t → s.2 < t.1 := by
 induction l with
 | nil => intro i j s t _ hs; simp at hs
 | cons u l ih =>
  intro i j s t hij hs ht
  cases i with
  | zero =>
   obtain ⟨j, rfl⟩ : ∃ k, j = k + 1 := ⟨j - 1, by omega⟩
   simp at hs ht
   subst hs; exact (h.above t (List.mem_of_getElem? ht)).1
  | succ i =>
   obtain ⟨j, rfl⟩ : ∃ k, j = k + 1 := ⟨j - 1, by omega⟩
   simp at hs ht
   exact ih h.tail i j s t (by omega) hs ht
theorem canS_lt {l : List Sp} (h : CanS l) {i j : Nat} {s t : Sp} (hij : i ≤ j) (hs : l[i]? = some s) (ht : l[j]? = some t) : s.1 ≤ t.1 := by
 rcases Nat.lt_or_ge i j with hlt | hge
 ·have := canS_mono h i j s t hlt hs ht
  have := h.all_pos s (List.mem_of_getElem? hs); omega
 ·obtain rfl : i = j := by omega
  rw [hs] at ht
  injection ht with ht
  subst ht; exact Int.le_refl _
def Cut (l : List Sp) (x : Int) (lo hi : Nat) : Prop := (∀ (j : Nat) s, j < lo → l[j]? = some s → s.1 < x) ∧ (∀ (j : Nat) s, hi ≤ j → l[j]? = some s → x ≤ s.1)
def BsPost (l : List Sp) (x : Int) (n : Nat) (w : World) (e : Ending) (w' : World) : Prop := ∃ (i : Nat) (fb : Bool), e = .returned (.tuple #[.int .i64 i, .bool fb]) ∧ Below w.heap.size w w' ∧ i ≤ n ∧ Cut l x i i ∧ (fb = true ↔ ∃ s, l[i]? = some s ∧ s.1 = x)
set_option maxRecDepth 100000 in
theorem bsearch_any (l : List Sp) (x : Int) (v : Value) (w : World) (hl : Row w.heap.size 2 encS w v l) (hc : CanS l) (hin : ∀ s ∈ l, InM s.1) (hx : InM x) (h2 : l.length ≤ 100000) :
  Calls Tryz.prog 233 #[v, .int .i64 x, .func (.func 234) #[] #[]] w (BsPost l x l.length w) := by
 obtain ⟨s0, cap, rfl, hmax⟩ := hl.shape
 have hopen := fun h0 => row_sp hl h0
 have C := fun (s : Sp) (hs : s ∈ l) W => wcmp_any s x W (hin s hs) hx
 have X := fun (s : Sp) (hs : s ∈ l) => hin s hs
 have hlt := fun {i j : Nat} {s t : Sp} => canS_lt hc (i := i) (j := j) (s := s) (t := t)
 obtain ⟨n, en⟩ := exx (l.length); rw [en] at hopen hmax h2 ⊢; obtain ⟨x0, x1⟩ := id hx; clear hl hin; replace hopen := hdh hopen; replace en := hdh en; replace C := hdh C; replace X := hdh X; replace hlt := hdh (show ∀ (i j : Nat) (s t : Sp), i ≤ j → l[i]? = some s → l[j]? = some t → s.1 ≤ t.1 from fun i j s t => hlt)
 go_enter Tryz.func233, Tryz.ntmps233
 go_wp2
 go_loopw [9, 10] (fun a b wr => ∃ lo hi : Nat, lo ≤ hi ∧ hi ≤ n ∧ a = .int .i64 lo ∧ b = .int .i64 hi ∧ Hid (Cut l x lo hi) ∧ Below w.heap.size w wr) (fun a b _ => (intOf b).toNat - (intOf a).toNat)
 case atStart => exact ⟨0, n, Nat.zero_le _, Nat.le_refl _, rfl, rfl, hdh ⟨fun j s hj => absurd hj (Nat.not_lt_zero _), fun j s hj hs => absurd ((List.getElem?_eq_some_iff.1 hs).1) (by have := en.out; omega)⟩, Below.refl _ _⟩
 case round =>
  obtain ⟨lo, hi, h01, h1n, rfl, rfl, hcut, hbr⟩ := hrel; have zr := hbr.size; obtain ⟨hcr, hfr⟩ := bcell hbr
  by_cases hlh : lo < hi
  ·obtain ⟨b, o, cap', e, hb, _, _, hel⟩ := hopen.out (by omega)
   simp at e
   obtain ⟨rfl, rfl⟩ := e; obtain ⟨s, hs⟩ := get_at (k := (lo + hi) / 2) en.out (by omega); obtain ⟨g0, g1⟩ := hel _ s hs; have C1 := C.out s (List.mem_of_getElem? hs); obtain ⟨q0, q1⟩ := X.out s (List.mem_of_getElem? hs)
   have yb : b < wr.heap.size := by omega
   have hsh := hdh hs; clear hel hs; obtain ⟨s1, s2⟩ := s; simp only at g0 g1 C1 q0 q1
   by_cases hsx : s1 < x
   ·replace C1 := hdh C1
    have hsx' : s1 - x < 0 := by omega
    go_wp2_with (first
     | (go_at_call 234; (with_reducible refine cmm (C1.out _) fun w3 hb3 => ?_))
     | go_in)
    go_roundw
    case rel =>
     refine ⟨(lo + hi) / 2 + 1, hi, by omega, h1n, by rw [show ((lo : Int) + (hi : Int)) / 2 + 1 = (((lo + hi) / 2 + 1 : Nat) : Int) by omega], rfl, hdh ⟨fun j t hj ht => ?_, hcut.out.2⟩, hbr.trans (hb3.mono zr)⟩; have := hlt.out j _ t _ (by omega) ht hsh.out; simp only at this; omega
    case measure => simp [intOf]; omega
   ·replace C1 := hdh C1
    have hsx' : ¬ s1 - x < 0 := by omega
    go_wp2_with (first
     | (go_at_call 234; (with_reducible refine cmm (C1.out _) fun w3 hb3 => ?_))
     | go_in)
    go_roundw
    case rel =>
     refine ⟨lo, (lo + hi) / 2, by omega, by omega, rfl, by rw [show ((lo : Int) + (hi : Int)) / 2 = (((lo + hi) / 2 : Nat) : Int) by omega], hdh ⟨hcut.out.1, fun j t hj ht => ?_⟩, hbr.trans (hb3.mono zr)⟩; have := hlt.out _ j _ t hj hsh.out ht; simp only at this; omega
    case measure => simp [intOf]; omega
  ·obtain rfl : hi = lo := by omega
   by_cases hn : hi < n
   ·obtain ⟨b, o, cap', e, hb, _, _, hel⟩ := hopen.out (by omega)
    simp at e
    obtain ⟨rfl, rfl⟩ := e; obtain ⟨s, hs⟩ := get_at (k := hi) en.out (by omega); obtain ⟨g0, g1⟩ := hel _ s hs; have C1 := C.out s (List.mem_of_getElem? hs); obtain ⟨q0, q1⟩ := X.out s (List.mem_of_getElem? hs)
    have yb : b < wr.heap.size := by omega
    have hni : (hi : Int) < n := by omega
    have hsh := hdh hs; clear hel hs; obtain ⟨s1, s2⟩ := s; simp only at g0 g1 C1 q0 q1; replace C1 := hdh C1
    by_cases hsx : s1 = x
    ·subst hsx
     have hsx' : s1 - s1 = 0 := by omega
     go_wp2_with (first
      | (go_at_call 234; (with_reducible refine cmm (C1.out _) fun w3 hb3 => ?_))
      | go_in)
     go_ret2; exact ⟨hi, true, rfl, hbr.trans (hb3.mono zr), h1n, hcut.out, by simp [hsh.out]⟩
    ·have hsx' : (s1 - x == 0) = false := by simp; omega
     have hsx2 : decide (s1 - x = 0) = false := by simp; omega
     go_wp2_with (first
      | (go_at_call 234; (with_reducible refine cmm (C1.out _) fun w3 hb3 => ?_))
      | go_in)
     go_ret2; exact ⟨hi, false, rfl, hbr.trans (hb3.mono zr), h1n, hcut.out, by simp [hsh.out, hsx]⟩
   ·have hni : ¬ (hi : Int) < n := by omega
    have hno : l[hi]? = none := List.getElem?_eq_none (by have := en.out; omega); replace hno := hdh hno; go_wp2; go_ret2; exact ⟨hi, false, rfl, hbr, h1n, hcut.out, by simp [hno.out]⟩
theorem swithin_any (l : List Sp) (x : Int) (v : Value) (w : World) (hl : Row w.heap.size 2 encS w v l) (hc : CanS l) (hin : ∀ s ∈ l, InM s.1) (hx : InM x) (h2 : l.length ≤ 100000) :
  Calls Tryz.prog 222 #[v, .int .i64 x] w fun e w' => e = .returned (.bool (inSB l x)) ∧ Below w.heap.size w w' := by
 have B := bsearch_any l x v w hl hc hin hx h2; obtain ⟨s0, cap, rfl, hmax⟩ := hl.shape
 have hopen := fun (wr : World) (hb : Below w.heap.size w wr) h0 => row_sp (hl.below hb) h0
 obtain ⟨n, en⟩ := exx (l.length)
 have key : ∀ (i : Nat) (fb : Bool), i ≤ l.length → Cut l x i i → (fb = true ↔ ∃ s, l[i]? = some s ∧ s.1 = x) → (fb = true → inSB l x = true) ∧ (fb = false → i = 0 → inSB l x = false) ∧ (fb = false → ∀ s, 0 < i → l[i - 1]? = some s → inSB l x = decide (x < s.2)) := by
  intro i fb hi hcut hfb
  refine ⟨fun h => ?_, fun h h0 => ?_, fun h s h0 hs => ?_⟩
  ·obtain ⟨s, hs, e⟩ := hfb.1 h
   exact inSB_iff.2 ⟨s, List.mem_of_getElem? hs, by omega, by have := hc.all_pos s (List.mem_of_getElem? hs); omega⟩
  ·subst h0
   rw [Bool.eq_false_iff]
   intro hh
   obtain ⟨s, hs, a1, a2⟩ := inSB_iff.1 hh; obtain ⟨j, hj⟩ := List.mem_iff_getElem?.1 hs; have := hcut.2 j s (Nat.zero_le _) hj
   have e : s.1 = x := by omega
   have := canS_mono hc
   rcases Nat.eq_zero_or_pos j with rfl | hj0
   ·rw [hfb.2 ⟨s, hj, e⟩] at h; cases h
   ·obtain ⟨t, ht⟩ := get_at (l := l) (k := 0) rfl (by have := (List.getElem?_eq_some_iff.1 hj).1; omega)
    have h1 := canS_mono hc 0 j t s hj0 ht hj; have h2 := hcut.2 0 t lrr ht; have h3 := hc.all_pos t (List.mem_of_getElem? ht); omega
  ·rw [Bool.eq_iff_iff, inSB_iff, decide_eq_true_eq]
   constructor
   ·rintro ⟨t, ht, a1, a2⟩
    obtain ⟨j, hj⟩ := List.mem_iff_getElem?.1 ht
    by_cases hji : j < i
    ·rcases Nat.lt_or_ge j (i - 1) with hlt | hge
     ·have h1 := canS_mono hc j (i - 1) t s hlt hj hs
      have h2 := hcut.1 (i - 1) s (by omega) hs; omega
     ·obtain rfl : j = i - 1 := by omega
      rw [hs] at hj
      injection hj with hj
      subst hj; exact a2
    ·have h1 := hcut.2 j t (by omega) hj
     have e : t.1 = x := by omega
     exfalso
     rcases Nat.lt_or_ge i j with hlt | hge
     ·obtain ⟨u, hu⟩ := get_at (l := l) (k := i) rfl (by have := (List.getElem?_eq_some_iff.1 hj).1; omega)
      have h1 := canS_mono hc i j u t hlt hu hj; have h2 := hcut.2 i u lrr hu; have h3 := hc.all_pos u (List.mem_of_getElem? hu); omega
     ·obtain rfl : j = i := by omega
      rw [hfb.2 ⟨t, hj, e⟩] at h; cases h
   ·intro hx2
    have := hcut.1 (i - 1) s (by omega) hs; exact ⟨s, List.mem_of_getElem? hs, by omega, hx2⟩
 rw [en] at B key hopen hmax h2 ⊢; obtain ⟨R, hR⟩ := exx (inSB l x); rw [hR] at key ⊢; clear hl hR; replace B := hdh B; replace key := hdh key; replace hopen := hdh hopen; replace en := hdh en
 go_enter Tryz.func222, Tryz.ntmps222
 go_upto_region 2 with (first
  | (go_at_call 233; (with_reducible refine (B.out).mono ?_); rintro e w3 ⟨i, fb, rfl, hb3, hi, hcut, hfb⟩)
  | go_in)
 obtain ⟨k1, k2, k3⟩ := key.out i fb hi hcut hfb; clear key hcut hfb
 cases fb
 ·have k2 := k2 rfl
  have k3 := k3 rfl; clear k1
  rcases Nat.eq_zero_or_pos i with rfl | h0
  ·have hR := k2 rfl
   clear k2 k3; subst hR; go_wp2; go_ret; exact ⟨rfl, hb3⟩
  ·obtain ⟨k, rfl⟩ : ∃ k, i = k + 1 := ⟨i - 1, by omega⟩
   obtain ⟨b, o, cap', e, hb, _, _, hel⟩ := hopen.out w3 hb3 (by omega)
   simp at e
   obtain ⟨rfl, rfl⟩ := e; obtain ⟨s, hs⟩ := get_at (k := k) en.out (by omega); obtain ⟨g0, g1⟩ := hel _ s hs; have hR := k3 s h0 hs; subst hR
   have hi0 : (0 : Int) < (k : Int) + 1 := by omega
   have hi3 : (k : Int) < n := by omega
   clear k2 k3 hel hs; obtain ⟨s1, s2⟩ := s; simp only at g0 g1 ⊢; go_wp2; go_ret; exact ⟨rfl, hb3⟩
 ·have hR := k1 rfl
  clear k1 k2 k3; subst hR; go_wp2; go_ret; exact ⟨rfl, hb3⟩
end
end Go.Proofs.YtfcphagmjijmkaaGreatDoor
