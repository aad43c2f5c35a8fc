/-
  region.form's closure: a band's rectangles, put behind.
-/
import Derived.Test.YtlklmncjicgbgaaRegBb
namespace Go.Proofs.Ytlklmncjicgbgaa
open Go.RowKit
set_option linter.unusedVariables false
attribute [local go_sem] vwp vUpon_value vUpon_skip vUpon_enter vUpon_row
set_option linter.unusedSimpArgs false
set_option linter.unusedVariables false
/-- 'append(s, x, y ..)' onto a row of the call's own; what else it owns stays. -/
theorem wpList_append_two {P : Program} {ops : Array Oper} {rest : List Oper} {o : Oper} {a : Act} {Q : Exit → Act → World → Prop} (hgd : o.guard = none) (s x : Operand) (t : TypeId)
    (ho : o.op = .call { callee := .builtin .append, args := #[s, x], argTypes := #[t, t] })
    (base : Nat) (e : TypeId) (i : TypeInfo) (z : Value) (size bytes : Nat) (ht : P.underlying t = some (.slice e)) (hi : P.info? e = some i) (hz : i.zero = some z)
    (hsize : i.size = size) (hby : i.bytes = bytes) (hzs : z.cells.size = size) (hsz : 0 < size)
    (w : World) (m : Nat) (us : List Value) (v : Value) (n : Nat) (xs : List Value) (hs : a.eval s = v) (hown : w.ownsRow base e size v n xs)
    (hx : a.eval x = .slice (some ⟨w.heap.size, 0, none⟩) m m) (hl : us.length = m * size) (h1 : ∀ u ∈ us, u.oneCell' = true)
    (hbytes : (n + m) * bytes ≤ 140737488355328) (h63 : n + m ≤ maxLen) (hbase : base ≤ w.heap.size)
    (h : ∀ v' w', w'.ownsRow base e size v' (n + m) (xs ++ us) → w.grownBy w' v.ownBlock → (∀ g, v'.ownBlock = some g → v.ownBlock = some g ∨ w.heap.size < g) → Below base w w' → wpList P ops Q rest (a.put o.dst v') w') :
    wpList P ops Q (o :: rest) a (w.alloc (.cells us.toArray e)) := by
  refine wpList_append_own_at _ hgd s x t ho base e i z size bytes ht hi hz hsize hby hzs hsz v n xs hs (hown.alloc _) ⟨w.heap.size, 0, none⟩ m m us hx (by omega) (fun j u hj => ?_) h1 h63 hbytes (by simp; omega) (fun v' w' h2 h3 _ h5 => h v' w' h2 ?_ ?_ ?_)
  · rw [show (⟨w.heap.size, 0, none⟩ : Addr).add j = ⟨w.heap.size, j, none⟩ by unfold Addr.add; split <;> simp_all]
    rw [World.cell?_alloc_at _ _ _ _ rfl]
    simpa using hj
  · have hal : w.grownBy (w.alloc (.cells us.toArray e)) v.ownBlock := ⟨rfl, rfl, rfl, by simp, fun k hk _ => ((Below.refl w.heap.size w).alloc (Nat.le_refl _) _).block k hk⟩
    exact ⟨h3.os.trans hal.os, h3.tape.trans hal.tape, h3.output.trans hal.output, Nat.le_trans hal.size h3.size, fun k hk hne => (h3.block k (Nat.lt_of_lt_of_le hk hal.size) hne).trans (hal.block k hk hne)⟩
  · intro g hg
    rcases h5 with h5 | h5
    · exact .inl (h5 ▸ hg)
    · rw [h5] at hg
      injection hg with hg
      simp at hg
      exact .inr (by omega)
  · exact (((Below.refl _ _).alloc hbase _).grown h3 (by simp; omega) (fun k hk => (hown.lt k hk).1))
/-- What the captured list holds. -/
def FormI (c : Nat) (L : List Re) (g : Option Nat) (w : World) : Prop := ∃ v, Blk w c [v] 22 ∧ OwnsR (c + 1) w v L ∧ v.ownBlock = g ∧ L.length ≤ 300000
theorem FormI.stay {c : Nat} {L : List Re} {g : Option Nat} {w w' : World} (h : FormI c L g w) (hb : Below w.heap.size w w') : FormI c L g w' := by
  obtain ⟨v, h1, h2, h3, h4⟩ := h
  exact ⟨v, h1.below hb h1.lt, h2.below hb (Nat.le_refl _), h3, h4⟩
theorem FormI.at_ {c : Nat} {L : List Re} {g : Option Nat} {w : World} (h : FormI c L g w) : c < w.heap.size ∧ ∀ k, g = some k → c + 1 ≤ k ∧ k < w.heap.size := by
  obtain ⟨v, h1, h2, h3, h4⟩ := h
  refine ⟨h1.lt, fun k hk => ?_⟩
  have := own_in h2 k (by rw [h3]; exact hk)
  exact this
theorem rectsOf_snoc {l : List Sp} {k : Nat} {s : Sp} (y h : Int) (hs : l[k]? = some s) : rectsOf y h (l.take (k + 1)) = rectsOf y h (l.take k) ++ [⟨s.1, y, s.2 - s.1, h⟩] := by
  unfold rectsOf
  rw [List.take_add_one, hs, List.map_append]
  rfl
theorem rectsOf_len (y h : Int) (l : List Sp) : (rectsOf y h l).length = l.length := by simp [rectsOf]
theorem flatR_snoc {l : List Re} {t : Re} {cs : List Value} (h : cs = t.enc) : l.flatMap Re.enc ++ cs = (l ++ [t]).flatMap Re.enc := by
  rw [h, List.flatMap_append]; simp
def F1Post (y h : Int) (l : List Sp) (L : List Re) (c : Nat) (g : Option Nat) (w : World) (e : Ending) (w' : World) : Prop := ∃ g', e = .returned (.bool (decide ((L ++ rectsOf y h l).length ≤ 1024))) ∧ FormI c (L ++ rectsOf y h l) g' w' ∧ Kept c g w w' ∧ ∀ k, g' = some k → g = some k ∨ w.heap.size ≤ k
set_option maxHeartbeats 2000000 in
set_option maxRecDepth 100000 in
theorem form1_any (y h : Int) (vl : Value) (l : List Sp) (L : List Re) (c : Nat) (g : Option Nat) (w : World) (hI : FormI c L g w) (hL : L.length ≤ 1024) (hrow : RowX c g 2 encS w vl l) (hy : InM y) (hh : InM (y + h)) (h0 : 0 < h) (hin : ∀ s ∈ l, InM s.1 ∧ InM s.2) (hln : l.length ≤ 200000) :
    Calls Try.prog 73 #[.int .i64 y, .int .i64 h, vl, .pointer (some ⟨c, 0, none⟩)] w (F1Post y h l L c g w) := by
  obtain ⟨iR, hr0, hr1, hr2, hr3⟩ := info_parts infoRe
  obtain ⟨s0, cap, rfl, hmax⟩ := hrow.1.shape
  obtain ⟨n, en⟩ : ∃ n, l.length = n := ⟨_, rfl⟩
  rw [en] at hmax hln hrow ⊢
  have hst : FormI c (L ++ rectsOf y h (l.take 0)) g w := by simpa [rectsOf] using hI
  obtain ⟨y0, y1⟩ := id hy
  obtain ⟨h1, h2⟩ := id hh
  replace en := Lib.hid en
  replace hrow := Lib.hid hrow
  replace hin := Lib.hid hin
  replace hst := Lib.hid hst
  clear hI
  go_enter Try.func73, Try.ntmps73
  go_wp2
  go_loopw [12] (fun iv wr => ∃ (k : Nat) (g' : Option Nat), k ≤ n ∧ iv = .int .i64 k ∧ Hid (FormI c (L ++ rectsOf y h (l.take k)) g' wr) ∧ Hid (Kept c g w wr) ∧ Hid (∀ x, g' = some x → g = some x ∨ w.heap.size ≤ x)) (fun iv _ => n - (intOf iv).toNat)
  case atStart => exact ⟨0, g, Nat.zero_le _, rfl, hst, Lib.hid (Kept.of (Below.refl _ _)), Lib.hid (fun x hx => .inl hx)⟩
  case round =>
    obtain ⟨k, g', hk, rfl, hI, hkp, hg'⟩ := hrel
    clear hst
    obtain ⟨v, hbk, hown, hvg, hll⟩ := hI.out
    obtain ⟨D, hD⟩ : ∃ D, L ++ rectsOf y h (l.take k) = D := ⟨_, rfl⟩
    rw [hD] at hown hll hI
    have hDl : D.length = L.length + k := by rw [← hD, List.length_append, rectsOf_len, List.length_take]; have := en.out; omega
    replace hDl := Lib.hid hDl
    obtain ⟨st, cp, rfl⟩ := own_slice hown
    have hcw := hbk.lt
    have hc0 := hbk.cell (o := 0) rfl
    have hkz := hkp.out.size
    replace hvg := Lib.hid hvg
    by_cases hkn : k < n
    · have hx := hrow.out.kept hkp.out hg'.out
      have hopen := row_sp hx.1
      rw [en.out] at hopen
      obtain ⟨b, o, cap', e, hb, _, _, hel⟩ := hopen (by omega)
      simp at e
      obtain ⟨rfl, rfl⟩ := e
      obtain ⟨s, hs⟩ := get_at en.out hkn
      obtain ⟨j0, j1⟩ := hel k s hs
      obtain ⟨⟨a0, a1⟩, ⟨b0, b1⟩⟩ := hin.out s (List.mem_of_getElem? hs)
      have hsn := rectsOf_snoc y h hs
      obtain ⟨x1, x2⟩ := s
      simp only at j0 j1 a0 a1 b0 b1 hsn
      have hkk : (k : Int) < n := by omega
      replace hsn := Lib.hid hsn
      replace hD := Lib.hid hD
      unfold OwnsR at hown
      clear hs hel hopen hx
      go_upto_region 4 with fail
      have hb7 : Below wr.heap.size wr (wr.alloc (.cells #[.int .i64 x1, .int .i64 x2] 63)) := (Below.refl _ _).alloc (Nat.le_refl _) _
      have e0 : (wr.alloc (.cells #[.int .i64 x1, .int .i64 x2] 63)).cell? ⟨wr.heap.size, 0, none⟩ = some (.int .i64 x1) := by go_simp
      have e1 : (wr.alloc (.cells #[.int .i64 x1, .int .i64 x2] 63)).cell? ⟨wr.heap.size, 1, none⟩ = some (.int .i64 x2) := by go_simp
      have hbk7 := hbk.alloc (.cells #[.int .i64 x1, .int .i64 x2] 63)
      have h57 : wr.heap.size < (wr.alloc (.cells #[.int .i64 x1, .int .i64 x2] 63)).heap.size := by simp
      generalize wr.alloc (.cells #[.int .i64 x1, .int .i64 x2] 63) = w7 at hb7 e0 e1 hbk7 h57 ⊢
      have hc7 := hbk7.cell (o := 0) rfl
      have zr7 := hb7.size
      have own7 := ownsRow_below hown hb7 (Nat.le_refl _)
      replace hbk7 := Lib.hid hbk7
      replace own7 := Lib.hid own7
      replace hbk := Lib.hid hbk
      replace hown := Lib.hid hown
      clear hc0 j0 j1
      go_wp2_with (first
        | (at_builtin; refine wpList_append_two rfl _ _ _ rfl (c + 1) 49 iR _ 4 32 Try.underlying22 hr0 hr1 hr2 hr3 rfl (by omega) w7 1 _ _ _ _ (by rfl) own7.out (by rfl) rfl (by simp [Value.oneCell']) (by omega) (by unfold maxLen; omega) (by omega) ?_; intro v6 w6 hown6 hgr6 hat6 hb6; obtain ⟨s6, c6, rfl⟩ := own_slice hown6; have hbk6 := Blk.below hbk7.out hb6 (by omega); have hc6 := hbk6.cell (o := 0) rfl; have hf6 := hbk6.free 0; replace hbk6 := Lib.hid hbk6; replace hown6 := Lib.hid hown6; replace hgr6 := Lib.hid hgr6; replace hat6 := Lib.hid hat6; clear hc7)
        | go_in)
      have hown6 := hown6.out
      rw [flatR_snoc (t := ⟨x1, y, x2 - x1, h⟩) (cs := [.int .i64 x1, .int .i64 y, .int .i64 (x2 - x1), .int .i64 h]) rfl] at hown6
      replace hown6 := Lib.hid hown6
      go_roundw
      case rel =>
        have hset : ∀ k', k' ≠ c → (w6.setCell ⟨c, 0, none⟩ (Value.slice s6 (D.length + 1) c6)).heap[k']? = w6.heap[k']? := fun k' hk' => Below.heap_setCell _ _ _ _ hk'
        have h68 := (Below.refl 0 w6).setCell (p := ⟨c, 0, none⟩) (Nat.zero_le _) (Value.slice s6 (D.length + 1) c6)
        have hk2 : Kept c g' wr (w6.setCell ⟨c, 0, none⟩ (Value.slice s6 (D.length + 1) c6)) := by
          have h1 := hgr6.out
          refine ⟨h68.os.trans (h1.os.trans hb7.os), h68.tape.trans (h1.tape.trans hb7.tape), h68.output.trans (h1.output.trans hb7.output), Nat.le_trans zr7 (Nat.le_trans h1.size h68.size), fun k' hk' hc' hg'' => ?_⟩
          rw [hset k' hc', h1.block k' (by omega) (fun e => hg'' (by rw [← hvg.out]; exact e.symm))]
          exact hb7.block k' hk'
        have hnb : ∀ x, (Value.slice s6 (D.length + 1) c6).ownBlock = some x → g' = some x ∨ wr.heap.size ≤ x := fun x hx => by
          rcases hat6.out x hx with h' | h'
          · exact .inl (hvg.out ▸ h')
          · exact .inr (by omega)
        refine ⟨k + 1, (Value.slice s6 (D.length + 1) c6).ownBlock, by omega, by go_num, Lib.hid ?_, Lib.hid (hkp.out.trans hk2 hg'.out), Lib.hid (fun x hx => ?_)⟩
        · refine ⟨(Value.slice s6 (D.length + 1) c6), hbk6.out.set 0 (Value.slice s6 (D.length + 1) c6), ?_, rfl, ?_⟩
          · unfold OwnsR
            rw [hsn.out, ← List.append_assoc, hD.out, List.length_append]
            exact own_other hown6.out (fun x hx => by have := (own_in hown6.out x hx).1; show x ≠ c; omega) _
          · rw [hsn.out, ← List.append_assoc, hD.out, List.length_append, hDl.out]; simp; omega
        · rcases hnb x hx with h' | h'
          · exact hg'.out x h'
          · exact .inr (by omega)
      case measure => simp [intOf]; omega
    · obtain rfl : k = n := by omega
      rw [List.take_of_length_le (by have := en.out; omega)] at hD
      have hDi : (D.length : Int) ≤ 1024 ↔ D.length ≤ 1024 := by omega
      replace hbk := Lib.hid hbk
      replace hown := Lib.hid hown
      have hDh := Lib.hid hD
      clear hD
      by_cases hle : D.length ≤ 1024
      · have hle' : (D.length : Int) ≤ 1024 := by omega
        go_wp2
        go_ret
        exact ⟨g', by rw [hDh.out]; simp [hle], by rw [hDh.out]; exact hI, hkp.out, hg'.out⟩
      · have hle' : ¬ (D.length : Int) ≤ 1024 := by omega
        go_wp2
        go_ret
        exact ⟨g', by rw [hDh.out]; simp [hle], by rw [hDh.out]; exact hI, hkp.out, hg'.out⟩
def moreF (d : List Bd) : Bool := decide ((flatB d).length ≤ 1024)
theorem flatB_one (d : List Bd) (y h : Int) (l : List Sp) : flatB (d ++ [(y, h, l)]) = flatB d ++ rectsOf y h l := by
  rw [flatB_append]
  simp [flatB]
theorem formBand (c : Nat) (R : List Bd) : Band 73 #[.pointer (some ⟨c, 0, none⟩)] c c moreF R (fun d g w => FormI c (flatB d) g w) where
  enters := enters_of Try.func73 (by kernel_rfl) rfl
  le := Nat.le_refl _
  first := by simp [moreF, flatB]
  at_ := fun h => ⟨h.at_.1, fun k hk => ⟨by have := (h.at_.2 k hk).1; omega, (h.at_.2 k hk).2⟩⟩
  stay := fun h hb => h.stay hb
  call := fun {d g w} y h vl l hI hrow hm hy hh h0 _ hin hln _ => by
    have := form1_any y h vl l (flatB d) c g w hI (by simpa [moreF] using hm) hrow hy hh h0 hin hln
    unfold F1Post at this
    unfold moreF
    rw [flatB_one]
    exact this
end Go.Proofs.Ytlklmncjicgbgaa
