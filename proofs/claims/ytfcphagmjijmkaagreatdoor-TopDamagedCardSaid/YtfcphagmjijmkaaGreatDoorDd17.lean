/-
  Cells: a strings.Builder that lies in a writer's first field.
-/
import Derived.Test.YtfcphagmjijmkaaGreatDoorDd15
import Derived.Test.YtfcphagmjijmkaaGreatDoorDd16
namespace Go.Proofs.YtfcphagmjijmkaaGreatDoor
open Go.RowKit
set_option linter.unusedVariables false
set_option linter.unusedSimpArgs false
attribute [local go_sem] vwp vUpon_value vUpon_skip vUpon_enter vUpon_row
set_option maxHeartbeats 16000000
def Wr (B b : Nat) (p : Value) (bs tl : List Value) (w : World) : Prop := B ≤ b ∧ tl.length = 8 ∧ ∃ v, Blk w b (p :: v :: tl) 160 ∧ w.ownsRowF B 5 1 v bs.length bs
def WrI (B b : Nat) (bs tl : List Value) (w : World) : Prop := Wr B b (.pointer none) bs tl w ∨ Wr B b (.pointer (some ⟨b, 0, none⟩)) bs tl w
theorem Blk.others {w w' : World} {b g : Nat} {cs : List Value} {T : TypeId} (h : Blk w g cs T) (hk : Lib.OthersKept 5 (some b) w w') (hg : g ≠ b) (hT : T ≠ 5) : Blk w' g cs T :=
 hk g _ h (fun e => hg (Option.some.inj e)) (fun c fz e => hT (by injection e))
theorem oth_below {w w' : World} {b : Nat} (h : Below w.heap.size w w') : Lib.OthersKept 5 (some b) w w' := fun k o hk _ _ => (h.block k (Array.getElem?_eq_some_iff.1 hk).1).trans hk
theorem rowF_set {w : World} {B n : Nat} {e : TypeId} {v u : Value} {xs : List Value} {b o : Nat} (h : w.ownsRowF B e 1 v n xs) (hne : v.ownBlock ≠ some b) : (w.setCell ⟨b, o, none⟩ u).ownsRowF B e 1 v n xs :=
 h.kept (row := some b) (cgrown_set (grown_refl w _) o u) (.inr hne)
theorem rowF_ne {w : World} {B n b : Nat} {e T : TypeId} {v : Value} {xs cs : List Value} (h : w.ownsRowF B e 1 v n xs) (hb : Blk w b cs T) (hT : T ≠ e) : v.ownBlock ≠ some b := Lib.ownBlock_neF h hb hT
theorem Wr.alloc {B b : Nat} {p : Value} {bs tl : List Value} {w : World} (h : Wr B b p bs tl w) (o : Obj) : Wr B b p bs tl (w.alloc o) := by
 obtain ⟨hB, ht, v, hb, hr⟩ := h; exact ⟨hB, ht, v, hb.alloc o, hr.kept (World.grownBy_alloc w o none) (by cases v.ownBlock <;> simp)⟩
theorem Wr.below {B b : Nat} {p : Value} {bs tl : List Value} {w w' : World} (h : Wr B b p bs tl w) (hw : Below w.heap.size w w') : Wr B b p bs tl w' := by
 obtain ⟨hB, ht, v, hb, hr⟩ := h; refine ⟨hB, ht, v, hb.below hw hb.lt, hr.1, ?_⟩
 rcases hr.2 with hn | ⟨g, cap, cur, fz, hv, hg, hh, rest⟩
 ·exact .inl hn
 ·exact .inr ⟨g, cap, cur, fz, hv, hg, (hw.block g (Array.getElem?_eq_some_iff.1 hh).1).trans hh, rest⟩
theorem Wr.tail {B b : Nat} {p : Value} {bs tl : List Value} {w : World} (h : Wr B b p bs tl w) {k : Nat} (hk : k < 8) (u : Value) : Wr B b p bs (tl.set k u) (w.setCell ⟨b, k + 2, none⟩ u) := by
 obtain ⟨hB, ht, v, hb, hr⟩ := h; exact ⟨hB, by simp [ht], v, hb.set (k + 2) u, rowF_set hr (rowF_ne hr hb (by decide))⟩
theorem Wr.put {B b : Nat} {p v v' : Value} {bs' tl : List Value} {w : World} (hB : B ≤ b) (ht : tl.length = 8) (hb : Blk w b (p :: v :: tl) 160) (hr : w.ownsRowF B 5 1 v' bs'.length bs') : Wr B b p bs' tl (w.setCell ⟨b, 1, none⟩ v') :=
 ⟨hB, ht, v', hb.set 1 v', rowF_set hr (rowF_ne hr hb (by decide))⟩
set_option maxRecDepth 100000 in
theorem wr_copy (B b : Nat) (bs tl : List Value) (w : World) (h : WrI B b bs tl w) :
  Calls Tryz.prog 186 #[.pointer (some ⟨b, 0, none⟩)] w fun e w' => e = .returned (.tuple #[]) ∧ Wr B b (.pointer (some ⟨b, 0, none⟩)) bs tl w' ∧ Below B w w' ∧ Lib.OthersKept 5 (some b) w w' := by
 have hs : (Tryz.prog.info? 158).map (·.size) = some 2 := by kernel_rfl
 obtain ⟨j, hj, hjs⟩ := Option.map_eq_some_iff.1 hs
 rcases h with h | h
 ·obtain ⟨hB, ht, v, hb, hr⟩ := h
  have h0 := hb.cell (o := 0) rfl; have hfz := hb.free 0
  have hsh : w.shape? b = some (160, 10) := by unfold Blk at hb; simp [World.shape?, hb, ht]
  have hl : liesAt Tryz.prog Tryz.prog.depth 160 (10 / Tryz.prog.cellsOf 160) 0 158 1 = true := by kernel_rfl
  go_enter Tryz.func186, Tryz.ntmps186
  go_wp2; rw [Lib.run_to_unsafe w ⟨b, 0, none⟩ Tryz.underlying155 Tryz.underlying270 hj (by rw [hjs]; decide) hsh (by show (0 : Nat) < 10; decide)]; simp only [Result.andThen]; rw [Oper.upon_value]; go_wp2; rw [run_callFunc_extern Tryz.func214 (by kernel_rfl) (by kernel_rfl) (by kernel_rfl) (e := Extern.AbiNoEscape.same) (by kernel_rfl)]; rw [Lib.run_noEscape]; simp only [Result.andThen]; rw [Oper.upon_value]; go_wp2; rw [Lib.run_from_unsafe w ⟨b, 0, none⟩ Tryz.underlying270 Tryz.underlying155 hj hsh hl]; simp only [Result.andThen]; rw [Oper.upon_value]; go_wp2
  go_end0
  exact ⟨rfl, ⟨hB, ht, v, hb.set 0 _, rowF_set hr (rowF_ne hr hb (by decide))⟩, (Below.refl B w).setCell (p := ⟨b, 0, none⟩) hB _, (Lib.OthersKept.refl _ _ w).setCell ⟨b, 0, none⟩ rfl _⟩
 ·have h' := h
  obtain ⟨hB, ht, v, hb, hr⟩ := h; have h0 := hb.cell (o := 0) rfl
  go_enter Tryz.func186, Tryz.ntmps186
  go_wp2; rw [Lib.run_neq_ptr_same w _ Tryz.underlying155 hj]; go_wp2
  go_end0
  exact ⟨rfl, h', Below.refl B _, Lib.OthersKept.refl _ _ w⟩
set_option maxRecDepth 100000 in
theorem wr_len (B b : Nat) (bs tl : List Value) (w : World) (h : WrI B b bs tl w) :
  Calls Tryz.prog 111 #[.pointer (some ⟨b, 0, none⟩)] w fun e w' => e = .returned (.int .i64 bs.length) ∧ w' = w := by
 obtain ⟨p, hB, ht, v, hb, hr⟩ : ∃ p, Wr B b p bs tl w := by
  rcases h with h | h
  ·exact ⟨_, h⟩
  ·exact ⟨_, h⟩
 obtain ⟨ao, cap, rfl⟩ : ∃ ao cap, v = .slice ao bs.length cap := by
  rcases hr.2 with ⟨hv, h0⟩ | ⟨g, cap, cur, fz, hv, _⟩
  ·exact ⟨none, 0, by rw [hv, h0]⟩
  ·exact ⟨_, _, hv⟩
 have c1 := hb.cell (o := 1) rfl
 go_enter Tryz.func111, Tryz.ntmps111
 go_wp2; go_ret; exact ⟨rfl, rfl⟩
theorem infoU8 : (Tryz.prog.info? 5).map (fun i => (i.zero, i.size, i.bytes)) = some (some (.int .u8 0), 1, 1) := by kernel_rfl
set_option maxRecDepth 100000 in
theorem wr_str (B b : Nat) (bs tl : List Value) (s : ByteArray) (w : World) (h : WrI B b bs tl w) (hlen : bs.length + s.size ≤ 140737488355328) (hBw : B ≤ w.heap.size) :
  Calls Tryz.prog 147 #[.pointer (some ⟨b, 0, none⟩), .string s] w fun e w' => e = .returned (.tuple #[.int .i64 s.size, .nilIface]) ∧ Wr B b (.pointer (some ⟨b, 0, none⟩)) (bs ++ Lib.strCells s) tl w' ∧ Below B w w' ∧ Lib.OthersKept 5 (some b) w w' := by
 obtain ⟨i0, hi, hz0, hz1, hz2⟩ := info_parts infoU8
 go_enter Tryz.func147, Tryz.ntmps147
 go_wp2_with (go_at_call 186; (with_reducible refine (wr_copy B b bs tl _ h).mono ?_))
 rintro e w1 ⟨rfl, ⟨hB, ht, v, hb, hr⟩, hb1, hk1⟩
 have c1 := hb.cell (o := 1) rfl
 obtain ⟨ao, cap, hv⟩ : ∃ ao cap, v = .slice ao bs.length cap := by
  rcases hr.2 with ⟨hv, h0⟩ | ⟨g, cap, cur, fz, hv, _⟩
  ·exact ⟨none, 0, by rw [hv, h0]⟩
  ·exact ⟨_, _, hv⟩
 subst hv; replace hr := hdh hr; replace hb1 := hdh hb1; replace hb := hdh hb; have z1 := hb1.out.size; have hne := rowF_ne hr.out hb.out (by decide)
 go_wp2_with (at_builtin; refine Lib.wpList_append_own_stringF _ rfl _ _ 156 9 rfl B 5 i0 Tryz.underlying156 Tryz.underlying9 hi hz0 hz1 hz2 _ _ _ rfl hr.out s rfl (by unfold maxLen; omega) (by omega) (by omega) ?_; intro v' w2 hown' hgr _; have hb2 := hb.out.keep hgr hne; have d1 := hb2.cell (o := 1) rfl; have f1 := hb2.free 1; obtain ⟨ao', n', cap', hv'⟩ : ∃ ao n' cap, v' = .slice ao n' cap := (by
   rcases hown'.2 with ⟨hv, _⟩ | ⟨g, cap, cur, fz, hv, _⟩
   ·exact ⟨_, _, _, hv⟩
   ·exact ⟨_, _, _, hv⟩); subst hv'; replace hown' := hdh hown'; replace hgr := hdh hgr)
 go_ret2; exact ⟨rfl, Wr.put hB ht hb2 (by simpa [Lib.strCells_length] using hown'.out), (hb1.out.grown hgr.out (by omega) (fun k hk => (hr.out.lt k hk).1)).setCell (p := ⟨b, 1, none⟩) hB _, (hk1.grown hgr.out (Lib.ownsRowF_kind hr.out)).setCell ⟨b, 1, none⟩ rfl _⟩
set_option maxRecDepth 100000 in
theorem wr_byte (B b : Nat) (bs tl : List Value) (c : Int) (w : World) (h : WrI B b bs tl w) (hlen : bs.length + 1 ≤ 140737488355328) (hBw : B ≤ w.heap.size) :
  Calls Tryz.prog 148 #[.pointer (some ⟨b, 0, none⟩), .int .u8 c] w fun e w' => e = .returned .nilIface ∧ Wr B b (.pointer (some ⟨b, 0, none⟩)) (bs ++ [.int .u8 c]) tl w' ∧ Below B w w' ∧ Lib.OthersKept 5 (some b) w w' := by
 obtain ⟨i0, hi, hz0, hz1, hz2⟩ := info_parts infoU8
 go_enter Tryz.func148, Tryz.ntmps148
 go_wp2_with (go_at_call 186; (with_reducible refine (wr_copy B b bs tl _ h).mono ?_))
 rintro e w1 ⟨rfl, ⟨hB, ht, v, hb, hr⟩, hb1, hk1⟩
 have c1 := hb.cell (o := 1) rfl
 obtain ⟨ao, cap, hv⟩ : ∃ ao cap, v = .slice ao bs.length cap := by
  rcases hr.2 with ⟨hv, h0⟩ | ⟨g, cap, cur, fz, hv, _⟩
  ·exact ⟨none, 0, by rw [hv, h0]⟩
  ·exact ⟨_, _, hv⟩
 subst hv; have hra := hr.kept (World.grownBy_alloc w1 (.cells #[.int .u8 c] 5) none) (by cases (Value.slice ao bs.length cap).ownBlock <;> simp); replace hra := hdh hra; replace hr := hdh hr; replace hb1 := hdh hb1; replace hb := hdh hb; have z1 := hb1.out.size; have hne := rowF_ne hr.out hb.out (by decide)
 go_wp2_with (at_builtin; refine wpList_append_ownF _ rfl _ _ 156 rfl B 5 i0 (.int .u8 0) 1 1 Tryz.underlying156 hi hz0 hz1 hz2 rfl (by decide) _ _ _ rfl hra.out ⟨w1.heap.size, 0, none⟩ 1 1 [.int .u8 c] rfl rfl (cells_new w1 [.int .u8 c] 5) (by intro u hu; simp only [List.mem_cons, List.not_mem_nil, or_false] at hu; subst hu; rfl) (by unfold maxLen; omega) (by omega) (by simp; omega) ?_; intro v' w2 hown' hgr _; have hb2 := (hb.out.alloc _).keep hgr hne; have d1 := hb2.cell (o := 1) rfl; have f1 := hb2.free 1; obtain ⟨ao', n', cap', hv'⟩ : ∃ ao n' cap, v' = .slice ao n' cap := (by
   rcases hown'.2 with ⟨hv, _⟩ | ⟨g, cap, cur, fz, hv, _⟩
   ·exact ⟨_, _, _, hv⟩
   ·exact ⟨_, _, _, hv⟩); subst hv'; replace hown' := hdh hown'; replace hgr := hdh hgr)
 go_ret; exact ⟨rfl, Wr.put hB ht hb2 (by simpa using hown'.out), ((hb1.out.alloc (by omega) _).grown hgr.out (by simp; omega) (fun k hk => (hr.out.lt k hk).1)).setCell (p := ⟨b, 1, none⟩) hB _, ((hk1.alloc _).grown hgr.out (Lib.ownsRowF_kind hra.out)).setCell ⟨b, 1, none⟩ rfl _⟩
set_option maxRecDepth 100000 in
theorem wr_rune (B b : Nat) (bs tl : List Value) (r : Int) (w : World) (h : WrI B b bs tl w) (hr0 : -2147483648 ≤ r) (hr1 : r ≤ 2147483647) (hlen : bs.length + 4 ≤ 140737488355328) (hBw : B ≤ w.heap.size) :
  Calls Tryz.prog 151 #[.pointer (some ⟨b, 0, none⟩), .int .i32 r] w fun e w' => e = .returned (.tuple #[.int .i64 (Lib.runeCells r).length, .nilIface]) ∧ Wr B b (.pointer (some ⟨b, 0, none⟩)) (bs ++ Lib.runeCells r) tl w' ∧ Below B w w' ∧ Lib.OthersKept 5 (some b) w w' := by
 have hk4 := Lib.runeCells_le r
 go_enter Tryz.func151, Tryz.ntmps151
 go_wp2_with (go_at_call 186; (with_reducible refine (wr_copy B b bs tl _ h).mono ?_))
 rintro e w1 ⟨rfl, ⟨hB, ht, v, hb, hr⟩, hb1, hk1⟩
 have c1 := hb.cell (o := 1) rfl
 obtain ⟨ao, cap, hv⟩ : ∃ ao cap, v = .slice ao bs.length cap := by
  rcases hr.2 with ⟨hv, h0⟩ | ⟨g, cap, cur, fz, hv, _⟩
  ·exact ⟨none, 0, by rw [hv, h0]⟩
  ·exact ⟨_, _, hv⟩
 subst hv; replace hr := hdh hr; replace hb1 := hdh hb1; replace hb := hdh hb; have z1 := hb1.out.size; have hne := rowF_ne hr.out hb.out (by decide); have AP := Any.utf8_AppendRune_own { YtfcphagmjijmkaaGreatDoor.bwrLays with } YtfcphagmjijmkaaGreatDoor.bwrLaysX B _ bs.length bs r hr0 hr1 w1 hr.out hlen (by omega)
 go_wp2_with (go_at_call 188; refine AP.mono ?_; rintro e w2 ⟨v', rfl, hown', o, hgr⟩; have hb2 := (hb.out.alloc o).keep hgr hne; have d1 := hb2.cell (o := 1) rfl; have f1 := hb2.free 1; obtain ⟨ao', cap', hv'⟩ : ∃ ao cap, v' = .slice ao (bs.length + (Lib.runeCells r).length) cap := (by
   rcases hown'.2 with ⟨hv, h0⟩ | ⟨g, cap, cur, fz, hv, _⟩
   ·exact ⟨none, 0, by rw [hv, h0]⟩
   ·exact ⟨_, _, hv⟩); subst hv'; replace hown' := hdh hown'; replace hgr := hdh hgr)
 go_ret2; refine ⟨?_, Wr.put hB ht hb2 (by have h := hown'.out; rw [List.length_append]; exact h), ((hb1.out.alloc (by omega) o).grown hgr.out (by simp; omega) (fun k hk => (hr.out.lt k hk).1)).setCell (p := ⟨b, 1, none⟩) hB _, ((hk1.alloc o).grown hgr.out (Lib.ownsRowF_kind (hr.out.kept (World.grownBy_alloc w1 o none) (by cases (Value.slice ao bs.length cap).ownBlock <;> simp)))).setCell ⟨b, 1, none⟩ rfl _⟩
 have e : ((bs.length : Int) + ((Lib.runeCells r).length : Int) - (bs.length : Int)) = ((Lib.runeCells r).length : Int) := by omega
 simp [e]
set_option maxRecDepth 100000 in
theorem wr_string (B b : Nat) (l : List UInt8) (tl : List Value) (w : World) (h : WrI B b (Lib.byteCells l) tl w) (h0 : l ≠ []) :
  Calls Tryz.prog 112 #[.pointer (some ⟨b, 0, none⟩)] w fun e w' => e = .returned (.string ⟨l.toArray⟩) ∧ Below B w w' := by
 obtain ⟨p, hB, ht, v, hb, hr⟩ : ∃ p, Wr B b p (Lib.byteCells l) tl w := by
  rcases h with h | h
  ·exact ⟨_, h⟩
  ·exact ⟨_, h⟩
 have hl0 : l.length ≠ 0 := by simpa using h0
 rw [Lib.byteCells_length] at hr
 obtain ⟨g, cap, cur, fz, rfl, hbg, hg, hfz, hnc, hcm, hcs, htake⟩ : ∃ g cap cur fz, v = .slice (some ⟨g, 0, none⟩) l.length cap ∧ B ≤ g ∧ w.heap[g]? = some (.cells cur 5 fz) ∧ fz.2 ≤ l.length * 1 ∧ l.length ≤ cap ∧ cap ≤ maxLen ∧ cur.size = cap * 1 ∧ cur.toList.take (l.length * 1) = Lib.byteCells l := by
  rcases hr.2 with ⟨_, hz⟩ | ⟨g, cap, cur, fz, hv, r⟩
  ·exact absurd hz hl0
  ·exact ⟨g, cap, cur, fz, hv, r⟩
 have c1 := hb.drew.cell (o := 1) rfl
 have hSD : (Builtin.unsafeSliceData_ #[156] 208 #[.slice (some ⟨g, 0, none⟩) l.length cap]).run Tryz.prog w.drew = .ok (.pointer (some ⟨g, 0, none⟩)) w.drew :=
  Lib.run_unsafeSliceData_row _ _ _ _ _ _ (by omega)
 have hUS : (Builtin.unsafeString_ #[208, 3] 9 #[.pointer (some ⟨g, 0, none⟩), .int .i64 l.length]).run Tryz.prog w.drew = .ok (.string ⟨l.toArray⟩) (w.drew.freeze ⟨g, 0, none⟩ l.length) := by
  refine Lib.run_unsafeString_row w.drew 208 3 9 5 Tryz.underlying208 (by kernel_rfl) g cur.size (by have hg' : w.drew.heap[g]? = some (.cells cur 5 fz) := hg; simp [World.shape?, hg']) l h0 (by omega) (by unfold maxLen at hcm; omega) ?_
  intro j x hx
  have := hr.cells (g := g) rfl j (.int .u8 x.toNat) (by simp [Lib.byteCells, hx]); exact this
 have mixed : Tryz.prog.follows Departure.mixedOrders = true := by kernel_rfl
 go_enter Tryz.func112, Tryz.ntmps112
 go_wp2
 go_region_o
 all_goals (go_wp2; go_ret; exact ⟨rfl, Lib.below_freeze (Below.drew (Below.refl B w)) (p := ⟨g, 0, none⟩) hbg _⟩)
set_option maxRecDepth 100000 in
theorem wr_string_nil (B b : Nat) (p : Value) (tl : List Value) (w : World) (hb : Blk w b (p :: .slice none 0 0 :: tl) 160) :
  Calls Tryz.prog 112 #[.pointer (some ⟨b, 0, none⟩)] w fun e w' => e = .returned (.string ⟨#[]⟩) ∧ Below B w w' := by
 have hUS : (Builtin.unsafeString_ #[208, 3] 9 #[.pointer none, .int .i64 0]).run Tryz.prog w.drew = .ok (.string ⟨#[]⟩) w.drew := Lib.run_unsafeString_none _ _ _ _ none; have c1 := hb.drew.cell (o := 1) rfl; have hSD : (Builtin.unsafeSliceData_ #[156] 208 #[.slice none 0 0]).run Tryz.prog w.drew = .ok (.pointer none) w.drew := rfl
 have mixed : Tryz.prog.follows Departure.mixedOrders = true := by kernel_rfl
 go_enter Tryz.func112, Tryz.ntmps112
 go_wp2
 go_region_o
 all_goals (go_wp2; go_ret; exact ⟨rfl, Below.drew (Below.refl B w)⟩)
end Go.Proofs.YtfcphagmjijmkaaGreatDoor
