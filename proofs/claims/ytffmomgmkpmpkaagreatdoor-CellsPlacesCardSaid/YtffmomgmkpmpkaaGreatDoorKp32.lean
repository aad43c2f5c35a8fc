/-
  Cells, plain: what is drawn at a place is painted by what shows there.
-/
import Derived.Test.YtffmomgmkpmpkaaGreatDoorProg
import Derived.Test.YtffmomgmkpmpkaaGreatDoorKp31
namespace Go.Proofs.YtffmomgmkpmpkaaGreatDoor
open Go.RowKit
set_option linter.unusedVariables false
attribute [local go_sem] vwp vUpon_value vUpon_skip vUpon_enter vUpon_row
set_option linter.unusedSimpArgs false
set_option linter.unusedVariables false
/-- What the strokes that show at a place make of its cell. -/
def pntC (x y : Int) (c : Ce) (l : List St) : Ce := l.foldl (fun c s => madeC c s (glyS s.text) x y) c
theorem pnt_snoc (x y : Int) (c : Ce) (l : List St) (s : St) : pntC x y c (l ++ [s]) = madeC (pntC x y c l) s (glyS s.text) x y := by
  unfold pntC; rw [List.foldl_append]; rfl
theorem text_nil {s : ByteArray} (h : s.toList = []) : s = ⟨#[]⟩ := by
  rw [Lib.toList_data] at h
  apply ByteArray.ext
  apply Array.ext'
  exact h
theorem gly_none (X Y : Nat) : glyAt (glyS ⟨#[]⟩) X Y = none := by
  have e : glyS ⟨#[]⟩ = [[]] := by rfl
  rw [e]
  unfold glyAt
  cases Y with
  | zero => rfl
  | succ Y => rfl
theorem frm_edge (q : Re) (x y : Int) : frmP q x y = 0 ↔ edgeP q x y = false := by
  have h : ∀ l r a b w h : Bool, frmV l r a b w h = 0 ↔ (l || a || r || b) = false := by decide
  unfold frmP edgeP
  rw [h]
  have e1 : (x - q.x == 0) = (x == q.x) := by rw [Bool.eq_iff_iff]; simp; omega
  have e2 : (y - q.y == 0) = (y == q.y) := by rw [Bool.eq_iff_iff]; simp; omega
  have e3 : (x - q.x == q.wd - 1) = (x == q.x + q.wd - 1) := by rw [Bool.eq_iff_iff]; simp; omega
  have e4 : (y - q.y == q.ht - 1) = (y == q.y + q.ht - 1) := by rw [Bool.eq_iff_iff]; simp; omega
  rw [e1, e2, e3, e4]
theorem pnt_paint {s : St} (hw : s.Wf) (hk : s.kind = 1 ∨ s.kind = 2 ∨ s.kind = 3) (x y : Int) (c : Ce) (out : List St) : pntC x y c (paintP s x y out) = madeC (pntC x y c out) s (glyS s.text) x y := by
  have ha : 0 ≤ s.col.a := hw.2.2.1.2.2.2.1
  unfold paintP
  rcases hk with hk | hk | hk
  · rw [if_pos hk]
    by_cases h1 : s.col.a = 255
    · rw [if_pos h1]
      show madeC c s (glyS s.text) x y = _
      unfold madeC
      rw [if_neg (by omega), if_neg (by omega), if_pos hk, if_neg (by omega), if_neg (by omega), if_pos hk]
      unfold fillC
      rw [if_pos h1, if_pos h1]
    · rw [if_neg h1]
      by_cases h2 : 0 < s.col.a
      · rw [if_pos h2, pnt_snoc]
      · rw [if_neg h2]
        unfold madeC
        rw [if_neg (by omega), if_pos (by omega)]
  · rw [if_neg (by omega), if_pos hk]
    by_cases h : (edgeP s.rect x y && decide (0 < s.col.a)) = true
    · rw [if_pos h, pnt_snoc]
    · rw [if_neg h]
      unfold madeC
      rw [if_neg (by omega)]
      by_cases h2 : s.col.a = 0
      · rw [if_pos h2]
      · rw [if_neg h2, if_neg (by omega), if_pos]
        rw [frm_edge]
        cases he : edgeP s.rect x y
        · rfl
        · exact absurd (by rw [he]; simp; omega) h
  · rw [if_neg (by omega), if_neg (by omega)]
    by_cases h : s.text.toList = []
    · rw [if_pos h]
      unfold madeC
      rw [if_pos hk, text_nil h, gly_none]
    · rw [if_neg h, pnt_snoc]
theorem flt_cons (s : St) (xs : List St) (q : Re) (rs : List Re) : fltS (s :: xs) = (if drB s then s :: fltS xs else fltS xs) ∧ fltR (s :: xs) (q :: rs) = (if drB s then q :: fltR xs rs else fltR xs rs) := by
  unfold fltS fltR
  rw [List.filter_cons, List.zip_cons_cons, List.filter_cons]
  cases drB s <;> simp
theorem drw_at (W : Nat) (c : Ce) (k : Nat) : ∀ (xs : List St) (rs : List Re) (cs : List Ce) (out : List St), (∀ s ∈ xs, s.Wf ∧ (drB s = true → s.kind = 1 ∨ s.kind = 2 ∨ s.kind = 3)) → rs.length = xs.length → cs[k]? = some (pntC ((k % W : Nat) : Int) ((k / W : Nat) : Int) c out) →
    (drwGo W glyS cs (fltS xs) (fltR xs rs))[k]? = some (pntC ((k % W : Nat) : Int) ((k / W : Nat) : Int) c (atSh ((k % W : Nat) : Int) ((k / W : Nat) : Int) xs rs out))
  | [], [], cs, out, _, _, h => by
    have e : fltR [] [] = [] := rfl
    rw [show fltS [] = [] from rfl, drwGo_nil]
    exact h
  | [], _ :: _, _, _, _, h, _ => by cases h
  | _ :: _, [], _, _, _, h, _ => by cases h
  | s :: xs, q :: rs, cs, out, hx, hl, h => by
    obtain ⟨e1, e2⟩ := flt_cons s xs q rs
    obtain ⟨hw, hk⟩ := hx s (by simp)
    rw [e1, e2, atSh]
    cases hd : drB s
    · simp only [Bool.false_and, Bool.false_eq_true, if_false]
      exact drw_at W c k xs rs cs out (fun t ht => hx t (by simp [ht])) (by simpa using hl) h
    · simp only [if_true, Bool.true_and]
      rw [drwGo]
      refine drw_at W c k xs rs _ _ (fun t ht => hx t (by simp [ht])) (by simpa using hl) ?_
      unfold strokeD
      rw [updP_get, h]
      simp only [Option.map_some]
      cases hq : hasR q ((k % W : Nat) : Int) ((k / W : Nat) : Int)
      · simp
      · simp only [if_true]
        rw [pnt_paint hw (hk hd)]
/-- A drawn screen's cells. -/
theorem draw_at {wd ht : Int} {cs : List Ce} {xs : List St} (h : drawE wd ht cs xs = 0) (hw : ∀ s ∈ xs, s.Wf) {k : Nat} {c : Ce} (hc : cs[k]? = some c) :
    (drawC glyS wd ht cs xs)[k]? = some (pntC ((k % wd.toNat : Nat) : Int) ((k / wd.toNat : Nat) : Int) c (atL xs ((k % wd.toNat : Nat) : Int) ((k / wd.toNat : Nat) : Int))) := by
  have h0 := h
  unfold drawE at h
  split at h
  · have e : drawC glyS wd ht cs xs = drwGo wd.toNat glyS cs (flS xs) (flR xs) := if_pos h0
    have e1 : flS xs = fltS xs := if_pos h
    have e2 : flR xs = fltR xs (shL xs) := if_pos h
    rw [e, e1, e2, at_sh h (kinds_of h)]
    exact drw_at wd.toNat c k xs (shL xs) cs [] (fun s hs => ⟨hw s hs, kind_of h hs⟩) (shL_len xs) hc
  · cases h
theorem draw_len {wd ht : Int} {cs : List Ce} {xs : List St} (h : drawE wd ht cs xs = 0) : (drawC glyS wd ht cs xs).length = cs.length := by
  have e : drawC glyS wd ht cs xs = drwGo wd.toNat glyS cs (flS xs) (flR xs) := if_pos h
  rw [e, drwGo_len]
theorem draw_chk {wd ht : Int} {cs : List Ce} {xs : List St} (h : drawE wd ht cs xs = 0) : chkS wd ht (drawC glyS wd ht cs xs) = 0 := by
  have h0 := h
  unfold drawE at h
  split at h
  · rename_i hk
    obtain ⟨hfit, hlen, hall⟩ := chkS_zero hk
    have e : drawC glyS wd ht cs xs = drwGo wd.toNat glyS cs (flS xs) (flR xs) := if_pos h0
    unfold chkS
    rw [e, hfit, drwGo_len, hlen, drwGo_may _ _ _ _ hall]
    simp
  · cases h
/-- What nobody sees may be left out. -/
theorem draw_norm {wd ht : Int} {cs : List Ce} {xs : List St} (h : drawE wd ht cs xs = 0) (hw : ∀ s ∈ xs, s.Wf) : drawE wd ht cs (normS xs) = 0 ∧ drawC glyS wd ht cs (normS xs) = drawC glyS wd ht cs xs := by
  have hx : chkS wd ht cs = 0 ∧ chkL xs = 0 := by
    unfold drawE at h
    split at h
    · exact ⟨by assumption, h⟩
    · cases h
  have hn : drawE wd ht cs (normS xs) = 0 := by unfold drawE; rw [if_pos hx.1, chk_norm hx.2]
  refine ⟨hn, List.ext_getElem? fun k => ?_⟩
  by_cases hk : k < cs.length
  · obtain ⟨c, hc⟩ := get_at (l := cs) rfl hk
    rw [draw_at hn (norm_wf hx.2 hw) hc, draw_at h hw hc, at_norm hx.2 hw (kinds_of hx.2)]
  · rw [List.getElem?_eq_none (by rw [draw_len hn]; omega), List.getElem?_eq_none (by rw [draw_len h]; omega)]
/-! ### within -/
theorem wi_is {xs : List St} {R : List Re} : ∀ (l : List Re) (out o : List St), wiGo xs R l out = some o → o = out ++ l.flatMap fun r => busyL (cutL xs R r)
  | [], out, o, h => by
    rw [wiGo] at h
    injection h with h
    simp [h]
  | r :: l, out, o, h => by
    rw [wiGo] at h
    split at h
    · cases h
    · have := wi_is l _ _ h
      rw [this, List.flatMap_cons, List.append_assoc]
theorem both_is {qs : List Re} (hf : bothE qs [] 1 = 0) : bothL qs [] 1 = formR qs [] 1 ∧ askR qs [] = 0 := by
  unfold bothE at hf
  split at hf
  · rename_i h
    unfold madeE at hf
    split at hf
    · cases hf
    · rename_i h2
      unfold bothL madeL
      rw [if_pos h, if_neg h2]
      exact ⟨rfl, h⟩
  · rename_i h
    exact absurd hf h
theorem within_any2 {xs : List St} {qs : List Re} (h : chkL xs = 0) (hw : ∀ s ∈ xs, s.Wf) (hq : MayL qs) (hf : bothE qs [] 1 = 0) (h0 : wiE xs qs = 0) :
    chkL (wiS xs qs) = 0 ∧ ∀ x y, atL (wiS xs qs) x y = if hasL qs x y then atL xs x y else [] := by
  have hk := kinds_of h
  have hmf : MayL (bothL qs [] 1) := (both_may hq).1
  unfold wiE at h0
  rw [if_pos h, if_pos hf] at h0
  cases ho : wiGo xs (shL xs) (bothL qs [] 1) [] with
  | none => rw [ho] at h0; cases h0
  | some o =>
    have e2 : wiS xs qs = o := by unfold wiS; rw [if_pos h, if_pos hf, ho]; rfl
    have ho' := wi_is _ _ _ ho
    rw [List.nil_append] at ho'
    have e3 := chk_segs (shL_len xs) (chk_go0 h) (bothL qs [] 1) hmf
    have hb := (both_is hf).1
    refine ⟨?_, fun x y => ?_⟩
    · have := wiS_le xs qs
      unfold chkL
      rw [if_neg (by omega), e2, ho']
      exact e3
    · have := at_segs h hw hk x y (bothL qs [] 1) hmf (by rw [hb]; exact form_apart hq.sane mayL_nil.sane 1 x y) [] (fun _ => rfl)
      rw [e2, ho']
      unfold atL
      rw [this, hb, form_places hq.sane mayL_nil.sane, want1, has_nil, Bool.or_false]
      rfl
theorem ask_may {qs : List Re} (h : askR qs [] = 0) : MayL qs := by
  unfold askR at h
  split at h
  · rename_i h2; exact (chkR_may h2).1
  · rename_i h2; exact absurd h h2
/-- What is drawn of a list within some rectangles. -/
theorem draw_within {wd ht : Int} {cs : List Ce} {xs : List St} {qs : List Re} (h : drawE wd ht cs xs = 0) (hw : ∀ s ∈ xs, s.Wf) (hf : bothE qs [] 1 = 0) (h0 : wiE xs qs = 0) :
    drawE wd ht cs (wiS xs qs) = 0 ∧ (∀ s ∈ wiS xs qs, s.Wf) ∧ ∀ (k : Nat) (c : Ce), cs[k]? = some c →
      (drawC glyS wd ht cs (wiS xs qs))[k]? = if hasL qs ((k % wd.toNat : Nat) : Int) ((k / wd.toNat : Nat) : Int) then (drawC glyS wd ht cs xs)[k]? else some c := by
  have hx : chkS wd ht cs = 0 ∧ chkL xs = 0 := by
    unfold drawE at h
    split at h
    · exact ⟨by assumption, h⟩
    · cases h
  have hq := ask_may (both_is hf).2
  obtain ⟨w1, w2⟩ := within_any2 hx.2 hw hq hf h0
  have hn : drawE wd ht cs (wiS xs qs) = 0 := by unfold drawE; rw [if_pos hx.1, w1]
  have hww := within_wf hx.2 hw hq
  refine ⟨hn, hww, fun k c hc => ?_⟩
  rw [draw_at hn hww hc, draw_at h hw hc, w2]
  split
  · rfl
  · rfl
theorem bothL_has {qs : List Re} (hf : bothE qs [] 1 = 0) (x y : Int) : hasL (bothL qs [] 1) x y = hasL qs x y := by
  have hq := ask_may (both_is hf).2
  rw [(both_is hf).1, form_places hq.sane mayL_nil.sane, want1, has_nil, Bool.or_false]
theorem wi_err {xs : List St} {qs : List Re} (h : chkL xs = 0) : (bothE qs [] 1 = 0 ∧ (wiE xs qs = 0 ∨ wiE xs qs = 4)) ∨ (bothE qs [] 1 ≠ 0 ∧ wiE xs qs = bothE qs [] 1) := by
  unfold wiE
  rw [if_pos h]
  by_cases hf : bothE qs [] 1 = 0
  · rw [if_pos hf]
    refine .inl ⟨hf, ?_⟩
    cases wiGo xs (shL xs) (bothL qs [] 1) [] with
    | none => exact .inr rfl
    | some o => exact .inl rfl
  · rw [if_neg hf]
    exact .inr ⟨hf, rfl⟩
end Go.Proofs.YtffmomgmkpmpkaaGreatDoor

namespace Go.Proofs.YtffmomgmkpmpkaaGreatDoor
open Go.RowKit
set_option linter.unusedVariables false
attribute [local go_sem] vwp vUpon_value vUpon_skip vUpon_enter vUpon_row
set_option linter.unusedSimpArgs false
set_option linter.unusedVariables false
def Ce.nought : Ce := ⟨0, Co.none, Co.none, false, false⟩
def atOk (wd ht : Int) (cs : List Ce) (x y : Int) : Bool := decide (chkS wd ht cs = 0) && plcS wd ht x y
def atC (wd ht : Int) (cs : List Ce) (x y : Int) : Ce := if atOk wd ht cs x y then (cs[(y * wd + x).toNat]?).getD Ce.nought else Ce.nought
def atE (wd ht : Int) (cs : List Ce) (x y : Int) : Int := if atOk wd ht cs x y then 0 else 150
theorem chk_cases (wd ht : Int) (cs : List Ce) : chkS wd ht cs = 0 ∨ chkS wd ht cs = 150 := by
  unfold chkS; split <;> simp
theorem chk_zero {wd ht : Int} {cs : List Ce} (h : chkS wd ht cs = 0) : fitsS wd ht = true ∧ (cs.length : Int) = wd * ht ∧ cs.all mayC = true := by
  unfold chkS at h
  split at h
  · rename_i hc
    simp only [Bool.and_eq_true, decide_eq_true_eq] at hc
    exact ⟨hc.1.1, hc.1.2, hc.2⟩
  · cases h
theorem cindex_v (wd ht x y z : Int) (v : Value) (w : World) (hfit : fitsS wd ht = true) (hz : idxS wd ht x y = z) : Calls Tryz.prog 58 #[.agg #[.int .i64 (wd), .int .i64 (ht), v], .agg #[.int .i64 (x), .int .i64 (y)]] w fun e w' => e = .returned (.int .i64 z) ∧ Below w.heap.size w w' := by
  rw [← hz]
  exact cindex_any wd ht x y v w hfit
set_option maxHeartbeats 8000000 in
set_option maxRecDepth 100000 in
theorem cat_any (wd ht : Int) (cs : List Ce) (v : Value) (x y : Int) (w : World) (h1 : I64 wd) (h2 : I64 ht) (hl : Row w.heap.size 11 Ce.enc w v cs) :
  Calls Tryz.prog 21 #[.agg #[.int .i64 (wd), .int .i64 (ht), v], .agg #[.int .i64 (x), .int .i64 (y)]] w fun e w' => e = .returned (.tuple #[.agg #[.int .i32 ((atC wd ht cs x y)).rune, .int .u8 ((atC wd ht cs x y)).col.r, .int .u8 ((atC wd ht cs x y)).col.g, .int .u8 ((atC wd ht cs x y)).col.b, .int .u8 ((atC wd ht cs x y)).col.a, .int .u8 ((atC wd ht cs x y)).back.r, .int .u8 ((atC wd ht cs x y)).back.g, .int .u8 ((atC wd ht cs x y)).back.b, .int .u8 ((atC wd ht cs x y)).back.a, .bool ((atC wd ht cs x y)).wide, .bool ((atC wd ht cs x y)).tail], .int .i64 (atE wd ht cs x y)]) ∧ Below w.heap.size w w' := by
 have C1 := fun w1 (hb : Below w.heap.size w w1) => ccheck_any wd ht cs v w1 h1 h2 ((hl.below hb).mono hb.size)
 have hopen := fun h0 => row_ce hl h0
 obtain ⟨s0, cap, rfl, hmax⟩ := hl.shape
 obtain ⟨RC, hRC⟩ : ∃ R, atC wd ht cs x y = R := ⟨_, rfl⟩
 obtain ⟨RE, hRE⟩ : ∃ R, atE wd ht cs x y = R := ⟨_, rfl⟩
 rw [hRC, hRE]
 unfold atC at hRC
 unfold atE at hRE
 obtain ⟨ok, hok⟩ : ∃ b, atOk wd ht cs x y = b := ⟨_, rfl⟩
 rw [hok] at hRC hRE
 unfold atOk at hok
 obtain ⟨n, en⟩ : ∃ n, cs.length = n := ⟨_, rfl⟩
 rw [en] at C1 hmax hopen ⊢
 replace hopen := Lib.hid hopen
 replace en := Lib.hid en
 clear hl
 go_enter Tryz.func21, Tryz.ntmps21
 go_upto_region 1 with fail
 obtain ⟨W, hW⟩ : ∃ W, ((w.alloc (.cells #[.int .i64 wd, .int .i64 ht, .slice s0 n cap] 26)).alloc (.cells #[.int .i64 x, .int .i64 y] 40)).alloc (.cells #[.int .i32 0, .int .u8 0, .int .u8 0, .int .u8 0, .int .u8 0, .int .u8 0, .int .u8 0, .int .u8 0, .int .u8 0, .bool false, .bool false] 52) = W := ⟨_, rfl⟩
 have B2 : Blk W w.heap.size [.int .i64 wd, .int .i64 ht, .slice s0 n cap] 26 := by rw [← hW]; exact ((Blk.new' rfl).alloc _).alloc _
 have B3 : Blk W (w.heap.size + 1) [.int .i64 x, .int .i64 y] 40 := by rw [← hW]; exact (Blk.new' (by simp)).alloc _
 have B4 : Blk W (w.heap.size + 1 + 1) [.int .i32 0, .int .u8 0, .int .u8 0, .int .u8 0, .int .u8 0, .int .u8 0, .int .u8 0, .int .u8 0, .int .u8 0, .bool false, .bool false] 52 := by rw [← hW]; exact Blk.new' (by simp)
 have hbw : Below w.heap.size w W := by rw [← hW]; exact belt
 rw [hW]
 clear hW
 have yB2 := B2.lt
 have yB3 := B3.lt
 have yB4 := B4.lt
 have q0 := B2.cell (o := 0) rfl
 have q1 := B2.cell (o := 1) rfl
 have q2 := B2.cell (o := 2) rfl
 replace C1 := Lib.hid (C1 W hbw)
 rcases chk_cases wd ht cs with e0 | e0
 ·rw [e0] at C1 hok
  obtain ⟨hfit, hlen, hall⟩ := chk_zero e0
  have hpl : plcS wd ht x y = ok := by simpa using hok
  clear hok
  replace hpl := Lib.hid hpl
  go_upto_region 4 with (go_at_call 15; (with_reducible refine C1.out.mono ?_); rintro e w1 ⟨rfl, hb1⟩)
  replace B2 := B2.below hb1 yB2
  replace B3 := B3.below hb1 yB3
  replace B4 := B4.below hb1 yB4
  replace hbw := hbw.trans (hb1.mono hbw.size)
  clear hb1 q0 q1 q2 C1 yB2 yB3 yB4
  have yB2 := B2.lt
  have yB3 := B3.lt
  have yB4 := B4.lt
  have q0 := B2.cell (o := 0) rfl
  have q1 := B2.cell (o := 1) rfl
  have q2 := B2.cell (o := 2) rfl
  have r0 := B3.cell (o := 0) rfl
  have r1 := B3.cell (o := 1) rfl
  cases ok
  ·simp only [Bool.false_eq_true, if_false] at hRC hRE
   subst hRC hRE
   have IX := fun v w => cindex_v wd ht x y (-1) v w hfit (by unfold idxS; rw [hpl.out]; rfl)
   replace IX := Lib.hid IX
   go_wp2_with (go_at_call 58; (with_reducible refine (IX.out _ _).mono ?_); rintro e w2 ⟨rfl, hb2⟩; replace B4 := B4.below hb2 yB4; replace hbw := hbw.trans (hb2.mono hbw.size); have k0 := (B4).cell (o := 0) rfl; have k1 := (B4).cell (o := 1) rfl; have k2 := (B4).cell (o := 2) rfl; have k3 := (B4).cell (o := 3) rfl; have k4 := (B4).cell (o := 4) rfl; have k5 := (B4).cell (o := 5) rfl; have k6 := (B4).cell (o := 6) rfl; have k7 := (B4).cell (o := 7) rfl; have k8 := (B4).cell (o := 8) rfl; have k9 := (B4).cell (o := 9) rfl; have k10 := (B4).cell (o := 10) rfl; have kf := (B4).free)
   clear k0 k1 k2 k3 k4 k5 k6 k7 k8 k9 k10 kf
   have HZ := Blk.put11 B4 rfl (.int .i32 0) (.int .u8 0) (.int .u8 0) (.int .u8 0) (.int .u8 0) (.int .u8 0) (.int .u8 0) (.int .u8 0) (.int .u8 0) (.bool false) (.bool false)
   have hbZ := put11_below hbw (b := (w.heap.size + 1 + 1)) (by omega) (.int .i32 0) (.int .u8 0) (.int .u8 0) (.int .u8 0) (.int .u8 0) (.int .u8 0) (.int .u8 0) (.int .u8 0) (.int .u8 0) (.bool false) (.bool false)
   generalize (((((((((((w2).setCell ⟨(w.heap.size + 1 + 1), 0, none⟩ (.int .i32 0)).setCell ⟨(w.heap.size + 1 + 1), 1, none⟩ (.int .u8 0)).setCell ⟨(w.heap.size + 1 + 1), 2, none⟩ (.int .u8 0)).setCell ⟨(w.heap.size + 1 + 1), 3, none⟩ (.int .u8 0)).setCell ⟨(w.heap.size + 1 + 1), 4, none⟩ (.int .u8 0)).setCell ⟨(w.heap.size + 1 + 1), 5, none⟩ (.int .u8 0)).setCell ⟨(w.heap.size + 1 + 1), 6, none⟩ (.int .u8 0)).setCell ⟨(w.heap.size + 1 + 1), 7, none⟩ (.int .u8 0)).setCell ⟨(w.heap.size + 1 + 1), 8, none⟩ (.int .u8 0)).setCell ⟨(w.heap.size + 1 + 1), 9, none⟩ (.bool false)).setCell ⟨(w.heap.size + 1 + 1), 10, none⟩ (.bool false) = wZ at HZ hbZ ⊢
   obtain ⟨jz0, jz1, jz2, jz3, jz4, jz5, jz6, jz7, jz8, jz9, jz10⟩ := HZ.c11
   refine bodyPost_ret (v := .tuple #[.agg #[(.int .i32 0), (.int .u8 0), (.int .u8 0), (.int .u8 0), (.int .u8 0), (.int .u8 0), (.int .u8 0), (.int .u8 0), (.int .u8 0), (.bool false), (.bool false)], .int .i64 150]) (by simp [results, Tryz.results21, go_sem, jz0, jz1, jz2, jz3, jz4, jz5, jz6, jz7, jz8, jz9, jz10]) rfl ⟨rfl, hbZ⟩
  ·simp only [if_true] at hRC hRE
   subst hRE
   obtain ⟨a1, a2, a3, a4⟩ := plcS_true.1 hpl.out
   obtain ⟨f1, f2, f3, f4, f5⟩ := fitsS_true.1 hfit
   obtain ⟨g1, g2⟩ := row_end (wd := wd) (ht := ht) (y := y) f1 a2 a4
   obtain ⟨I, hI⟩ : ∃ I : Nat, y * wd + x = (I : Int) := ⟨(y * wd + x).toNat, by omega⟩
   rw [hI, Int.toNat_natCast] at hRC
   have IX := fun v w => cindex_v wd ht x y I v w hfit (by unfold idxS; rw [hpl.out]; exact hI)
   have hIn : I < n := by
    have := en.out
    omega
   obtain ⟨c, hc⟩ := get_at en.out hIn
   rw [hc] at hRC
   have hRC : c = RC := hRC
   subst hRC
   obtain ⟨b, o, cap', e, hb, _, _, hel⟩ := hopen.out (by omega)
   simp only [Value.slice.injEq] at e
   obtain ⟨rfl, _, rfl⟩ := e
   obtain ⟨g0, g1, g2, g3, g4, g5, g6, g7, g8, g9, g10⟩ := CMem.below (hel I c hc) hbw hb
   have yb : b < w1.heap.size := by have := hbw.size; omega
   have hI0 : ¬ (I : Int) < 0 := by omega
   have hIi : (I : Int) < n := by omega
   replace IX := Lib.hid IX
   replace hc := Lib.hid hc
   clear hel hI hpl hfit hlen hall a1 a2 a3 a4 f1 f2 f3 f4 f5
   go_wp2_with (go_at_call 58; (with_reducible refine (IX.out _ _).mono ?_); rintro e w2 ⟨rfl, hb2⟩; obtain ⟨hc2, hf2⟩ := bcell hb2; replace hbw := hbw.trans (hb2.mono hbw.size); have D4 := B4.below hb2 yB4; have k0 := (B4).cell (o := 0) rfl; have k1 := (B4).cell (o := 1) rfl; have k2 := (B4).cell (o := 2) rfl; have k3 := (B4).cell (o := 3) rfl; have k4 := (B4).cell (o := 4) rfl; have k5 := (B4).cell (o := 5) rfl; have k6 := (B4).cell (o := 6) rfl; have k7 := (B4).cell (o := 7) rfl; have k8 := (B4).cell (o := 8) rfl; have k9 := (B4).cell (o := 9) rfl; have k10 := (B4).cell (o := 10) rfl; have kf := (B4).free)
   clear k0 k1 k2 k3 k4 k5 k6 k7 k8 k9 k10 kf
   replace B4 := D4
   obtain ⟨ru, ⟨c0, c1, c2, c3⟩, ⟨d0, d1, d2, d3⟩, wi, ta⟩ := c
   have HZ := Blk.put11 B4 rfl (.int .i32 ru) (.int .u8 c0) (.int .u8 c1) (.int .u8 c2) (.int .u8 c3) (.int .u8 d0) (.int .u8 d1) (.int .u8 d2) (.int .u8 d3) (.bool wi) (.bool ta)
   have hbZ := put11_below hbw (b := (w.heap.size + 1 + 1)) (by omega) (.int .i32 ru) (.int .u8 c0) (.int .u8 c1) (.int .u8 c2) (.int .u8 c3) (.int .u8 d0) (.int .u8 d1) (.int .u8 d2) (.int .u8 d3) (.bool wi) (.bool ta)
   generalize (((((((((((w2).setCell ⟨(w.heap.size + 1 + 1), 0, none⟩ (.int .i32 ru)).setCell ⟨(w.heap.size + 1 + 1), 1, none⟩ (.int .u8 c0)).setCell ⟨(w.heap.size + 1 + 1), 2, none⟩ (.int .u8 c1)).setCell ⟨(w.heap.size + 1 + 1), 3, none⟩ (.int .u8 c2)).setCell ⟨(w.heap.size + 1 + 1), 4, none⟩ (.int .u8 c3)).setCell ⟨(w.heap.size + 1 + 1), 5, none⟩ (.int .u8 d0)).setCell ⟨(w.heap.size + 1 + 1), 6, none⟩ (.int .u8 d1)).setCell ⟨(w.heap.size + 1 + 1), 7, none⟩ (.int .u8 d2)).setCell ⟨(w.heap.size + 1 + 1), 8, none⟩ (.int .u8 d3)).setCell ⟨(w.heap.size + 1 + 1), 9, none⟩ (.bool wi)).setCell ⟨(w.heap.size + 1 + 1), 10, none⟩ (.bool ta) = wZ at HZ hbZ ⊢
   obtain ⟨jz0, jz1, jz2, jz3, jz4, jz5, jz6, jz7, jz8, jz9, jz10⟩ := HZ.c11
   refine bodyPost_ret (v := .tuple #[.agg #[(.int .i32 ru), (.int .u8 c0), (.int .u8 c1), (.int .u8 c2), (.int .u8 c3), (.int .u8 d0), (.int .u8 d1), (.int .u8 d2), (.int .u8 d3), (.bool wi), (.bool ta)], .int .i64 0]) (by simp [results, Tryz.results21, go_sem, jz0, jz1, jz2, jz3, jz4, jz5, jz6, jz7, jz8, jz9, jz10]) rfl ⟨rfl, hbZ⟩
 ·rw [e0] at C1 hok
  have hok : false = ok := by simpa using hok
  subst hok
  simp only [Bool.false_eq_true, if_false] at hRC hRE
  subst hRC hRE
  go_wp2_with (go_at_call 15; (with_reducible refine C1.out.mono ?_); rintro e w1 ⟨rfl, hb1⟩; replace B4 := B4.below hb1 yB4; replace hbw := hbw.trans (hb1.mono hbw.size); have k0 := (B4).cell (o := 0) rfl; have k1 := (B4).cell (o := 1) rfl; have k2 := (B4).cell (o := 2) rfl; have k3 := (B4).cell (o := 3) rfl; have k4 := (B4).cell (o := 4) rfl; have k5 := (B4).cell (o := 5) rfl; have k6 := (B4).cell (o := 6) rfl; have k7 := (B4).cell (o := 7) rfl; have k8 := (B4).cell (o := 8) rfl; have k9 := (B4).cell (o := 9) rfl; have k10 := (B4).cell (o := 10) rfl; have kf := (B4).free)
  clear k0 k1 k2 k3 k4 k5 k6 k7 k8 k9 k10 kf
  have HZ := Blk.put11 B4 rfl (.int .i32 0) (.int .u8 0) (.int .u8 0) (.int .u8 0) (.int .u8 0) (.int .u8 0) (.int .u8 0) (.int .u8 0) (.int .u8 0) (.bool false) (.bool false)
  have hbZ := put11_below hbw (b := (w.heap.size + 1 + 1)) (by omega) (.int .i32 0) (.int .u8 0) (.int .u8 0) (.int .u8 0) (.int .u8 0) (.int .u8 0) (.int .u8 0) (.int .u8 0) (.int .u8 0) (.bool false) (.bool false)
  generalize (((((((((((w1).setCell ⟨(w.heap.size + 1 + 1), 0, none⟩ (.int .i32 0)).setCell ⟨(w.heap.size + 1 + 1), 1, none⟩ (.int .u8 0)).setCell ⟨(w.heap.size + 1 + 1), 2, none⟩ (.int .u8 0)).setCell ⟨(w.heap.size + 1 + 1), 3, none⟩ (.int .u8 0)).setCell ⟨(w.heap.size + 1 + 1), 4, none⟩ (.int .u8 0)).setCell ⟨(w.heap.size + 1 + 1), 5, none⟩ (.int .u8 0)).setCell ⟨(w.heap.size + 1 + 1), 6, none⟩ (.int .u8 0)).setCell ⟨(w.heap.size + 1 + 1), 7, none⟩ (.int .u8 0)).setCell ⟨(w.heap.size + 1 + 1), 8, none⟩ (.int .u8 0)).setCell ⟨(w.heap.size + 1 + 1), 9, none⟩ (.bool false)).setCell ⟨(w.heap.size + 1 + 1), 10, none⟩ (.bool false) = wZ at HZ hbZ ⊢
  obtain ⟨jz0, jz1, jz2, jz3, jz4, jz5, jz6, jz7, jz8, jz9, jz10⟩ := HZ.c11
  refine bodyPost_ret (v := .tuple #[.agg #[(.int .i32 0), (.int .u8 0), (.int .u8 0), (.int .u8 0), (.int .u8 0), (.int .u8 0), (.int .u8 0), (.int .u8 0), (.int .u8 0), (.bool false), (.bool false)], .int .i64 150]) (by simp [results, Tryz.results21, go_sem, jz0, jz1, jz2, jz3, jz4, jz5, jz6, jz7, jz8, jz9, jz10]) rfl ⟨rfl, hbZ⟩
end Go.Proofs.YtffmomgmkpmpkaaGreatDoor

namespace Go.Proofs.YtffmomgmkpmpkaaGreatDoor
open Go.RowKit
set_option linter.unusedVariables false
attribute [local go_sem] vwp vUpon_value vUpon_skip vUpon_enter vUpon_row
set_option linter.unusedSimpArgs false
set_option linter.unusedVariables false
theorem at_place {wd ht x y : Int} {cs : List Ce} (h : chkS wd ht cs = 0) (p : plcS wd ht x y = true) : atE wd ht cs x y = 0 ∧ ∃ c, cs[(y * wd + x).toNat]? = some c ∧ atC wd ht cs x y = c := by
  have e : atOk wd ht cs x y = true := by unfold atOk; rw [p, Bool.and_true]; exact decide_eq_true h
  have hz := chkS_zero h
  unfold plcS at p
  simp only [Bool.and_eq_true, decide_eq_true_eq] at p
  obtain ⟨⟨⟨p1, p2⟩, p3⟩, p4⟩ := p
  have hlt : (y * wd + x).toNat < cs.length := by
    have m := Int.mul_le_mul_of_nonneg_right (show y ≤ ht - 1 by omega) (show 0 ≤ wd by omega)
    rw [Int.sub_mul, Int.one_mul, Int.mul_comm ht wd] at m
    have n := Int.mul_nonneg p2 (show 0 ≤ wd by omega)
    have := hz.2.1
    omega
  obtain ⟨c, hc⟩ : ∃ c, cs[(y * wd + x).toNat]? = some c := ⟨_, List.getElem?_eq_getElem hlt⟩
  refine ⟨by unfold atE; rw [if_pos e], c, hc, ?_⟩
  unfold atC
  rw [if_pos e, hc]
  rfl
theorem plc_nat {wd ht x y : Int} (p : plcS wd ht x y = true) : (((y * wd + x).toNat % wd.toNat : Nat) : Int) = x ∧ (((y * wd + x).toNat / wd.toNat : Nat) : Int) = y := by
  unfold plcS at p
  simp only [Bool.and_eq_true, decide_eq_true_eq] at p
  obtain ⟨⟨⟨p1, p2⟩, p3⟩, p4⟩ := p
  obtain ⟨X, rfl⟩ : ∃ X : Nat, x = X := ⟨x.toNat, by omega⟩
  obtain ⟨Y, rfl⟩ : ∃ Y : Nat, y = Y := ⟨y.toNat, by omega⟩
  obtain ⟨W, rfl⟩ : ∃ W : Nat, wd = W := ⟨wd.toNat, by omega⟩
  have e : ((Y : Int) * W + X).toNat = X + Y * W := by
    have : ((Y : Int) * W + X) = ((X + Y * W : Nat) : Int) := by rw [Int.natCast_add, Int.natCast_mul]; omega
    rw [this]; rfl
  have hW : 0 < W := by omega
  rw [e, show ((W : Nat) : Int).toNat = W from rfl, Nat.add_mul_mod_self_right, Nat.add_mul_div_right _ _ hW, Nat.mod_eq_of_lt (by omega), Nat.div_eq_of_lt (by omega)]
  omega
/-- All that the law asks at a place. -/
theorem place_law {wd ht : Int} {cs : List Ce} {xs : List St} {qs : List Re} (h : drawE wd ht cs xs = 0) (hw : ∀ s ∈ xs, s.Wf) (hf : bothE qs [] 1 = 0) (h0 : wiE xs qs = 0) (x y : Int) (p : plcS wd ht x y = true) :
    chkR (bothL qs [] 1) = 0 ∧ hasE (bothL qs [] 1) x y = hasL qs x y ∧ atE wd ht (drawC glyS wd ht cs (wiS xs qs)) x y = 0 ∧ atE wd ht cs x y = 0 ∧ atE wd ht (drawC glyS wd ht cs xs) x y = 0 ∧
      atC wd ht (drawC glyS wd ht cs (wiS xs qs)) x y = if hasL qs x y then atC wd ht (drawC glyS wd ht cs xs) x y else atC wd ht cs x y := by
  have hq := ask_may (both_is hf).2
  obtain ⟨b1, b2⟩ := both_may hq
  have hc0 : chkR (bothL qs [] 1) = 0 := by
    unfold chkR
    rw [if_neg (by omega), if_pos]
    rw [List.all_eq_true]
    exact b1
  obtain ⟨d1, d2, d3⟩ := draw_within h hw hf h0
  have hx : chkS wd ht cs = 0 := by
    unfold drawE at h
    split at h
    · assumption
    · cases h
  obtain ⟨e1, c1, g1, r1⟩ := at_place hx p
  obtain ⟨e2, c2, g2, r2⟩ := at_place (draw_chk h) p
  obtain ⟨e3, c3, g3, r3⟩ := at_place (draw_chk d1) p
  have d := d3 _ _ g1
  rw [(plc_nat p).1, (plc_nat p).2, g2, g3] at d
  refine ⟨hc0, ?_, e3, e1, e2, ?_⟩
  · unfold hasE
    rw [if_pos hc0, bothL_has hf]
  · rw [r1, r2, r3]
    cases hh : hasL qs x y
    · rw [hh] at d
      simpa using d
    · rw [hh] at d
      simpa using d
end Go.Proofs.YtffmomgmkpmpkaaGreatDoor

namespace Go.Proofs.YtffmomgmkpmpkaaGreatDoor
open Go.RowKit
set_option linter.unusedVariables false
attribute [local go_sem] vwp vUpon_value vUpon_skip vUpon_enter vUpon_row
set_option linter.unusedSimpArgs false
set_option linter.unusedVariables false
section
set_option linter.unusedSimpArgs false
set_option linter.unusedVariables false
theorem wf_bothL (a : List Re) : WfL (bothL a [] 1) := by
  unfold bothL
  split
  · rename_i h
    have hca : chkR a = 0 := by unfold askR at h; by_cases h' : chkR a = 0; exact h'; rw [if_neg h'] at h; exact h
    obtain ⟨ma, _⟩ := chkR_may hca
    unfold madeL
    split
    · exact wf_nil
    · exact wf_of_may (form_may ma mayL_nil 1)
  · exact wf_nil
end
end Go.Proofs.YtffmomgmkpmpkaaGreatDoor
