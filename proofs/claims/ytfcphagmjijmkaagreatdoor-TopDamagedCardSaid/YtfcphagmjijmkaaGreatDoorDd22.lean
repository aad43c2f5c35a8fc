/-
  Cells: runs, plain; rows of runs.
-/
import Derived.Laws.BitsLemmas
import Derived.Test.YtfcphagmjijmkaaGreatDoorDd21
namespace Go.Proofs.YtfcphagmjijmkaaGreatDoor
open Go.RowKit
set_option linter.unusedVariables false
set_option linter.unusedSimpArgs false
attribute [local go_sem] vwp vUpon_value vUpon_skip vUpon_enter vUpon_row
set_option maxHeartbeats 16000000
structure Rn where
 x : Int
 y : Int
 cells : List Ce
/-! ### plain -/
def dif (ls ms : List Ce) (k : Nat) : Bool := match ls[k]?, ms[k]? with
 | some a, some b => !(a.eqb b)
 | _, _ => false
theorem dif_at {ls ms : List Ce} {k : Nat} {a b : Ce} (ha : ls[k]? = some a) (hb : ms[k]? = some b) : dif ls ms k = !(a.eqb b) := by
 unfold dif; rw [ha, hb]
def rEnd (ls ms : List Ce) (P N : Nat) : Nat → Nat → Nat
 | 0, x => x
 | f + 1, x => if x < N ∧ dif ls ms (P + x) = true then rEnd ls ms P N f (x + 1) else x
theorem rEnd_bd (ls ms : List Ce) (P N : Nat) : ∀ f x, x ≤ rEnd ls ms P N f x ∧ (x ≤ N → rEnd ls ms P N f x ≤ N)
 | 0, x => ⟨Nat.le_refl _, id⟩
 | f + 1, x => by
  rw [rEnd]
  split
  ·rename_i h
   have := rEnd_bd ls ms P N f (x + 1); exact ⟨by omega, fun _ => this.2 (by omega)⟩
  ·exact ⟨Nat.le_refl _, id⟩
def runTo (ls ms : List Ce) (P N x : Nat) : Nat := rEnd ls ms P N (N - x) x
theorem rEnd_more (ls ms : List Ce) (P N : Nat) : ∀ (n m x : Nat), N - x ≤ n → N - x ≤ m → rEnd ls ms P N n x = rEnd ls ms P N m x
 | 0, 0, _, _, _ => rfl
 | 0, m + 1, x, h1, _ => by rw [rEnd, rEnd, if_neg (by omega)]
 | n + 1, 0, x, _, h2 => by rw [rEnd, rEnd, if_neg (by omega)]
 | n + 1, m + 1, x, h1, h2 => by
  rw [rEnd, rEnd]
  split
  ·exact rEnd_more ls ms P N n m _ (by omega) (by omega)
  ·rfl
theorem runTo_step {ls ms : List Ce} {P N x : Nat} (hx : x < N) (hd : dif ls ms (P + x) = true) : runTo ls ms P N x = runTo ls ms P N (x + 1) := by
 unfold runTo; obtain ⟨n, hn⟩ : ∃ n, N - x = n + 1 := ⟨N - x - 1, by omega⟩; rw [hn, rEnd, if_pos ⟨hx, hd⟩]; exact rEnd_more _ _ _ _ _ _ _ (by omega) lrr
theorem runTo_stop {ls ms : List Ce} {P N x : Nat} (h : ¬ (x < N ∧ dif ls ms (P + x) = true)) : runTo ls ms P N x = x := by
 unfold runTo
 cases hn : N - x with
 | zero => rfl
 | succ n => rw [rEnd, if_neg h]
def runOne (ms : List Ce) (P y x e : Nat) : List Rn := if x < e then [⟨x, y, (ms.drop (P + x)).take (e - x)⟩] else []
def runAt (ls ms : List Ce) (P N y : Nat) : Nat → Nat → List Rn
 | 0, _ => []
 | f + 1, x => if x < N then runOne ms P y x (runTo ls ms P N x) ++ runAt ls ms P N y f (runTo ls ms P N x + 1) else []
theorem runAt_more (ls ms : List Ce) (P N y : Nat) : ∀ (n m x : Nat), N - x ≤ n → N - x ≤ m → runAt ls ms P N y n x = runAt ls ms P N y m x
 | 0, 0, _, _, _ => rfl
 | 0, m + 1, x, h1, _ => by rw [runAt, runAt, if_neg (by omega)]
 | n + 1, 0, x, _, h2 => by rw [runAt, runAt, if_neg (by omega)]
 | n + 1, m + 1, x, h1, h2 => by
  rw [runAt, runAt]; have := (rEnd_bd ls ms P N (N - x) x).1
  split
  ·rw [runAt_more ls ms P N y n m _ (by unfold runTo; omega) (by unfold runTo; omega)]
  ·rfl
def runRow (ls ms : List Ce) (P N y x : Nat) : List Rn := runAt ls ms P N y (N - x) x
theorem runRow_step {ls ms : List Ce} {P N y x : Nat} (hx : x < N) : runRow ls ms P N y x = runOne ms P y x (runTo ls ms P N x) ++ runRow ls ms P N y (runTo ls ms P N x + 1) := by
 unfold runRow; obtain ⟨n, hn⟩ : ∃ n, N - x = n + 1 := ⟨N - x - 1, by omega⟩; have := (rEnd_bd ls ms P N (N - x) x).1; rw [hn, runAt, if_pos hx, runAt_more ls ms P N y n _ _ (by unfold runTo; omega) lrr]
theorem runRow_end {ls ms : List Ce} {P N y x : Nat} (hx : ¬ x < N) : runRow ls ms P N y x = [] := by
 unfold runRow; rw [show N - x = 0 by omega]; rfl
def runsGo (ls ms : List Ce) (N : Nat) : Nat → Nat → List Rn
 | 0, _ => []
 | n + 1, y => runRow ls ms (y * N) N y 0 ++ runsGo ls ms N n (y + 1)
def runsOk (wa ha : Int) (ls : List Ce) (wb hb : Int) (ms : List Ce) : Bool := (chkS wa ha ls == 0) && ((chkS wb hb ms == 0) && ((wa == wb) && (ha == hb)))
def runsE (wa ha : Int) (ls : List Ce) (wb hb : Int) (ms : List Ce) : Int := if runsOk wa ha ls wb hb ms then 0 else 150
def runsL (wa ha : Int) (ls : List Ce) (wb hb : Int) (ms : List Ce) : List Rn := if runsOk wa ha ls wb hb ms then runsGo ls ms wa.toNat ha.toNat 0 else []
/-! ### rows of runs -/
def encRn (p : Rn × Value) : List Value := [.int .i64 p.1.x, .int .i64 p.1.y, p.2]
theorem encRn_len (p : Rn × Value) : (encRn p).length = 3 := rfl
theorem infoRn : (Tryz.prog.info? 112).map (fun i => (i.zero, i.size, i.bytes)) = some (some (.agg #[.int .i64 0, .int .i64 0, .slice none 0 0]), 3, 40) := by kernel_rfl
def RunRows (base : Nat) (W : World) (v : Value) (l : List Rn) : Prop :=
 ∃ vs : List Value, vs.length = l.length ∧ W.ownsRow base 112 3 v l.length ((l.zip vs).flatMap encRn) ∧ (∀ (j : Nat) u r, vs[j]? = some u → l[j]? = some r → OwnsC base W u r.cells) ∧
  ∀ (i j : Nat) u u', i < j → vs[i]? = some u → vs[j]? = some u' → ∀ g, u.ownBlock = some g → u'.ownBlock ≠ some g
theorem RunRows.nil (base : Nat) (W : World) : RunRows base W (.slice none 0 0) [] := ⟨[], rfl, World.ownsRow_nil _ _ _ _, fun j u r h => by simp at h, fun i j u u' _ h => by simp at h⟩
theorem RunRows.below {W W' : World} {base B : Nat} {v : Value} {l : List Rn} (h : RunRows base W v l) (hb : Below B W W') (hB : W.heap.size ≤ B) : RunRows base W' v l := by
 obtain ⟨vs, hl, hr, hj, hd⟩ := h; exact ⟨vs, hl, ownsRow_below hr hb hB, fun j u r h1 h2 => (hj j u r h1 h2).below hb hB, hd⟩
theorem RunRows.low {W : World} {base B : Nat} {v : Value} {l : List Rn} (h : RunRows base W v l) (hB : B ≤ base) : RunRows B W v l := by
 obtain ⟨vs, hl, hr, hj, hd⟩ := h; exact ⟨vs, hl, own_low hr hB, fun j u r h1 h2 => own_low (hj j u r h1 h2) hB, hd⟩
theorem RunRows.snoc {W w' : World} {base : Nat} {v v' u : Value} {l : List Rn} {r : Rn} {vs : List Value} (hl : vs.length = l.length) (hj : ∀ (j : Nat) u r, vs[j]? = some u → l[j]? = some r → OwnsC base W u r.cells)
  (hd : ∀ (i j : Nat) u u', i < j → vs[i]? = some u → vs[j]? = some u' → ∀ g, u.ownBlock = some g → u'.ownBlock ≠ some g) (hr : W.ownsRow base 112 3 v l.length ((l.zip vs).flatMap encRn)) (hu : OwnsC base W u r.cells)
  (hnew : ∀ (i : Nat) u', vs[i]? = some u' → ∀ g, u'.ownBlock = some g → u.ownBlock ≠ some g)
  (hown : w'.ownsRow base 112 3 v' (l.length + 1) ((l.zip vs).flatMap encRn ++ encRn (r, u))) (hg : W.grownBy w' v.ownBlock) : RunRows base w' v' (l ++ [r]) := by
 have key : ∀ {u : Value} {cs : List Ce}, OwnsC base W u cs → OwnsC base w' u cs := fun h => by
  refine h.kept hg ?_
  rcases h.2 with ⟨rfl, _⟩ | ⟨b, cap, cur, rfl, _⟩
  ·exact .inl rfl
  ·exact .inr (fun e => own_apart h hr (by decide) b rfl e.symm)
 refine ⟨vs ++ [u], by simp [hl], ?_, fun j u' r' h1 h2 => ?_, fun i j u1 u2 hij h1 h2 => ?_⟩
 ·rw [List.zip_append (by rw [hl])]
  simpa using hown
 ·by_cases c : j < vs.length
  ·rw [List.getElem?_append_left c] at h1
   rw [List.getElem?_append_left (by omega)] at h2; exact key (hj j u' r' h1 h2)
  ·by_cases c2 : j = vs.length
   ·subst c2
    rw [List.getElem?_append_right lrr, Nat.sub_self] at h1; rw [hl, List.getElem?_append_right lrr, Nat.sub_self] at h2
    simp at h1 h2
    subst h1 h2; exact key hu
   ·rw [List.getElem?_eq_none (by simp; omega)] at h1
    cases h1
 ·have hjl := (List.getElem?_eq_some_iff.1 h2).1
  rw [List.length_append, List.length_singleton] at hjl; rw [List.getElem?_append_left (by omega)] at h1
  by_cases c : j < vs.length
  ·rw [List.getElem?_append_left c] at h2
   exact hd i j u1 u2 hij h1 h2
  ·obtain rfl : j = vs.length := by omega
   rw [List.getElem?_append_right lrr, Nat.sub_self] at h2
   simp at h2
   subst h2; exact hnew i u1 h1
theorem Row.piece {α : Type} {B sz : Nat} {enc : α → List Value} {w : World} {g o n cap : Nat} {xs : List α} (he : ∀ x, (enc x).length = sz) (h : Row B sz enc w (.slice (some ⟨g, o, none⟩) n cap) xs) (hn : xs.length = n) (p m : Nat) (hp : p + m ≤ n) :
  Row B sz enc w (.slice (some ⟨g, o + p * sz, none⟩) m (cap - p)) ((xs.drop p).take m) := by
 obtain ⟨s, c, e, hlc, hcm, hx⟩ := h
 have hl : ((xs.drop p).take m).length = m := by rw [List.length_take, List.length_drop]; omega
 injection e with e1 e2 e3
 subst e1 e3; refine ⟨_, cap - p, by rw [hl], by rw [hl]; omega, by omega, fun h0 => ?_⟩; rw [hl] at h0; obtain ⟨b, o', e, hb, hc⟩ := hx (by omega)
 injection e with e
 injection e with e1 e2
 subst e1 e2; refine ⟨_, _, rfl, hb, fun j x hj i u hi => ?_⟩; rw [List.getElem?_take] at hj
 split at hj
 ·rw [List.getElem?_drop] at hj
  have := hc (p + j) x hj i u hi
  rwa [Nat.add_mul, ← Nat.add_assoc] at this
 ·cases hj
def OutR (base : Nat) (er : Int) (l : List Rn) (w : World) (e : Ending) (w' : World) : Prop := Below base w w' ∧ ∃ v, e = .returned (.tuple #[v, .int .i64 er]) ∧ RunRows base w' v l
def wholeC (c d : Ce) : Bool := pairC c d && (c.col.eqb d.col && c.back.eqb d.back)
def escCells : List UInt8 → Co → Co → List Ce → Option (List UInt8 × Co × Co)
 | o, x, y, [] => some (o, x, y)
 | o, x, y, [c] => if 1048576 < (o ++ cellL x y c false).length then none else some (o ++ cellL x y c false, c.col, c.back)
 | o, x, y, c :: d :: r =>
  if 1048576 < (o ++ cellL x y c (wholeC c d)).length then none
  else if wholeC c d then escCells (o ++ cellL x y c true) c.col c.back r else escCells (o ++ cellL x y c false) c.col c.back (d :: r)
def escRuns : List UInt8 → Co → Co → List Rn → Option (List UInt8)
 | o, _, _, [] => some o
 | o, x, y, r :: rs => match escCells (o ++ escL 72 [r.y + 1, r.x + 1]) x y r.cells with
  | none => none
  | some (o', x', y') => escRuns o' x' y' rs
def runOkC (r : Rn) : Bool := !(r.cells.length == 0) && (r.cells.all mayC && (decide (0 ≤ r.x) && (decide (0 ≤ r.y) && (decide (r.x < 16384) && decide (r.y < 16384)))))
def Co.zero : Co := ⟨0, 0, 0, 0⟩
def escR (l : List Rn) : Option (List UInt8) × Int :=
 if 262144 < l.length then (none, 4) else if l.all runOkC then (match escRuns [] Co.zero Co.zero l with | none => (none, 4) | some o => (some o, 0)) else (none, 150)
def escT (l : List Rn) : ByteArray := match (escR l).1 with | none => ⟨#[]⟩ | some o => ⟨o.toArray⟩
def escE (l : List Rn) : Int := (escR l).2
theorem cellL_len {x y : Co} {c : Ce} {wh : Bool} (hc : c.Wf) : (cellL x y c wh).length ≤ 300 := by
  have h1 := dipL_len (n := 38) (t := x) (c := c.col) (by unfold I64; omega) hc.2.1; have h2 := dipL_len (n := 48) (t := y) (c := c.back) (by unfold I64; omega) hc.2.2; have h3 := enc_len4 c.rune
  have h4 : (markL c wh).length ≤ 1 := by unfold markL; split; · simp
                                          · split <;> simp
  unfold cellL; rw [List.length_append, List.length_append, List.length_append]; omega
/-! ### runs as arguments -/
def RnWf (r : Rn) : Prop := I64 r.x ∧ I64 r.y ∧ CeL r.cells
def RunsAt (B : Nat) (w : World) (v : Value) (l : List Rn) : Prop := ∃ ps : List (Rn × Value), ps.map Prod.fst = l ∧ Row B 3 encRn w v ps ∧ ∀ p ∈ ps, Row B 11 Ce.enc w p.2 p.1.cells
theorem RunsAt.shape {B : Nat} {w : World} {v : Value} {l : List Rn} (h : RunsAt B w v l) : ∃ s cap, v = .slice s l.length cap ∧ l.length ≤ maxLen := by
 obtain ⟨ps, h1, h2, h3⟩ := h; obtain ⟨s, cap, e, hm⟩ := h2.shape
 have : ps.length = l.length := by rw [← h1, List.length_map]
 rw [this] at e hm; exact ⟨s, cap, e, hm⟩
theorem RunsAt.open_ {B : Nat} {w : World} {v : Value} {l : List Rn} (h : RunsAt B w v l) (h0 : 0 < l.length) :
  ∃ g o cap, v = .slice (some ⟨g, o, none⟩) l.length cap ∧ g < B ∧ l.length ≤ cap ∧ cap ≤ maxLen ∧ ∀ (j : Nat) r, l[j]? = some r → ∃ s k, w.cell? ⟨g, o + j * 3, none⟩ = some (.int .i64 r.x) ∧ w.cell? ⟨g, o + j * 3 + 1, none⟩ = some (.int .i64 r.y) ∧
   w.cell? ⟨g, o + j * 3 + 2, none⟩ = some (.slice s r.cells.length k) ∧ Row B 11 Ce.enc w (.slice s r.cells.length k) r.cells := by
 obtain ⟨ps, h1, h2, h3⟩ := h
 have hl : ps.length = l.length := by rw [← h1, List.length_map]
 obtain ⟨g, o, cap, hv, hg, hc, hm, hx⟩ := h2.open_ (by omega); rw [hl] at hv hc; refine ⟨g, o, cap, hv, hg, hc, hm, fun j r hj => ?_⟩; rw [← h1, List.getElem?_map] at hj
 cases hp : ps[j]? with
 | none => rw [hp] at hj; cases hj
 | some p =>
  rw [hp] at hj
  have e : p.1 = r := by simpa using hj
  have hr := h3 p (List.mem_of_getElem? hp); obtain ⟨s, k, hs, _⟩ := hr.shape; rw [e] at hr hs; rw [hs] at hr; refine ⟨s, k, ?_, ?_, ?_, hr⟩
  ·rw [← e]; exact hx j p hp 0 _ rfl
  ·rw [← e]; exact hx j p hp 1 _ rfl
  ·rw [← hs]; exact hx j p hp 2 _ rfl
theorem allR_step {l : List Rn} {k : Nat} {c : Rn} (h : l[k]? = some c) : (l.drop k).all runOkC = (runOkC c && (l.drop (k + 1)).all runOkC) := by
 rw [drop_get h]; rfl
/-! ### one rune, plain -/
def bAt (s : ByteArray) (i : Nat) : Nat := (s.get! i).toNat
theorem bAt_eq {s : ByteArray} {i : Nat} (h : i < s.size) : (s[i]'h).toNat = bAt s i := by
 unfold bAt
 cases s with
 | mk d => exact congrArg UInt8.toNat (getElem!_pos d i h).symm
def contN (b : Nat) : Prop := 128 ≤ b ∧ b ≤ 191
instance (b : Nat) : Decidable (contN b) := by unfold contN; exact inferInstance
/-! ### one rune, walked -/
def numGo (most : Int) : List UInt8 → Nat → Int → Nat × Int
 | [], i, n => (i, n)
 | c :: r, i, n => if 48 ≤ c.toNat ∧ c.toNat ≤ 57 ∧ n ≤ most then numGo most r (i + 1) (n * 10 + ((c.toNat : Int) - 48)) else (i, n)
theorem numGo_bd (most : Int) : ∀ (l : List UInt8) (i : Nat) (n : Int), i ≤ (numGo most l i n).1 ∧ (numGo most l i n).1 ≤ i + l.length
 | [], i, n => by simp [numGo]
 | c :: r, i, n => by
  rw [numGo]
  split
  ·have := numGo_bd most r (i + 1) (n * 10 + ((c.toNat : Int) - 48))
   rw [List.length_cons]; omega
  ·simp
def numP (most : Int) (l : List UInt8) : Option (Int × Nat) :=
 if (numGo most l 0 0).1 = 0 ∨ most < (numGo most l 0 0).2 ∨ (1 < (numGo most l 0 0).1 ∧ l[0]? = some 48) then none else some ((numGo most l 0 0).2, (numGo most l 0 0).1)
def strL (l : List UInt8) : ByteArray := ⟨l.toArray⟩
theorem strL_from (l : List UInt8) (i : Nat) {s : ByteArray} (hs : strL l = s) : s.extract i l.length = strL (l.drop i) := by
 subst hs; unfold strL
 apply ByteArray.ext
 rw [ByteArray.data_extract]
 simp [List.extract_toArray, List.extract]
 exact List.take_of_length_le (by rw [List.length_drop]; exact Nat.le_refl _)
def outNum (r : Option (Int × Nat)) (l : List UInt8) : Value := match r with
 | none => .tuple #[.int .i64 0, .string ⟨#[]⟩, .bool false]
 | some (n, i) => .tuple #[.int .i64 n, .string (strL (l.drop i)), .bool true]
set_option maxRecDepth 100000 in
theorem number_any (l : List UInt8) (most : Int) (w : World) (hl : l.length ≤ 2000000) (hm0 : 0 ≤ most) (hm1 : most ≤ 1000000) :
  Calls Tryz.prog 191 #[.string (strL l), .int .i64 most] w fun e w' => e = .returned (outNum (numP most l) l) ∧ Below w.heap.size w w' := by
 obtain ⟨s, hs⟩ := exx (strL l)
 have hsz : s.size = l.length := by rw [← hs]; simp [strL, ByteArray.size]
 obtain ⟨N, hN⟩ := exx (s.size); rw [hs]; rw [hN] at hsz; have hgo := hdh (show numGo most (l.drop 0) 0 0 = numGo most l 0 0 from rfl)
 have hby := hdh (fun (j : Nat) (c : UInt8) (hj : l[j]? = some c) => (show bAt s j = c.toNat by
  have hjl := (List.getElem?_eq_some_iff.1 hj).1; rw [← bAt_eq (s := s) (i := j) (by omega)]; subst hs; have := (List.getElem?_eq_some_iff.1 hj).2; rw [← this]
  simp [strL]
  rfl))
 obtain ⟨RV, hRV⟩ := exx (outNum (numP most l) l); rw [hRV]; replace hRV := hdh hRV; replace hs := hdh hs
 go_enter Tryz.func191, Tryz.ntmps191
 go_upto_region 2 with fail
 go_loopw [7, 8] (fun iv nv wr => ∃ (i : Nat) (n : Int), i ≤ N ∧ iv = .int .i64 i ∧ nv = .int .i64 n ∧ 0 ≤ n ∧ n ≤ most * 10 + 10 ∧ wr = w ∧ Hid (numGo most (l.drop i) i n = numGo most l 0 0)) (fun iv _ _ => N - (intOf iv).toNat)
 case atStart => exact ⟨0, 0, Nat.zero_le _, rfl, rfl, by omega, by omega, rfl, hgo⟩
 case round =>
  clear hgo; obtain ⟨i, n, hi, rfl, rfl, hn0, hn1, rfl, hgo⟩ := hrel
  by_cases hiN : i < N
  ·have hii : (i : Int) < N := by omega
   obtain ⟨c, hc⟩ : ∃ c, l[i]? = some c := ⟨l[i]'(by omega), List.getElem?_eq_getElem _⟩; have X1 := bAt_eq (s := s) (i := i) (by omega); have hq := hby.out i c hc; have hgo1 := hgo.out; rw [drop_get hc, numGo] at hgo1
   by_cases y1 : 48 ≤ c.toNat
   ·have y1i : 48 ≤ bAt s i := by omega
    by_cases y2 : c.toNat ≤ 57
    ·have y2i : bAt s i ≤ 57 := by omega
     by_cases y3 : n ≤ most
     ·rw [if_pos ⟨y1, y2, y3⟩, ← hq] at hgo1
      obtain ⟨q, hbq⟩ := exx (bAt s i); rw [hbq] at hgo1 y1i y2i X1; clear hq hgo; replace hgo1 := hdh hgo1; replace hbq := hdh hbq; go_wp2; go_roundw
      case rel => exact ⟨i + 1, n * 10 + ((q : Int) - 48), by omega, by go_num, by go_num, by omega, by omega, by simp, hgo1⟩
      case measure => (simp [intOf]) <;> omega
     ·rw [if_neg (fun h => y3 h.2.2)] at hgo1
      have hE := hgo1.symm
      have x1 : most < n := by omega
      by_cases x0 : i = 0
      ·subst x0
       have hv : RV = .tuple #[.int .i64 0, .string ⟨#[]⟩, .bool false] := by rw [← hRV.out]; unfold numP; rw [hE]; dsimp only; rw [if_pos (.inl rfl)]; rfl
       subst hv; clear hgo; simp only [Int.natCast_zero] at *; go_wp2; go_ret3; exact ⟨rfl, belt⟩
      ·have x0i : ¬ (i : Int) = 0 := by omega
       have x0q : ((i : Int) == 0) = false := by simpa using x0i
       have hv : RV = .tuple #[.int .i64 0, .string ⟨#[]⟩, .bool false] := by rw [← hRV.out]; unfold numP; rw [hE]; dsimp only; rw [if_pos (.inr (.inl x1))]; rfl
       subst hv; go_wp2; go_ret3; exact ⟨rfl, belt⟩
    ·rw [if_neg (fun h => y2 h.2.1)] at hgo1
     have y2i : ¬ bAt s i ≤ 57 := by omega
     have hE := hgo1.symm
     by_cases x0 : i = 0
     ·subst x0
      have hv : RV = .tuple #[.int .i64 0, .string ⟨#[]⟩, .bool false] := by rw [← hRV.out]; unfold numP; rw [hE]; dsimp only; rw [if_pos (.inl rfl)]; rfl
      subst hv; clear hgo; simp only [Int.natCast_zero] at *; go_wp2; go_ret3; exact ⟨rfl, belt⟩
     ·have x0i : ¬ (i : Int) = 0 := by omega
      have x0q : ((i : Int) == 0) = false := by simpa using x0i
      by_cases x1 : most < n
      ·have hv : RV = .tuple #[.int .i64 0, .string ⟨#[]⟩, .bool false] := by rw [← hRV.out]; unfold numP; rw [hE]; dsimp only; rw [if_pos (.inr (.inl x1))]; rfl
       subst hv; go_wp2; go_ret3; exact ⟨rfl, belt⟩
      ·by_cases x2 : 1 < i
       ·have x2i : (1 : Int) < i := by omega
        have Y0 := bAt_eq (s := s) (i := 0) (by omega); obtain ⟨c0, hc0⟩ : ∃ c, l[0]? = some c := ⟨l[0]'(by omega), List.getElem?_eq_getElem _⟩; have hq0 := hby.out 0 c0 hc0
        by_cases x3 : c0 = 48
        ·subst x3
         have x3i : bAt s 0 = 48 := by rw [hq0]; rfl
         have hv : RV = .tuple #[.int .i64 0, .string ⟨#[]⟩, .bool false] := by rw [← hRV.out]; unfold numP; rw [hE]; dsimp only; rw [if_pos (.inr (.inr ⟨x2, hc0⟩))]; rfl
         subst hv; go_wp2; go_ret3; exact ⟨rfl, belt⟩
        ·have x3i : ¬ bAt s 0 = 48 := by rw [hq0]; intro h; exact x3 (UInt8.toNat_inj.1 h)
         have x3j : ¬ ((bAt s 0 : Nat) : Int) = 48 := by omega
         have x3k : (((bAt s 0 : Nat) : Int) == 48) = false := by simpa using x3j
         have x4 : ¬ l[0]? = some 48 := by rw [hc0]; intro h; exact x3 (Option.some.inj h)
         have hv : RV = .tuple #[.int .i64 n, .string (strL (l.drop i)), .bool true] := by rw [← hRV.out]; unfold numP; rw [hE]; dsimp only; rw [if_neg (fun h => h.elim x0 (fun h => h.elim x1 (fun h => x4 h.2)))]; rfl
         subst hv
         have hil : i ≤ l.length := by omega
         have hili : (i : Int) ≤ (l.length : Int) := by omega
         have hxx := strL_from l i hs.out
         go_upto_region 7 with fail
         refine rst (Held wr 0 []) ?_
         repeat (first | (refine' sdo ?_; simp only [pu]) | (refine spa ?_; simp only [pu]))
         refine wpSteady_nil (fun uA hSA => ?_); obtain ⟨hcA, hbA, hzA, hcoA, hfoA⟩ := hall hSA; clear hSA; simp only [Cells] at hcA; go_wp2; go_ret3; exact ⟨by first | rfl | (rw [← hxx]), belt⟩
       ·have x2i : ¬ (1 : Int) < i := by omega
        have hv : RV = .tuple #[.int .i64 n, .string (strL (l.drop i)), .bool true] := by rw [← hRV.out]; unfold numP; rw [hE]; dsimp only; rw [if_neg (fun h => h.elim x0 (fun h => h.elim x1 (fun h => x2 h.1)))]; rfl
        subst hv
        have hil : i ≤ l.length := by omega
        have hili : (i : Int) ≤ (l.length : Int) := by omega
        have hxx := strL_from l i hs.out
        go_upto_region 7 with fail
        refine rst (Held wr 0 []) ?_
        repeat (first | (refine' sdo ?_; simp only [pu]) | (refine spa ?_; simp only [pu]))
        refine wpSteady_nil (fun uA hSA => ?_); obtain ⟨hcA, hbA, hzA, hcoA, hfoA⟩ := hall hSA; clear hSA; simp only [Cells] at hcA; go_wp2; go_ret3; exact ⟨by first | rfl | (rw [← hxx]), belt⟩
   ·rw [if_neg (fun h => y1 h.1)] at hgo1
    have y1i : ¬ 48 ≤ bAt s i := by omega
    have hE := hgo1.symm
    by_cases x0 : i = 0
    ·subst x0
     have hv : RV = .tuple #[.int .i64 0, .string ⟨#[]⟩, .bool false] := by rw [← hRV.out]; unfold numP; rw [hE]; dsimp only; rw [if_pos (.inl rfl)]; rfl
     subst hv; clear hgo; simp only [Int.natCast_zero] at *; go_wp2; go_ret3; exact ⟨rfl, belt⟩
    ·have x0i : ¬ (i : Int) = 0 := by omega
     have x0q : ((i : Int) == 0) = false := by simpa using x0i
     by_cases x1 : most < n
     ·have hv : RV = .tuple #[.int .i64 0, .string ⟨#[]⟩, .bool false] := by rw [← hRV.out]; unfold numP; rw [hE]; dsimp only; rw [if_pos (.inr (.inl x1))]; rfl
      subst hv; go_wp2; go_ret3; exact ⟨rfl, belt⟩
     ·by_cases x2 : 1 < i
      ·have x2i : (1 : Int) < i := by omega
       have Y0 := bAt_eq (s := s) (i := 0) (by omega); obtain ⟨c0, hc0⟩ : ∃ c, l[0]? = some c := ⟨l[0]'(by omega), List.getElem?_eq_getElem _⟩; have hq0 := hby.out 0 c0 hc0
       by_cases x3 : c0 = 48
       ·subst x3
        have x3i : bAt s 0 = 48 := by rw [hq0]; rfl
        have hv : RV = .tuple #[.int .i64 0, .string ⟨#[]⟩, .bool false] := by rw [← hRV.out]; unfold numP; rw [hE]; dsimp only; rw [if_pos (.inr (.inr ⟨x2, hc0⟩))]; rfl
        subst hv; go_wp2; go_ret3; exact ⟨rfl, belt⟩
       ·have x3i : ¬ bAt s 0 = 48 := by rw [hq0]; intro h; exact x3 (UInt8.toNat_inj.1 h)
        have x3j : ¬ ((bAt s 0 : Nat) : Int) = 48 := by omega
        have x3k : (((bAt s 0 : Nat) : Int) == 48) = false := by simpa using x3j
        have x4 : ¬ l[0]? = some 48 := by rw [hc0]; intro h; exact x3 (Option.some.inj h)
        have hv : RV = .tuple #[.int .i64 n, .string (strL (l.drop i)), .bool true] := by rw [← hRV.out]; unfold numP; rw [hE]; dsimp only; rw [if_neg (fun h => h.elim x0 (fun h => h.elim x1 (fun h => x4 h.2)))]; rfl
        subst hv
        have hil : i ≤ l.length := by omega
        have hili : (i : Int) ≤ (l.length : Int) := by omega
        have hxx := strL_from l i hs.out
        go_upto_region 7 with fail
        refine rst (Held wr 0 []) ?_
        repeat (first | (refine' sdo ?_; simp only [pu]) | (refine spa ?_; simp only [pu]))
        refine wpSteady_nil (fun uA hSA => ?_); obtain ⟨hcA, hbA, hzA, hcoA, hfoA⟩ := hall hSA; clear hSA; simp only [Cells] at hcA; go_wp2; go_ret3; exact ⟨by first | rfl | (rw [← hxx]), belt⟩
      ·have x2i : ¬ (1 : Int) < i := by omega
       have hv : RV = .tuple #[.int .i64 n, .string (strL (l.drop i)), .bool true] := by rw [← hRV.out]; unfold numP; rw [hE]; dsimp only; rw [if_neg (fun h => h.elim x0 (fun h => h.elim x1 (fun h => x2 h.1)))]; rfl
       subst hv
       have hil : i ≤ l.length := by omega
       have hili : (i : Int) ≤ (l.length : Int) := by omega
       have hxx := strL_from l i hs.out
       go_upto_region 7 with fail
       refine rst (Held wr 0 []) ?_
       repeat (first | (refine' sdo ?_; simp only [pu]) | (refine spa ?_; simp only [pu]))
       refine wpSteady_nil (fun uA hSA => ?_); obtain ⟨hcA, hbA, hzA, hcoA, hfoA⟩ := hall hSA; clear hSA; simp only [Cells] at hcA; go_wp2; go_ret3; exact ⟨by first | rfl | (rw [← hxx]), belt⟩
  ·have hii : ¬ (i : Int) < N := by omega
   have hE : numGo most l 0 0 = (i, n) := by
    have h := hgo.out; rw [List.drop_of_length_le (by omega), numGo] at h; exact h.symm
   by_cases x0 : i = 0
   ·subst x0
    have hv : RV = .tuple #[.int .i64 0, .string ⟨#[]⟩, .bool false] := by rw [← hRV.out]; unfold numP; rw [hE]; dsimp only; rw [if_pos (.inl rfl)]; rfl
    subst hv; clear hgo; simp only [Int.natCast_zero] at *; go_wp2; go_ret3; exact ⟨rfl, belt⟩
   ·have x0i : ¬ (i : Int) = 0 := by omega
    have x0q : ((i : Int) == 0) = false := by simpa using x0i
    by_cases x1 : most < n
    ·have hv : RV = .tuple #[.int .i64 0, .string ⟨#[]⟩, .bool false] := by rw [← hRV.out]; unfold numP; rw [hE]; dsimp only; rw [if_pos (.inr (.inl x1))]; rfl
     subst hv; go_wp2; go_ret3; exact ⟨rfl, belt⟩
    ·by_cases x2 : 1 < i
     ·have x2i : (1 : Int) < i := by omega
      have Y0 := bAt_eq (s := s) (i := 0) (by omega); obtain ⟨c0, hc0⟩ : ∃ c, l[0]? = some c := ⟨l[0]'(by omega), List.getElem?_eq_getElem _⟩; have hq0 := hby.out 0 c0 hc0
      by_cases x3 : c0 = 48
      ·subst x3
       have x3i : bAt s 0 = 48 := by rw [hq0]; rfl
       have hv : RV = .tuple #[.int .i64 0, .string ⟨#[]⟩, .bool false] := by rw [← hRV.out]; unfold numP; rw [hE]; dsimp only; rw [if_pos (.inr (.inr ⟨x2, hc0⟩))]; rfl
       subst hv; go_wp2; go_ret3; exact ⟨rfl, belt⟩
      ·have x3i : ¬ bAt s 0 = 48 := by rw [hq0]; intro h; exact x3 (UInt8.toNat_inj.1 h)
       have x3j : ¬ ((bAt s 0 : Nat) : Int) = 48 := by omega
       have x3k : (((bAt s 0 : Nat) : Int) == 48) = false := by simpa using x3j
       have x4 : ¬ l[0]? = some 48 := by rw [hc0]; intro h; exact x3 (Option.some.inj h)
       have hv : RV = .tuple #[.int .i64 n, .string (strL (l.drop i)), .bool true] := by rw [← hRV.out]; unfold numP; rw [hE]; dsimp only; rw [if_neg (fun h => h.elim x0 (fun h => h.elim x1 (fun h => x4 h.2)))]; rfl
       subst hv
       have hil : i ≤ l.length := by omega
       have hili : (i : Int) ≤ (l.length : Int) := by omega
       have hxx := strL_from l i hs.out
       go_upto_region 7 with fail
       refine rst (Held wr 0 []) ?_
       repeat (first | (refine' sdo ?_; simp only [pu]) | (refine spa ?_; simp only [pu]))
       refine wpSteady_nil (fun uA hSA => ?_); obtain ⟨hcA, hbA, hzA, hcoA, hfoA⟩ := hall hSA; clear hSA; simp only [Cells] at hcA; go_wp2; go_ret3; exact ⟨by first | rfl | (rw [← hxx]), belt⟩
     ·have x2i : ¬ (1 : Int) < i := by omega
      have hv : RV = .tuple #[.int .i64 n, .string (strL (l.drop i)), .bool true] := by rw [← hRV.out]; unfold numP; rw [hE]; dsimp only; rw [if_neg (fun h => h.elim x0 (fun h => h.elim x1 (fun h => x2 h.1)))]; rfl
      subst hv
      have hil : i ≤ l.length := by omega
      have hili : (i : Int) ≤ (l.length : Int) := by omega
      have hxx := strL_from l i hs.out
      go_upto_region 7 with fail
      refine rst (Held wr 0 []) ?_
      repeat (first | (refine' sdo ?_; simp only [pu]) | (refine spa ?_; simp only [pu]))
      refine wpSteady_nil (fun uA hSA => ?_); obtain ⟨hcA, hbA, hzA, hcoA, hfoA⟩ := hall hSA; clear hSA; simp only [Cells] at hcA; go_wp2; go_ret3; exact ⟨by first | rfl | (rw [← hxx]), belt⟩
def numsP (most : Int) (e : UInt8) : Nat → List UInt8 → Option (List Int × List UInt8)
 | 0, l => some ([], l)
 | k + 1, l => match numP most l with
  | none => none
  | some (n, i) => match l.drop i with
   | [] => none
   | c :: r => if c = (if k = 0 then e else 59) then (match numsP most e k r with | none => none | some (ns, r') => some (n :: ns, r')) else none
/-! ### the document's way to read numbers -/
def digB (c : UInt8) : Bool := decide (48 ≤ c.toNat) && decide (c.toNat ≤ 57)
def valL (n : Int) (ds : List UInt8) : Int := ds.foldl (fun n c => n * 10 + ((c.toNat : Int) - 48)) n
theorem valL_snoc (n : Int) (ds : List UInt8) (c : UInt8) : valL n (ds ++ [c]) = valL n ds * 10 + ((c.toNat : Int) - 48) := by simp [valL]
theorem valL_ge : ∀ (ds : List UInt8) (n : Int), 0 ≤ n → (∀ c ∈ ds, digB c = true) → n ≤ valL n ds
 | [], n, _, _ => by simp [valL]
 | c :: r, n, h0, h => by
  have hc := h c List.mem_cons_self; simp only [digB, Bool.and_eq_true, decide_eq_true_eq] at hc; have := valL_ge r (n * 10 + ((c.toNat : Int) - 48)) (by omega) (fun x hx => h x (List.mem_cons_of_mem _ hx)); have e : valL n (c :: r) = valL (n * 10 + ((c.toNat : Int) - 48)) r := rfl; omega
theorem numGo_run (most : Int) : ∀ (l : List UInt8) (i : Nat) (n : Int), 0 ≤ n →
  (valL n (l.takeWhile digB) ≤ most → numGo most l i n = (i + (l.takeWhile digB).length, valL n (l.takeWhile digB))) ∧
  (most < valL n (l.takeWhile digB) → most < (numGo most l i n).2)
 | [], i, n, h0 => by simp [numGo, valL]
 | c :: r, i, n, h0 => by
  rw [numGo]
  by_cases hc : digB c = true
  ·have hd := hc
   simp only [digB, Bool.and_eq_true, decide_eq_true_eq] at hd; rw [List.takeWhile_cons_of_pos hc]; have e : valL n (c :: r.takeWhile digB) = valL (n * 10 + ((c.toNat : Int) - 48)) (r.takeWhile digB) := rfl; rw [e]; have ih := numGo_run most r (i + 1) (n * 10 + ((c.toNat : Int) - 48)) (by omega); have hge := valL_ge (r.takeWhile digB) (n * 10 + ((c.toNat : Int) - 48)) (by omega) (fun x hx => by have := List.all_takeWhile (p := digB) (l := r); exact List.all_eq_true.1 this x hx)
   by_cases hn : n ≤ most
   ·rw [if_pos ⟨hd.1, hd.2, hn⟩]
    refine ⟨fun h => ?_, ih.2⟩; rw [ih.1 h]; simp only [List.length_cons]
    congr 1
    omega
   ·rw [if_neg (fun h => hn h.2.2)]
    exact ⟨fun h => by omega, fun _ => by simp; omega⟩
  ·rw [List.takeWhile_cons_of_neg hc, if_neg (fun h => hc (by simp [digB, h.1, h.2.1]))]
   simp [valL]
theorem numP_run (most : Int) (l : List UInt8) (n : Int) (i : Nat) :
  numP most l = some (n, i) ↔ (l.takeWhile digB ≠ [] ∧ ¬ (1 < (l.takeWhile digB).length ∧ (l.takeWhile digB)[0]? = some 48) ∧ valL 0 (l.takeWhile digB) ≤ most ∧ n = valL 0 (l.takeWhile digB) ∧ i = (l.takeWhile digB).length) := by
 have h := numGo_run most l 0 0 (Int.le_refl _)
 have hz : ∀ k, 0 < (l.takeWhile digB).length → ((l.takeWhile digB)[0]? = some k ↔ l[0]? = some k) := by
  intro k hk
  cases l with
  | nil => simp at hk
  | cons c r =>
   by_cases hc : digB c = true
   ·rw [List.takeWhile_cons_of_pos hc]; simp
   ·rw [List.takeWhile_cons_of_neg hc] at hk; simp at hk
 have hl : l.takeWhile digB ≠ [] ↔ (l.takeWhile digB).length ≠ 0 := by simp
 unfold numP
 by_cases hv : valL 0 (l.takeWhile digB) ≤ most
 ·rw [h.1 hv]
  simp only [Nat.zero_add]; rw [hl]; generalize hL : (l.takeWhile digB).length = L at *
  by_cases c1 : L = 0
  ·simp [c1]
  ·by_cases c2 : 1 < L ∧ l[0]? = some 48
   ·rw [if_pos (.inr (.inr c2))]
    have := hz 48 (by omega)
    simp [this, c2]
   ·rw [if_neg (by intro h; rcases h with h | h | h; exact c1 h; omega; exact c2 h)]
    have := hz 48 (by omega); rw [this]; simp only [Option.some.injEq, Prod.mk.injEq]
    constructor
    ·rintro ⟨rfl, rfl⟩; exact ⟨c1, c2, hv, rfl, rfl⟩
    ·rintro ⟨_, _, _, rfl, rfl⟩; exact ⟨rfl, rfl⟩
 ·have := h.2 (by omega)
  rw [if_pos (.inr (.inl this))]; simp only [reduceCtorEq, false_iff]
  rintro ⟨_, _, h, _⟩
  exact hv h
theorem tw_all (l : List UInt8) : ∀ c ∈ l.takeWhile digB, digB c = true := fun c hc => List.all_eq_true.1 (List.all_takeWhile (p := digB) (l := l)) c hc
/-! ### a terminal -/
theorem numsP_len {most : Int} {e : UInt8} : ∀ {k : Nat} {l : List UInt8} {ns r}, numsP most e k l = some (ns, r) → ns.length = k ∧ r.length + k ≤ l.length
 | 0, l, ns, r, h => by
  simp only [numsP, Option.some.injEq, Prod.mk.injEq] at h; obtain ⟨rfl, rfl⟩ := h; exact ⟨rfl, Nat.le_refl _⟩
 | k + 1, l, ns, r, h => by
  rw [numsP] at h
  split at h
  ·cases h
  ·rename_i n i _
   split at h
   ·cases h
   ·rename_i c r' hc
    by_cases hce : c = (if k = 0 then e else 59)
    ·rw [if_pos hce] at h
     split at h
     ·cases h
     ·rename_i ms r2 hrec
      injection h with h
      obtain ⟨rfl, rfl⟩ := Prod.mk.inj h; have := numsP_len hrec; have hl := congrArg List.length hc; rw [List.length_drop, List.length_cons] at hl; rw [List.length_cons]; omega
    ·rw [if_neg hce] at h; cases h
structure Tm where
 x : Int
 y : Int
 col : Co
 back : Co
def escP (t : Tm) : List UInt8 → Option (Tm × Nat)
 | 27 :: 91 :: l => match numsP 16384 72 2 l with
  | some ([y, x], r) => if x < 1 ∨ y < 1 then none else some ({ t with x := x - 1, y := y - 1 }, l.length + 2 - r.length)
  | _ => match numsP 255 109 6 l with
   | some ([a, b, c0, c1, c2, c3], r) => if b = 2 then (if a = 38 then some ({ t with col := ⟨c0, c1, c2, c3⟩ }, l.length + 2 - r.length) else if a = 48 then some ({ t with back := ⟨c0, c1, c2, c3⟩ }, l.length + 2 - r.length) else none) else none
   | _ => none
 | _ => none
theorem escP_pos {t t' : Tm} {l : List UInt8} {n : Nat} (h : escP t l = some (t', n)) : 1 ≤ n ∧ n ≤ l.length := by
 unfold escP at h
 split at h
 ·rename_i l
  split at h
  ·rename_i y x r hr
   have := (numsP_len hr).2
   split at h
   ·cases h
   ·injection h with h
    obtain ⟨_, rfl⟩ := Prod.mk.inj h; simp only [List.length_cons]; omega
  ·split at h
   ·rename_i a b c0 c1 c2 c3 r hr
    have := (numsP_len hr).2
    split at h
    ·split at h
     ·injection h with h
      obtain ⟨_, rfl⟩ := Prod.mk.inj h; simp only [List.length_cons]; omega
     ·split at h
      ·injection h with h
       obtain ⟨_, rfl⟩ := Prod.mk.inj h; simp only [List.length_cons]; omega
      ·cases h
    ·cases h
   ·cases h
 ·cases h
def putL (h : Int) (r : Int) (c b : Co) : List Ce :=
 if widR r = 1 then (if h = 0 then [⟨r, c, b, false, false⟩] else []) else if widR r = 2 then (if h = 14 then [⟨r, c, b, true, false⟩] else if h = 15 then [⟨r, c, b, false, true⟩] else [⟨r, c, b, true, false⟩, ⟨r, c, b, false, true⟩]) else []
def splC (cs : List Ce) (i : Nat) (p : List Ce) : List Ce := cs.take i ++ p ++ cs.drop (i + p.length)
theorem splC_len {cs p : List Ce} {i : Nat} (h : i + p.length ≤ cs.length) : (splC cs i p).length = cs.length := by
 unfold splC; rw [List.length_append, List.length_append, List.length_take, List.length_drop]; omega
def halfP (c : UInt8) : Int := if c = 14 ∨ c = 15 then c.toNat else 0
def skipP (c : UInt8) : Nat := if c = 14 ∨ c = 15 then 1 else 0
def cellP (wd ht : Int) (cs : List Ce) (t : Tm) : List UInt8 → Option (List Ce × Tm × Nat)
 | [] => none
 | c :: r =>
  let d := Lib.decodeGo (strL ((c :: r).drop (skipP c)))
  if d.1 = 65533 ∧ d.2 < 3 then none else
  let p := putL (halfP c) d.1 t.col t.back
  if p = [] ∨ plcS wd ht t.x t.y = false ∨ wd - t.x < p.length then none
  else some (splC cs (t.y * wd + t.x).toNat p, { t with x := t.x + p.length }, skipP c + d.2)
theorem dec1 (s : ByteArray) : ((Lib.decodeGo s).1 = 65533 ∧ (Lib.decodeGo s).2 < 3) ∨ (1 ≤ (Lib.decodeGo s).2 ∧ (Lib.decodeGo s).2 ≤ s.size) := by
 unfold Lib.decodeGo
 by_cases h : s.size = 0
 ·rw [if_pos h]; exact .inl ⟨rfl, by decide⟩
 ·rw [if_neg h]
  have h1 := dec_pos s 0; have h2 := dec_fit (s := s) (p := 0) (by omega); exact .inr ⟨h1, by omega⟩
theorem strL_size (l : List UInt8) : (strL l).size = l.length := by simp [strL, ByteArray.size]
theorem cellP_pos {wd ht : Int} {cs cs' : List Ce} {t t' : Tm} {l : List UInt8} {n : Nat} (h : cellP wd ht cs t l = some (cs', t', n)) : 1 ≤ n ∧ n ≤ l.length := by
 cases l with
 | nil => cases h
 | cons c r =>
  rw [cellP] at h; dsimp only at h
  split at h
  ·cases h
  ·rename_i hd
   split at h
   ·cases h
   ·injection h with h
    obtain ⟨_, h⟩ := Prod.mk.inj h; obtain ⟨_, rfl⟩ := Prod.mk.inj h; have := (dec1 (strL ((c :: r).drop (skipP c)))).resolve_left hd; rw [strL_size, List.length_drop] at this; omega
def stepP (wd ht : Int) (cs : List Ce) (t : Tm) (l : List UInt8) : Option (List Ce × Tm × Nat) :=
 if l.head? = some 27 then (match escP t l with | none => none | some (t', n) => some (cs, t', n)) else cellP wd ht cs t l
theorem stepP_pos {wd ht : Int} {cs cs' : List Ce} {t t' : Tm} {l : List UInt8} {n : Nat} (h : stepP wd ht cs t l = some (cs', t', n)) : 1 ≤ n ∧ n ≤ l.length := by
 unfold stepP at h
 split at h
 ·split at h
  ·cases h
  ·rename_i t2 n2 he
   injection h with h
   obtain ⟨_, h⟩ := Prod.mk.inj h; obtain ⟨_, rfl⟩ := Prod.mk.inj h; exact escP_pos he
 ·exact cellP_pos h
def readF (wd ht : Int) : Nat → List Ce → Tm → List UInt8 → Nat → Except Nat (List Ce)
 | 0, cs, _, _, _ => .ok cs
 | f + 1, cs, t, l, p => if l = [] then .ok cs else match stepP wd ht cs t l with
  | none => .error p
  | some (cs', t', n) => readF wd ht f cs' t' (l.drop n) (p + n)
theorem readF_more (wd ht : Int) : ∀ (f g : Nat) (cs : List Ce) (t : Tm) (l : List UInt8) (p : Nat), l.length ≤ f → l.length ≤ g → readF wd ht f cs t l p = readF wd ht g cs t l p
 | 0, 0, _, _, _, _, _, _ => rfl
 | 0, g + 1, cs, t, l, p, h, _ => by rw [readF, readF, if_pos (by simpa using h)]
 | f + 1, 0, cs, t, l, p, _, h => by rw [readF, readF, if_pos (by simpa using h)]
 | f + 1, g + 1, cs, t, l, p, h1, h2 => by
  rw [readF, readF]
  split
  ·rfl
  ·split
   ·rfl
   ·rename_i cs' t' n hs
    have := stepP_pos hs; exact readF_more wd ht f g _ _ _ _ (by rw [List.length_drop]; omega) (by rw [List.length_drop]; omega)
def readL (wd ht : Int) (cs : List Ce) (t : Tm) (l : List UInt8) (p : Nat) : Except Nat (List Ce) := readF wd ht l.length cs t l p
theorem readL_nil (wd ht : Int) (cs : List Ce) (t : Tm) (p : Nat) : readL wd ht cs t [] p = .ok cs := rfl
theorem readL_step {wd ht : Int} {cs : List Ce} {t : Tm} {l : List UInt8} {p : Nat} (hl : l ≠ []) : readL wd ht cs t l p = match stepP wd ht cs t l with
  | none => .error p
  | some (cs', t', n) => readL wd ht cs' t' (l.drop n) (p + n) := by
 unfold readL
 cases l with
 | nil => exact absurd rfl hl
 | cons c r =>
  rw [List.length_cons, readF, if_neg hl]
  split
  ·rfl
  ·rename_i cs' t' n hs
   have := stepP_pos hs; rw [List.length_cons] at this; exact readF_more wd ht _ _ _ _ _ _ (by rw [List.length_drop, List.length_cons]; omega) lrr
def Tm.zero : Tm := ⟨0, 0, ⟨0, 0, 0, 0⟩, ⟨0, 0, 0, 0⟩⟩
def readS (wd ht : Int) (cs : List Ce) (l : List UInt8) : Int × Int × Int × Int × List Ce :=
 if chkS wd ht cs = 0 then (if 1048576 < l.length then (3, 0, 0, 0, []) else match readL wd ht cs Tm.zero l 0 with
  | .error p => (150, p, 0, 0, [])
  | .ok cs' => (0, 0, wd, ht, cs')) else (chkS wd ht cs, 0, 0, 0, [])
end Go.Proofs.YtfcphagmjijmkaaGreatDoor
