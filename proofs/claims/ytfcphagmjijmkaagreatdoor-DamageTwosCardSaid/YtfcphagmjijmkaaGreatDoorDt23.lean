/-
  Damage, plain: a screen mended within the damage; the places at which two screens are unlike, as rectangles.
-/
import Derived.Deep.MidRow
import Derived.Test.YtfcphagmjijmkaaGreatDoorDt22
namespace Go.Proofs.YtfcphagmjijmkaaGreatDoor
open Go.RowKit
set_option linter.unusedVariables false
set_option linter.unusedSimpArgs false
attribute [local go_sem] vwp vUpon_value vUpon_skip vUpon_enter vUpon_row
set_option maxHeartbeats 16000000
/-! ### mending -/
def mndE (wd ht : Int) (cs : List Ce) (xs : List St) (qs : List Re) : Int := if chkS wd ht cs = 0 then (if chkL xs = 0 then chkR qs else chkL xs) else chkS wd ht cs
def putN (wd : Int) (now cs : List Ce) (qs : List Re) : List Ce := updP (fun k => hasL qs ((k % wd.toNat : Nat) : Int) ((k / wd.toNat : Nat) : Int)) (fun k c => (now[k]?).getD c) cs
def nowC (wd ht : Int) (xs : List St) : List Ce := drawC glyS wd ht (blankC wd ht Co.none) xs
def mndC (wd ht : Int) (cs : List Ce) (xs : List St) (qs : List Re) : List Ce := if mndE wd ht cs xs qs = 0 then putN wd (nowC wd ht xs) cs qs else []
theorem blank_len {wd ht : Int} (c : Co) (h : fitsS wd ht = true) : ((blankC wd ht c).length : Int) = wd * ht := by
 unfold blankC; rw [if_pos h, List.length_replicate]; unfold fitsS at h; simp only [Bool.and_eq_true, decide_eq_true_eq] at h; have := Int.mul_nonneg h.1.1.1.1 h.1.1.1.2; omega
theorem blank_chk {wd ht : Int} (h : fitsS wd ht = true) : chkS wd ht (blankC wd ht Co.none) = 0 := by
 unfold chkS; rw [h, blank_len _ h]
 have : (blankC wd ht Co.none).all mayC = true := by
  rw [List.all_eq_true]
  intro c hc
  unfold blankC at hc; rw [if_pos h] at hc; rw [(List.mem_replicate.1 hc).2]
  decide
 rw [this]
 simp
theorem now_ok {wd ht : Int} {xs : List St} (hf : fitsS wd ht = true) (hx : chkL xs = 0) : drawE wd ht (blankC wd ht Co.none) xs = 0 := by
 unfold drawE; rw [if_pos (blank_chk hf), hx]
theorem now_len {wd ht : Int} {xs : List St} (hf : fitsS wd ht = true) (hx : chkL xs = 0) : ((nowC wd ht xs).length : Int) = wd * ht := by
 unfold nowC; rw [draw_len (now_ok hf hx)]; exact blank_len _ hf
/-! ### what changed -/
def difN (ls ms : List Ce) : List Nat := (List.range ls.length).filter (dif ls ms)
def unitR (W : Nat) (k : Nat) : Re := ⟨((k % W : Nat) : Int), ((k / W : Nat) : Int), 1, 1⟩
def unitL (W : Nat) (ls ms : List Ce) : List Re := (difN ls ms).map (unitR W)
def recR (r : Rn) : Re := ⟨r.x, r.y, r.cells.length, 1⟩
theorem runOne_rec {ls ms : List Ce} {P y x e : Nat} (h : P + e ≤ ms.length) : (runOne ms P y x e).map recR = if x < e then [⟨x, y, ((e - x : Nat) : Int), 1⟩] else [] := by
 unfold runOne
 split
 ·rename_i hx
  simp only [List.map_cons, List.map_nil, recR, List.length_take, List.length_drop]; rw [Nat.min_eq_left (by omega)]
 ·rfl
theorem runTo_spec (ls ms : List Ce) (P N : Nat) : ∀ f x, N - x ≤ f → (∀ z, x ≤ z → z < runTo ls ms P N x → dif ls ms (P + z) = true) ∧ (x ≤ N → ¬ (runTo ls ms P N x < N ∧ dif ls ms (P + runTo ls ms P N x) = true))
 | 0, x, h => by
  have e : runTo ls ms P N x = x := runTo_stop (by omega); rw [e]; exact ⟨fun z h1 h2 => by omega, fun _ => by omega⟩
 | f + 1, x, h => by
  by_cases c : x < N ∧ dif ls ms (P + x) = true
  ·rw [runTo_step c.1 c.2]
   obtain ⟨h1, h2⟩ := runTo_spec ls ms P N f (x + 1) (by omega); refine ⟨fun z hz1 hz2 => ?_, fun _ => h2 (by omega)⟩
   by_cases hz : z = x
   ·rw [hz]; exact c.2
   ·exact h1 z (by omega) hz2
  ·rw [runTo_stop c]
   exact ⟨fun z h1 h2 => by omega, fun _ => c⟩
theorem runrow_spec (ls ms : List Ce) (P N y : Nat) (hl : P + N ≤ ms.length) : ∀ f x, N - x ≤ f → x ≤ N + 1 →
  RisR ((runRow ls ms P N y x).map recR) ∧ (∀ q ∈ (runRow ls ms P N y x).map recR, q.y = y ∧ (x : Int) ≤ q.x ∧ q.x + q.wd ≤ N) ∧ ∀ u v : Int, hasL ((runRow ls ms P N y x).map recR) u v = true ↔ v = y ∧ ∃ z : Nat, u = z ∧ x ≤ z ∧ z < N ∧ dif ls ms (P + z) = true
 | 0, x, h, hx => by
  rw [runRow_end (by omega)]; refine ⟨trivial, by simp, fun u v => ?_⟩
  constructor
  ·intro h; cases h
  ·rintro ⟨_, z, _, h1, h2, _⟩; omega
 | f + 1, x, h, hx => by
  by_cases c : x < N
  ·rw [runRow_step c, List.map_append]
   have b := (rEnd_bd ls ms P N (N - x) x); have b1 : x ≤ runTo ls ms P N x := b.1; have b2 : runTo ls ms P N x ≤ N := b.2 (by omega); obtain ⟨s1, s2⟩ := runTo_spec ls ms P N (f + 1) x h; obtain ⟨i1, i2, i3⟩ := runrow_spec ls ms P N y hl f (runTo ls ms P N x + 1) (by omega) (by omega); rw [runOne_rec (ls := ls) (by omega)]; generalize runTo ls ms P N x = e at *; have s3 := s2 (by omega); clear s2
   by_cases ce : x < e
   ·rw [if_pos ce, List.cons_append, List.nil_append]
    refine ⟨RisR.mk ⟨by simp only; omega, rfl⟩ i1 ?_, ?_, fun u v => ?_⟩
    ·intro p hp
     have hm := i2 p (List.mem_of_mem_head? hp); refine .inr ⟨hm.1.symm, ?_⟩; simp only; omega
    ·intro q hq
     rcases List.mem_cons.1 hq with rfl | hq
     ·exact ⟨rfl, by simp, by simp only; omega⟩
     ·have := i2 q hq
      exact ⟨this.1, by omega, this.2.2⟩
    ·have e' : ∀ (q : Re) l, hasL (q :: l) u v = (hasR q u v || hasL l u v) := fun _ _ => rfl
     rw [e', Bool.or_eq_true, i3, has_bd]; simp only
     constructor
     ·rintro (⟨h1, h2, h3, h4⟩ | ⟨h1, z, h2, h3, h4, h5⟩)
      ·refine ⟨by omega, u.toNat, by omega, by omega, by omega, s1 _ (by omega) (by omega)⟩
      ·exact ⟨h1, z, h2, by omega, h4, h5⟩
     ·rintro ⟨h1, z, h2, h3, h4, h5⟩
      by_cases cz : z < e
      ·exact .inl (by omega)
      ·by_cases cz2 : z = e
       ·subst cz2
        exact (s3 ⟨h4, h5⟩).elim
       ·exact .inr ⟨h1, z, h2, by omega, h4, h5⟩
   ·rw [if_neg ce, List.nil_append]
    obtain rfl : e = x := by omega
    refine ⟨i1, fun q hq => ?_, fun u v => ?_⟩
    ·have := i2 q hq
     exact ⟨this.1, by omega, this.2.2⟩
    ·rw [i3]
     constructor
     ·rintro ⟨h1, z, h2, h3, h4, h5⟩
      exact ⟨h1, z, h2, by omega, h4, h5⟩
     ·rintro ⟨h1, z, h2, h3, h4, h5⟩
      refine ⟨h1, z, h2, ?_, h4, h5⟩
      by_cases cz : z = e
      ·subst cz
       exact (s3 ⟨h4, h5⟩).elim
      ·omega
  ·rw [runRow_end c]
   refine ⟨trivial, by simp, fun u v => ?_⟩
   constructor
   ·intro h; cases h
   ·rintro ⟨_, z, _, h1, h2, _⟩; omega
theorem ris_app : ∀ {a b : List Re} {y : Int}, RisR a → RisR b → (∀ q ∈ a, q.y = y) → (∀ q ∈ b.head?, y < q.y) → RisR (a ++ b)
 | [], b, y, _, hb, _, _ => hb
 | q :: a, b, y, ha, hb, hy, hh => by
  have ih := ris_app (a := a) ha.tail hb (fun p hp => hy p (List.mem_cons_of_mem _ hp)) hh; refine RisR.mk ha.one ih ?_
  intro p hp
  cases a with
  | nil =>
   have := hh p hp; have := hy q (by simp); exact .inl (by omega)
  | cons r a =>
   simp at hp
   subst hp; exact ha.2.2.1
theorem runs_spec (ls ms : List Ce) (N : Nat) : ∀ (n y : Nat), (y + n) * N ≤ ms.length →
  RisR ((runsGo ls ms N n y).map recR) ∧ (∀ q ∈ (runsGo ls ms N n y).map recR, (y : Int) ≤ q.y) ∧ ∀ u v : Int, hasL ((runsGo ls ms N n y).map recR) u v = true ↔ ∃ z t : Nat, u = z ∧ v = t ∧ z < N ∧ y ≤ t ∧ t < y + n ∧ dif ls ms (t * N + z) = true
 | 0, y, _ => by
  refine ⟨trivial, by simp [runsGo], fun u v => ?_⟩
  constructor
  ·intro h; cases h
  ·rintro ⟨z, t, _, _, _, h1, h2, _⟩; omega
 | n + 1, y, h => by
  rw [runsGo, List.map_append]; have hy1 : (y + 1) * N ≤ ms.length := Nat.le_trans (Nat.mul_le_mul_right N (by omega)) h; obtain ⟨r1, r2, r3⟩ := runrow_spec ls ms (y * N) N y (by rw [Nat.add_mul, Nat.one_mul] at hy1; omega) N 0 (by omega) (by omega); obtain ⟨i1, i2, i3⟩ := runs_spec ls ms N n (y + 1) (by rw [show y + 1 + n = y + (n + 1) by omega]; exact h); refine ⟨ris_app r1 i1 (fun q hq => (r2 q hq).1) ?_, ?_, fun u v => ?_⟩
  ·intro q hq
   have := i2 q (List.mem_of_mem_head? hq); omega
  ·intro q hq
   rcases List.mem_append.1 hq with hq | hq
   ·have := (r2 q hq).1; omega
   ·have := i2 q hq; omega
  ·rw [has_append, Bool.or_eq_true, r3, i3]
   constructor
   ·rintro (⟨h1, z, h2, _, h3, h4⟩ | ⟨z, t, h1, h2, h3, h4, h5, h6⟩)
    ·exact ⟨z, y, h2, h1, h3, Nat.le_refl _, by omega, h4⟩
    ·exact ⟨z, t, h1, h2, h3, by omega, by omega, h6⟩
   ·rintro ⟨z, t, h1, h2, h3, h4, h5, h6⟩
    by_cases c : t = y
    ·subst c
     exact .inl ⟨h2, z, h1, Nat.zero_le _, h3, h6⟩
    ·exact .inr ⟨z, t, h1, h2, h3, by omega, by omega, h6⟩
theorem dif_lt {ls ms : List Ce} {k : Nat} (h : dif ls ms k = true) : k < ls.length := by
 unfold dif at h
 cases hk : ls[k]? with
 | none => rw [hk] at h; cases h
 | some a => exact (List.getElem?_eq_some_iff.1 hk).1
theorem unit_has {W : Nat} {ls ms : List Ce} {u v : Int} : hasL (unitL W ls ms) u v = true ↔ ∃ k : Nat, dif ls ms k = true ∧ u = ((k % W : Nat) : Int) ∧ v = ((k / W : Nat) : Int) := by
 unfold hasL unitL difN; rw [List.any_eq_true]
 constructor
 ·rintro ⟨q, hq, hh⟩
  obtain ⟨k, hk, rfl⟩ := List.mem_map.1 hq; obtain ⟨_, hd⟩ := List.mem_filter.1 hk; have := has_bd.1 hh; simp only [unitR] at this; exact ⟨k, hd, by omega, by omega⟩
 ·rintro ⟨k, hd, rfl, rfl⟩
  refine ⟨unitR W k, List.mem_map.2 ⟨k, List.mem_filter.2 ⟨List.mem_range.2 (dif_lt hd), hd⟩, rfl⟩, ?_⟩; rw [has_bd]; simp only [unitR]; omega
theorem unit_sane (W : Nat) (ls ms : List Ce) : Sane (unitL W ls ms) := by
 intro q hq
 unfold unitL at hq; obtain ⟨k, _, rfl⟩ := List.mem_map.1 hq; simp only [unitR]; omega
theorem runs_unit {ls ms : List Ce} {N H : Nat} (h1 : ls.length = N * H) (h2 : ms.length = N * H) (x z : Int) : hasL ((runsGo ls ms N H 0).map recR) x z = hasL (unitL N ls ms) x z := by
 have hs := (runs_spec ls ms N H 0 (by rw [h2, Nat.zero_add, Nat.mul_comm]; exact Nat.le_refl _)).2.2; rw [Bool.eq_iff_iff, hs, unit_has]
 constructor
 ·rintro ⟨a, t, rfl, rfl, ha, _, ht, hd⟩
  refine ⟨t * N + a, hd, ?_, ?_⟩
  ·rw [Nat.mul_comm, Nat.mul_add_mod, Nat.mod_eq_of_lt ha]
  ·rw [Nat.mul_comm, Nat.mul_add_div (by omega), Nat.div_eq_of_lt ha]
   omega
 ·rintro ⟨k, hd, rfl, rfl⟩
  have hk := dif_lt hd; rw [h1] at hk
  have hN : 0 < N := by
   cases N with
   | zero => simp at hk
   | succ n => omega
  refine ⟨k % N, k / N, rfl, rfl, Nat.mod_lt _ hN, Nat.zero_le _, ?_, ?_⟩
  ·rw [Nat.zero_add]
   exact Nat.div_lt_of_lt_mul hk
  ·rw [Nat.mul_comm, Nat.div_add_mod]
   exact hd
theorem chg_form {ls ms : List Ce} {N H : Nat} (h1 : ls.length = N * H) (h2 : ms.length = N * H) : chGo [] [] [] ((runsGo ls ms N H 0).map recR) = formR (unitL N ls ms) [] 1 :=
 ch_form (runs_spec ls ms N H 0 (by rw [h2, Nat.zero_add, Nat.mul_comm]; exact Nat.le_refl _)).1 (unit_sane N ls ms) (runs_unit h1 h2)
/-! ### less -/
/-! ### the form of what changed is no longer than the runs -/
theorem fls_len (form last row : List Re) : (flsF form last row).length ≤ form.length + row.length := by
 unfold flsF
 split
 ·rename_i h
  unfold alkB at h; simp only [Bool.and_eq_true, decide_eq_true_eq] at h
  have e : ∀ a b : List Re, eqAl a b = true → a.length = b.length := by
   intro a
   induction a with
   | nil => intro b hb; cases b with
    | nil => rfl
    | cons _ _ => simp [eqAl] at hb
   | cons x a ih => intro b hb; cases b with
    | nil => simp [eqAl] at hb
    | cons y b =>
     rw [eqAl, Bool.and_eq_true] at hb; rw [List.length_cons, List.length_cons, ih b hb.2]
  have := e _ _ h.2; rw [List.length_append, List.length_take, List.length_map]; omega
 ·rw [List.length_append]; omega
/-! ### more behind a list -/
/-! ### what changed lies in the damage -/
def chgE (wa ha : Int) (ls : List Ce) (wb hb : Int) (ms : List Ce) : Int := runsE wa ha ls wb hb ms
def chgF (wa ha : Int) (ls : List Ce) (wb hb : Int) (ms : List Ce) : List Re := chGo [] [] [] ((runsL wa ha ls wb hb ms).map recR)
def chgL (wa ha : Int) (ls : List Ce) (wb hb : Int) (ms : List Ce) : List Re := if 1024 < (chgF wa ha ls wb hb ms).length then [abtR (chgF wa ha ls wb hb ms)] else chgF wa ha ls wb hb ms
theorem runsOk_iff {wa ha : Int} {ls : List Ce} {wb hb : Int} {ms : List Ce} : runsOk wa ha ls wb hb ms = true ↔ chkS wa ha ls = 0 ∧ chkS wb hb ms = 0 ∧ wa = wb ∧ ha = hb := by
 unfold runsOk; simp only [Bool.and_eq_true, beq_iff_eq]
theorem size_nat {wd ht : Int} {cs : List Ce} (h : chkS wd ht cs = 0) : cs.length = wd.toNat * ht.toNat ∧ wd.toNat ≤ 16384 ∧ ht.toNat ≤ 16384 := by
 obtain ⟨h1, h2, _⟩ := chkS_zero h; unfold fitsS at h1; simp only [Bool.and_eq_true, decide_eq_true_eq] at h1; obtain ⟨W, rfl⟩ : ∃ W : Nat, wd = W := ⟨wd.toNat, by omega⟩; obtain ⟨H, rfl⟩ : ∃ H : Nat, ht = H := ⟨ht.toNat, by omega⟩; refine ⟨?_, by omega, by omega⟩
 have e : ((cs.length : Nat) : Int) = ((W * H : Nat) : Int) := by rw [h2, Int.natCast_mul]
 exact Int.ofNat.inj e
theorem chgF_form {wd ht : Int} {ls ms : List Ce} (h1 : chkS wd ht ls = 0) (h2 : chkS wd ht ms = 0) : chgF wd ht ls wd ht ms = formR (unitL wd.toNat ls ms) [] 1 := by
 unfold chgF runsL; rw [if_pos (runsOk_iff.2 ⟨h1, h2, rfl, rfl⟩)]; exact chg_form (size_nat h1).1 (size_nat h2).1
theorem runAt_len (ls ms : List Ce) (P N y : Nat) : ∀ f x, (runAt ls ms P N y f x).length ≤ (N + 1 - x) / 2
 | 0, x => by rw [runAt]; simp
 | f + 1, x => by
  rw [runAt]
  split
  ·rename_i h
   have b := (rEnd_bd ls ms P N (N - x) x).1; have b : x ≤ runTo ls ms P N x := b; have ih := runAt_len ls ms P N y f (runTo ls ms P N x + 1); rw [List.length_append]; unfold runOne
   split
   ·simp only [List.length_cons, List.length_nil]; omega
   ·simp only [List.length_nil]; omega
  ·simp
theorem runsGo_len (ls ms : List Ce) (N : Nat) : ∀ n y, (runsGo ls ms N n y).length ≤ n * ((N + 1) / 2)
 | 0, y => by rw [runsGo]; simp
 | n + 1, y => by
  rw [runsGo, List.length_append, Nat.add_mul, Nat.one_mul]; have h1 := runAt_len ls ms (y * N) N y (N - 0) 0; have h1 : (runRow ls ms (y * N) N y 0).length ≤ (N + 1) / 2 := h1; have h2 := runsGo_len ls ms N n (y + 1); omega
theorem unit_may {W H : Nat} {ls ms : List Ce} (hl : ls.length = W * H) (hW : W ≤ 16384) (hH : H ≤ 16384) : MayL (unitL W ls ms) := by
 intro q hq
 unfold unitL difN at hq; obtain ⟨k, hk, rfl⟩ := List.mem_map.1 hq; have hk := List.mem_range.1 (List.mem_filter.1 hk).1; rw [hl] at hk
 have hN : 0 < W := by
  cases W with
  | zero => simp at hk
  | succ n => omega
 have h1 := Nat.mod_lt k hN; have h2 : k / W < H := Nat.div_lt_of_lt_mul hk; unfold unitR; generalize k % W = a at h1; generalize k / W = b at h2
 apply may_of
 simp only; omega
def layC (cs : List Ce) (i : Nat) (p : List Ce) : List Ce := cs.take i ++ p ++ cs.drop (i + p.length)
theorem layC_len {cs p : List Ce} {i : Nat} (h : i + p.length ≤ cs.length) : (layC cs i p).length = cs.length := by
 unfold layC; simp only [List.length_append, List.length_take, List.length_drop]; omega
theorem flatC_take' (cs : List Ce) (i : Nat) : (cs.flatMap Ce.enc).take (i * 11) = (cs.take i).flatMap Ce.enc := by
 induction cs generalizing i with
 | nil => simp
 | cons c r ih =>
  cases i with
  | zero => simp
  | succ i =>
   rw [List.flatMap_cons, List.take_succ_cons, List.flatMap_cons, ← ih i, Nat.add_mul, Nat.one_mul, Nat.add_comm (i * 11) 11, ← Ce.enc_len c, List.take_length_add_append]
theorem flatC_drop' (cs : List Ce) (i : Nat) : (cs.flatMap Ce.enc).drop (i * 11) = (cs.drop i).flatMap Ce.enc := by
 induction cs generalizing i with
 | nil => simp
 | cons c r ih =>
  cases i with
  | zero => simp
  | succ i =>
   rw [List.flatMap_cons, List.drop_succ_cons, ← ih i, Nat.add_mul, Nat.one_mul, Nat.add_comm (i * 11) 11, ← Ce.enc_len c, List.drop_length_add_append]
theorem OwnsC.openD {base : Nat} {w : World} {v : Value} {cs : List Ce} (h : OwnsC base w v cs) (h0 : 0 < cs.length) :
  ∃ g cap cur, v = .slice (some ⟨g, 0, none⟩) cs.length cap ∧ base ≤ g ∧ w.heap[g]? = some (.cells cur 47 (0, 0)) ∧ cs.length ≤ cap ∧ cap ≤ maxLen ∧ cap * 11 = cur.size ∧ cur.toList.take (cs.length * 11) = cs.flatMap Ce.enc := by
 rcases h.2 with ⟨_, h1⟩ | ⟨g, cap, cur, hv, hb, hg, hc, hm, hs, ht⟩
 ·omega
 ·exact ⟨g, cap, cur, hv, hb, hg, hc, hm, by first | exact hs | exact hs.symm | omega, ht⟩
theorem OwnsC.lay {base : Nat} {w : World} {g cap : Nat} {cur : Array Value} {cs p : List Ce} {i : Nat} (hb : base ≤ g) (hg : w.heap[g]? = some (.cells cur 47 (0, 0))) (hc : cs.length ≤ cap) (hm : cap ≤ maxLen) (hs : cap * 11 = cur.size)
  (ht : cur.toList.take (cs.length * 11) = cs.flatMap Ce.enc) (hi : i + p.length ≤ cs.length) :
  OwnsC base (w.setRow g (cur.toList.take (i * 11) ++ p.flatMap Ce.enc ++ cur.toList.drop (i * 11 + (p.flatMap Ce.enc).length)).toArray) (.slice (some ⟨g, 0, none⟩) cs.length cap) (layC cs i p) := by
 have hpl : (p.flatMap Ce.enc).length = p.length * 11 := by rw [flat_len Ce.enc_len]
 have hcl : cur.toList.length = cap * 11 := by rw [hs]; simp
 have e1 : cur.toList.take (i * 11) = (cs.take i).flatMap Ce.enc := by
  rw [← flatC_take', ← ht, List.take_take, Nat.min_eq_left (by omega)]
 have e2 : (cur.toList.drop (i * 11 + p.length * 11)).take (cs.length * 11 - (i * 11 + p.length * 11)) = (cs.drop (i + p.length)).flatMap Ce.enc := by
  rw [← flatC_drop', ← ht, Nat.add_mul, List.drop_take]
 have hl : (layC cs i p).length = cs.length := layC_len hi; unfold OwnsC; rw [hl]; refine ⟨by rw [flat_len Ce.enc_len, hl], .inr ⟨g, cap, _, rfl, hb, setRow_heap w g cur _ _ _ hg, hc, hm, ?_, ?_⟩⟩
 ·simp only [List.size_toArray, List.length_append, List.length_take, List.length_drop, hpl, hcl]
  have : i * 11 + p.length * 11 ≤ cap * 11 := by omega
  omega
 ·rw [List.toList_toArray, hpl]
  have hli : (cur.toList.take (i * 11) ++ p.flatMap Ce.enc).length = i * 11 + p.length * 11 := by rw [List.length_append, List.length_take, hpl, hcl]; omega
  rw [List.take_append, hli, List.take_of_length_le (by rw [hli]; omega), e2, e1]; unfold layC; rw [List.flatMap_append, List.flatMap_append]
def PutP (P : Nat → Bool) (now cs C : List Ce) : Prop := C.length = cs.length ∧ ∀ k, k < cs.length → C[k]? = if P k then now[k]? else cs[k]?
theorem PutP.zero {P : Nat → Bool} {now cs : List Ce} (h : ∀ k, k < cs.length → P k = false) : PutP P now cs cs := ⟨rfl, fun k hk => by rw [h k hk]; rfl⟩
theorem PutP.congr {P Q : Nat → Bool} {now cs C : List Ce} (h : PutP P now cs C) (e : ∀ k, k < cs.length → P k = Q k) : PutP Q now cs C :=
 ⟨h.1, fun k hk => by rw [h.2 k hk, e k hk]⟩
theorem PutP.row {P : Nat → Bool} {now cs C : List Ce} (h : PutP P now cs C) (hl : now.length = cs.length) {n m : Nat} (hm : n + m ≤ cs.length) :
  PutP (fun k => P k || (decide (n ≤ k) && decide (k < n + m))) now cs (layC C n ((now.drop n).take m)) := by
 have hp : ((now.drop n).take m).length = m := by rw [List.length_take, List.length_drop]; omega
 refine ⟨by rw [layC_len (by rw [hp, h.1]; exact hm)]; exact h.1, fun k hk => ?_⟩; unfold layC
 show _ = (if (P k || (decide (n ≤ k) && decide (k < n + m))) = true then now[k]? else cs[k]?)
 rw [hp]; have hcl := h.1
 have h1 : (C.take n ++ (now.drop n).take m).length = n + m := by rw [List.length_append, hp, List.length_take]; omega
 have h2 : (C.take n).length = n := by rw [List.length_take]; omega
 by_cases c1 : k < n
 ·rw [List.getElem?_append_left (by omega), List.getElem?_append_left (by omega), List.getElem?_take, if_pos c1, h.2 k hk, decide_eq_false (show ¬ n ≤ k by omega)]
  simp
 ·by_cases c2 : k < n + m
  ·rw [List.getElem?_append_left (by omega), List.getElem?_append_right (by omega), h2, List.getElem?_take, if_pos (by omega), List.getElem?_drop, show n + (k - n) = k by omega, decide_eq_true (show n ≤ k by omega), decide_eq_true c2]
   simp
  ·rw [List.getElem?_append_right (by omega), h1, List.getElem?_drop, show n + m + (k - (n + m)) = k by omega, h.2 k hk, decide_eq_false c2]
   simp
theorem PutP.eq {wd : Int} {qs : List Re} {now cs C : List Ce} (h : PutP (fun k => hasL qs ((k % wd.toNat : Nat) : Int) ((k / wd.toNat : Nat) : Int)) now cs C) (hl : now.length = cs.length) : C = putN wd now cs qs := by
 apply List.ext_getElem?
 intro k
 unfold putN; rw [updP_get]
 by_cases hk : k < cs.length
 ·rw [h.2 k hk]
  obtain ⟨c, hc⟩ := get_at (l := cs) rfl hk; obtain ⟨d, hd⟩ := get_at (l := now) rfl (show k < now.length by omega); rw [hc, hd]; simp only [Option.map_some, Option.getD_some]
  split <;> rfl
 ·rw [List.getElem?_eq_none (show C.length ≤ k by rw [h.1]; omega), show cs[k]? = none from List.getElem?_eq_none (by omega)]
  rfl
theorem scr_meet {wd ht : Int} (hf : fitsS wd ht = true) {q : Re} (hq : mayR q = true) :
  0 ≤ (meetR q ⟨0, 0, wd, ht⟩).x ∧ 0 ≤ (meetR q ⟨0, 0, wd, ht⟩).wd ∧ (meetR q ⟨0, 0, wd, ht⟩).x + (meetR q ⟨0, 0, wd, ht⟩).wd ≤ wd ∧ 0 ≤ (meetR q ⟨0, 0, wd, ht⟩).y ∧ 0 ≤ (meetR q ⟨0, 0, wd, ht⟩).ht ∧ (meetR q ⟨0, 0, wd, ht⟩).y + (meetR q ⟨0, 0, wd, ht⟩).ht ≤ ht ∧ (0 < (meetR q ⟨0, 0, wd, ht⟩).ht → 0 < (meetR q ⟨0, 0, wd, ht⟩).wd) := by
 obtain ⟨z0, z1, z2, z3, z4⟩ := fitsS_true.1 hf
 cases he : emptyR (meetR q ⟨0, 0, wd, ht⟩)
 ·obtain ⟨N, rfl⟩ : ∃ N : Nat, wd = N := ⟨wd.toNat, by omega⟩
  obtain ⟨M, rfl⟩ : ∃ N : Nat, ht = N := ⟨ht.toNat, by omega⟩; have h := meet_in hq (by omega) (by omega) he; simp only at h; omega
 ·have h : meetR q ⟨0, 0, wd, ht⟩ = Re.none := by
   by_cases hn : (emptyR q || emptyR (⟨0, 0, wd, ht⟩ : Re)) = true
   ·unfold meetR; rw [if_pos hn]
   ·have hm := meet_may q ⟨0, 0, wd, ht⟩
    unfold meetR at he hm ⊢; rw [if_neg hn] at he hm ⊢; unfold fromR at he hm ⊢
    split
    ·rfl
    ·rename_i hc
     rw [if_neg hc] at he hm; rw [empty_none hm] at he; unfold noneR at he; dsimp only at he hc; simp only [Bool.or_eq_true, decide_eq_true_eq] at he; exact absurd he (by omega)
  rw [h]; unfold Re.none; simp only; omega
theorem at_row {W k Y X m : Nat} (hX : X + m ≤ W) : (decide (Y * W + X ≤ k) && decide (k < Y * W + X + m)) = (decide (k / W = Y) && decide (X ≤ k % W) && decide (k % W < X + m)) := by
 rw [Bool.eq_iff_iff]; simp only [Bool.and_eq_true, decide_eq_true_eq]
 by_cases hW : W = 0
 ·subst hW
  constructor
  ·rintro ⟨h1, h2⟩; omega
  ·rintro ⟨⟨h1, h2⟩, h3⟩; omega
 have e := Nat.div_add_mod k W; have hlt := Nat.mod_lt k (Nat.pos_of_ne_zero hW)
 constructor
 ·rintro ⟨h1, h2⟩
  have hk : k / W = Y := by
   rw [Nat.div_eq_iff (Nat.pos_of_ne_zero hW)]; omega
  rw [hk, Nat.mul_comm] at e; omega
 ·rintro ⟨⟨h1, h2⟩, h3⟩
  rw [h1, Nat.mul_comm] at e; omega
theorem row_has {W k : Nat} {q : Re} {y : Nat} (hx : 0 ≤ q.x) (hy : 0 ≤ q.y) (hw : 0 ≤ q.wd) (hX : q.x + q.wd ≤ W) :
  (hasR ⟨q.x, q.y, q.wd, y⟩ ((k % W : Nat) : Int) ((k / W : Nat) : Int) || (decide ((q.y.toNat + y) * W + q.x.toNat ≤ k) && decide (k < (q.y.toNat + y) * W + q.x.toNat + q.wd.toNat))) = hasR ⟨q.x, q.y, q.wd, (y + 1 : Nat)⟩ ((k % W : Nat) : Int) ((k / W : Nat) : Int) := by
 rw [at_row (by omega), Bool.eq_iff_iff]; simp only [Bool.or_eq_true, Bool.and_eq_true, decide_eq_true_eq, has_iff]; omega
theorem PutP.step {wd ht : Int} {now cs C : List Ce} {qs : List Re} {q : Re} {y : Nat} (hf : fitsS wd ht = true) (hlen : (cs.length : Int) = wd * ht) (hl : now.length = cs.length) (hq : mayR q = true) (hy : (y : Int) < (meetR q ⟨0, 0, wd, ht⟩).ht)
  (h : PutP (fun k => hasL qs ((k % wd.toNat : Nat) : Int) ((k / wd.toNat : Nat) : Int) || hasR ⟨(meetR q ⟨0, 0, wd, ht⟩).x, (meetR q ⟨0, 0, wd, ht⟩).y, (meetR q ⟨0, 0, wd, ht⟩).wd, y⟩ ((k % wd.toNat : Nat) : Int) ((k / wd.toNat : Nat) : Int)) now cs C) :
  ((meetR q ⟨0, 0, wd, ht⟩).y.toNat + y) * wd.toNat + (meetR q ⟨0, 0, wd, ht⟩).x.toNat + (meetR q ⟨0, 0, wd, ht⟩).wd.toNat ≤ cs.length ∧
  PutP (fun k => hasL qs ((k % wd.toNat : Nat) : Int) ((k / wd.toNat : Nat) : Int) || hasR ⟨(meetR q ⟨0, 0, wd, ht⟩).x, (meetR q ⟨0, 0, wd, ht⟩).y, (meetR q ⟨0, 0, wd, ht⟩).wd, (y + 1 : Nat)⟩ ((k % wd.toNat : Nat) : Int) ((k / wd.toNat : Nat) : Int)) now cs
   (layC C (((meetR q ⟨0, 0, wd, ht⟩).y.toNat + y) * wd.toNat + (meetR q ⟨0, 0, wd, ht⟩).x.toNat) ((now.drop (((meetR q ⟨0, 0, wd, ht⟩).y.toNat + y) * wd.toNat + (meetR q ⟨0, 0, wd, ht⟩).x.toNat)).take (meetR q ⟨0, 0, wd, ht⟩).wd.toNat)) := by
 obtain ⟨z0, z1, z2, z3, z4⟩ := fitsS_true.1 hf; obtain ⟨m1, m2, m3, m4, m5, m6, _⟩ := scr_meet hf hq; generalize meetR q ⟨0, 0, wd, ht⟩ = p at *; obtain ⟨N, rfl⟩ : ∃ N : Nat, wd = N := ⟨wd.toNat, by omega⟩; obtain ⟨M, rfl⟩ : ∃ N : Nat, ht = N := ⟨ht.toNat, by omega⟩
 have hm : (p.y.toNat + y) * N + p.x.toNat + p.wd.toNat ≤ cs.length := by
  have h1 : (p.y.toNat + y + 1) * N ≤ M * N := Nat.mul_le_mul_right _ (by omega)
  have h2 : cs.length = N * M := by
   have : ((cs.length : Nat) : Int) = ((N * M : Nat) : Int) := by rw [hlen]; simp
   omega
  rw [h2, Nat.mul_comm N M]; rw [Nat.add_mul, Nat.one_mul] at h1; omega
 refine ⟨hm, ?_⟩; refine (h.row hl (n := (p.y.toNat + y) * N + p.x.toNat) (m := p.wd.toNat) hm).congr (fun k hk => ?_); simp only [Int.toNat_natCast]; rw [Bool.or_assoc, row_has m1 m4 m2 m3]
theorem PutP.begin {wd : Int} {now cs C : List Ce} {qs : List Re} {a b c : Int}
  (h : PutP (fun k => hasL qs ((k % wd.toNat : Nat) : Int) ((k / wd.toNat : Nat) : Int)) now cs C) :
  PutP (fun k => hasL qs ((k % wd.toNat : Nat) : Int) ((k / wd.toNat : Nat) : Int) || hasR ⟨a, b, c, (0 : Nat)⟩ ((k % wd.toNat : Nat) : Int) ((k / wd.toNat : Nat) : Int)) now cs C := by
 refine h.congr (fun k _ => ?_); rw [show hasR ⟨a, b, c, (0 : Nat)⟩ ((k % wd.toNat : Nat) : Int) ((k / wd.toNat : Nat) : Int) = false by rw [Bool.eq_false_iff]; intro h; rw [has_iff] at h; simp only at h; omega, Bool.or_false]
theorem PutP.done {wd ht : Int} {now cs C : List Ce} {qs : List Re} {q : Re} {i : Nat} (hf : fitsS wd ht = true) (hlen : (cs.length : Int) = wd * ht) (hq : mayR q = true) (hi : qs[i]? = some q)
  (h : PutP (fun k => hasL (qs.take i) ((k % wd.toNat : Nat) : Int) ((k / wd.toNat : Nat) : Int) || hasR ⟨(meetR q ⟨0, 0, wd, ht⟩).x, (meetR q ⟨0, 0, wd, ht⟩).y, (meetR q ⟨0, 0, wd, ht⟩).wd, (meetR q ⟨0, 0, wd, ht⟩).ht⟩ ((k % wd.toNat : Nat) : Int) ((k / wd.toNat : Nat) : Int)) now cs C) :
  PutP (fun k => hasL (qs.take (i + 1)) ((k % wd.toNat : Nat) : Int) ((k / wd.toNat : Nat) : Int)) now cs C := by
 obtain ⟨z0, z1, z2, z3, z4⟩ := fitsS_true.1 hf; refine h.congr (fun k hk => ?_); obtain ⟨N, rfl⟩ : ∃ N : Nat, wd = N := ⟨wd.toNat, by omega⟩; obtain ⟨M, rfl⟩ : ∃ N : Nat, ht = N := ⟨ht.toNat, by omega⟩
 have h2 : cs.length = N * M := by
  have : ((cs.length : Nat) : Int) = ((N * M : Nat) : Int) := by rw [hlen]; simp
  omega
 have e1 : (⟨(meetR q ⟨0, 0, (N : Int), (M : Int)⟩).x, (meetR q ⟨0, 0, (N : Int), (M : Int)⟩).y, (meetR q ⟨0, 0, (N : Int), (M : Int)⟩).wd, (meetR q ⟨0, 0, (N : Int), (M : Int)⟩).ht⟩ : Re) = meetR q ⟨0, 0, N, M⟩ := rfl; rw [e1, has_meet hq (whole_may (by omega) (by omega)), Int.toNat_natCast, whole_has (by omega), Bool.and_true, List.take_add_one, hi]
 simp [hasL]
theorem eq_flat (d : Nat) (w : World) (f g : Fl) : (Op.equalIn (d + 5) 82 (.agg #[.int .u8 (f).s.kind, .int .i64 (f).s.rect.x, .int .i64 (f).s.rect.y, .int .i64 (f).s.rect.wd, .int .i64 (f).s.rect.ht, .int .u8 (f).s.col.r, .int .u8 (f).s.col.g, .int .u8 (f).s.col.b, .int .u8 (f).s.col.a, .int .u8 (f).s.back.r, .int .u8 (f).s.back.g, .int .u8 (f).s.back.b, .int .u8 (f).s.back.a, .string (f).s.text, .int .i64 (f).s.node, .int .i64 (f).r.x, .int .i64 (f).r.y, .int .i64 (f).r.wd, .int .i64 (f).r.ht]) (.agg #[.int .u8 (g).s.kind, .int .i64 (g).s.rect.x, .int .i64 (g).s.rect.y, .int .i64 (g).s.rect.wd, .int .i64 (g).s.rect.ht, .int .u8 (g).s.col.r, .int .u8 (g).s.col.g, .int .u8 (g).s.col.b, .int .u8 (g).s.col.a, .int .u8 (g).s.back.r, .int .u8 (g).s.back.g, .int .u8 (g).s.back.b, .int .u8 (g).s.back.a, .string (g).s.text, .int .i64 (g).s.node, .int .i64 (g).r.x, .int .i64 (g).r.y, .int .i64 (g).r.wd, .int .i64 (g).r.ht])).run Tryz.prog w = .ok (f.eqb g) w := by
 unfold Fl.eqb; have A := Tryz.underlying82; have B := Tryz.underlying36; have C := Tryz.underlying32; rw [run_equalIn_agg w (d + 4) _ _ _ (by simp [Program.fieldsOf, A]) (by kernel_rfl)]; simp only [Program.fieldsOf, A]
 have z1 : Tryz.prog.cellsOf 36 = 15 := by kernel_rfl
 have z2 : Tryz.prog.cellsOf 32 = 4 := by kernel_rfl
 have y1 : Tryz.t36.size = 15 := by kernel_rfl
 have y2 : Tryz.t32.size = 4 := by kernel_rfl
 have E1 := eq_stroke d w f.s g.s; have E2 := eq_rect (d + 1) w f.r.x f.r.y f.r.wd f.r.ht g.r.x g.r.y g.r.wd g.r.ht; have e3 : eq4 f.r.x f.r.y f.r.wd f.r.ht g.r.x g.r.y g.r.wd g.r.ht = f.r.eqb g.r := rfl; rw [e3] at E2; generalize f.s.eqb g.s = b1 at *; generalize f.r.eqb g.r = b2 at *; simp only [Op.eqFields, Sem.run_bind, Sem.run_ite, Go.part, isAgg, run_underlying B, run_underlying C]
 simp [sizeOf, z1, z2, y1, y2, E1, E2]
 cases b1 <;> cases b2 <;> simp
def FMem (w : World) (b p : Nat) (f : Fl) : Prop := w.cell? ⟨b, p, none⟩ = some (.int .u8 f.s.kind) ∧ w.cell? ⟨b, p + 1, none⟩ = some (.int .i64 f.s.rect.x) ∧ w.cell? ⟨b, p + 2, none⟩ = some (.int .i64 f.s.rect.y) ∧ w.cell? ⟨b, p + 3, none⟩ = some (.int .i64 f.s.rect.wd) ∧ w.cell? ⟨b, p + 4, none⟩ = some (.int .i64 f.s.rect.ht) ∧ w.cell? ⟨b, p + 5, none⟩ = some (.int .u8 f.s.col.r) ∧ w.cell? ⟨b, p + 6, none⟩ = some (.int .u8 f.s.col.g) ∧ w.cell? ⟨b, p + 7, none⟩ = some (.int .u8 f.s.col.b) ∧ w.cell? ⟨b, p + 8, none⟩ = some (.int .u8 f.s.col.a) ∧ w.cell? ⟨b, p + 9, none⟩ = some (.int .u8 f.s.back.r) ∧ w.cell? ⟨b, p + 10, none⟩ = some (.int .u8 f.s.back.g) ∧ w.cell? ⟨b, p + 11, none⟩ = some (.int .u8 f.s.back.b) ∧ w.cell? ⟨b, p + 12, none⟩ = some (.int .u8 f.s.back.a) ∧ w.cell? ⟨b, p + 13, none⟩ = some (.string f.s.text) ∧ w.cell? ⟨b, p + 14, none⟩ = some (.int .i64 f.s.node) ∧ w.cell? ⟨b, p + 15, none⟩ = some (.int .i64 f.r.x) ∧ w.cell? ⟨b, p + 16, none⟩ = some (.int .i64 f.r.y) ∧ w.cell? ⟨b, p + 17, none⟩ = some (.int .i64 f.r.wd) ∧ w.cell? ⟨b, p + 18, none⟩ = some (.int .i64 f.r.ht)
theorem fmem_of {w : World} {b p : Nat} {f : Fl} (h : ∀ i u, f.enc[i]? = some u → w.cell? ⟨b, p + i, none⟩ = some u) : FMem w b p f :=
 ⟨h 0 _ rfl, h 1 _ rfl, h 2 _ rfl, h 3 _ rfl, h 4 _ rfl, h 5 _ rfl, h 6 _ rfl, h 7 _ rfl, h 8 _ rfl, h 9 _ rfl, h 10 _ rfl, h 11 _ rfl, h 12 _ rfl, h 13 _ rfl, h 14 _ rfl, h 15 _ rfl, h 16 _ rfl, h 17 _ rfl, h 18 _ rfl⟩
theorem row_fl {B : Nat} {w : World} {v : Value} {xs : List Fl} (h : Row B 19 Fl.enc w v xs) (h0 : 0 < xs.length) :
  ∃ b o cap, v = .slice (some ⟨b, o, none⟩) xs.length cap ∧ b < B ∧ xs.length ≤ cap ∧ cap ≤ maxLen ∧ ∀ j f, xs[j]? = some f → FMem w b (o + j * 19) f := by
 obtain ⟨b, o, cap, e, hb, h1, h2, hx⟩ := h.open_ h0; exact ⟨b, o, cap, e, hb, h1, h2, fun j s hj => fmem_of fun i u hi => hx j s hj i u hi⟩
/-! ### a flat stroke as one value -/
noncomputable def ldF (v : Value) : Sem Value := Instr.loadAt 82 v
theorem ldF_is (v : Value) : Instr.loadAt 82 v = ldF v := rfl
def Fl.val (f : Fl) : Value := .agg f.enc.toArray
theorem ldF_at {w : World} {b o : Nat} {f : Fl} (h : ∀ i u, f.enc[i]? = some u → w.cell? ⟨b, o + i, none⟩ = some u) : (ldF (.pointer (some ⟨b, o, none⟩))).run Tryz.prog w = .ok f.val w :=
 run_loadAt_mid w b o _ f.enc _ h Tryz.underlying82 rfl (by kernel_rfl)
theorem eql_val (f g : Fl) (w : World) : (binOp .eql 82 f.val g.val).run Tryz.prog w = .ok (.bool (f.eqb g)) w := by
 have e : ∀ f : Fl, f.val = .agg #[.int .u8 (f).s.kind, .int .i64 (f).s.rect.x, .int .i64 (f).s.rect.y, .int .i64 (f).s.rect.wd, .int .i64 (f).s.rect.ht, .int .u8 (f).s.col.r, .int .u8 (f).s.col.g, .int .u8 (f).s.col.b, .int .u8 (f).s.col.a, .int .u8 (f).s.back.r, .int .u8 (f).s.back.g, .int .u8 (f).s.back.b, .int .u8 (f).s.back.a, .string (f).s.text, .int .i64 (f).s.node, .int .i64 (f).r.x, .int .i64 (f).r.y, .int .i64 (f).r.wd, .int .i64 (f).r.ht] := fun f => rfl
 rw [e, e, run_eql_struct]; have h := eq_flat 9995 w f g; rw [h]
 rfl
theorem eqg_val (f g : Fl) (x y : Operand) (w : World) : (eqGuard .eql 82 x y f.val g.val).run Tryz.prog w = .ok () w :=
 run_eqGuard_agg w .eql _ x y f.enc.toArray g.enc.toArray (by kernel_rfl)
theorem row_ld {B : Nat} {w : World} {v : Value} {xs : List Fl} (h : Row B 19 Fl.enc w v xs) (hB : B ≤ w.heap.size) (h0 : 0 < xs.length) :
  ∃ b o cap, v = .slice (some ⟨b, o, none⟩) xs.length cap ∧ b < B ∧ xs.length ≤ cap ∧ cap ≤ maxLen ∧ ∀ j f, xs[j]? = some f → ∀ w', Below w.heap.size w w' → (ldF (.pointer (some ⟨b, o + j * 19, none⟩))).run Tryz.prog w' = .ok f.val w' := by
 obtain ⟨b, o, cap, e, hb, h1, h2, hx⟩ := h.open_ h0; exact ⟨b, o, cap, e, hb, h1, h2, fun j s hj w' hw => ldF_at fun i u hi => (hw.cell (p := ⟨b, _, none⟩) (Nat.lt_of_lt_of_le hb hB)).trans (hx j s hj i u hi)⟩
end Go.Proofs.YtfcphagmjijmkaaGreatDoor
