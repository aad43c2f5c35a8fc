/-
  region.form, both, Of, Join, Meet, Less.
-/
import Derived.Test.YtlklmncjicgbgaaRegBc
namespace Go.Proofs.Ytlklmncjicgbgaa
open Go.RowKit
set_option linter.unusedVariables false
attribute [local go_sem] vwp vUpon_value vUpon_skip vUpon_enter vUpon_row
set_option linter.unusedSimpArgs false
set_option linter.unusedVariables false
/-- A row of the call's own, perhaps cut. -/
def CutR (base : Nat) (w : World) (v : Value) (l : List Re) : Prop := (v = .slice none 0 0 ∧ l = []) ∨ ∃ g cap cur, v = .slice (some ⟨g, 0, none⟩) l.length cap ∧ base ≤ g ∧ w.heap[g]? = some (.cells cur 49 (0, 0)) ∧ l.length ≤ cap ∧ cap ≤ maxLen ∧ cap * 4 ≤ cur.size ∧ cur.toList.take (l.length * 4) = l.flatMap Re.enc
theorem CutR.nil (base : Nat) (w : World) : CutR base w (.slice none 0 0) [] := .inl ⟨rfl, rfl⟩
theorem CutR.below {base B : Nat} {w w' : World} {v : Value} {l : List Re} (h : CutR base w v l) (hb : Below B w w') (hB : w.heap.size ≤ B) : CutR base w' v l := by
  rcases h with h | ⟨g, cap, cur, h1, h2, h3, h4⟩
  · exact .inl h
  · exact .inr ⟨g, cap, cur, h1, h2, (hb.block g (Nat.lt_of_lt_of_le (lt_of_block h3) hB)).trans h3, h4⟩
theorem CutR.less {base B : Nat} {w : World} {v : Value} {l : List Re} (h : CutR base w v l) (hB : B ≤ base) : CutR B w v l := by
  rcases h with h | ⟨g, cap, cur, h1, h2, h3⟩
  · exact .inl h
  · exact .inr ⟨g, cap, cur, h1, by omega, h3⟩
theorem CutR.shape {base : Nat} {w : World} {v : Value} {l : List Re} (h : CutR base w v l) : ∃ s cap, v = .slice s l.length cap := by
  rcases h with ⟨rfl, rfl⟩ | ⟨g, cap, cur, h1, _⟩
  · exact ⟨_, _, rfl⟩
  · exact ⟨_, _, h1⟩
theorem CutR.block {base : Nat} {w : World} {v : Value} {l : List Re} (h : CutR base w v l) : ∀ g, v.ownBlock = some g → base ≤ g ∧ g < w.heap.size := by
  intro g hg
  rcases h with ⟨rfl, _⟩ | ⟨g', cap, cur, rfl, h2, h3, _⟩
  · cases hg
  · simp [Value.ownBlock] at hg
    subst hg
    exact ⟨h2, lt_of_block h3⟩
theorem CutR.row {base B : Nat} {w : World} {v : Value} {l : List Re} (h : CutR base w v l) (hB : w.heap.size ≤ B) : Row B 4 Re.enc w v l := by
  rcases h with ⟨rfl, rfl⟩ | ⟨g, cap, cur, rfl, h2, h3, h4, h5, h6, h7⟩
  · exact ⟨none, 0, rfl, by simp, by unfold maxLen; omega, fun h => by simp at h⟩
  · refine ⟨_, cap, rfl, h4, h5, fun h0 => ⟨g, 0, rfl, Nat.lt_of_lt_of_le (lt_of_block h3) hB, fun j x hj i u hi => ?_⟩⟩
    have hjl := (List.getElem?_eq_some_iff.1 hj).1
    have hil : i < 4 := (List.getElem?_eq_some_iff.1 hi).1
    have hp : (l.flatMap Re.enc)[j * 4 + i]? = some u := by
      rw [flat_get Re.enc_len (by omega), show (j * 4 + i) / 4 = j by omega, show (j * 4 + i) % 4 = i by omega, hj]
      exact hi
    rw [← h7, List.getElem?_take, if_pos (by omega)] at hp
    simp only [World.cell?, h3, Nat.zero_add]
    simpa using hp
theorem CutR.of {base : Nat} {w : World} {s : Option Addr} {n cap : Nat} {l : List Re} (h : OwnsR base w (.slice s n cap) l) (hn : l.length = n) : CutR base w (.slice s n n) l := by
  unfold OwnsR at h
  rw [hn] at h
  rcases h.2 with ⟨e, h0⟩ | ⟨g, cap', cur, e, h2, h3, h4, h5, h6, h7⟩
  · injection e with e1 e2 e3
    subst e1
    subst h0
    exact .inl ⟨rfl, List.length_eq_zero_iff.1 hn⟩
  · injection e with e1 e2 e3
    subst e1
    refine .inr ⟨g, n, cur, by rw [hn], h2, h3, by omega, by omega, by rw [h6]; exact Nat.mul_le_mul_right 4 h4, by rw [hn]; exact h7⟩
theorem run_more : ∀ (r d : List Bd), moreF d = true → ((flatB (d ++ r)).length ≤ 1024 → runM moreF d r = d ++ r) ∧ (1024 < (flatB (d ++ r)).length → 1024 < (flatB (runM moreF d r)).length)
  | [], d, h => by
    rw [List.append_nil]
    exact ⟨fun _ => rfl, fun h => h⟩
  | t :: r, d, h => by
    have e : d ++ t :: r = (d ++ [t]) ++ r := by simp
    rw [e]
    unfold runM
    cases hm : moreF (d ++ [t])
    · rw [if_neg (by decide)]
      unfold moreF at hm
      simp only [decide_eq_false_iff_not] at hm
      refine ⟨fun h => ?_, fun _ => by omega⟩
      rw [flatB_append, List.length_append] at h
      omega
    · rw [if_pos rfl]
      exact run_more r (d ++ [t]) hm
def FormPost (E : Int) (L : List Re) (w : World) (e : Ending) (w' : World) : Prop := Below w.heap.size w w' ∧ ∃ v, e = .returned (.tuple #[v, .int .i64 E]) ∧ CutR w.heap.size w' v L
set_option maxHeartbeats 2000000 in
theorem form_any (a b : List Re) (va vb : Value) (what : Int) (fw : Nat) (w : World) (ha : Row w.heap.size 4 Re.enc w va a) (hb : Row w.heap.size 4 Re.enc w vb b) (ma : MayL a) (mb : MayL b) (la : a.length ≤ 100000) (lb : b.length ≤ 100000)
    (eg : ∀ args w, (callFunc fw args).run Try.prog w = .ok (.enter fw args) w) (hw : ∀ a b w, Calls Try.prog fw #[.bool a, .bool b] w fun e w' => e = .returned (.bool (wantB what a b)) ∧ Below w.heap.size w w') :
    Calls Try.prog 52 #[va, vb, .func (.func fw) #[] #[]] w (FormPost (madeE a b what) (madeL a b what) w) := by
  have hal : Below w.heap.size w (w.alloc (.cells #[.slice none 0 0] 22)) := (Below.refl _ _).alloc (Nat.le_refl _) _
  have BA := bands_any a b va vb what fw 73 w.heap.size w.heap.size #[.pointer (some ⟨w.heap.size, 0, none⟩)] moreF (fun d g w' => FormI w.heap.size (flatB d) g w') none (w.alloc (.cells #[.slice none 0 0] 22)) (ha.below hal) (hb.below hal) ma mb la lb (by simp) eg hw (formBand _ _) ⟨.slice none 0 0, Blk.new' rfl, OwnsR.nil _ _, rfl, by simp [flatB]⟩
  obtain ⟨r1, r2⟩ := run_more (bandsP a b what) [] (by simp [moreF, flatB])
  rw [List.nil_append] at r1 r2
  have hE : madeE a b what = if (flatB (runM moreF [] (bandsP a b what))).length > 1024 then 4 else 0 := by
    unfold madeE formR
    by_cases h : (flatB (bandsP a b what)).length > 1024
    · rw [if_pos h, if_pos (r2 h)]
    · rw [if_neg h, r1 (by omega), if_neg h]
  have hLL : madeL a b what = if (flatB (runM moreF [] (bandsP a b what))).length > 1024 then [] else flatB (runM moreF [] (bandsP a b what)) := by
    unfold madeL formR
    by_cases h : (flatB (bandsP a b what)).length > 1024
    · rw [if_pos h, if_pos (r2 h)]
    · rw [if_neg h, r1 (by omega), if_neg h]
  rw [hE, hLL]
  replace BA : Calls Try.prog 57 #[va, vb, .func (.func fw) #[] #[], .func (.func 73) #[] #[.pointer (some ⟨w.heap.size, 0, none⟩)]] (w.alloc (.cells #[.slice none 0 0] 22)) (fun e w' => e = .returned (.tuple #[]) ∧ Below w.heap.size (w.alloc (.cells #[.slice none 0 0] 22)) w' ∧ ∃ g, FormI w.heap.size (flatB (runM moreF [] (bandsP a b what))) g w') := BA
  generalize flatB (runM moreF [] (bandsP a b what)) = D at BA ⊢
  obtain ⟨s1, c1, rfl, _⟩ := ha.shape
  obtain ⟨s2, c2, rfl, _⟩ := hb.shape
  clear hE hLL r1 r2 ha hb
  replace BA := Lib.hid BA
  replace hw := Lib.hid hw
  go_enter Try.func52, Try.ntmps52
  go_upto_region 3 with (first
    | (go_at_call 57; (with_reducible refine (BA.out).mono ?_); rintro e w2 ⟨rfl, hb2, g, hI⟩)
    | go_in)
  have hb02 : Below w.heap.size w w2 := hal.trans hb2
  obtain ⟨v, hbk, hown, _, hll⟩ := hI
  obtain ⟨st, cp, rfl⟩ := own_slice hown
  have hc0 := hbk.cell (o := 0) rfl
  have hcw := hbk.lt
  have hcut := own_less hown (B := w.heap.size) (by omega)
  have hcut2 : OwnsR w.heap.size w2 (.slice st D.length cp) D := hcut
  have hcut3 := CutR.of hcut2 rfl
  have hle : D.length ≤ cp := by
    have := hcut2
    unfold OwnsR at this
    exact (own_len this).1
  rcases hcut.2 with ⟨e, hq⟩ | ⟨g', cap', cur, e, hq⟩
  · injection e with e1 e2 e3
    subst e1
    subst e3
    have hD : D = [] := List.length_eq_zero_iff.1 e2
    subst hD
    rw [if_neg (by simp), if_neg (by simp)]
    clear hq e2 hcut hcut2 hown hbk hb2
    replace hcut3 := Lib.hid hcut3
    go_wp2
    go_ret2
    exact ⟨hb02, _, rfl, hcut3.out⟩
  · injection e with e1 e2 e3
    subst e1
    clear hq e2 e3 hcut hcut2 hown hbk hb2
    replace hcut3 := Lib.hid hcut3
    by_cases hbig : D.length > 1024
    · have hbig' : (1024 : Int) < D.length := by omega
      rw [if_pos hbig, if_pos hbig]
      go_wp2
      go_ret2
      exact ⟨hb02, _, rfl, CutR.nil _ _⟩
    · have hbig' : ¬ (1024 : Int) < D.length := by omega
      rw [if_neg hbig, if_neg hbig]
      go_wp2
      go_ret2
      exact ⟨hb02, _, rfl, hcut3.out⟩
theorem ask_two (a b : List Re) : askG [a, b] = askR a b := by
  unfold askG askG askR
  unfold askG
  by_cases h1 : chkR a = 0
  · rw [if_pos h1, if_pos h1]
    by_cases h2 : chkR b = 0
    · rw [if_pos h2, h2]
    · rw [if_neg h2]
  · rw [if_neg h1, if_neg h1]
theorem ask_one (a : List Re) : askG [a] = chkR a := by
  unfold askG askG
  by_cases h1 : chkR a = 0
  · rw [if_pos h1, h1]
  · rw [if_neg h1]
def WfL (l : List Re) : Prop := ∀ q ∈ l, q.Wf
/-- 'asked' of two lists, behind the block that holds them. -/
theorem asked2 (a b : List Re) (s1 s2 : Option Addr) (c1 c2 : Nat) (w : World) (ha : Row w.heap.size 4 Re.enc w (.slice s1 a.length c1) a) (hb : Row w.heap.size 4 Re.enc w (.slice s2 b.length c2) b) (wa : WfL a) (wb : WfL b) :
    Calls Try.prog 43 #[.slice (some ⟨w.heap.size, 0, none⟩) 2 2] (w.alloc (.cells #[.slice s1 a.length c1, .slice s2 b.length c2] 22)) fun e w' => e = .returned (.int .i64 (askR a b)) ∧ Below (w.alloc (.cells #[.slice s1 a.length c1, .slice s2 b.length c2] 22)).heap.size (w.alloc (.cells #[.slice s1 a.length c1, .slice s2 b.length c2] 22)) w' := by
  have hal : Below w.heap.size w (w.alloc (.cells #[.slice s1 a.length c1, .slice s2 b.length c2] 22)) := (Below.refl _ _).alloc (Nat.le_refl _) _
  have := asked_any [(.slice s1 a.length c1, a), (.slice s2 b.length c2, b)] w.heap.size 2 (w.alloc (.cells #[.slice s1 a.length c1, .slice s2 b.length c2] 22)) (Nat.le_refl _) ⟨rfl, by simp, fun i p hp => ?_⟩
  · rw [show sndL [(Value.slice s1 a.length c1, a), (Value.slice s2 b.length c2, b)] = [a, b] from rfl, ask_two] at this
    exact this
  · match i, hp with
    | 0, hp =>
      simp at hp
      subst hp
      exact ⟨by rw [World.cell?_alloc_at _ _ _ _ rfl]; rfl, (ha.below hal).mono (by simp), wa⟩
    | 1, hp =>
      simp at hp
      subst hp
      exact ⟨by rw [World.cell?_alloc_at _ _ _ _ rfl]; rfl, (hb.below hal).mono (by simp), wb⟩
    | i + 2, hp => simp at hp
theorem asked1 (a : List Re) (s1 : Option Addr) (c1 : Nat) (w : World) (ha : Row w.heap.size 4 Re.enc w (.slice s1 a.length c1) a) (wa : WfL a) :
    Calls Try.prog 43 #[.slice (some ⟨w.heap.size, 0, none⟩) 1 1] (w.alloc (.cells #[.slice s1 a.length c1] 22)) fun e w' => e = .returned (.int .i64 (chkR a)) ∧ Below (w.alloc (.cells #[.slice s1 a.length c1] 22)).heap.size (w.alloc (.cells #[.slice s1 a.length c1] 22)) w' := by
  have hal : Below w.heap.size w (w.alloc (.cells #[.slice s1 a.length c1] 22)) := (Below.refl _ _).alloc (Nat.le_refl _) _
  have := asked_any [(.slice s1 a.length c1, a)] w.heap.size 1 (w.alloc (.cells #[.slice s1 a.length c1] 22)) (by omega) ⟨rfl, by simp, fun i p hp => ?_⟩
  · rw [show sndL [(Value.slice s1 a.length c1, a)] = [a] from rfl, ask_one] at this
    exact this
  · match i, hp with
    | 0, hp =>
      simp at hp
      subst hp
      exact ⟨by rw [World.cell?_alloc_at _ _ _ _ rfl]; rfl, (ha.below hal).mono (by simp), wa⟩
    | i + 1, hp => simp at hp
end Go.Proofs.Ytlklmncjicgbgaa
