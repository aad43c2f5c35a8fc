/-
  'lent' and 'kept' of the law.
-/
import Derived.Test.YtblneabjdbllbaaMotZ
namespace Go.Proofs.Ytblneabjdbllbaa
open Go.RowKit
set_option linter.unusedVariables false
attribute [local go_sem] vwp vUpon_value vUpon_skip vUpon_enter vUpon_row
set_option linter.unusedSimpArgs false
def encO (m : Mo) : List Value := [.int .i64 m.node, .int .i64 m.fr, .int .i64 m.to, .int .i64 m.st, .int .i64 m.ln, .int .u8 m.es, .int .i64 m.ts, .bool m.bk]
def flatM (ms : List Mo) : List Value := ms.flatMap encO
theorem flatM_len (ms : List Mo) : (flatM ms).length = ms.length * 8 := by
  induction ms with
  | nil => rfl
  | cons m ms ih =>
    have : flatM (m :: ms) = encO m ++ flatM ms := rfl
    rw [this, List.length_append, ih]
    simp [encO]; omega
theorem flatM_get : ∀ (ms : List Mo) (p : Nat), (flatM ms)[p]? = (ms[p / 8]?).bind (fun m => (encO m)[p % 8]?)
  | [], p => by simp [flatM]
  | m :: ms, p => by
    have h : flatM (m :: ms) = encO m ++ flatM ms := rfl
    rw [h]
    by_cases hp : p < 8
    · rw [List.getElem?_append_left (by simpa [encO] using hp), Nat.div_eq_of_lt hp, Nat.mod_eq_of_lt hp]; rfl
    · rw [List.getElem?_append_right (by simp [encO]; omega)]
      have e : (encO m).length = 8 := rfl
      rw [e, flatM_get ms (p - 8)]
      obtain ⟨q, rfl⟩ : ∃ q, p = q + 8 := ⟨p - 8, by omega⟩
      rw [Nat.add_sub_cancel, Nat.add_div_right _ (by omega), Nat.add_mod_right]
      rfl
theorem flatM_one (ms : List Mo) : ∀ u ∈ flatM ms, u.oneCell' = true := by
  intro u hu
  obtain ⟨m, _, h⟩ := List.mem_flatMap.1 hu
  simp only [encO, List.mem_cons, List.not_mem_nil, or_false] at h
  rcases h with rfl | rfl | rfl | rfl | rfl | rfl | rfl | rfl <;> rfl
theorem mem_enc {w : World} {b o : Nat} {m : Mo} (h : Mem w ⟨b, o, none⟩ m) (i : Nat) (u : Value) (hi : (encO m)[i]? = some u) : w.cell? ⟨b, o + i, none⟩ = some u := by
  obtain ⟨h0, h1, h2, h3, h4, h5, h6, h7⟩ := h
  have e : ∀ k, (⟨b, o, none⟩ : Addr).add k = ⟨b, o + k, none⟩ := fun k => by unfold Addr.add; split <;> simp_all
  rw [e] at h1 h2 h3 h4 h5 h6 h7
  have hl : i < 8 := (List.getElem?_eq_some_iff.1 hi).1
  rcases (by omega : i = 0 ∨ i = 1 ∨ i = 2 ∨ i = 3 ∨ i = 4 ∨ i = 5 ∨ i = 6 ∨ i = 7) with rfl | rfl | rfl | rfl | rfl | rfl | rfl | rfl <;> (obtain rfl := Option.some.inj hi; assumption)
theorem enc_mem {w : World} {b o : Nat} {m : Mo} (h : ∀ i u, (encO m)[i]? = some u → w.cell? ⟨b, o + i, none⟩ = some u) : Mem w ⟨b, o, none⟩ m := by
  have e : ∀ k, (⟨b, o, none⟩ : Addr).add k = ⟨b, o + k, none⟩ := fun k => by unfold Addr.add; split <;> simp_all
  unfold Mem
  rw [e, e, e, e, e, e, e]
  exact ⟨h 0 _ rfl, h 1 _ rfl, h 2 _ rfl, h 3 _ rfl, h 4 _ rfl, h 5 _ rfl, h 6 _ rfl, h 7 _ rfl⟩
/-- The cells of a list, one behind the other. -/
theorem lst_news {w : World} {a : Addr} {cap : Nat} {ms : List Mo} (h : Lst w (.slice (some a) ms.length cap) ms) (p : Nat) (u : Value) (hp : (flatM ms)[p]? = some u) : w.cell? (a.add p) = some u := by
  rw [flatM_get] at hp
  cases hm : ms[p / 8]? with
  | none => rw [hm] at hp; cases hp
  | some m =>
    rw [hm] at hp
    have h0 : 0 < ms.length := by have := (List.getElem?_eq_some_iff.1 hm).1; omega
    obtain ⟨b, o, cap', e, _, hel⟩ := lst_open h h0
    injection e with e1 _ _
    injection e1 with e1
    subst e1
    have := mem_enc (hel _ m hm).2 _ _ hp
    rw [show (⟨b, o, none⟩ : Addr).add p = ⟨b, o + p, none⟩ by unfold Addr.add; split <;> simp_all]
    rw [show o + p = o + p / 8 * 8 + p % 8 by omega]
    exact this
theorem lst_of_flat {w : World} {g cap N : Nat} {cur : Array Value} {e : TypeId} {ms : List Mo} {xs : List Value} (hb : w.heap[g]? = some (.cells cur e (0, 0))) (ht : cur.toList.take N = flatM ms ++ xs) (hn : ms.length ≤ maxLen) : Lst w (.slice (some ⟨g, 0, none⟩) ms.length cap) ms := by
  refine .inr ⟨⟨g, 0, none⟩, cap, rfl, fun _ => Go.lt_of_block hb, hn, fun j m hj => ?_⟩
  rw [show (⟨g, 0, none⟩ : Addr).add (j * 8) = ⟨g, j * 8, none⟩ by unfold Addr.add; split <;> simp_all]
  refine enc_mem fun i u hi => ?_
  have hl : i < 8 := (List.getElem?_eq_some_iff.1 hi).1
  have hjl := (List.getElem?_eq_some_iff.1 hj).1
  have h1 : (flatM ms)[j * 8 + i]? = some u := by
    rw [flatM_get, show (j * 8 + i) / 8 = j by omega, show (j * 8 + i) % 8 = i by omega, hj]; exact hi
  have h2 : (cur.toList.take N)[j * 8 + i]? = some u := by rw [ht, List.getElem?_append_left (by rw [flatM_len]; omega)]; exact h1
  rw [List.getElem?_take] at h2
  simp only [World.cell?, hb]
  split at h2
  · simpa using h2
  · cases h2
theorem infoMo : (Try.prog.info? 23).map (fun i => (i.zero, i.size, i.bytes)) = some (some (.agg #[.int .i64 (0), .int .i64 (0), .int .i64 (0), .int .i64 (0), .int .i64 (0), .int .u8 (0), .int .i64 (0), .bool (false)]), 8, 64) := by kernel_rfl
def mark : Mo := ⟨777, 0, 0, 0, 0, 0, 0, false⟩
/-- What 'lent' hands out: a copy of the list with a mark behind it. -/
def Lent (ms : List Mo) (w : World) (g cap : Nat) : Prop :=
  g < w.heap.size ∧ ms.length + 1 ≤ cap ∧ cap ≤ maxLen ∧ Lst w (.slice (some ⟨g, 0, none⟩) ms.length cap) ms ∧ w.cell? ⟨g, ms.length * 8, none⟩ = some (.int .i64 777)
theorem Lent.below {ms : List Mo} {w w' : World} {g cap : Nat} (h : Lent ms w g cap) (hb : Below w.heap.size w w') : Lent ms w' g cap :=
  ⟨Nat.lt_of_lt_of_le h.1 hb.size, h.2.1, h.2.2.1, h.2.2.2.1.below hb, by rw [(bcell hb).1 _ _ h.1]; exact h.2.2.2.2⟩
set_option maxHeartbeats 2000000 in
theorem lent_any (ms : List Mo) (v : Value) (w : World) (hl : Lst w v ms) (hmany : ms.length ≤ 6000) : Calls Try.prog 20 #[v] w fun e w' => Below w.heap.size w w' ∧ ∃ g cap, e = .returned (.slice (some ⟨g, 0, none⟩) ms.length cap) ∧ w.heap.size ≤ g ∧ Lent ms w' g cap := by
  obtain ⟨iM, hi0, hm0, hm1, hm2⟩ := info_parts infoMo
  obtain ⟨n, hn⟩ : ∃ n, ms.length = n := ⟨_, rfl⟩
  obtain ⟨s, cap, rfl, hmax⟩ := lst_slice' hl
  have hfl : (flatM ms).length = n * 8 := by rw [flatM_len, hn]
  have hnil : World.ownsRow w w.heap.size 23 8 (.slice none 0 0) 0 [] := World.ownsRow_nil _ _ _ _
  rcases s with _ | a
  · rcases hl with ⟨e, rfl⟩ | ⟨a, _, e, _⟩
    · injection e with _ e1 e2
      simp at hn
      subst hn
      subst e2
      clear hfl e1 hmax
      go_enter Try.func20, Try.ntmps20
      go_wp2_with (first
        | (at_builtin; refine wpList_append_new rfl _ _ _ rfl w.heap.size 23 iM _ 8 64 Try.underlying35 hi0 hm0 hm1 hm2 rfl (by omega) w 1 _ _ _ _ (by rfl) hnil (by rfl) rfl (by simp [Value.oneCell']) (by omega) (by unfold maxLen; omega) (Nat.le_refl _) ?_; intro v4 w4 hown4 hb4; rcases hown4.2 with ⟨_, hz⟩ | ⟨g4, cap4, cur4, rfl, hg4, hh4, hn4, hc4, hs4, ht4⟩; exact absurd hz (by omega))
        | go_in)
      go_ret
      refine ⟨hb4, g4, cap4, rfl, hg4, Go.lt_of_block hh4, hn4, hc4, .inr ⟨_, _, rfl, fun h => absurd h (by simp), Nat.zero_le _, fun j m h => by simp at h⟩, ?_⟩
      have h2 : (cur4.toList.take ((0 + 1) * 8))[0]? = some (.int .i64 777) := by rw [ht4]; rfl
      rw [List.getElem?_take] at h2
      simp only [World.cell?, hh4]
      simpa using h2
    · injection e with e _ _
      cases e
  · have hnews := fun p u h => lst_news hl p u h
    rw [hn] at hl hmax hmany ⊢
    replace hnews := Lib.hid hnews
    replace hn := Lib.hid hn
    replace hfl := Lib.hid hfl
    replace hl := Lib.hid hl
    go_enter Try.func20, Try.ntmps20
    go_wp2_with (first
      | (at_builtin; refine wpList_append_own _ rfl _ _ _ rfl w.heap.size 23 iM _ 8 64 Try.underlying35 hi0 hm0 hm1 hm2 rfl (by omega) _ 0 [] (by rfl) hnil a n cap (flatM ms) (by rfl) hfl.out hnews.out (flatM_one ms) (by unfold maxLen; omega) (by omega) (Nat.le_refl _) ?_; intro v3 w3 hown3 hg3 _; rw [Nat.zero_add, List.nil_append] at hown3; obtain ⟨s3, cap3, rfl⟩ := own_slice hown3)
      | (at_builtin; refine wpList_append_new rfl _ _ _ rfl w.heap.size 23 iM _ 8 64 Try.underlying35 hi0 hm0 hm1 hm2 rfl (by omega) w3 1 _ _ _ _ (by rfl) hown3 (by rfl) rfl (by simp [Value.oneCell']) (by omega) (by unfold maxLen; omega) hg3.size ?_; intro v4 w4 hown4 hb4; rcases hown4.2 with ⟨_, hz⟩ | ⟨g4, cap4, cur4, rfl, hg4, hh4, hn4, hc4, hs4, ht4⟩; exact absurd hz (by omega))
      | go_in)
    go_ret
    have hb3 : Below w.heap.size w w3 := (Below.refl _ _).grown hg3 (Nat.le_refl _) (fun k hk => by cases hk)
    refine ⟨hb3.trans hb4, g4, cap4, rfl, hg4, Go.lt_of_block hh4, by rw [hn.out]; exact hn4, hc4, ?_, ?_⟩
    · have := lst_of_flat (cap := cap4) hh4 ht4 (by rw [hn.out]; exact hmax)
      rw [hn.out] at this ⊢; exact this
    · have h2 : (cur4.toList.take ((n + 1) * 8))[n * 8]? = some (.int .i64 777) := by
        rw [ht4, List.getElem?_append_right (by rw [hfl.out]; omega), hfl.out, Nat.sub_self]; rfl
      rw [List.getElem?_take] at h2
      rw [hn.out]
      simp only [World.cell?, hh4]
      split at h2
      · simpa using h2
      · cases h2
end Go.Proofs.Ytblneabjdbllbaa
