/-
  'All', walked.
-/
import Derived.Test.YtblneabjdbllbaaMotQ
import Derived.Test.YtblneabjdbllbaaShelf
import Derived.Shelf.Sort.Plain
import Derived.Shelf.Slices.In.SortNone
import Derived.Sort.OwnSortedInts
namespace Go.Proofs.Ytblneabjdbllbaa
open Go.RowKit
set_option linter.unusedVariables false
attribute [local go_sem] vwp vUpon_value vUpon_skip vUpon_enter vUpon_row
set_option linter.unusedSimpArgs false
open Go.Maps
def sorted (ns : List Int) : List Int := ns.mergeSort fun x y => decide (x ≤ y)
theorem sorted_len (ns : List Int) : (sorted ns).length = ns.length := List.length_mergeSort ns
theorem sort_own (ns : List Int) (v : Value) (w : World) (base : Nat) (h : w.ownsRow base 3 1 v ns.length (ns.map (Value.int .i64))) (hl : ns.length ≤ 4096) (hB : base ≤ w.heap.size) :
    Calls Try.prog 33 #[v] w fun e w' => e = .returned (.tuple #[]) ∧ w'.ownsRow base 3 1 v ns.length ((sorted ns).map (Value.int .i64)) ∧ Below base w w' ∧ w.heap.size ≤ w'.heap.size := by
  rcases h.2 with ⟨rfl, h0⟩ | ⟨g, cap, cur, rfl, hg, hh, hnc, hcm, hcur, htake⟩
  · have : ns = [] := List.length_eq_zero_iff.1 h0
    subst this
    refine (Try.slices_Sort_int_none none 0 w).mono ?_
    rintro e w' ⟨rfl, rfl⟩
    exact ⟨rfl, by rw [show sorted [] = [] by simp [sorted]]; exact h, Below.refl _ _, Nat.le_refl _⟩
  · have hgl : g < w.heap.size := Go.lt_of_block hh
    refine (Try.slices_Sort_int g 0 cap ns w (holds_of_blockI hh (by simpa using htake)) hgl (by omega)).mono ?_
    rintro e w' ⟨rfl, n, os, rfl⟩
    exact ⟨rfl, ownsRow_sortedI (sorted_len ns) hg hh hnc hcm hcur, (Below.refl _ _).grown (grownBy_sortedI _) hB (fun k e => by cases e; exact hg), (grownBy_sortedI _).size⟩
theorem own_grown {w w' : World} {base r : Nat} {e : TypeId} {size n : Nat} {v : Value} {xs : List Value} (h : w.ownsRow base e size v n xs) (hg : w.grownBy w' (some r)) (hr : r < base) : w'.ownsRow base e size v n xs := by
  obtain ⟨h1, h2⟩ := h
  refine ⟨h1, ?_⟩
  rcases h2 with h2 | ⟨g, cap, cur, hv, hgb, hh, r'⟩
  · exact .inl h2
  · exact .inr ⟨g, cap, cur, hv, hgb, by rw [hg.block g (Go.lt_of_block hh) (fun e => by injection e with e; omega)]; exact hh, r'⟩
theorem own_slice {w : World} {base : Nat} {e : TypeId} {size n : Nat} {v : Value} {xs : List Value} (h : w.ownsRow base e size v n xs) : ∃ s cap, v = .slice s n cap := by
  rcases h.2 with ⟨rfl, rfl⟩ | ⟨g, cap, cur, rfl, _⟩
  · exact ⟨_, _, rfl⟩
  · exact ⟨_, _, rfl⟩
theorem own_lt {w : World} {base : Nat} {e : TypeId} {size n : Nat} {v : Value} {xs : List Value} (h : w.ownsRow base e size v n xs) (g : Nat) (hg : v.ownBlock = some g) : g < w.heap.size := by
  rcases h.2 with ⟨rfl, _⟩ | ⟨g', cap, cur, rfl, _, hh, _⟩
  · cases hg
  · simp [Value.ownBlock] at hg
    subst hg
    exact Go.lt_of_block hh
/-- What 'All' tells. -/
def AllPost (ms : List Mo) (t : Int) (w : World) (e : Ending) (w' : World) : Prop :=
  Below w.heap.size w w' ∧ ((cntE ms t ≠ 0 ∧ e = .returned (.tuple #[.slice none 0 0, .slice none 0 0, .int .i64 (cntE ms t)])) ∨
    (cntE ms t = 0 ∧ ∃ v1 v2 b1 b2, e = .returned (.tuple #[v1, v2, .int .i64 0]) ∧ w.heap.size ≤ b1 ∧ b1 ≤ b2 ∧ b2 ≤ w'.heap.size ∧ (∀ g, v1.ownBlock = some g → g < b2) ∧
      w'.ownsRow b1 3 1 v1 (srt ms).length ((nodesN ms).map (Value.int .i64)) ∧ w'.ownsRow b2 3 1 v2 (srt ms).length ((placesN ms t).map (Value.int .i64))))
theorem zeroM (w : World) : (zeroValue 23).run Try.prog w = .ok (.agg #[.int .i64 (0), .int .i64 (0), .int .i64 (0), .int .i64 (0), .int .i64 (0), .int .u8 (0), .int .i64 (0), .bool (false)]) w := by kernel_rfl
theorem look_any {ms : List Mo} {B n : Nat} {w : World} (h : w.ownsMap Try.prog 3 Rm B n (Cm ms)) (m : Mo) (hm : Counts ms m) (hn : I64 m.node) : (Instr.lookup 55 (.map (some B)) (.int .i64 m.node) false).run Try.prog w = .ok (.agg #[.int .i64 ((m).node), .int .i64 ((m).fr), .int .i64 ((m).to), .int .i64 ((m).st), .int .i64 ((m).ln), .int .u8 ((m).es), .int .i64 ((m).ts), .bool ((m).bk)]) w := by
  have hkey : keyOf Try.prog 3 (.int .i64 m.node) = some (kOf m.node) := keyOf_int_mk Try.underlying3 (WalkArith.wf_i64 (by have := hn.1; have := hn.2; omega))
  obtain ⟨v, ps, hrun, hv⟩ := h.lookup lawK Try.underlying55 (zeroM w) (Rm_mk ⟨0, 0, 0, 0, 0, 0, 0, false⟩) hkey
  rw [atKey_any hm] at hv
  obtain ⟨m', rfl, e⟩ := Rm_inv hv
  simp only [Prod.mk.injEq, DataW.held.injEq] at e
  rw [hrun, e.1]
theorem infoI : (Try.prog.info? 3).map (fun i => (i.zero, i.size, i.bytes)) = some (some (.int .i64 0), 1, 8) := by kernel_rfl
set_option maxHeartbeats 2000000 in
theorem all_any (ms : List Mo) (v : Value) (t : Int) (w : World) (hl : Lst w v ms) (hw : ∀ m ∈ ms, Wf m) (ht : I64 t) : Calls Try.prog 18 #[v, .int .i64 t] w (AllPost ms t w) := by
  have CT := fun w hl => counted_any ms v t w hl hw ht
  replace CT := Lib.hid CT
  have hlh := Lib.hid hl
  clear hl
  obtain ⟨iI, hi0, hz0, hz1, hz2⟩ := info_parts infoI
  go_enter Try.func18, Try.ntmps18
  go_wp2_with (first
    | (go_at_call 32; (with_reducible refine (CT.out _ hlh.out).mono ?_); rintro e w1 ⟨hb1, hr1⟩; rcases hr1 with ⟨hne, rfl⟩ | ⟨h0, B, hB, rfl, hown⟩)
    | (at_range; refine wpList_range_own _ rfl _ 55 rfl 3 23 lawK Try.underlying55 _ B _ _ rfl hown ?_; intro w0 hrg0 hg0 hs0)
    | go_in)
  · have hnb : (cntE ms t == 0) = false := by simp [hne]
    (try go_wp2)
    go_ret3
    exact ⟨hb1, .inl ⟨hne, rfl⟩⟩
  · (try go_frame)
    have hlb : B < w1.heap.size := hown.lt
    have hb0 : Below w1.heap.size w1 w0 := grown_below hg0
    obtain ⟨hte, hok⟩ := cntE_zero hw h0
    obtain ⟨T0, T1⟩ := hte
    have hmany : ms.length ≤ 4096 := by
      unfold cntE at h0; split at h0
      · omega
      · omega
    have hz0' : w1.heap.size < w0.heap.size := by omega
    replace hok := Lib.hid hok
    clear hg0
    go_loopw [4] (fun s4 wr => ∃ (left : Lit → Bool) (cnt : Nat) (ns : List Int), wr.ranges Try.prog 3 Rm B w1.heap.size ms.length (Cm ms) left cnt ∧ Col ms left ns ∧ wr.ownsRow w0.heap.size 3 1 s4 ns.length (ns.map (Value.int .i64)) ∧ Below w1.heap.size w1 wr ∧ w0.heap.size ≤ wr.heap.size) (fun _ wr => wr.rangeLeft B w1.heap.size)
    case atStart =>
      refine ⟨_, _, [], hrg0, ⟨List.nodup_nil, fun n => ⟨fun h => (by cases h), ?_⟩⟩, World.ownsRow_nil _ _ _ _, hb0, Nat.le_refl _⟩
      rintro ⟨m, hm, _⟩
      rw [hm.1.has] at hm
      exact absurd hm.2 (by simp)
    case round =>
      obtain ⟨left, cnt, ns, hrg, hcol, hown4, hbe, hsz⟩ := hrel
      have hnl := hcol.len
      obtain ⟨s4, cap4, rfl⟩ := own_slice hown4
      go_wp2_with (first
        | (at_next; refine wpList_next_ranges _ rfl _ rfl 3 lawK Rm (Value.int .i64) (fun m : Mo => .agg #[.int .i64 ((m).node), .int .i64 ((m).fr), .int .i64 ((m).to), .int .i64 ((m).st), .int .i64 ((m).ln), .int .u8 ((m).es), .int .i64 ((m).ts), .bool ((m).bk)]) invK (fun v y h => (Rm_inv h).imp fun m h => h.1) B w1.heap.size ms.length _ _ _ rfl hrg ?_ ?_)
        | go_in)
      · intro _ hl0
        have hdone : sorted ns = nodesN ms := hcol.done hl0
        have hmap := hrg.owns
        replace hdone := Lib.hid hdone
        clear hl0 hcol
        go_wp2_with (first
          | (go_at_call 33; (with_reducible refine (sort_own ns _ _ w0.heap.size hown4 (by omega) hsz).mono ?_); rintro e w5 ⟨rfl, hown5, hb5, hz5⟩)
          | go_in)
        have hmap5 := own_below hmap hb5 (by omega)
        have hbe5 : Below w1.heap.size w1 w5 := hbe.trans (hb5.mono (by omega))
        have hb05 : Below w.heap.size w w5 := hb1.trans (hbe5.mono hb1.size)
        rw [hdone.out] at hown5
        have hnn : ns.length = (srt ms).length := by rw [← sorted_len ns, hdone.out]; simp [nodesN]
        have hB5 : B < w5.heap.size := by omega
        have hz50 := hb05.size
        replace hnn := Lib.hid hnn
        have hopen := fun h0 => own_open hown5 h0
        replace hopen := Lib.hid hopen
        replace hown5 := Lib.hid hown5
        clear hown4 hmap hrg hbe hb5 hbe5
        go_loopw [5, 36] (fun pl i wr => ∃ k : Nat, k ≤ ns.length ∧ i = .int .i64 k ∧ wr.ownsRow w5.heap.size 3 1 pl k (((placesN ms t).take k).map (Value.int .i64)) ∧ Below w5.heap.size w5 wr) (fun _ i _ => ns.length - (intOf i).toNat)
        case atStart => exact ⟨0, Nat.zero_le _, rfl, World.ownsRow_nil _ _ _ _, Below.refl _ _⟩
        case round =>
          obtain ⟨k, hk, rfl, hown, hbr⟩ := hrel
          have zr := hbr.size
          obtain ⟨hcr, hfr⟩ := bcell hbr
          obtain ⟨s5, cap5, rfl⟩ := own_slice hown
          by_cases hkn : k < ns.length
          · obtain ⟨g, cap', e, hg1, hg2, hg3, hg4, hcell⟩ := hopen.out (by omega)
            simp at e
            obtain ⟨rfl, rfl⟩ := e
            obtain ⟨m, hm⟩ : ∃ m, (srt ms)[k]? = some m := ⟨(srt ms)[k]'(by have := hnn.out; omega), List.getElem?_eq_getElem _⟩
            have hmc := (srt_mem ms m).1 (List.mem_of_getElem? hm)
            have c1 := (hcell k (.int .i64 m.node) (by simp [nodesN, hm])).1
            have hlook := look_any (own_below hmap5 hbr hB5) m hmc (hw m hmc.mem).node
            have A := fun w => at_may m t w (hok.out m hmc.mem) T0 T1
            have hp : (placesN ms t)[k]? = some (atV m t) := by simp [placesN, hm]
            have hkk : (k : Int) < ns.length := by omega
            replace A := Lib.hid A
            replace hp := Lib.hid hp
            clear hcell hm hmc
            go_wp2_with (first
              | (go_at_call 26; (with_reducible refine (A.out _).mono ?_); rintro e w6 ⟨rfl, hb6⟩; obtain ⟨hc6, hf6⟩ := bcell hb6; have hz6 := hb6.size; (try simp at hz6); (try have lt6 : w.heap.size < w6.heap.size := (by omega)))
              | (at_builtin; refine wpList_append_new rfl _ _ _ rfl w5.heap.size 3 iI _ 1 8 Try.underlying36 hi0 hz0 hz1 hz2 rfl (by omega) w6 1 _ _ _ _ (by rfl) (ownsRow_below hown hb6 (Nat.le_refl _)) (by rfl) rfl (by simp [Value.oneCell']) (by omega) (by unfold maxLen; omega) (by omega) ?_; intro v7 w7 hown7 hb7)
              | go_in)
            replace hown7 := Lib.hid hown7
            go_wp2
            go_roundw
            case rel =>
              refine ⟨k + 1, by omega, by go_num, ?_, (hbr.trans (hb6.mono zr)).trans hb7⟩
              rw [List.take_add_one, hp.out, List.map_append]
              exact hown7.out
            case measure => simp [intOf]; omega
          · obtain rfl : k = ns.length := by omega
            replace hown := Lib.hid hown
            go_wp2
            go_ret3
            refine ⟨hb05.trans (hbr.mono hz50), .inr ⟨h0, _, _, w0.heap.size, w5.heap.size, rfl, by omega, by omega, by omega, fun g hg => own_lt hown5.out g hg, ?_, ?_⟩⟩
            · have h := ownsRow_below hown5.out hbr (Nat.le_refl _)
              rw [← hnn.out]; exact h
            · have h := hown.out
              rw [List.take_of_length_le (by have := hnn.out; simp [placesN]; omega)] at h
              rw [← hnn.out]; exact h
      · intro x c kl y1 y2 w2 cnt2 hkey hlk hy hat hrg2 hlt hg2 hs2 hen
        have hyy := (Rm_mk c).symm.trans hy
        simp only [Option.some.injEq, Prod.mk.injEq] at hyy
        obtain ⟨rfl, rfl⟩ := hyy
        clear hy
        obtain rfl := Cm_key ms kl c (hat .nil)
        have hcc : Counts ms c := hat .nil
        have hC : ∀ m, (Counts ms m ∧ (left (kOf m.node) && !(kOf m.node).sameKey (kOf c.node)) = false) ↔ (Counts ms m ∧ left (kOf m.node) = false) ∨ m = c := by
          intro m
          constructor
          · rintro ⟨a, b⟩
            by_cases e : (kOf m.node).sameKey (kOf c.node) = true
            · exact .inr (a.one hcc (kOf_same e))
            · refine .inl ⟨a, ?_⟩
              simp only [Bool.not_eq_true] at e
              simpa [e] using b
          · rintro (⟨a, b⟩ | rfl)
            · exact ⟨a, by simp [b]⟩
            · exact ⟨hcc, by rw [kOf_self]; simp⟩
        have hcol2 := hcol.step (left' := fun kl => left kl && !kl.sameKey (kOf c.node)) hcc hlk hC
        have hnl2 := hcol2.len
        simp at hnl2
        have hown2 := own_grown hown4 hg2 hz0'
        have hbe2 : Below w1.heap.size w1 w2 := hbe.grown hg2 hbe.size (fun k e => by injection e with e; omega)
        have hsz2 : w0.heap.size ≤ w2.heap.size := Nat.le_trans hsz hg2.size
        replace hcol2 := Lib.hid hcol2
        obtain ⟨x2, ex1, ex2⟩ := Maps.keyOf_int_inv Try.underlying3 hkey
        obtain rfl : x = c.node := by
          have := ex2.1
          unfold kOf at this
          injection ex1 with _ ex1
          injection this with _ this
          omega
        have hle := hrg.left_eq
        replace hle := Lib.hid hle
        clear hC hat hs2 hown4 hcol hrg ex1 ex2 hkey
        go_wp2_with (first
          | (at_builtin; refine wpList_append_new rfl _ _ _ rfl w0.heap.size 3 iI _ 1 8 Try.underlying36 hi0 hz0 hz1 hz2 rfl (by omega) w2 1 _ _ _ _ (by rfl) hown2 (by rfl) rfl (by simp [Value.oneCell']) (by omega) (by unfold maxLen; omega) hsz2 ?_; intro v4 w4 hown4 hb4)
          | go_in)
        replace hown4 := Lib.hid hown4
        go_wp2
        go_roundw
        case rel =>
          refine ⟨_, cnt2, ns ++ [c.node], ranges_below hrg2 hb4 (by omega) (by omega), hcol2.out, ?_, hbe2.trans (hb4.mono (by omega)), Nat.le_trans hsz2 ?_⟩
          · rw [List.length_append, List.map_append]; exact hown4.out
          · exact hb4.size
        case measure =>
          rw [(ranges_below hrg2 hb4 (by omega) (by omega)).left_eq, hle.out]; exact hlt
end Go.Proofs.Ytblneabjdbllbaa
