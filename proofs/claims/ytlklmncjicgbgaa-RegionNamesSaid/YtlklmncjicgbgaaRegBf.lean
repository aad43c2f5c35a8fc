/-
  region.Area and its closure.
-/
import Derived.Test.YtlklmncjicgbgaaRegBe
namespace Go.Proofs.Ytlklmncjicgbgaa
open Go.RowKit
set_option linter.unusedVariables false
attribute [local go_sem] vwp vUpon_value vUpon_skip vUpon_enter vUpon_row
set_option linter.unusedSimpArgs false
set_option linter.unusedVariables false
theorem widS_snoc {l : List Sp} {k : Nat} {s : Sp} (hs : l[k]? = some s) : widS (l.take (k + 1)) = widS (l.take k) + (s.2 - s.1) := by
  unfold widS
  rw [List.take_add_one, hs, List.map_append, sumI_append]
  simp [sumI]
theorem widS_split (l : List Sp) (k : Nat) : widS l = widS (l.take k) + widS (l.drop k) := by
  unfold widS
  rw [← sumI_append, ← List.map_append, List.take_append_drop]
theorem widS_pos : ∀ {l : List Sp}, (∀ s ∈ l, s.1 < s.2) → 0 ≤ widS l
  | [], _ => Int.le_refl _
  | s :: l, h => by
    have h1 := widS_pos (l := l) (fun t ht => h t (by simp [ht]))
    have h2 := h s (by simp)
    show 0 ≤ (s.2 - s.1) + widS l
    omega
theorem areaM_pos : ∀ {l : List Re}, Sane l → 0 ≤ areaM l
  | [], _ => Int.le_refl _
  | q :: l, h => by
    have h1 := areaM_pos (l := l) (fun t ht => h t (by simp [ht]))
    obtain ⟨h2, h3⟩ := h q (by simp)
    have := Int.mul_nonneg h2 h3
    show 0 ≤ q.wd * q.ht + areaM l
    omega
def AreaI (c : Nat) (A : Int) (g : Option Nat) (w : World) : Prop := Blk w c [.int .i64 A] 3 ∧ g = none
theorem area1_any (y h A : Int) (vl : Value) (l : List Sp) (c : Nat) (w : World) (hI : Blk w c [.int .i64 A] 3) (hrow : RowX c none 2 encS w vl l) (h0 : 0 < h) (h1 : h ≤ 32768) (hA : 0 ≤ A) (hT : A + widS l * h ≤ 1073741824) (hc : CanS l) (hin : ∀ s ∈ l, InM s.1 ∧ InM s.2) (hln : l.length ≤ 200000) :
    Calls Try.prog 58 #[.int .i64 y, .int .i64 h, vl, .pointer (some ⟨c, 0, none⟩)] w fun e w' => e = .returned (.bool true) ∧ Blk w' c [.int .i64 (A + widS l * h)] 3 ∧ Kept c none w w' := by
  obtain ⟨s0, cap, rfl, hmax⟩ := hrow.1.shape
  obtain ⟨n, en⟩ : ∃ n, l.length = n := ⟨_, rfl⟩
  rw [en] at hmax hln hrow ⊢
  have hp := hc.all_pos
  have hmono : ∀ k, widS (l.take k) * h ≤ widS l * h := fun k => by
    have e := widS_split l k
    have h2 := widS_pos (l := l.drop k) (fun s hs => hp s (List.mem_of_mem_drop hs))
    exact Int.mul_le_mul_of_nonneg_right (by omega) (by omega)
  have hnon : ∀ k, 0 ≤ widS (l.take k) * h := fun k => Int.mul_nonneg (widS_pos (fun s hs => hp s (List.mem_of_mem_take hs))) (by omega)
  obtain ⟨T, hTe⟩ : ∃ T, widS l * h = T := ⟨_, rfl⟩
  have hst : Blk w c [.int .i64 (A + widS (l.take 0) * h)] 3 := by simpa [widS, sumI] using hI
  rw [hTe] at hT hmono ⊢
  clear hI hc
  replace en := Lib.hid en
  replace hrow := Lib.hid hrow
  replace hin := Lib.hid hin
  replace hst := Lib.hid hst
  replace hp := Lib.hid hp
  replace hmono := Lib.hid hmono
  replace hnon := Lib.hid hnon
  replace hTe := Lib.hid hTe
  go_enter Try.func58, Try.ntmps58
  go_wp2
  go_loopw [12] (fun iv wr => ∃ k : Nat, k ≤ n ∧ iv = .int .i64 k ∧ Hid (Blk wr c [.int .i64 (A + widS (l.take k) * h)] 3) ∧ Hid (Kept c none w wr)) (fun iv _ => n - (intOf iv).toNat)
  case atStart => exact ⟨0, Nat.zero_le _, rfl, hst, Lib.hid (Kept.of (Below.refl _ _))⟩
  case round =>
    obtain ⟨k, hk, rfl, hbk, hkp⟩ := hrel
    clear hst
    have hcw := hbk.out.lt
    have hc0 := hbk.out.cell (o := 0) rfl
    have hf0 := hbk.out.free 0
    have hkz := hkp.out.size
    by_cases hkn : k < n
    · have hx := hrow.out.kept hkp.out (gb' := none) (fun k hk => by cases hk)
      have hopen := row_sp hx.1
      rw [en.out] at hopen
      obtain ⟨b, o, cap', e, hb, _, _, hel⟩ := hopen (by omega)
      simp at e
      obtain ⟨rfl, rfl⟩ := e
      obtain ⟨s, hs⟩ := get_at en.out hkn
      obtain ⟨j0, j1⟩ := hel k s hs
      obtain ⟨⟨a0, a1⟩, ⟨b0, b1⟩⟩ := hin.out s (List.mem_of_getElem? hs)
      have hps := hp.out s (List.mem_of_getElem? hs)
      have hws := widS_snoc hs
      have m1 := hmono.out k
      have m2 := hnon.out k
      have m3 := hmono.out (k + 1)
      obtain ⟨x1, x2⟩ := s
      simp only at j0 j1 a0 a1 b0 b1 hps hws
      rw [hws, Int.add_mul] at m3
      have hws' : widS (l.take (k + 1)) * h = widS (l.take k) * h + (x2 - x1) * h := by rw [hws, Int.add_mul]
      generalize widS (l.take k) * h = P at *
      have m4 : 0 ≤ (x2 - x1) * h := Int.mul_nonneg (by omega) (by omega)
      have hkk : (k : Int) < n := by omega
      replace hws' := Lib.hid hws'
      clear hs hel hopen hx hws
      have m5 : (x2 - x1) * h ≤ 1073741824 := by omega
      have m6 : A + P + (x2 - x1) * h ≤ 1073741824 := by omega
      go_wp2
      go_roundw
      case rel =>
        refine ⟨k + 1, by omega, by go_num, Lib.hid ?_, Lib.hid ?_⟩
        · rw [hws'.out, ← Int.add_assoc]
          exact ((hbk.out.set 0 _).alloc _)
        · have hsc := (Below.refl 0 wr).setCell (p := ⟨c, 0, none⟩) (Nat.zero_le _) (.int .i64 (A + P + (x2 - x1) * h))
          have hal := (Below.refl 0 (wr.setCell ⟨c, 0, none⟩ (.int .i64 (A + P + (x2 - x1) * h)))).alloc (Nat.zero_le _) (.cells #[.int .i64 x1, .int .i64 x2] 63)
          refine hkp.out.trans (g2 := none) ⟨hal.os.trans hsc.os, hal.tape.trans hsc.tape, hal.output.trans hsc.output, Nat.le_trans hsc.size hal.size, fun k' hk' hc' _ => ?_⟩ (fun x hx => by cases hx)
          rw [Below.heap_alloc _ _ _ (Nat.lt_of_lt_of_le hk' hsc.size), Below.heap_setCell _ _ _ _ hc']
      case measure => simp [intOf]; omega
    · obtain rfl : k = n := by omega
      rw [List.take_of_length_le (by have := en.out; omega), hTe.out] at hbk
      go_wp2
      go_ret
      exact ⟨rfl, hbk.out, hkp.out⟩
def moreT (d : List Bd) : Bool := true
theorem run_true : ∀ (r d : List Bd), runM moreT d r = d ++ r
  | [], d => by simp [runM]
  | t :: r, d => by
    unfold runM
    rw [show moreT (d ++ [t]) = true from rfl, if_pos rfl, run_true r (d ++ [t])]
    simp
theorem flatB_area (d : List Bd) (y h : Int) (l : List Sp) : areaM (flatB (d ++ [(y, h, l)])) = areaM (flatB d) + widS l * h := by
  rw [flatB_one, areaM_append, areaM_rects]
theorem pre_area {a : List Re} (ma : MayL a) {d r : List Bd} (h : d ++ r = bandsP a [] 1) : 0 ≤ areaM (flatB d) ∧ areaM (flatB d) ≤ 1073741824 := by
  have h1 := area_le ma mayL_nil 1
  have hs := form_sane ma.sane sane_nil 1
  unfold formR at h1 hs
  rw [← h, flatB_append] at h1 hs
  rw [areaM_append] at h1
  have h2 := areaM_pos (l := flatB r) (fun q hq => hs q (by simp [hq]))
  have h3 := areaM_pos (l := flatB d) (fun q hq => hs q (by simp [hq]))
  omega
theorem areaBand (c : Nat) {a : List Re} (ma : MayL a) : Band 58 #[.pointer (some ⟨c, 0, none⟩)] c c moreT (bandsP a [] 1) (fun d g w => AreaI c (areaM (flatB d)) g w) where
  enters := enters_of Try.func58 (by kernel_rfl) rfl
  le := Nat.le_refl _
  first := rfl
  at_ := fun h => ⟨h.1.lt, fun k hk => by rw [h.2] at hk; cases hk⟩
  stay := fun h hb => ⟨h.1.below hb h.1.lt, h.2⟩
  call := fun {d g w} y h vl l hI hrow _ hy hh h0 hc hin hln hr => by
    obtain ⟨r, hr⟩ := hr
    rw [run_true] at hr
    obtain ⟨hI, rfl⟩ := hI
    have h1 := pre_area ma hr
    have h2 := pre_area ma (d := d ++ [(y, h, l)]) (r := r) (by rw [← hr]; simp)
    rw [flatB_area] at h2
    obtain ⟨y0, y1⟩ := hy
    obtain ⟨z0, z1⟩ := hh
    have := area1_any y h _ vl l c w hI hrow h0 (by omega) h1.1 h2.2 hc hin hln
    refine this.mono ?_
    rintro e w' ⟨rfl, hb, hk⟩
    exact ⟨none, rfl, ⟨by rw [flatB_area]; exact hb, rfl⟩, hk, fun k hk => by cases hk⟩
set_option maxHeartbeats 1000000 in
theorem rarea_any (a : List Re) (va : Value) (w : World) (ha : Row w.heap.size 4 Re.enc w va a) (wa : WfL a) :
    Calls Try.prog 28 #[va] w fun e w' => e = .returned (.tuple #[.int .i64 (areaE a), .int .i64 (chkR a)]) ∧ Below w.heap.size w w' := by
  obtain ⟨s1, c1, rfl, hmax⟩ := ha.shape
  have AS := asked1 a s1 c1 w ha wa
  have hal : Below w.heap.size w (w.alloc (.cells #[.slice s1 a.length c1] 22)) := (Below.refl _ _).alloc (Nat.le_refl _) _
  unfold areaE
  by_cases h0 : chkR a = 0
  · rw [if_pos h0]
    rw [h0] at AS ⊢
    obtain ⟨ma, la⟩ := chkR_may h0
    have BA : ∀ w1, Below w.heap.size w w1 → Calls Try.prog 57 #[.slice s1 a.length c1, .slice none 0 0, .func (.func 40) #[] #[], .func (.func 58) #[] #[.pointer (some ⟨w1.heap.size, 0, none⟩)]] (w1.alloc (.cells #[.int .i64 0] 3)) (fun e w' => e = .returned (.tuple #[]) ∧ Below w1.heap.size (w1.alloc (.cells #[.int .i64 0] 3)) w' ∧ ∃ g, AreaI w1.heap.size (areaM (formR a [] 1)) g w') := fun w1 h => by
      have hal1 : Below w1.heap.size w1 (w1.alloc (.cells #[.int .i64 0] 3)) := (Below.refl _ _).alloc (Nat.le_refl _) _
      have := bands_any a [] _ (.slice none 0 0) 1 40 58 w1.heap.size w1.heap.size #[.pointer (some ⟨w1.heap.size, 0, none⟩)] moreT (fun d g w' => AreaI w1.heap.size (areaM (flatB d)) g w') none (w1.alloc (.cells #[.int .i64 0] 3)) (((ha.below h).mono h.size).below hal1) (nilRow _ _) ma mayL_nil (by omega) (by simp) (by simp) eg_either hw_either (by rw [run_true]; exact areaBand _ ma) ⟨Blk.new' rfl, rfl⟩
      rw [run_true, List.nil_append] at this
      exact this
    generalize areaM (formR a [] 1) = A at BA ⊢
    replace AS := Lib.hid AS
    replace BA := Lib.hid BA
    clear ha
    go_enter Try.func28, Try.ntmps28
    go_upto_region 5 with (first
      | (go_at_call 43; (with_reducible refine (AS.out).mono ?_); rintro e w1 ⟨rfl, hb1⟩; have hb01 := hal.trans (hb1.mono hal.size))
      | go_in)
    have BA2 := BA.out w1 hb01
    replace BA2 := Lib.hid BA2
    clear BA
    have z1 := hb01.size
    go_wp2_with (first
      | (go_at_call 57; (with_reducible refine (BA2.out).mono ?_); rintro e w2 ⟨rfl, hb2, g, hI, _⟩; have hc0 := hI.cell (o := 0) rfl)
      | go_in)
    go_ret2
    exact ⟨rfl, hb01.trans ((((Below.refl _ _).alloc (Nat.le_refl _) _).trans hb2).mono z1)⟩
  · rw [if_neg h0]
    have h0' : (chkR a == 0) = false := by simp [h0]
    have h0n : (chkR a != 0) = true := by simp [h0]
    generalize chkR a = E at *
    replace AS := Lib.hid AS
    clear ha
    go_enter Try.func28, Try.ntmps28
    go_wp2_with (first
      | (go_at_call 43; (with_reducible refine (AS.out).mono ?_); rintro e w1 ⟨rfl, hb1⟩; have hb01 := hal.trans (hb1.mono hal.size))
      | go_in)
    go_ret2
    exact ⟨rfl, hb01⟩
end Go.Proofs.Ytlklmncjicgbgaa
