/-
  Cells: a screen's text, by the program.
-/
import Derived.IntWalk
import Derived.Lib.AppendIntMem
import Derived.Lib.Hide
import Derived.Lib.LaidTab
import Derived.Test.YtffmomgmkpmpkaaGreatDoorProg
import Derived.Test.YtffmomgmkpmpkaaGreatDoorKp24
namespace Go.Proofs.YtffmomgmkpmpkaaGreatDoor
open Go.RowKit
set_option linter.unusedVariables false
attribute [local go_sem] vwp vUpon_value vUpon_skip vUpon_enter vUpon_row
set_option linter.unusedSimpArgs false
set_option linter.unusedVariables false
def halfB (a : Ce) : List UInt8 := if a.wide || a.tail then [32] else Lib.encodeRune a.rune
def txtRow : List Ce → List UInt8
  | [] => []
  | [a] => halfB a
  | a :: b :: r => if pairC a b then Lib.encodeRune a.rune ++ txtRow r else halfB a ++ txtRow (b :: r)
def rowC (N : Nat) (cs : List Ce) (y : Nat) : List Ce := (cs.drop (y * N)).take N
def txtGo (N : Nat) (cs : List Ce) : Nat → Nat → List UInt8
  | 0, _ => []
  | n + 1, y => txtRow (rowC N cs y) ++ ([10] ++ txtGo N cs n (y + 1))
def txtL (wd ht : Int) (cs : List Ce) : List UInt8 := txtGo wd.toNat cs ht.toNat 0
def txtS (wd ht : Int) (cs : List Ce) : ByteArray := if chkS wd ht cs = 0 then ⟨(txtL wd ht cs).toArray⟩ else ⟨#[]⟩
theorem may_rune {c : Ce} (h : mayC c = true) : -2147483648 ≤ c.rune ∧ c.rune ≤ 2147483647 := by
  have hv : validR c.rune = true := by
    cases hv : validR c.rune
    · simp [mayC, hv] at h
    · rfl
  unfold validR at hv
  simp only [Bool.or_eq_true, Bool.and_eq_true, decide_eq_true_eq] at hv
  omega
theorem enc_len4 (r : Int) : (Lib.encodeRune r).length ≤ 4 := by
  rw [← Lib.runeCells_length]; exact (Lib.runeCells_le r).2
theorem halfB_len (a : Ce) : (halfB a).length ≤ 4 := by
  unfold halfB; split
  · simp
  · exact enc_len4 _
theorem txtRow_len : ∀ l : List Ce, (txtRow l).length ≤ 4 * l.length
  | [] => by simp [txtRow]
  | [a] => by have := halfB_len a; simpa [txtRow] using this
  | a :: b :: r => by
    rw [txtRow]
    have h1 := halfB_len a
    have h2 := enc_len4 a.rune
    have h3 := txtRow_len r
    have h4 := txtRow_len (b :: r)
    split
    · rw [List.length_append, List.length_cons, List.length_cons]; omega
    · rw [List.length_append, List.length_cons]
      rw [List.length_cons] at h4 ⊢
      omega
theorem rowC_len (N : Nat) (cs : List Ce) (y : Nat) : (rowC N cs y).length ≤ N := by unfold rowC; exact List.length_take_le _ _
theorem txtGo_len (N : Nat) (cs : List Ce) : ∀ n y, (txtGo N cs n y).length ≤ n * (4 * N + 1)
  | 0, _ => by simp [txtGo]
  | n + 1, y => by
    have h1 := txtRow_len (rowC N cs y)
    have h2 := rowC_len N cs y
    have h3 := txtGo_len N cs n (y + 1)
    rw [txtGo, List.length_append, List.length_append, Nat.add_mul, Nat.one_mul]
    simp only [List.length_cons, List.length_nil]
    omega
theorem txtRow_pair {l : List Ce} {x : Nat} {c d : Ce} (hc : l[x]? = some c) (hd : l[x + 1]? = some d) (hp : pairC c d = true) : txtRow (l.drop x) = Lib.encodeRune c.rune ++ txtRow (l.drop (x + 2)) := by
  rw [drop_get hc, drop_get hd, txtRow, if_pos hp]
theorem txtRow_half {l : List Ce} {x : Nat} {c : Ce} (hc : l[x]? = some c) (hd : ∀ d, l[x + 1]? = some d → pairC c d = false) : txtRow (l.drop x) = halfB c ++ txtRow (l.drop (x + 1)) := by
  rw [drop_get hc]
  cases h : l[x + 1]? with
  | none =>
    have hl := List.getElem?_eq_none_iff.1 h
    rw [List.drop_eq_nil_of_le hl]
    simp [txtRow]
  | some d =>
    rw [drop_get h, txtRow, hd d h]
    simp
theorem rowC_get {N y x : Nat} {cs : List Ce} (hx : x < N) : (rowC N cs y)[x]? = cs[y * N + x]? := by
  unfold rowC
  rw [List.getElem?_take, if_pos hx, List.getElem?_drop]
abbrev IsB (B b : Nat) (l : List UInt8) (w : World) : Prop := Lib.IsBuilderF 107 5 B b (Lib.byteCells l) w
theorem isB_below {B b : Nat} {l : List UInt8} {w w' : World} {C : Nat} (h : IsB B b l w) (hb : Below C w w') (hC : w.heap.size ≤ C) : IsB B b l w' := by
  have key : ∀ p, Lib.BuilderAtF 107 5 B b p (Lib.byteCells l) w → Lib.BuilderAtF 107 5 B b p (Lib.byteCells l) w' := by
    rintro p ⟨hB, v, hk, hown, hne⟩
    have hlt : b < w.heap.size := by
      rcases Nat.lt_or_ge b w.heap.size with h1 | h1
      · exact h1
      · rw [Array.getElem?_eq_none h1] at hk; cases hk
    refine ⟨hB, v, by rw [hb.block b (by omega)]; exact hk, ?_, hne⟩
    obtain ⟨o1, o2⟩ := hown
    refine ⟨o1, ?_⟩
    rcases o2 with o2 | ⟨g, cap, cur, fz, hv, hg, hh, r⟩
    · exact .inl o2
    · have hgl : g < w.heap.size := by
        rcases Nat.lt_or_ge g w.heap.size with h1 | h1
        · exact h1
        · rw [Array.getElem?_eq_none h1] at hh; cases hh
      exact .inr ⟨g, cap, cur, fz, hv, hg, by rw [hb.block g (by omega)]; exact hh, r⟩
  exact h.elim (fun x => .inl (key _ x)) (fun x => .inr (key _ x))
theorem bytes_len (l : List UInt8) : (Lib.byteCells l).length = l.length := by simp [Lib.byteCells]
theorem bytes_app (l m : List UInt8) : Lib.byteCells l ++ Lib.byteCells m = Lib.byteCells (l ++ m) := by simp [Lib.byteCells]
theorem isB_of {B b : Nat} {l m : List UInt8} {w : World} {xs : List Value} (hx : xs = Lib.byteCells m) (h : Lib.BuilderAtF 107 5 B b (.pointer (some ⟨b, 0, none⟩)) (Lib.byteCells l ++ xs) w) : IsB B b (l ++ m) w := by
  subst hx
  rw [bytes_app] at h
  first | exact .inl h | exact .inr h
/-- The three writers, over bytes. -/
theorem wrB (B b : Nat) (l : List UInt8) (c : UInt8) (k : Int) (hk : (c.toNat : Int) = k) (w : World) (h : IsB B b l w) (hlen : l.length ≤ 100000000) (hBw : B ≤ w.heap.size) :
    Calls Tryz.prog 62 #[.pointer (some ⟨b, 0, none⟩), .int .u8 k] w fun e w' => e = .returned .nilIface ∧ IsB B b (l ++ [c]) w' ∧ Below B w w' := by
  subst hk
  exact (YtffmomgmkpmpkaaGreatDoor.bwriteB B b _ (c.toNat : Int) w h (by rw [bytes_len]; omega) hBw).mono fun _ _ ⟨he, h1, h2, _⟩ => ⟨he, isB_of (by simp [Lib.byteCells]) h1, h2⟩
theorem wrR (B b : Nat) (l : List UInt8) (r : Int) (w : World) (h : IsB B b l w) (hr0 : -2147483648 ≤ r) (hr1 : r ≤ 2147483647) (hlen : l.length ≤ 100000000) (hBw : B ≤ w.heap.size) :
    Calls Tryz.prog 61 #[.pointer (some ⟨b, 0, none⟩), .int .i32 r] w fun e w' => (∃ v, e = .returned v) ∧ IsB B b (l ++ Lib.encodeRune r) w' ∧ Below B w w' :=
  (YtffmomgmkpmpkaaGreatDoor.bwriteR B b _ r w h hr0 hr1 (by rw [bytes_len]; omega) hBw).mono fun _ _ ⟨he, h1, h2, _⟩ => ⟨⟨_, he⟩, isB_of (Lib.byteCells_encodeRune r).symm h1, h2⟩
set_option maxHeartbeats 16000000 in
set_option maxRecDepth 100000 in
theorem ctext_any (wd ht : Int) (cs : List Ce) (v : Value) (w : World) (h1 : I64 wd) (h2 : I64 ht) (hl : Row w.heap.size 11 Ce.enc w v cs) :
    Calls Tryz.prog 23 #[.agg #[.int .i64 (wd), .int .i64 (ht), v]] w fun e w' => e = .returned (.tuple #[.string (txtS wd ht cs), .int .i64 (chkS wd ht cs)]) ∧ Below w.heap.size w w' := by
  have C1 := fun w1 (hb : Below w.heap.size w w1) => ccheck_any wd ht cs v w1 h1 h2 ((hl.below hb).mono hb.size)
  obtain ⟨s0, cap, rfl, hmax⟩ := hl.shape
  obtain ⟨RC, hRC⟩ : ∃ R, txtS wd ht cs = R := ⟨_, rfl⟩
  rw [hRC]
  unfold txtS at hRC
  have CS := chkS_cases wd ht cs
  have CZ : chkS wd ht cs = 0 → _ := fun h => chkS_zero h
  obtain ⟨EE, hEE⟩ : ∃ E, chkS wd ht cs = E := ⟨_, rfl⟩
  rw [hEE] at C1 hRC CS CZ ⊢
  clear hEE
  have hopen := fun h0 => row_ce hl h0
  have hcap : cs.length ≤ cap := by
    obtain ⟨_, _, e, hc, _⟩ := hl
    injection e with _ _ e
    omega
  obtain ⟨n, en⟩ : ∃ n, cs.length = n := ⟨_, rfl⟩
  rw [en] at hopen C1 hmax hcap ⊢
  replace hopen := Lib.hid hopen
  clear hl
  go_enter Tryz.func23, Tryz.ntmps23
  go_upto_region 1 with fail
  obtain ⟨W, hW⟩ : ∃ W, w.alloc (.cells #[.int .i64 wd, .int .i64 ht, .slice s0 n cap] 26) = W := ⟨_, rfl⟩
  have B2 : Blk W w.heap.size [.int .i64 wd, .int .i64 ht, .slice s0 n cap] 26 := by rw [← hW]; exact Blk.new' rfl
  have hbw : Below w.heap.size w W := by rw [← hW]; exact belt
  rw [hW]
  clear hW
  have yB2 := B2.lt
  have q0 := B2.cell (o := 0) rfl
  have q1 := B2.cell (o := 1) rfl
  have q2 := B2.cell (o := 2) rfl
  replace C1 := Lib.hid (C1 W hbw)
  rcases CS with e0 | e0
  · subst e0
    rw [if_pos rfl] at hRC
    obtain ⟨hfit, hlen, hall⟩ := CZ rfl
    clear CZ
    obtain ⟨z0, z1, z2, z3, z4⟩ := fitsS_true.1 hfit
    obtain ⟨N, rfl⟩ : ∃ N : Nat, wd = N := ⟨wd.toNat, by omega⟩
    obtain ⟨M, rfl⟩ : ∃ M : Nat, ht = M := ⟨ht.toNat, by omega⟩
    unfold txtL at hRC
    rw [Int.toNat_natCast, Int.toNat_natCast] at hRC
    have hnm : n = N * M := by
      have h : ((cs.length : Nat) : Int) = ((N * M : Nat) : Int) := by rw [hlen, Int.natCast_mul]
      rw [← en]
      exact Int.ofNat.inj h
    have hnb : n ≤ 262144 := by
      have h : (n : Int) ≤ 262144 := by rw [← en, hlen]; exact z4
      omega
    obtain ⟨T, hT⟩ : ∃ T, txtGo N cs M 0 = T := ⟨_, rfl⟩
    have hTl : T.length ≤ 2000000 := by
      have := txtGo_len N cs M 0
      rw [hT, Nat.mul_add, Nat.mul_one, ← Nat.mul_assoc, Nat.mul_comm M 4, Nat.mul_assoc, Nat.mul_comm M N, ← hnm] at this
      omega
    rw [hT] at hRC
    subst hRC
    have hmay : ∀ c ∈ cs, -2147483648 ≤ c.rune ∧ c.rune ≤ 2147483647 := fun c hc => may_rune (List.all_eq_true.1 hall c hc)
    have hN16 : N ≤ 16384 := by omega
    have hM16 : M ≤ 16384 := by omega
    replace hnm := Lib.hid hnm
    replace hmay := Lib.hid hmay
    replace en := Lib.hid en
    clear hfit hlen hall z0 z1 z2 z3 z4 h1 h2
    go_upto_region 4 with (go_at_call 15; (with_reducible refine C1.out.mono ?_); rintro e w1 ⟨rfl, hb1⟩)
    replace B2 := B2.below hb1 yB2
    have hbw1 := hbw.trans (hb1.mono hbw.size)
    clear q0 q1 q2 hb1 yB2 C1 hbw
    have yB2 := B2.lt
    go_upto_region 5 with fail
    obtain ⟨b, hb⟩ : ∃ b, w1.heap.size = b := ⟨_, rfl⟩
    obtain ⟨W0, hW0⟩ : ∃ W0, w1.alloc (.cells #[.pointer none, .slice none 0 0] 107) = W0 := ⟨_, rfl⟩
    have hib : IsB b b [] W0 := by rw [← hW0, ← hb]; exact Lib.IsBuilderF.of (Lib.fresh_isBuilder _ _ _)
    have D2 : Blk W0 w.heap.size [.int .i64 N, .int .i64 M, .slice s0 n cap] 26 := by rw [← hW0]; exact B2.alloc _
    have hbw0 : Below w.heap.size w W0 := by rw [← hW0]; exact hbw1.alloc hbw1.size _
    have hzb := hbw1.size
    have yb0 : b < W0.heap.size := by rw [← hW0, ← hb]; simp
    rw [hW0]
    rw [hb] at yB2 hzb ⊢
    clear hW0 hb hbw1 B2
    have q1 := D2.cell (o := 1) rfl
    have hgo := Lib.hid (show [] ++ txtGo N cs (M - 0) 0 = T from hT)
    replace hib := Lib.hid hib
    clear hT
    go_wp2
    go_loopw [18] (fun yv wr => ∃ (y : Nat) (L : List UInt8), y ≤ M ∧ yv = .int .i64 y ∧ Hid (IsB b b L wr) ∧ Hid (L ++ txtGo N cs (M - y) y = T) ∧ Below b W0 wr ∧ b < wr.heap.size) (fun yv _ => M - (intOf yv).toNat)
    case atStart => exact ⟨0, [], Nat.zero_le _, rfl, hib, hgo, Below.refl _ _, yb0⟩
    case round =>
      clear hib hgo q1
      obtain ⟨y, L, hy, rfl, hib, hgo, hbr, hbb⟩ := hrel
      have E2 := D2.below hbr yB2
      have q0 := E2.cell (o := 0) rfl
      have q2 := E2.cell (o := 2) rfl
      have yE2 := E2.lt
      have zr := hbr.size
      by_cases hyM : y < M
      · have hyi : (y : Int) < M := by omega
        obtain ⟨P, hP⟩ : ∃ P, y * N = P := ⟨_, rfl⟩
        have hPn : P + N ≤ n := by
          have h := hnm.out
          have : (y + 1) * N ≤ M * N := Nat.mul_le_mul_right N (by omega)
          rw [Nat.add_mul, hP, Nat.one_mul, Nat.mul_comm M] at this
          omega
        have e1 : (y : Int) * (N : Int) = (P : Int) := by rw [← hP, Int.natCast_mul]
        have e2 : ((y : Int) + 1) * (N : Int) = ((P + N : Nat) : Int) := by rw [Int.add_mul, e1, Int.one_mul]; omega
        have e3 : ((P + N : Nat) : Int) ≤ (n : Int) := by omega
        have e4 : (P : Int) ≤ ((P + N : Nat) : Int) := by omega
        have e6 : ((P + N : Nat) : Int) ≤ (cap : Int) := by omega
        have e7 : P + N - P = N := by omega
        replace hP := Lib.hid hP
        go_upto_region 8 with fail
        go_cut [7] (fun v7 wx => ∃ sx cx, v7 = .slice sx N cx ∧ Hid (0 < N → ∃ g o, sx = some ⟨g, o, none⟩ ∧ g < w.heap.size ∧ ∀ x c, x < N → cs[P + x]? = some c → CMem w g (o + x * 11) c) ∧ wx = wr)
        case first =>
          by_cases hN : N = 0
          · by_cases e5 : cap = P
            · cases s0 with
              | none =>
                go_wp2
                go_meet
                case rel => exact ⟨_, _, by rw [hN], Lib.hid (fun h => absurd hN (by omega)), rfl⟩
              | some a =>
                go_wp2
                go_meet
                case rel => exact ⟨_, _, by rw [hN], Lib.hid (fun h => absurd hN (by omega)), rfl⟩
            · cases s0 with
              | none =>
                go_wp2
                go_meet
                case rel => exact ⟨_, _, by rw [hN], Lib.hid (fun h => absurd hN (by omega)), rfl⟩
              | some a =>
                go_wp2
                go_meet
                case rel => exact ⟨_, _, by rw [hN], Lib.hid (fun h => absurd hN (by omega)), rfl⟩
          · obtain ⟨g, o, cap', e, hg, _, _, hel⟩ := hopen.out (by omega)
            simp only [Value.slice.injEq] at e
            obtain ⟨rfl, _, rfl⟩ := e
            have e5 : ¬ cap = P := by omega
            replace hel := Lib.hid hel
            go_wp2
            go_meet
            case rel => exact ⟨_, _, by rw [e7], Lib.hid (fun _ => ⟨g, o + P * 11, rfl, hg, fun x c hx hc => by have := hel.out (P + x) c hc; rwa [Nat.add_mul, ← Nat.add_assoc] at this⟩), rfl⟩
        case rest =>
          obtain ⟨sx, cx, rfl, hrow, rfl⟩ := hcut
          clear q0 q2 yE2 E2 e1 e2 e3 e4 e6 e7
          obtain ⟨RW, hRW⟩ : ∃ l, rowC N cs y = l := ⟨_, rfl⟩
          have hgo2 : L ++ (txtRow RW ++ ([10] ++ txtGo N cs (M - (y + 1)) (y + 1))) = T := by
            have h := hgo.out
            rw [show M - y = (M - (y + 1)) + 1 by omega, txtGo, hRW] at h
            exact h
          have hRl : RW.length = N := by
            have h := en.out
            rw [← hRW]
            unfold rowC
            rw [List.length_take, List.length_drop, h, hP.out]
            omega
          have hRg : ∀ x, x < N → RW[x]? = cs[P + x]? := fun x hx => by rw [← hRW, rowC_get hx, hP.out]
          obtain ⟨Z, hZ⟩ : ∃ Z, ([10] : List UInt8) ++ txtGo N cs (M - (y + 1)) (y + 1) = Z := ⟨_, rfl⟩
          rw [hZ] at hgo2
          have hgo3 := Lib.hid (show L ++ (txtRow (RW.drop 0) ++ Z) = T from hgo2)
          replace hRW := Lib.hid hRW
          replace hRl := Lib.hid hRl
          replace hRg := Lib.hid hRg
          replace hZ := Lib.hid hZ
          clear hgo hgo2
          obtain ⟨W2, rfl⟩ : ∃ W2, W2 = wc := ⟨_, rfl⟩
          go_wp2
          go_loopw [8] (fun xv wr => ∃ (x : Nat) (L : List UInt8), x ≤ N ∧ xv = .int .i64 x ∧ Hid (IsB b b L wr) ∧ Hid (L ++ (txtRow (RW.drop x) ++ Z) = T) ∧ Below b W0 wr ∧ b < wr.heap.size) (fun xv _ => N - (intOf xv).toNat)
          case atStart => exact ⟨0, L, Nat.zero_le _, rfl, hib, hgo3, hbr, hbb⟩
          case round =>
            clear hib hgo3 hbr hbb zr
            obtain ⟨x, L, hx, rfl, hib, hgo, hbr, hbb⟩ := hrel
            obtain ⟨wv, hwv⟩ : ∃ wv : World, wv = wr := ⟨_, rfl⟩
            subst hwv
            have hLl : L.length ≤ 2000000 := by
              have h := congrArg List.length hgo.out
              rw [List.length_append] at h
              omega
            by_cases hxN : x < N
            · have hxi : (x : Int) < N := by omega
              obtain ⟨g, o, hsx, hg, hmem⟩ := hrow.out (by omega)
              subst hsx
              obtain ⟨c, hc⟩ : ∃ c, RW[x]? = some c := ⟨RW[x]'(by have := hRl.out; omega), List.getElem?_eq_getElem _⟩
              have hc' := hc
              rw [hRg.out x hxN] at hc'
              have hbx := hbw0.trans (hbr.mono hzb)
              have M0 := (hmem x c hxN hc').below hbx hg
              have hcr := hmay.out c (List.mem_of_getElem? hc')
              obtain ⟨j0, j1, j2, j3, j4, j5, j6, j7, j8, j9, j10⟩ := M0
              have yg : g < wv.heap.size := by have := hbx.size; omega
              go_upto_region 14 with fail
              obtain ⟨w3, hw3⟩ : ∃ w3, wv.alloc (.cells #[.int .i32 c.rune, .int .u8 c.col.r, .int .u8 c.col.g, .int .u8 c.col.b, .int .u8 c.col.a, .int .u8 c.back.r, .int .u8 c.back.g, .int .u8 c.back.b, .int .u8 c.back.a, .bool c.wide, .bool c.tail] 52) = w3 := ⟨_, rfl⟩
              obtain ⟨b9, hb9⟩ : ∃ b, wv.heap.size = b := ⟨_, rfl⟩
              have B9 : Blk w3 b9 [.int .i32 c.rune, .int .u8 c.col.r, .int .u8 c.col.g, .int .u8 c.col.b, .int .u8 c.col.a, .int .u8 c.back.r, .int .u8 c.back.g, .int .u8 c.back.b, .int .u8 c.back.a, .bool c.wide, .bool c.tail] 52 := by rw [← hw3, ← hb9]; exact Blk.new' rfl
              have hib3 : IsB b b L w3 := by rw [← hw3]; exact Lib.IsBuilderF.alloc hib.out _
              have hbr3 : Below b W0 w3 := by rw [← hw3]; exact hbr.alloc (by omega) _
              have hbx3 := hbw0.trans (hbr3.mono hzb)
              have z3 : w3.heap.size = wv.heap.size + 1 := by rw [← hw3]; simp
              rw [hw3, hb9]
              clear hw3 hib hbr hbx j0 j1 j2 j3 j4 j5 j6 j7 j8 j9 j10 yg
              have yg : g < w3.heap.size := by omega
              have y9 := B9.lt
              have y3b : b < w3.heap.size := by omega
              replace z3 := Lib.hid z3
              obtain ⟨k0, k1, k2, k3, k4, k5, k6, k7, k8, k9, k10⟩ := B9.c11
              replace hib3 := Lib.hid hib3
              by_cases hx1 : x + 1 < N
              · have hx1i : (x : Int) + 1 < N := by omega
                obtain ⟨d, hd⟩ : ∃ d, RW[x + 1]? = some d := ⟨RW[x + 1]'(by have := hRl.out; omega), List.getElem?_eq_getElem _⟩
                have hd' := hd
                rw [hRg.out (x + 1) hx1] at hd'
                obtain ⟨l0, l1, l2, l3, l4, l5, l6, l7, l8, l9, l10⟩ := (hmem (x + 1) d hx1 hd').below hbx3 hg
                have PR := cpair_any c d
                cases hp : pairC c d
                · rw [hp] at PR
                  replace PR := Lib.hid PR
                  refine rst (Held w3 0 []) ?_
                  repeat (first | (refine' wpSteady_do _ _ _; rotate_left; (focus rfl); (focus (intro w1 hS R hR; have hc := hS.cells; simp only [Cells] at hc; obtain ⟨hco, hfo⟩ := bcell hS.old; go_simp; (try go_bits); first | exact hR _ hS | (go_at_call 60; (with_reducible refine (PR.out _).mono ?_); rintro e w2 ⟨rfl, hb2⟩; exact ⟨_, rfl, hR _ (hS.below hb2)⟩))); simp only [pu]) | (refine spa ?_; simp only [pu]))
                  refine wpSteady_nil (fun uA hSA => ?_)
                  obtain ⟨hcA, hbA, hzA, hcoA, hfoA⟩ := hall hSA; clear hSA; simp only [Cells] at hcA
                  have hnp : ∀ d', RW[x + 1]? = some d' → pairC c d' = false := fun d' h => by rw [hd] at h; injection h with h; rw [← h]; exact hp
                  have hst := txtRow_half hc hnp
                  have hibA := isB_below hib3.out hbA (Nat.le_refl _)
                  have hbrA := hbr3.trans (hbA.mono (by omega))
                  have zA := hbA.size
                  cases hwi : c.wide
                  · rw [hwi] at k9
                    cases hta : c.tail
                    · rw [hta] at k10
                      have hhb := Lib.hid (show halfB c = Lib.encodeRune c.rune by unfold halfB; rw [hwi, hta]; rfl)
                      have WRR := Lib.hid (wrR b b L c.rune uA hibA hcr.1 hcr.2 (by omega) (by omega))
                      go_wp2_with (go_at_call 61; (with_reducible refine WRR.out.mono ?_); rintro e w5 ⟨⟨vq, rfl⟩, hib5, hb5⟩; replace hib5 := Lib.hid hib5)
                      (go_roundw
                       case rel => exact ⟨x + 1, L ++ halfB c, by omega, by go_num, Lib.hid (by have h := hib5.out; rwa [← hhb.out] at h), Lib.hid (by have h := hgo.out; rw [hst, List.append_assoc] at h; rw [List.append_assoc]; exact h), hbrA.trans hb5, by have := hb5.size; omega⟩
                       case measure => simp [intOf]; omega)
                    · rw [hta] at k10
                      have hhb := Lib.hid (show halfB c = [32] by unfold halfB; rw [hwi, hta]; rfl)
                      have WB := Lib.hid (wrB b b L 32 32 rfl uA hibA (by omega) (by omega))
                      go_wp2_with (go_at_call 62; (with_reducible refine WB.out.mono ?_); rintro e w5 ⟨rfl, hib5, hb5⟩; replace hib5 := Lib.hid hib5)
                      (go_roundw
                       case rel => exact ⟨x + 1, L ++ halfB c, by omega, by go_num, Lib.hid (by have h := hib5.out; rwa [← hhb.out] at h), Lib.hid (by have h := hgo.out; rw [hst, List.append_assoc] at h; rw [List.append_assoc]; exact h), hbrA.trans hb5, by have := hb5.size; omega⟩
                       case measure => simp [intOf]; omega)
                  · rw [hwi] at k9
                    have hhb := Lib.hid (show halfB c = [32] by unfold halfB; rw [hwi]; rfl)
                    have WB := Lib.hid (wrB b b L 32 32 rfl uA hibA (by omega) (by omega))
                    go_wp2_with (go_at_call 62; (with_reducible refine WB.out.mono ?_); rintro e w5 ⟨rfl, hib5, hb5⟩; replace hib5 := Lib.hid hib5)
                    (go_roundw
                     case rel => exact ⟨x + 1, L ++ halfB c, by omega, by go_num, Lib.hid (by have h := hib5.out; rwa [← hhb.out] at h), Lib.hid (by have h := hgo.out; rw [hst, List.append_assoc] at h; rw [List.append_assoc]; exact h), hbrA.trans hb5, by have := hb5.size; omega⟩
                     case measure => simp [intOf]; omega)
                · rw [hp] at PR
                  replace PR := Lib.hid PR
                  refine rst (Held w3 0 []) ?_
                  repeat (first | (refine' wpSteady_do _ _ _; rotate_left; (focus rfl); (focus (intro w1 hS R hR; have hc := hS.cells; simp only [Cells] at hc; obtain ⟨hco, hfo⟩ := bcell hS.old; go_simp; (try go_bits); first | exact hR _ hS | (go_at_call 60; (with_reducible refine (PR.out _).mono ?_); rintro e w2 ⟨rfl, hb2⟩; exact ⟨_, rfl, hR _ (hS.below hb2)⟩))); simp only [pu]) | (refine spa ?_; simp only [pu]))
                  refine wpSteady_nil (fun uA hSA => ?_)
                  obtain ⟨hcA, hbA, hzA, hcoA, hfoA⟩ := hall hSA; clear hSA; simp only [Cells] at hcA
                  have hst := txtRow_pair hc hd hp
                  have hibA := isB_below hib3.out hbA (Nat.le_refl _)
                  have hbrA := hbr3.trans (hbA.mono (by omega))
                  have zA := hbA.size
                  have WRR := Lib.hid (wrR b b L c.rune uA hibA hcr.1 hcr.2 (by omega) (by omega))
                  go_wp2_with (go_at_call 61; (with_reducible refine WRR.out.mono ?_); rintro e w5 ⟨⟨vq, rfl⟩, hib5, hb5⟩; replace hib5 := Lib.hid hib5)
                  go_roundw
                  case rel => exact ⟨x + 2, L ++ Lib.encodeRune c.rune, by omega, by go_num, hib5, Lib.hid (by have h := hgo.out; rw [hst, List.append_assoc] at h; rw [List.append_assoc]; exact h), hbrA.trans hb5, by have := hb5.size; omega⟩
                  case measure => simp [intOf]; omega
              · have hx1i : ¬ (x : Int) + 1 < N := by omega
                have hd : RW[x + 1]? = none := List.getElem?_eq_none (by have := hRl.out; omega)
                refine rst (Held w3 0 []) ?_
                repeat (first | (refine' sdo ?_; simp only [pu]) | (refine spa ?_; simp only [pu]))
                refine wpSteady_nil (fun uA hSA => ?_)
                obtain ⟨hcA, hbA, hzA, hcoA, hfoA⟩ := hall hSA; clear hSA; simp only [Cells] at hcA
                have hnp : ∀ d', RW[x + 1]? = some d' → pairC c d' = false := fun d' h => by rw [hd] at h; cases h
                have hst := txtRow_half hc hnp
                have hibA := isB_below hib3.out hbA (Nat.le_refl _)
                have hbrA := hbr3.trans (hbA.mono (by omega))
                have zA := hbA.size
                cases hwi : c.wide
                · rw [hwi] at k9
                  cases hta : c.tail
                  · rw [hta] at k10
                    have hhb := Lib.hid (show halfB c = Lib.encodeRune c.rune by unfold halfB; rw [hwi, hta]; rfl)
                    have WRR := Lib.hid (wrR b b L c.rune uA hibA hcr.1 hcr.2 (by omega) (by omega))
                    go_wp2_with (go_at_call 61; (with_reducible refine WRR.out.mono ?_); rintro e w5 ⟨⟨vq, rfl⟩, hib5, hb5⟩; replace hib5 := Lib.hid hib5)
                    (go_roundw
                     case rel => exact ⟨x + 1, L ++ halfB c, by omega, by go_num, Lib.hid (by have h := hib5.out; rwa [← hhb.out] at h), Lib.hid (by have h := hgo.out; rw [hst, List.append_assoc] at h; rw [List.append_assoc]; exact h), hbrA.trans hb5, by have := hb5.size; omega⟩
                     case measure => simp [intOf]; omega)
                  · rw [hta] at k10
                    have hhb := Lib.hid (show halfB c = [32] by unfold halfB; rw [hwi, hta]; rfl)
                    have WB := Lib.hid (wrB b b L 32 32 rfl uA hibA (by omega) (by omega))
                    go_wp2_with (go_at_call 62; (with_reducible refine WB.out.mono ?_); rintro e w5 ⟨rfl, hib5, hb5⟩; replace hib5 := Lib.hid hib5)
                    (go_roundw
                     case rel => exact ⟨x + 1, L ++ halfB c, by omega, by go_num, Lib.hid (by have h := hib5.out; rwa [← hhb.out] at h), Lib.hid (by have h := hgo.out; rw [hst, List.append_assoc] at h; rw [List.append_assoc]; exact h), hbrA.trans hb5, by have := hb5.size; omega⟩
                     case measure => simp [intOf]; omega)
                · rw [hwi] at k9
                  have hhb := Lib.hid (show halfB c = [32] by unfold halfB; rw [hwi]; rfl)
                  have WB := Lib.hid (wrB b b L 32 32 rfl uA hibA (by omega) (by omega))
                  go_wp2_with (go_at_call 62; (with_reducible refine WB.out.mono ?_); rintro e w5 ⟨rfl, hib5, hb5⟩; replace hib5 := Lib.hid hib5)
                  (go_roundw
                   case rel => exact ⟨x + 1, L ++ halfB c, by omega, by go_num, Lib.hid (by have h := hib5.out; rwa [← hhb.out] at h), Lib.hid (by have h := hgo.out; rw [hst, List.append_assoc] at h; rw [List.append_assoc]; exact h), hbrA.trans hb5, by have := hb5.size; omega⟩
                   case measure => simp [intOf]; omega)
            · obtain rfl : x = N := by omega
              have hxi : ¬ (x : Int) < x := by omega
              rw [List.drop_eq_nil_of_le (by have := hRl.out; omega)] at hgo
              have hg : L ++ Z = T := hgo.out
              rw [← hZ.out] at hg
              have WB := Lib.hid (wrB b b L 10 10 rfl wv hib.out (by omega) (by omega))
              go_wp2_with (go_at_call 62; (with_reducible refine WB.out.mono ?_); rintro e w4 ⟨rfl, hib4, hb4⟩; replace hib4 := Lib.hid hib4)
              go_roundw
              case rel => exact ⟨y + 1, L ++ [10], by omega, by go_num, hib4, Lib.hid (by rw [List.append_assoc]; exact hg), hbr.trans hb4, by have := hb4.size; omega⟩
              case measure => simp [intOf]; omega
      · obtain rfl : y = M := by omega
        have hyi : ¬ (y : Int) < y := by omega
        have hg : L = T := by have := hgo.out; rw [Nat.sub_self] at this; simpa [txtGo] using this
        subst hg
        have ST := Lib.hid (YtffmomgmkpmpkaaGreatDoor.bstring b b L wr hib.out (by omega))
        go_wp2_with (go_at_call 63; (with_reducible refine ST.out.mono ?_); rintro e w5 ⟨rfl, _, hb5, _⟩)
        go_ret2
        exact ⟨rfl, (hbw0.trans (hbr.mono hzb)).trans (hb5.mono hzb)⟩
  · subst e0
    rw [if_neg (by omega)] at hRC
    subst hRC
    go_wp2_with (go_at_call 15; (with_reducible refine C1.out.mono ?_); rintro e w1 ⟨rfl, hb1⟩)
    go_ret2
    exact ⟨rfl, hbw.trans (hb1.mono hbw.size)⟩
end Go.Proofs.YtffmomgmkpmpkaaGreatDoor

namespace Go.Proofs.YtffmomgmkpmpkaaGreatDoor
open Go.RowKit
set_option linter.unusedVariables false
attribute [local go_sem] vwp vUpon_value vUpon_skip vUpon_enter vUpon_row
set_option linter.unusedSimpArgs false
set_option linter.unusedVariables false
/-- The library's table of powers of ten lies in this world. -/
def DigT (w : World) : Prop := Lib.TabIs Tryz.prog w "internal/strconv.uint64pow10" .u64 Lib.pow10Tab
theorem DigT.below {w w' : World} {B : Nat} (h : DigT w) (hb : Below B w w') (hB : w.heap.size ≤ B) : DigT w' := by
  unfold DigT Lib.TabIs World.var? at *
  cases hg : Tryz.prog.globalNamed "internal/strconv.uint64pow10" with
  | none => rw [hg] at h; cases h
  | some g =>
    rw [hg] at h
    simp only [Option.bind_some] at h ⊢
    have hlt : g < w.heap.size := by
      rcases Nat.lt_or_ge g w.heap.size with h1 | h1
      · exact h1
      · rw [Array.getElem?_eq_none h1] at h; cases h
    rw [hb.block g (by omega)]
    exact h
theorem itoa_any (n : Int) (w : World) (ht : DigT w) (h0 : I64 n) : Calls Tryz.prog 70 #[.int .i64 n] w fun e w' => e = .returned (.string ⟨(Lib.itoa n).toArray⟩) ∧ Below w.heap.size w w' :=
  (Tryz.strconv_Itoa n h0.1 h0.2 w ht).mono fun _ _ ⟨he, k, os, hw⟩ => ⟨he, hw ▸ Lib.below_grow _ _ (Nat.le_refl _) _ _⟩
theorem dec_len : ∀ (k u : Nat), u < 10 ^ (k + 1) → (Lib.decDigits u).length ≤ k + 1
  | 0, u, h => by rw [Lib.decDigits, dif_pos (by omega)]; simp
  | k + 1, u, h => by
    by_cases hs : u < 10
    · rw [Lib.decDigits, dif_pos hs]; simp
    · rw [Lib.decDigits, dif_neg (by omega), List.length_append]
      have := dec_len k (u / 10) (by rw [Nat.pow_succ] at h; omega)
      simp
      omega
theorem itoa_len {n : Int} (h : I64 n) : (Lib.itoa n).length ≤ 21 := by
  unfold I64 at h
  have h2 := dec_len 19 n.natAbs (by omega)
  have h3 := dec_len 19 n.toNat (by omega)
  unfold Lib.itoa
  split <;> simp <;> omega
def semiL (ns : List Int) : List UInt8 := ns.flatMap fun n => 59 :: Lib.itoa n
def numsL : List Int → List UInt8
  | [] => []
  | n :: r => Lib.itoa n ++ semiL r
def escL (c : UInt8) (ns : List Int) : List UInt8 := [27, 91] ++ (numsL ns ++ [c])
theorem numsL_snoc {ns : List Int} {i : Nat} {x : Int} (hx : ns[i]? = some x) : numsL (ns.take (i + 1)) = numsL (ns.take i) ++ ((if 0 < i then [59] else []) ++ Lib.itoa x) := by
  cases ns with
  | nil => simp at hx
  | cons n r =>
    cases i with
    | zero => simp at hx; subst hx; simp [numsL, semiL]
    | succ j =>
      rw [List.getElem?_cons_succ] at hx
      rw [List.take_succ_cons, List.take_succ_cons, numsL, numsL, List.take_add_one, hx]
      simp [semiL]
theorem numsL_len : ∀ (ns : List Int), (∀ n ∈ ns, I64 n) → (numsL ns).length ≤ 22 * ns.length
  | [], _ => by simp [numsL]
  | n :: r, h => by
    have key : ∀ r : List Int, (∀ n ∈ r, I64 n) → (semiL r).length ≤ 22 * r.length := by
      intro r
      induction r with
      | nil => intro _; simp [semiL]
      | cons m t ih =>
        intro h
        have h1 := ih (fun x hx => h x (List.mem_cons_of_mem _ hx))
        have h2 := itoa_len (h m List.mem_cons_self)
        unfold semiL at h1 ⊢
        rw [List.flatMap_cons, List.length_append, List.length_cons, List.length_cons]
        omega
    have h1 := key r (fun x hx => h x (List.mem_cons_of_mem _ hx))
    have h2 := itoa_len (h n List.mem_cons_self)
    rw [numsL, List.length_append, List.length_cons]
    omega
/-! ### a writer over bytes -/
abbrev IsW (B b : Nat) (l : List UInt8) (tl : List Value) (w : World) : Prop := WrI B b (Lib.byteCells l) tl w
theorem IsW.below {B b : Nat} {l : List UInt8} {tl : List Value} {w w' : World} (h : IsW B b l tl w) (hw : Below w.heap.size w w') : IsW B b l tl w' := h.elim (fun x => .inl (x.below hw)) (fun x => .inr (x.below hw))
theorem IsW.blk {B b : Nat} {l : List UInt8} {tl : List Value} {w : World} (h : IsW B b l tl w) : B ≤ b ∧ b < w.heap.size ∧ tl.length = 8 ∧ ∃ cs, Blk w b cs 118 ∧ cs.length = 10 ∧ ∀ j, cs[j + 2]? = tl[j]? := by
  rcases h with h | h
  all_goals
    obtain ⟨hB, ht, v, hb, _⟩ := h
    exact ⟨hB, hb.lt, ht, _, hb, by simp [ht], fun j => rfl⟩
theorem blk_ne {w : World} {g b : Nat} {cs cs' : List Value} {T T' : TypeId} (h : Blk w g cs T) (h' : Blk w b cs' T') (hT : T ≠ T') : g ≠ b := by
  rintro rfl
  unfold Blk at h h'
  rw [h] at h'
  injection h' with h'
  injection h' with _ e
  exact hT e
theorem isW_of {B b : Nat} {l m : List UInt8} {tl xs : List Value} {w : World} (hx : xs = Lib.byteCells m) (h : Wr B b (.pointer (some ⟨b, 0, none⟩)) (Lib.byteCells l ++ xs) tl w) : IsW B b (l ++ m) tl w := by
  subst hx
  rw [bytes_app] at h
  exact .inr h
theorem wrtB (B b : Nat) (l : List UInt8) (tl : List Value) (c : UInt8) (k : Int) (hk : (c.toNat : Int) = k) (w : World) (h : IsW B b l tl w) (hlen : l.length ≤ 100000000) (hBw : B ≤ w.heap.size) :
    Calls Tryz.prog 62 #[.pointer (some ⟨b, 0, none⟩), .int .u8 k] w fun e w' => e = .returned .nilIface ∧ IsW B b (l ++ [c]) tl w' ∧ Below B w w' ∧ Lib.OthersKept 5 (some b) w w' := by
  subst hk
  exact (wr_byte B b _ tl (c.toNat : Int) w h (by rw [bytes_len]; omega) hBw).mono fun _ _ ⟨he, h1, h2, h3⟩ => ⟨he, isW_of (by simp [Lib.byteCells]) h1, h2, h3⟩
theorem wrtR (B b : Nat) (l : List UInt8) (tl : List Value) (r : Int) (w : World) (h : IsW B b l tl w) (hr0 : -2147483648 ≤ r) (hr1 : r ≤ 2147483647) (hlen : l.length ≤ 100000000) (hBw : B ≤ w.heap.size) :
    Calls Tryz.prog 61 #[.pointer (some ⟨b, 0, none⟩), .int .i32 r] w fun e w' => (∃ v, e = .returned v) ∧ IsW B b (l ++ Lib.encodeRune r) tl w' ∧ Below B w w' ∧ Lib.OthersKept 5 (some b) w w' :=
  (wr_rune B b _ tl r w h hr0 hr1 (by rw [bytes_len]; omega) hBw).mono fun _ _ ⟨he, h1, h2, h3⟩ => ⟨⟨_, he⟩, isW_of (Lib.byteCells_encodeRune r).symm h1, h2, h3⟩
theorem wrtS (B b : Nat) (l : List UInt8) (tl : List Value) (m : List UInt8) (w : World) (h : IsW B b l tl w) (hs : m.length ≤ 1000000) (hlen : l.length ≤ 100000000) (hBw : B ≤ w.heap.size) :
    Calls Tryz.prog 115 #[.pointer (some ⟨b, 0, none⟩), .string ⟨m.toArray⟩] w fun e w' => (∃ v, e = .returned v) ∧ IsW B b (l ++ m) tl w' ∧ Below B w w' ∧ Lib.OthersKept 5 (some b) w w' :=
  (wr_str B b _ tl ⟨m.toArray⟩ w h (by rw [bytes_len]; show _ + m.toArray.size ≤ _; simp; omega) hBw).mono fun _ _ ⟨he, h1, h2, h3⟩ => ⟨⟨_, he⟩, isW_of (by simp [Lib.byteCells, Lib.strCells]) h1, h2, h3⟩
set_option maxHeartbeats 4000000 in
set_option maxRecDepth 100000 in
theorem esc_any (B b : Nat) (l : List UInt8) (tl : List Value) (c : UInt8) (k : Int) (hk : (c.toNat : Int) = k) (ns : List Int) (g cap : Nat) (w : World) (h : IsW B b l tl w) (hg : Blk w g (ns.map (.int .i64 ·)) 3) (hBw : B ≤ w.heap.size)
  (hns : ∀ n ∈ ns, I64 n) (hl : l.length ≤ 50000000) (hn0 : ns.length ≤ 10) (hnc : ns.length ≤ cap) (hD : ∀ w', Below B w w' → DigT w') :
  Calls Tryz.prog 67 #[.pointer (some ⟨b, 0, none⟩), .int .u8 k, .slice (some ⟨g, 0, none⟩) ns.length cap] w fun e w' => e = .returned (.tuple #[]) ∧ IsW B b (l ++ escL c ns) tl w' ∧ Below B w w' ∧ Lib.OthersKept 5 (some b) w w' := by
 obtain ⟨n, hn⟩ : ∃ n, ns.length = n := ⟨_, rfl⟩
 have hgb : g ≠ b := by
  obtain ⟨_, _, _, cs, hbb, _⟩ := h.blk
  exact blk_ne hg hbb (by decide)
 rw [hn] at hn0 hnc ⊢
 replace hn := Lib.hid hn
 have hg' := Lib.hid hg
 have h' := Lib.hid h
 have hD' := Lib.hid hD
 clear hg h hD
 go_enter Tryz.func67, Tryz.ntmps67
 go_upto_region 2 with (go_at_call 115; (with_reducible refine (wrtS B b l tl [27, 91] _ h'.out (by decide) (by omega) hBw).mono ?_); rintro e w1 ⟨⟨v1, rfl⟩, h1, hb1, hk1⟩)
 replace h1 := Lib.hid h1
 replace hk1 := Lib.hid hk1
 go_loopw [14] (fun iv wr => ∃ i : Nat, i ≤ n ∧ iv = .int .i64 i ∧ Hid (IsW B b (l ++ [27, 91] ++ numsL (ns.take i)) tl wr) ∧ Below B w wr ∧ Hid (Lib.OthersKept 5 (some b) w wr)) (fun iv _ => n - (intOf iv).toNat)
 case atStart => exact ⟨0, Nat.zero_le _, rfl, by simpa [numsL] using h1, hb1, hk1⟩
 case round =>
  clear h1 hb1 hk1
  obtain ⟨i, hi, rfl, hw, hb, ho⟩ := hrel
  obtain ⟨W, rfl⟩ : ∃ W, W = wr := ⟨_, rfl⟩
  have zW := hb.size
  have hlen0 : (l ++ [27, 91] ++ numsL (ns.take i)).length ≤ 60000000 := by
   have := numsL_len (ns.take i) (fun x hx => hns x (List.mem_of_mem_take hx))
   rw [List.length_append, List.length_append]
   rw [List.length_take] at this
   simp only [List.length_cons, List.length_nil]
   omega
  by_cases hin : i < n
  ·have hii : (i : Int) < n := by omega
   obtain ⟨x, hx⟩ := get_at hn.out hin
   have hsn := numsL_snoc hx
   have hx64 := hns x (List.mem_of_getElem? hx)
   have hgW := hg'.out.others ho.out hgb (by decide)
   have gx := hgW.cell (o := i) (v := .int .i64 x) (by rw [List.getElem?_map, hx]; rfl)
   replace hgW := Lib.hid hgW
   replace hx := Lib.hid hx
   by_cases h0 : 0 < i
   ·have hi0 : (0 : Int) < i := by omega
    rw [if_pos h0] at hsn
    go_upto_region 6 with (go_at_call 62; (with_reducible refine (wrtB B b _ tl 59 59 rfl _ hw.out (by omega) (by omega)).mono ?_); rintro e W2 ⟨rfl, h3, hb3, hk3⟩)
    replace h3 := Lib.hid h3
    replace hk3 := Lib.hid hk3
    have z3 := hb3.size
    have hDW := hD'.out W2 (hb.trans hb3)
    have IT := Lib.hid (fun u (hu : Below W2.heap.size W2 u) => itoa_any x u (hDW.below hu (Nat.le_refl _)) hx64)
    have z4 := itoa_len hx64
    have z5 : (l ++ [27, 91] ++ numsL (ns.take i) ++ [59]).length ≤ 100000000 := by rw [List.length_append]; simp only [List.length_cons, List.length_nil]; omega
    refine wp_region_steady_then (Held W2 0 []) 5 (by kernel_rfl) (by kernel_rfl) (by decide) (by kernel_rfl) (by kernel_rfl) ⟨belt, (by (try simp) <;> omega), (by first | exact trivial | (simp only [Cells]; go_simp))⟩ ?_
    simp only [List.take_succ_cons, List.take_zero]
    repeat (first | (refine' wpSteady_do _ _ _; rotate_left; (focus rfl); (focus (intro w1 hS R hR; have hc := hS.cells; simp only [Cells] at hc; obtain ⟨hco, hfo⟩ := bcell hS.old; go_simp; (try go_bits); first | exact hR _ hS | (go_at_call 70; (with_reducible refine (IT.out _ hS.old).mono ?_); rintro e w2 ⟨rfl, hb2⟩; exact ⟨_, rfl, hR _ (hS.below hb2)⟩))); simp only [pu]) | (refine spa ?_; simp only [pu]))
    refine wpSteady_nil (fun uA hSA => ?_)
    obtain ⟨hcA, hbA, hzA, hcoA, hfoA⟩ := hall hSA; clear hSA; simp only [Cells] at hcA
    simp only [List.drop_succ_cons, List.drop_zero, List.drop_nil]
    have z6 := hbA.size
    go_wp2_with (go_at_call 115; (with_reducible refine (wrtS B b _ tl (Lib.itoa x) _ (h3.out.below hbA) (by omega) (by omega) (by omega)).mono ?_); rintro e w2 ⟨⟨v2, rfl⟩, h2, hb2, hk2⟩; replace h2 := Lib.hid h2; replace hk2 := Lib.hid hk2)
    go_roundw
    case rel => exact ⟨i + 1, by omega, by go_num, Lib.hid (by rw [hsn]; simpa using h2.out), (hb.trans hb3).trans ((hbA.mono (by omega)).trans hb2), Lib.hid (((ho.out.trans hk3.out).trans (oth_below hbA)).trans hk2.out)⟩
    case measure => simp [intOf]; omega
   ·have hi0 : ¬ (0 : Int) < i := by omega
    rw [if_neg h0] at hsn
    go_upto_region 6 with fail
    have hDW := hD'.out W hb
    have IT := Lib.hid (fun u (hu : Below W.heap.size W u) => itoa_any x u (hDW.below hu (Nat.le_refl _)) hx64)
    have z4 := itoa_len hx64
    refine wp_region_steady_then (Held W 0 []) 5 (by kernel_rfl) (by kernel_rfl) (by decide) (by kernel_rfl) (by kernel_rfl) ⟨belt, (by (try simp) <;> omega), (by first | exact trivial | (simp only [Cells]; go_simp))⟩ ?_
    simp only [List.take_succ_cons, List.take_zero]
    repeat (first | (refine' wpSteady_do _ _ _; rotate_left; (focus rfl); (focus (intro w1 hS R hR; have hc := hS.cells; simp only [Cells] at hc; obtain ⟨hco, hfo⟩ := bcell hS.old; go_simp; (try go_bits); first | exact hR _ hS | (go_at_call 70; (with_reducible refine (IT.out _ hS.old).mono ?_); rintro e w2 ⟨rfl, hb2⟩; exact ⟨_, rfl, hR _ (hS.below hb2)⟩))); simp only [pu]) | (refine spa ?_; simp only [pu]))
    refine wpSteady_nil (fun uA hSA => ?_)
    obtain ⟨hcA, hbA, hzA, hcoA, hfoA⟩ := hall hSA; clear hSA; simp only [Cells] at hcA
    simp only [List.drop_succ_cons, List.drop_zero, List.drop_nil]
    have z6 := hbA.size
    go_wp2_with (go_at_call 115; (with_reducible refine (wrtS B b _ tl (Lib.itoa x) _ (hw.out.below hbA) (by omega) (by omega) (by omega)).mono ?_); rintro e w2 ⟨⟨v2, rfl⟩, h2, hb2, hk2⟩; replace h2 := Lib.hid h2; replace hk2 := Lib.hid hk2)
    go_roundw
    case rel => exact ⟨i + 1, by omega, by go_num, Lib.hid (by rw [hsn]; simpa using h2.out), hb.trans ((hbA.mono (by omega)).trans hb2), Lib.hid ((ho.out.trans (oth_below hbA)).trans hk2.out)⟩
    case measure => simp [intOf]; omega
  ·obtain rfl : i = n := by omega
   have hii : ¬ (i : Int) < i := by omega
   rw [List.take_of_length_le (by rw [hn.out]; omega)] at hw hlen0
   go_wp2_with (go_at_call 62; (with_reducible refine (wrtB B b _ tl c k hk _ hw.out (by omega) (by omega)).mono ?_); rintro e w2 ⟨rfl, h2, hb2, hk2⟩)
   go_end0
   exact ⟨rfl, by simpa [escL] using h2, hb.trans hb2, ho.out.trans hk2⟩
end Go.Proofs.YtffmomgmkpmpkaaGreatDoor
