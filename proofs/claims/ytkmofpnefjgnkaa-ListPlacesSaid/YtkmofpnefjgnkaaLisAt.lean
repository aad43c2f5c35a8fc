/-
  The law's 'at': the strokes that show at a place.
-/
import Derived.Test.YtkmofpnefjgnkaaPlaG
namespace Go.Proofs.Ytkmofpnefjgnkaa
open Go.RowKit
set_option linter.unusedVariables false
attribute [local go_sem] vwp vUpon_value vUpon_skip vUpon_enter vUpon_row
set_option linter.unusedSimpArgs false
set_option linter.unusedVariables false
theorem kind_err {s : St} (h : errS s = 0) : drB s = true ∨ s.kind = 4 ∨ s.kind = 5 := by
  unfold errS at h
  split at h
  · cases h
  · rename_i hh
    have h1 : mis1 s = false := by
      cases hm : mis1 s
      · rfl
      · exact absurd (by rw [hm, Bool.true_or]) hh
    unfold mis1 at h1
    simp only [Bool.or_eq_false_iff, decide_eq_false_iff_not] at h1
    unfold drB
    simp only [decide_eq_true_eq]
    omega
theorem infoBo : (Try.prog.info? 4).map (fun i => (i.zero, i.size, i.bytes)) = some (some (.bool false), 1, 1) := by kernel_rfl
def OwnsB (base : Nat) (w : World) (v : Value) (bs : List Bool) : Prop := w.ownsRow base 4 1 v bs.length (bs.map Value.bool)
theorem own_pop1 {base : Nat} {w : World} {e : TypeId} {g n cap : Nat} {xs : List Value} {u : Value} (h : w.ownsRow base e 1 (.slice (some ⟨g, 0, none⟩) (n + 1) cap) (n + 1) (xs ++ [u])) : w.ownsRow base e 1 (.slice (some ⟨g, 0, none⟩) n cap) n xs := by
  obtain ⟨hl, h2⟩ := h
  have hx : xs.length = n := by simp at hl; omega
  rcases h2 with ⟨h0, _⟩ | ⟨g', cap', cur, hv, hg, hh, hnc, hcm, hcur, htake⟩
  · cases h0
  · injection hv with hv _ hc
    injection hv with hv
    injection hv with hv
    subst hc
    subst hv
    refine ⟨by omega, .inr ⟨g, cap, cur, rfl, hg, hh, by omega, hcm, hcur, ?_⟩⟩
    have e1 : xs = (xs ++ [u]).take (n * 1) := by rw [Nat.mul_one, List.take_append_of_le_length (by omega), List.take_of_length_le (by omega)]
    rw [e1, ← htake, List.take_take]
    congr 1
    omega
theorem own_len1 {base : Nat} {w : World} {e : TypeId} {s : Option Addr} {n m cap : Nat} {xs : List Value} (h : w.ownsRow base e 1 (.slice s m cap) n xs) : m = n := by
  rcases h.2 with ⟨h0, h1⟩ | ⟨g', cap', cur, hv, _⟩
  · injection h0 with _ h2; omega
  · injection hv
def AtPost (B : Nat) (R : List St) (w : World) (e : Ending) (w' : World) : Prop := ∃ v', e = .returned v' ∧ Owns B w' v' R ∧ Below B w w'
def AtRel (w : World) (xs : List St) (R : List St) (px py : Int) (k : Nat) (b : Bool) (cl : List Bool) (out : List St) (ov cv : Value) (wr : World) : Prop :=
  Owns (w.heap.size + 1) wr ov out ∧ OwnsB (w.heap.size + 1) wr cv cl.reverse ∧ Apart ov cv ∧ atGo px py (xs.drop k) b cl out = R ∧ chkGo cl.length (xs.drop k) = 0 ∧ cl.length ≤ k ∧ out.length ≤ k ∧ Blk wr w.heap.size [.int .i64 px, .int .i64 py] 24 ∧ Below w.heap.size w wr
theorem at_end {x y : Int} {b : Bool} {cl : List Bool} {out R : List St} {xs : List St} {k : Nat} (h : atGo x y (xs.drop k) b cl out = R) (hk : xs.length ≤ k) : out = R := by
  rw [List.drop_eq_nil_of_le hk] at h
  exact h
theorem flatT_snoc {l : List St} {t : St} {cs : List Value} (h : cs = t.enc) : l.flatMap St.enc ++ cs = (l ++ [t]).flatMap St.enc := by
  subst h
  rw [List.flatMap_append]
  simp
set_option maxHeartbeats 16000000 in
set_option maxRecDepth 100000 in
theorem at_any (xs : List St) (v : Value) (px py : Int) (w : World) (hl : Row w.heap.size 15 St.enc w v xs) (k1 : ∀ s ∈ xs, s.Wf) (hc : chkL xs = 0) (hpx : I64 px) (hpy : I64 py) :
    Calls Try.prog 25 #[v, .agg #[.int .i64 px, .int .i64 py]] w (AtPost w.heap.size (atL xs px py) w) := by
  obtain ⟨iS, hs0, hs1, hs2, hs3⟩ := info_parts infoSt
  obtain ⟨iB, hb0, hb1, hb2, hb3⟩ := info_parts infoBo
  obtain ⟨s0, cap, rfl, hmax⟩ := hl.shape
  have hopen := fun h0 => row_st hl h0
  have hz := fun s hs => chk_mem hc s hs
  have l1 := chk_len hc
  have hg0 := chk_go0 hc
  obtain ⟨n, hn⟩ : ∃ n, xs.length = n := ⟨_, rfl⟩
  obtain ⟨R, hR⟩ : ∃ R, atL xs px py = R := ⟨_, rfl⟩
  rw [hn] at hopen hmax l1 ⊢
  rw [hR]
  clear hl hc
  replace hopen := Lib.hid hopen
  replace hz := Lib.hid hz
  replace k1 := Lib.hid k1
  replace hn := Lib.hid hn
  replace hg0 := Lib.hid hg0
  replace hR := Lib.hid hR
  obtain ⟨px0, px1⟩ := id hpx
  obtain ⟨py0, py1⟩ := id hpy
  go_enter Try.func25, Try.ntmps25
  go_wp2
  go_loopg [5, 6, 7, 8] n (fun gg ov cv bv iv wr => ∃ (k : Nat) (b : Bool) (cl : List Bool) (out : List St), k ≤ n ∧ n - k ≤ gg ∧ iv = .int .i64 k ∧ bv = .bool b ∧ AtRel w xs R px py k b cl out ov cv wr)
  case atStart => exact ⟨0, true, [], [], Nat.zero_le _, by omega, rfl, rfl, World.ownsRow_nil _ _ _ _, World.ownsRow_nil _ _ _ _, Apart.none _ _ _, hR.out, by simpa using hg0.out, Nat.le_refl _, Nat.le_refl _, Blk.new' rfl, (by repeat (first | exact Below.refl _ _ | assumption | refine Below.drew ?_ | refine Below.alloc ?_ (by (try simp) <;> omega) _ | refine Below.setCell ?_ (by (try simp) <;> omega) _))⟩
  case round =>
    obtain ⟨k, b, cl, out, hk, hgg, rfl, rfl, hrel⟩ := hrel
    by_cases hkn : k < n
    · obtain ⟨hown, hclo, hap, hgo, hch, hcl, hol, hblk, hbr⟩ := hrel
      have zr := hbr.size
      obtain ⟨b0, p, cap', e, hb, _, _, hel⟩ := hopen.out (by omega)
      simp at e
      obtain ⟨rfl, rfl⟩ := e
      obtain ⟨s, hs⟩ : ∃ s, xs[k]? = some s := ⟨xs[k]'(by have := hn.out; omega), List.getElem?_eq_getElem _⟩
      obtain ⟨g0, g1, g2, g3, g4, g5, g6, g7, g8, g9, g10, g11, g12, g13, g14⟩ := hel k s hs
      obtain ⟨hcr, hfr⟩ := bcell hbr
      rw [drop_get hs] at hch
      obtain ⟨he0, hop, hch'⟩ := chk_iff.1 hch
      rw [drop_get hs, at_cons] at hgo
      have hmr := err_may he0
      have hws := k1.out s (List.mem_of_getElem? hs)
      have H := fun w => ghas_any s.rect px py w hmr hpx hpy
      have hbd := may_bd hmr
      have hsum := may_sum hmr
      obtain ⟨ih, hhb⟩ : ∃ q, hasR s.rect px py = q := ⟨_, rfl⟩
      rw [hhb] at H hgo
      have P0 := hblk.cell (o := 0) rfl
      have P1 := hblk.cell (o := 1) rfl
      have ylt := hblk.lt
      have hkk : (k : Int) < n := by omega
      have yb : b0 < wr.heap.size := by omega
      have li := Lib.hid (own_in hown)
      have lc := Lib.hid (own_in hclo)
      have hol' : out.length ≤ 16384 := by omega
      have hcl' : cl.length ≤ 16384 := by omega
      have ha0 : 0 ≤ s.col.a := hws.2.2.1.2.2.2.1
      have hkd : s.kind = 4 ∨ s.kind = 5 ∨ s.kind ≤ 3 := by
        rcases kind_err he0 with h | h
        · unfold drB at h; simp at h; exact .inr (.inr h)
        · rcases h with h | h
          · exact .inl h
          · exact .inr (.inl h)
      have hk0 := err_kind he0 hws
      have hse : [.int .u8 s.kind, .int .i64 s.rect.x, .int .i64 s.rect.y, .int .i64 s.rect.wd, .int .i64 s.rect.ht, .int .u8 s.col.r, .int .u8 s.col.g, .int .u8 s.col.b, .int .u8 s.col.a, .int .u8 s.back.r, .int .u8 s.back.g, .int .u8 s.back.b, .int .u8 s.back.a, .string s.text, .int .i64 s.node] = s.enc := rfl
      replace hse := Lib.hid hse
      clear hel hch
      replace hs := Lib.hid hs
      replace H := Lib.hid H
      replace hown := Lib.hid hown
      replace hclo := Lib.hid hclo
      replace hap := Lib.hid hap
      replace hblk := Lib.hid hblk
      replace he0 := Lib.hid he0
      replace hws := Lib.hid hws
      replace hmr := Lib.hid hmr
      replace hhb := Lib.hid hhb
      replace hgo := Lib.hid hgo
      replace hch' := Lib.hid hch'
      replace hop := Lib.hid hop
      go_upto_region 9 with (first
        | (go_at_call 26; (with_reducible refine (H.out _).mono ?_); rintro e w2 ⟨rfl, hb2⟩)
        | go_in)
      obtain ⟨hc2, hf2⟩ := bcell hb2
      have z2 := hb2.size
      simp at z2
      have y2 : wr.heap.size < w2.heap.size := by omega
      have hr2 : Below wr.heap.size wr w2 := (by repeat (first | exact Below.refl _ _ | assumption | refine Below.drew ?_ | refine Below.alloc ?_ (by (try simp) <;> omega) _ | refine Below.setCell ?_ (by (try simp) <;> omega) _ | (refine Below.trans ?_ (Below.mono (by assumption) (by (try simp) <;> omega)))))
      have hown2 := Lib.hid (hown.out.below hr2 (Nat.le_refl _))
      have hclo2 := Lib.hid (show OwnsB (w.heap.size + 1) w2 u6 cl.reverse from ownsRow_below hclo.out hr2 (Nat.le_refl _))
      have hblk2 := Lib.hid (hblk.out.below hr2 ylt)
      have hbw2 := hbr.trans (hr2.mono zr)
      have zw2 := hbw2.size
      have ylt2 : w.heap.size < w2.heap.size := by omega
      have hbs : Blk w2 wr.heap.size [.int .u8 s.kind, .int .i64 s.rect.x, .int .i64 s.rect.y, .int .i64 s.rect.wd, .int .i64 s.rect.ht, .int .u8 s.col.r, .int .u8 s.col.g, .int .u8 s.col.b, .int .u8 s.col.a, .int .u8 s.back.r, .int .u8 s.back.g, .int .u8 s.back.b, .int .u8 s.back.a, .string s.text, .int .i64 s.node] 45 := Blk.below (Blk.new' rfl) hb2 (by simp)
      have g'0 := hbs.cell (o := 0) rfl
      have g'1 := hbs.cell (o := 1) rfl
      have g'2 := hbs.cell (o := 2) rfl
      have g'3 := hbs.cell (o := 3) rfl
      have g'4 := hbs.cell (o := 4) rfl
      have g'5 := hbs.cell (o := 5) rfl
      have g'6 := hbs.cell (o := 6) rfl
      have g'7 := hbs.cell (o := 7) rfl
      have g'8 := hbs.cell (o := 8) rfl
      have g'9 := hbs.cell (o := 9) rfl
      have g'10 := hbs.cell (o := 10) rfl
      have g'11 := hbs.cell (o := 11) rfl
      have g'12 := hbs.cell (o := 12) rfl
      have g'13 := hbs.cell (o := 13) rfl
      have g'14 := hbs.cell (o := 14) rfl
      have p'0 := hblk2.out.cell (o := 0) rfl
      have p'1 := hblk2.out.cell (o := 1) rfl
      clear hc2 hf2 P0 P1 hbs
      clear hown hclo hblk H hb2 hr2 hcr hfr g0 g1 g2 g3 g4 g5 g6 g7 g8 g9 g10 g11 g12 g13 g14 hopen hz k1 hn hg0 hR hs hmr hws hhb he0 hbr zr hb yb hmax
      by_cases q4 : s.kind = 4
      · as_aux_lemma =>
          have d4 : (s.kind == 4) = true := by simpa using q4
          have hgo4 := hgo.out
          rw [if_pos q4] at hgo4
          have e4 : opn cl.length s = ((cl.length + 1 : Nat) : Int) := by unfold opn; rw [if_pos q4]; omega
          have hch4 := hch'.out
          rw [e4] at hch4
          have lr : cl.reverse.length = cl.length := List.length_reverse
          have hclo4 := hclo2.out
          unfold OwnsB at hclo4
          rw [lr] at hclo4
          obtain ⟨m, hm⟩ : ∃ m, cl.length = m := ⟨_, rfl⟩
          rw [hm] at hclo4 hcl'
          replace hclo4 := Lib.hid hclo4
          replace hm := Lib.hid hm
          replace hgo4 := Lib.hid hgo4
          replace hch4 := Lib.hid hch4
          clear q4 e4 lr hgo hch'
          go_upto_region 14 with (first
            | (at_builtin; refine wpList_append_two rfl _ _ _ rfl (w.heap.size + 1) 4 iB _ 1 1 Try.underlying74 hb0 hb1 hb2 hb3 rfl (by omega) w2 1 _ _ _ _ (by rfl) hclo4.out (by rfl) rfl (by simp [Value.oneCell']) (by omega) (by unfold maxLen; omega) (by omega) ?_; intro v6 w6 hown6 hgr6 hat6 hb6)
            | go_in)
          have hbw6 := Lib.hid (hbw2.trans (hb6.mono (by omega)))
          have hblk6 := Lib.hid (hblk2.out.below hb6 (by omega))
          have hown6' := Lib.hid (show Owns (w.heap.size + 1) w6 u5 out from own_keep hown2.out hgr6 (fun g h1 h2 => hap.out g h1 h2))
          have hap6 : Apart u5 v6 := fun g h1 h2 => by
            rcases hat6 g h2 with h | h
            · exact hap.out g h1 h
            · have := (li.out g h1).2; omega
          replace hap6 := Lib.hid hap6
          have hclo6 : OwnsB (w.heap.size + 1) w6 v6 (b :: cl).reverse := by
            unfold OwnsB
            rw [List.reverse_cons, List.length_append, List.length_reverse, hm.out, List.map_append]
            exact hown6
          replace hclo6 := Lib.hid hclo6
          clear hown6 hgr6 hat6 hb6
          cases b
          · go_wp2
            go_roundg (n - (k + 1))
            case measure => omega
            case rel => exact ⟨k + 1, false, (false :: cl), out, by omega, by omega, by go_num, rfl, ⟨hown6'.out, hclo6.out, hap6.out, hgo4.out, hch4.out, by have := hm.out; simp; omega, by omega, hblk6.out, hbw6.out⟩⟩
          · cases ih
            · go_wp2
              go_roundg (n - (k + 1))
              case measure => omega
              case rel => exact ⟨k + 1, false, (true :: cl), out, by omega, by omega, by go_num, rfl, ⟨hown6'.out, hclo6.out, hap6.out, hgo4.out, hch4.out, by have := hm.out; simp; omega, by omega, hblk6.out, hbw6.out⟩⟩
            · go_wp2
              go_roundg (n - (k + 1))
              case measure => omega
              case rel => exact ⟨k + 1, true, (true :: cl), out, by omega, by omega, by go_num, rfl, ⟨hown6'.out, hclo6.out, hap6.out, hgo4.out, hch4.out, by have := hm.out; simp; omega, by omega, hblk6.out, hbw6.out⟩⟩
      have d4 : (s.kind == 4) = false := by simpa using q4
      by_cases q5 : s.kind = 5
      · as_aux_lemma =>
          have d5 : (s.kind == 5) = true := by simpa using q5
          cases cl with
          | nil =>
            have h1 := hop.out
            have h2 : opn ((([] : List Bool).length : Nat) : Int) s = -1 := by unfold opn; rw [if_neg q4, if_pos q5]; rfl
            omega
          | cons c cl =>
            have hgo5 := hgo.out
            rw [if_neg q4, if_pos q5] at hgo5
            have hgo5 : atGo px py (xs.drop (k + 1)) c cl out = R := hgo5
            have o5 : opn (((c :: cl).length : Nat) : Int) s = cl.length := by unfold opn; rw [if_neg q4, if_pos q5, List.length_cons]; omega
            have hch5 := hch'.out
            rw [o5] at hch5
            obtain ⟨M, hM⟩ : ∃ M, (c :: cl).length = M := ⟨_, rfl⟩
            have hM1 : cl.length + 1 = M := by rw [← hM]; simp
            have hclo5 := hclo2.out
            unfold OwnsB at hclo5
            rw [List.length_reverse, hM, List.reverse_cons, List.map_append] at hclo5
            rw [hM] at hcl hcl'
            obtain ⟨g, cap2, rfl, hg1, hg2, hg3, hg4, hgc⟩ := own_open hclo5 (by omega)
            have hcc := (hgc (M - 1) (.bool c) (by rw [List.getElem?_append_right (by simp; omega)]; simp; rw [show M - 1 - cl.length = 0 by omega]; rfl)).1
            have hpop : OwnsB (w.heap.size + 1) w2 (.slice (some ⟨g, 0, none⟩) (M - 1) cap2) cl.reverse := by
              unfold OwnsB
              rw [List.length_reverse, show cl.length = M - 1 by omega]
              refine own_pop1 (u := .bool c) ?_
              rw [show M - 1 + 1 = M by omega]
              exact hclo5
            have hap5 : Apart u5 (.slice (some ⟨g, 0, none⟩) (M - 1) cap2) := fun x h1 h2 => hap.out x h1 (by simpa [Value.ownBlock] using h2)
            have p1 : (0 : Int) ≤ (M : Int) - 1 := by omega
            have p2 : (1 : Int) ≤ M := by omega
            have p3 : (M : Int) - 1 ≤ cap2 := by omega
            have p4 : ((M : Int) - 1).toNat = M - 1 := by omega
            have p5 : (M : Int) - 1 < M := by omega
            have p6 : ¬ M = 0 := by omega
            have p7 : ((M : Int) == 0) = false := by simp; omega
            replace hpop := Lib.hid hpop
            replace hap5 := Lib.hid hap5
            replace hgo5 := Lib.hid hgo5
            replace hch5 := Lib.hid hch5
            replace hM1 := Lib.hid hM1
            clear hclo5 hclo2 hap hgo hch' hop o5 hM hgc q4 q5 lc
            go_wp2
            go_roundg (n - (k + 1))
            case measure => omega
            case rel => exact ⟨k + 1, c, cl, out, by omega, by omega, by go_num, rfl, ⟨hown2.out, hpop.out, hap5.out, hgo5.out, hch5.out, by have := hM1.out; omega, by omega, hblk2.out, hbw2⟩⟩
      have d5 : (s.kind == 5) = false := by simpa using q5
      have o3 : opn cl.length s = cl.length := by unfold opn; rw [if_neg q4, if_neg q5]
      have hgo3 := hgo.out
      rw [if_neg q4, if_neg q5] at hgo3
      have hch3 := hch'.out
      rw [o3] at hch3
      replace hch' := Lib.hid hch3
      replace hgo := hgo3
      clear hgo3 hch3 o3 hop
      by_cases q1 : s.kind = 1
      · all_goals
          have d1 : (s.kind == 1) = true := by simpa using q1
          cases b
          · simp only [Bool.false_and, Bool.false_eq_true, if_false] at hgo
            replace hgo := Lib.hid hgo
            clear q1 q4 q5
            as_aux_lemma =>
              go_wp2
              go_roundg (n - (k + 1))
              case measure => omega
              case rel => exact ⟨k + 1, false, cl, out, by omega, by omega, by go_num, rfl, ⟨hown2.out, hclo2.out, hap.out, hgo.out, hch'.out, by omega, by omega, hblk2.out, hbw2⟩⟩
          cases ih
          · simp only [Bool.and_false, Bool.false_eq_true, if_false] at hgo
            replace hgo := Lib.hid hgo
            clear q1 q4 q5
            as_aux_lemma =>
              go_wp2
              go_roundg (n - (k + 1))
              case measure => omega
              case rel => exact ⟨k + 1, true, cl, out, by omega, by omega, by go_num, rfl, ⟨hown2.out, hclo2.out, hap.out, hgo.out, hch'.out, by omega, by omega, hblk2.out, hbw2⟩⟩
          simp only [Bool.and_self, if_true] at hgo
          unfold paintP at hgo
          rw [if_pos q1] at hgo
          by_cases a1 : s.col.a = 255
          · rw [if_pos a1] at hgo
            replace hgo := Lib.hid hgo
            have f1 : (s.col.a == 255) = true := by simpa using a1
            have f2 : decide (0 < s.col.a) = true := by simp; omega
            clear q1 q4 q5 a1
            have hnil : w2.ownsRow (w.heap.size + 1) 45 15 (.slice none 0 0) 0 [] := World.ownsRow_nil _ _ _ _
            replace hnil := Lib.hid hnil
            go_wp2_with (first
              | (at_builtin; refine wpList_append_two rfl _ _ _ rfl (w.heap.size + 1) 45 iS _ 15 72 Try.underlying22 hs0 hs1 hs2 hs3 rfl (by omega) w2 1 _ _ _ _ (by rfl) hnil.out (by rfl) rfl (by simp [Value.oneCell']) (by omega) (by unfold maxLen; omega) (by omega) ?_; intro v6 w6 hown6 hgr6 hat6 hb6; replace hown6 := Lib.hid hown6; replace hgr6 := Lib.hid hgr6; replace hat6 := Lib.hid hat6)
              | go_in)
            replace hown6 := hown6.out
            replace hgr6 := hgr6.out
            replace hat6 := hat6.out
            have hbw6 := Lib.hid (hbw2.trans (hb6.mono (by omega)))
            have hblk6 := Lib.hid (hblk2.out.below hb6 (by omega))
            have hclo6 := Lib.hid (show OwnsB (w.heap.size + 1) w6 u6 cl.reverse from own_keep hclo2.out hgr6 (fun g h1 h2 => by cases h2))
            have hap6 : Apart v6 u6 := fun g h1 h2 => by
              rcases hat6 g h1 with h | h
              · cases h
              · have := (lc.out g h2).2; omega
            replace hap6 := Lib.hid hap6
            have hown6' : Owns (w.heap.size + 1) w6 v6 [s] := by
              unfold Owns
              rw [List.nil_append, hse.out] at hown6
              simpa using hown6
            replace hown6' := Lib.hid hown6'
            clear hown6 hgr6 hat6 hb6
            go_wp2
            go_roundg (n - (k + 1))
            case measure => omega
            case rel => exact ⟨k + 1, true, cl, [s], by omega, by omega, by go_num, rfl, ⟨hown6'.out, hclo6.out, hap6.out, hgo.out, hch'.out, by omega, by simp, hblk6.out, hbw6.out⟩⟩
          rw [if_neg a1] at hgo
          have f1 : (s.col.a == 255) = false := by simpa using a1
          by_cases a2 : 0 < s.col.a
          · rw [if_pos a2] at hgo
            replace hgo := Lib.hid hgo
            have f2 : decide (0 < s.col.a) = true := by simpa using a2
            clear q1 q4 q5 a1 a2
            go_wp2_with (first
              | (at_builtin; refine wpList_append_two rfl _ _ _ rfl (w.heap.size + 1) 45 iS _ 15 72 Try.underlying22 hs0 hs1 hs2 hs3 rfl (by omega) w2 1 _ _ _ _ (by rfl) hown2.out (by rfl) rfl (by simp [Value.oneCell']) (by omega) (by unfold maxLen; omega) (by omega) ?_; intro v6 w6 hown6 hgr6 hat6 hb6; replace hown6 := Lib.hid hown6; replace hgr6 := Lib.hid hgr6; replace hat6 := Lib.hid hat6)
              | go_in)
            replace hown6 := hown6.out
            replace hgr6 := hgr6.out
            replace hat6 := hat6.out
            have hbw6 := Lib.hid (hbw2.trans (hb6.mono (by omega)))
            have hblk6 := Lib.hid (hblk2.out.below hb6 (by omega))
            have hclo6 := Lib.hid (show OwnsB (w.heap.size + 1) w6 u6 cl.reverse from own_keep hclo2.out hgr6 (fun g h1 h2 => hap.out g h2 h1))
            have hap6 : Apart v6 u6 := fun g h1 h2 => by
              rcases hat6 g h1 with h | h
              · exact hap.out g h h2
              · have := (lc.out g h2).2; omega
            replace hap6 := Lib.hid hap6
            have hown6' : Owns (w.heap.size + 1) w6 v6 (out ++ [s]) := by
              unfold Owns
              rw [flatT_snoc hse.out] at hown6
              simpa using hown6
            replace hown6' := Lib.hid hown6'
            clear hown6 hgr6 hat6 hb6
            go_wp2
            go_roundg (n - (k + 1))
            case measure => omega
            case rel => exact ⟨k + 1, true, cl, (out ++ [s]), by omega, by omega, by go_num, rfl, ⟨hown6'.out, hclo6.out, hap6.out, hgo.out, hch'.out, by omega, by simp; omega, hblk6.out, hbw6.out⟩⟩
          · rw [if_neg a2] at hgo
            replace hgo := Lib.hid hgo
            have f2 : decide (0 < s.col.a) = false := by simp; omega
            clear q1 q4 q5 a1 a2
            as_aux_lemma =>
              go_wp2
              go_roundg (n - (k + 1))
              case measure => omega
              case rel => exact ⟨k + 1, true, cl, out, by omega, by omega, by go_num, rfl, ⟨hown2.out, hclo2.out, hap.out, hgo.out, hch'.out, by omega, by omega, hblk2.out, hbw2⟩⟩
      have d1 : (s.kind == 1) = false := by simpa using q1
      by_cases q2 : s.kind = 2
      · all_goals
          have d2 : (s.kind == 2) = true := by simpa using q2
          have hE : ((px == s.rect.x) = true) ∨ ((px == s.rect.x) = false ∧ (py == s.rect.y) = true) ∨ ((px == s.rect.x) = false ∧ (py == s.rect.y) = false ∧ (px == s.rect.x + s.rect.wd - 1) = true) ∨ ((px == s.rect.x) = false ∧ (py == s.rect.y) = false ∧ (px == s.rect.x + s.rect.wd - 1) = false ∧ (py == s.rect.y + s.rect.ht - 1) = true) ∨ ((px == s.rect.x) = false ∧ (py == s.rect.y) = false ∧ (px == s.rect.x + s.rect.wd - 1) = false ∧ (py == s.rect.y + s.rect.ht - 1) = false) := by
            cases px == s.rect.x <;> cases py == s.rect.y <;> cases px == s.rect.x + s.rect.wd - 1 <;> cases py == s.rect.y + s.rect.ht - 1 <;> simp
          obtain ⟨eb, heb⟩ : ∃ e, edgeP s.rect px py = e := ⟨_, rfl⟩
          have hgE : atGo px py (xs.drop (k + 1)) b cl (if b && ih then (if eb && decide (0 < s.col.a) then out ++ [s] else out) else out) = R := by
            rw [← hgo]
            unfold paintP
            rw [if_neg q1, if_pos q2, heb]
          clear hgo
          unfold edgeP at heb
          clear q1 q4 q5 q2
          replace heb := Lib.hid heb
          replace hgE := Lib.hid hgE
          go_upto_region 26 with fail
          go_cut [11] (fun ev wx => ev = .bool eb ∧ w2 = wx)
          case first =>
           as_aux_lemma =>
            have heb := heb.out
            rcases hE with h1 | ⟨h1, h2⟩ | ⟨h1, h2, h3⟩ | ⟨h1, h2, h3, h4⟩ | ⟨h1, h2, h3, h4⟩
            · rw [h1] at heb
              simp only [Bool.true_or, Bool.or_true, Bool.false_or, Bool.or_false, Bool.or_self] at heb
              subst heb
              go_wp2
              go_meet
              case rel => exact ⟨rfl, rfl⟩
            · rw [h1, h2] at heb
              simp only [Bool.true_or, Bool.or_true, Bool.false_or, Bool.or_false, Bool.or_self] at heb
              subst heb
              go_wp2
              go_meet
              case rel => exact ⟨rfl, rfl⟩
            · rw [h1, h2, h3] at heb
              simp only [Bool.true_or, Bool.or_true, Bool.false_or, Bool.or_false, Bool.or_self] at heb
              subst heb
              go_wp2
              go_meet
              case rel => exact ⟨rfl, rfl⟩
            · rw [h1, h2, h3, h4] at heb
              simp only [Bool.true_or, Bool.or_true, Bool.false_or, Bool.or_false, Bool.or_self] at heb
              subst heb
              go_wp2
              go_meet
              case rel => exact ⟨rfl, rfl⟩
            · rw [h1, h2, h3, h4] at heb
              simp only [Bool.true_or, Bool.or_true, Bool.false_or, Bool.or_false, Bool.or_self] at heb
              subst heb
              go_wp2
              go_meet
              case rel => exact ⟨rfl, rfl⟩
          case rest =>
            obtain ⟨rfl, rfl⟩ := hcut
            have hgE := hgE.out
            clear heb hE
            cases eb
            · simp only [Bool.false_and, Bool.and_false, Bool.false_eq_true, if_false, ite_self] at hgE
              have hgo := Lib.hid hgE
              clear hgE
              cases b
              · as_aux_lemma =>
                  go_wp2
                  go_roundg (n - (k + 1))
                  case measure => omega
                  case rel => exact ⟨k + 1, false, cl, out, by omega, by omega, by go_num, rfl, ⟨hown2.out, hclo2.out, hap.out, hgo.out, hch'.out, by omega, by omega, hblk2.out, hbw2⟩⟩
              · cases ih
                · as_aux_lemma =>
                    go_wp2
                    go_roundg (n - (k + 1))
                    case measure => omega
                    case rel => exact ⟨k + 1, true, cl, out, by omega, by omega, by go_num, rfl, ⟨hown2.out, hclo2.out, hap.out, hgo.out, hch'.out, by omega, by omega, hblk2.out, hbw2⟩⟩
                · as_aux_lemma =>
                    go_wp2
                    go_roundg (n - (k + 1))
                    case measure => omega
                    case rel => exact ⟨k + 1, true, cl, out, by omega, by omega, by go_num, rfl, ⟨hown2.out, hclo2.out, hap.out, hgo.out, hch'.out, by omega, by omega, hblk2.out, hbw2⟩⟩
            · simp only [Bool.true_and] at hgE
              cases b
              · simp only [Bool.false_and, Bool.false_eq_true, if_false] at hgE
                have hgo := Lib.hid hgE
                clear hgE
                as_aux_lemma =>
                  go_wp2
                  go_roundg (n - (k + 1))
                  case measure => omega
                  case rel => exact ⟨k + 1, false, cl, out, by omega, by omega, by go_num, rfl, ⟨hown2.out, hclo2.out, hap.out, hgo.out, hch'.out, by omega, by omega, hblk2.out, hbw2⟩⟩
              cases ih
              · simp only [Bool.and_false, Bool.false_eq_true, if_false] at hgE
                have hgo := Lib.hid hgE
                clear hgE
                as_aux_lemma =>
                  go_wp2
                  go_roundg (n - (k + 1))
                  case measure => omega
                  case rel => exact ⟨k + 1, true, cl, out, by omega, by omega, by go_num, rfl, ⟨hown2.out, hclo2.out, hap.out, hgo.out, hch'.out, by omega, by omega, hblk2.out, hbw2⟩⟩
              simp only [Bool.and_self, if_true] at hgE
              by_cases a2 : 0 < s.col.a
              · have f2 : decide (0 < s.col.a) = true := by simpa using a2
                rw [f2] at hgE
                simp only [if_true] at hgE
                have hgo := Lib.hid hgE
                clear hgE a2
                go_wp2_with (first
                  | (at_builtin; refine wpList_append_two rfl _ _ _ rfl (w.heap.size + 1) 45 iS _ 15 72 Try.underlying22 hs0 hs1 hs2 hs3 rfl (by omega) w2 1 _ _ _ _ (by rfl) hown2.out (by rfl) rfl (by simp [Value.oneCell']) (by omega) (by unfold maxLen; omega) (by omega) ?_; intro v6 w6 hown6 hgr6 hat6 hb6; replace hown6 := Lib.hid hown6; replace hgr6 := Lib.hid hgr6; replace hat6 := Lib.hid hat6)
                  | go_in)
                replace hown6 := hown6.out
                replace hgr6 := hgr6.out
                replace hat6 := hat6.out
                have hbw6 := Lib.hid (hbw2.trans (hb6.mono (by omega)))
                have hblk6 := Lib.hid (hblk2.out.below hb6 (by omega))
                have hclo6 := Lib.hid (show OwnsB (w.heap.size + 1) w6 u6 cl.reverse from own_keep hclo2.out hgr6 (fun g h1 h2 => hap.out g h2 h1))
                have hap6 : Apart v6 u6 := fun g h1 h2 => by
                  rcases hat6 g h1 with h | h
                  · exact hap.out g h h2
                  · have := (lc.out g h2).2; omega
                replace hap6 := Lib.hid hap6
                have hown6' : Owns (w.heap.size + 1) w6 v6 (out ++ [s]) := by
                  unfold Owns
                  rw [flatT_snoc hse.out] at hown6
                  simpa using hown6
                replace hown6' := Lib.hid hown6'
                clear hown6 hgr6 hat6 hb6
                go_wp2
                go_roundg (n - (k + 1))
                case measure => omega
                case rel => exact ⟨k + 1, true, cl, (out ++ [s]), by omega, by omega, by go_num, rfl, ⟨hown6'.out, hclo6.out, hap6.out, hgo.out, hch'.out, by omega, by simp; omega, hblk6.out, hbw6.out⟩⟩
              · have f2 : decide (0 < s.col.a) = false := by simp; omega
                rw [f2] at hgE
                simp only [Bool.false_eq_true, if_false] at hgE
                have hgo := Lib.hid hgE
                clear hgE a2
                as_aux_lemma =>
                  go_wp2
                  go_roundg (n - (k + 1))
                  case measure => omega
                  case rel => exact ⟨k + 1, true, cl, out, by omega, by omega, by go_num, rfl, ⟨hown2.out, hclo2.out, hap.out, hgo.out, hch'.out, by omega, by omega, hblk2.out, hbw2⟩⟩
      have d2 : (s.kind == 2) = false := by simpa using q2
      all_goals
        cases b
        · simp only [Bool.false_and, Bool.false_eq_true, if_false] at hgo
          replace hgo := Lib.hid hgo
          clear q1 q2 q4 q5
          as_aux_lemma =>
            go_wp2
            go_roundg (n - (k + 1))
            case measure => omega
            case rel => exact ⟨k + 1, false, cl, out, by omega, by omega, by go_num, rfl, ⟨hown2.out, hclo2.out, hap.out, hgo.out, hch'.out, by omega, by omega, hblk2.out, hbw2⟩⟩
        cases ih
        · simp only [Bool.and_false, Bool.false_eq_true, if_false] at hgo
          replace hgo := Lib.hid hgo
          clear q1 q2 q4 q5
          as_aux_lemma =>
            go_wp2
            go_roundg (n - (k + 1))
            case measure => omega
            case rel => exact ⟨k + 1, true, cl, out, by omega, by omega, by go_num, rfl, ⟨hown2.out, hclo2.out, hap.out, hgo.out, hch'.out, by omega, by omega, hblk2.out, hbw2⟩⟩
        simp only [Bool.and_self, if_true] at hgo
        unfold paintP at hgo
        rw [if_neg q1, if_neg q2] at hgo
        by_cases a1 : s.text.toList = []
        · rw [if_pos a1] at hgo
          replace hgo := Lib.hid hgo
          have f1 : (!s.text.toList.isEmpty) = false := by rw [a1]; rfl
          clear q1 q2 q4 q5
          as_aux_lemma =>
            go_wp2
            go_roundg (n - (k + 1))
            case measure => omega
            case rel => exact ⟨k + 1, true, cl, out, by omega, by omega, by go_num, rfl, ⟨hown2.out, hclo2.out, hap.out, hgo.out, hch'.out, by omega, by omega, hblk2.out, hbw2⟩⟩
        · rw [if_neg a1] at hgo
          replace hgo := Lib.hid hgo
          have f1 : (!s.text.toList.isEmpty) = true := by simpa using a1
          clear q1 q2 q4 q5
          go_wp2_with (first
            | (at_builtin; refine wpList_append_two rfl _ _ _ rfl (w.heap.size + 1) 45 iS _ 15 72 Try.underlying22 hs0 hs1 hs2 hs3 rfl (by omega) w2 1 _ _ _ _ (by rfl) hown2.out (by rfl) rfl (by simp [Value.oneCell']) (by omega) (by unfold maxLen; omega) (by omega) ?_; intro v6 w6 hown6 hgr6 hat6 hb6; replace hown6 := Lib.hid hown6; replace hgr6 := Lib.hid hgr6; replace hat6 := Lib.hid hat6)
            | go_in)
          replace hown6 := hown6.out
          replace hgr6 := hgr6.out
          replace hat6 := hat6.out
          have hbw6 := Lib.hid (hbw2.trans (hb6.mono (by omega)))
          have hblk6 := Lib.hid (hblk2.out.below hb6 (by omega))
          have hclo6 := Lib.hid (show OwnsB (w.heap.size + 1) w6 u6 cl.reverse from own_keep hclo2.out hgr6 (fun g h1 h2 => hap.out g h2 h1))
          have hap6 : Apart v6 u6 := fun g h1 h2 => by
            rcases hat6 g h1 with h | h
            · exact hap.out g h h2
            · have := (lc.out g h2).2; omega
          replace hap6 := Lib.hid hap6
          have hown6' : Owns (w.heap.size + 1) w6 v6 (out ++ [s]) := by
            unfold Owns
            rw [flatT_snoc hse.out] at hown6
            simpa using hown6
          replace hown6' := Lib.hid hown6'
          clear hown6 hgr6 hat6 hb6
          go_wp2
          go_roundg (n - (k + 1))
          case measure => omega
          case rel => exact ⟨k + 1, true, cl, (out ++ [s]), by omega, by omega, by go_num, rfl, ⟨hown6'.out, hclo6.out, hap6.out, hgo.out, hch'.out, by omega, by simp; omega, hblk6.out, hbw6.out⟩⟩
    · obtain rfl : k = n := by omega
      obtain ⟨hown, hclo, hap, hgo, hch, hcl, hol, hblk, hbr⟩ := hrel
      have hgo := at_end hgo (by have := hn.out; omega)
      subst hgo
      replace hown := Lib.hid hown
      replace hclo := Lib.hid hclo
      replace hap := Lib.hid hap
      replace hch := Lib.hid hch
      replace hblk := Lib.hid hblk
      go_wp2
      go_ret
      exact ⟨_, rfl, own_less hown.out (by omega), hbr⟩
end Go.Proofs.Ytkmofpnefjgnkaa
