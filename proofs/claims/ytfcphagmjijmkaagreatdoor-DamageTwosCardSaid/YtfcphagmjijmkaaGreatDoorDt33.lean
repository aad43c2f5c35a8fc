/-
  Damage: the document's examples hold (casementlaw17.alive). (Printed by genalive.py.)
-/
import Derived.Test.YtfcphagmjijmkaaGreatDoorDt31
import Derived.Test.YtfcphagmjijmkaaGreatDoorDt32
namespace Go.Proofs.YtfcphagmjijmkaaGreatDoor
open Go.RowKit
set_option linter.unusedVariables false
set_option linter.unusedSimpArgs false
attribute [local go_sem] vwp vUpon_value vUpon_skip vUpon_enter vUpon_row
set_option maxHeartbeats 16000000
section
theorem dfill_one (w : World) : Calls Tryz.prog 60 #[.int .i64 1, .int .i64 0, .int .i64 0, .int .i64 4, .int .i64 4] w fun e w' => e = .returned (.agg #[.int .u8 1, .int .i64 0, .int .i64 0, .int .i64 4, .int .i64 4, .int .u8 9, .int .u8 0, .int .u8 0, .int .u8 255, .int .u8 0, .int .u8 0, .int .u8 0, .int .u8 0, .string ⟨#[]⟩, .int .i64 1]) ∧ Below w.heap.size w w' := by
 go_enter Tryz.func60, Tryz.ntmps60
 go_wp2; refine bodyPost_ret (v := .agg #[.int .u8 1, .int .i64 0, .int .i64 0, .int .i64 4, .int .i64 4, .int .u8 9, .int .u8 0, .int .u8 0, .int .u8 255, .int .u8 0, .int .u8 0, .int .u8 0, .int .u8 0, .string ⟨#[]⟩, .int .i64 1]) (by simp [results, Tryz.results60, go_sem]) rfl ⟨rfl, belt⟩
theorem dfill_two (w : World) : Calls Tryz.prog 60 #[.int .i64 2, .int .i64 1, .int .i64 1, .int .i64 1, .int .i64 1] w fun e w' => e = .returned (.agg #[.int .u8 1, .int .i64 1, .int .i64 1, .int .i64 1, .int .i64 1, .int .u8 18, .int .u8 0, .int .u8 0, .int .u8 255, .int .u8 0, .int .u8 0, .int .u8 0, .int .u8 0, .string ⟨#[]⟩, .int .i64 2]) ∧ Below w.heap.size w w' := by
 go_enter Tryz.func60, Tryz.ntmps60
 go_wp2; refine bodyPost_ret (v := .agg #[.int .u8 1, .int .i64 1, .int .i64 1, .int .i64 1, .int .i64 1, .int .u8 18, .int .u8 0, .int .u8 0, .int .u8 255, .int .u8 0, .int .u8 0, .int .u8 0, .int .u8 0, .string ⟨#[]⟩, .int .i64 2]) (by simp [results, Tryz.results60, go_sem]) rfl ⟨rfl, belt⟩
theorem dwrite_one (w : World) : Calls Tryz.prog 61 #[.int .i64 3, .int .i64 2, .int .i64 0, .string ⟨#[120]⟩] w fun e w' => e = .returned (.agg #[.int .u8 3, .int .i64 2, .int .i64 0, .int .i64 1, .int .i64 1, .int .u8 0, .int .u8 0, .int .u8 0, .int .u8 255, .int .u8 0, .int .u8 0, .int .u8 0, .int .u8 0, .string ⟨#[120]⟩, .int .i64 3]) ∧ Below w.heap.size w w' := by
 go_enter Tryz.func61, Tryz.ntmps61
 go_wp2; refine bodyPost_ret (v := .agg #[.int .u8 3, .int .i64 2, .int .i64 0, .int .i64 1, .int .i64 1, .int .u8 0, .int .u8 0, .int .u8 0, .int .u8 255, .int .u8 0, .int .u8 0, .int .u8 0, .int .u8 0, .string ⟨#[120]⟩, .int .i64 3]) (by simp [results, Tryz.results61, go_sem]) rfl ⟨rfl, belt⟩
theorem al_bn2 : dmgE [alF, alG] [alG, alF] = 0 ∧ nodN [alF, alG] [alG, alF] = [] := ⟨al_bn.1, by unfold nodN; rw [if_pos al_bn.1, al_bn.2]⟩
theorem al_m2 : dmgE [alF, alF] [alF] = 0 ∧ nodN [alF, alF] [alF] = [1] := ⟨al_m.1, by unfold nodN; rw [if_pos al_m.1, al_m.2]⟩
theorem al_mem {l : List St} (h : ∀ s ∈ l, s = alF ∨ s = alG ∨ s = alT ∨ s = alO) : ∀ s ∈ l, s.Wf := fun s hs => al_wf (h s hs)
theorem row_lit {u : World} {g : Nat} {cs : List Value} {e : TypeId} (xs : List St) (h : Blk u g cs e) (hc : cs = xs.flatMap St.enc) (hm : xs.length ≤ 9) : Row u.heap.size 15 St.enc u (.slice (some ⟨g, 0, none⟩) xs.length xs.length) xs := by
 subst hc; exact Blk.row St.enc_len h (by rw [← flat_len St.enc_len xs, List.take_length]) lrr (by unfold maxLen; omega) h.lt
theorem row_lirR {u : World} {g : Nat} {cs : List Value} {e : TypeId} (xs : List Re) (h : Blk u g cs e) (hc : cs = xs.flatMap Re.enc) (hm : xs.length ≤ 9) : Row u.heap.size 4 Re.enc u (.slice (some ⟨g, 0, none⟩) xs.length xs.length) xs := by
 subst hc; exact Blk.row Re.enc_len h (by rw [← flat_len Re.enc_len xs, List.take_length]) lrr (by unfold maxLen; omega) h.lt
noncomputable def ldT (v : Value) : Sem Value := Instr.loadAt 36 v
theorem ldT_is (v : Value) : Instr.loadAt 36 v = ldT v := rfl
theorem ldT_blk {u : World} {b : Nat} {cs : List Value} {e : TypeId} (h : Blk u b cs e) (hl : cs.length = 15) : (ldT (.pointer (some ⟨b, 0, none⟩))).run Tryz.prog u = .ok (.agg cs.toArray) u :=
 run_loadAt_mid u b 0 _ cs _ (fun i v hi => by rw [Nat.zero_add]; exact h.cell hi) Tryz.underlying36 rfl (by rw [hl]; kernel_rfl)
attribute [local go_sem ↓ high] ldT_is
attribute [local go_sem high] eql_rect
theorem alR_wf : alR.Wf := ⟨⟨by decide, by decide⟩, ⟨by decide, by decide⟩, ⟨by decide, by decide⟩, ⟨by decide, by decide⟩⟩
set_option maxRecDepth 100000 in
theorem dalive_any (w : World) : Calls Tryz.prog 19 #[] w fun e w' => e = .returned (.bool true) ∧ Below w.heap.size w w' := by
 have I4 : I64 4 := by unfold I64; omega
 have eA : alB.length = 16 := al_s.2.2; have eC : alC.length = 16 := al_c.2.2; have eN : alN.length = 16 := al_d.2.2
 go_enter Tryz.func19, Tryz.ntmps19
 have FI := hdh dfill_one
 go_upto_region 2 with (go_at_call 60; (with_reducible refine cmm (FI.out _) fun u1 hu1 => ?_))
 obtain ⟨W1, hW1⟩ := exx (u1.alloc (.cells #[.int .u8 1, .int .i64 0, .int .i64 0, .int .i64 4, .int .i64 4, .int .u8 9, .int .u8 0, .int .u8 0, .int .u8 255, .int .u8 0, .int .u8 0, .int .u8 0, .int .u8 0, .string ⟨#[]⟩, .int .i64 1] 36)); obtain ⟨b1, hb1⟩ := exx (u1.heap.size)
 have B1 : Blk W1 b1 [.int .u8 1, .int .i64 0, .int .i64 0, .int .i64 4, .int .i64 4, .int .u8 9, .int .u8 0, .int .u8 0, .int .u8 255, .int .u8 0, .int .u8 0, .int .u8 0, .int .u8 0, .string ⟨#[]⟩, .int .i64 1] 36 := by rw [← hW1]; exact Blk.new' hb1.symm
 have h1 : Below w.heap.size w W1 := by rw [← hW1]; exact hu1.alloc hu1.size _
 rw [hW1, hb1]; clear hW1 hb1 hu1 FI; have FI := hdh dfill_two
 go_upto_region 3 with (go_at_call 60; (with_reducible refine cmm (FI.out _) fun u2 hu2 => ?_))
 obtain ⟨W2, hW2⟩ := exx (u2.alloc (.cells #[.int .u8 1, .int .i64 1, .int .i64 1, .int .i64 1, .int .i64 1, .int .u8 18, .int .u8 0, .int .u8 0, .int .u8 255, .int .u8 0, .int .u8 0, .int .u8 0, .int .u8 0, .string ⟨#[]⟩, .int .i64 2] 36)); obtain ⟨b2, hb2⟩ := exx (u2.heap.size)
 have B2 : Blk W2 b2 [.int .u8 1, .int .i64 1, .int .i64 1, .int .i64 1, .int .i64 1, .int .u8 18, .int .u8 0, .int .u8 0, .int .u8 255, .int .u8 0, .int .u8 0, .int .u8 0, .int .u8 0, .string ⟨#[]⟩, .int .i64 2] 36 := by rw [← hW2]; exact Blk.new' hb2.symm
 have h2 : Below W1.heap.size W1 W2 := by rw [← hW2]; exact hu2.alloc hu2.size _
 rw [hW2, hb2]; clear hW2 hb2 hu2 FI; replace B1 := B1.below h2 B1.lt; have FI := hdh dwrite_one
 go_upto_region 4 with (go_at_call 61; (with_reducible refine cmm (FI.out _) fun u3 hu3 => ?_))
 obtain ⟨W3, hW3⟩ := exx (u3.alloc (.cells #[.int .u8 3, .int .i64 2, .int .i64 0, .int .i64 1, .int .i64 1, .int .u8 0, .int .u8 0, .int .u8 0, .int .u8 255, .int .u8 0, .int .u8 0, .int .u8 0, .int .u8 0, .string ⟨#[120]⟩, .int .i64 3] 36)); obtain ⟨b3, hb3⟩ := exx (u3.heap.size)
 have B3 : Blk W3 b3 [.int .u8 3, .int .i64 2, .int .i64 0, .int .i64 1, .int .i64 1, .int .u8 0, .int .u8 0, .int .u8 0, .int .u8 255, .int .u8 0, .int .u8 0, .int .u8 0, .int .u8 0, .string ⟨#[120]⟩, .int .i64 3] 36 := by rw [← hW3]; exact Blk.new' hb3.symm
 have h3 : Below W2.heap.size W2 W3 := by rw [← hW3]; exact hu3.alloc hu3.size _
 rw [hW3, hb3]; clear hW3 hb3 hu3 FI; replace B1 := B1.below h3 B1.lt; replace B2 := B2.below h3 B2.lt
 have CA := fun v u W h1 h2 => dof_any [alF, alG, alT] [alF, alT] v u W h1 h2 (al_mem (l := [alF, alG, alT]) (by simp)) (al_mem (l := [alF, alT]) (by simp))
 simp only [al_a.1, al_a.2] at CA; replace CA := hdh CA; have lt0p := ldT_blk B1 rfl
 have lt1p := fun o => ldT_blk (B1.alloc o) rfl
 have lt0q := ldT_blk B2 rfl
 have lt1q := fun o => ldT_blk (B2.alloc o) rfl
 have lt0r := ldT_blk B3 rfl
 have lt1r := fun o => ldT_blk (B3.alloc o) rfl
 go_upto_region 5 with (go_at_call 11; (with_reducible refine Calls.mono (CA.out _ _ _ ?_ ?_) ?_); (focus exact row_lit [alF, alG, alT] ((Blk.new' rfl).alloc _) rfl (by simp)); (focus exact row_lit [alF, alT] (Blk.new' (by simp)) rfl (by simp)); rintro e W4 ⟨hu, v4, rfl, R4⟩)
 clear lt0p lt1p; clear lt0q lt1q; clear lt0r lt1r; have h4 : Below W3.heap.size W3 W4 := (((Below.refl _ _).alloc lrr _).alloc (by simp) _).trans (hu.mono (by simp; omega)); have z4 : W3.heap.size ≤ W4.heap.size := h4.size; replace R4 := R4.less (B := W3.heap.size) (by simp; omega); clear hu CA; replace B1 := B1.below h4 B1.lt; replace B2 := B2.below h4 B2.lt; replace B3 := B3.below h4 B3.lt
 have CA := fun v u W h1 h2 => dof_any [alF, alG] [alG, alF] v u W h1 h2 (al_mem (l := [alF, alG]) (by simp)) (al_mem (l := [alG, alF]) (by simp))
 simp only [al_b.1, al_b.2] at CA; replace CA := hdh CA; have lt0p := ldT_blk B1 rfl
 have lt1p := fun o => ldT_blk (B1.alloc o) rfl
 have lt0q := ldT_blk B2 rfl
 have lt1q := fun o => ldT_blk (B2.alloc o) rfl
 go_upto_region 6 with (go_at_call 11; (with_reducible refine Calls.mono (CA.out _ _ _ ?_ ?_) ?_); (focus exact row_lit [alF, alG] ((Blk.new' rfl).alloc _) rfl (by simp)); (focus exact row_lit [alG, alF] (Blk.new' (by simp)) rfl (by simp)); rintro e W5 ⟨hu, v5, rfl, R5⟩)
 clear lt0p lt1p; clear lt0q lt1q; have h5 : Below W4.heap.size W4 W5 := (((Below.refl _ _).alloc lrr _).alloc (by simp) _).trans (hu.mono (by simp; omega)); have z5 : W4.heap.size ≤ W5.heap.size := h5.size; replace R5 := R5.less (B := W4.heap.size) (by simp; omega); clear hu CA; replace B1 := B1.below h5 B1.lt; replace B2 := B2.below h5 B2.lt; replace B3 := B3.below h5 B3.lt
 have CA := fun v u W h1 h2 => dnodes_any [alF, alG] [alG, alF] v u W h1 h2 (al_mem (l := [alF, alG]) (by simp)) (al_mem (l := [alG, alF]) (by simp))
 simp only [al_bn2.1, al_bn2.2] at CA; replace CA := hdh CA; have lt0p := ldT_blk B1 rfl
 have lt1p := fun o => ldT_blk (B1.alloc o) rfl
 have lt0q := ldT_blk B2 rfl
 have lt1q := fun o => ldT_blk (B2.alloc o) rfl
 go_upto_region 7 with (go_at_call 21; (with_reducible refine Calls.mono (CA.out _ _ _ ?_ ?_) ?_); (focus exact row_lit [alF, alG] ((Blk.new' rfl).alloc _) rfl (by simp)); (focus exact row_lit [alG, alF] (Blk.new' (by simp)) rfl (by simp)); rintro e W6 ⟨hu, v6, rfl, R6⟩)
 clear lt0p lt1p; clear lt0q lt1q; have h6 : Below W5.heap.size W5 W6 := (((Below.refl _ _).alloc lrr _).alloc (by simp) _).trans (hu.mono (by simp; omega)); have z6 : W5.heap.size ≤ W6.heap.size := h6.size; replace R6 := own_less (B := W5.heap.size) R6 (by simp; omega); clear hu CA; replace B1 := B1.below h6 B1.lt; replace B2 := B2.below h6 B2.lt; replace B3 := B3.below h6 B3.lt
 have CA := fun v u W h1 h2 => dnodes_any [alF, alF] [alF] v u W h1 h2 (al_mem (l := [alF, alF]) (by simp)) (al_mem (l := [alF]) (by simp))
 simp only [al_m2.1, al_m2.2] at CA; replace CA := hdh CA; have lt0p := ldT_blk B1 rfl
 have lt1p := fun o => ldT_blk (B1.alloc o) rfl
 go_upto_region 8 with (go_at_call 21; (with_reducible refine Calls.mono (CA.out _ _ _ ?_ ?_) ?_); (focus exact row_lit [alF, alF] ((Blk.new' rfl).alloc _) rfl (by simp)); (focus exact row_lit [alF] (Blk.new' (by simp)) rfl (by simp)); rintro e W7 ⟨hu, v7, rfl, R7⟩)
 clear lt0p lt1p; have h7 : Below W6.heap.size W6 W7 := (((Below.refl _ _).alloc lrr _).alloc (by simp) _).trans (hu.mono (by simp; omega)); have z7 : W6.heap.size ≤ W7.heap.size := h7.size; replace R7 := own_less (B := W6.heap.size) R7 (by simp; omega); clear hu CA; replace B1 := B1.below h7 B1.lt; replace B2 := B2.below h7 B2.lt; replace B3 := B3.below h7 B3.lt
 have CA := fun W => (show Calls Tryz.prog 13 #[.agg #[.int .i64 (4), .int .i64 (4)], .agg #[.int .u8 (0), .int .u8 (0), .int .u8 (0), .int .u8 (0)]] W (OutS W.heap.size 0 4 4 alB W) from by have h := cblank_any 4 4 ⟨0, 0, 0, 0⟩ W I4 I4; simp only [al_s.1, al_s.2.1] at h; exact h)
 replace CA := hdh CA
 go_upto_region 9 with (go_at_call 13; (with_reducible refine (CA.out _).mono ?_); rintro e u8 ⟨hu, v8, rfl, OS⟩; obtain ⟨s12, c12, hv12⟩ := own_slice OS; rw [eA] at hv12; subst hv12)
 have hk := hu; obtain ⟨W8, hW8⟩ := exx (u8.alloc (.cells #[.int .i64 4, .int .i64 4, .slice s12 16 c12] 40)); obtain ⟨b12, hb12⟩ := exx (u8.heap.size)
 have B12 : Blk W8 b12 [.int .i64 4, .int .i64 4, .slice s12 16 c12] 40 := by rw [← hW8]; exact Blk.new' hb12.symm
 have O12 : OwnsC W7.heap.size W8 (.slice s12 16 c12) alB := by rw [← hW8]; exact (own_less OS lrr).alloc _
 rw [hW8, hb12]
 have h8 : Below W7.heap.size W7 W8 := by rw [← hW8]; exact hk.alloc hk.size _
 have z8 : W7.heap.size ≤ W8.heap.size := h8.size; clear hW8 hb12 OS hk hu CA; replace B1 := B1.below h8 B1.lt; replace B2 := B2.below h8 B2.lt; replace B3 := B3.below h8 B3.lt
 have CA := fun v vx W hl hx => (show Calls Tryz.prog 14 #[.agg #[.int .i64 (4), .int .i64 (4), v], vx] W (OutS W.heap.size 0 4 4 alC W) from by have h := cdraw_any glyS glyphs_any 4 4 alB v [alF] vx W I4 I4 hl (blank_wf 4 4) hx (al_mem (l := [alF]) (by simp)); simp only [al_c.1, al_c.2.1] at h; exact h)
 have RO := fun ob => (O12.alloc ob).row lrr
 replace RO := hdh RO; replace CA := hdh CA; have k0s := B12.cell (o := 0) rfl; have k1s := B12.cell (o := 1) rfl; have k2s := B12.cell (o := 2) rfl; have kys := B12.lt; have lt0p := ldT_blk B1 rfl
 have lt1p := fun o => ldT_blk (B1.alloc o) rfl
 go_upto_region 10 with (go_at_call 14; (with_reducible refine Calls.mono (CA.out _ _ _ ?_ ?_) ?_); (focus exact RO.out _); (focus exact row_lit [alF] (Blk.new' rfl) rfl (by simp)); rintro e u9 ⟨hu, v9, rfl, OS⟩; obtain ⟨s14, c14, hv14⟩ := own_slice OS; rw [eC] at hv14; subst hv14)
 clear lt0p lt1p; clear k0s k1s k2s kys; have hk : Below W8.heap.size W8 u9 := ((Below.refl _ _).alloc lrr _).trans (hu.mono (by simp)); clear RO; obtain ⟨W9, hW9⟩ := exx (u9.alloc (.cells #[.int .i64 4, .int .i64 4, .slice s14 16 c14] 40)); obtain ⟨b14, hb14⟩ := exx (u9.heap.size)
 have B14 : Blk W9 b14 [.int .i64 4, .int .i64 4, .slice s14 16 c14] 40 := by rw [← hW9]; exact Blk.new' hb14.symm
 have O14 : OwnsC W8.heap.size W9 (.slice s14 16 c14) alC := by rw [← hW9]; exact (own_less OS (by simp)).alloc _
 rw [hW9, hb14]
 have h9 : Below W8.heap.size W8 W9 := by rw [← hW9]; exact hk.alloc hk.size _
 have z9 : W8.heap.size ≤ W9.heap.size := h9.size; clear hW9 hb14 OS hk hu CA; replace B1 := B1.below h9 B1.lt; replace B2 := B2.below h9 B2.lt; replace B3 := B3.below h9 B3.lt; replace B12 := B12.below h9 B12.lt; replace O12 := O12.below h9 lrr
 have CA := fun v vx W hl hx => (show Calls Tryz.prog 14 #[.agg #[.int .i64 (4), .int .i64 (4), v], vx] W (OutS W.heap.size 0 4 4 alN W) from by have h := cdraw_any glyS glyphs_any 4 4 alB v [alF, alG] vx W I4 I4 hl (blank_wf 4 4) hx (al_mem (l := [alF, alG]) (by simp)); simp only [al_d.1, al_d.2.1] at h; exact h)
 have RO := fun ob => (O12.alloc ob).row lrr
 replace RO := hdh RO; replace CA := hdh CA; have k0s := B12.cell (o := 0) rfl; have k1s := B12.cell (o := 1) rfl; have k2s := B12.cell (o := 2) rfl; have kys := B12.lt; have lt0p := ldT_blk B1 rfl
 have lt1p := fun o => ldT_blk (B1.alloc o) rfl
 have lt0q := ldT_blk B2 rfl
 have lt1q := fun o => ldT_blk (B2.alloc o) rfl
 go_upto_region 11 with (go_at_call 14; (with_reducible refine Calls.mono (CA.out _ _ _ ?_ ?_) ?_); (focus exact RO.out _); (focus exact row_lit [alF, alG] (Blk.new' rfl) rfl (by simp)); rintro e u10 ⟨hu, v10, rfl, OS⟩; obtain ⟨s16, c16, hv16⟩ := own_slice OS; rw [eN] at hv16; subst hv16)
 clear lt0p lt1p; clear lt0q lt1q; clear k0s k1s k2s kys; have hk : Below W9.heap.size W9 u10 := ((Below.refl _ _).alloc lrr _).trans (hu.mono (by simp)); clear RO; obtain ⟨W10, hW10⟩ := exx (u10.alloc (.cells #[.int .i64 4, .int .i64 4, .slice s16 16 c16] 40)); obtain ⟨b16, hb16⟩ := exx (u10.heap.size)
 have B16 : Blk W10 b16 [.int .i64 4, .int .i64 4, .slice s16 16 c16] 40 := by rw [← hW10]; exact Blk.new' hb16.symm
 have O16 : OwnsC W9.heap.size W10 (.slice s16 16 c16) alN := by rw [← hW10]; exact (own_less OS (by simp)).alloc _
 rw [hW10, hb16]
 have h10 : Below W9.heap.size W9 W10 := by rw [← hW10]; exact hk.alloc hk.size _
 have z10 : W9.heap.size ≤ W10.heap.size := h10.size; clear hW10 hb16 OS hk hu CA; replace B1 := B1.below h10 B1.lt; replace B2 := B2.below h10 B2.lt; replace B3 := B3.below h10 B3.lt; replace B14 := B14.below h10 B14.lt; replace O14 := O14.below h10 lrr; replace B12 := B12.below h10 B12.lt
 have CA := fun v vx vq W hl hx hq => (show Calls Tryz.prog 15 #[.agg #[.int .i64 (4), .int .i64 (4), v], vx, vq] W (OutS W.heap.size 0 4 4 alN W) from by have h := dmend_any 4 4 alC v [alF, alG] vx [alR] vq W I4 I4 hl hx (al_mem (l := [alF, alG]) (by simp)) hq (fun q hq => by rw [List.mem_singleton.1 hq]; exact alR_wf); simp only [al_e.1, al_e.2, al_f] at h; exact h)
 have RO := fun ob ob2 => ((O14.alloc ob).alloc ob2).row lrr
 replace RO := hdh RO; replace CA := hdh CA; have k0s := B14.cell (o := 0) rfl; have k1s := B14.cell (o := 1) rfl; have k2s := B14.cell (o := 2) rfl; have kys := B14.lt; have lt0p := ldT_blk B1 rfl
 have lt1p := fun o => ldT_blk (B1.alloc o) rfl
 have lt0q := ldT_blk B2 rfl
 have lt1q := fun o => ldT_blk (B2.alloc o) rfl
 have g1 := B2.cell (o := 1) rfl; have g2 := B2.cell (o := 2) rfl; have g3 := B2.cell (o := 3) rfl; have g4 := B2.cell (o := 4) rfl; have gy := B2.lt
 go_upto_region 12 with (go_at_call 15; (with_reducible refine Calls.mono (CA.out _ _ _ _ ?_ ?_ ?_) ?_); (focus exact RO.out _ _); (focus exact row_lit [alF, alG] ((Blk.new' rfl).alloc _) rfl (by simp)); (focus exact row_lirR [alR] (Blk.new' (by simp)) rfl (by simp)); rintro e u11 ⟨hu, v11, rfl, OS⟩; obtain ⟨s18, c18, hv18⟩ := own_slice OS; rw [eN] at hv18; subst hv18)
 clear lt0p lt1p; clear lt0q lt1q; clear k0s k1s k2s kys; clear g1 g2 g3 g4 gy RO; have hk : Below W10.heap.size W10 u11 := (((Below.refl _ _).alloc lrr _).alloc (by simp) _).trans (hu.mono (by simp; omega)); obtain ⟨W11, hW11⟩ := exx (u11.alloc (.cells #[.int .i64 4, .int .i64 4, .slice s18 16 c18] 40)); obtain ⟨b18, hb18⟩ := exx (u11.heap.size)
 have B18 : Blk W11 b18 [.int .i64 4, .int .i64 4, .slice s18 16 c18] 40 := by rw [← hW11]; exact Blk.new' hb18.symm
 have O18 : OwnsC W10.heap.size W11 (.slice s18 16 c18) alN := by rw [← hW11]; exact (own_less OS (by simp; omega)).alloc _
 rw [hW11, hb18]
 have h11 : Below W10.heap.size W10 W11 := by rw [← hW11]; exact hk.alloc hk.size _
 have z11 : W10.heap.size ≤ W11.heap.size := h11.size; clear hW11 hb18 OS hk hu CA; replace B1 := B1.below h11 B1.lt; replace B2 := B2.below h11 B2.lt; replace B3 := B3.below h11 B3.lt; replace B14 := B14.below h11 B14.lt; replace O14 := O14.below h11 lrr; replace B16 := B16.below h11 B16.lt; replace O16 := O16.below h11 lrr; have CA := (show Calls Tryz.prog 23 #[.agg #[.int .i64 (4), .int .i64 (4), .slice s14 16 c14], .agg #[.int .i64 (4), .int .i64 (4), .slice s16 16 c16]] W11 (OutDm W11.heap.size 0 [alR] W11) from by have h := changed_any 4 4 alC (.slice s14 16 c14) 4 4 alN (.slice s16 16 c16) W11 I4 I4 I4 I4 (O14.row lrr) (O16.row lrr); simp only [al_g.1, al_g.2] at h; exact h)
 replace CA := hdh CA; have k0s := B14.cell (o := 0) rfl; have k1s := B14.cell (o := 1) rfl; have k2s := B14.cell (o := 2) rfl; have kys := B14.lt; have k0t := B16.cell (o := 0) rfl; have k1t := B16.cell (o := 1) rfl; have k2t := B16.cell (o := 2) rfl; have kyt := B16.lt
 go_upto_region 13 with (go_at_call 23; (with_reducible refine CA.out.mono ?_); rintro e W12 ⟨h12, v12, rfl, R12⟩)
 clear k0s k1s k2s kys; clear k0t k1t k2t kyt; have z12 : W11.heap.size ≤ W12.heap.size := h12.size; clear CA; replace B1 := B1.below h12 B1.lt; replace B2 := B2.below h12 B2.lt; replace B16 := B16.below h12 B16.lt; replace B18 := B18.below h12 B18.lt; replace O16 := O16.below h12 lrr; replace O18 := O18.below h12 lrr
 have CA := fun v W h1 => (show Calls Tryz.prog 11 #[v, .slice none 0 0] W (OutDm W.heap.size 130 [] W) from by have h := dof_any [alO] [] v (.slice none 0 0) W h1 (Row.empty none (by unfold maxLen; omega)) (al_mem (l := [alO]) (by simp)) (fun s hs => by cases hs); simp only [al_o.1, al_o.2] at h; exact h)
 replace CA := hdh CA
 go_upto_region 14 with (go_at_call 11; (with_reducible refine Calls.mono (CA.out _ _ ?_) ?_); (focus exact row_lit [alO] (Blk.new' rfl) rfl (by simp)); rintro e W13 ⟨hu, v13, rfl, R13⟩)
 have h13 : Below W12.heap.size W12 W13 := ((Below.refl _ _).alloc lrr _).trans (hu.mono (by simp)); have z13 : W12.heap.size ≤ W13.heap.size := h13.size; clear CA hu R13; replace B1 := B1.below h13 B1.lt; replace B2 := B2.below h13 B2.lt; replace B16 := B16.below h13 B16.lt; replace B18 := B18.below h13 B18.lt; replace O16 := O16.below h13 lrr; replace O18 := O18.below h13 lrr; replace R12 := R12.below h13 lrr; have k12 := h13; have k11 := h12.trans (k12.mono z12); have k10 := h11.trans (k11.mono z11); have k9 := h10.trans (k10.mono z10); have k8 := h9.trans (k9.mono z9); have k7 := h8.trans (k8.mono z8)
 have k6 := h7.trans (k7.mono z7); have k5 := h6.trans (k6.mono z6); have k4 := h5.trans (k5.mono z5); have k3 := h4.trans (k4.mono z4); have kw : Below w.heap.size w W13 := h1.trans ((h2.trans ((h3.trans (k3.mono h3.size)).mono h2.size)).mono h1.size); replace R4 := R4.below k4 lrr; replace R5 := R5.below k5 lrr; replace R6 := ownsRow_below R6 k6 lrr; replace R7 := ownsRow_below R7 k7 lrr; clear k3 k4 k5 k6 k7 k8 k9 k10 k11 k12 h1 h2 h3 h4 h5 h6 h7 h8 h9 h10 h11 h12 h13 z4 z5 z6 z7 z8 z9 z10 z11 z12 z13; obtain ⟨g4, o4, cc4, rfl, y4, -, -, X4⟩ := row_re (R4.row lrr) (by simp); have X4 := X4 0 alR rfl
 rw [Nat.zero_mul, Nat.add_zero] at X4; have x4a : W13.cell? ⟨g4, o4, none⟩ = some (.int .i64 1) := X4.1; have x4b : W13.cell? ⟨g4, o4 + 1, none⟩ = some (.int .i64 1) := X4.2.1; have x4c : W13.cell? ⟨g4, o4 + 2, none⟩ = some (.int .i64 1) := X4.2.2.1; have x4d : W13.cell? ⟨g4, o4 + 3, none⟩ = some (.int .i64 1) := X4.2.2.2; clear X4 R4; obtain ⟨g5, o5, cc5, rfl, y5, -, -, X5⟩ := row_re (R5.row lrr) (by simp); have X5 := X5 0 alW rfl; rw [Nat.zero_mul, Nat.add_zero] at X5; have x5a : W13.cell? ⟨g5, o5, none⟩ = some (.int .i64 0) := X5.1; have x5b : W13.cell? ⟨g5, o5 + 1, none⟩ = some (.int .i64 0) := X5.2.1
 have x5c : W13.cell? ⟨g5, o5 + 2, none⟩ = some (.int .i64 4) := X5.2.2.1; have x5d : W13.cell? ⟨g5, o5 + 3, none⟩ = some (.int .i64 4) := X5.2.2.2; clear X5 R5; obtain ⟨g12, o12, cc12, rfl, y12, -, -, X12⟩ := row_re (R12.row lrr) (by simp); have X12 := X12 0 alR rfl; rw [Nat.zero_mul, Nat.add_zero] at X12; have x12a : W13.cell? ⟨g12, o12, none⟩ = some (.int .i64 1) := X12.1; have x12b : W13.cell? ⟨g12, o12 + 1, none⟩ = some (.int .i64 1) := X12.2.1; have x12c : W13.cell? ⟨g12, o12 + 2, none⟩ = some (.int .i64 1) := X12.2.2.1; have x12d : W13.cell? ⟨g12, o12 + 3, none⟩ = some (.int .i64 1) := X12.2.2.2
 clear X12 R12; obtain ⟨s6, c6, rfl⟩ := own_slice R6; obtain ⟨g7, o7, cc7, rfl, y7, -, -, X7⟩ := (OwnsI.row (base := W6.heap.size) (l := [1]) R7 lrr).open_ (by simp); have x7a : W13.cell? ⟨g7, o7, none⟩ = some (.int .i64 1) := X7 0 1 rfl 0 _ rfl; clear X7 R6 R7; have e1 : eq4 1 1 1 1 1 1 1 1 = true := rfl; have e2 : eq4 0 0 4 4 0 0 4 4 = true := rfl
 have SM := fun u (h : Below W13.heap.size W13 u) => csame_any 4 4 4 4 alN alN (.slice s18 16 c18) (.slice s16 16 c16) u ((O18.row lrr).below h |>.mono h.size) ((O16.row lrr).below h |>.mono h.size)
 rw [samS_iff.2 ⟨rfl, rfl, rfl⟩] at SM; replace SM := hdh SM; have f1 := B1.cell (o := 1) rfl; have f2 := B1.cell (o := 2) rfl; have f3 := B1.cell (o := 3) rfl; have f4 := B1.cell (o := 4) rfl; have f5 := B1.lt; have g1 := B2.cell (o := 1) rfl; have g2 := B2.cell (o := 2) rfl; have g3 := B2.cell (o := 3) rfl; have g4' := B2.cell (o := 4) rfl; have g5 := B2.lt; have k0s := B16.cell (o := 0) rfl; have k1s := B16.cell (o := 1) rfl; have k2s := B16.cell (o := 2) rfl; have kys := B16.lt; have k0t := B18.cell (o := 0) rfl; have k1t := B18.cell (o := 1) rfl; have k2t := B18.cell (o := 2) rfl; have kyt := B18.lt
 clear B1 B2 B3 B16 B18 O16 O18
 go_upto_region 16 with fail
 refine rst (Held W13 0 []) ?_
 repeat (first | (refine' wpSteady_do _ _ _; rotate_left; (focus rfl); (focus (intro w1 hS R hR; have hc := hS.cells; simp only [Cells] at hc; obtain ⟨hco, hfo⟩ := bcell hS.old; go_simp; (try go_bits); first | exact hR _ hS | (go_at_call 16; (with_reducible refine cmm (SM.out _ hS.old) fun w2 hb2 => ?_); exact ⟨_, rfl, hR _ (hS.below hb2)⟩))); simp only [pu]) | (refine spa ?_; simp only [pu]))
 refine wpSteady_nil (fun uA hSA => ?_); obtain ⟨hcA, hbA, hzA, hcoA, hfoA⟩ := hall hSA; clear hSA; simp only [Cells] at hcA; go_wp2; go_ret; exact ⟨rfl, kw.trans (hbA.mono kw.size)⟩
end
end Go.Proofs.YtfcphagmjijmkaaGreatDoor
