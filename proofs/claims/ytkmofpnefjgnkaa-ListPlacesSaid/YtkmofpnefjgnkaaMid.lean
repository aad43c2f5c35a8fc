/-
  A region that draws its order, with one operation in its midst that yields whatever it yields: all ahead of it steady, it alone, all behind it steady.
-/
import Derived.Test.YtkmofpnefjgnkaaSteady
namespace Go.Proofs.Ytkmofpnefjgnkaa
open Go.RowKit
set_option linter.unusedVariables false
set_option linter.unusedSimpArgs false
section
variable {P : Program} {ops : Array Oper} {S : World → Prop} {Q : Exit → Act → World → Prop}
theorem wp_then {o : Oper} {a : Act} {w : World} {K K' : Act → World → Prop} (h : ∀ a w, K a w → K' a w) {K1 : Act → World → Prop} (hh : o.wp P a w K (Exit.then K1 Q)) : o.wp P a w K' Q := by
  unfold Oper.wp at *
  generalize (execOp a.eval o).run P w = r at *
  cases r with
  | ok n w' =>
    cases n <;> simp only [Oper.upon] at hh ⊢ <;>
      first
        | exact h _ _ hh
        | exact Calls.mono hh (fun e w'' he => by cases e <;> first | exact h _ _ he | exact he)
        | exact Rows.mono hh (fun _ _ he => h _ _ he)
  | halt x w' => cases x <;> simp only [Oper.upon] at hh ⊢ <;> exact hh
theorem wp_region_call {id : Nat} {a : Act} {w : World} (S : World → Prop) (n : Nat) (hm : P.follows .mixedOrders = true) (hgb : goodB ops (Region.before ops) = true) (hn : n < ops.size)
    (ht : tailB ops (Region.before ops) 0 n = true) (hf : forcedB ops (Region.before ops) n = true) (hS : S w.drew)
    (h : wpSteady P ops S (fun a' => ∀ w', S w' → ∀ K : Act → World → Prop, (∀ a'' w'', wpFrom P ops Q (n + 1) a'' w'' → K a'' w'') → wpList P ops (Exit.then K Q) ((ops.toList.drop n).take 1) a' w') (ops.toList.take n) a) : (Code.region id ops true).wp P Q a w := by
  refine wp_region_from hm (wpFrom_steady hgb (c := n) (n := n) (by omega) (Nat.le_of_lt hn) ht hS ?_)
  rw [List.drop_zero]
  refine wpSteady_imp (fun a' h w' hS' => ?_) _ _ h
  have h' := h w' hS' (wpFrom P ops Q (n + 1)) (fun _ _ x => x)
  have hon : ops[n]? = some ops[n] := Array.getElem?_eq_getElem hn
  refine wpFrom_one (good_of hgb).1 hon hf ?_
  have hd : (ops.toList.drop n).take 1 = [ops[n]] := by
    rw [List.drop_eq_getElem_cons (by simpa using hn)]; rfl
  rw [hd] at h'
  unfold wpOp
  simp only [hon]
  unfold wpList at h'
  split
  · rename_i hw; rw [if_pos hw] at h'; exact h'.imp (wp_then fun a w h => h) (fun h => h)
  · rename_i hw; rw [if_neg hw] at h'; exact h'
theorem wpFrom_rest (S : World → Prop) {m : Nat} (hgb : goodB ops (Region.before ops) = true) (hms : m ≤ ops.size) {a : Act} {w : World} (hS : S w)
    (h : wpSteady P ops S (fun a' => ∀ w', S w' → Q .normal a' w') (ops.toList.drop m) a) : wpFrom P ops Q m a w := by
  refine wpFrom_steady hgb (c := ops.size - m) (n := ops.size) (by omega) (Nat.le_refl _) ?_ hS ?_
  · simp only [tailB, List.all_eq_true, List.mem_range, Bool.or_eq_true, decide_eq_true_eq]
    exact fun t ht => .inl ht
  · rw [List.take_of_length_le (by simp)]
    exact wpSteady_imp (fun a' h w' hS' => wpFrom_end rfl (h w' hS')) _ _ h
end
end Go.Proofs.Ytkmofpnefjgnkaa
