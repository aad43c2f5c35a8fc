/-
  Place by place, plainly: what a list shows at a place; idle pairs show nothing.
-/
import Derived.Test.YtkmofpnefjgnkaaGj
namespace Go.Proofs.Ytkmofpnefjgnkaa
open Go.RowKit
set_option linter.unusedVariables false
attribute [local go_sem] vwp vUpon_value vUpon_skip vUpon_enter vUpon_row
set_option linter.unusedSimpArgs false
set_option linter.unusedVariables false
def edgeP (q : Re) (x y : Int) : Bool := x == q.x || y == q.y || x == q.x + q.wd - 1 || y == q.y + q.ht - 1
/-- What a stroke adds to what shows at a place that it has, inside of the clips. -/
def paintP (s : St) (x y : Int) (out : List St) : List St :=
  if s.kind = 1 then (if s.col.a = 255 then [s] else if 0 < s.col.a then out ++ [s] else out)
  else if s.kind = 2 then (if edgeP s.rect x y && decide (0 < s.col.a) then out ++ [s] else out)
  else (if s.text.toList = [] then out else out ++ [s])
def atGo (x y : Int) : List St → Bool → List Bool → List St → List St
  | [], _, _, out => out
  | s :: l, b, cl, out =>
    if s.kind = 4 then atGo x y l (b && hasR s.rect x y) (b :: cl) out
    else if s.kind = 5 then (match cl with
      | [] => []
      | c :: cl => atGo x y l c cl out)
    else atGo x y l b cl (if b && hasR s.rect x y then paintP s x y out else out)
def atL (xs : List St) (x y : Int) : List St := atGo x y xs true [] []
theorem at_cons (x y : Int) (s : St) (l : List St) (b : Bool) (cl : List Bool) (out : List St) : atGo x y (s :: l) b cl out =
    if s.kind = 4 then atGo x y l (b && hasR s.rect x y) (b :: cl) out
    else if s.kind = 5 then (match cl with
      | [] => []
      | c :: cl => atGo x y l c cl out)
    else atGo x y l b cl (if b && hasR s.rect x y then paintP s x y out else out) := by cases cl <;> rfl
theorem at_pair {c o : St} (h : pairB c o = true) (x y : Int) : ∀ (a b : List St) (f : Bool) (cl : List Bool) (out : List St), atGo x y (a ++ c :: o :: b) f cl out = atGo x y (a ++ b) f cl out
  | [], b, f, cl, out => by
    have h4 : c.kind = 4 := by unfold pairB at h; simp at h; exact h.1
    have h5 : o.kind = 5 := by unfold pairB at h; simp at h; exact h.2
    simp only [List.nil_append]
    rw [at_cons, if_pos h4, at_cons, if_neg (by omega), if_pos h5]
  | s :: a, b, f, cl, out => by
    simp only [List.cons_append]
    rw [at_cons, at_cons]
    split
    · exact at_pair h x y a b _ _ _
    · split
      · cases cl with
        | nil => rfl
        | cons d cl => exact at_pair h x y a b _ _ _
      · exact at_pair h x y a b _ _ _
theorem at_bGo (x y : Int) : ∀ (xs st : List St) (f : Bool) (cl : List Bool) (out : List St), atGo x y (bGo st xs) f cl out = atGo x y (st.reverse ++ xs) f cl out
  | [], st, f, cl, out => by cases st <;> simp [bGo]
  | s :: r, [], f, cl, out => by
    rw [bGo, at_bGo x y r [s]]
    simp
  | s :: r, c :: st, f, cl, out => by
    rw [bGo]
    cases hp : pairB c s
    · rw [if_neg (by decide), at_bGo x y r (s :: c :: st)]
      simp
    · rw [if_pos rfl, at_bGo x y r st, List.reverse_cons, List.append_assoc]
      exact (at_pair hp x y st.reverse r f cl out).symm
theorem at_busy (x y : Int) (xs : List St) : atL (busyL xs) x y = atL xs x y := by
  unfold atL busyL
  rw [at_bGo]
  simp
end Go.Proofs.Ytkmofpnefjgnkaa
