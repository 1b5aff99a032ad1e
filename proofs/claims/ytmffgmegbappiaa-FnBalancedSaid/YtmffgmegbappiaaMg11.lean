import Derived.Test.YtmffgmegbappiaaMg5
import Derived.Test.YtmffgmegbappiaaMg1
/- Valid: lists that rise within the throws; valid queries. -/
namespace Go.Proofs.Ytmffgmegbappiaa
open Go.ChangeShapes Go.WideShapes Go.ChangeAt Go.RowKit

def risesF : Int → List Int → Bool
  | _, [] => true
  | p, x :: l => inB x 0 15 && (decide (p < x) && risesF x l)
theorem risesF_step (l : List Int) (p : Int) (k : Nat) (h : k < l.length) : risesF p (l.drop k) = (inB (nth l k) 0 15 && (decide (p < nth l k) && risesF (nth l k) (l.drop (k + 1)))) := by
  rw [drop_nth l k h]; rfl

end Go.Proofs.Ytmffgmegbappiaa

/- Has: whether a number is in a list, by both packages. -/
namespace Go.Proofs.Ytmffgmegbappiaa
open Go.ChangeShapes Go.WideShapes Go.ChangeAt Go.RowKit

def hasB : List Int → Int → Bool
  | [], _ => false
  | x :: l, n => x == n || hasB l n
theorem hasB_step (l : List Int) (n : Int) (k : Nat) (h : k < l.length) : hasB (l.drop k) n = (nth l k == n || hasB (l.drop (k + 1)) n) := by
  rw [drop_nth l k h]; rfl
end Go.Proofs.Ytmffgmegbappiaa
