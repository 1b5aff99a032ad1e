import Derived.Test.YtmffgmegbappiaaMg45
import Derived.Test.YtmffgmegbappiaaMg46
import Derived.Test.YtmffgmegbappiaaMg15
import Derived.Test.YtmffgmegbappiaaMg47
import Derived.Test.YtmffgmegbappiaaMg11
import Derived.Test.YtmffgmegbappiaaMg16
/- Match: whether a pattern matches a query, by both packages; the law FnExactMatchesQuery. -/
namespace Go.Proofs.Ytmffgmegbappiaa
open Go.ChangeShapes Go.WideShapes Go.ChangeAt Go.RowKit

def needF (p : List Int) : List Int → Bool
  | [] => true
  | x :: l => hasB p x && needF p l
def avoidF (p : List Int) : List Int → Bool
  | [] => true
  | x :: l => !hasB p x && avoidF p l
theorem needF_step (p l : List Int) (k : Nat) (h : k < l.length) : needF p (l.drop k) = (hasB p (nth l k) && needF p (l.drop (k + 1))) := by
  rw [drop_nth l k h]; rfl
theorem avoidF_step (p l : List Int) (k : Nat) (h : k < l.length) : avoidF p (l.drop k) = (!hasB p (nth l k) && avoidF p (l.drop (k + 1))) := by
  rw [drop_nth l k h]; rfl
def canB (q : Query) (p : List Int) : Bool := !q.canonical || same2 eqI (canL p) p
def headB (q : Query) (p : List Int) : Bool := ((p.length : Int) == q.period) && ((propsL p == q.props) && decide (maxF p 0 ≤ q.high))
def matchB (q : Query) (p : List Int) : Bool := headB q p && (canB q p && (needF p q.need && avoidF p q.avoid))
end Go.Proofs.Ytmffgmegbappiaa
