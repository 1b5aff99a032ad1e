import Derived.Test.YtmffgmegbappiaaMg11
import Derived.Test.YtmffgmegbappiaaMg10
import Derived.Test.YtmffgmegbappiaaMg16
import Derived.Deep.RegionHeld3
/- ValidQ: valid queries. -/
namespace Go.Proofs.Ytmffgmegbappiaa
open Go.ChangeShapes Go.WideShapes Go.ChangeAt Go.RowKit

def okQueryB (q : Query) : Bool := inB q.period 1 12 && (inB q.props 0 15 && (inB q.high 0 15 && (risesF (-1) q.need && (risesF (-1) q.avoid))))
theorem chain5 (b1 b2 b3 b4 b5 : Bool) : (b1 = false) ∨ (b1 = true ∧ b2 = false) ∨ (b1 = true ∧ b2 = true ∧ b3 = false) ∨ (b1 = true ∧ b2 = true ∧ b3 = true ∧ b4 = false) ∨ (b1 = true ∧ b2 = true ∧ b3 = true ∧ b4 = true ∧ b5 = b5) := by
  cases b1 <;> cases b2 <;> cases b3 <;> cases b4 <;> simp

end Go.Proofs.Ytmffgmegbappiaa
