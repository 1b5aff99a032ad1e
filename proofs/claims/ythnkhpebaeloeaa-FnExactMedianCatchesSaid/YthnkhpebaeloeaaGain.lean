/- Gain: means of catches, by both packages; the law FnExactGainOf. -/
import Derived.Test.YthnkhpebaeloeaaAsk2
import Derived.Test.YthnkhpebaeloeaaSums
import Derived.Test.YthnkhpebaeloeaaOpenAtts
namespace Go.Proofs.Ythnkhpebaeloeaa
open Go.ChangeShapes Go.WideShapes Go.ChangeAt Go.RowKit

/-- The catches of attempts. -/
def catL (l : List Att) (own : List Int) : List Int := own.map fun i => (nth l i.toNat).catches
theorem catL_len (l : List Att) (own : List Int) : (catL l own).length = own.length := by simp [catL]
theorem meanL_in (l : List Int) (h : ∀ x ∈ l, 0 ≤ x ∧ x ≤ 100000) (h100 : l.length ≤ 100) : 0 ≤ meanL l ∧ meanL l ≤ 10000000 := by
  have h2 := sumF_in l 0 100000 h (by omega)
  unfold meanL
  refine ⟨Int.ediv_nonneg (by omega) (by omega), Int.le_trans (Int.ediv_le_self _ (by omega)) (by omega)⟩

end Go.Proofs.Ythnkhpebaeloeaa
