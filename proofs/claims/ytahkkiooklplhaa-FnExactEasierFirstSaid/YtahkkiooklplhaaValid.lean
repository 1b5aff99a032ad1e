/- Valid: lists that rise within the throws; valid queries. -/
import Derived.Test.YtahkkiooklplhaaInts
import Derived.Test.YtahkkiooklplhaaSmall
namespace Go.Proofs.Ytahkkiooklplhaa
open Go.ChangeShapes Go.WideShapes Go.ChangeAt Go.RowKit

def risesF : Int → List Int → Bool
  | _, [] => true
  | p, x :: l => inB x 0 15 && (decide (p < x) && risesF x l)
theorem risesF_step (l : List Int) (p : Int) (k : Nat) (h : k < l.length) : risesF p (l.drop k) = (inB (nth l k) 0 15 && (decide (p < nth l k) && risesF (nth l k) (l.drop (k + 1)))) := by
  rw [drop_nth l k h]; rfl

end Go.Proofs.Ytahkkiooklplhaa
