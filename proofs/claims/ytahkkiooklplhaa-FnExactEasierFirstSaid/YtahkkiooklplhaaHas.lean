/- Has: whether a number is in a list, by both packages. -/
import Derived.Test.YtahkkiooklplhaaBase
namespace Go.Proofs.Ytahkkiooklplhaa
open Go.ChangeShapes Go.WideShapes Go.ChangeAt Go.RowKit

def hasB : List Int → Int → Bool
  | [], _ => false
  | x :: l, n => x == n || hasB l n
theorem hasB_step (l : List Int) (n : Int) (k : Nat) (h : k < l.length) : hasB (l.drop k) n = (nth l k == n || hasB (l.drop (k + 1)) n) := by
  rw [drop_nth l k h]; rfl
end Go.Proofs.Ytahkkiooklplhaa
