import Derived.Test.YtpfjmbgkbildjaaMg1
import Derived.Test.YtpfjmbgkbildjaaMg22
import Derived.Test.YtpfjmbgkbildjaaMg10
import Derived.Deep.RegionHeld3
/- Valid: lists that rise within the throws; valid queries. -/
namespace Go.Proofs.Ytpfjmbgkbildjaa
open Go.ChangeShapes Go.WideShapes Go.ChangeAt Go.RowKit

def risesF : Int → List Int → Bool
  | _, [] => true
  | p, x :: l => inB x 0 15 && (decide (p < x) && risesF x l)
theorem risesF_step (l : List Int) (p : Int) (k : Nat) (h : k < l.length) : risesF p (l.drop k) = (inB (nth l k) 0 15 && (decide (p < nth l k) && risesF (nth l k) (l.drop (k + 1)))) := by
  rw [drop_nth l k h]; rfl

end Go.Proofs.Ytpfjmbgkbildjaa

/- ValidQ: valid queries. -/
namespace Go.Proofs.Ytpfjmbgkbildjaa
open Go.ChangeShapes Go.WideShapes Go.ChangeAt Go.RowKit

def okQueryB (q : Query) : Bool := inB q.period 1 12 && (inB q.props 0 15 && (inB q.high 0 15 && (risesF (-1) q.need && (risesF (-1) q.avoid))))
theorem chain5 (b1 b2 b3 b4 b5 : Bool) : (b1 = false) ∨ (b1 = true ∧ b2 = false) ∨ (b1 = true ∧ b2 = true ∧ b3 = false) ∨ (b1 = true ∧ b2 = true ∧ b3 = true ∧ b4 = false) ∨ (b1 = true ∧ b2 = true ∧ b3 = true ∧ b4 = true ∧ b5 = b5) := by
  cases b1 <;> cases b2 <;> cases b3 <;> cases b4 <;> simp

end Go.Proofs.Ytpfjmbgkbildjaa

/- Has: whether a number is in a list, by both packages. -/
namespace Go.Proofs.Ytpfjmbgkbildjaa
open Go.ChangeShapes Go.WideShapes Go.ChangeAt Go.RowKit

def hasB : List Int → Int → Bool
  | [], _ => false
  | x :: l, n => x == n || hasB l n
theorem hasB_step (l : List Int) (n : Int) (k : Nat) (h : k < l.length) : hasB (l.drop k) n = (nth l k == n || hasB (l.drop (k + 1)) n) := by
  rw [drop_nth l k h]; rfl
end Go.Proofs.Ytpfjmbgkbildjaa
