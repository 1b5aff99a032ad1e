import Derived.Test.YtpfjmbgkbildjaaMg4
import Derived.Test.YtpfjmbgkbildjaaMg1
import Derived.Test.YtpfjmbgkbildjaaMg2
/- MaxC: the greater of two numbers. -/
namespace Go.Proofs.Ytpfjmbgkbildjaa
open Go.ChangeShapes Go.WideShapes Go.ChangeAt Go.RowKit

theorem l00Max_c (a b : Int) (w : World) : Calls Try.prog 92 #[.int .i64 a, .int .i64 b] w (Gives (.int .i64 (mx a b)) w) := by
  by_cases h : b < a
  · go_enter Try.func92, Try.ntmps92
    go_wp2
    go_ret
    exact Gives.int (by unfold mx; rw [if_neg (by omega)]) (Below.refl _ _)
  · go_enter Try.func92, Try.ntmps92
    go_wp2
    go_ret
    refine Gives.int ?_ (Below.refl _ _)
    unfold mx; split <;> omega
end Go.Proofs.Ytpfjmbgkbildjaa

/- Valid: lists that rise within the throws; valid queries. -/
namespace Go.Proofs.Ytpfjmbgkbildjaa
open Go.ChangeShapes Go.WideShapes Go.ChangeAt Go.RowKit

def risesF : Int → List Int → Bool
  | _, [] => true
  | p, x :: l => inB x 0 15 && (decide (p < x) && risesF x l)
theorem risesF_step (l : List Int) (p : Int) (k : Nat) (h : k < l.length) : risesF p (l.drop k) = (inB (nth l k) 0 15 && (decide (p < nth l k) && risesF (nth l k) (l.drop (k + 1)))) := by
  rw [drop_nth l k h]; rfl

end Go.Proofs.Ytpfjmbgkbildjaa
