import Derived.Test.YtpfjmbgkbildjaaMg1
import Derived.Test.YtpfjmbgkbildjaaMg4
/- Has: whether a number is in a list, by both packages. -/
namespace Go.Proofs.Ytpfjmbgkbildjaa
open Go.ChangeShapes Go.WideShapes Go.ChangeAt Go.RowKit

def hasB : List Int → Int → Bool
  | [], _ => false
  | x :: l, n => x == n || hasB l n
theorem hasB_step (l : List Int) (n : Int) (k : Nat) (h : k < l.length) : hasB (l.drop k) n = (nth l k == n || hasB (l.drop (k + 1)) n) := by
  rw [drop_nth l k h]; rfl
end Go.Proofs.Ytpfjmbgkbildjaa

/- MinC: the smaller of two numbers. -/
namespace Go.Proofs.Ytpfjmbgkbildjaa
open Go.ChangeShapes Go.WideShapes Go.ChangeAt Go.RowKit

theorem l00Min_c (a b : Int) (w : World) : Calls Try.prog 76 #[.int .i64 a, .int .i64 b] w (Gives (.int .i64 (mn a b)) w) := by
  by_cases h : a < b
  · go_enter Try.func76, Try.ntmps76
    go_wp2
    go_ret
    exact Gives.int (by unfold mn; rw [if_neg (by omega)]) (Below.refl _ _)
  · go_enter Try.func76, Try.ntmps76
    go_wp2
    go_ret
    refine Gives.int ?_ (Below.refl _ _)
    unfold mn; split <;> omega
end Go.Proofs.Ytpfjmbgkbildjaa
