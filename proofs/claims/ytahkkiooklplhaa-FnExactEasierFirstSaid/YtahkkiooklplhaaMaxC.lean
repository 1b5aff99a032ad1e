/- MaxC: the greater of two numbers. -/
import Derived.Test.YtahkkiooklplhaaSums
namespace Go.Proofs.Ytahkkiooklplhaa
open Go.ChangeShapes Go.WideShapes Go.ChangeAt Go.RowKit

theorem l00Max_c (a b : Int) (w : World) : Calls Try.prog 100 #[.int .i64 a, .int .i64 b] w (Gives (.int .i64 (mx a b)) w) := by
  by_cases h : b < a
  · go_enter Try.func100, Try.ntmps100
    go_wp2
    go_ret
    exact Gives.int (by unfold mx; rw [if_neg (by omega)]) (Below.refl _ _)
  · go_enter Try.func100, Try.ntmps100
    go_wp2
    go_ret
    refine Gives.int ?_ (Below.refl _ _)
    unfold mx; split <;> omega
end Go.Proofs.Ytahkkiooklplhaa
