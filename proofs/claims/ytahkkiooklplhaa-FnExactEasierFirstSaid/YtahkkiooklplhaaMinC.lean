/- MinC: the smaller of two numbers. -/
import Derived.Test.YtahkkiooklplhaaSums
namespace Go.Proofs.Ytahkkiooklplhaa
open Go.ChangeShapes Go.WideShapes Go.ChangeAt Go.RowKit

theorem l00Min_c (a b : Int) (w : World) : Calls Try.prog 32 #[.int .i64 a, .int .i64 b] w (Gives (.int .i64 (mn a b)) w) := by
  by_cases h : a < b
  · go_enter Try.func32, Try.ntmps32
    go_wp2
    go_ret
    exact Gives.int (by unfold mn; rw [if_neg (by omega)]) (Below.refl _ _)
  · go_enter Try.func32, Try.ntmps32
    go_wp2
    go_ret
    refine Gives.int ?_ (Below.refl _ _)
    unfold mn; split <;> omega
end Go.Proofs.Ytahkkiooklplhaa
