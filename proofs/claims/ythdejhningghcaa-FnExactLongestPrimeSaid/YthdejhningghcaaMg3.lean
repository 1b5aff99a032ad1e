import Derived.Test.YthdejhningghcaaMg1
/- Small: the small helpers on numbers of both packages. -/
namespace Go.Proofs.Ythdejhningghcaa
open Go.ChangeShapes Go.WideShapes Go.ChangeAt Go.RowKit

def inB (n a b : Int) : Bool := decide (a ≤ n) && decide (n ≤ b)
theorem inB_true {n a b : Int} (h : inB n a b = true) : a ≤ n ∧ n ≤ b := by simpa [inB] using h
theorem inB_false {n a b : Int} (h : inB n a b = false) : n < a ∨ b < n := by
  simp only [inB, Bool.and_eq_false_iff, decide_eq_false_iff_not] at h; omega
theorem l00In_c (n a b : Int) (w : World) :
    Calls Try.prog 32 #[.int .i64 n, .int .i64 a, .int .i64 b] w (Gives (.bool (inB n a b)) w) := by
  by_cases h1 : a ≤ n <;> by_cases h2 : n ≤ b
  all_goals
    go_enter Try.func32, Try.ntmps32
    go_wp2
    go_ret
    refine Gives.bool ?_ (Below.refl _ _)
    simp [inB, h1, h2]
theorem between_c (n a b : Int) (w : World) :
    Calls Try.prog 23 #[.int .i64 n, .int .i64 a, .int .i64 b] w (Gives (.bool (inB n a b)) w) := by
  by_cases h1 : a ≤ n <;> by_cases h2 : n ≤ b
  all_goals
    go_enter Try.func23, Try.ntmps23
    go_wp2
    go_ret
    refine Gives.bool ?_ (Below.refl _ _)
    simp [inB, h1, h2]

end Go.Proofs.Ythdejhningghcaa
