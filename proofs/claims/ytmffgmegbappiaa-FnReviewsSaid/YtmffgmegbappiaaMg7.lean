import Derived.Test.YtmffgmegbappiaaMg5
import Derived.Test.YtmffgmegbappiaaMg1
/- MinC: the smaller of two numbers. -/
namespace Go.Proofs.Ytmffgmegbappiaa
open Go.ChangeShapes Go.WideShapes Go.ChangeAt Go.RowKit

theorem l00Min_c (a b : Int) (w : World) : Calls Try.prog 45 #[.int .i64 a, .int .i64 b] w (Gives (.int .i64 (mn a b)) w) := by
  by_cases h : a < b
  · go_enter Try.func45, Try.ntmps45
    go_wp2
    go_ret
    exact Gives.int (by unfold mn; rw [if_neg (by omega)]) (Below.refl _ _)
  · go_enter Try.func45, Try.ntmps45
    go_wp2
    go_ret
    refine Gives.int ?_ (Below.refl _ _)
    unfold mn; split <;> omega
end Go.Proofs.Ytmffgmegbappiaa

/- Ints: slices of numbers: whether two are equal, a copy, how long they are. -/
namespace Go.Proofs.Ytmffgmegbappiaa
open Go.ChangeShapes Go.WideShapes Go.ChangeAt Go.RowKit

def eqI (a b : Int) : Bool := a == b
theorem eqI_iff (a b : Int) : eqI a b = true ↔ a = b := by simp [eqI]
theorem eqI_ne {a b : Int} : eqI a b = false → (a != b) = true := by unfold eqI; intro h; simpa using h
theorem eqI_eq {a b : Int} : eqI a b = true → (a != b) = false := by unfold eqI; intro h; simpa using h

def szIntsT (l : List Int) (left : Int) : Int := if left - l.length < 0 then -1 else left - l.length
theorem szIntsT_le (l : List Int) (left : Int) (h : 0 ≤ left) : -1 ≤ szIntsT l left ∧ szIntsT l left ≤ left ∧ (0 ≤ szIntsT l left → (l.length : Int) ≤ left) := by
  unfold szIntsT
  split <;> omega
theorem intInfo : (Try.prog.info? 2).map (fun i => (i.zero, i.size, i.bytes)) = some (some (.int .i64 0), 1, 8) := by kernel_rfl
end Go.Proofs.Ytmffgmegbappiaa
