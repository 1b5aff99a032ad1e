import Derived.Test.YtmffgmegbappiaaMg6
import Derived.Test.YtmffgmegbappiaaMg1
/- MaxC: the greater of two numbers. -/
namespace Go.Proofs.Ytmffgmegbappiaa
open Go.ChangeShapes Go.WideShapes Go.ChangeAt Go.RowKit

theorem l00Max_c (a b : Int) (w : World) : Calls Try.prog 43 #[.int .i64 a, .int .i64 b] w (Gives (.int .i64 (mx a b)) w) := by
  by_cases h : b < a
  · go_enter Try.func43, Try.ntmps43
    go_wp2
    go_ret
    exact Gives.int (by unfold mx; rw [if_neg (by omega)]) (Below.refl _ _)
  · go_enter Try.func43, Try.ntmps43
    go_wp2
    go_ret
    refine Gives.int ?_ (Below.refl _ _)
    unfold mx; split <;> omega
end Go.Proofs.Ytmffgmegbappiaa

/- GivesC: what a call hands back: a list of numbers of the call's own and a code. -/
namespace Go.Proofs.Ytmffgmegbappiaa
open Go.ChangeShapes Go.WideShapes Go.ChangeAt Go.RowKit

def GivesIntsC (l : List Int) (code : Int) (w : World) (e : Ending) (w' : World) : Prop := ∃ a n c, e = .returned (.tuple #[.slice a n c, .int .i64 code]) ∧ OwnInts w' w.heap.size (.slice a n c) l ∧ Below w.heap.size w w'
theorem GivesIntsC.none {l : List Int} {c1 c2 : Int} {w w' : World} (h : l = []) (hc : c1 = c2) (hb : Below w.heap.size w w') : GivesIntsC l c1 w (.returned (.tuple #[.slice Option.none 0 0, .int .i64 c2])) w' :=
  ⟨Option.none, 0, 0, by rw [hc], by rw [h]; exact World.ownsRow_nil _ _ _ _, hb⟩
theorem GivesIntsC.mk {l : List Int} {c1 c2 : Int} {a : Option Addr} {n c : Nat} {w w' : World} (hc : c1 = c2) (ho : OwnInts w' w.heap.size (.slice a n c) l) (hb : Below w.heap.size w w') : GivesIntsC l c1 w (.returned (.tuple #[.slice a n c, .int .i64 c2])) w' :=
  ⟨a, n, c, by rw [hc], ho, hb⟩
end Go.Proofs.Ytmffgmegbappiaa
