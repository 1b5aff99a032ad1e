import Derived.Test.YtmffgmegbappiaaMg13
/- Canon2: throws at a beat, rotations, comparisons, by both packages. -/
namespace Go.Proofs.Ytmffgmegbappiaa
open Go.ChangeShapes Go.WideShapes Go.ChangeAt Go.RowKit

/-- The throw at a beat. -/
def atB (l : List Int) (b : Int) : Int := nth l (b % (l.length : Int)).toNat
theorem atB_nat (l : List Int) (b : Nat) : atB l b = nth l (b % l.length) := by
  unfold atB
  rw [← Int.natCast_emod, Int.toNat_natCast]

end Go.Proofs.Ytmffgmegbappiaa

/- Canon2c: how two lists compare, by both packages. -/
namespace Go.Proofs.Ytmffgmegbappiaa
open Go.ChangeShapes Go.WideShapes Go.ChangeAt Go.RowKit

end Go.Proofs.Ytmffgmegbappiaa
