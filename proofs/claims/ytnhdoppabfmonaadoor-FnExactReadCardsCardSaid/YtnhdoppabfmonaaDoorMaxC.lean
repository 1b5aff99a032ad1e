/- MaxC: the greater of two numbers. -/
import Derived.Test.YtnhdoppabfmonaaDoorSums
namespace Go.Proofs.YtnhdoppabfmonaaDoor
open Go.ChangeShapes Go.WideShapes Go.ChangeAt Go.RowKit

end Go.Proofs.YtnhdoppabfmonaaDoor
