import Derived.Test.YtmffgmegbappiaaMg50
import Derived.Deep.RegionHeld3
/- Match2: whether a pattern matches a query, by the package impl; the law FnExactMatchesQuery. -/
namespace Go.Proofs.Ytmffgmegbappiaa
open Go.ChangeShapes Go.WideShapes Go.ChangeAt Go.RowKit

def mqB (q : Query) (p : List Int) : Bool := okQueryB q && (okPat p && matchB q p)
end Go.Proofs.Ytmffgmegbappiaa
