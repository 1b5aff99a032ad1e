import Derived.Test.YtmffgmegbappiaaMg47
/- CanQ: whether a pattern is its own canonical form, by the package spec. -/
namespace Go.Proofs.Ytmffgmegbappiaa
open Go.ChangeShapes Go.WideShapes Go.ChangeAt Go.RowKit

end Go.Proofs.Ytmffgmegbappiaa
