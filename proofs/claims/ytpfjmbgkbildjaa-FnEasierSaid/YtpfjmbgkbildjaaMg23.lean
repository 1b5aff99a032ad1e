import Derived.Test.YtpfjmbgkbildjaaMg22
/- CanQ: whether a pattern is its own canonical form, by the package spec. -/
namespace Go.Proofs.Ytpfjmbgkbildjaa
open Go.ChangeShapes Go.WideShapes Go.ChangeAt Go.RowKit

end Go.Proofs.Ytpfjmbgkbildjaa
