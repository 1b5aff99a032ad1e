/- CanQ: whether a pattern is its own canonical form, by the package spec. -/
import Derived.Test.YtahkkiooklplhaaCanP
namespace Go.Proofs.Ytahkkiooklplhaa
open Go.ChangeShapes Go.WideShapes Go.ChangeAt Go.RowKit

end Go.Proofs.Ytahkkiooklplhaa
