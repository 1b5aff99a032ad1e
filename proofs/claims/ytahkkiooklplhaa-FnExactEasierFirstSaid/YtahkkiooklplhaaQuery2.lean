/- Query2: a copy of a query. -/
import Derived.Test.YtahkkiooklplhaaQuery
namespace Go.Proofs.Ytahkkiooklplhaa
open Go.ChangeShapes Go.WideShapes Go.ChangeAt Go.RowKit

end Go.Proofs.Ytahkkiooklplhaa
