/- Canon2c: how two lists compare, by both packages. -/
import Derived.Test.YtahkkiooklplhaaCanon1
namespace Go.Proofs.Ytahkkiooklplhaa
open Go.ChangeShapes Go.WideShapes Go.ChangeAt Go.RowKit

end Go.Proofs.Ytahkkiooklplhaa
