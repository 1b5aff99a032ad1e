/- Match2: whether a pattern matches a query, by the package impl; the law FnExactMatchesQuery. -/
import Derived.Test.YtahkkiooklplhaaMatch
import Derived.Deep.RegionHeld3
namespace Go.Proofs.Ytahkkiooklplhaa
open Go.ChangeShapes Go.WideShapes Go.ChangeAt Go.RowKit

def mqB (q : Query) (p : List Int) : Bool := okQueryB q && (okPat p && matchB q p)
end Go.Proofs.Ytahkkiooklplhaa
