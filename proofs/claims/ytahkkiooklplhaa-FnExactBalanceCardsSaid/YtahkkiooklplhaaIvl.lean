/- Ivl: the interval of a level, by both packages. -/
import Derived.Test.YtahkkiooklplhaaSmall
namespace Go.Proofs.Ytahkkiooklplhaa
open Go.ChangeShapes Go.WideShapes Go.ChangeAt Go.RowKit

def ivl (n : Int) : Int := if n = 0 then 1 else if n = 1 then 2 else if n = 2 then 4 else if n = 3 then 7 else if n = 4 then 14 else if n = 5 then 30 else 60
end Go.Proofs.Ytahkkiooklplhaa
