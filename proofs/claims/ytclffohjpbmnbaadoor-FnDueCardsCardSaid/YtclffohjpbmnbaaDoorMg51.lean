import Derived.Test.YtclffohjpbmnbaaDoorMg50
/- DrawC5: what the law on balanced plans draws. -/
namespace Go.Proofs.YtclffohjpbmnbaaDoor
open Go.ChangeShapes Go.WideShapes Go.ChangeAt Go.RowKit

end Go.Proofs.YtclffohjpbmnbaaDoor
