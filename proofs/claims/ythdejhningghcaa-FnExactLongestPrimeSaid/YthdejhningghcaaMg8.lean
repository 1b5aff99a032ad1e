import Derived.Test.YthdejhningghcaaMg2
/- MaxC: the greater of two numbers. -/
namespace Go.Proofs.Ythdejhningghcaa
open Go.ChangeShapes Go.WideShapes Go.ChangeAt Go.RowKit

end Go.Proofs.Ythdejhningghcaa
