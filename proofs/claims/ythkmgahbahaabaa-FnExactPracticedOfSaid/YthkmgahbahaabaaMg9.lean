import Derived.Test.YthkmgahbahaabaaMg5
/- SameAtts: SameAttempts of both packages. -/
namespace Go.Proofs.Ythkmgahbahaabaa
open Go.ChangeShapes Go.WideShapes Go.ChangeAt Go.RowKit

end Go.Proofs.Ythkmgahbahaabaa
