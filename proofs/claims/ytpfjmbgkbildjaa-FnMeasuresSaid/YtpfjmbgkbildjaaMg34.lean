import Derived.Test.YtpfjmbgkbildjaaMg16
import Derived.Test.YtpfjmbgkbildjaaMg3
/- CanP: canonical patterns of valid patterns, by the reference. -/
namespace Go.Proofs.Ytpfjmbgkbildjaa
open Go.ChangeShapes Go.WideShapes Go.ChangeAt Go.RowKit

theorem okPat_len {l : List Int} (h : okPat l = true) : 1 ≤ l.length ∧ l.length ≤ 12 := (throwsB_nth (okPat_throws h)).2
end Go.Proofs.Ytpfjmbgkbildjaa
