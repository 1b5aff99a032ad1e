import Derived.Test.YtmffgmegbappiaaMg44
import Derived.Test.YtmffgmegbappiaaMg13
/- CanP: canonical patterns of valid patterns, by the reference. -/
namespace Go.Proofs.Ytmffgmegbappiaa
open Go.ChangeShapes Go.WideShapes Go.ChangeAt Go.RowKit

theorem okPat_len {l : List Int} (h : okPat l = true) : 1 ≤ l.length ∧ l.length ≤ 12 := (throwsB_nth (okPat_throws h)).2
end Go.Proofs.Ytmffgmegbappiaa
