/- CanP: canonical patterns of valid patterns, by the reference. -/
import Derived.Test.YtahkkiooklplhaaCanon3
import Derived.Test.YtahkkiooklplhaaPat
namespace Go.Proofs.Ytahkkiooklplhaa
open Go.ChangeShapes Go.WideShapes Go.ChangeAt Go.RowKit

theorem okPat_len {l : List Int} (h : okPat l = true) : 1 ≤ l.length ∧ l.length ≤ 12 := (throwsB_nth (okPat_throws h)).2
end Go.Proofs.Ytahkkiooklplhaa
