import Derived.Test.YtcgbdhbdlnimhaaGreatMg25
import Derived.Test.YtcgbdhbdlnimhaaGreatMg28
import Derived.Test.YtcgbdhbdlnimhaaGreatMg4
import Derived.Test.YtcgbdhbdlnimhaaGreatMg6
/- LawValidItems: the walk of the law FnExactValidItems, and its row. -/
namespace Go.Proofs.YtcgbdhbdlnimhaaGreat
open Go.ChangeShapes Go.WideShapes Go.ChangeAt Go.RowKit

theorem sValidItems_c (v : Value) (l : List Item) (w : World) (hv : ItemsAt w v l) :
    Calls Tryz.prog 17 #[v] w (Gives (.bool (okItems l)) w) := by
  have HQ := Lib.hid (l22Ok_c v l w hv); clear hv
  go_enter Tryz.func17, Tryz.ntmps17
  go_wp2_with fail
  refine HQ.out.mono ?_
  rintro e w1 ⟨rfl, hb1⟩
  go_wp2
  go_ret
  exact Gives.bool rfl hb1
end Go.Proofs.YtcgbdhbdlnimhaaGreat
