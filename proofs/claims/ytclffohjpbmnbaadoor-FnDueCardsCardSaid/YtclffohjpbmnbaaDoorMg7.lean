import Derived.Test.YtclffohjpbmnbaaDoorMg6
import Derived.Test.YtclffohjpbmnbaaDoorMg1
/- MaxC: the greater of two numbers. -/
namespace Go.Proofs.YtclffohjpbmnbaaDoor
open Go.ChangeShapes Go.WideShapes Go.ChangeAt Go.RowKit

end Go.Proofs.YtclffohjpbmnbaaDoor

/- GivesC: what a call hands back: a list of numbers of the call's own and a code. -/
namespace Go.Proofs.YtclffohjpbmnbaaDoor
open Go.ChangeShapes Go.WideShapes Go.ChangeAt Go.RowKit

def GivesIntsC (l : List Int) (code : Int) (w : World) (e : Ending) (w' : World) : Prop := ∃ a n c, e = .returned (.tuple #[.slice a n c, .int .i64 code]) ∧ OwnInts w' w.heap.size (.slice a n c) l ∧ Below w.heap.size w w'
theorem GivesIntsC.none {l : List Int} {c1 c2 : Int} {w w' : World} (h : l = []) (hc : c1 = c2) (hb : Below w.heap.size w w') : GivesIntsC l c1 w (.returned (.tuple #[.slice Option.none 0 0, .int .i64 c2])) w' :=
  ⟨Option.none, 0, 0, by rw [hc], by rw [h]; exact World.ownsRow_nil _ _ _ _, hb⟩
theorem GivesIntsC.mk {l : List Int} {c1 c2 : Int} {a : Option Addr} {n c : Nat} {w w' : World} (hc : c1 = c2) (ho : OwnInts w' w.heap.size (.slice a n c) l) (hb : Below w.heap.size w w') : GivesIntsC l c1 w (.returned (.tuple #[.slice a n c, .int .i64 c2])) w' :=
  ⟨a, n, c, by rw [hc], ho, hb⟩
end Go.Proofs.YtclffohjpbmnbaaDoor
