import Derived.Test.YtclffohjpbmnbaaGreatDoorMg16
import Derived.Test.YtclffohjpbmnbaaGreatDoorMg5
import Derived.Test.YtclffohjpbmnbaaGreatDoorMg17
/- MedS: the catches of the attempts at a pattern in rising order, by the package spec. -/
namespace Go.Proofs.YtclffohjpbmnbaaGreatDoor
open Go.ChangeShapes Go.WideShapes Go.ChangeAt Go.RowKit

theorem insAll_step {α : Type} [Inhabited α] (lt : α → α → Bool) (l acc : List α) (k : Nat) (h : k < l.length) : insAll lt (l.drop k) acc = insAll lt (l.drop (k + 1)) (insB lt acc (nth l k)) := by
  rw [drop_nth l k h]; rfl
theorem posB_step {α : Type} [Inhabited α] (lt : α → α → Bool) (l : List α) (x : α) (p : Nat) : posB lt l x (p + 1) = if lt x (nth l p) then posB lt l x p else p + 1 := rfl

end Go.Proofs.YtclffohjpbmnbaaGreatDoor
