import Derived.Test.YthkmgahbahaabaaMg5
import Derived.Test.YthkmgahbahaabaaMg27
/- MarkAH: the marks of attempts held. -/
namespace Go.Proofs.Ythkmgahbahaabaa
open Go.ChangeShapes Go.WideShapes Go.ChangeAt Go.RowKit
theorem attMarks_nth (l : List Att) (k j : Nat) (h : j < l.length) : nth (attMarks l k) j = attMark (nth l j) (k + attsM (l.take j)) := by
  have h1 : attMarks l k = attMarks (l.take j) k ++ attMarks (l.drop j) (k + attsM (l.take j)) := by
    rw [← attMarks_append, List.take_append_drop]
  rw [h1, drop_nth l j h]
  have hl : (attMarks (l.take j) k).length = j := by rw [attMarks_len, List.length_take]; omega
  unfold nth
  rw [List.getD, List.getElem?_append_right (by omega), hl, Nat.sub_self]
  rfl
end Go.Proofs.Ythkmgahbahaabaa
