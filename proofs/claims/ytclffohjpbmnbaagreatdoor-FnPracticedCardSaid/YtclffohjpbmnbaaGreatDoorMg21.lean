import Derived.Test.YtclffohjpbmnbaaGreatDoorMg15
import Derived.Test.YtclffohjpbmnbaaGreatDoorMg17
import Derived.Test.YtclffohjpbmnbaaGreatDoorMg3
/- Records: the attempts that were better than all before them, by both packages. -/
namespace Go.Proofs.YtclffohjpbmnbaaGreatDoor
open Go.ChangeShapes Go.WideShapes Go.ChangeAt Go.RowKit

def recF (l : List Att) : List Int → Int → List Int
  | [], _ => []
  | x :: own, best => if best < (nth l x.toNat).catches then x :: recF l own (nth l x.toNat).catches else recF l own best
theorem recF_step (l : List Att) (own : List Int) (best : Int) (k : Nat) (h : k < own.length) : recF l (own.drop k) best = if best < (nth l (nth own k).toNat).catches then nth own k :: recF l (own.drop (k + 1)) (nth l (nth own k).toNat).catches else recF l (own.drop (k + 1)) best := by
  rw [drop_nth own k h]; rfl
theorem recF_len (l : List Att) : ∀ (own : List Int) (best : Int), (recF l own best).length ≤ own.length
  | [], _ => Nat.le_refl _
  | x :: own, best => by
    unfold recF
    split
    · have := recF_len l own (nth l x.toNat).catches; simp; omega
    · have := recF_len l own best; simp; omega
def recL (l : List Att) (p : List Int) : List Int := recF l (askL l p) (-1)
theorem recL_len (l : List Att) (p : List Int) : (recL l p).length ≤ 1099511627776 := by have := recF_len l (askL l p) (-1); have := askL_len l p; unfold recL; omega
theorem askL_no {l : List Att} {p : List Int} (h : askCode l p ≠ 0) : recL l p = [] := by unfold recL askL; rw [if_neg h]; rfl
end Go.Proofs.YtclffohjpbmnbaaGreatDoor
