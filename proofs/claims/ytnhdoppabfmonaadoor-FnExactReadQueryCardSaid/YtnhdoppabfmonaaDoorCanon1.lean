/- Canon1: copies, repetitions, rotations, comparisons of lists of numbers, by both packages. -/
import Derived.Test.YtnhdoppabfmonaaDoorCanonL
import Derived.Test.YtnhdoppabfmonaaDoorPat
namespace Go.Proofs.YtnhdoppabfmonaaDoor
open Go.ChangeShapes Go.WideShapes Go.ChangeAt Go.RowKit

/-- The call hands back a slice of its own that reads as l. -/
def GivesInts (l : List Int) (w : World) (e : Ending) (w' : World) : Prop := ∃ a n c, e = .returned (.slice a n c) ∧ OwnInts w' w.heap.size (.slice a n c) l ∧ Below w.heap.size w w'



theorem mod_facts (a n : Int) (hn : 0 < n) (hn2 : n ≤ 1000000) : IntKind.i64.wrap (a.tmod n + n) = a.tmod n + n ∧ (a.tmod n + n).tmod n = a % n := by
  have h1 : a.tmod n < n := Int.tmod_lt_of_pos a hn
  have h2 : -n < a.tmod n := Int.lt_tmod_of_pos a hn
  refine ⟨IntWalk.i64_in _ (by omega), ?_⟩
  rw [Int.tmod_eq_emod_of_nonneg (by omega), Int.add_emod_right, Int.tmod_eq_emod]
  have hn' : ((n.natAbs : Int)) = n := by omega
  split
  · simp
  · rw [hn', Int.sub_emod, Int.emod_self, Int.sub_zero, Int.emod_emod_of_dvd _ (Int.dvd_refl n), Int.emod_emod_of_dvd _ (Int.dvd_refl n)]

end Go.Proofs.YtnhdoppabfmonaaDoor
