import Derived.Test.YtmffgmegbappiaaMg14
import Derived.Test.YtmffgmegbappiaaMg5
import Derived.Test.YtmffgmegbappiaaMg9
import Derived.Deep.RegionHeld3
import Derived.Test.YtmffgmegbappiaaMg12
/- Canon3: roots and canonical forms, by both packages. -/
namespace Go.Proofs.Ytmffgmegbappiaa
open Go.ChangeShapes Go.WideShapes Go.ChangeAt Go.RowKit

theorem IntsC.take {w : World} {a : Option Addr} {l : List Int} (h : IntsC w a l) (k : Nat) : IntsC w a (l.take k) := by
  intro i hi
  rw [List.length_take] at hi
  obtain ⟨b, o, ha, hs, c0⟩ := h i (by omega)
  refine ⟨b, o, ha, hs, ?_⟩
  rw [c0]
  congr 2
  simp [nth, show i < k by omega]
theorem ints_cut {w : World} {a : Option Addr} {l : List Int} {cap k : Nat} (h : IntsC w a l) (hk : k ≤ l.length) (hc : l.length ≤ cap) (hm : cap ≤ 9223372036854775807) : IntsAt w (.slice a k cap) (l.take k) :=
  ⟨a, k, cap, rfl, by rw [List.length_take]; omega, by omega, hm, h.take k⟩
theorem below_of_drew {w w' : World} (h : Below w.drew.heap.size w.drew w') : Below w.heap.size w w' := ((Below.refl w.heap.size w).drew).trans h

end Go.Proofs.Ytmffgmegbappiaa

/- CanP: canonical patterns of valid patterns, by the reference. -/
namespace Go.Proofs.Ytmffgmegbappiaa
open Go.ChangeShapes Go.WideShapes Go.ChangeAt Go.RowKit

theorem okPat_len {l : List Int} (h : okPat l = true) : 1 ≤ l.length ∧ l.length ≤ 12 := (throwsB_nth (okPat_throws h)).2
end Go.Proofs.Ytmffgmegbappiaa
