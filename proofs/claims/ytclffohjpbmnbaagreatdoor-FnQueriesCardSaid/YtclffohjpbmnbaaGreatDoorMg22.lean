import Derived.Test.YtclffohjpbmnbaaGreatDoorMg6
import Derived.Test.YtclffohjpbmnbaaGreatDoorMg20
/- MarkQ: queries that the law copies and marks. -/
namespace Go.Proofs.YtclffohjpbmnbaaGreatDoor
open Go.ChangeShapes Go.WideShapes Go.ChangeAt Go.RowKit

def InQuery (w : World) (lo hi : Nat) (q : Query) (y z : Value) : Prop := ∃ mid, lo ≤ mid ∧ mid ≤ hi ∧ InInts w lo mid y q.need ∧ InInts w mid hi z q.avoid
theorem InQuery.below {w w' : World} {lo hi : Nat} {q : Query} {y z : Value} (h : InQuery w lo hi q y z) (hb : Below w.heap.size w w') : InQuery w' lo hi q y z := by
  obtain ⟨m, h1, h2, h3, h4⟩ := h; exact ⟨m, h1, h2, h3.below hb, h4.below hb⟩
theorem InQuery.turned {w w' : World} {lo hi lo' hi' : Nat} {q : Query} {y z : Value} (h : InQuery w lo hi q y z) (ht : Turned lo' hi' w w') (hd : hi ≤ lo' ∨ hi' ≤ lo) : InQuery w' lo hi q y z := by
  obtain ⟨m, h1, h2, h3, h4⟩ := h; exact ⟨m, h1, h2, h3.turned ht (by omega), h4.turned ht (by omega)⟩
theorem InQuery.at {w : World} {lo hi : Nat} {q : Query} {y z : Value} (h : InQuery w lo hi q y z) : QAt w q y z := by
  obtain ⟨m, h1, h2, h3, h4⟩ := h; exact ⟨h3.at, h4.at⟩
theorem BoxIs.turned {w w' : World} {lo hi b : Nat} {l : List Value} (h : BoxIs w b l) (ht : Turned lo hi w w') (hd : b < lo ∨ hi ≤ b) : BoxIs w' b l :=
  ⟨Nat.lt_of_lt_of_le h.1 ht.size, fun j => (World.cell?_of_block (a := ⟨b, j, none⟩) (ht.block b h.1 hd)).trans (h.2.1 j), fun j => (World.frozen?_of_block (a := ⟨b, j, none⟩) (ht.block b h.1 hd)).trans (h.2.2 j)⟩
end Go.Proofs.YtclffohjpbmnbaaGreatDoor
