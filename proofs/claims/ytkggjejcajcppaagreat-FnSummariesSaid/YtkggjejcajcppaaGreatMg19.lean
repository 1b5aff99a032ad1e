import Derived.Test.YtkggjejcajcppaaGreatMg18
/- MarkI: numbers that the law marks, and their marks held. -/
namespace Go.Proofs.YtkggjejcajcppaaGreat
open Go.ChangeShapes Go.WideShapes Go.ChangeAt Go.RowKit

def intsM (l : List Int) : Nat := l.length
def intMarks (n k : Nat) : List Int := (List.range n).map fun i => ((k + i : Nat) : Int)
theorem intMarks_len (n k : Nat) : (intMarks n k).length = n := by simp [intMarks]
def InInts (w : World) (lo hi : Nat) (v : Value) (l : List Int) : Prop := RowIn 2 1 w lo hi v l.length (l.map (Value.int .i64))
section
variable {w w' : World} {lo hi : Nat} {v : Value} {l : List Int}
theorem InInts.of (h : OwnInts w lo v l) : InInts w lo w.heap.size v l := RowIn.of h
theorem InInts.below (h : InInts w lo hi v l) (hb : Below w.heap.size w w') : InInts w' lo hi v l := RowIn.below h hb
theorem InInts.turned {lo' hi' : Nat} (h : InInts w lo hi v l) (ht : Turned lo' hi' w w') (hd : hi ≤ lo' ∨ hi' ≤ lo) : InInts w' lo hi v l := RowIn.turned h ht hd
theorem InInts.at (h : InInts w lo hi v l) : IntsAt w v l := OwnInts.at h.1
end
end Go.Proofs.YtkggjejcajcppaaGreat
