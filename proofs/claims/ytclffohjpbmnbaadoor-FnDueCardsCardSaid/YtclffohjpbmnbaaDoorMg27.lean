import Derived.Test.YtclffohjpbmnbaaDoorMg26
import Derived.Test.YtclffohjpbmnbaaDoorMg11
/- MarkT: the text of a mark. -/
namespace Go.Proofs.YtclffohjpbmnbaaDoor
open Go.ChangeShapes Go.WideShapes Go.ChangeAt Go.RowKit

theorem Gives.str {r b : ByteArray} {w w' : World} (h : r = b) (hb : Below w.heap.size w w') : Gives (.string r) w (.returned (.string b)) w' := ⟨by rw [h], hb⟩
theorem pow_le_of_lt {a b : Nat} (h : a ≤ b) : 10 ^ a ≤ 10 ^ b := Nat.pow_le_pow_right (by omega) h
theorem markB_size (k : Nat) (h : k ≤ 1125899906842624) : (markB k).size ≤ 9223372036854775807 := by
  have := digF_size k ByteArray.empty
  unfold markB
  rw [ByteArray.size_append]
  have h1 : (ByteArray.mk #[109]).size = 1 := rfl
  have h2 : ByteArray.empty.size = 0 := rfl
  omega
end Go.Proofs.YtclffohjpbmnbaaDoor

/- MarkS: texts that the law marks, their marks held; whether two slices of texts are the same. -/
namespace Go.Proofs.YtclffohjpbmnbaaDoor
open Go.ChangeShapes Go.WideShapes Go.ChangeAt Go.RowKit

def strsM (l : List ByteArray) : Nat := l.length
def strMarks (n k : Nat) : List ByteArray := (List.range n).map fun i => markB (k + i)
theorem strMarks_len (n k : Nat) : (strMarks n k).length = n := by simp [strMarks]
def InStrs (w : World) (lo hi : Nat) (v : Value) (l : List ByteArray) : Prop := RowIn 9 1 w lo hi v l.length (l.map Value.string)
section
variable {w w' : World} {lo hi : Nat} {v : Value} {l : List ByteArray}
theorem InStrs.of (h : OwnStrs w lo v l) : InStrs w lo w.heap.size v l := RowIn.of h
theorem InStrs.below (h : InStrs w lo hi v l) (hb : Below w.heap.size w w') : InStrs w' lo hi v l := RowIn.below h hb
theorem InStrs.turned {lo' hi' : Nat} (h : InStrs w lo hi v l) (ht : Turned lo' hi' w w') (hd : hi ≤ lo' ∨ hi' ≤ lo) : InStrs w' lo hi v l := RowIn.turned h ht hd
theorem InStrs.at (h : InStrs w lo hi v l) : StrsAt w v l := OwnStrs.at h.1
end
end Go.Proofs.YtclffohjpbmnbaaDoor
