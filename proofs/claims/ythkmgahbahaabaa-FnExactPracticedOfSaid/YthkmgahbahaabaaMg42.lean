import Derived.Test.YthkmgahbahaabaaMg40
import Derived.Test.YthkmgahbahaabaaMg41
import Derived.Test.YthkmgahbahaabaaMg12
import Derived.Test.YthkmgahbahaabaaMg10
/- HexR: digits of throws, read and written, by both packages. -/
namespace Go.Proofs.Ythkmgahbahaabaa
open Go.ChangeShapes Go.WideShapes Go.ChangeAt Go.RowKit

def hexN (c : Int) : Int := if 48 ≤ c ∧ c ≤ 57 then c - 48 else if 97 ≤ c ∧ c ≤ 102 then c - 87 else -1
theorem hexN_hexV {t : Int} (h0 : 0 ≤ t) (h1 : t ≤ 15) : hexN (hexV t) = t := by unfold hexN hexV; split <;> split <;> (try split) <;> omega
theorem hexN_none {c : Int} (h : ∀ t : Int, 0 ≤ t → t ≤ 15 → hexV t ≠ c) : hexN c = -1 := by
  unfold hexN
  split
  · have := h (c - 48) (by omega) (by omega); unfold hexV at this; rw [if_pos (by omega)] at this; omega
  · split
    · have := h (c - 87) (by omega) (by omega); unfold hexV at this; rw [if_neg (by omega)] at this; omega
    · rfl
theorem hexN_in (c : Int) : -1 ≤ hexN c ∧ hexN c ≤ 15 := by unfold hexN; split <;> (try split) <;> omega
def digsL (s : ByteArray) : List Int := (chars s).map hexN
theorem digs_len (s : ByteArray) : (digsL s).length = s.size := by unfold digsL; rw [List.length_map, chars_len]
theorem digs_step (s : ByteArray) (k : Nat) (hk : k < s.size) : (digsL s).take (k + 1) = (digsL s).take k ++ [hexN (nth (chars s) k)] := by
  rw [take_nth _ k (by rw [digs_len]; exact hk)]
  congr 2
  unfold digsL
  rw [nth_eq _ k (by rw [List.length_map, chars_len]; exact hk), nth_eq _ k (by rw [chars_len]; exact hk), List.getElem_map]
end Go.Proofs.Ythkmgahbahaabaa
