import Derived.Test.YtclffohjpbmnbaaGreatDoorMg4
import Derived.Test.YtclffohjpbmnbaaGreatDoorMg1
/- MinC: the smaller of two numbers. -/
namespace Go.Proofs.YtclffohjpbmnbaaGreatDoor
open Go.ChangeShapes Go.WideShapes Go.ChangeAt Go.RowKit

theorem l00Min_c (a b : Int) (w : World) : Calls Tryz.prog 149 #[.int .i64 a, .int .i64 b] w (Gives (.int .i64 (mn a b)) w) := by
  by_cases h : a < b
  · go_enter Tryz.func149, Tryz.ntmps149
    go_wp2
    go_ret
    exact Gives.int (by unfold mn; rw [if_neg (by omega)]) (Below.refl _ _)
  · go_enter Tryz.func149, Tryz.ntmps149
    go_wp2
    go_ret
    refine Gives.int ?_ (Below.refl _ _)
    unfold mn; split <;> omega
end Go.Proofs.YtclffohjpbmnbaaGreatDoor

/- Names: which texts are names. -/
namespace Go.Proofs.YtclffohjpbmnbaaGreatDoor
open Go.ChangeShapes Go.WideShapes Go.ChangeAt Go.RowKit

/-- The bytes of a text, as numbers. -/
def chars (s : ByteArray) : List Int := s.data.toList.map fun b => (b.toNat : Int)
theorem chars_len (s : ByteArray) : (chars s).length = s.size := by simp [chars]
theorem chars_nth (s : ByteArray) (k : Nat) (h : k < s.size) : nth (chars s) k = ((s[k]'h).toNat : Int) := by
  rw [nth_eq _ _ (by rw [chars_len]; exact h)]
  simp [chars]; rfl
theorem chars_bd (s : ByteArray) (k : Nat) : 0 ≤ nth (chars s) k ∧ nth (chars s) k ≤ 255 := by
  by_cases h : k < s.size
  · rw [chars_nth s k h]; have := (s[k]'h).toNat_lt; omega
  · have : (chars s).length ≤ k := by rw [chars_len]; omega
    simp [nth, List.getElem?_eq_none this]

def smallB (c : Int) : Bool := decide (97 ≤ c) && decide (c ≤ 122)
def digitB (c : Int) : Bool := decide (48 ≤ c) && decide (c ≤ 57)
theorem isDigit_c (c : Int) (w : World) : Calls Tryz.prog 122 #[.int .u8 c] w (Gives (.bool (digitB c)) w) := by
  by_cases h1 : 48 ≤ c <;> by_cases h2 : c ≤ 57
  all_goals
    go_enter Tryz.func122, Tryz.ntmps122
    go_wp2
    go_ret
    refine Gives.bool ?_ (Below.refl _ _)
    simp [digitB, h1, h2]
theorem l01Digit_c (c : Int) (w : World) : Calls Tryz.prog 128 #[.int .u8 c] w (Gives (.bool (digitB c)) w) := by
  by_cases h1 : 48 ≤ c <;> by_cases h2 : c ≤ 57
  all_goals
    go_enter Tryz.func128, Tryz.ntmps128
    go_wp2
    go_ret
    refine Gives.bool ?_ (Below.refl _ _)
    simp [digitB, h1, h2]

def nameTail : List Int → Bool
  | [] => true
  | c :: l => (smallB c || (digitB c || c == 45)) && nameTail l
def nameB : List Int → Bool
  | [] => false
  | c :: l => decide (l.length ≤ 11) && (smallB c && nameTail l)
theorem nameTail_step (l : List Int) (k : Nat) (h : k < l.length) : nameTail (l.drop k) = ((smallB (nth l k) || (digitB (nth l k) || nth l k == 45)) && nameTail (l.drop (k + 1))) := by
  rw [drop_nth l k h]; rfl

theorem nameB_of (s : ByteArray) (h : 0 < s.size) : nameB (chars s) = (decide (s.size ≤ 12) && (smallB (nth (chars s) 0) && nameTail ((chars s).drop 1))) := by
  have hl : (chars s).length = s.size := chars_len s
  have hd := drop_nth (chars s) 0 (by omega)
  rw [List.drop_zero] at hd
  rw [hd, nth_cons_zero, List.drop_succ_cons, List.drop_zero]
  have h2 : ((chars s).drop 1).length = s.size - 1 := by simp [hl]
  have h3 : decide (((chars s).drop (0 + 1)).length ≤ 11) = decide (s.size ≤ 12) := by rw [Nat.zero_add, h2]; exact decide_eq_decide.2 (by omega)
  show (decide (((chars s).drop (0 + 1)).length ≤ 11) && _) = _
  rw [h3]
theorem nameB_small (s : ByteArray) (h : 0 < s.size) (hs : smallB (nth (chars s) 0) = true) : nameB (chars s) = (decide (s.size ≤ 12) && nameTail (chars s)) := by
  rw [nameB_of s h]
  have hd := nameTail_step (chars s) 0 (by rw [chars_len]; exact h)
  rw [List.drop_zero] at hd
  rw [hd, hs]; rfl
theorem isEmpty_size (s : ByteArray) : s.toList.isEmpty = decide (s.size = 0) := by
  have h1 : s.toList.length = s.size := by rw [ByteArray.toList_eq]; simp
  have h2 : s.toList.isEmpty = decide (s.toList.length = 0) := by cases s.toList <;> simp
  rw [h2, h1]

def nameAt (l : List Int) (k : Nat) : Bool := if k = 0 then (smallB (nth l 0) && nameTail (l.drop 1)) else nameTail (l.drop k)
end Go.Proofs.YtclffohjpbmnbaaGreatDoor
