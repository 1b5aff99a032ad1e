import Derived.Test.YtcgbdhbdlnimhaaGreatMg2
import Derived.Test.YtcgbdhbdlnimhaaGreatMg15
import Derived.Test.YtcgbdhbdlnimhaaGreatMg16
import Derived.Test.YtcgbdhbdlnimhaaGreatMg9
/- MarkJ: items that the law marks, and their marks held. -/
namespace Go.Proofs.YtcgbdhbdlnimhaaGreat
open Go.ChangeShapes Go.WideShapes Go.ChangeAt Go.RowKit

def itemsM : List Item → Nat
  | [] => 0
  | x :: l => x.pattern.length + 1 + itemsM l
def itemMark (x : Item) (k : Nat) : Item := ⟨markB k, intMarks x.pattern.length (k + 1)⟩
def itemMarks : List Item → Nat → List Item
  | [], _ => []
  | x :: l, k => itemMark x k :: itemMarks l (k + (x.pattern.length + 1))
theorem itemMarks_append : ∀ (l m : List Item) (k : Nat), itemMarks (l ++ m) k = itemMarks l k ++ itemMarks m (k + itemsM l)
  | [], m, k => by simp [itemMarks, itemsM]
  | x :: l, m, k => by simp [itemMarks, itemsM, itemMarks_append l m, Nat.add_assoc]
theorem itemsM_append : ∀ (l m : List Item), itemsM (l ++ m) = itemsM l + itemsM m
  | [], m => by simp [itemsM]
  | x :: l, m => by simp [itemsM, itemsM_append l m, Nat.add_assoc]
theorem itemMarks_len : ∀ (l : List Item) (k : Nat), (itemMarks l k).length = l.length
  | [], _ => rfl
  | x :: l, k => by simp [itemMarks, itemMarks_len l]
def InItems (w : World) (lo hi : Nat) (v : Value) (l : List Item) : Prop := InNest itemS 62 w lo hi v l
section
variable {w w' : World} {lo hi : Nat} {v : Value} {l : List Item}
theorem InItems.of (h : OwnItems w lo v l) : InItems w lo w.heap.size v l := InNest.of h
theorem InItems.below (h : InItems w lo hi v l) (hb : Below w.heap.size w w') : InItems w' lo hi v l := InNest.below h hb
theorem InItems.turned {lo' hi' : Nat} (h : InItems w lo hi v l) (ht : Turned lo' hi' w w') (hd : hi ≤ lo' ∨ hi' ≤ lo) : InItems w' lo hi v l := InNest.turned h ht hd
theorem InItems.at (h : InItems w lo hi v l) : ItemsAt w v l := InNest.at h
end
theorem itemMarks_step (l : List Item) (k j : Nat) (h : j < l.length) : itemMarks (l.take (j + 1)) k = itemMarks (l.take j) k ++ [itemMark (nth l j) (k + itemsM (l.take j))] := by
  rw [take_nth l j h, itemMarks_append]; rfl
theorem itemsM_step (l : List Item) (j : Nat) (h : j < l.length) : itemsM (l.take (j + 1)) = itemsM (l.take j) + ((nth l j).pattern.length + 1) := by
  rw [take_nth l j h, itemsM_append]; simp [itemsM]
theorem itemsM_le : ∀ (l : List Item), (∀ x ∈ l, x.pattern.length ≤ 1048576) → itemsM l ≤ l.length * 1048577
  | [], _ => by simp [itemsM]
  | x :: l, h => by
    have h1 := h x (List.mem_cons_self ..)
    have h2 := itemsM_le l (fun y hy => h y (List.mem_cons_of_mem _ hy))
    simp only [itemsM, List.length_cons, Nat.succ_mul]
    omega
theorem itemMarks_nth (l : List Item) (k j : Nat) (h : j < l.length) : nth (itemMarks l k) j = itemMark (nth l j) (k + itemsM (l.take j)) := by
  have h1 : itemMarks l k = itemMarks (l.take j) k ++ itemMarks (l.drop j) (k + itemsM (l.take j)) := by
    rw [← itemMarks_append, List.take_append_drop]
  rw [h1, drop_nth l j h]
  have hl : (itemMarks (l.take j) k).length = j := by rw [itemMarks_len, List.length_take]; omega
  unfold nth
  rw [List.getD, List.getElem?_append_right (by omega), hl, Nat.sub_self]
  rfl
end Go.Proofs.YtcgbdhbdlnimhaaGreat

/- MarkS: texts that the law marks, their marks held; whether two slices of texts are the same. -/
namespace Go.Proofs.YtcgbdhbdlnimhaaGreat
open Go.ChangeShapes Go.WideShapes Go.ChangeAt Go.RowKit

def strsM (l : List ByteArray) : Nat := l.length
def strMarks (n k : Nat) : List ByteArray := (List.range n).map fun i => markB (k + i)
theorem strMarks_len (n k : Nat) : (strMarks n k).length = n := by simp [strMarks]
def InStrs (w : World) (lo hi : Nat) (v : Value) (l : List ByteArray) : Prop := RowIn 9 1 w lo hi v l.length (l.map Value.string)
section
variable {w w' : World} {lo hi : Nat} {v : Value} {l : List ByteArray}
theorem InStrs.of (h : OwnStrs w lo v l) : InStrs w lo w.heap.size v l := RowIn.of h
theorem InStrs.below (h : InStrs w lo hi v l) (hb : Below w.heap.size w w') : InStrs w' lo hi v l := RowIn.below h hb
theorem InStrs.turned {lo' hi' : Nat} (h : InStrs w lo hi v l) (ht : Turned lo' hi' w w') (hd : hi ≤ lo' ∨ hi' ≤ lo) : InStrs w' lo hi v l := RowIn.turned h ht hd
theorem InStrs.at (h : InStrs w lo hi v l) : StrsAt w v l := OwnStrs.at h.1
end
end Go.Proofs.YtcgbdhbdlnimhaaGreat
