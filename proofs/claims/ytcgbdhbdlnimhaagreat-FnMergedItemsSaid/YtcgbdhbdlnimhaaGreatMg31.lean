import Derived.Test.YtcgbdhbdlnimhaaGreatMg1
import Derived.Test.YtcgbdhbdlnimhaaGreatMg2
import Derived.Laws.BytesArg
/- TextL: plain: texts as lists of bytes, put together, cut apart. -/
namespace Go.Proofs.YtcgbdhbdlnimhaaGreat
open Go.ChangeShapes Go.WideShapes Go.ChangeAt Go.RowKit

theorem strOf_append (a b : List Int) : strOfNums (a ++ b) = strOfNums a ++ strOfNums b := by
  apply ByteArray.ext
  rw [ByteArray.data_append]
  simp [strOfNums]
theorem strOf_nil : strOfNums [] = ByteArray.empty := rfl
theorem strOf_chars (s : ByteArray) : strOfNums (chars s) = s := by
  apply ByteArray.ext
  unfold strOfNums chars
  apply Array.toList_inj.1
  simp only [List.map_map]
  conv => rhs; rw [← List.map_id s.data.toList]
  apply List.map_congr_left
  intro x _
  simp [Function.comp]
theorem chars_strOf {l : List Int} (h : ∀ x ∈ l, 0 ≤ x ∧ x ≤ 255) : chars (strOfNums l) = l := by
  unfold chars
  rw [strOfNums_data, List.map_map]
  conv => rhs; rw [← List.map_id l]
  apply List.map_congr_left
  intro x hx
  have := h x hx
  simp only [Function.comp, UInt8.toNat_ofNat', id]
  omega
theorem chars_append (a b : ByteArray) : chars (a ++ b) = chars a ++ chars b := by
  unfold chars; rw [ByteArray.data_append]; simp
theorem chars_extract (s : ByteArray) (i j : Nat) : chars (s.extract i j) = ((chars s).take j).drop i := by
  unfold chars
  simp [ByteArray.data_extract, List.map_take, List.map_drop, Array.toList_extract, List.extract, List.drop_take]
theorem chars_inj {a b : ByteArray} (h : chars a = chars b) : a = b := by
  rw [← strOf_chars a, h, strOf_chars]
theorem chars_in (s : ByteArray) : ∀ x ∈ chars s, 0 ≤ x ∧ x ≤ 255 := by
  intro x hx
  obtain ⟨b, _, rfl⟩ := List.mem_map.1 hx
  have := b.toNat_lt
  omega
/-! ### Cut apart -/
def splitL (c : Int) : List Int → List (List Int)
  | [] => [[]]
  | x :: l => if x = c then [] :: splitL c l else (x :: (splitL c l).headD []) :: (splitL c l).tail
theorem splitL_eq (c : Int) (l : List Int) : splitL c (c :: l) = [] :: splitL c l := by rw [splitL, if_pos rfl]
theorem splitL_neq {c x : Int} (h : x ≠ c) (l : List Int) : splitL c (x :: l) = (x :: (splitL c l).headD []) :: (splitL c l).tail := by rw [splitL, if_neg h]
def preL (p : List Int) (ls : List (List Int)) : List (List Int) := (p ++ ls.headD []) :: ls.tail
theorem splitL_ne (c : Int) : ∀ l, splitL c l ≠ []
  | [] => by simp [splitL]
  | x :: l => by unfold splitL; split <;> simp
theorem preL_nil {ls : List (List Int)} (h : ls ≠ []) : preL [] ls = ls := by
  cases ls with
  | nil => exact absurd rfl h
  | cons a b => simp [preL]
theorem preL_preL (p q : List Int) (ls : List (List Int)) : preL p (preL q ls) = preL (p ++ q) ls := by simp [preL]
theorem split_hit {c : Int} {l : List Int} {k : Nat} (hk : k < l.length) (h : nth l k = c) : splitL c (l.drop k) = [] :: splitL c (l.drop (k + 1)) := by
  rw [drop_nth l k hk, h, splitL_eq]
theorem split_miss {c : Int} {l : List Int} {k : Nat} (hk : k < l.length) (h : nth l k ≠ c) : splitL c (l.drop k) = preL [nth l k] (splitL c (l.drop (k + 1))) := by
  rw [drop_nth l k hk, splitL_neq h]; rfl
/-- The place of the first c, and the length where there is none. -/
def findL (c : Int) : List Int → Nat
  | [] => 0
  | x :: l => if x = c then 0 else findL c l + 1
theorem findL_eq (c : Int) (l : List Int) : findL c (c :: l) = 0 := by rw [findL, if_pos rfl]
theorem findL_neq {c x : Int} (h : x ≠ c) (l : List Int) : findL c (x :: l) = findL c l + 1 := by rw [findL, if_neg h]
theorem findL_le (c : Int) : ∀ l, findL c l ≤ l.length
  | [] => Nat.le_refl _
  | x :: l => by unfold findL; split; exact Nat.zero_le _; have := findL_le c l; simp; omega
theorem findL_step {c : Int} {l : List Int} {k : Nat} (hk : k < l.length) (h : nth l k ≠ c) : k + findL c (l.drop k) = k + 1 + findL c (l.drop (k + 1)) := by
  rw [drop_nth l k hk, findL_neq h]; omega
theorem findL_hit {c : Int} {l : List Int} {k : Nat} (hk : k < l.length) (h : nth l k = c) : findL c (l.drop k) = 0 := by
  rw [drop_nth l k hk, h, findL_eq]
theorem split_first (c : Int) : ∀ l, splitL c l = if findL c l < l.length then l.take (findL c l) :: splitL c (l.drop (findL c l + 1)) else [l]
  | [] => by simp [splitL, findL]
  | x :: l => by
    by_cases h : x = c
    · subst h
      rw [splitL_eq, findL_eq, if_pos (by simp)]; simp
    · rw [splitL_neq h, findL_neq h, split_first c l]
      by_cases h2 : findL c l < l.length
      · rw [if_pos h2, if_pos (by simp; omega)]; simp
      · rw [if_neg h2, if_neg (by simp; omega)]; simp
/-- The parts put together again. -/
def joinL (c : Int) : List (List Int) → List Int
  | [] => []
  | [p] => p
  | p :: q :: r => p ++ c :: joinL c (q :: r)
theorem joinL_cons (c : Int) (p : List Int) {r : List (List Int)} (h : r ≠ []) : joinL c (p :: r) = p ++ c :: joinL c r := by
  cases r with
  | nil => exact absurd rfl h
  | cons a b => rfl
theorem joinL_pre (c : Int) (x : Int) (r : List (List Int)) (h : r ≠ []) : joinL c ((x :: r.headD []) :: r.tail) = x :: joinL c r := by
  cases r with
  | nil => exact absurd rfl h
  | cons a b =>
    cases b with
    | nil => rfl
    | cons d e => rfl
theorem join_split (c : Int) : ∀ l, joinL c (splitL c l) = l
  | [] => rfl
  | x :: l => by
    unfold splitL
    split
    · rename_i h; rw [joinL_cons c [] (splitL_ne c l), join_split c l, h]; rfl
    · rw [joinL_pre c x _ (splitL_ne c l), join_split c l]
end Go.Proofs.YtcgbdhbdlnimhaaGreat
