import Derived.Test.YthdejhningghcaaMg4
import Derived.Test.YthdejhningghcaaMg5
/- CanonL: roots, rotations, canonical forms of lists (plain lists, no program). -/
namespace Go.Proofs.Ythdejhningghcaa
open Go.RowKit

/-- A list, m times. -/
def repL (l : List Int) : Nat → List Int
  | 0 => []
  | m + 1 => repL l m ++ l
theorem repL_len (l : List Int) : ∀ m, (repL l m).length = m * l.length
  | 0 => by simp [repL]
  | m + 1 => by simp [repL, repL_len l m, Nat.succ_mul]
def isRoot (l : List Int) (k : Nat) : Bool := decide (l.length % k = 0) && same2 eqI (repL (l.take k) (l.length / k)) l
theorem isRoot_self (l : List Int) (h : 0 < l.length) : isRoot l l.length = true := by
  simp [isRoot, Nat.div_self h, repL, (same2_iff eqI eqI_iff l l).2 rfl]
/-- How long the root is. -/
def rootK (l : List Int) : Nat := ((List.range' 1 (l.length - 1)).find? (isRoot l)).getD l.length
theorem rootK_of (l : List Int) (k : Nat) (h1 : 1 ≤ k) (hk : k < l.length) (hr : isRoot l k = true) (hm : ∀ j, 1 ≤ j → j < k → isRoot l j = false) : rootK l = k := by
  have h : (List.range' 1 (l.length - 1)).find? (isRoot l) = some k := by
    have e : List.range' 1 (l.length - 1) = List.range' 1 (k - 1) ++ (k :: List.range' (k + 1) (l.length - 1 - k)) := by
      have h2 : l.length - 1 = (k - 1) + (1 + (l.length - 1 - k)) := by omega
      have h3 : 1 + (k - 1) = k := by omega
      rw [h2, ← List.range'_append_1, h3, Nat.add_comm 1, List.range'_succ]
      congr 3
      omega
    rw [e, List.find?_append, List.find?_eq_none.2, Option.none_or, List.find?_cons_of_pos hr]
    intro j hj
    rw [List.mem_range'_1] at hj
    rw [hm j (by omega) (by omega)]; simp
  rw [rootK, h]; rfl
theorem rootK_all (l : List Int) (hm : ∀ j, 1 ≤ j → j < l.length → isRoot l j = false) : rootK l = l.length := by
  have h : (List.range' 1 (l.length - 1)).find? (isRoot l) = none := by
    rw [List.find?_eq_none]
    intro j hj
    rw [List.mem_range'_1] at hj
    rw [hm j (by omega) (by omega)]; simp
  rw [rootK, h]; rfl
theorem rootK_le (l : List Int) : rootK l ≤ l.length := by
  unfold rootK
  cases h : (List.range' 1 (l.length - 1)).find? (isRoot l) with
  | none => simp
  | some k =>
    have := List.mem_of_find?_eq_some h
    rw [List.mem_range'_1] at this
    simp; omega
theorem rootK_pos (l : List Int) (h0 : 0 < l.length) : 0 < rootK l := by
  unfold rootK
  cases h : (List.range' 1 (l.length - 1)).find? (isRoot l) with
  | none => simpa using h0
  | some k =>
    have := List.mem_of_find?_eq_some h
    rw [List.mem_range'_1] at this
    simp; omega
def rootL (l : List Int) : List Int := l.take (rootK l)
theorem rootL_len (l : List Int) : (rootL l).length = rootK l := by have := rootK_le l; simp [rootL]; omega

/-- A list that begins later. -/
def rotL (l : List Int) (k : Nat) : List Int := (List.range l.length).map fun i => nth l ((i + k) % l.length)
theorem rotL_len (l : List Int) (k : Nat) : (rotL l k).length = l.length := by simp [rotL]
theorem rotL_zero (l : List Int) : rotL l 0 = l := by
  apply List.ext_getElem?
  intro i
  by_cases h : i < l.length
  · simp [rotL, h, Nat.mod_eq_of_lt h, nth_eq l i h]
  · rw [List.getElem?_eq_none (by rw [rotL_len]; omega), List.getElem?_eq_none (by omega)]
/-- How two lists of one length compare. -/
def cmpF : List Int → List Int → Int
  | x :: l, y :: m => if x < y then -1 else if y < x then 1 else cmpF l m
  | _, _ => 0
def cmpL (a b : List Int) : Int := if a.length < b.length then -1 else if b.length < a.length then 1 else cmpF a b
theorem cmpF_self : ∀ l : List Int, cmpF l l = 0
  | [] => rfl
  | x :: l => by simp [cmpF, cmpF_self l]
theorem cmpL_self (l : List Int) : cmpL l l = 0 := by simp [cmpL, cmpF_self]
theorem cmpF_step (l m : List Int) (k : Nat) (hl : k < l.length) (hm : k < m.length) :
    cmpF (l.drop k) (m.drop k) = if nth l k < nth m k then -1 else if nth m k < nth l k then 1 else cmpF (l.drop (k + 1)) (m.drop (k + 1)) := by
  rw [drop_nth l k hl, drop_nth m k hm]; rfl
def canStep (r best : List Int) (k : Nat) : List Int := if 0 < cmpL (rotL r k) best then rotL r k else best
def canL (l : List Int) : List Int := (List.range' 1 (rootK l - 1)).foldl (canStep (rootL l)) (rootL l)
theorem canL_zero (l : List Int) (h0 : 0 < l.length) : canL l = (List.range' 0 (rootK l)).foldl (canStep (rootL l)) (rootL l) := by
  have h := rootK_pos l h0
  have e : List.range' 0 (rootK l) = 0 :: List.range' 1 (rootK l - 1) := by
    have : rootK l = (rootK l - 1) + 1 := by omega
    rw [this, List.range'_succ]; simp
  have h2 : canStep (rootL l) (rootL l) 0 = rootL l := by
    unfold canStep
    rw [rotL_zero, cmpL_self]; rfl
  rw [e, List.foldl_cons, h2]; rfl
theorem foldl_range'_step {α : Type} (f : α → Nat → α) (a : α) (k n : Nat) (h : k < n) : (List.range' k (n - k)).foldl f a = (List.range' (k + 1) (n - (k + 1))).foldl f (f a k) := by
  have : n - k = (n - (k + 1)) + 1 := by omega
  rw [this, List.range'_succ, List.foldl_cons]
theorem foldl_range'_end {α : Type} (f : α → Nat → α) (a : α) (k n : Nat) (h : n ≤ k) : (List.range' k (n - k)).foldl f a = a := by
  have : n - k = 0 := by omega
  rw [this]; rfl
theorem canStep_len (r best : List Int) (k : Nat) (h : best.length = r.length) : (canStep r best k).length = r.length := by
  unfold canStep; split
  · exact rotL_len r k
  · exact h
theorem foldl_canStep_len (r : List Int) : ∀ (ks : List Nat) (best : List Int), best.length = r.length → (ks.foldl (canStep r) best).length = r.length
  | [], _, h => h
  | k :: ks, best, h => foldl_canStep_len r ks _ (canStep_len r best k h)
theorem canL_len (l : List Int) : (canL l).length = rootK l := by
  unfold canL; rw [foldl_canStep_len _ _ _ rfl, rootL_len]
end Go.Proofs.Ythdejhningghcaa
