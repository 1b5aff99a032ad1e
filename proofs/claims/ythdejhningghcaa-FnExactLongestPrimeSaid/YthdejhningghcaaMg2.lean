import Derived.Test.YthdejhningghcaaMg1
/- Sums: sums and means of lists of numbers. -/
namespace Go.Proofs.Ythdejhningghcaa
open Go.ChangeShapes Go.WideShapes Go.ChangeAt Go.RowKit

theorem nth_map' {α β : Type} [Inhabited α] [Inhabited β] (f : α → β) (l : List α) (i : Nat) (h : i < l.length) : nth (l.map f) i = f (nth l i) := by
  rw [nth_eq _ _ (by simpa using h), nth_eq _ _ h, List.getElem_map]
def sumF : List Int → Int → Int
  | [], s => s
  | x :: l, s => sumF l (s + x)
theorem sumF_step (l : List Int) (s : Int) (k : Nat) (h : k < l.length) : sumF (l.drop k) s = sumF (l.drop (k + 1)) (s + nth l k) := by
  rw [drop_nth l k h]; rfl
theorem sumF_in : ∀ (l : List Int) (s B : Int), (∀ x ∈ l, 0 ≤ x ∧ x ≤ B) → 0 ≤ B → s ≤ sumF l s ∧ sumF l s ≤ s + B * l.length
  | [], s, B, _, _ => by simp [sumF]
  | x :: l, s, B, h, hB => by
    have h1 := h x (List.mem_cons_self ..)
    have h2 := sumF_in l (s + x) B (fun y hy => h y (List.mem_cons_of_mem _ hy)) hB
    simp only [sumF, List.length_cons, Int.natCast_add, Int.mul_add, Int.natCast_one, Int.mul_one]
    omega
def meanL (l : List Int) : Int := sumF l 0 / (l.length : Int)
def mn (a b : Int) : Int := if b < a then b else a
def mx (a b : Int) : Int := if a < b then b else a
def maxF : List Int → Int → Int
  | [], s => s
  | x :: l, s => maxF l (mx s x)
theorem maxF_step (l : List Int) (s : Int) (k : Nat) (h : k < l.length) : maxF (l.drop k) s = maxF (l.drop (k + 1)) (mx s (nth l k)) := by
  rw [drop_nth l k h]; rfl
theorem maxF_in : ∀ (l : List Int) (s lo hi : Int), (∀ x ∈ l, lo ≤ x ∧ x ≤ hi) → lo ≤ s → s ≤ hi → lo ≤ maxF l s ∧ maxF l s ≤ hi
  | [], s, lo, hi, _, h1, h2 => ⟨h1, h2⟩
  | x :: l, s, lo, hi, h, h1, h2 => by
    have hx := h x (List.mem_cons_self ..)
    exact maxF_in l (mx s x) lo hi (fun y hy => h y (List.mem_cons_of_mem _ hy)) (by unfold mx; split <;> omega) (by unfold mx; split <;> omega)
end Go.Proofs.Ythdejhningghcaa
