import Derived.Test.YtpfjmbgkbildjaaMg34
/- Intss: lists of lists of numbers in memory: how large, a copy of them. -/
namespace Go.Proofs.Ytpfjmbgkbildjaa
open Go.ChangeShapes Go.WideShapes Go.ChangeAt Go.RowKit

def szIntssF : List (List Int) → Int → Int
  | [], left => left
  | x :: l, left => if szIntsT x left < 0 then -1 else szIntssF l (szIntsT x left)
def szIntssT (l : List (List Int)) (left : Int) : Int := if left - l.length < 0 then -1 else szIntssF l (left - l.length)
theorem szIntssF_le : ∀ (l : List (List Int)) (left : Int), 0 ≤ left → -1 ≤ szIntssF l left ∧ szIntssF l left ≤ left ∧ (0 ≤ szIntssF l left → ∀ x ∈ l, (x.length : Int) ≤ left)
  | [], left, h => ⟨by simp [szIntssF]; omega, by simp [szIntssF], fun _ c hc => by cases hc⟩
  | c :: l, left, h => by
    unfold szIntssF
    split
    · exact ⟨by omega, by omega, fun h => by omega⟩
    · rename_i hs
      have h1 := szIntsT_le c left h
      have h2 := szIntssF_le l (szIntsT c left) (by omega)
      refine ⟨h2.1, by omega, fun h3 d hd => ?_⟩
      cases hd with
      | head => exact h1.2.2 (by omega)
      | tail _ hd => have := h2.2.2 h3 d hd; omega
theorem szIntssT_le (l : List (List Int)) (left : Int) (h : 0 ≤ left) : -1 ≤ szIntssT l left ∧ szIntssT l left ≤ left ∧ (0 ≤ szIntssT l left → (l.length : Int) ≤ left ∧ ∀ x ∈ l, (x.length : Int) ≤ left) := by
  unfold szIntssT
  split
  · exact ⟨by omega, by omega, fun h => by omega⟩
  · have h2 := szIntssF_le l (left - l.length) (by omega)
    exact ⟨h2.1, by omega, fun h3 => ⟨by omega, fun c hc => by have := h2.2.2 h3 c hc; omega⟩⟩
theorem ssInfo1 : (Try.prog.info? 24).map (fun i => (i.zero, i.size, i.bytes)) = some (some (.slice none 0 0), 1, 24) := by kernel_rfl
theorem fillSS {α : Type} [Inhabited α] {enc : α → List Value} {l : List α} {k : Nat} {xs : List Value} {x : Value} (h : ∀ i, i < k → ∀ j, j < 1 → xs[i * 1 + j]? = (enc (nth l i))[j]?) (he : enc (nth l k) = [x]) (hlen : k + 1 ≤ xs.length) :
    ∀ i, i < k + 1 → ∀ j, j < 1 → (xs.set k x)[i * 1 + j]? = (enc (nth l i))[j]? := by
  intro i hi j hj
  obtain rfl : j = 0 := by omega
  by_cases hik : i < k
  · rw [List.getElem?_set_ne (by omega)]; exact h i hik 0 hj
  · obtain rfl : i = k := by omega
    rw [he, Nat.mul_one, Nat.add_zero, List.getElem?_set_self (by omega)]; rfl
end Go.Proofs.Ytpfjmbgkbildjaa
