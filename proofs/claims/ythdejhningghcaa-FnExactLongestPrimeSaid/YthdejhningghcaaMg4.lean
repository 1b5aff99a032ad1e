import Derived.Test.YthdejhningghcaaMg1
import Derived.Test.YthdejhningghcaaMg3
/- PatL: which lists of numbers are patterns (plain lists, no program). -/
namespace Go.Proofs.Ythdejhningghcaa
open Go.RowKit

def throwsF : List Int → Bool
  | [] => true
  | t :: l => inB t 0 15 && throwsF l
def throwsB (l : List Int) : Bool := throwsF l && inB l.length 1 12
theorem throwsF_step (l : List Int) (k : Nat) (h : k < l.length) : throwsF (l.drop k) = (inB (nth l k) 0 15 && throwsF (l.drop (k + 1))) := by
  rw [drop_nth l k h]; rfl
theorem throwsF_mem : ∀ (l : List Int), throwsF l = true → ∀ x ∈ l, 0 ≤ x ∧ x ≤ 15
  | t :: l, h, x, hx => by
    simp only [throwsF, Bool.and_eq_true] at h
    cases hx with
    | head => exact inB_true h.1
    | tail _ hx => exact throwsF_mem l h.2 x hx
theorem throwsB_nth {l : List Int} (h : throwsB l = true) : (∀ i, i < l.length → 0 ≤ nth l i ∧ nth l i ≤ 15) ∧ 1 ≤ l.length ∧ l.length ≤ 12 := by
  simp only [throwsB, Bool.and_eq_true] at h
  have h2 := inB_true h.2
  exact ⟨fun i hi => throwsF_mem l h.1 _ (by rw [nth_eq l i hi]; exact List.getElem_mem hi), by omega, by omega⟩

/-- Where throw i lands. -/
def land (l : List Int) (i : Nat) : Int := ((i : Int) + nth l i) % (l.length : Int)
def rowFree (l : List Int) (k : Nat) : Bool := (List.range k).all fun i => !(land l i == land l k)
def clashFree (l : List Int) : Bool := (List.range l.length).all fun k => rowFree l k
theorem rowFree_iff (l : List Int) (k : Nat) : rowFree l k = true ↔ ∀ i, i < k → land l i ≠ land l k := by
  simp [rowFree]
theorem rowFree_false {l : List Int} {k i : Nat} (hi : i < k) (h : land l i = land l k) : rowFree l k = false := by
  cases hr : rowFree l k
  · rfl
  · exact absurd h ((rowFree_iff l k).1 hr i hi)
theorem clashFree_iff (l : List Int) : clashFree l = true ↔ ∀ k, k < l.length → rowFree l k = true := by
  simp [clashFree]
theorem clashFree_false {l : List Int} {k : Nat} (hk : k < l.length) (h : rowFree l k = false) : clashFree l = false := by
  cases hr : clashFree l
  · rfl
  · rw [(clashFree_iff l).1 hr k hk] at h; cases h
/-- A pattern. -/
def okPat (l : List Int) : Bool := throwsB l && clashFree l
theorem okPat_throws {l : List Int} (h : okPat l = true) : throwsB l = true := by
  simp only [okPat, Bool.and_eq_true] at h; exact h.1
end Go.Proofs.Ythdejhningghcaa
