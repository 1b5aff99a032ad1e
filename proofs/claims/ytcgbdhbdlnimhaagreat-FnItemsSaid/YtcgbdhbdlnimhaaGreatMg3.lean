import Derived.Test.YtcgbdhbdlnimhaaGreatMg1
import Derived.Test.YtcgbdhbdlnimhaaGreatMg2
/- Query: the queries' own helpers: the same or not, how large, a copy. -/
namespace Go.Proofs.YtcgbdhbdlnimhaaGreat
open Go.ChangeShapes Go.WideShapes Go.ChangeAt Go.RowKit

def eqQueryB (a b : Query) : Bool := (a.period == b.period) && ((a.props == b.props) && ((a.high == b.high) && (same2 eqI a.need b.need && (same2 eqI a.avoid b.avoid && (a.canonical == b.canonical)))))
theorem eqQueryB_iff (a b : Query) : eqQueryB a b = true ↔ a = b := by
  cases a; cases b; simp [eqQueryB, same2_iff eqI eqI_iff]
theorem chain6 (b1 b2 b3 b4 b5 b6 : Bool) : (b1 = false) ∨ (b1 = true ∧ b2 = false) ∨ (b1 = true ∧ b2 = true ∧ b3 = false) ∨ (b1 = true ∧ b2 = true ∧ b3 = true ∧ b4 = false) ∨ (b1 = true ∧ b2 = true ∧ b3 = true ∧ b4 = true ∧ b5 = false) ∨ (b1 = true ∧ b2 = true ∧ b3 = true ∧ b4 = true ∧ b5 = true ∧ b6 = b6) := by
  cases b1 <;> cases b2 <;> cases b3 <;> cases b4 <;> cases b5 <;> simp



def szQueryT (q : Query) (left : Int) : Int := if szIntsT q.need left < 0 then -1 else if szIntsT q.avoid (szIntsT q.need left) < 0 then -1 else szIntsT q.avoid (szIntsT q.need left)
theorem szQueryT_le (q : Query) (left : Int) (h : 0 ≤ left) : -1 ≤ szQueryT q left ∧ szQueryT q left ≤ left ∧ (0 ≤ szQueryT q left → (q.need.length : Int) ≤ left ∧ (q.avoid.length : Int) ≤ left) := by
  have h1 := szIntsT_le q.need left h
  unfold szQueryT
  split
  · exact ⟨by omega, by omega, fun h => by omega⟩
  · have h2 := szIntsT_le q.avoid (szIntsT q.need left) (by omega)
    split
    · exact ⟨by omega, by omega, fun h => by omega⟩
    · have h3 := h1.2.2 (by omega)
      have h4 := h2.2.2 (by omega)
      exact ⟨by omega, by omega, fun h => by omega⟩

end Go.Proofs.YtcgbdhbdlnimhaaGreat

/- Query2: a copy of a query. -/
namespace Go.Proofs.YtcgbdhbdlnimhaaGreat
open Go.ChangeShapes Go.WideShapes Go.ChangeAt Go.RowKit

end Go.Proofs.YtcgbdhbdlnimhaaGreat
