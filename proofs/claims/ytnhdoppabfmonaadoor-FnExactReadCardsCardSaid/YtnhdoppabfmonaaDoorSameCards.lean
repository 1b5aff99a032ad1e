/- SameCards: the two SameCards and the law's own comparison of cards hand back whether the two lists are equal. -/
import Derived.Test.YtnhdoppabfmonaaDoorCardsB
namespace Go.Proofs.YtnhdoppabfmonaaDoor
open Go.ChangeShapes Go.WideShapes Go.ChangeAt Go.RowKit

theorem card_flds : Tryd.prog.underlying 59 = some (.struct (Tryd.prog.fieldsOf 59)) := by kernel_rfl
theorem card_stood : Tryd.prog.stoodInHeld 59 = false := by kernel_rfl
theorem card_guard : Tryd.prog.eqGuardType Tryd.prog.depth 59 = false := by kernel_rfl
theorem card_neq (x y : Card) (W : World) : (binOp .neq 59 (.agg #[.string x.name, .int .i64 x.level, .int .i64 x.due]) (.agg #[.string y.name, .int .i64 y.level, .int .i64 y.due])).run Tryd.prog W = .ok (.bool (!(eqCardB x y))) W := by
  rw [run_neq_struct, show (10000 : Nat) = 9999 + 1 from rfl, run_equalIn_agg W 9999 59 _ _ card_flds card_stood]
  simp only [Program.fieldsOf, Tryd.underlying59, eqCardB]
  go_simp
  simp only [← beq_bytes]
  by_cases h1 : x.name.toList = y.name.toList <;> by_cases h2 : x.level = y.level <;> by_cases h3 : x.due = y.due <;> simp [h1, h2, h3]

end Go.Proofs.YtnhdoppabfmonaaDoor
