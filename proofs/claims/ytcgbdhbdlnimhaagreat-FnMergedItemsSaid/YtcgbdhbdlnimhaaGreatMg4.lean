import Derived.Test.YtcgbdhbdlnimhaaGreatMg1
import Derived.Test.YtcgbdhbdlnimhaaGreatMg2
/- Less: texts in order, byte by byte. -/
namespace Go.Proofs.YtcgbdhbdlnimhaaGreat
open Go.ChangeShapes Go.WideShapes Go.ChangeAt Go.RowKit

def lessB (a b : ByteArray) : Bool := Op.bytesLess a.toList b.toList
theorem less_total : ∀ a b : List UInt8, (Op.bytesLess a b || a == b) = !(Op.bytesLess b a)
  | [], [] => rfl
  | [], _ :: _ => rfl
  | _ :: _, [] => rfl
  | a :: x, b :: y => by
    have ih := less_total x y
    simp only [Op.bytesLess]
    by_cases h1 : a = b
    · subst h1
      have h2 : ¬ a < a := UInt8.lt_irrefl a
      simp only [h2, decide_false, beq_self_eq_true, Bool.true_and, Bool.false_or, List.cons_beq_cons]
      exact ih
    · have h3 : (a == b) = false := by simp [h1]
      have h4 : (b == a) = false := by simp [Ne.symm h1]
      have hn : a.toNat ≠ b.toNat := fun h => h1 (UInt8.toNat_inj.1 h)
      have h5 : decide (a < b) = !(decide (b < a)) := by
        by_cases h : a < b
        · have : ¬ b < a := by rw [UInt8.lt_iff_toNat_lt] at *; omega
          simp [h, this]
        · have : b < a := by rw [UInt8.lt_iff_toNat_lt] at *; omega
          simp [h, this]
      simp [List.cons_beq_cons, h3, h4, h5]
theorem lessB_leq (a b : ByteArray) : (Op.bytesLess a.toList b.toList || a.toList == b.toList) = !(lessB b a) := less_total _ _
end Go.Proofs.YtcgbdhbdlnimhaaGreat

/- Items2: copies of items. -/
namespace Go.Proofs.YtcgbdhbdlnimhaaGreat
open Go.ChangeShapes Go.WideShapes Go.ChangeAt Go.RowKit

theorem itemInfo : (Tryz.prog.info? 62).map (fun i => (i.zero, i.size, i.bytes)) = some (some (.agg #[.string ByteArray.empty, .slice none 0 0]), 2, 40) := by kernel_rfl

end Go.Proofs.YtcgbdhbdlnimhaaGreat
