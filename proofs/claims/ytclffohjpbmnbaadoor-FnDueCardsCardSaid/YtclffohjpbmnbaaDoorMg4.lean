import Derived.Test.YtclffohjpbmnbaaDoorMg3
import Derived.Test.YtclffohjpbmnbaaDoorMg1
/- LawCards: the law's own helpers for cards: how large they are, a copy of them. -/
namespace Go.Proofs.YtclffohjpbmnbaaDoor
open Go.ChangeShapes Go.WideShapes Go.ChangeAt Go.RowKit

def szOne (n : Nat) (left : Int) : Int := if left - n < 0 then -1 else left - n
def szCardsF : List Card → Int → Int
  | [], left => left
  | c :: l, left => if szOne c.name.size left < 0 then -1 else szCardsF l (szOne c.name.size left)
def szCardsT (l : List Card) (left : Int) : Int := if left - l.length < 0 then -1 else szCardsF l (left - l.length)
theorem szOne_le (n : Nat) (left : Int) (h : 0 ≤ left) : -1 ≤ szOne n left ∧ szOne n left ≤ left := by unfold szOne; split <;> omega
theorem szCardsF_le : ∀ (l : List Card) (left : Int), 0 ≤ left → -1 ≤ szCardsF l left ∧ szCardsF l left ≤ left ∧ (0 ≤ szCardsF l left → ∀ c ∈ l, (c.name.size : Int) ≤ left)
  | [], left, h => ⟨by simp [szCardsF]; omega, by simp [szCardsF], fun _ c hc => by cases hc⟩
  | c :: l, left, h => by
    unfold szCardsF
    split
    · exact ⟨by omega, by omega, fun h => by omega⟩
    · rename_i hs
      have h1 := szOne_le c.name.size left h
      have h2 := szCardsF_le l (szOne c.name.size left) (by omega)
      refine ⟨h2.1, by omega, fun h3 d hd => ?_⟩
      cases hd with
      | head => unfold szOne at hs; split at hs <;> omega
      | tail _ hd => have := h2.2.2 h3 d hd; omega
theorem szCardsT_le (l : List Card) (left : Int) (h : 0 ≤ left) : -1 ≤ szCardsT l left ∧ szCardsT l left ≤ left ∧ (0 ≤ szCardsT l left → (l.length : Int) ≤ left ∧ ∀ c ∈ l, (c.name.size : Int) ≤ left) := by
  unfold szCardsT
  split
  · exact ⟨by omega, by omega, fun h => by omega⟩
  · have h2 := szCardsF_le l (left - l.length) (by omega)
    exact ⟨h2.1, by omega, fun h3 => ⟨by omega, fun c hc => by have := h2.2.2 h3 c hc; omega⟩⟩

theorem cardInfo : (Tryd.prog.info? 43).map (fun i => (i.zero, i.size, i.bytes)) = some (some (.agg #[.string ByteArray.empty, .int .i64 0, .int .i64 0]), 3, 32) := by kernel_rfl

end Go.Proofs.YtclffohjpbmnbaaDoor

/- Less: texts in order, byte by byte. -/
namespace Go.Proofs.YtclffohjpbmnbaaDoor
open Go.ChangeShapes Go.WideShapes Go.ChangeAt Go.RowKit

def lessB (a b : ByteArray) : Bool := Op.bytesLess a.toList b.toList
theorem less_total : ∀ a b : List UInt8, (Op.bytesLess a b || a == b) = !(Op.bytesLess b a)
  | [], [] => rfl
  | [], _ :: _ => rfl
  | _ :: _, [] => rfl
  | a :: x, b :: y => by
    have ih := less_total x y
    simp only [Op.bytesLess]
    by_cases h1 : a = b
    · subst h1
      have h2 : ¬ a < a := UInt8.lt_irrefl a
      simp only [h2, decide_false, beq_self_eq_true, Bool.true_and, Bool.false_or, List.cons_beq_cons]
      exact ih
    · have h3 : (a == b) = false := by simp [h1]
      have h4 : (b == a) = false := by simp [Ne.symm h1]
      have hn : a.toNat ≠ b.toNat := fun h => h1 (UInt8.toNat_inj.1 h)
      have h5 : decide (a < b) = !(decide (b < a)) := by
        by_cases h : a < b
        · have : ¬ b < a := by rw [UInt8.lt_iff_toNat_lt] at *; omega
          simp [h, this]
        · have : b < a := by rw [UInt8.lt_iff_toNat_lt] at *; omega
          simp [h, this]
      simp [List.cons_beq_cons, h3, h4, h5]
theorem lessB_leq (a b : ByteArray) : (Op.bytesLess a.toList b.toList || a.toList == b.toList) = !(lessB b a) := less_total _ _
end Go.Proofs.YtclffohjpbmnbaaDoor
