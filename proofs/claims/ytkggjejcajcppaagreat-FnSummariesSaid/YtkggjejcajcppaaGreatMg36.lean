import Derived.Test.YtkggjejcajcppaaGreatMg35
import Derived.Test.YtkggjejcajcppaaGreatMg21
/- DrawQ: queries that are drawn. -/
namespace Go.Proofs.YtkggjejcajcppaaGreat
open Go.ChangeShapes Go.WideShapes Go.ChangeAt Go.RowKit

theorem box_drew {w w' : World} {b n c : Nat} {l : List Value} (h : BoxIs w c l) (hd : Drew b n w w') (hc : c ≠ b) : BoxIs w' c l := h.turned hd.2 (by omega)
theorem own_fresh {w : World} {base : Nat} {v : Value} {l : List Int} (h : OwnInts w base v l) : ∀ b' o m c, v = .slice (some ⟨b', o, none⟩) m c → base ≤ b' := by
  rintro b' o m c rfl
  exact (World.ownsRow.lt h b' rfl).1
end Go.Proofs.YtkggjejcajcppaaGreat
