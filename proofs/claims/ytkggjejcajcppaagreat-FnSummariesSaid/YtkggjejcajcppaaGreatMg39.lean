import Derived.Test.YtkggjejcajcppaaGreatMg38
import Derived.Test.YtkggjejcajcppaaGreatMg22
/- NestB: rows of lists while a source is drawn from. -/
namespace Go.Proofs.YtkggjejcajcppaaGreat
open Go.ChangeShapes Go.WideShapes Go.ChangeAt Go.RowKit

theorem nest_drew {α : Type} [Inhabited α] {S : Shape α} {T : TypeId} {w w' : World} {b n base : Nat} {v : Value} {l : List α} (h : OwnNest S T w base v l) (hd : Drew b n w w') (hb : b < base) : OwnNest S T w' base v l :=
  (InNest.turned (InNest.of h) hd.2 (.inr hb)).own
theorem ownLen {α : Type} [Inhabited α] {S : Shape α} {T : TypeId} {w : World} {base n c : Nat} {a : Option Addr} {l : List α} (h : OwnNest S T w base (.slice a n c) l) : n = l.length := by
  obtain ⟨_, _, _, e, hn, _⟩ := OwnNest.at h
  injection e with _ e2 _
  rw [e2]; exact hn
theorem ownFar {α : Type} [Inhabited α] {S : Shape α} {T : TypeId} {w : World} {base : Nat} {v : Value} {l : List α} (h : OwnNest S T w base v l) : ∀ g, v.ownBlock = some g → base ≤ g := by
  obtain ⟨ps, _, h2, _⟩ := h
  exact fun g hg => (World.ownsRow.lt h2 g hg).1
end Go.Proofs.YtkggjejcajcppaaGreat
