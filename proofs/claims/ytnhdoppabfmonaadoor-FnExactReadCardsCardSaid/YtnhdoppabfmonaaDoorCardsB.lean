/- CardsB: what the walks say of cards in memory. -/
import Derived.Test.YtnhdoppabfmonaaDoorBase
namespace Go.Proofs.YtnhdoppabfmonaaDoor
open Go.ChangeShapes Go.WideShapes Go.ChangeAt Go.RowKit

/-! ### Cards -/
structure Card where
  name : ByteArray
  level : Int
  due : Int
instance : Inhabited Card := ⟨⟨ByteArray.empty, 0, 0⟩⟩
def eqCardB (a b : Card) : Bool := decide (a.name = b.name) && (a.level == b.level && a.due == b.due)
theorem eqCardB_iff (a b : Card) : eqCardB a b = true ↔ a = b := by
  cases a; cases b; simp [eqCardB]
def CardsC (w : World) (a : Option Addr) (l : List Card) : Prop :=
  ∀ i, i < l.length → ∃ b o, a = some ⟨b, o, none⟩ ∧ b < w.heap.size ∧ (nth l i).name.size ≤ 9223372036854775807 ∧ w.cell? ⟨b, o + i * 3, none⟩ = some (.string (nth l i).name) ∧ w.cell? ⟨b, o + i * 3 + 1, none⟩ = some (.int .i64 (nth l i).level) ∧ w.cell? ⟨b, o + i * 3 + 2, none⟩ = some (.int .i64 (nth l i).due)
def CardsAt (w : World) (v : Value) (l : List Card) : Prop := ∃ a n cap, v = .slice a n cap ∧ n = l.length ∧ n ≤ cap ∧ cap ≤ 9223372036854775807 ∧ CardsC w a l
theorem CardsC.below {w w' : World} {a : Option Addr} {l : List Card} (h : CardsC w a l) (hb : Below w.heap.size w w') : CardsC w' a l := by
  intro i hi
  obtain ⟨b, o, ha, hs, hsz, c0, c1, c2⟩ := h i hi
  exact ⟨b, o, ha, Nat.lt_of_lt_of_le hs hb.size, hsz, (hb.cell (p := ⟨b, _, none⟩) hs).trans c0, (hb.cell (p := ⟨b, _, none⟩) hs).trans c1, (hb.cell (p := ⟨b, _, none⟩) hs).trans c2⟩
theorem CardsAt.below {w w' : World} {v : Value} {l : List Card} (h : CardsAt w v l) (hb : Below w.heap.size w w') : CardsAt w' v l := by
  obtain ⟨a, n, cap, rfl, h1, h2, h3, hc⟩ := h
  exact ⟨a, n, cap, rfl, h1, h2, h3, hc.below hb⟩

def cardCells (c : Card) : List Value := [.string c.name, .int .i64 c.level, .int .i64 c.due]
theorem cardCells_len (c : Card) : (cardCells c).length = 3 := rfl
def OwnCards (w : World) (base : Nat) (v : Value) (l : List Card) : Prop := w.ownsRow base 59 3 v l.length (l.flatMap cardCells) ∧ ∀ c ∈ l, c.name.size ≤ 9223372036854775807
theorem OwnCards.at {w : World} {base : Nat} {v : Value} {l : List Card} (h : OwnCards w base v l) : CardsAt w v l := by
  obtain ⟨ho, hs⟩ := h
  have hlt := ho.lt
  rcases ho.2 with ⟨rfl, h0⟩ | ⟨g, cap, cur, rfl, hb, hg, hnc, hcm, hcs, htake⟩
  · exact ⟨none, 0, 0, rfl, h0.symm, Nat.le_refl _, by decide, fun i hi => by omega⟩
  · refine ⟨_, _, _, rfl, rfl, hnc, hcm, fun i hi => ⟨g, 0, rfl, (hlt g rfl).2, hs _ (mem_nth hi), ?_, ?_, ?_⟩⟩
    · have := ho.cellAt (i * 3) (by omega)
      rw [Nat.zero_add, this]
      exact flat_at cardCells 3 cardCells_len l i hi 0 (by omega)
    · have := ho.cellAt (i * 3 + 1) (by omega)
      rw [Nat.zero_add, this]
      exact flat_at cardCells 3 cardCells_len l i hi 1 (by omega)
    · have := ho.cellAt (i * 3 + 2) (by omega)
      rw [Nat.zero_add, this]
      exact flat_at cardCells 3 cardCells_len l i hi 2 (by omega)
end Go.Proofs.YtnhdoppabfmonaaDoor
