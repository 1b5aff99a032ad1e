import Derived.Test.YtclffohjpbmnbaaDoorMg14
import Derived.Deep.RegionHeld3
/- CardDrop: a plan without a card. -/
namespace Go.Proofs.YtclffohjpbmnbaaDoor
open Go.ChangeShapes Go.WideShapes Go.ChangeAt Go.RowKit

theorem own_mono' {w : World} {base base' : Nat} {e : TypeId} {size : Nat} {v : Value} {n : Nat} {xs : List Value} (h : w.ownsRow base' e size v n xs) (hb : base ≤ base') : w.ownsRow base e size v n xs := by
  obtain ⟨h1, h2⟩ := h
  refine ⟨h1, ?_⟩
  rcases h2 with h2 | ⟨g, cap, cur, hv, hg, r⟩
  · exact .inl h2
  · exact .inr ⟨g, cap, cur, hv, Nat.le_trans hb hg, r⟩
theorem OwnCards.mono {w : World} {base base' : Nat} {v : Value} {l : List Card} (h : OwnCards w base' v l) (hb : base ≤ base') : OwnCards w base v l := ⟨own_mono' h.1 hb, h.2⟩
/-- A list of cards of the call's own and a code. -/
def GivesCardsC (l : List Card) (code : Int) (w : World) (e : Ending) (w' : World) : Prop := ∃ a n c, e = .returned (.tuple #[.slice a n c, .int .i64 code]) ∧ OwnCards w' w.heap.size (.slice a n c) l ∧ Below w.heap.size w w'
theorem GivesCardsC.none {l : List Card} {c1 c2 : Int} {w w' : World} (h : l = []) (hc : c1 = c2) (hb : Below w.heap.size w w') : GivesCardsC l c1 w (.returned (.tuple #[.slice Option.none 0 0, .int .i64 c2])) w' :=
  ⟨Option.none, 0, 0, by rw [hc], by rw [h]; exact own_cards_nil _ _, hb⟩

theorem GivesCardsC.mk {l : List Card} {c1 c2 : Int} {a : Option Addr} {n c : Nat} {w w' : World} (hc : c1 = c2) (ho : OwnCards w' w.heap.size (.slice a n c) l) (hb : Below w.heap.size w w') : GivesCardsC l c1 w (.returned (.tuple #[.slice a n c, .int .i64 c2])) w' :=
  ⟨a, n, c, by rw [hc], ho, hb⟩

def dropCode (l : List Card) (s : ByteArray) : Int := if okCards l then (if findC l s < 0 then 3 else 0) else 1
def dropL (l : List Card) (s : ByteArray) : List Card := if okCards l then (if findC l s < 0 then [] else l.take (findC l s).toNat ++ l.drop ((findC l s).toNat + 1)) else []

theorem okCards_len {l : List Card} (h : okCards l = true) : l.length ≤ 40 := by
  unfold okCards at h
  rw [Bool.and_eq_true] at h
  exact of_decide_eq_true h.2

end Go.Proofs.YtclffohjpbmnbaaDoor
