/- CardRev: the plan after a card has been practiced. -/
import Derived.Test.YtahkkiooklplhaaCardDrop
import Derived.Test.YtahkkiooklplhaaCardWork
import Derived.Test.YtahkkiooklplhaaIvl
import Derived.Test.YtahkkiooklplhaaMinC
namespace Go.Proofs.Ytahkkiooklplhaa
open Go.ChangeShapes Go.WideShapes Go.ChangeAt Go.RowKit

def revLv (good : Bool) (lv : Int) : Int := if good then mn 6 (lv + 1) else mx 0 (lv - 2)
def revDue (good : Bool) (lv day : Int) : Int := day + ivl (revLv good lv)
def revCode (l : List Card) (s : ByteArray) (good : Bool) (day : Int) : Int :=
  if dayC l day = 0 then (if findC l s < 0 then 3 else if day < (nth l (findC l s).toNat).due then 6 else if inB (revDue good (nth l (findC l s).toNat).level day) 0 100000 then 0 else 2) else dayC l day
def revL (l : List Card) (s : ByteArray) (good : Bool) (day : Int) : List Card :=
  if revCode l s good day = 0 then l.set (findC l s).toNat ⟨s, revLv good (nth l (findC l s).toNat).level, revDue good (nth l (findC l s).toNat).level day⟩ else []
theorem ivl_in (n : Int) : 1 ≤ ivl n ∧ ivl n ≤ 60 := by unfold ivl; repeat (first | omega | split)
theorem revLv_in (good : Bool) (lv : Int) (h0 : 0 ≤ lv) (h6 : lv ≤ 6) : 0 ≤ revLv good lv ∧ revLv good lv ≤ 6 := by
  unfold revLv mn mx
  split <;> split <;> omega
theorem revCode_at {l : List Card} {s : ByteArray} {good : Bool} {day : Int} {k : Nat} (h0 : dayC l day = 0) (hf : findC l s = (k : Int)) :
    revCode l s good day = if day < (nth l k).due then 6 else if inB (revDue good (nth l k).level day) 0 100000 then 0 else 2 := by
  unfold revCode; rw [if_pos h0, hf, if_neg (by omega), Int.toNat_natCast]
theorem revL_len (l : List Card) (s : ByteArray) (good : Bool) (day : Int) : (revL l s good day).length ≤ 1099511627776 := by
  unfold revL
  split
  · rename_i h
    rw [List.length_set]
    unfold revCode at h
    split at h
    · rename_i h0; have := okCards_len (dayC_zero h0).1; omega
    · rename_i h0; exact absurd h h0
  · exact Nat.zero_le _
theorem OwnCards.set {w : World} {base g n cap k : Nat} {l : List Card} (h : OwnCards w base (.slice (some ⟨g, 0, none⟩) n cap) l) (hk : k < l.length) (c : Card) (hc : c.name.size ≤ 9223372036854775807) :
    OwnCards (((w.setCell ⟨g, k * 3, none⟩ (.string c.name)).setCell ⟨g, k * 3 + 1, none⟩ (.int .i64 c.level)).setCell ⟨g, k * 3 + 2, none⟩ (.int .i64 c.due)) base (.slice (some ⟨g, 0, none⟩) n cap) (l.set k c) := by
  have hn : n = l.length := by
    rcases h.1.2 with ⟨he, h0⟩ | ⟨g', cap', cur, he, _⟩
    · cases he
    · injection he
  subst hn
  refine ⟨?_, fun x hx => ?_⟩
  · have h3 := own_store3 h.1 (k * 3) (.string c.name) (.int .i64 c.level) (.int .i64 c.due)
    have f1 := flat_set cardCells 3 cardCells_len l k hk 0 (.string c.name) ⟨c.name, (nth l k).level, (nth l k).due⟩ (by decide) rfl
    have n1 := nth_set l k k (⟨c.name, (nth l k).level, (nth l k).due⟩ : Card) hk
    rw [if_pos rfl] at n1
    have f2 := flat_set cardCells 3 cardCells_len (l.set k ⟨c.name, (nth l k).level, (nth l k).due⟩) k (by rw [List.length_set]; exact hk) 1 (.int .i64 c.level) ⟨c.name, c.level, (nth l k).due⟩ (by decide) (by rw [n1]; rfl)
    rw [List.set_set] at f2
    have n2 := nth_set l k k (⟨c.name, c.level, (nth l k).due⟩ : Card) hk
    rw [if_pos rfl] at n2
    have f3 := flat_set cardCells 3 cardCells_len (l.set k ⟨c.name, c.level, (nth l k).due⟩) k (by rw [List.length_set]; exact hk) 2 (.int .i64 c.due) c (by decide) (by rw [n2]; rfl)
    rw [List.set_set] at f3
    rw [List.length_set, ← f3, ← f2, ← f1]
    exact h3
  · rcases List.mem_or_eq_of_mem_set hx with h1 | rfl
    · exact h.2 x h1
    · exact hc
theorem ownCards_cells {w : World} {base g n cap : Nat} {l : List Card} (h : OwnCards w base (.slice (some ⟨g, 0, none⟩) n cap) l) (k : Nat) (hk : k < l.length) :
    (∃ y, w.cell? ⟨g, k * 3, none⟩ = some y) ∧ (∃ y, w.cell? ⟨g, k * 3 + 1, none⟩ = some y) ∧ (∃ y, w.cell? ⟨g, k * 3 + 2, none⟩ = some y) ∧ (∀ j, w.frozen? ⟨g, j, none⟩ = false) := by
  have hn : n = l.length := by
    rcases h.1.2 with ⟨he, h0⟩ | ⟨g', cap', cur, he, _⟩
    · cases he
    · injection he
  subst hn
  have hl := h.1.1
  exact ⟨⟨_, (World.ownsRow.cellAt h.1 (k * 3) (by omega)).trans (List.getElem?_eq_getElem (by omega))⟩, ⟨_, (World.ownsRow.cellAt h.1 (k * 3 + 1) (by omega)).trans (List.getElem?_eq_getElem (by omega))⟩, ⟨_, (World.ownsRow.cellAt h.1 (k * 3 + 2) (by omega)).trans (List.getElem?_eq_getElem (by omega))⟩, fun j => World.ownsRow.frozenAt h.1 j⟩
theorem ownCards_form {w : World} {base : Nat} {a : Option Addr} {n cap : Nat} {l : List Card} (h : OwnCards w base (.slice a n cap) l) (hl : 0 < l.length) : ∃ g, a = some ⟨g, 0, none⟩ ∧ n = l.length ∧ base ≤ g ∧ g < w.heap.size := by
  obtain ⟨g, c, he, h1, h2⟩ := h.1.form hl
  injection he with e1 e2 e3
  exact ⟨g, e1, e2, h1, h2⟩
end Go.Proofs.Ytahkkiooklplhaa
