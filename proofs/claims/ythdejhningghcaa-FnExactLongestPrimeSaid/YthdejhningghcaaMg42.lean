import Derived.Test.YthdejhningghcaaMg39
import Derived.Shelf.GgSortFunc.RowK
import Derived.Sort.Grow
/- SortW: a row of the call's own, behind a sort. -/
namespace Go.Proofs.Ythdejhningghcaa
open Go.ChangeShapes Go.WideShapes Go.ChangeAt Go.RowKit

section
variable {α : Type} [Inhabited α]
theorem putCells_all {enc : α → Value} {cur : Array Value} {d : Array α} (hs : d.size ≤ cur.size) : (Go.Sort.putCells enc 0 d cur).toList.take d.size = d.toList.map enc := by
  apply List.ext_getElem?
  intro i
  by_cases hi : i < d.size
  · have h1 : i < cur.size := by omega
    simp [hi, Go.Sort.putCells, h1]
  · rw [List.getElem?_eq_none (by simp; omega), List.getElem?_eq_none (by simp; omega)]
theorem putRow_block {enc : α → Value} {w : World} {g q : Nat} {d : Array α} {os : Array Obj} {cur : Array Value} {e : TypeId} {fr : Nat × Nat} (h : w.heap[g]? = some (.cells cur e fr)) :
    (Go.Sort.grow (Go.Sort.putRow enc (Go.Sort.ahead w q) g 0 d) os).heap[g]? = some (.cells (Go.Sort.putCells enc 0 d cur) e fr) := by
  have hlt : g < w.heap.size := by
    rcases Nat.lt_or_ge g w.heap.size with h1 | h1
    · exact h1
    · rw [Array.getElem?_eq_none h1] at h; exact absurd h (by simp)
  have e1 : (Go.Sort.putRow enc (Go.Sort.ahead w q) g 0 d).heap = w.heap.modify g (Go.Sort.onCells (Go.Sort.putCells enc 0 d)) := rfl
  show ((Go.Sort.putRow enc (Go.Sort.ahead w q) g 0 d).heap ++ os)[g]? = _
  rw [e1, Array.getElem?_append_left (by simpa using hlt), Array.getElem?_modify, if_pos rfl, h]
  rfl
theorem own_putRow {enc : α → Value} {w : World} {base g q n cap size : Nat} {d : Array α} {os : Array Obj} {e : TypeId} {xs : List Value} (h : w.ownsRow base e size (.slice (some ⟨g, 0, none⟩) n cap) n xs) (hs : d.size = n * size) :
    (Go.Sort.grow (Go.Sort.putRow enc (Go.Sort.ahead w q) g 0 d) os).ownsRow base e size (.slice (some ⟨g, 0, none⟩) n cap) n (d.toList.map enc) := by
  refine ⟨by simp [hs], ?_⟩
  rcases h.2 with ⟨h', _⟩ | ⟨g', cap', cur, h', hb, hg, h1, h2, h3, h4⟩
  · simp at h'
  · simp only [Value.slice.injEq, Option.some.injEq, Addr.mk.injEq, and_true, true_and] at h'
    obtain ⟨rfl, rfl⟩ := h'
    refine .inr ⟨g, cap, _, rfl, hb, putRow_block hg, h1, h2, ?_, ?_⟩
    · unfold Go.Sort.putCells; simpa using h3
    · rw [← hs]; exact putCells_all (by rw [h3, hs]; exact Nat.mul_le_mul_right _ h1)
theorem below_putRow {enc : α → Value} {w : World} {B g q off : Nat} {d : Array α} {os : Array Obj} (hg : B ≤ g) (hB : B ≤ w.heap.size) : Below B w (Go.Sort.grow (Go.Sort.putRow enc (Go.Sort.ahead w q) g off d) os) := by
  refine ⟨rfl, rfl, rfl, ?_, fun k hk => ?_⟩
  · show w.heap.size ≤ ((w.heap.modify g _) ++ os).size
    simp
  · show ((w.heap.modify g (Go.Sort.onCells (Go.Sort.putCells enc off d))) ++ os)[k]? = _
    rw [Array.getElem?_append_left (by simpa using Nat.lt_of_lt_of_le hk hB), Array.getElem?_modify, if_neg (by omega)]
theorem holds_own {enc : α → Value} {w : World} {base g n cap : Nat} {d : Array α} {e : TypeId} {size : Nat} (hs : d.size = n * size) (h : w.ownsRow base e size (.slice (some ⟨g, 0, none⟩) n cap) n (d.toList.map enc)) : Go.Sort.Holds enc w g 0 d := by
  intro j hj
  refine ⟨?_, h.frozenAt _⟩
  rw [Nat.zero_add, h.cellAt j (by omega)]
  rw [List.getElem?_map, Array.getElem?_toList, getElem!_pos d j hj, Array.getElem?_eq_getElem hj]; rfl
/-- No element or one: the world has but grown. -/
theorem below_grow {w : World} {os : Array Obj} : Below w.heap.size w (Go.Sort.grow w os) := by
  refine ⟨rfl, rfl, rfl, ?_, fun k hk => ?_⟩
  · show w.heap.size ≤ (w.heap ++ os).size
    simp
  · show (w.heap ++ os)[k]? = _
    rw [Array.getElem?_append_left hk]
end
end Go.Proofs.Ythdejhningghcaa
