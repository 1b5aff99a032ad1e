import Derived.Test.YtkggjejcajcppaaGreatMg37
/- DrewK: what is kept of a source when rows behind it are written. -/
namespace Go.Proofs.YtkggjejcajcppaaGreat
open Go.ChangeShapes Go.WideShapes Go.ChangeAt Go.RowKit

theorem SrcAt.belowK {w w' : World} {b n K : Nat} (h : SrcAt w b n) (k : Below K w w') (hb : b < K) : SrcAt w' b n := by
  obtain ⟨a, m, c, cs, kk, sd, h1, h2, h3, h4, h5, h6, h7, h8⟩ := h
  refine ⟨a, m, c, cs, kk, sd, h1, h2, h3, ⟨Nat.lt_of_lt_of_le h4.1 k.size, fun j => ?_, fun j => ?_⟩, fun i hi => ?_, h6, h7, h8⟩
  · exact (World.cell?_of_block (a := ⟨b, j, none⟩) (k.block b hb)).trans (h4.2.1 j)
  · exact (World.frozen?_of_block (a := ⟨b, j, none⟩) (k.block b hb)).trans (h4.2.2 j)
  · obtain ⟨b', o, rfl, hs, c0⟩ := h5 i hi
    have := h7 (by omega) b' o rfl
    exact ⟨b', o, rfl, Nat.lt_of_lt_of_le hs k.size, (World.cell?_of_block (a := ⟨b', _, none⟩) (k.block b' (by omega))).trans c0⟩
/-- Rows made behind the source have been written. -/
theorem Drew.thenK {b n : Nat} {w w1 w2 : World} (h : Drew b n w w1) (k : Below w.heap.size w1 w2) (hb : b < w.heap.size) : Drew b n w w2 :=
  ⟨h.1.belowK k hb, ⟨k.os.trans h.2.os, k.tape.trans h.2.tape, k.output.trans h.2.output, Nat.le_trans h.2.size k.size, fun i hi ho => (k.block i hi).trans (h.2.block i hi ho)⟩⟩
theorem ownSet {w : World} {base g n cap : Nat} {l : List Int} (h : OwnInts w base (.slice (some ⟨g, 0, none⟩) n cap) l) (i : Nat) (x : Int) : OwnInts (w.setCell ⟨g, i, none⟩ (.int .i64 x)) base (.slice (some ⟨g, 0, none⟩) n cap) (l.set i x) := by
  unfold OwnInts at *
  have hn : n = l.length := by
    rcases h.2 with ⟨he, h0⟩ | ⟨g', cap', cur, he, _⟩
    · cases he
    · injection he
  subst hn
  rw [List.length_set, List.map_set]
  exact (h.stored i _).1
theorem ownCell {w : World} {base g n cap : Nat} {l : List Int} (h : OwnInts w base (.slice (some ⟨g, 0, none⟩) n cap) l) (i : Nat) (hi : i < l.length) : w.cell? ⟨g, i, none⟩ = some (.int .i64 (nth l i)) ∧ w.frozen? ⟨g, i, none⟩ = false := by
  have hn : n = l.length := by
    rcases h.2 with ⟨he, h0⟩ | ⟨g', cap', cur, he, _⟩
    · cases he
    · injection he
  subst hn
  have h1 := World.ownsRow.cellAt h i (by omega)
  rw [List.getElem?_map, nth_get? l i hi] at h1
  exact ⟨h1, World.ownsRow.frozenAt h i⟩
theorem ownHead {w : World} {base n c : Nat} {a : Option Addr} {l : List Int} (h : OwnInts w base (.slice a n c) l) : n = l.length ∧ (0 < n → ∃ g, a = some ⟨g, 0, none⟩ ∧ base ≤ g) := by
  rcases h.2 with ⟨he, h0⟩ | ⟨g, cap, cur, he, hb, _⟩
  · injection he with _ h1 _
    have := h.1
    simp at this
    exact ⟨by omega, fun h2 => by omega⟩
  · injection he with h1 h2 _
    exact ⟨h2, fun _ => ⟨g, h1, hb⟩⟩
theorem ints_lit {w : World} (xs : List Int) (k : Nat) (hk : k = xs.length) (b : Nat) (hb : b = w.heap.size) (h1 : k ≤ 1000) : IntsAt (w.alloc (.cells (xs.map (Value.int .i64)).toArray 2)) (.slice (some ⟨b, 0, none⟩) k k) xs := by
  subst hb hk
  refine ⟨some ⟨w.heap.size, 0, none⟩, _, _, rfl, rfl, Nat.le_refl _, by omega, fun i hi => ⟨w.heap.size, 0, rfl, by simp, ?_⟩⟩
  rw [World.cell?_alloc_at _ _ _ _ rfl]
  simp [nth_get? xs i hi]
/-- How long a slice is: for measures. -/
def lenOf : Value → Nat
  | .slice _ n _ => n
  | _ => 0
end Go.Proofs.YtkggjejcajcppaaGreat
