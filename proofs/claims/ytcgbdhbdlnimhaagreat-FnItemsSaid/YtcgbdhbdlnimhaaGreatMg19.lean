import Derived.Test.YtcgbdhbdlnimhaaGreatMg15
import Derived.Test.YtcgbdhbdlnimhaaGreatMg16
import Derived.Test.YtcgbdhbdlnimhaaGreatMg2
/- SrcM: the memory of a source of choices: its box, and what is kept while it is drawn from. -/
namespace Go.Proofs.YtcgbdhbdlnimhaaGreat
open Go.ChangeShapes Go.WideShapes Go.ChangeAt Go.RowKit

/-- The source in block b: at most n choices have been drawn. -/
def SrcAt (w : World) (b n : Nat) : Prop :=
  ∃ (a : Option Addr) (m c : Nat) (cs : List Int) (k : Nat) (sd : Int), k ≤ n ∧ m ≤ 4096 ∧ m = cs.length ∧ BoxIs w b [.slice a m c, .int .i64 k, .int .u64 sd] ∧ BytesC w a cs ∧ (∀ x ∈ cs, 0 ≤ x ∧ x ≤ 255) ∧ (0 < cs.length → ∀ b' o, a = some ⟨b', o, none⟩ → b' < b) ∧ 0 ≤ sd ∧ sd ≤ 18446744073709551615
theorem SrcAt.mono {w : World} {b n n' : Nat} (h : SrcAt w b n) (hn : n ≤ n') : SrcAt w b n' := by
  obtain ⟨a, m, c, cs, k, sd, h1, h2⟩ := h
  exact ⟨a, m, c, cs, k, sd, by omega, h2⟩
theorem SrcAt.lt {w : World} {b n : Nat} (h : SrcAt w b n) : b < w.heap.size := by
  obtain ⟨a, m, c, cs, k, sd, h1, h2, h3, h4, _⟩ := h
  exact h4.1
theorem SrcAt.below {w w' : World} {b n : Nat} (h : SrcAt w b n) (hb : Below w.heap.size w w') : SrcAt w' b n := by
  obtain ⟨a, m, c, cs, k, sd, h1, h2, h3, h4, h5, h6⟩ := h
  exact ⟨a, m, c, cs, k, sd, h1, h2, h3, h4.below hb, h5.below hb, h6⟩
theorem SrcAt.turned {w w' : World} {b n lo hi : Nat} (h : SrcAt w b n) (ht : Turned lo hi w w') (hb : b < lo) (hc : ∀ a m c cs k sd, BoxIs w b [.slice a m c, .int .i64 k, .int .u64 sd] → BytesC w a cs → BytesC w' a cs) : SrcAt w' b n := by
  obtain ⟨a, m, c, cs, k, sd, h1, h2, h3, h4, h5, h6⟩ := h
  refine ⟨a, m, c, cs, k, sd, h1, h2, h3, ⟨Nat.lt_of_lt_of_le h4.1 ht.size, fun j => ?_, fun j => ?_⟩, hc _ _ _ _ _ _ h4 h5, h6⟩
  · exact (World.cell?_of_block (a := ⟨b, j, none⟩) (ht.block b h4.1 (.inl hb))).trans (h4.2.1 j)
  · exact (World.frozen?_of_block (a := ⟨b, j, none⟩) (ht.block b h4.1 (.inl hb))).trans (h4.2.2 j)
/-- Choices have been drawn from the source in block b; nothing else that was there has turned. -/
def Drew (b n : Nat) (w w' : World) : Prop := SrcAt w' b n ∧ Turned b (b + 1) w w'
theorem Drew.trans {b n n' : Nat} {w w1 w2 : World} (h : Drew b n w w1) (k : Drew b n' w1 w2) : Drew b n' w w2 := ⟨k.1, h.2.trans k.2⟩
theorem Drew.then_below {b n : Nat} {w w1 w2 : World} (h : Drew b n w w1) (k : Below w1.heap.size w1 w2) : Drew b n w w2 := ⟨h.1.below k, h.2.then_below k⟩
theorem Drew.mono {b n n' : Nat} {w w' : World} (h : Drew b n w w') (hn : n ≤ n') : Drew b n' w w' := ⟨h.1.mono hn, h.2⟩
theorem Drew.refl {b n : Nat} {w : World} (h : SrcAt w b n) : Drew b n w w := ⟨h, Turned.refl _⟩
theorem Drew.of_below {b n : Nat} {w w' : World} (h : SrcAt w b n) (k : Below w.heap.size w w') : Drew b n w w' := ⟨h.below k, Turned.of_below k⟩
theorem Drew.below {b n : Nat} {w w' : World} (h : Drew b n w w') (hb : b ≤ w.heap.size) : Below b w w' := h.2.below (Nat.le_refl _) hb
/-- Rows made behind the source stay while it is drawn from. -/
theorem own_drew {w w' : World} {b n base : Nat} {e : TypeId} {size : Nat} {v : Value} {k : Nat} {xs : List Value} (h : w.ownsRow base e size v k xs) (hd : Drew b n w w') (hb : b < base) : w'.ownsRow base e size v k xs :=
  own_turned h hd.2 (fun g hg => by have := (World.ownsRow.lt h g hg).1; omega)
theorem IntsAt.drew {w w' : World} {b n : Nat} {v : Value} {l : List Int} (h : IntsAt w v l) (hd : Drew b n w w') (hv : 0 < l.length → ∀ b' o m c, v = .slice (some ⟨b', o, none⟩) m c → b' ≠ b) : IntsAt w' v l := by
  obtain ⟨a, m, c, rfl, h1, h2, h3, hc⟩ := h
  refine ⟨a, m, c, rfl, h1, h2, h3, fun i hi => ?_⟩
  obtain ⟨b', o, rfl, hs, c0⟩ := hc i hi
  have hne := hv (by omega) b' o m c rfl
  have hk := hd.2.block b' hs (by omega)
  exact ⟨b', o, rfl, Nat.lt_of_lt_of_le hs hd.2.size, (World.cell?_of_block (a := ⟨b', o + i, none⟩) hk).trans c0⟩
/-- A number between two bounds, drawn. -/
def DrawsI (b n : Nat) (lo hi : Int) (w : World) (e : Ending) (w' : World) : Prop := ∃ r : Int, e = .returned (.int .i64 r) ∧ lo ≤ r ∧ r ≤ hi ∧ Drew b n w w'
def DrawsB (b n : Nat) (w : World) (e : Ending) (w' : World) : Prop := ∃ r : Bool, e = .returned (.bool r) ∧ Drew b n w w'
/-- A list of numbers, drawn. -/
def DrawsL (b n : Nat) (P : List Int → Prop) (w : World) (e : Ending) (w' : World) : Prop := ∃ (a : Option Addr) (m c : Nat) (l : List Int), e = .returned (.slice a m c) ∧ P l ∧ OwnInts w' w.heap.size (.slice a m c) l ∧ Drew b n w w'
end Go.Proofs.YtcgbdhbdlnimhaaGreat
