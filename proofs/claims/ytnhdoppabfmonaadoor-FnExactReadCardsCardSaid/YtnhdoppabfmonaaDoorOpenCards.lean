/- OpenCards: what the reading of cards says of the memory behind them. -/
import Derived.Test.YtnhdoppabfmonaaDoorOpen
import Derived.Test.YtnhdoppabfmonaaDoorCardsB
namespace Go.Proofs.YtnhdoppabfmonaaDoor
open Go.ChangeShapes Go.WideShapes Go.ChangeAt Go.RowKit Go.Deep

section
variable {P : Program} {H : Type} {enc : TypeId × Value → H} {w : World} {base b0 : Nat} {spare : Nat → Bool} {held : Bool} {r : Reach} {v : Value} {d : DataW H} {p : List MemPlace}
theorem cards_of_trod' {t e tn ti : TypeId} {n0 n1 n2 g0 g1 g2 q0 q1 q2 : String} {e0 e1 e2 : Bool} {b1 b2 b3 : Nat} (ht : P.underlying t = some (.slice e))
    (he : P.underlying e = some (.struct #[⟨n0, tn, 0, e0, g0, q0, b1⟩, ⟨n1, ti, 1, e1, g1, q1, b2⟩, ⟨n2, ti, 2, e2, g2, q2, b3⟩]))
    (hone : oneCellFields P #[⟨n0, tn, 0, e0, g0, q0, b1⟩, ⟨n1, ti, 1, e1, g1, q1, b2⟩, ⟨n2, ti, 2, e2, g2, q2, b3⟩] = true) (hC : P.cellsOf e = 3)
    (hn : P.underlying tn = some .string) (hti : P.underlying ti = some (.int .i64)) {fuel : Nat} {x : DataW H × List MemPlace} (h : DataW.trod enc P w base spare held fuel t [v] = some x) :
    ∃ l, CardsAt w v l ∧ ∀ c ∈ l, (-9223372036854775808 ≤ c.level ∧ c.level ≤ 9223372036854775807) ∧ (-9223372036854775808 ≤ c.due ∧ c.due ≤ 9223372036854775807) := by
  rcases open_slice_fields ht he hone hC h with ⟨hcs, _⟩ | ⟨a, len, cap, m, D, Pl, hcs, _, hl, hm, hmm, _, hi⟩
  · simp at hcs
    exact ⟨[], ⟨none, 0, 0, hcs, rfl, Nat.le_refl _, by decide, fun i hi => absurd hi (Nat.not_lt_zero _)⟩, fun n hn => by cases hn⟩
  · simp at hcs
    have hlm : len ≤ m := by rw [hmm]; split <;> omega
    have hspot : 0 < len → a.spot = none := fun h0 => by
      obtain ⟨ys, n, _, _, _, hf⟩ := hi 0 (by omega)
      obtain ⟨x0, y0, hc0, _, ht0⟩ := hf 0 _ rfl
      exact spot_of_cell hc0
    obtain ⟨l, hll, hr⟩ := choose_list (fun i (c : Card) => (a = ⟨a.block, a.off, none⟩ ∧ a.block < w.heap.size ∧ c.name.size ≤ 9223372036854775807 ∧ w.cell? ⟨a.block, a.off + i * 3, none⟩ = some (.string c.name) ∧ w.cell? ⟨a.block, a.off + i * 3 + 1, none⟩ = some (.int .i64 c.level) ∧ w.cell? ⟨a.block, a.off + i * 3 + 2, none⟩ = some (.int .i64 c.due)) ∧ (-9223372036854775808 ≤ c.level ∧ c.level ≤ 9223372036854775807) ∧ (-9223372036854775808 ≤ c.due ∧ c.due ≤ 9223372036854775807)) len (fun i hil => by
      obtain ⟨ys, n, _, _, _, hf⟩ := hi i (by omega)
      obtain ⟨x0, y0, hc0, _, ht0⟩ := hf 0 _ rfl
      obtain ⟨x1, y1, hc1, _, ht1⟩ := hf 1 _ rfl
      obtain ⟨x2, y2, hc2, _, ht2⟩ := hf 2 _ rfl
      obtain ⟨s, hs, _, hsz⟩ := DataW.trod_string hn ht0
      obtain ⟨z1, hz1, _, hw1⟩ := DataW.trod_int hti ht1
      obtain ⟨z2, hz2, _, hw2⟩ := DataW.trod_int hti ht2
      simp only [List.cons.injEq, and_true] at hs hz1 hz2
      subst hs hz1 hz2
      obtain ⟨h2, h3, h4⟩ := addr_of_cell (hspot (by omega)) hc0
      obtain ⟨_, _, h5⟩ := addr_of_cell (hspot (by omega)) hc1
      obtain ⟨_, _, h6⟩ := addr_of_cell (hspot (by omega)) hc2
      simp [Lit.wf, IntKind.min, IntKind.max, IntKind.signed, IntKind.bits] at hw1 hw2
      exact ⟨⟨s, z1, z2⟩, ⟨h2, h3, by simpa [maxLen] using hsz, by simpa using h4, by simpa [Nat.add_assoc] using h5, by simpa [Nat.add_assoc] using h6⟩, by dsimp only; omega, by dsimp only; omega⟩)
    refine ⟨l, ⟨some a, len, cap, hcs, hll.symm, hl, by simpa [maxLen] using hm, fun i hi => ?_⟩, fun n hn => ?_⟩
    · obtain ⟨⟨ha, hb, hc⟩, _⟩ := hr i (by omega)
      exact ⟨a.block, a.off, by rw [← ha], hb, hc⟩
    · obtain ⟨i, hi, rfl⟩ := List.getElem_of_mem hn
      have := (hr i (by omega)).2
      rwa [nth_eq l i hi] at this
theorem cards_of_trod {t e tn ti : TypeId} {n0 n1 n2 g0 g1 g2 q0 q1 q2 : String} {e0 e1 e2 : Bool} {b1 b2 b3 : Nat} (ht : P.underlying t = some (.slice e))
    (he : P.underlying e = some (.struct #[⟨n0, tn, 0, e0, g0, q0, b1⟩, ⟨n1, ti, 1, e1, g1, q1, b2⟩, ⟨n2, ti, 2, e2, g2, q2, b3⟩]))
    (hone : oneCellFields P #[⟨n0, tn, 0, e0, g0, q0, b1⟩, ⟨n1, ti, 1, e1, g1, q1, b2⟩, ⟨n2, ti, 2, e2, g2, q2, b3⟩] = true) (hC : P.cellsOf e = 3)
    (hn : P.underlying tn = some .string) (hti : P.underlying ti = some (.int .i64)) (hv : Value.okWide P w r b0 t v) (h : DataW.Trod enc P w base spare held t v d p) :
    ∃ l, CardsAt w v l ∧ ∀ c ∈ l, (-9223372036854775808 ≤ c.level ∧ c.level ≤ 9223372036854775807) ∧ (-9223372036854775808 ≤ c.due ∧ c.due ≤ 9223372036854775807) := by
  obtain ⟨a, len, cap, rfl⟩ := okWide_slice ht hv
  obtain ⟨fuel, hf⟩ := h
  exact cards_of_trod' ht he hone hC hn hti (by simpa [Value.cells] using hf)
end
end Go.Proofs.YtnhdoppabfmonaaDoor
