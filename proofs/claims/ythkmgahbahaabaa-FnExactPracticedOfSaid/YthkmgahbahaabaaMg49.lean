import Derived.Test.YthkmgahbahaabaaMg48
import Derived.Test.YthkmgahbahaabaaMg5
/- OpenAtts: what the reading of attempts says of the memory behind them. -/
namespace Go.Proofs.Ythkmgahbahaabaa
open Go.ChangeShapes Go.WideShapes Go.ChangeAt Go.RowKit Go.Deep

section
variable {P : Program} {H : Type} {enc : TypeId × Value → H} {w : World} {base b0 : Nat} {spare : Nat → Bool} {held : Bool} {r : Reach} {v : Value} {d : DataW H} {p : List MemPlace}
theorem attempts_of_trod {t e te : TypeId} {f0 f1 f2 : Field} (ht : P.underlying t = some (.slice e))
    (he : P.underlying e = some (.struct #[f0, f1, f2])) (hone : oneCellFields P #[f0, f1, f2] = true) (hC : P.cellsOf e = 3)
    (h0 : P.underlying f0.type = some (.slice te)) (hte : P.underlying te = some (.int .i64)) (hc1 : P.cellsOf te = 1) (h1 : P.underlying f1.type = some (.int .i64)) (h2 : P.underlying f2.type = some .bool)
    (hv : Value.okWide P w r b0 t v) (h : DataW.Trod enc P w base spare held t v d p) :
    ∃ l, AttsAt w v l ∧ ∀ c ∈ l, (-9223372036854775808 ≤ c.catches ∧ c.catches ≤ 9223372036854775807) ∧ (∀ n ∈ c.pattern, -9223372036854775808 ≤ n ∧ n ≤ 9223372036854775807) := by
  obtain ⟨a, len, cap, rfl⟩ := okWide_slice ht hv
  obtain ⟨fuel, hf⟩ := h
  have hf' : DataW.trod enc P w base spare held fuel t [.slice a len cap] = some (d, p) := by simpa [Value.cells] using hf
  rcases open_slice_fields ht he hone hC hf' with ⟨hcs, _⟩ | ⟨a', len', cap', m, D, Pl, hcs, _, hl, hm, hmm, _, hi⟩
  · simp at hcs
    obtain ⟨rfl, rfl, rfl⟩ := hcs
    exact ⟨[], ⟨none, 0, 0, rfl, rfl, Nat.le_refl _, by decide, fun i hi => absurd hi (Nat.not_lt_zero _)⟩, fun n hn => by cases hn⟩
  · simp at hcs
    obtain ⟨rfl, rfl, rfl⟩ := hcs
    have hlm : len ≤ m := by rw [hmm]; split <;> omega
    have hspot : 0 < len → a'.spot = none := fun h0 => by
      obtain ⟨ys, n, _, _, _, hf⟩ := hi 0 (by omega)
      obtain ⟨x0, y0, hc0, _, ht0⟩ := hf 0 _ rfl
      exact spot_of_cell hc0
    obtain ⟨l, hll, hr⟩ := choose_list (fun i (c : Att) => (∃ pa pn pc, a' = ⟨a'.block, a'.off, none⟩ ∧ a'.block < w.heap.size ∧ IntsAt w (.slice pa pn pc) c.pattern ∧ w.cell? ⟨a'.block, a'.off + i * 3, none⟩ = some (.slice pa pn pc) ∧ w.cell? ⟨a'.block, a'.off + i * 3 + 1, none⟩ = some (.int .i64 c.catches) ∧ w.cell? ⟨a'.block, a'.off + i * 3 + 2, none⟩ = some (.bool c.dropped)) ∧ (-9223372036854775808 ≤ c.catches ∧ c.catches ≤ 9223372036854775807) ∧ (∀ n ∈ c.pattern, -9223372036854775808 ≤ n ∧ n ≤ 9223372036854775807)) len (fun i hil => by
      obtain ⟨ys, n, _, _, _, hf⟩ := hi i (by omega)
      obtain ⟨x0, y0, hc0, _, ht0⟩ := hf 0 _ rfl
      obtain ⟨x1, y1, hc1', _, ht1⟩ := hf 1 _ rfl
      obtain ⟨x2, y2, hc2, _, ht2⟩ := hf 2 _ rfl
      obtain ⟨pl, hpi, hpr⟩ := ints_of_trod' h0 hte hc1 ht0
      obtain ⟨z1, hz1, _, hw1⟩ := DataW.trod_int h1 ht1
      obtain ⟨z2, hz2, _⟩ := DataW.trod_bool h2 ht2
      simp only [List.cons.injEq, and_true] at hz1 hz2
      subst hz1 hz2
      obtain ⟨pa, pn, pc, rfl, hpx⟩ := hpi
      obtain ⟨g2, g3, g4⟩ := addr_of_cell (hspot (by omega)) hc0
      obtain ⟨_, _, g5⟩ := addr_of_cell (hspot (by omega)) hc1'
      obtain ⟨_, _, g6⟩ := addr_of_cell (hspot (by omega)) hc2
      simp [Lit.wf, IntKind.min, IntKind.max, IntKind.signed, IntKind.bits] at hw1
      exact ⟨⟨pl, z1, z2⟩, ⟨pa, pn, pc, g2, g3, ⟨pa, pn, pc, rfl, hpx⟩, by simpa using g4, by simpa [Nat.add_assoc] using g5, by simpa [Nat.add_assoc] using g6⟩, by dsimp only; omega, hpr⟩)
    refine ⟨l, ⟨some a', len, cap, rfl, hll.symm, hl, by simpa [maxLen] using hm, fun i hi => ?_⟩, fun n hn => ?_⟩
    · obtain ⟨⟨pa, pn, pc, ha, hb, hp, c0, c1, c2⟩, _⟩ := hr i (by omega)
      refine ⟨a'.block, a'.off, pa, pn, pc, by rw [← ha], hb, trivial, hp, fun j hj => ?_⟩
      match j, hj with
      | 0, _ => exact c0
      | 1, _ => exact c1
      | 2, _ => exact c2
    · obtain ⟨i, hi, rfl⟩ := List.getElem_of_mem hn
      have := (hr i (by omega)).2
      rwa [nth_eq l i hi] at this
end
end Go.Proofs.Ythkmgahbahaabaa
