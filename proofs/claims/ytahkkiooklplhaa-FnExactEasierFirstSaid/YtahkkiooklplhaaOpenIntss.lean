/- OpenIntss: what the reading of a slice of lists of numbers says of the memory behind it. -/
import Derived.Test.YtahkkiooklplhaaOpen
import Derived.Test.YtahkkiooklplhaaHunt
namespace Go.Proofs.Ytahkkiooklplhaa
open Go.ChangeShapes Go.WideShapes Go.ChangeAt Go.RowKit Go.Deep

section
variable {P : Program} {H : Type} {enc : TypeId × Value → H} {w : World} {base b0 : Nat} {spare : Nat → Bool} {held : Bool} {r : Reach} {v : Value} {d : DataW H} {p : List MemPlace}
theorem intss_of_trod {t e te : TypeId} (ht : P.underlying t = some (.slice e)) (he : P.underlying e = some (.slice te)) (hte : P.underlying te = some (.int .i64)) (hC : P.cellsOf e = 1) (hc1 : P.cellsOf te = 1)
    (hv : Value.okWide P w r b0 t v) (h : DataW.Trod enc P w base spare held t v d p) :
    ∃ l, IntssAt w v l ∧ ∀ c ∈ l, (∀ n ∈ c, -9223372036854775808 ≤ n ∧ n ≤ 9223372036854775807) := by
  obtain ⟨a, len, cap, rfl⟩ := okWide_slice ht hv
  obtain ⟨fuel, hf⟩ := h
  have hf' : DataW.trod enc P w base spare held fuel t [.slice a len cap] = some (d, p) := by simpa [Value.cells] using hf
  rcases open_slice ht hf' with ⟨hcs, _⟩ | ⟨a', len', cap', m, n, D, Pl, hcs, _, hl, hm, hmm, hx, hi⟩
  · simp at hcs
    obtain ⟨rfl, rfl, rfl⟩ := hcs
    exact ⟨[], ⟨none, 0, 0, rfl, rfl, Nat.le_refl _, by decide, fun i hi => absurd hi (Nat.not_lt_zero _)⟩, fun n hn => by cases hn⟩
  · simp at hcs
    obtain ⟨rfl, rfl, rfl⟩ := hcs
    have hlm : len ≤ m := by rw [hmm]; split <;> omega
    have hone : ∀ i, i < m → ∃ (z : Value) (pl : List Int), w.cell? (a'.add i) = some z ∧ IntsAt w z pl ∧ ∀ n ∈ pl, -9223372036854775808 ≤ n ∧ n ≤ 9223372036854775807 := by
      intro i him
      obtain ⟨cs', hc, ht'⟩ := hi i him
      rw [hC] at hc
      obtain ⟨_, hcl, hat⟩ := World.cells?_some hc
      obtain ⟨z, rfl⟩ : ∃ z, cs' = [z] := List.length_eq_one_iff.1 hcl
      have h0 := hat 0 (by omega)
      rw [Nat.mul_one] at h0
      have h1 : w.cell? (a'.add i) = some z := by rw [← Nat.add_zero i, ← Go.Deep.add_add, h0]; rfl
      obtain ⟨pl, hp1, hp2⟩ := ints_of_trod' he hte hc1 ht'
      exact ⟨z, pl, h1, hp1, hp2⟩
    have hspot : 0 < len → a'.spot = none := fun h0 => by
      obtain ⟨z, pl, h1, _⟩ := hone 0 (by omega)
      exact spot_of_cell h1
    obtain ⟨l, hll, hr⟩ := choose_list (fun i (c : List Int) => (∃ pa pn pc, a' = ⟨a'.block, a'.off, none⟩ ∧ a'.block < w.heap.size ∧ IntsAt w (.slice pa pn pc) c ∧ w.cell? ⟨a'.block, a'.off + i, none⟩ = some (.slice pa pn pc)) ∧ (∀ n ∈ c, -9223372036854775808 ≤ n ∧ n ≤ 9223372036854775807)) len (fun i hil => by
      obtain ⟨z, pl, h1, hp, hpr⟩ := hone i (by omega)
      obtain ⟨pa, pn, pc, rfl, hpx⟩ := hp
      obtain ⟨g2, g3, g4⟩ := addr_of_cell (hspot (by omega)) h1
      exact ⟨pl, ⟨pa, pn, pc, g2, g3, ⟨pa, pn, pc, rfl, hpx⟩, g4⟩, hpr⟩)
    refine ⟨l, ⟨some a', len, cap, rfl, hll.symm, hl, by simpa [maxLen] using hm, fun i hi => ?_⟩, fun c hc => ?_⟩
    · obtain ⟨⟨pa, pn, pc, ha, hb, hp, c0⟩, _⟩ := hr i (by omega)
      refine ⟨a'.block, a'.off, pa, pn, pc, by rw [← ha], hb, trivial, hp, fun j hj => ?_⟩
      match j, hj with
      | 0, _ => rw [show a'.off + i * intssS.k + 0 = a'.off + i from by show a'.off + i * 1 + 0 = _; omega]; exact c0
    · obtain ⟨i, hi, rfl⟩ := List.getElem_of_mem hc
      have := (hr i (by omega)).2
      rwa [nth_eq l i hi] at this
end
end Go.Proofs.Ytahkkiooklplhaa
