import Derived.Test.YthdejhningghcaaMg11
import Derived.Test.YthdejhningghcaaMg2
/- Props: the number of props of a pattern, its highest throw, by both packages. -/
namespace Go.Proofs.Ythdejhningghcaa
open Go.ChangeShapes Go.WideShapes Go.ChangeAt Go.RowKit

/-- The number of props. -/
def propsL (l : List Int) : Int := meanL l
theorem propsL_in {l : List Int} (h : throwsB l = true) : 0 ≤ propsL l ∧ propsL l ≤ 180 := by
  obtain ⟨hx, h1, h12⟩ := throwsB_nth h
  have hm : ∀ x ∈ l, 0 ≤ x ∧ x ≤ 15 := by
    intro x hxl
    obtain ⟨i, hi, rfl⟩ := List.getElem_of_mem hxl
    have := hx i hi
    rwa [nth_eq l i hi] at this
  have h2 := sumF_in l 0 15 hm (by omega)
  unfold propsL meanL
  exact ⟨Int.ediv_nonneg (by omega) (by omega), Int.le_trans (Int.ediv_le_self _ (by omega)) (by omega)⟩
theorem sumF_throws {l : List Int} (h : throwsB l = true) : 0 ≤ sumF l 0 ∧ sumF l 0 ≤ 180 := by
  obtain ⟨hx, h1, h12⟩ := throwsB_nth h
  have hm : ∀ x ∈ l, 0 ≤ x ∧ x ≤ 15 := by
    intro x hxl
    obtain ⟨i, hi, rfl⟩ := List.getElem_of_mem hxl
    have := hx i hi
    rwa [nth_eq l i hi] at this
  have h2 := sumF_in l 0 15 hm (by omega)
  omega
theorem div_facts {t : Int} {k : Nat} (h0 : 0 ≤ t) (h1 : t ≤ 1000000) (hk : 1 ≤ k) : ((k : Int) == 0) = false ∧ t.tdiv (k : Int) = t / (k : Int) ∧ IntKind.i64.wrap (t / (k : Int)) = t / (k : Int) :=
  ⟨beq_eq_false_iff_ne.2 (by omega), Int.tdiv_eq_ediv_of_nonneg h0, IntWalk.i64_in _ (by have := Int.ediv_nonneg h0 (show (0 : Int) ≤ k by omega); have := Int.ediv_le_self (k : Int) h0; omega)⟩
end Go.Proofs.Ythdejhningghcaa
