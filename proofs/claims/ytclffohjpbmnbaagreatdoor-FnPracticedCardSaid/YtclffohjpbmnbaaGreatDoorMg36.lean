import Derived.Test.YtclffohjpbmnbaaGreatDoorMg27
import Derived.Test.YtclffohjpbmnbaaGreatDoorMg35
/- LawPc0: plain: the text of attempts, once more; partial sums. -/
namespace Go.Proofs.YtclffohjpbmnbaaGreatDoor
open Go.RowKit

theorem attLine_in {x : Att} (h : okPat x.pattern = true) : ∀ y ∈ attLine x, 0 ≤ y ∧ y ≤ 255 := by
  have hh := hex_bytes (okPat_mem h)
  intro y hy
  rw [attBody_line] at hy
  rcases List.mem_append.1 hy with hy | hy
  · unfold attBody at hy
    rcases List.mem_append.1 hy with hy | hy
    · exact hh y hy
    · rcases List.mem_cons.1 hy with rfl | hy
      · omega
      · rcases List.mem_append.1 hy with hy | hy
        · exact chars_in _ y hy
        · split at hy
          · rcases List.mem_cons.1 hy with rfl | hy
            · omega
            · unfold dropC at hy; simp at hy; omega
          · exact absurd hy List.not_mem_nil
  · simp at hy; omega
theorem attsText_law (l : List Att) : (attsTextB l).size ≤ 8000 ∧ (attsTextB l = { data := #[] } ∨ (raOk (chars (attsTextB l)) = true ∧ raL (chars (attsTextB l)) = l)) := by
  unfold attsTextB
  cases h : okAtts l
  · rw [if_neg (by decide)]; exact ⟨by decide, .inl rfl⟩
  · rw [if_pos rfl]
    refine ⟨?_, .inr ?_⟩
    · rw [strOfNums_size]
      have h1 := attsCh_len h l.length (Nat.le_refl _)
      rw [List.take_length] at h1
      have := (okAtts_nth h).2
      omega
    · rw [chars_strOf ?_]
      · exact atts_rt h
      · intro y hy
        unfold attsCh at hy
        obtain ⟨x, hx, hy⟩ := List.mem_flatMap.1 hy
        obtain ⟨i, hi, rfl⟩ := List.getElem_of_mem hx
        have := ((okAtts_nth h).1 i hi).1
        rw [nth_eq l i hi] at this
        exact attLine_in this y hy
/-- How many attempts the first k patterns have together. -/
def sumTo (xs M : List (List Int)) (k : Nat) : Nat := ((M.take k).map (cntN xs)).sum
theorem sumTo_step (xs M : List (List Int)) (k : Nat) (h : k < M.length) : sumTo xs M (k + 1) = sumTo xs M k + cntN xs (nth M k) := by
  unfold sumTo
  rw [take_nth M k h, List.map_append, List.sum_append]
  simp
theorem sumTo_le (xs M : List (List Int)) (k : Nat) : sumTo xs M k ≤ (M.map (cntN xs)).sum := by
  unfold sumTo
  conv => rhs; rw [← List.take_append_drop k M, List.map_append, List.sum_append]
  omega
theorem sumTo_all (xs M : List (List Int)) (k : Nat) (h : M.length ≤ k) : sumTo xs M k = (M.map (cntN xs)).sum := by
  unfold sumTo; rw [List.take_of_length_le h]
end Go.Proofs.YtclffohjpbmnbaaGreatDoor
