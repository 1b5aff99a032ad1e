import Derived.Test.YtclffohjpbmnbaaDoorMg30
import Derived.Test.YtclffohjpbmnbaaDoorMg39
/- LawDu0: plain: the text of a plan, once more. -/
namespace Go.Proofs.YtclffohjpbmnbaaDoor
open Go.RowKit

theorem cardLine_in {c : Card} : ∀ x ∈ cardLine c, 0 ≤ x ∧ x ≤ 255 := by
  intro x hx
  unfold cardLine at hx
  rcases List.mem_append.1 hx with hx | hx
  · exact chars_in _ x hx
  · rcases List.mem_cons.1 hx with rfl | hx
    · omega
    · rcases List.mem_append.1 hx with hx | hx
      · exact chars_in _ x hx
      · rcases List.mem_cons.1 hx with rfl | hx
        · omega
        · rcases List.mem_append.1 hx with hx | hx
          · exact chars_in _ x hx
          · simp at hx; omega
theorem cardsCh_in (l : List Card) : ∀ x ∈ cardsCh l, 0 ≤ x ∧ x ≤ 255 := by
  intro x hx
  unfold cardsCh at hx
  obtain ⟨c, -, hc⟩ := List.mem_flatMap.1 hx
  exact cardLine_in x hc
theorem cardsText_law (l : List Card) : (cardsTextB l).size ≤ 8000 ∧ (cardsTextB l = { data := #[] } ∨ (rcOk (chars (cardsTextB l)) = true ∧ rcL (chars (cardsTextB l)) = l)) := by
  unfold cardsTextB
  cases h : okCards l
  · rw [if_neg (by decide)]; exact ⟨by decide, .inl rfl⟩
  · rw [if_pos rfl]
    refine ⟨?_, .inr ?_⟩
    · rw [strOfNums_size]
      have h1 := cardsCh_len h l.length (Nat.le_refl _)
      rw [List.take_length] at h1
      have := okCards_len h
      omega
    · rw [chars_strOf (cardsCh_in l)]
      exact cards_rt h
end Go.Proofs.YtclffohjpbmnbaaDoor
