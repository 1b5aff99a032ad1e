import Derived.Test.YthdejhningghcaaMg6
/- PracL: plain: the order of lists is a total order (for the law on what has been practiced). -/
namespace Go.Proofs.Ythdejhningghcaa
open Go.RowKit

theorem cmpF_swp : ∀ (a b : List Int), a.length = b.length → cmpF b a = - cmpF a b
  | [], [], _ => rfl
  | x :: a, y :: b, h => by
    have ih := cmpF_swp a b (by simpa using h)
    simp only [cmpF]
    by_cases h1 : x < y
    · have h2 : ¬ y < x := by omega
      simp [h1, h2]
    · by_cases h2 : y < x
      · simp [h1, h2]
      · simp [h1, h2, ih]
  | [], _ :: _, h => by simp at h
  | _ :: _, [], h => by simp at h
theorem cmpL_swp (a b : List Int) : cmpL b a = - cmpL a b := by
  unfold cmpL
  by_cases h1 : a.length < b.length
  · rw [if_neg (by omega), if_pos h1, if_pos h1]; rfl
  · by_cases h2 : b.length < a.length
    · rw [if_pos h2, if_neg h1, if_pos h2]
    · rw [if_neg h2, if_neg h1, if_neg h1, if_neg h2]; exact cmpF_swp a b (by omega)
theorem cmpF_zero : ∀ (a b : List Int), a.length = b.length → cmpF a b = 0 → a = b
  | [], [], _, _ => rfl
  | x :: a, y :: b, h, e => by
    simp only [cmpF] at e
    by_cases h1 : x < y
    · rw [if_pos h1] at e; exact absurd e (by decide)
    · rw [if_neg h1] at e
      by_cases h2 : y < x
      · rw [if_pos h2] at e; exact absurd e (by decide)
      · rw [if_neg h2] at e
        have : x = y := by omega
        rw [this, cmpF_zero a b (by simpa using h) e]
  | [], _ :: _, h, _ => by simp at h
  | _ :: _, [], h, _ => by simp at h
theorem cmpL_zero {a b : List Int} (h : cmpL a b = 0) : a = b := by
  unfold cmpL at h
  by_cases h1 : a.length < b.length
  · rw [if_pos h1] at h; exact absurd h (by decide)
  · rw [if_neg h1] at h
    by_cases h2 : b.length < a.length
    · rw [if_pos h2] at h; exact absurd h (by decide)
    · rw [if_neg h2] at h; exact cmpF_zero a b (by omega) h
theorem cmpF_lt_trans : ∀ (a b c : List Int), a.length = b.length → b.length = c.length → cmpF a b < 0 → cmpF b c < 0 → cmpF a c < 0
  | [], [], [], _, _, h, _ => by simp [cmpF] at h
  | x :: a, y :: b, z :: c, h1, h2, h3, h4 => by
    simp only [cmpF] at h3 h4 ⊢
    have ih := cmpF_lt_trans a b c (by simpa using h1) (by simpa using h2)
    by_cases e1 : x < y
    · by_cases e2 : y < z
      · rw [if_pos (show x < z by omega)]; decide
      · rw [if_neg e2] at h4
        by_cases e3 : z < y
        · rw [if_pos e3] at h4; exact absurd h4 (by decide)
        · rw [if_pos (show x < z by omega)]; decide
    · rw [if_neg e1] at h3
      by_cases e4 : y < x
      · rw [if_pos e4] at h3; exact absurd h3 (by decide)
      · rw [if_neg e4] at h3
        by_cases e2 : y < z
        · rw [if_pos (show x < z by omega)]; decide
        · rw [if_neg e2] at h4
          by_cases e3 : z < y
          · rw [if_pos e3] at h4; exact absurd h4 (by decide)
          · rw [if_neg e3] at h4
            rw [if_neg (show ¬ x < z by omega), if_neg (show ¬ z < x by omega)]
            exact ih h3 h4
  | [], [], _ :: _, _, h, _, _ => by simp at h
  | [], _ :: _, _, h, _, _, _ => by simp at h
  | _ :: _, [], _, h, _, _, _ => by simp at h
  | _ :: _, _ :: _, [], _, h, _, _ => by simp at h
theorem cmpL_lt_trans {a b c : List Int} (h1 : cmpL a b < 0) (h2 : cmpL b c < 0) : cmpL a c < 0 := by
  unfold cmpL at *
  by_cases a1 : a.length < b.length
  · by_cases b1 : b.length < c.length
    · rw [if_pos (by omega)]; decide
    · rw [if_neg b1] at h2
      by_cases b2 : c.length < b.length
      · rw [if_pos b2] at h2; exact absurd h2 (by decide)
      · rw [if_pos (by omega)]; decide
  · rw [if_neg a1] at h1
    by_cases a2 : b.length < a.length
    · rw [if_pos a2] at h1; exact absurd h1 (by decide)
    · rw [if_neg a2] at h1
      by_cases b1 : b.length < c.length
      · rw [if_pos (by omega)]; decide
      · rw [if_neg b1] at h2
        by_cases b2 : c.length < b.length
        · rw [if_pos b2] at h2; exact absurd h2 (by decide)
        · rw [if_neg b2] at h2
          rw [if_neg (by omega), if_neg (by omega)]
          exact cmpF_lt_trans a b c (by omega) (by omega) h1 h2
end Go.Proofs.Ythdejhningghcaa
