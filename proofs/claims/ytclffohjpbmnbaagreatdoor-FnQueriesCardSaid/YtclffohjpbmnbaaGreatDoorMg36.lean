import Derived.Test.YtclffohjpbmnbaaGreatDoorMg33
/- SplitM: plain: the parts of a text, its lines; slices of texts in memory. -/
namespace Go.Proofs.YtclffohjpbmnbaaGreatDoor
open Go.ChangeShapes Go.WideShapes Go.ChangeAt Go.RowKit

theorem split_mem (c : Int) : ∀ (l : List Int), ∀ p ∈ splitL c l, ∀ x ∈ p, x ∈ l
  | [], p, hp, x, hx => by simp [splitL] at hp; subst hp; exact hx
  | y :: l, p, hp, x, hx => by
    by_cases h : y = c
    · subst h
      rw [splitL_eq] at hp
      rcases List.mem_cons.1 hp with rfl | hp
      · exact absurd hx List.not_mem_nil
      · exact List.mem_cons_of_mem _ (split_mem _ l p hp x hx)
    · rw [splitL_neq h] at hp
      rcases List.mem_cons.1 hp with rfl | hp
      · rcases List.mem_cons.1 hx with rfl | hx
        · exact List.mem_cons_self ..
        · refine List.mem_cons_of_mem _ (split_mem c l _ ?_ x hx)
          cases hs : splitL c l with
          | nil => exact absurd hs (splitL_ne c l)
          | cons a b => simp
      · exact List.mem_cons_of_mem _ (split_mem c l p (List.mem_of_mem_tail hp) x hx)
theorem split_len1 (c : Int) : ∀ (l : List Int), ∀ p ∈ splitL c l, p.length ≤ l.length
  | [], p, hp => by simp [splitL] at hp; subst hp; simp
  | y :: l, p, hp => by
    by_cases h : y = c
    · subst h
      rw [splitL_eq] at hp
      rcases List.mem_cons.1 hp with rfl | hp
      · simp
      · have := split_len1 _ l p hp; simp; omega
    · rw [splitL_neq h] at hp
      rcases List.mem_cons.1 hp with rfl | hp
      · have := split_len1 c l ((splitL c l).headD []) (by
          cases hs : splitL c l with
          | nil => exact absurd hs (splitL_ne c l)
          | cons a b => simp)
        rw [List.length_cons, List.length_cons]; omega
      · have := split_len1 c l p (List.mem_of_mem_tail hp); simp; omega
theorem split_count (c : Int) : ∀ (l : List Int), (splitL c l).length ≤ l.length + 1
  | [] => by simp [splitL]
  | y :: l => by
    by_cases h : y = c
    · subst h; rw [splitL_eq]; have := split_count y l; simp; omega
    · rw [splitL_neq h]; have := split_count c l; simp; omega
theorem lines_mem {cs p : List Int} (h : p ∈ linesL cs) : p ∈ splitL 10 cs := by
  unfold linesL at h
  split at h
  · exact List.dropLast_subset _ h
  · exact absurd h List.not_mem_nil
theorem lines_count (cs : List Int) : (linesL cs).length ≤ cs.length := by
  unfold linesL
  split
  · have := split_count 10 cs; rw [List.length_dropLast]; omega
  · simp
theorem StrsC.at1 {w : World} {a : Option Addr} {L : List (List Int)} (h : StrsC w a (L.map strOfNums)) (k : Nat) (hk : k < L.length) : ∃ b o, a = some ⟨b, o, none⟩ ∧ b < w.heap.size ∧ w.cell? ⟨b, o + k, none⟩ = some (.string (strOfNums (nth L k))) := by
  obtain ⟨b, o, h1, h2, h3⟩ := h k (by rw [List.length_map]; exact hk)
  refine ⟨b, o, h1, h2, ?_⟩
  rw [h3]
  congr 2
  rw [nth_eq _ _ (by rw [List.length_map]; exact hk), nth_eq _ _ hk, List.getElem_map]
theorem nth_dropLast {α : Type} [Inhabited α] (l : List α) (k : Nat) (h : k + 1 < l.length) : nth l.dropLast k = nth l k := by
  rw [nth_eq _ _ (by rw [List.length_dropLast]; omega), nth_eq _ _ (by omega), List.getElem_dropLast]
theorem linesOk_last {cs : List Int} : linesOk cs = (nth (splitL 10 cs) ((splitL 10 cs).length - 1) == []) := by
  unfold linesOk
  have h := splitL_ne 10 cs
  have hl := List.length_pos_iff.2 h
  rw [List.getLast?_eq_getElem?, List.getElem?_eq_getElem (by omega), nth_eq _ _ (by omega)]
  rfl
theorem linesL_eq {cs : List Int} (h : linesOk cs = true) : linesL cs = (splitL 10 cs).dropLast := by unfold linesL; rw [if_pos h]
instance : Inhabited (List Int) := ⟨[]⟩
theorem join_lines (c : Int) : ∀ (ls : List (List Int)), joinL c (ls ++ [[]]) = ls.flatMap (fun p => p ++ [c])
  | [] => rfl
  | p :: r => by
    rw [List.cons_append, joinL_cons c p (by simp), join_lines c r]
    simp
theorem lines_back {cs : List Int} (h : linesOk cs = true) : (linesL cs).flatMap (fun p => p ++ [10]) = cs := by
  have h2 : splitL 10 cs = linesL cs ++ [[]] := by
    rw [linesL_eq h]
    have h3 := linesOk_last (cs := cs)
    rw [h] at h3
    have h4 : nth (splitL 10 cs) ((splitL 10 cs).length - 1) = [] := by simpa using h3.symm
    have hne := splitL_ne 10 cs
    have hp := List.length_pos_iff.2 hne
    rw [nth_eq _ _ (by omega)] at h4
    have h5 := List.dropLast_concat_getLast hne
    rw [List.getLast_eq_getElem, h4] at h5
    exact h5.symm
  rw [← join_lines, ← h2, join_split]
/-- Three parts put together again. -/
theorem split3_back {c : Int} {p : List Int} (h : (splitL c p).length = 3) : nth (splitL c p) 0 ++ c :: (nth (splitL c p) 1 ++ c :: nth (splitL c p) 2) = p := by
  have hj := join_split c p
  match hs : splitL c p, h with
  | [x, y, z], _ =>
    rw [hs] at hj
    exact hj
theorem split2_back {c : Int} {p : List Int} (h : (splitL c p).length = 2) : nth (splitL c p) 0 ++ c :: nth (splitL c p) 1 = p := by
  have hj := join_split c p
  match hs : splitL c p, h with
  | [x, y], _ =>
    rw [hs] at hj
    exact hj
end Go.Proofs.YtclffohjpbmnbaaGreatDoor
