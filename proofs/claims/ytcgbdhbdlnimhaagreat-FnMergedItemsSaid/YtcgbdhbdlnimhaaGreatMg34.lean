import Derived.Test.YtcgbdhbdlnimhaaGreatMg32
import Derived.Test.YtcgbdhbdlnimhaaGreatMg33
import Derived.Test.YtcgbdhbdlnimhaaGreatMg26
/- ReadIL: plain: what the reading of a library says. -/
namespace Go.Proofs.YtcgbdhbdlnimhaaGreat
open Go.ChangeShapes Go.WideShapes Go.ChangeAt Go.RowKit

theorem split_mem (c : Int) : ∀ (l : List Int), ∀ p ∈ splitL c l, ∀ x ∈ p, x ∈ l
  | [], p, hp, x, hx => by simp [splitL] at hp; subst hp; exact hx
  | y :: l, p, hp, x, hx => by
    by_cases h : y = c
    · subst h
      rw [splitL_eq] at hp
      rcases List.mem_cons.1 hp with rfl | hp
      · exact absurd hx List.not_mem_nil
      · exact List.mem_cons_of_mem _ (split_mem _ l p hp x hx)
    · rw [splitL_neq h] at hp
      rcases List.mem_cons.1 hp with rfl | hp
      · rcases List.mem_cons.1 hx with rfl | hx
        · exact List.mem_cons_self ..
        · refine List.mem_cons_of_mem _ (split_mem c l _ ?_ x hx)
          cases hs : splitL c l with
          | nil => exact absurd hs (splitL_ne c l)
          | cons a b => simp
      · exact List.mem_cons_of_mem _ (split_mem c l p (List.mem_of_mem_tail hp) x hx)
theorem split_len1 (c : Int) : ∀ (l : List Int), ∀ p ∈ splitL c l, p.length ≤ l.length
  | [], p, hp => by simp [splitL] at hp; subst hp; simp
  | y :: l, p, hp => by
    by_cases h : y = c
    · subst h
      rw [splitL_eq] at hp
      rcases List.mem_cons.1 hp with rfl | hp
      · simp
      · have := split_len1 _ l p hp; simp; omega
    · rw [splitL_neq h] at hp
      rcases List.mem_cons.1 hp with rfl | hp
      · have := split_len1 c l ((splitL c l).headD []) (by
          cases hs : splitL c l with
          | nil => exact absurd hs (splitL_ne c l)
          | cons a b => simp)
        rw [List.length_cons, List.length_cons]; omega
      · have := split_len1 c l p (List.mem_of_mem_tail hp); simp; omega
theorem split_count (c : Int) : ∀ (l : List Int), (splitL c l).length ≤ l.length + 1
  | [] => by simp [splitL]
  | y :: l => by
    by_cases h : y = c
    · subst h; rw [splitL_eq]; have := split_count y l; simp; omega
    · rw [splitL_neq h]; have := split_count c l; simp; omega
theorem lines_mem {cs p : List Int} (h : p ∈ linesL cs) : p ∈ splitL 10 cs := by
  unfold linesL at h
  split at h
  · exact List.dropLast_subset _ h
  · exact absurd h List.not_mem_nil
theorem lines_count (cs : List Int) : (linesL cs).length ≤ cs.length := by
  unfold linesL
  split
  · have := split_count 10 cs; rw [List.length_dropLast]; omega
  · simp
def lineOk (p : List Int) : Bool := decide (findL 32 p < p.length) && okPat ((p.drop (findL 32 p + 1)).map hexN)
def lineItem (p : List Int) : Item := ⟨strOfNums (p.take (findL 32 p)), (p.drop (findL 32 p + 1)).map hexN⟩
instance : Inhabited (List Int) := ⟨[]⟩
def readOk (cs : List Int) : Bool := linesOk cs && ((linesL cs).all lineOk && okItems ((linesL cs).map lineItem))
def readL (cs : List Int) : List Item := if readOk cs then (linesL cs).map lineItem else []
theorem readOk_lines {cs : List Int} (h : linesOk cs = false) : readOk cs = false := by unfold readOk; rw [h]; rfl
theorem readOk_bad {cs : List Int} {k : Nat} (hk : k < (linesL cs).length) (h : lineOk (nth (linesL cs) k) = false) : readOk cs = false := by
  unfold readOk
  have h2 : (linesL cs).all lineOk = false := by
    cases ha : (linesL cs).all lineOk
    · rfl
    · have := List.all_eq_true.1 ha _ (mem_nth hk)
      rw [h] at this; exact absurd this (by decide)
  rw [h2]; simp
theorem readOk_all {cs : List Int} (h1 : linesOk cs = true) (h2 : ∀ j, j < (linesL cs).length → lineOk (nth (linesL cs) j) = true) : readOk cs = okItems ((linesL cs).map lineItem) := by
  unfold readOk
  have h3 : (linesL cs).all lineOk = true := by
    rw [List.all_eq_true]
    intro x hx
    obtain ⟨i, hi, rfl⟩ := List.getElem_of_mem hx
    rw [← nth_eq _ i hi]; exact h2 i hi
  rw [h1, h3]; rfl
theorem readL_no {cs : List Int} (h : readOk cs = false) : readL cs = [] := by unfold readL; rw [h]; rfl
theorem readL_yes {cs : List Int} (h : readOk cs = true) : readL cs = (linesL cs).map lineItem := by unfold readL; rw [h]; rfl
/-! ### The spec's way -/
def lineOkS (p : List Int) : Bool := decide ((splitL 32 p).length = 2) && decide ((nth (splitL 32 p) 1).length ≤ 12)
theorem findL_none {c : Int} : ∀ (l : List Int), (∀ x ∈ l, x ≠ c) → findL c l = l.length
  | [], _ => rfl
  | x :: l, h => by rw [findL_neq (h x (List.mem_cons_self ..)), findL_none l (fun y hy => h y (List.mem_cons_of_mem _ hy))]; simp
theorem lineOk_S {p : List Int} (h : lineOk p = true) : lineOkS p = true := by
  unfold lineOk at h
  rw [Bool.and_eq_true, decide_eq_true_eq] at h
  obtain ⟨h1, h2⟩ := h
  have hin := okPat_mem h2
  have hlen := (throwsB_nth (okPat_throws h2)).2.2
  rw [List.length_map] at hlen
  have hno : ∀ x ∈ p.drop (findL 32 p + 1), x ≠ 32 := by
    rintro x hx rfl
    have := hin (hexN 32) (List.mem_map_of_mem hx)
    simp [hexN] at this
  have e := split_first 32 p
  rw [if_pos h1, split_first 32 (p.drop (findL 32 p + 1)), findL_none _ hno, if_neg (Nat.lt_irrefl _)] at e
  unfold lineOkS
  rw [e]
  simp only [List.length_cons, List.length_nil, decide_true, Bool.true_and, decide_eq_true_eq]
  exact hlen
theorem lineS_find {p : List Int} (h : (splitL 32 p).length = 2) : findL 32 p < p.length ∧ splitL 32 p = [p.take (findL 32 p), p.drop (findL 32 p + 1)] := by
  have e := split_first 32 p
  by_cases hf : findL 32 p < p.length
  · refine ⟨hf, ?_⟩
    rw [if_pos hf] at e
    rw [e] at h
    have h2 : (splitL 32 (p.drop (findL 32 p + 1))).length = 1 := by simpa using h
    have e2 := split_first 32 (p.drop (findL 32 p + 1))
    by_cases hf2 : findL 32 (p.drop (findL 32 p + 1)) < (p.drop (findL 32 p + 1)).length
    · rw [if_pos hf2] at e2
      rw [e2] at h2
      simp at h2
      exact absurd h2 (splitL_ne _ _)
    · rw [if_neg hf2] at e2
      rw [e, e2]
  · rw [if_neg hf] at e
    rw [e] at h; simp at h
theorem readOk_badS {cs : List Int} {k : Nat} (hk : k < (linesL cs).length) (h : lineOkS (nth (linesL cs) k) = false) : readOk cs = false := by
  refine readOk_bad hk ?_
  cases hl : lineOk (nth (linesL cs) k)
  · rfl
  · rw [lineOk_S hl] at h; exact absurd h (by decide)
theorem readOk_long {cs : List Int} (h : 60 < (linesL cs).length) : readOk cs = false := by
  cases hr : readOk cs
  · rfl
  · unfold readOk at hr
    simp only [Bool.and_eq_true] at hr
    have := okItems_len hr.2.2
    rw [List.length_map] at this; omega
theorem readOk_allS {cs : List Int} (h1 : linesOk cs = true) (h2 : ∀ j, j < (linesL cs).length → lineOkS (nth (linesL cs) j) = true) : readOk cs = okItems ((linesL cs).map lineItem) := by
  cases hO : okItems ((linesL cs).map lineItem)
  · unfold readOk; rw [hO]; simp
  · rw [readOk_all h1 ?_, hO]
    intro j hj
    have hj' := h2 j hj
    unfold lineOkS at hj'
    rw [Bool.and_eq_true, decide_eq_true_eq] at hj'
    have hf := (lineS_find hj'.1).1
    unfold lineOk
    rw [Bool.and_eq_true, decide_eq_true_eq]
    refine ⟨hf, ?_⟩
    have := okItems_pat hO (lineItem (nth (linesL cs) j)) (List.mem_map_of_mem (mem_nth hj))
    exact this
end Go.Proofs.YtcgbdhbdlnimhaaGreat
