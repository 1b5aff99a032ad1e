/- ReadAL: plain: what the reading of attempts says. -/
import Derived.Test.YtnhdoppabfmonaaDoorSplitM
import Derived.Test.YtnhdoppabfmonaaDoorAttTx
namespace Go.Proofs.YtnhdoppabfmonaaDoor
open Go.ChangeShapes Go.WideShapes Go.ChangeAt Go.RowKit

def dropC : List Int := [100, 114, 111, 112]
def aShape (p : List Int) : Bool := decide ((splitL 32 p).length = 2) || (decide ((splitL 32 p).length = 3) && decide (nth (splitL 32 p) 2 = dropC))
def aLineOk (p : List Int) : Bool := aShape p && (okPat ((nth (splitL 32 p) 0).map hexN) && numOk (nth (splitL 32 p) 1))
def aLineOkS (p : List Int) : Bool := aShape p && (decide ((nth (splitL 32 p) 0).length ≤ 12) && numOk (nth (splitL 32 p) 1))
def aLineAtt (p : List Int) : Att := ⟨(nth (splitL 32 p) 0).map hexN, numN (nth (splitL 32 p) 1), decide ((splitL 32 p).length = 3)⟩
def raOk (cs : List Int) : Bool := linesOk cs && ((linesL cs).all aLineOk && okAtts ((linesL cs).map aLineAtt))
def raL (cs : List Int) : List Att := if raOk cs then (linesL cs).map aLineAtt else []
theorem raOk_lines {cs : List Int} (h : linesOk cs = false) : raOk cs = false := by unfold raOk; rw [h]; rfl
theorem raOk_bad {cs : List Int} {k : Nat} (hk : k < (linesL cs).length) (h : aLineOk (nth (linesL cs) k) = false) : raOk cs = false := by
  unfold raOk
  have h2 : (linesL cs).all aLineOk = false := by
    cases ha : (linesL cs).all aLineOk
    · rfl
    · have := List.all_eq_true.1 ha _ (mem_nth hk)
      rw [h] at this; exact absurd this (by decide)
  rw [h2]; simp
theorem raOk_all {cs : List Int} (h1 : linesOk cs = true) (h2 : ∀ j, j < (linesL cs).length → aLineOk (nth (linesL cs) j) = true) : raOk cs = okAtts ((linesL cs).map aLineAtt) := by
  unfold raOk
  have h3 : (linesL cs).all aLineOk = true := by
    rw [List.all_eq_true]
    intro x hx
    obtain ⟨i, hi, rfl⟩ := List.getElem_of_mem hx
    rw [← nth_eq _ i hi]; exact h2 i hi
  rw [h1, h3]; rfl
theorem raL_no {cs : List Int} (h : raOk cs = false) : raL cs = [] := by unfold raL; rw [h]; rfl
theorem raL_yes {cs : List Int} (h : raOk cs = true) : raL cs = (linesL cs).map aLineAtt := by unfold raL; rw [h]; rfl
theorem aLine_S {p : List Int} (h : aLineOk p = true) : aLineOkS p = true := by
  unfold aLineOk at h
  simp only [Bool.and_eq_true] at h
  unfold aLineOkS
  have hl := (throwsB_nth (okPat_throws h.2.1)).2.2
  rw [List.length_map] at hl
  rw [h.1, h.2.2, decide_eq_true hl]; rfl
theorem raOk_badS {cs : List Int} {k : Nat} (hk : k < (linesL cs).length) (h : aLineOkS (nth (linesL cs) k) = false) : raOk cs = false := by
  refine raOk_bad hk ?_
  cases hl : aLineOk (nth (linesL cs) k)
  · rfl
  · rw [aLine_S hl] at h; exact absurd h (by decide)
theorem raOk_long {cs : List Int} (h : 100 < (linesL cs).length) : raOk cs = false := by
  cases hr : raOk cs
  · rfl
  · unfold raOk at hr
    simp only [Bool.and_eq_true] at hr
    have := (okAtts_nth hr.2.2).2
    rw [List.length_map] at this; omega
theorem raOk_allS {cs : List Int} (h1 : linesOk cs = true) (h2 : ∀ j, j < (linesL cs).length → aLineOkS (nth (linesL cs) j) = true) : raOk cs = okAtts ((linesL cs).map aLineAtt) := by
  cases hO : okAtts ((linesL cs).map aLineAtt)
  · unfold raOk; rw [hO]; simp
  · rw [raOk_all h1 ?_, hO]
    intro j hj
    have hj' := h2 j hj
    unfold aLineOkS at hj'
    simp only [Bool.and_eq_true] at hj'
    unfold aLineOk
    have hp := ((okAtts_nth hO).1 j (by rw [List.length_map]; exact hj)).1
    rw [nth_map _ _ _ hj] at hp
    have hp' : okPat ((nth (splitL 32 (nth (linesL cs) j)) 0).map hexN) = true := hp
    rw [hj'.1, hj'.2.2, hp']; rfl
theorem raL_len (cs : List Int) : (raL cs).length ≤ 1048576 := by
  unfold raL
  split
  · rename_i h
    unfold raOk at h
    simp only [Bool.and_eq_true] at h
    have := (okAtts_nth h.2.2).2
    omega
  · simp
theorem raL_pat (cs : List Int) : ∀ x ∈ raL cs, x.pattern.length ≤ 1048576 := by
  intro x hx
  unfold raL at hx
  split at hx
  · rename_i h
    unfold raOk at h
    simp only [Bool.and_eq_true] at h
    obtain ⟨i, hi, rfl⟩ := List.getElem_of_mem hx
    have := ((okAtts_nth h.2.2).1 i hi).1
    rw [nth_eq _ i hi] at this
    have := (throwsB_nth (okPat_throws this)).2.2
    omega
  · exact absurd hx List.not_mem_nil
end Go.Proofs.YtnhdoppabfmonaaDoor
