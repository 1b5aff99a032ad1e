/- ReadCL: plain: what the reading of a plan says. -/
import Derived.Test.YtnhdoppabfmonaaDoorSplitM
import Derived.Test.YtnhdoppabfmonaaDoorCardTx
namespace Go.Proofs.YtnhdoppabfmonaaDoor
open Go.ChangeShapes Go.WideShapes Go.ChangeAt Go.RowKit

def cLineOk (p : List Int) : Bool := decide ((splitL 32 p).length = 3) && (numOk (nth (splitL 32 p) 1) && numOk (nth (splitL 32 p) 2))
def cLineCard (p : List Int) : Card := ⟨strOfNums (nth (splitL 32 p) 0), numN (nth (splitL 32 p) 1), numN (nth (splitL 32 p) 2)⟩
def rcOk (cs : List Int) : Bool := linesOk cs && ((linesL cs).all cLineOk && okCards ((linesL cs).map cLineCard))
def rcL (cs : List Int) : List Card := if rcOk cs then (linesL cs).map cLineCard else []
theorem rcOk_lines {cs : List Int} (h : linesOk cs = false) : rcOk cs = false := by unfold rcOk; rw [h]; rfl
theorem rcOk_bad {cs : List Int} {k : Nat} (hk : k < (linesL cs).length) (h : cLineOk (nth (linesL cs) k) = false) : rcOk cs = false := by
  unfold rcOk
  have h2 : (linesL cs).all cLineOk = false := by
    cases ha : (linesL cs).all cLineOk
    · rfl
    · have := List.all_eq_true.1 ha _ (mem_nth hk)
      rw [h] at this; exact absurd this (by decide)
  rw [h2]; simp
theorem rcOk_all {cs : List Int} (h1 : linesOk cs = true) (h2 : ∀ j, j < (linesL cs).length → cLineOk (nth (linesL cs) j) = true) : rcOk cs = okCards ((linesL cs).map cLineCard) := by
  unfold rcOk
  have h3 : (linesL cs).all cLineOk = true := by
    rw [List.all_eq_true]
    intro x hx
    obtain ⟨i, hi, rfl⟩ := List.getElem_of_mem hx
    rw [← nth_eq _ i hi]; exact h2 i hi
  rw [h1, h3]; rfl
theorem rcL_no {cs : List Int} (h : rcOk cs = false) : rcL cs = [] := by unfold rcL; rw [h]; rfl
theorem rcL_yes {cs : List Int} (h : rcOk cs = true) : rcL cs = (linesL cs).map cLineCard := by unfold rcL; rw [h]; rfl
theorem rcOk_long {cs : List Int} (h : 40 < (linesL cs).length) : rcOk cs = false := by
  cases hr : rcOk cs
  · rfl
  · unfold rcOk at hr
    simp only [Bool.and_eq_true] at hr
    have := okCards_len hr.2.2
    rw [List.length_map] at this; omega
theorem cLine_back {p : List Int} (h : cLineOk p = true) (hp : ∀ x ∈ p, 0 ≤ x ∧ x ≤ 255) : cardLine (cLineCard p) = p ++ [10] := by
  unfold cLineOk at h
  simp only [Bool.and_eq_true, decide_eq_true_eq] at h
  obtain ⟨h3, h1, h2⟩ := h
  have hin : ∀ i, i < 3 → ∀ x ∈ nth (splitL 32 p) i, 0 ≤ x ∧ x ≤ 255 := fun i hi x hx => hp x (split_mem 32 p _ (mem_nth (by omega)) x hx)
  have hb := split3_back h3
  unfold cardLine cLineCard
  dsimp only
  rw [numOk_dec h1, numOk_dec h2, chars_strOf (hin 0 (by omega)), chars_strOf (hin 1 (by omega)), chars_strOf (hin 2 (by omega))]
  conv => rhs; rw [← hb]
  simp
theorem rc_back {cs : List Int} (hok : linesOk cs = true) (hall : ∀ j, j < (linesL cs).length → cLineOk (nth (linesL cs) j) = true) (hin : ∀ x ∈ cs, 0 ≤ x ∧ x ≤ 255) : cardsCh ((linesL cs).map cLineCard) = cs := by
  unfold cardsCh
  rw [List.flatMap_map]
  have e : (linesL cs).flatMap (fun a => cardLine (cLineCard a)) = (linesL cs).flatMap (fun p => p ++ [10]) := by
    have key : ∀ (L : List (List Int)), (∀ p ∈ L, cLineOk p = true ∧ ∀ x ∈ p, 0 ≤ x ∧ x ≤ 255) → L.flatMap (fun a => cardLine (cLineCard a)) = L.flatMap (fun p => p ++ [10]) := by
      intro L
      induction L with
      | nil => intro _; rfl
      | cons p L ih =>
        intro h
        have h1 := h p (List.mem_cons_self ..)
        rw [List.flatMap_cons, List.flatMap_cons, cLine_back h1.1 h1.2, ih (fun q hq => h q (List.mem_cons_of_mem _ hq))]
    refine key _ (fun p hp => ?_)
    obtain ⟨i, hi, rfl⟩ := List.getElem_of_mem hp
    refine ⟨by rw [← nth_eq _ i hi]; exact hall i hi, fun x hx => hin x (split_mem 10 cs _ (lines_mem hp) x hx)⟩
  rw [e, lines_back hok]
theorem rcL_len (cs : List Int) : (rcL cs).length ≤ 1099511627776 := by
  unfold rcL
  split
  · rename_i h
    unfold rcOk at h
    simp only [Bool.and_eq_true] at h
    have := okCards_len h.2.2
    omega
  · simp
theorem cardNew3 (w : World) (c : Card) (hs : c.name.size ≤ 9223372036854775807) (t : TypeId) : Reads (w.alloc (.cells #[.string c.name, .int .i64 c.level, .int .i64 c.due] t)) (w.alloc (.cells #[.string c.name, .int .i64 c.level, .int .i64 c.due] t)).heap.size 3 (some ⟨w.heap.size, 0, none⟩) 1 ([c].flatMap cardCells) := by
  have h : CardsC (w.alloc (.cells #[.string c.name, .int .i64 c.level, .int .i64 c.due] t)) (some ⟨w.heap.size, 0, none⟩) [c] := by
    intro i hi
    obtain rfl : i = 0 := by simpa using hi
    refine ⟨w.heap.size, 0, rfl, by simp, by simpa [nth] using hs, ?_, ?_, ?_⟩
    · rw [World.cell?_alloc_at _ _ _ _ rfl]; rfl
    · rw [World.cell?_alloc_at _ _ _ _ rfl]; rfl
    · rw [World.cell?_alloc_at _ _ _ _ rfl]; rfl
  exact cards_reads h
end Go.Proofs.YtnhdoppabfmonaaDoor
