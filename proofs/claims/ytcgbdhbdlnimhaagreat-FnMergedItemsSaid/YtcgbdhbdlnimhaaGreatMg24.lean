import Derived.Test.YtcgbdhbdlnimhaaGreatMg23
import Derived.Test.YtcgbdhbdlnimhaaGreatMg2
import Derived.Test.YtcgbdhbdlnimhaaGreatMg4
/- CanQ: whether a pattern is its own canonical form, by the package spec. -/
namespace Go.Proofs.YtcgbdhbdlnimhaaGreat
open Go.ChangeShapes Go.WideShapes Go.ChangeAt Go.RowKit

theorem l21Canonical_c (v : Value) (l : List Int) (w : World) (hv : IntsAt w v l) (ho : okPat l = true) : Calls Tryz.prog 94 #[v] w (Gives (.bool (same2 eqI (canL l) l)) w) := by
  have HQ := Lib.hid (canonicalPattern_c v l w hv ho)
  have HV := Lib.hid hv
  clear hv ho
  go_enter Tryz.func94, Tryz.ntmps94
  go_wp2_with fail
  refine HQ.out.mono ?_
  rintro e w1 ⟨a, n, c, rfl, ho, hb1⟩
  have HO := Lib.hid (OwnInts.at ho); clear ho
  go_wp2_with fail
  refine (sSame_c _ _ _ _ _ HO.out (HV.out.below hb1)).mono ?_
  rintro e w2 ⟨rfl, hb2⟩
  go_wp2
  go_ret
  exact Gives.bool rfl (bthen hb1 hb2)
end Go.Proofs.YtcgbdhbdlnimhaaGreat

/- ItemsL: which lists of items are libraries: the plain law. -/
namespace Go.Proofs.YtcgbdhbdlnimhaaGreat
open Go.ChangeShapes Go.WideShapes Go.ChangeAt Go.RowKit

def canIs (p : List Int) : Bool := same2 eqI (canL p) p
theorem canIs_c (v : Value) (l : List Int) (w : World) (hv : IntsAt w v l) (ho : okPat l = true) : Calls Tryz.prog 94 #[v] w (Gives (.bool (canIs l)) w) := l21Canonical_c v l w hv ho
def ordAt (l : List Item) (k : Nat) : Bool := decide (k = 0) || lessB (nth l (k - 1)).name (nth l k).name
def freshAt (l : List Item) (k : Nat) : Bool := (List.range k).all fun j => !(same2 eqI (nth l j).pattern (nth l k).pattern)
def okItemAt (l : List Item) (k : Nat) : Bool := nameB (chars (nth l k).name) && (okPat (nth l k).pattern && (canIs (nth l k).pattern && (ordAt l k && freshAt l k)))
def okTo (l : List Item) (k : Nat) : Bool := (List.range k).all (okItemAt l)
def okItems (l : List Item) : Bool := okTo l l.length && decide (l.length ≤ 60)
theorem okTo_zero (l : List Item) : okTo l 0 = true := rfl
theorem okTo_step {l : List Item} {k : Nat} (h : okTo l k = true) (hk : okItemAt l k = true) : okTo l (k + 1) = true := by
  unfold okTo at *; rw [List.range_succ, List.all_append, h]; simp [hk]
theorem okItems_false {l : List Item} {k : Nat} (hk : k < l.length) (h : okItemAt l k = false) : okItems l = false := by
  have : okTo l l.length = false := by
    unfold okTo
    rw [List.all_eq_false]
    exact ⟨k, List.mem_range.2 hk, by simp [h]⟩
  unfold okItems; rw [this]; rfl
theorem okItems_end {l : List Item} {n : Nat} (hn : n = l.length) (h : okTo l n = true) : okItems l = decide (n ≤ 60) := by
  unfold okItems; rw [← hn, h]; rfl
theorem okTo_at {l : List Item} {n k : Nat} (h : okTo l n = true) (hk : k < n) : okItemAt l k = true := by
  unfold okTo at h; rw [List.all_eq_true] at h; exact h k (List.mem_range.2 hk)
theorem okItems_at {l : List Item} (h : okItems l = true) {k : Nat} (hk : k < l.length) : okItemAt l k = true := by
  unfold okItems at h; simp only [Bool.and_eq_true] at h; exact okTo_at h.1 hk
theorem okItems_len {l : List Item} (h : okItems l = true) : l.length ≤ 60 := by
  unfold okItems at h; simp only [Bool.and_eq_true, decide_eq_true_eq] at h; exact h.2
theorem okItemAt_pat {l : List Item} {k : Nat} (h : okItemAt l k = true) : okPat (nth l k).pattern = true := by
  unfold okItemAt at h; simp only [Bool.and_eq_true] at h; exact h.2.1
theorem okItemAt_name {l : List Item} {k : Nat} (h : okItemAt l k = true) : nameB (chars (nth l k).name) = true := by
  unfold okItemAt at h; simp only [Bool.and_eq_true] at h; exact h.1
theorem okItems_pat {l : List Item} (h : okItems l = true) : ∀ x ∈ l, okPat x.pattern = true := by
  intro x hx
  obtain ⟨i, hi, rfl⟩ := List.getElem_of_mem hx
  rw [← nth_eq l i hi]; exact okItemAt_pat (okItems_at h hi)
theorem freshAt_true {l : List Item} {k : Nat} (h : ∀ j, j < k → same2 eqI (nth l j).pattern (nth l k).pattern = false) : freshAt l k = true := by
  unfold freshAt; rw [List.all_eq_true]; intro j hj; rw [h j (List.mem_range.1 hj)]; rfl
theorem freshAt_false {l : List Item} {k j : Nat} (hj : j < k) (h : same2 eqI (nth l j).pattern (nth l k).pattern = true) : freshAt l k = false := by
  unfold freshAt; rw [List.all_eq_false]; exact ⟨j, List.mem_range.2 hj, by simp [h]⟩
end Go.Proofs.YtcgbdhbdlnimhaaGreat
