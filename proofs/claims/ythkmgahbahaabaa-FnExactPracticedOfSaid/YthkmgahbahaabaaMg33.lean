import Derived.Test.YthkmgahbahaabaaMg31
import Derived.Test.YthkmgahbahaabaaMg32
import Derived.Test.YthkmgahbahaabaaMg15
/- Ask: canonical patterns of valid patterns; the attempts at a pattern, by both packages. -/
namespace Go.Proofs.Ythkmgahbahaabaa
open Go.ChangeShapes Go.WideShapes Go.ChangeAt Go.RowKit


/-- Which of the first n attempts have a canonical form. -/
def atsN (l : List Att) (c : List Int) (n : Nat) : List Int := ((List.range n).filter fun i => same2 eqI (canL (nth l i).pattern) c).map fun i : Nat => (i : Int)
theorem atsN_yes (l : List Att) (c : List Int) (k : Nat) (h : same2 eqI (canL (nth l k).pattern) c = true) : atsN l c (k + 1) = atsN l c k ++ [(k : Int)] := by
  unfold atsN; rw [List.range_succ, List.filter_append, List.map_append]; simp [h]
theorem atsN_no (l : List Att) (c : List Int) (k : Nat) (h : same2 eqI (canL (nth l k).pattern) c = false) : atsN l c (k + 1) = atsN l c k := by
  unfold atsN; rw [List.range_succ, List.filter_append]; simp [h]
theorem atsN_len (l : List Att) (c : List Int) (n : Nat) : (atsN l c n).length ≤ n := by
  unfold atsN; rw [List.length_map]
  have := List.length_filter_le (fun i => same2 eqI (canL (nth l i).pattern) c) (List.range n)
  rwa [List.length_range] at this
theorem atsN_mem {l : List Att} {c : List Int} {n : Nat} {x : Int} (h : x ∈ atsN l c n) : ∃ i : Nat, x = i ∧ i < n := by
  unfold atsN at h
  rw [List.mem_map] at h
  obtain ⟨i, hi, rfl⟩ := h
  rw [List.mem_filter, List.mem_range] at hi
  exact ⟨i, rfl, hi.1⟩
/-- The attempts at a pattern. -/
def atsL (l : List Att) (p : List Int) : List Int := atsN l (canL p) l.length
theorem atsL_nth {l : List Att} {p : List Int} {k : Nat} (h : k < (atsL l p).length) : ∃ i : Nat, nth (atsL l p) k = (i : Int) ∧ i < l.length := by
  have hm : nth (atsL l p) k ∈ atsL l p := by rw [nth_eq _ _ h]; exact List.getElem_mem h
  exact atsN_mem hm
def askCode (l : List Att) (p : List Int) : Int := if okAtts l && okPat p then (if (atsL l p).length = 0 then 3 else 0) else 1

/-- What a question for the attempts at a pattern hands back. -/
def AskPost (l : List Att) (p : List Int) (w : World) (e : Ending) (w' : World) : Prop :=
  (askCode l p ≠ 0 ∧ e = .returned (.tuple #[.slice none 0 0, .int .i64 (askCode l p)]) ∧ Below w.heap.size w w') ∨
  (okAtts l = true ∧ okPat p = true ∧ 0 < (atsL l p).length ∧ askCode l p = 0 ∧ ∃ a n c, e = .returned (.tuple #[.slice a n c, .int .i64 0]) ∧ OwnInts w' w.heap.size (.slice a n c) (atsL l p) ∧ Below w.heap.size w w')

theorem l24Canonical_c (v : Value) (l : List Int) (w : World) (hv : IntsAt w v l) (ho : okPat l = true) : Calls Try.prog 15 #[v] w (GivesInts (canL l) w) := by
  have HQ := Lib.hid (canonicalPattern_c v l w hv ho); clear hv ho
  go_enter Try.func15, Try.ntmps15
  go_wp2_with fail
  refine HQ.out.mono ?_
  rintro e w1 ⟨a, n, c, rfl, ho, hb1⟩
  have HO := Lib.hid ho; clear ho
  go_wp2
  go_ret
  exact ⟨_, _, _, rfl, HO.out, hb1⟩

end Go.Proofs.Ythkmgahbahaabaa
