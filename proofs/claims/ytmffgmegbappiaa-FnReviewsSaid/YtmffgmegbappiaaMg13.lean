import Derived.Test.YtmffgmegbappiaaMg9
import Derived.Test.YtmffgmegbappiaaMg12
import Derived.Test.YtmffgmegbappiaaMg10
/- Pat: which lists of numbers are patterns, by both packages. -/
namespace Go.Proofs.Ytmffgmegbappiaa
open Go.ChangeShapes Go.WideShapes Go.ChangeAt Go.RowKit


def landsL (l : List Int) : List Int := (List.range l.length).map (land l)
theorem landsL_len (l : List Int) : (landsL l).length = l.length := by simp [landsL]
theorem landsL_nth (l : List Int) (i : Nat) (h : i < l.length) : nth (landsL l) i = land l i := by
  rw [nth_eq _ _ (by rw [landsL_len]; exact h)]; simp [landsL]

/-- What l02Clash hands back: a number below 0 just where no two throws land together. -/
def ClashPost (l : List Int) (w : World) (e : Ending) (w' : World) : Prop := ∃ i k : Int, e = .returned (.tuple #[.int .i64 i, .int .i64 k]) ∧ decide (i < 0) = clashFree l ∧ Below w.heap.size w w'

/-- What CollisionOf hands back: code 0 just at a pattern. -/
def CollPost (l : List Int) (w : World) (e : Ending) (w' : World) : Prop := ∃ i k c : Int, e = .returned (.tuple #[.int .i64 i, .int .i64 k, .int .i64 c]) ∧ (c == 0) = okPat l ∧ Below w.heap.size w w'

end Go.Proofs.Ytmffgmegbappiaa

/- Canon1: copies, repetitions, rotations, comparisons of lists of numbers, by both packages. -/
namespace Go.Proofs.Ytmffgmegbappiaa
open Go.ChangeShapes Go.WideShapes Go.ChangeAt Go.RowKit

/-- The call hands back a slice of its own that reads as l. -/
def GivesInts (l : List Int) (w : World) (e : Ending) (w' : World) : Prop := ∃ a n c, e = .returned (.slice a n c) ∧ OwnInts w' w.heap.size (.slice a n c) l ∧ Below w.heap.size w w'

theorem l00Own_c (v : Value) (l : List Int) (w : World) (hv : IntsAt w v l) (hl : l.length ≤ 1048576) : Calls Try.prog 62 #[v] w (GivesInts l w) := by
  obtain ⟨a, n, cap, rfl, hn, -, -, hc⟩ := hv
  have Hc := Lib.hid hc; clear hc
  have Hn := Lib.hid hn; clear hn
  go_enter Try.func62, Try.ntmps62
  go_wp2_with (at_builtin; refine wpList_app_ints rfl _ _ rfl w.heap.size _ _ rfl (own_empty w) _ _ _ l rfl Hn.out (Hc.out.below (by go_grown)) (by simp only [List.length_nil]; omega) (by simp) ?_)
  intro a2 n2 c2 w2 ho2 hg2 _ _
  have hb2 : Below w.heap.size w w2 := ((Below.refl _ _).alloc (Nat.le_refl _) _).grown hg2 (by simp) (fun g hg => by simp [Value.ownBlock] at hg; omega)
  have HO2 : Hid (OwnInts w2 w.heap.size (.slice a2 n2 c2) l) := Lib.hid ho2
  clear ho2 hg2
  go_wp2
  go_ret
  exact ⟨_, _, _, rfl, HO2.out, hb2⟩


theorem mod_facts (a n : Int) (hn : 0 < n) (hn2 : n ≤ 1000000) : IntKind.i64.wrap (a.tmod n + n) = a.tmod n + n ∧ (a.tmod n + n).tmod n = a % n := by
  have h1 : a.tmod n < n := Int.tmod_lt_of_pos a hn
  have h2 : -n < a.tmod n := Int.lt_tmod_of_pos a hn
  refine ⟨IntWalk.i64_in _ (by omega), ?_⟩
  rw [Int.tmod_eq_emod_of_nonneg (by omega), Int.add_emod_right, Int.tmod_eq_emod]
  have hn' : ((n.natAbs : Int)) = n := by omega
  split
  · simp
  · rw [hn', Int.sub_emod, Int.emod_self, Int.sub_zero, Int.emod_emod_of_dvd _ (Int.dvd_refl n), Int.emod_emod_of_dvd _ (Int.dvd_refl n)]

end Go.Proofs.Ytmffgmegbappiaa
