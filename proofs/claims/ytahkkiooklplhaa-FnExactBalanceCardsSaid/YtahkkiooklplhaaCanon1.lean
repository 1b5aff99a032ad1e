/- Canon1: copies, repetitions, rotations, comparisons of lists of numbers, by both packages. -/
import Derived.Test.YtahkkiooklplhaaCanonL
import Derived.Test.YtahkkiooklplhaaPat
namespace Go.Proofs.Ytahkkiooklplhaa
open Go.ChangeShapes Go.WideShapes Go.ChangeAt Go.RowKit

/-- The call hands back a slice of its own that reads as l. -/
def GivesInts (l : List Int) (w : World) (e : Ending) (w' : World) : Prop := ∃ a n c, e = .returned (.slice a n c) ∧ OwnInts w' w.heap.size (.slice a n c) l ∧ Below w.heap.size w w'

theorem l00Own_c (v : Value) (l : List Int) (w : World) (hv : IntsAt w v l) (hl : l.length ≤ 1048576) : Calls Try.prog 48 #[v] w (GivesInts l w) := by
  obtain ⟨a, n, cap, rfl, hn, -, -, hc⟩ := hv
  have Hc := Lib.hid hc; clear hc
  have Hn := Lib.hid hn; clear hn
  go_enter Try.func48, Try.ntmps48
  go_wp2_with (at_builtin; refine wpList_app_ints rfl _ _ rfl w.heap.size _ _ rfl (own_empty w) _ _ _ l rfl Hn.out (Hc.out.below (by go_grown)) (by simp only [List.length_nil]; omega) (by simp) ?_)
  intro a2 n2 c2 w2 ho2 hg2 _ _
  have hb2 : Below w.heap.size w w2 := ((Below.refl _ _).alloc (Nat.le_refl _) _).grown hg2 (by simp) (fun g hg => by simp [Value.ownBlock] at hg; omega)
  have HO2 : Hid (OwnInts w2 w.heap.size (.slice a2 n2 c2) l) := Lib.hid ho2
  clear ho2 hg2
  go_wp2
  go_ret
  exact ⟨_, _, _, rfl, HO2.out, hb2⟩


theorem mod_facts (a n : Int) (hn : 0 < n) (hn2 : n ≤ 1000000) : IntKind.i64.wrap (a.tmod n + n) = a.tmod n + n ∧ (a.tmod n + n).tmod n = a % n := by
  have h1 : a.tmod n < n := Int.tmod_lt_of_pos a hn
  have h2 : -n < a.tmod n := Int.lt_tmod_of_pos a hn
  refine ⟨IntWalk.i64_in _ (by omega), ?_⟩
  rw [Int.tmod_eq_emod_of_nonneg (by omega), Int.add_emod_right, Int.tmod_eq_emod]
  have hn' : ((n.natAbs : Int)) = n := by omega
  split
  · simp
  · rw [hn', Int.sub_emod, Int.emod_self, Int.sub_zero, Int.emod_emod_of_dvd _ (Int.dvd_refl n), Int.emod_emod_of_dvd _ (Int.dvd_refl n)]

theorem l02Mod_c (a n : Int) (w : World) (hn : 0 < n) (hn2 : n ≤ 1000000) : Calls Try.prog 99 #[.int .i64 a, .int .i64 n] w (Gives (.int .i64 (a % n)) w) := by
  obtain ⟨h1, h2⟩ := mod_facts a n hn hn2
  have HR := Lib.hid h2
  have h0 : (n == 0) = false := beq_eq_false_iff_ne.2 (by omega)
  go_enter Try.func99, Try.ntmps99
  go_wp2
  go_ret
  exact Gives.int (by first | rfl | (rw [← HR.out])) (Below.refl _ _)
theorem modulo_c (a n : Int) (w : World) (hn : 0 < n) (hn2 : n ≤ 1000000) : Calls Try.prog 102 #[.int .i64 a, .int .i64 n] w (Gives (.int .i64 (a % n)) w) := by
  obtain ⟨h1, h2⟩ := mod_facts a n hn hn2
  have HR := Lib.hid h2
  have h0 : (n == 0) = false := beq_eq_false_iff_ne.2 (by omega)
  go_enter Try.func102, Try.ntmps102
  go_wp2
  go_ret
  exact Gives.int (by first | rfl | (rw [← HR.out])) (Below.refl _ _)
end Go.Proofs.Ytahkkiooklplhaa
