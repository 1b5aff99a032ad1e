import Derived.Test.YthdejhningghcaaMg6
import Derived.Test.YthdejhningghcaaMg11
/- Canon1: copies, repetitions, rotations, comparisons of lists of numbers, by both packages. -/
namespace Go.Proofs.Ythdejhningghcaa
open Go.ChangeShapes Go.WideShapes Go.ChangeAt Go.RowKit

/-- The call hands back a slice of its own that reads as l. -/
def GivesInts (l : List Int) (w : World) (e : Ending) (w' : World) : Prop := ∃ a n c, e = .returned (.slice a n c) ∧ OwnInts w' w.heap.size (.slice a n c) l ∧ Below w.heap.size w w'

theorem l00Own_c (v : Value) (l : List Int) (w : World) (hv : IntsAt w v l) (hl : l.length ≤ 1048576) : Calls Try.prog 47 #[v] w (GivesInts l w) := by
  obtain ⟨a, n, cap, rfl, hn, -, -, hc⟩ := hv
  have Hc := Lib.hid hc; clear hc
  have Hn := Lib.hid hn; clear hn
  go_enter Try.func47, Try.ntmps47
  go_wp2_with (at_builtin; refine wpList_app_ints rfl _ _ rfl w.heap.size _ _ rfl (own_empty w) _ _ _ l rfl Hn.out (Hc.out.below (by go_grown)) (by simp only [List.length_nil]; omega) (by simp) ?_)
  intro a2 n2 c2 w2 ho2 hg2 _ _
  have hb2 : Below w.heap.size w w2 := ((Below.refl _ _).alloc (Nat.le_refl _) _).grown hg2 (by simp) (fun g hg => by simp [Value.ownBlock] at hg; omega)
  have HO2 : Hid (OwnInts w2 w.heap.size (.slice a2 n2 c2) l) := Lib.hid ho2
  clear ho2 hg2
  go_wp2
  go_ret
  exact ⟨_, _, _, rfl, HO2.out, hb2⟩
theorem copyNumbers_c (v : Value) (l : List Int) (w : World) (hv : IntsAt w v l) (hl : l.length ≤ 1048576) : Calls Try.prog 51 #[v] w (GivesInts l w) := by
  obtain ⟨a, n, cap, rfl, hn, -, -, hc⟩ := hv
  have Hc := Lib.hid hc; clear hc
  have Hn := Lib.hid hn; clear hn
  go_enter Try.func51, Try.ntmps51
  go_wp2_with (at_builtin; refine wpList_app_ints rfl _ _ rfl w.heap.size _ _ rfl (own_empty w) _ _ _ l rfl Hn.out (Hc.out.below (by go_grown)) (by simp only [List.length_nil]; omega) (by simp) ?_)
  intro a2 n2 c2 w2 ho2 hg2 _ _
  have hb2 : Below w.heap.size w w2 := ((Below.refl _ _).alloc (Nat.le_refl _) _).grown hg2 (by simp) (fun g hg => by simp [Value.ownBlock] at hg; omega)
  have HO2 : Hid (OwnInts w2 w.heap.size (.slice a2 n2 c2) l) := Lib.hid ho2
  clear ho2 hg2
  go_wp2
  go_ret
  exact ⟨_, _, _, rfl, HO2.out, hb2⟩

theorem l03Repeat_c (v : Value) (l : List Int) (m : Nat) (w : World) (hv : IntsAt w v l) (hl : l.length ≤ 1000) (hm : m ≤ 1000) : Calls Try.prog 83 #[v, .int .i64 m] w (GivesInts (repL l m) w) := by
  obtain ⟨a, n, cap, rfl, hn, -, -, hc⟩ := hv
  have Hc := Lib.hid hc; clear hc
  have Hn := Lib.hid hn; clear hn
  go_enter Try.func83, Try.ntmps83
  go_wp2
  go_loopw [5, 6] (fun s i wr => ∃ (k : Nat) (a' : Option Addr) (n' c' : Nat), i = .int .i64 k ∧ k ≤ m ∧ s = .slice a' n' c' ∧ Hid (OwnInts wr w.heap.size (.slice a' n' c') (repL l k)) ∧ Below w.heap.size w wr) (fun _ i _ => m - (intOf i).toNat)
  case atStart => exact ⟨0, _, _, _, rfl, Nat.zero_le _, rfl, Lib.hid (own_empty w), by go_grown⟩
  case round =>
    obtain ⟨k, a', n', c', rfl, hk, rfl, HO, hb⟩ := hrel
    by_cases hlt : k < m
    · have hsz := hb.size
      have hlen : (repL l k).length + l.length ≤ 1073741824 := by
        rw [repL_len]
        have : k * l.length ≤ 1000 * 1000 := Nat.mul_le_mul (by omega) hl
        omega
      have Hlen := Lib.hid hlen; clear hlen
      go_wp2_with (at_builtin; refine wpList_app_ints rfl _ _ rfl w.heap.size _ _ rfl HO.out _ _ _ l rfl Hn.out (Hc.out.below hb) Hlen.out hsz ?_)
      intro a2 n2 c2 w2 ho2 hg2 _ _
      have hb2 : Below w.heap.size w w2 := hb.grown hg2 hsz (fun g hg => (World.ownsRow.lt HO.out g hg).1)
      have HO2 : Hid (OwnInts w2 w.heap.size (.slice a2 n2 c2) (repL l (k + 1))) := Lib.hid ho2
      clear ho2 hg2 HO
      go_wp2
      exact ⟨⟨k + 1, a2, n2, c2, by go_num, hlt, rfl, HO2, hb2⟩, by simp [intOf]; omega⟩
    · obtain rfl : k = m := by omega
      go_wp2
      go_ret
      exact ⟨_, _, _, rfl, HO.out, hb⟩
theorem repeated_c (v : Value) (l : List Int) (m : Nat) (w : World) (hv : IntsAt w v l) (hl : l.length ≤ 1000) (hm : m ≤ 1000) : Calls Try.prog 55 #[v, .int .i64 m] w (GivesInts (repL l m) w) := by
  obtain ⟨a, n, cap, rfl, hn, -, -, hc⟩ := hv
  have Hc := Lib.hid hc; clear hc
  have Hn := Lib.hid hn; clear hn
  go_enter Try.func55, Try.ntmps55
  go_wp2
  go_loopw [5, 8] (fun s i wr => ∃ (k : Nat) (a' : Option Addr) (n' c' : Nat), i = .int .i64 k ∧ k ≤ m ∧ s = .slice a' n' c' ∧ Hid (OwnInts wr w.heap.size (.slice a' n' c') (repL l k)) ∧ Below w.heap.size w wr) (fun _ i _ => m - (intOf i).toNat)
  case atStart => exact ⟨0, _, _, _, rfl, Nat.zero_le _, rfl, Lib.hid (own_empty w), by go_grown⟩
  case round =>
    obtain ⟨k, a', n', c', rfl, hk, rfl, HO, hb⟩ := hrel
    by_cases hlt : k < m
    · have hsz := hb.size
      have hlen : (repL l k).length + l.length ≤ 1073741824 := by
        rw [repL_len]
        have : k * l.length ≤ 1000 * 1000 := Nat.mul_le_mul (by omega) hl
        omega
      have Hlen := Lib.hid hlen; clear hlen
      go_wp2_with (at_builtin; refine wpList_app_ints rfl _ _ rfl w.heap.size _ _ rfl HO.out _ _ _ l rfl Hn.out (Hc.out.below hb) Hlen.out hsz ?_)
      intro a2 n2 c2 w2 ho2 hg2 _ _
      have hb2 : Below w.heap.size w w2 := hb.grown hg2 hsz (fun g hg => (World.ownsRow.lt HO.out g hg).1)
      have HO2 : Hid (OwnInts w2 w.heap.size (.slice a2 n2 c2) (repL l (k + 1))) := Lib.hid ho2
      clear ho2 hg2 HO
      go_wp2
      exact ⟨⟨k + 1, a2, n2, c2, by go_num, hlt, rfl, HO2, hb2⟩, by simp [intOf]; omega⟩
    · obtain rfl : k = m := by omega
      go_wp2
      go_ret
      exact ⟨_, _, _, rfl, HO.out, hb⟩

theorem mod_facts (a n : Int) (hn : 0 < n) (hn2 : n ≤ 1000000) : IntKind.i64.wrap (a.tmod n + n) = a.tmod n + n ∧ (a.tmod n + n).tmod n = a % n := by
  have h1 : a.tmod n < n := Int.tmod_lt_of_pos a hn
  have h2 : -n < a.tmod n := Int.lt_tmod_of_pos a hn
  refine ⟨IntWalk.i64_in _ (by omega), ?_⟩
  rw [Int.tmod_eq_emod_of_nonneg (by omega), Int.add_emod_right, Int.tmod_eq_emod]
  have hn' : ((n.natAbs : Int)) = n := by omega
  split
  · simp
  · rw [hn', Int.sub_emod, Int.emod_self, Int.sub_zero, Int.emod_emod_of_dvd _ (Int.dvd_refl n), Int.emod_emod_of_dvd _ (Int.dvd_refl n)]

theorem l02Mod_c (a n : Int) (w : World) (hn : 0 < n) (hn2 : n ≤ 1000000) : Calls Try.prog 86 #[.int .i64 a, .int .i64 n] w (Gives (.int .i64 (a % n)) w) := by
  obtain ⟨h1, h2⟩ := mod_facts a n hn hn2
  have HR := Lib.hid h2
  have h0 : (n == 0) = false := beq_eq_false_iff_ne.2 (by omega)
  go_enter Try.func86, Try.ntmps86
  go_wp2
  go_ret
  exact Gives.int (by first | rfl | (rw [← HR.out])) (Below.refl _ _)
theorem modulo_c (a n : Int) (w : World) (hn : 0 < n) (hn2 : n ≤ 1000000) : Calls Try.prog 74 #[.int .i64 a, .int .i64 n] w (Gives (.int .i64 (a % n)) w) := by
  obtain ⟨h1, h2⟩ := mod_facts a n hn hn2
  have HR := Lib.hid h2
  have h0 : (n == 0) = false := beq_eq_false_iff_ne.2 (by omega)
  go_enter Try.func74, Try.ntmps74
  go_wp2
  go_ret
  exact Gives.int (by first | rfl | (rw [← HR.out])) (Below.refl _ _)
end Go.Proofs.Ythdejhningghcaa
