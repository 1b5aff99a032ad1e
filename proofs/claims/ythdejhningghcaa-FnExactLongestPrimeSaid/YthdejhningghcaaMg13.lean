import Derived.Test.YthdejhningghcaaMg12
/- Canon2: throws at a beat, rotations, comparisons, by both packages. -/
namespace Go.Proofs.Ythdejhningghcaa
open Go.ChangeShapes Go.WideShapes Go.ChangeAt Go.RowKit

/-- The throw at a beat. -/
def atB (l : List Int) (b : Int) : Int := nth l (b % (l.length : Int)).toNat
theorem atB_nat (l : List Int) (b : Nat) : atB l b = nth l (b % l.length) := by
  unfold atB
  rw [← Int.natCast_emod, Int.toNat_natCast]

theorem l02At_c (v : Value) (l : List Int) (b : Int) (w : World) (hv : IntsAt w v l) (h1 : 1 ≤ l.length) (h2 : l.length ≤ 1000) : Calls Try.prog 84 #[v, .int .i64 b] w (Gives (.int .i64 (atB l b)) w) := by
  obtain ⟨a, n, cap, rfl, hn, -, -, hc⟩ := hv
  have Hc := Lib.hid hc; clear hc
  have hq := l02Mod_c b n
  obtain ⟨j, hj⟩ : ∃ j : Nat, b % (n : Int) = (j : Int) := ⟨(b % (n : Int)).toNat, by have := Int.emod_nonneg b (show (n : Int) ≠ 0 by omega); omega⟩
  have hjn : j < n := by have := Int.emod_lt_of_pos b (show (0 : Int) < n by omega); omega
  have HR : Hid (atB l b = nth l j) := Lib.hid (by unfold atB; rw [← hn, hj, Int.toNat_natCast])
  rw [hj] at hq
  have HQ := Lib.hid (fun w => hq w (by omega) (by omega))
  have Hn := Lib.hid hn; clear hn hj hq h1 h2
  go_enter Try.func84, Try.ntmps84
  go_wp2_with fail
  refine (HQ.out _).mono ?_
  rintro e w1 ⟨rfl, hb1⟩
  obtain ⟨b', o, rfl, hbs, c0⟩ := (Hc.out.below hb1) j (by rw [← Hn.out]; exact hjn)
  go_wp2
  go_ret
  exact Gives.int HR.out hb1

theorem throwAt_c (v : Value) (l : List Int) (b : Int) (w : World) (hv : IntsAt w v l) (h1 : 1 ≤ l.length) (h2 : l.length ≤ 1000) : Calls Try.prog 56 #[v, .int .i64 b] w (Gives (.int .i64 (atB l b)) w) := by
  have HP := Lib.hid (period_c v l w hv)
  obtain ⟨a, n, cap, rfl, hn, -, -, hc⟩ := hv
  have Hc := Lib.hid hc; clear hc
  have hq := modulo_c b n
  obtain ⟨j, hj⟩ : ∃ j : Nat, b % (n : Int) = (j : Int) := ⟨(b % (n : Int)).toNat, by have := Int.emod_nonneg b (show (n : Int) ≠ 0 by omega); omega⟩
  have hjn : j < n := by have := Int.emod_lt_of_pos b (show (0 : Int) < n by omega); omega
  have HR : Hid (atB l b = nth l j) := Lib.hid (by unfold atB; rw [← hn, hj, Int.toNat_natCast])
  rw [hj] at hq
  have HQ := Lib.hid (fun w => hq w (by omega) (by omega))
  have hp := HP.out
  rw [← hn] at hp
  have Hn := Lib.hid hn; clear hn hj hq h1 h2 HP
  go_enter Try.func56, Try.ntmps56
  go_wp2_with fail
  refine hp.mono ?_
  rintro e w0 ⟨rfl, hb0⟩
  clear hp
  go_wp2_with fail
  refine (HQ.out _).mono ?_
  rintro e w1 ⟨rfl, hb1'⟩
  have hb1 := bthen hb0 hb1'
  obtain ⟨b', o, rfl, hbs, c0⟩ := (Hc.out.below hb1) j (by rw [← Hn.out]; exact hjn)
  go_wp2
  go_ret
  exact Gives.int HR.out hb1

theorem l03Rotate_c (v : Value) (l : List Int) (m : Nat) (w : World) (hv : IntsAt w v l) (h1 : 1 ≤ l.length) (h2 : l.length ≤ 1000) (hm : m ≤ 1000) : Calls Try.prog 77 #[v, .int .i64 m] w (GivesInts (rotL l m) w) := by
  have HA := Lib.hid hv
  obtain ⟨a, n, cap, rfl, hn, -, -, hc⟩ := hv
  have hn2 : n ≤ 1000 := by omega
  clear hc
  have Hn := Lib.hid hn; clear hn
  have H12 : Hid (1 ≤ l.length ∧ l.length ≤ 1000) := Lib.hid ⟨h1, h2⟩; clear h1 h2
  go_enter Try.func77, Try.ntmps77
  go_wp2
  go_loopw [5, 6] (fun s i wr => ∃ (k : Nat) (a' : Option Addr) (n' c' : Nat), i = .int .i64 k ∧ k ≤ n ∧ s = .slice a' n' c' ∧ Hid (OwnInts wr w.heap.size (.slice a' n' c') ((List.range k).map fun i => nth l ((i + m) % l.length))) ∧ Below w.heap.size w wr) (fun _ i _ => n - (intOf i).toNat)
  case atStart => exact ⟨0, _, _, _, rfl, Nat.zero_le _, rfl, Lib.hid (own_empty w), by go_grown⟩
  case round =>
    obtain ⟨k, a', n', c', rfl, hk, rfl, HO, hb⟩ := hrel
    by_cases hlt : k < n
    · have HX : Hid (atB l ((k : Int) + (m : Int)) = nth l ((k + m) % l.length)) := Lib.hid (by rw [← Int.natCast_add, atB_nat])
      have HQ := Lib.hid (l02At_c _ l ((k : Int) + (m : Int)) wr (HA.out.below hb) H12.out.1 H12.out.2)
      go_wp2_with fail
      refine HQ.out.mono ?_
      rintro e w1 ⟨rfl, hb1⟩
      have HO1 := Lib.hid (own_below HO.out hb1)
      clear HO HQ
      have hsz := hb1.size
      have hsz0 := hb.size
      generalize atB l ((k : Int) + (m : Int)) = x at *
      go_wp2_with (at_builtin; refine wpList_app_ints rfl _ _ rfl w.heap.size _ _ rfl (HO1.out.alloc _) _ _ _ [x] rfl rfl (ints_new _ _ _) (by simp; omega) (by simp; omega) ?_)
      intro a2 n2 c2 w2 ho2 hg2 _ _
      have hb2 : Below w.heap.size w w2 := ((bthen hb hb1).alloc (by omega) _).grown hg2 (by simp; omega) (fun g hg => (World.ownsRow.lt HO1.out g hg).1)
      have HO2 : Hid (OwnInts w2 w.heap.size (.slice a2 n2 c2) ((List.range (k + 1)).map fun i => nth l ((i + m) % l.length))) := Lib.hid (by rw [List.range_succ, List.map_append, List.map_singleton, ← HX.out]; exact ho2)
      clear ho2 hg2 hb1 HO1 HX
      go_wp2
      exact ⟨⟨k + 1, a2, n2, c2, by go_num, hlt, rfl, HO2, hb2⟩, by simp [intOf]; omega⟩
    · obtain rfl : k = n := by omega
      have HO3 : Hid (OwnInts wr w.heap.size (.slice a' n' c') (rotL l m)) := Lib.hid (by unfold rotL; have := HO.out; rw [Hn.out] at this; exact this)
      clear HO
      go_wp2
      go_ret
      exact ⟨_, _, _, rfl, HO3.out, hb⟩
theorem rotated_c (v : Value) (l : List Int) (m : Nat) (w : World) (hv : IntsAt w v l) (h1 : 1 ≤ l.length) (h2 : l.length ≤ 1000) (hm : m ≤ 1000) : Calls Try.prog 40 #[v, .int .i64 m] w (GivesInts (rotL l m) w) := by
  have HA := Lib.hid hv
  obtain ⟨a, n, cap, rfl, hn, -, -, hc⟩ := hv
  have hn2 : n ≤ 1000 := by omega
  clear hc
  have Hn := Lib.hid hn; clear hn
  have H12 : Hid (1 ≤ l.length ∧ l.length ≤ 1000) := Lib.hid ⟨h1, h2⟩; clear h1 h2
  go_enter Try.func40, Try.ntmps40
  go_wp2
  go_loopw [5, 10] (fun s i wr => ∃ (k : Nat) (a' : Option Addr) (n' c' : Nat), i = .int .i64 k ∧ k ≤ n ∧ s = .slice a' n' c' ∧ Hid (OwnInts wr w.heap.size (.slice a' n' c') ((List.range k).map fun i => nth l ((i + m) % l.length))) ∧ Below w.heap.size w wr) (fun _ i _ => n - (intOf i).toNat)
  case atStart => exact ⟨0, _, _, _, rfl, Nat.zero_le _, rfl, Lib.hid (own_empty w), by go_grown⟩
  case round =>
    obtain ⟨k, a', n', c', rfl, hk, rfl, HO, hb⟩ := hrel
    by_cases hlt : k < n
    · have HX : Hid (atB l ((k : Int) + (m : Int)) = nth l ((k + m) % l.length)) := Lib.hid (by rw [← Int.natCast_add, atB_nat])
      have HQ := Lib.hid (throwAt_c _ l ((k : Int) + (m : Int)) wr (HA.out.below hb) H12.out.1 H12.out.2)
      go_wp2_with fail
      refine HQ.out.mono ?_
      rintro e w1 ⟨rfl, hb1⟩
      have HO1 := Lib.hid (own_below HO.out hb1)
      clear HO HQ
      have hsz := hb1.size
      have hsz0 := hb.size
      generalize atB l ((k : Int) + (m : Int)) = x at *
      go_wp2_with (at_builtin; refine wpList_app_ints rfl _ _ rfl w.heap.size _ _ rfl (HO1.out.alloc _) _ _ _ [x] rfl rfl (ints_new _ _ _) (by simp; omega) (by simp; omega) ?_)
      intro a2 n2 c2 w2 ho2 hg2 _ _
      have hb2 : Below w.heap.size w w2 := ((bthen hb hb1).alloc (by omega) _).grown hg2 (by simp; omega) (fun g hg => (World.ownsRow.lt HO1.out g hg).1)
      have HO2 : Hid (OwnInts w2 w.heap.size (.slice a2 n2 c2) ((List.range (k + 1)).map fun i => nth l ((i + m) % l.length))) := Lib.hid (by rw [List.range_succ, List.map_append, List.map_singleton, ← HX.out]; exact ho2)
      clear ho2 hg2 hb1 HO1 HX
      go_wp2
      exact ⟨⟨k + 1, a2, n2, c2, by go_num, hlt, rfl, HO2, hb2⟩, by simp [intOf]; omega⟩
    · obtain rfl : k = n := by omega
      have HO3 : Hid (OwnInts wr w.heap.size (.slice a' n' c') (rotL l m)) := Lib.hid (by unfold rotL; have := HO.out; rw [Hn.out] at this; exact this)
      clear HO
      go_wp2
      go_ret
      exact ⟨_, _, _, rfl, HO3.out, hb⟩
end Go.Proofs.Ythdejhningghcaa
