/- Canon2: throws at a beat, rotations, comparisons, by both packages. -/
import Derived.Test.YtahkkiooklplhaaCanon1
namespace Go.Proofs.Ytahkkiooklplhaa
open Go.ChangeShapes Go.WideShapes Go.ChangeAt Go.RowKit

/-- The throw at a beat. -/
def atB (l : List Int) (b : Int) : Int := nth l (b % (l.length : Int)).toNat
theorem atB_nat (l : List Int) (b : Nat) : atB l b = nth l (b % l.length) := by
  unfold atB
  rw [← Int.natCast_emod, Int.toNat_natCast]

theorem l02At_c (v : Value) (l : List Int) (b : Int) (w : World) (hv : IntsAt w v l) (h1 : 1 ≤ l.length) (h2 : l.length ≤ 1000) : Calls Try.prog 81 #[v, .int .i64 b] w (Gives (.int .i64 (atB l b)) w) := by
  obtain ⟨a, n, cap, rfl, hn, -, -, hc⟩ := hv
  have Hc := Lib.hid hc; clear hc
  have hq := l02Mod_c b n
  obtain ⟨j, hj⟩ : ∃ j : Nat, b % (n : Int) = (j : Int) := ⟨(b % (n : Int)).toNat, by have := Int.emod_nonneg b (show (n : Int) ≠ 0 by omega); omega⟩
  have hjn : j < n := by have := Int.emod_lt_of_pos b (show (0 : Int) < n by omega); omega
  have HR : Hid (atB l b = nth l j) := Lib.hid (by unfold atB; rw [← hn, hj, Int.toNat_natCast])
  rw [hj] at hq
  have HQ := Lib.hid (fun w => hq w (by omega) (by omega))
  have Hn := Lib.hid hn; clear hn hj hq h1 h2
  go_enter Try.func81, Try.ntmps81
  go_wp2_with fail
  refine (HQ.out _).mono ?_
  rintro e w1 ⟨rfl, hb1⟩
  obtain ⟨b', o, rfl, hbs, c0⟩ := (Hc.out.below hb1) j (by rw [← Hn.out]; exact hjn)
  go_wp2
  go_ret
  exact Gives.int HR.out hb1

theorem throwAt_c (v : Value) (l : List Int) (b : Int) (w : World) (hv : IntsAt w v l) (h1 : 1 ≤ l.length) (h2 : l.length ≤ 1000) : Calls Try.prog 97 #[v, .int .i64 b] w (Gives (.int .i64 (atB l b)) w) := by
  have HP := Lib.hid (period_c v l w hv)
  obtain ⟨a, n, cap, rfl, hn, -, -, hc⟩ := hv
  have Hc := Lib.hid hc; clear hc
  have hq := modulo_c b n
  obtain ⟨j, hj⟩ : ∃ j : Nat, b % (n : Int) = (j : Int) := ⟨(b % (n : Int)).toNat, by have := Int.emod_nonneg b (show (n : Int) ≠ 0 by omega); omega⟩
  have hjn : j < n := by have := Int.emod_lt_of_pos b (show (0 : Int) < n by omega); omega
  have HR : Hid (atB l b = nth l j) := Lib.hid (by unfold atB; rw [← hn, hj, Int.toNat_natCast])
  rw [hj] at hq
  have HQ := Lib.hid (fun w => hq w (by omega) (by omega))
  have hp := HP.out
  rw [← hn] at hp
  have Hn := Lib.hid hn; clear hn hj hq h1 h2 HP
  go_enter Try.func97, Try.ntmps97
  go_wp2_with fail
  refine hp.mono ?_
  rintro e w0 ⟨rfl, hb0⟩
  clear hp
  go_wp2_with fail
  refine (HQ.out _).mono ?_
  rintro e w1 ⟨rfl, hb1'⟩
  have hb1 := bthen hb0 hb1'
  obtain ⟨b', o, rfl, hbs, c0⟩ := (Hc.out.below hb1) j (by rw [← Hn.out]; exact hjn)
  go_wp2
  go_ret
  exact Gives.int HR.out hb1

end Go.Proofs.Ytahkkiooklplhaa
