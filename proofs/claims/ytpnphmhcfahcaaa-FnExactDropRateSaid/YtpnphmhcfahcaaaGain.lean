/- Gain: means of catches, by both packages; the law FnExactGainOf. -/
import Derived.Test.YtpnphmhcfahcaaaAsk2
import Derived.Test.YtpnphmhcfahcaaaSums
import Derived.Test.YtpnphmhcfahcaaaOpenAtts
namespace Go.Proofs.Ytpnphmhcfahcaaa
open Go.ChangeShapes Go.WideShapes Go.ChangeAt Go.RowKit

/-- The catches of attempts. -/
def catL (l : List Att) (own : List Int) : List Int := own.map fun i => (nth l i.toNat).catches
theorem catL_len (l : List Att) (own : List Int) : (catL l own).length = own.length := by simp [catL]
theorem meanL_in (l : List Int) (h : ∀ x ∈ l, 0 ≤ x ∧ x ≤ 100000) (h100 : l.length ≤ 100) : 0 ≤ meanL l ∧ meanL l ≤ 10000000 := by
  have h2 := sumF_in l 0 100000 h (by omega)
  unfold meanL
  refine ⟨Int.ediv_nonneg (by omega) (by omega), Int.le_trans (Int.ediv_le_self _ (by omega)) (by omega)⟩

set_option maxHeartbeats 1000000 in
theorem l24Mean_c (v u : Value) (l : List Att) (own : List Int) (w : World) (hv : AttsAt w v l) (hu : IntsAt w u own) (h1 : 1 ≤ own.length) (h100 : own.length ≤ 100)
    (ho : ∀ k, k < own.length → ∃ j : Nat, nth own k = (j : Int) ∧ j < l.length) (hx : ∀ i, i < l.length → 0 ≤ (nth l i).catches ∧ (nth l i).catches ≤ 100000) :
    Calls Try.prog 47 #[v, u] w (Gives (.int .i64 (meanL (catL l own))) w) := by
  obtain ⟨a, n, cap, rfl, hn, -, -, hc⟩ := hv
  obtain ⟨a', m, cap', rfl, hm, -, -, hc'⟩ := hu
  have Hc := Lib.hid hc; clear hc
  have Hc' := Lib.hid hc'; clear hc'
  have Hn := Lib.hid hn; clear hn
  have hm1 : 1 ≤ m := by omega
  have hm100 : m ≤ 100 := by omega
  have Hm := Lib.hid hm; clear hm h1 h100
  have Ho := Lib.hid ho; clear ho
  have Hx := Lib.hid hx; clear hx
  go_enter Try.func47, Try.ntmps47
  go_wp2
  go_loopw [5, 6] (fun s i wr => ∃ (k : Nat) (c : Int), i = .int .i64 k ∧ s = .int .i64 c ∧ k ≤ m ∧ 0 ≤ c ∧ c ≤ 100000 * k ∧ Hid (sumF (catL l own) 0 = sumF ((catL l own).drop k) c) ∧ Below w.heap.size w wr) (fun _ i _ => m - (intOf i).toNat)
  case atStart => exact ⟨0, 0, rfl, rfl, Nat.zero_le _, Int.le_refl _, by omega, Lib.hid rfl, Below.refl _ _⟩
  case round =>
    obtain ⟨k, c, rfl, rfl, hk, hc0, hck, HS, hb⟩ := hrel
    by_cases hlt : k < m
    · obtain ⟨b', o', rfl, hbs', d0⟩ := (Hc'.out.below hb) k (by rw [← Hm.out]; exact hlt)
      obtain ⟨j, hj, hjl⟩ := Ho.out k (by rw [← Hm.out]; exact hlt)
      have hjn : j < n := by rw [Hn.out]; exact hjl
      obtain ⟨b, o, pa, pn, pc, rfl, hbs, hp, c0, c1, c2⟩ := att_cells (Hc.out.below hb) j hjl
      have hcat : nth (catL l own) k = (nth l j).catches := by
        unfold catL; rw [nth_map' _ own k (by rw [← Hm.out]; exact hlt), hj, Int.toNat_natCast]
      obtain ⟨hx0, hx1⟩ := Hx.out j hjl
      have HT : Hid (sumF (catL l own) 0 = sumF ((catL l own).drop (k + 1)) (c + (nth l j).catches)) := Lib.hid (by rw [HS.out, sumF_step _ _ k (by rw [catL_len, ← Hm.out]; exact hlt), hcat])
      rw [hj] at d0
      clear hp HS hcat hj hjl
      generalize nth l j = x at *
      obtain ⟨xp, xc, xd⟩ := x
      dsimp only at c1 c2 hx0 hx1 HT
      have hs : IntKind.i64.wrap (c + xc) = c + xc := IntWalk.i64_in _ (by omega)
      go_wp2
      exact ⟨⟨k + 1, _, by go_num, rfl, hlt, by omega, by omega, HT, hb⟩, by simp [intOf]; omega⟩
    · obtain rfl : k = m := by omega
      have HR : Hid (meanL (catL l own) = c / (k : Int)) := Lib.hid (by unfold meanL; rw [HS.out, drop_end _ k k (by rw [catL_len, ← Hm.out]) (Nat.le_refl _), catL_len, ← Hm.out]; rfl)
      have hk0 : ((k : Int) == 0) = false := beq_eq_false_iff_ne.2 (by omega)
      have hd : c.tdiv (k : Int) = c / (k : Int) := Int.tdiv_eq_ediv_of_nonneg hc0
      have hw : IntKind.i64.wrap (c / (k : Int)) = c / (k : Int) := IntWalk.i64_in _ (by have := Int.ediv_nonneg hc0 (show (0 : Int) ≤ k by omega); have := Int.ediv_le_self (k : Int) hc0; omega)
      clear HS
      go_wp2
      go_ret
      exact Gives.int HR.out hb
end Go.Proofs.Ytpnphmhcfahcaaa
