import Derived.Test.YthdejhningghcaaMg8
import Derived.Test.YthdejhningghcaaMg11
/- High: the highest throw, by both packages. -/
namespace Go.Proofs.Ythdejhningghcaa
open Go.ChangeShapes Go.WideShapes Go.ChangeAt Go.RowKit

set_option maxHeartbeats 1000000 in
theorem highest_c (v : Value) (l : List Int) (w : World) (hv : IntsAt w v l) (ht : throwsB l = true) : Calls Try.prog 53 #[v] w (Gives (.int .i64 (maxF l 0)) w) := by
  obtain ⟨hx, h1, h12⟩ := throwsB_nth ht
  obtain ⟨a', m, cap', rfl, hm, -, -, hc'⟩ := hv
  have Hc' := Lib.hid hc'; clear hc'
  have hm1 : 1 ≤ m := by omega
  have hm12 : m ≤ 12 := by omega
  have Hm := Lib.hid hm; clear hm h1 h12
  have Hx := Lib.hid hx; clear hx ht
  go_enter Try.func53, Try.ntmps53
  go_wp2
  go_loopw [3, 8] (fun s i wr => ∃ (k : Nat) (t : Int), i = .int .i64 k ∧ s = .int .i64 t ∧ k ≤ m ∧ 0 ≤ t ∧ t ≤ 15 ∧ Hid (maxF l 0 = maxF (l.drop k) t) ∧ Below w.heap.size w wr) (fun _ i _ => m - (intOf i).toNat)
  case atStart => exact ⟨0, 0, rfl, rfl, Nat.zero_le _, Int.le_refl _, by omega, Lib.hid rfl, Below.refl _ _⟩
  case round =>
    obtain ⟨k, t, rfl, rfl, hk, hc0, hck, HS, hb⟩ := hrel
    by_cases hlt : k < m
    ·
      obtain ⟨b', o', rfl, hbs', d0⟩ := (Hc'.out.below hb) k (by rw [← Hm.out]; exact hlt)
      obtain ⟨hx0, hx1⟩ := Hx.out k (by rw [← Hm.out]; exact hlt)
      have HT := Lib.hid (HS.out.trans (maxF_step l t k (by rw [← Hm.out]; exact hlt)))
      clear HS
      generalize nth l k = xc at *
      by_cases hmx : t < xc
      · have HU : Hid (maxF l 0 = maxF (l.drop (k + 1)) xc) := Lib.hid (by rw [HT.out]; unfold mx; rw [if_pos hmx])
        go_wp2
        exact ⟨⟨k + 1, xc, by go_num, rfl, hlt, by omega, by omega, HU, hb⟩, by simp [intOf]; omega⟩
      · have HU : Hid (maxF l 0 = maxF (l.drop (k + 1)) t) := Lib.hid (by rw [HT.out]; unfold mx; rw [if_neg hmx])
        go_wp2
        exact ⟨⟨k + 1, t, by go_num, rfl, hlt, by omega, by omega, HU, hb⟩, by simp [intOf]; omega⟩
    · obtain rfl : k = m := by omega
      go_wp2
      go_ret
      exact Gives.int (by rw [HS.out, drop_end _ k k Hm.out (Nat.le_refl _)]; rfl) hb
end Go.Proofs.Ythdejhningghcaa
