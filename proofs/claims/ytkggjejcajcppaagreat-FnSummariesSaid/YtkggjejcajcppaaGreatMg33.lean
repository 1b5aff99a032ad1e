import Derived.Test.YtkggjejcajcppaaGreatMg2
import Derived.Test.YtkggjejcajcppaaGreatMg32
/- F6: the group laws' own helps. -/
namespace Go.Proofs.YtkggjejcajcppaaGreat
open Go.ChangeShapes Go.WideShapes Go.ChangeAt Go.RowKit

theorem f6ints_c (v u : Value) (l m : List Int) (w : World) (hv : IntsAt w v l) (hu : IntsAt w u m) :
    Calls Tryz.prog 16 #[v, u] w (Gives (.bool (same2 eqI l m)) w) := by
  obtain ⟨a, n, cap, rfl, hn, hl, hm, hc⟩ := hv
  obtain ⟨a', n', cap', rfl, hn', hl', hm', hc'⟩ := hu
  have Hc := Lib.hid hc; clear hc
  have Hc' := Lib.hid hc'; clear hc'
  have Hn := Lib.hid hn; clear hn
  have Hn' := Lib.hid hn'; clear hn'
  by_cases hnm : n = n'
  · subst hnm
    go_enter Tryz.func16, Tryz.ntmps16
    go_wp2
    go_loopw [5] (fun i wr => ∃ k : Nat, i = .int .i64 k ∧ k ≤ n ∧ Hid (same2 eqI l m = same2 eqI (l.drop k) (m.drop k)) ∧ Below w.heap.size w wr) (fun i _ => n - (intOf i).toNat)
    case atStart => exact ⟨0, rfl, Nat.zero_le _, Lib.hid rfl, Below.refl _ _⟩
    case round =>
      obtain ⟨k, rfl, hk, HS, hb⟩ := hrel
      by_cases hlt : k < n
      · obtain ⟨b, o, rfl, hbs, c0⟩ := (Hc.out.below hb) k (by rw [← Hn.out]; exact hlt)
        obtain ⟨b', o', rfl, hbs', d0⟩ := (Hc'.out.below hb) k (by rw [← Hn'.out]; exact hlt)
        have HT := Lib.hid (HS.out.trans (same2_step eqI l m k (by rw [← Hn.out]; exact hlt) (by rw [← Hn'.out]; exact hlt)))
        clear HS
        generalize nth l k = x at *
        generalize nth m k = y at *
        cases hE : eqI x y
        · have HV : Hid (same2 eqI l m = (false && same2 eqI (l.drop (k + 1)) (m.drop (k + 1)))) := Lib.hid (by rw [HT.out, hE])
          have hxy := eqI_ne hE
          clear HT hE
          go_wp2
          go_quiet (fail)
          go_wp2
          go_ret
          exact Gives.bool HV.out (below_drewN hb _)
        · have HV : Hid (same2 eqI l m = (true && same2 eqI (l.drop (k + 1)) (m.drop (k + 1)))) := Lib.hid (by rw [HT.out, hE])
          have hxy := eqI_eq hE
          clear HT hE
          go_wp2
          go_quiet (fail)
          go_wp2
          exact ⟨⟨k + 1, by go_num, hlt, HV, below_drewN hb _⟩, by simp [intOf]; omega⟩
      · go_wp2
        go_ret
        exact Gives.bool (by rw [HS.out, drop_end l k n Hn.out (by omega), drop_end m k n Hn'.out (by omega)]; rfl) hb
  · go_enter Tryz.func16, Tryz.ntmps16
    go_wp2
    go_ret
    exact Gives.bool (same2_len eqI l m (by rw [← Hn.out, ← Hn'.out]; exact hnm)) (Below.refl _ _)
theorem f6big_c (v : Value) (l : List Int) (w : World) (hv : BytesAt w v l) : Calls Tryz.prog 4 #[v] w (Gives (.bool (decide (4096 < l.length))) w) := by
  obtain ⟨a, n, c, rfl, hn, -, -, -⟩ := hv
  have Hn := Lib.hid hn; clear hn
  go_enter Tryz.func4, Tryz.ntmps4
  go_wp2
  go_ret
  exact Gives.bool (by rw [← Hn.out]; exact decide_eq_decide.2 (by omega)) (Below.refl _ _)
theorem eqI_self (l : List Int) : same2 eqI l l = true := by
  induction l with
  | nil => rfl
  | cons x l ih => simp [same2, eqI, ih]
theorem eqI_of : ∀ (l m : List Int), same2 eqI l m = true → l = m
  | [], [], _ => rfl
  | x :: l, y :: m, h => by
    simp only [same2, eqI, Bool.and_eq_true, beq_iff_eq] at h
    rw [h.1, eqI_of l m h.2]
  | [], _ :: _, h => by simp [same2] at h
  | _ :: _, [], h => by simp [same2] at h
end Go.Proofs.YtkggjejcajcppaaGreat
