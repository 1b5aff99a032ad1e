import Derived.Test.YthdejhningghcaaMg12
/- Canon2c: how two lists compare, by both packages. -/
namespace Go.Proofs.Ythdejhningghcaa
open Go.ChangeShapes Go.WideShapes Go.ChangeAt Go.RowKit

set_option maxHeartbeats 1000000 in
theorem l02Compare_c (v u : Value) (l m : List Int) (w : World) (hv : IntsAt w v l) (hu : IntsAt w u m) : Calls Try.prog 69 #[v, u] w (Gives (.int .i64 (cmpL l m)) w) := by
  obtain ⟨a, n, cap, rfl, hn, hl, hm, hc⟩ := hv
  obtain ⟨a', n', cap', rfl, hn', -, hm', hc'⟩ := hu
  have Hc := Lib.hid hc; clear hc
  have Hc' := Lib.hid hc'; clear hc'
  by_cases h1 : n < n'
  · have HR : Hid (cmpL l m = -1) := Lib.hid (by unfold cmpL; rw [← hn, ← hn', if_pos h1])
    have hne : ((n : Int) != (n' : Int)) = true := by simp; omega
    clear hn hn'
    go_enter Try.func69, Try.ntmps69
    go_wp2
    go_ret
    exact Gives.int HR.out (Below.refl _ _)
  by_cases h2 : n' < n
  · have HR : Hid (cmpL l m = 1) := Lib.hid (by unfold cmpL; rw [← hn, ← hn', if_neg h1, if_pos h2])
    have hne : ((n : Int) != (n' : Int)) = true := by simp; omega
    clear hn hn'
    go_enter Try.func69, Try.ntmps69
    go_wp2
    go_ret
    exact Gives.int HR.out (Below.refl _ _)
  obtain rfl : n = n' := by omega
  have HR : Hid (cmpL l m = cmpF l m) := Lib.hid (by unfold cmpL; rw [← hn, ← hn', if_neg h1, if_neg h1])
  have Hn := Lib.hid hn; clear hn
  have Hn' := Lib.hid hn'; clear hn' h1 h2
  go_enter Try.func69, Try.ntmps69
  go_wp2
  go_loopw [5] (fun i wr => ∃ k : Nat, i = .int .i64 k ∧ k ≤ n ∧ Hid (cmpL l m = cmpF (l.drop k) (m.drop k)) ∧ Below w.heap.size w wr) (fun i _ => n - (intOf i).toNat)
  case atStart => exact ⟨0, rfl, Nat.zero_le _, HR, Below.refl _ _⟩
  case round =>
    obtain ⟨k, rfl, hk, HS, hb⟩ := hrel
    by_cases hlt : k < n
    · obtain ⟨b, o, rfl, hbs, c0⟩ := (Hc.out.below hb) k (by rw [← Hn.out]; exact hlt)
      obtain ⟨b', o', rfl, hbs', d0⟩ := (Hc'.out.below hb) k (by rw [← Hn'.out]; exact hlt)
      have HT := Lib.hid (HS.out.trans (cmpF_step l m k (by rw [← Hn.out]; exact hlt) (by rw [← Hn'.out]; exact hlt)))
      clear HS HR
      generalize nth l k = x at *
      generalize nth m k = y at *
      by_cases hxy : x < y
      · have hd : decide (x < y) = true := decide_eq_true hxy
        have HV : Hid (cmpL l m = -1) := Lib.hid (by rw [HT.out, if_pos hxy])
        clear HT
        go_wp2
        go_quiet (fail)
        go_wp2
        go_ret
        exact Gives.int HV.out (below_drewN hb _)
      · have hd : decide (x < y) = false := decide_eq_false hxy
        by_cases hyx : y < x
        · have hd2 : decide (y < x) = true := decide_eq_true hyx
          have HV : Hid (cmpL l m = 1) := Lib.hid (by rw [HT.out, if_neg hxy, if_pos hyx])
          clear HT
          go_wp2
          go_quiet (fail)
          have hd0 : Below wr.heap.size wr (wr.drewN nq) := below_drewN (Below.refl _ _) nq
          have c0' := cell_then hbs c0 hd0
          have d0' := cell_then hbs' d0 hd0
          have hb' := bthen hb hd0
          clear hd0 c0 d0
          generalize wr.drewN nq = wd at *
          go_wp2
          go_quiet (fail)
          go_wp2
          go_ret
          exact Gives.int HV.out (below_drewN hb' _)
        · have hd2 : decide (y < x) = false := decide_eq_false hyx
          have HV : Hid (cmpL l m = cmpF (l.drop (k + 1)) (m.drop (k + 1))) := Lib.hid (by rw [HT.out, if_neg hxy, if_neg hyx])
          clear HT
          go_wp2
          go_quiet (fail)
          have hd0 : Below wr.heap.size wr (wr.drewN nq) := below_drewN (Below.refl _ _) nq
          have c0' := cell_then hbs c0 hd0
          have d0' := cell_then hbs' d0 hd0
          have hb' := bthen hb hd0
          clear hd0 c0 d0
          generalize wr.drewN nq = wd at *
          go_wp2
          go_quiet (fail)
          go_wp2
          exact ⟨⟨k + 1, by go_num, hlt, HV, below_drewN hb' _⟩, by simp [intOf]; omega⟩
    · go_wp2
      go_ret
      exact Gives.int (by rw [HS.out, drop_end l k n Hn.out (by omega)]; rfl) hb
set_option maxHeartbeats 1000000 in
theorem comparePatterns_c (v u : Value) (l m : List Int) (w : World) (hv : IntsAt w v l) (hu : IntsAt w u m) : Calls Try.prog 31 #[v, u] w (Gives (.int .i64 (cmpL l m)) w) := by
  obtain ⟨a, n, cap, rfl, hn, hl, hm, hc⟩ := hv
  obtain ⟨a', n', cap', rfl, hn', -, hm', hc'⟩ := hu
  have Hc := Lib.hid hc; clear hc
  have Hc' := Lib.hid hc'; clear hc'
  by_cases h1 : n < n'
  · have HR : Hid (cmpL l m = -1) := Lib.hid (by unfold cmpL; rw [← hn, ← hn', if_pos h1])
    have hne : ((n : Int) != (n' : Int)) = true := by simp; omega
    clear hn hn'
    go_enter Try.func31, Try.ntmps31
    go_wp2
    go_ret
    exact Gives.int HR.out (Below.refl _ _)
  by_cases h2 : n' < n
  · have HR : Hid (cmpL l m = 1) := Lib.hid (by unfold cmpL; rw [← hn, ← hn', if_neg h1, if_pos h2])
    have hne : ((n : Int) != (n' : Int)) = true := by simp; omega
    clear hn hn'
    go_enter Try.func31, Try.ntmps31
    go_wp2
    go_ret
    exact Gives.int HR.out (Below.refl _ _)
  obtain rfl : n = n' := by omega
  have HR : Hid (cmpL l m = cmpF l m) := Lib.hid (by unfold cmpL; rw [← hn, ← hn', if_neg h1, if_neg h1])
  have Hn := Lib.hid hn; clear hn
  have Hn' := Lib.hid hn'; clear hn' h1 h2
  go_enter Try.func31, Try.ntmps31
  go_wp2
  go_loopw [20] (fun i wr => ∃ k : Nat, i = .int .i64 k ∧ k ≤ n ∧ Hid (cmpL l m = cmpF (l.drop k) (m.drop k)) ∧ Below w.heap.size w wr) (fun i _ => n - (intOf i).toNat)
  case atStart => exact ⟨0, rfl, Nat.zero_le _, HR, Below.refl _ _⟩
  case round =>
    obtain ⟨k, rfl, hk, HS, hb⟩ := hrel
    by_cases hlt : k < n
    · obtain ⟨b, o, rfl, hbs, c0⟩ := (Hc.out.below hb) k (by rw [← Hn.out]; exact hlt)
      obtain ⟨b', o', rfl, hbs', d0⟩ := (Hc'.out.below hb) k (by rw [← Hn'.out]; exact hlt)
      have HT := Lib.hid (HS.out.trans (cmpF_step l m k (by rw [← Hn.out]; exact hlt) (by rw [← Hn'.out]; exact hlt)))
      clear HS HR
      generalize nth l k = x at *
      generalize nth m k = y at *
      by_cases hxy : x < y
      · have hd : decide (x < y) = true := decide_eq_true hxy
        have HV : Hid (cmpL l m = -1) := Lib.hid (by rw [HT.out, if_pos hxy])
        clear HT
        go_wp2
        go_quiet (fail)
        go_wp2
        go_ret
        exact Gives.int HV.out (below_drewN hb _)
      · have hd : decide (x < y) = false := decide_eq_false hxy
        by_cases hyx : y < x
        · have hd2 : decide (y < x) = true := decide_eq_true hyx
          have HV : Hid (cmpL l m = 1) := Lib.hid (by rw [HT.out, if_neg hxy, if_pos hyx])
          clear HT
          go_wp2
          go_quiet (fail)
          have hd0 : Below wr.heap.size wr (wr.drewN nq) := below_drewN (Below.refl _ _) nq
          have c0' := cell_then hbs c0 hd0
          have d0' := cell_then hbs' d0 hd0
          have hb' := bthen hb hd0
          clear hd0 c0 d0
          generalize wr.drewN nq = wd at *
          go_wp2
          go_quiet (fail)
          go_wp2
          go_ret
          exact Gives.int HV.out (below_drewN hb' _)
        · have hd2 : decide (y < x) = false := decide_eq_false hyx
          have HV : Hid (cmpL l m = cmpF (l.drop (k + 1)) (m.drop (k + 1))) := Lib.hid (by rw [HT.out, if_neg hxy, if_neg hyx])
          clear HT
          go_wp2
          go_quiet (fail)
          have hd0 : Below wr.heap.size wr (wr.drewN nq) := below_drewN (Below.refl _ _) nq
          have c0' := cell_then hbs c0 hd0
          have d0' := cell_then hbs' d0 hd0
          have hb' := bthen hb hd0
          clear hd0 c0 d0
          generalize wr.drewN nq = wd at *
          go_wp2
          go_quiet (fail)
          go_wp2
          exact ⟨⟨k + 1, by go_num, hlt, HV, below_drewN hb' _⟩, by simp [intOf]; omega⟩
    · go_wp2
      go_ret
      exact Gives.int (by rw [HS.out, drop_end l k n Hn.out (by omega)]; rfl) hb
end Go.Proofs.Ythdejhningghcaa
