import Derived.Test.YtclffohjpbmnbaaGreatDoorMg10
import Derived.Test.YtclffohjpbmnbaaGreatDoorMg5
import Derived.Test.YtclffohjpbmnbaaGreatDoorMg9
/- Canon2c: how two lists compare, by both packages. -/
namespace Go.Proofs.YtclffohjpbmnbaaGreatDoor
open Go.ChangeShapes Go.WideShapes Go.ChangeAt Go.RowKit

set_option maxHeartbeats 1000000 in
theorem l02Compare_c (v u : Value) (l m : List Int) (w : World) (hv : IntsAt w v l) (hu : IntsAt w u m) : Calls Tryz.prog 87 #[v, u] w (Gives (.int .i64 (cmpL l m)) w) := by
  obtain ⟨a, n, cap, rfl, hn, hl, hm, hc⟩ := hv
  obtain ⟨a', n', cap', rfl, hn', -, hm', hc'⟩ := hu
  have Hc := Lib.hid hc; clear hc
  have Hc' := Lib.hid hc'; clear hc'
  by_cases h1 : n < n'
  · have HR : Hid (cmpL l m = -1) := Lib.hid (by unfold cmpL; rw [← hn, ← hn', if_pos h1])
    have hne : ((n : Int) != (n' : Int)) = true := by simp; omega
    clear hn hn'
    go_enter Tryz.func87, Tryz.ntmps87
    go_wp2
    go_ret
    exact Gives.int HR.out (Below.refl _ _)
  by_cases h2 : n' < n
  · have HR : Hid (cmpL l m = 1) := Lib.hid (by unfold cmpL; rw [← hn, ← hn', if_neg h1, if_pos h2])
    have hne : ((n : Int) != (n' : Int)) = true := by simp; omega
    clear hn hn'
    go_enter Tryz.func87, Tryz.ntmps87
    go_wp2
    go_ret
    exact Gives.int HR.out (Below.refl _ _)
  obtain rfl : n = n' := by omega
  have HR : Hid (cmpL l m = cmpF l m) := Lib.hid (by unfold cmpL; rw [← hn, ← hn', if_neg h1, if_neg h1])
  have Hn := Lib.hid hn; clear hn
  have Hn' := Lib.hid hn'; clear hn' h1 h2
  go_enter Tryz.func87, Tryz.ntmps87
  go_wp2
  go_loopw [5] (fun i wr => ∃ k : Nat, i = .int .i64 k ∧ k ≤ n ∧ Hid (cmpL l m = cmpF (l.drop k) (m.drop k)) ∧ Below w.heap.size w wr) (fun i _ => n - (intOf i).toNat)
  case atStart => exact ⟨0, rfl, Nat.zero_le _, HR, Below.refl _ _⟩
  case round =>
    obtain ⟨k, rfl, hk, HS, hb⟩ := hrel
    by_cases hlt : k < n
    · obtain ⟨b, o, rfl, hbs, c0⟩ := (Hc.out.below hb) k (by rw [← Hn.out]; exact hlt)
      obtain ⟨b', o', rfl, hbs', d0⟩ := (Hc'.out.below hb) k (by rw [← Hn'.out]; exact hlt)
      have HT := Lib.hid (HS.out.trans (cmpF_step l m k (by rw [← Hn.out]; exact hlt) (by rw [← Hn'.out]; exact hlt)))
      clear HS HR
      generalize nth l k = x at *
      generalize nth m k = y at *
      by_cases hxy : x < y
      · have hd : decide (x < y) = true := decide_eq_true hxy
        have HV : Hid (cmpL l m = -1) := Lib.hid (by rw [HT.out, if_pos hxy])
        clear HT
        go_wp2
        go_quiet (fail)
        go_wp2
        go_ret
        exact Gives.int HV.out (below_drewN hb _)
      · have hd : decide (x < y) = false := decide_eq_false hxy
        by_cases hyx : y < x
        · have hd2 : decide (y < x) = true := decide_eq_true hyx
          have HV : Hid (cmpL l m = 1) := Lib.hid (by rw [HT.out, if_neg hxy, if_pos hyx])
          clear HT
          go_wp2
          go_quiet (fail)
          have hd0 : Below wr.heap.size wr (wr.drewN nq) := below_drewN (Below.refl _ _) nq
          have c0' := cell_then hbs c0 hd0
          have d0' := cell_then hbs' d0 hd0
          have hb' := bthen hb hd0
          clear hd0 c0 d0
          generalize wr.drewN nq = wd at *
          go_wp2
          go_quiet (fail)
          go_wp2
          go_ret
          exact Gives.int HV.out (below_drewN hb' _)
        · have hd2 : decide (y < x) = false := decide_eq_false hyx
          have HV : Hid (cmpL l m = cmpF (l.drop (k + 1)) (m.drop (k + 1))) := Lib.hid (by rw [HT.out, if_neg hxy, if_neg hyx])
          clear HT
          go_wp2
          go_quiet (fail)
          have hd0 : Below wr.heap.size wr (wr.drewN nq) := below_drewN (Below.refl _ _) nq
          have c0' := cell_then hbs c0 hd0
          have d0' := cell_then hbs' d0 hd0
          have hb' := bthen hb hd0
          clear hd0 c0 d0
          generalize wr.drewN nq = wd at *
          go_wp2
          go_quiet (fail)
          go_wp2
          exact ⟨⟨k + 1, by go_num, hlt, HV, below_drewN hb' _⟩, by simp [intOf]; omega⟩
    · go_wp2
      go_ret
      exact Gives.int (by rw [HS.out, drop_end l k n Hn.out (by omega)]; rfl) hb
set_option maxHeartbeats 1000000 in
theorem comparePatterns_c (v u : Value) (l m : List Int) (w : World) (hv : IntsAt w v l) (hu : IntsAt w u m) : Calls Tryz.prog 43 #[v, u] w (Gives (.int .i64 (cmpL l m)) w) := by
  obtain ⟨a, n, cap, rfl, hn, hl, hm, hc⟩ := hv
  obtain ⟨a', n', cap', rfl, hn', -, hm', hc'⟩ := hu
  have Hc := Lib.hid hc; clear hc
  have Hc' := Lib.hid hc'; clear hc'
  by_cases h1 : n < n'
  · have HR : Hid (cmpL l m = -1) := Lib.hid (by unfold cmpL; rw [← hn, ← hn', if_pos h1])
    have hne : ((n : Int) != (n' : Int)) = true := by simp; omega
    clear hn hn'
    go_enter Tryz.func43, Tryz.ntmps43
    go_wp2
    go_ret
    exact Gives.int HR.out (Below.refl _ _)
  by_cases h2 : n' < n
  · have HR : Hid (cmpL l m = 1) := Lib.hid (by unfold cmpL; rw [← hn, ← hn', if_neg h1, if_pos h2])
    have hne : ((n : Int) != (n' : Int)) = true := by simp; omega
    clear hn hn'
    go_enter Tryz.func43, Tryz.ntmps43
    go_wp2
    go_ret
    exact Gives.int HR.out (Below.refl _ _)
  obtain rfl : n = n' := by omega
  have HR : Hid (cmpL l m = cmpF l m) := Lib.hid (by unfold cmpL; rw [← hn, ← hn', if_neg h1, if_neg h1])
  have Hn := Lib.hid hn; clear hn
  have Hn' := Lib.hid hn'; clear hn' h1 h2
  go_enter Tryz.func43, Tryz.ntmps43
  go_wp2
  go_loopw [20] (fun i wr => ∃ k : Nat, i = .int .i64 k ∧ k ≤ n ∧ Hid (cmpL l m = cmpF (l.drop k) (m.drop k)) ∧ Below w.heap.size w wr) (fun i _ => n - (intOf i).toNat)
  case atStart => exact ⟨0, rfl, Nat.zero_le _, HR, Below.refl _ _⟩
  case round =>
    obtain ⟨k, rfl, hk, HS, hb⟩ := hrel
    by_cases hlt : k < n
    · obtain ⟨b, o, rfl, hbs, c0⟩ := (Hc.out.below hb) k (by rw [← Hn.out]; exact hlt)
      obtain ⟨b', o', rfl, hbs', d0⟩ := (Hc'.out.below hb) k (by rw [← Hn'.out]; exact hlt)
      have HT := Lib.hid (HS.out.trans (cmpF_step l m k (by rw [← Hn.out]; exact hlt) (by rw [← Hn'.out]; exact hlt)))
      clear HS HR
      generalize nth l k = x at *
      generalize nth m k = y at *
      by_cases hxy : x < y
      · have hd : decide (x < y) = true := decide_eq_true hxy
        have HV : Hid (cmpL l m = -1) := Lib.hid (by rw [HT.out, if_pos hxy])
        clear HT
        go_wp2
        go_quiet (fail)
        go_wp2
        go_ret
        exact Gives.int HV.out (below_drewN hb _)
      · have hd : decide (x < y) = false := decide_eq_false hxy
        by_cases hyx : y < x
        · have hd2 : decide (y < x) = true := decide_eq_true hyx
          have HV : Hid (cmpL l m = 1) := Lib.hid (by rw [HT.out, if_neg hxy, if_pos hyx])
          clear HT
          go_wp2
          go_quiet (fail)
          have hd0 : Below wr.heap.size wr (wr.drewN nq) := below_drewN (Below.refl _ _) nq
          have c0' := cell_then hbs c0 hd0
          have d0' := cell_then hbs' d0 hd0
          have hb' := bthen hb hd0
          clear hd0 c0 d0
          generalize wr.drewN nq = wd at *
          go_wp2
          go_quiet (fail)
          go_wp2
          go_ret
          exact Gives.int HV.out (below_drewN hb' _)
        · have hd2 : decide (y < x) = false := decide_eq_false hyx
          have HV : Hid (cmpL l m = cmpF (l.drop (k + 1)) (m.drop (k + 1))) := Lib.hid (by rw [HT.out, if_neg hxy, if_neg hyx])
          clear HT
          go_wp2
          go_quiet (fail)
          have hd0 : Below wr.heap.size wr (wr.drewN nq) := below_drewN (Below.refl _ _) nq
          have c0' := cell_then hbs c0 hd0
          have d0' := cell_then hbs' d0 hd0
          have hb' := bthen hb hd0
          clear hd0 c0 d0
          generalize wr.drewN nq = wd at *
          go_wp2
          go_quiet (fail)
          go_wp2
          exact ⟨⟨k + 1, by go_num, hlt, HV, below_drewN hb' _⟩, by simp [intOf]; omega⟩
    · go_wp2
      go_ret
      exact Gives.int (by rw [HS.out, drop_end l k n Hn.out (by omega)]; rfl) hb
end Go.Proofs.YtclffohjpbmnbaaGreatDoor

/- High: the highest throw, by both packages. -/
namespace Go.Proofs.YtclffohjpbmnbaaGreatDoor
open Go.ChangeShapes Go.WideShapes Go.ChangeAt Go.RowKit

set_option maxHeartbeats 1000000 in
theorem l02High_c (v : Value) (l : List Int) (w : World) (hv : IntsAt w v l) (ht : throwsB l = true) : Calls Tryz.prog 130 #[v] w (Gives (.int .i64 (maxF l 0)) w) := by
  obtain ⟨hx, h1, h12⟩ := throwsB_nth ht
  obtain ⟨a', m, cap', rfl, hm, -, -, hc'⟩ := hv
  have Hc' := Lib.hid hc'; clear hc'
  have hm1 : 1 ≤ m := by omega
  have hm12 : m ≤ 12 := by omega
  have Hm := Lib.hid hm; clear hm h1 h12
  have Hx := Lib.hid hx; clear hx ht
  go_enter Tryz.func130, Tryz.ntmps130
  go_wp2
  go_loopw [3, 4] (fun s i wr => ∃ (k : Nat) (t : Int), i = .int .i64 k ∧ s = .int .i64 t ∧ k ≤ m ∧ 0 ≤ t ∧ t ≤ 15 ∧ Hid (maxF l 0 = maxF (l.drop k) t) ∧ Below w.heap.size w wr) (fun _ i _ => m - (intOf i).toNat)
  case atStart => exact ⟨0, 0, rfl, rfl, Nat.zero_le _, Int.le_refl _, by omega, Lib.hid rfl, Below.refl _ _⟩
  case round =>
    obtain ⟨k, t, rfl, rfl, hk, hc0, hck, HS, hb⟩ := hrel
    by_cases hlt : k < m
    ·
      obtain ⟨b', o', rfl, hbs', d0⟩ := (Hc'.out.below hb) k (by rw [← Hm.out]; exact hlt)
      obtain ⟨hx0, hx1⟩ := Hx.out k (by rw [← Hm.out]; exact hlt)
      have HT := Lib.hid (HS.out.trans (maxF_step l t k (by rw [← Hm.out]; exact hlt)))
      clear HS
      generalize nth l k = xc at *
      have HM := Lib.hid (fun W => l00Max_c t xc W)
      obtain ⟨M, hM⟩ : ∃ M, mx t xc = M := ⟨_, rfl⟩
      have hM0 : 0 ≤ M := by rw [← hM]; unfold mx; split <;> omega
      have hMB : M ≤ 15 := by rw [← hM]; unfold mx; split <;> omega
      rw [hM] at HM HT
      clear hM
      go_wp2_with fail
      refine (HM.out _).mono ?_
      rintro e w1 ⟨rfl, hb1⟩
      go_wp2
      exact ⟨⟨k + 1, M, by go_num, rfl, hlt, hM0, hMB, HT, bthen hb hb1⟩, by simp [intOf]; omega⟩
    · obtain rfl : k = m := by omega
      go_wp2
      go_ret
      exact Gives.int (by rw [HS.out, drop_end _ k k Hm.out (Nat.le_refl _)]; rfl) hb
set_option maxHeartbeats 1000000 in
theorem highest_c (v : Value) (l : List Int) (w : World) (hv : IntsAt w v l) (ht : throwsB l = true) : Calls Tryz.prog 107 #[v] w (Gives (.int .i64 (maxF l 0)) w) := by
  obtain ⟨hx, h1, h12⟩ := throwsB_nth ht
  obtain ⟨a', m, cap', rfl, hm, -, -, hc'⟩ := hv
  have Hc' := Lib.hid hc'; clear hc'
  have hm1 : 1 ≤ m := by omega
  have hm12 : m ≤ 12 := by omega
  have Hm := Lib.hid hm; clear hm h1 h12
  have Hx := Lib.hid hx; clear hx ht
  go_enter Tryz.func107, Tryz.ntmps107
  go_wp2
  go_loopw [3, 8] (fun s i wr => ∃ (k : Nat) (t : Int), i = .int .i64 k ∧ s = .int .i64 t ∧ k ≤ m ∧ 0 ≤ t ∧ t ≤ 15 ∧ Hid (maxF l 0 = maxF (l.drop k) t) ∧ Below w.heap.size w wr) (fun _ i _ => m - (intOf i).toNat)
  case atStart => exact ⟨0, 0, rfl, rfl, Nat.zero_le _, Int.le_refl _, by omega, Lib.hid rfl, Below.refl _ _⟩
  case round =>
    obtain ⟨k, t, rfl, rfl, hk, hc0, hck, HS, hb⟩ := hrel
    by_cases hlt : k < m
    ·
      obtain ⟨b', o', rfl, hbs', d0⟩ := (Hc'.out.below hb) k (by rw [← Hm.out]; exact hlt)
      obtain ⟨hx0, hx1⟩ := Hx.out k (by rw [← Hm.out]; exact hlt)
      have HT := Lib.hid (HS.out.trans (maxF_step l t k (by rw [← Hm.out]; exact hlt)))
      clear HS
      generalize nth l k = xc at *
      by_cases hmx : t < xc
      · have HU : Hid (maxF l 0 = maxF (l.drop (k + 1)) xc) := Lib.hid (by rw [HT.out]; unfold mx; rw [if_pos hmx])
        go_wp2
        exact ⟨⟨k + 1, xc, by go_num, rfl, hlt, by omega, by omega, HU, hb⟩, by simp [intOf]; omega⟩
      · have HU : Hid (maxF l 0 = maxF (l.drop (k + 1)) t) := Lib.hid (by rw [HT.out]; unfold mx; rw [if_neg hmx])
        go_wp2
        exact ⟨⟨k + 1, t, by go_num, rfl, hlt, by omega, by omega, HU, hb⟩, by simp [intOf]; omega⟩
    · obtain rfl : k = m := by omega
      go_wp2
      go_ret
      exact Gives.int (by rw [HS.out, drop_end _ k k Hm.out (Nat.le_refl _)]; rfl) hb
end Go.Proofs.YtclffohjpbmnbaaGreatDoor
