import Derived.Test.YtclffohjpbmnbaaGreatDoorMg12
import Derived.Test.YtclffohjpbmnbaaGreatDoorMg5
import Derived.Test.YtclffohjpbmnbaaGreatDoorMg11
import Derived.Test.YtclffohjpbmnbaaGreatDoorMg8
import Derived.Test.YtclffohjpbmnbaaGreatDoorMg9
/- Diff1: measures of patterns, by the reference. -/
namespace Go.Proofs.YtclffohjpbmnbaaGreatDoor
open Go.ChangeShapes Go.WideShapes Go.ChangeAt Go.RowKit

set_option maxHeartbeats 1000000 in
theorem l20Swing_c (v : Value) (l : List Int) (w : World) (hv : IntsAt w v l) (ht : throwsB l = true) : Calls Tryz.prog 116 #[v] w (Gives (.int .i64 (swingL l)) w) := by
  have hP := propsL_in ht
  have HQ := Lib.hid (l02Props_c v l w hv ht)
  obtain ⟨hx, h1, h12⟩ := throwsB_nth ht
  obtain ⟨a', m, cap', rfl, hm, -, -, hc'⟩ := hv
  have Hc' := Lib.hid hc'; clear hc'
  have hm1 : 1 ≤ m := by omega
  have hm12 : m ≤ 12 := by omega
  have Hm := Lib.hid hm; clear hm h1 h12
  have Hx := Lib.hid hx; clear hx ht
  have HR := Lib.hid (show swingL l = 1000 * swingF (propsL l) l 0 / (m : Int) by unfold swingL; rw [Hm.out])
  generalize propsL l = P at *
  go_enter Tryz.func116, Tryz.ntmps116
  go_wp2_with fail
  refine HQ.out.mono ?_
  rintro e w1 ⟨rfl, hb1⟩
  go_wp2
  go_loopw [4, 5] (fun s i wr => ∃ (k : Nat) (t : Int), i = .int .i64 k ∧ s = .int .i64 t ∧ k ≤ m ∧ 0 ≤ t ∧ t ≤ 32400 * k ∧ Hid (swingF P l 0 = swingF P (l.drop k) t) ∧ Below w.heap.size w wr) (fun _ i _ => m - (intOf i).toNat)
  case atStart => exact ⟨0, 0, rfl, rfl, Nat.zero_le _, Int.le_refl _, by omega, Lib.hid rfl, hb1⟩
  case round =>
    obtain ⟨k, t, rfl, rfl, hk, hc0, hck, HS, hb⟩ := hrel
    by_cases hlt : k < m
    ·
      obtain ⟨b', o', rfl, hbs', d0⟩ := (Hc'.out.below hb) k (by rw [← Hm.out]; exact hlt)
      obtain ⟨hx0, hx1⟩ := Hx.out k (by rw [← Hm.out]; exact hlt)
      have HT := Lib.hid (HS.out.trans (swingF_step P l t k (by rw [← Hm.out]; exact hlt)))
      clear HS
      generalize nth l k = xc at *
      have hs1 : IntKind.i64.wrap (xc - P) = xc - P := IntWalk.i64_in _ (by omega)
      have hqq := sq_in (xc - P) 180 (by omega) (by omega)
      have hs2 : IntKind.i64.wrap ((xc - P) * (xc - P)) = (xc - P) * (xc - P) := IntWalk.i64_in _ (by omega)
      have hs3 : IntKind.i64.wrap (t + (xc - P) * (xc - P)) = t + (xc - P) * (xc - P) := IntWalk.i64_in _ (by omega)
      have hq0 : 0 ≤ t + (xc - P) * (xc - P) := by omega
      have hq1 : t + (xc - P) * (xc - P) ≤ 32400 * ((k + 1 : Nat) : Int) := by omega
      have HQ0 := Lib.hid hq0
      have HQ1 := Lib.hid hq1
      clear hq0 hq1 hqq
      go_wp2
      try (go_quiet (fail); go_wp2)
      exact ⟨⟨k + 1, t + (xc - P) * (xc - P), by go_num, rfl, hlt, HQ0.out, HQ1.out, HT, by first | exact hb | exact below_drewN hb _⟩, by simp [intOf]; omega⟩
    · obtain rfl : k = m := by omega
      have HR2 : Hid (swingL l = 1000 * t / (k : Int)) := Lib.hid (by rw [HR.out, HS.out, drop_end _ k k Hm.out (Nat.le_refl _)]; rfl)
      obtain ⟨hk0, hd, hw⟩ := div_factsB (t := 1000 * t) (k := k) (by omega) (by omega) hm1
      have hs1 : IntKind.i64.wrap (1000 * t) = 1000 * t := IntWalk.i64_in _ (by omega)
      clear HS
      go_wp2
      try (go_quiet (fail); go_wp2)
      go_ret
      exact Gives.int HR2.out (by first | exact hb | exact below_drewN hb _)

set_option maxHeartbeats 1000000 in
theorem l20Work_c (v : Value) (l : List Int) (w : World) (hv : IntsAt w v l) (ht : throwsB l = true) : Calls Tryz.prog 115 #[v] w (Gives (.int .i64 (workL l)) w) := by
  obtain ⟨hx, h1, h12⟩ := throwsB_nth ht
  obtain ⟨a', m, cap', rfl, hm, -, -, hc'⟩ := hv
  have Hc' := Lib.hid hc'; clear hc'
  have hm1 : 1 ≤ m := by omega
  have hm12 : m ≤ 12 := by omega
  have Hm := Lib.hid hm; clear hm h1 h12
  have Hx := Lib.hid hx; clear hx ht
  have HR := Lib.hid (show workL l = 1000 * workF l 0 / (m : Int) by unfold workL; rw [Hm.out])
  go_enter Tryz.func115, Tryz.ntmps115
  go_wp2
  go_loopw [3, 4] (fun s i wr => ∃ (k : Nat) (t : Int), i = .int .i64 k ∧ s = .int .i64 t ∧ k ≤ m ∧ 0 ≤ t ∧ t ≤ 225 * k ∧ Hid (workF l 0 = workF (l.drop k) t) ∧ Below w.heap.size w wr) (fun _ i _ => m - (intOf i).toNat)
  case atStart => exact ⟨0, 0, rfl, rfl, Nat.zero_le _, Int.le_refl _, by omega, Lib.hid rfl, Below.refl _ _⟩
  case round =>
    obtain ⟨k, t, rfl, rfl, hk, hc0, hck, HS, hb⟩ := hrel
    by_cases hlt : k < m
    ·
      obtain ⟨b', o', rfl, hbs', d0⟩ := (Hc'.out.below hb) k (by rw [← Hm.out]; exact hlt)
      obtain ⟨hx0, hx1⟩ := Hx.out k (by rw [← Hm.out]; exact hlt)
      have HT := Lib.hid (HS.out.trans (workF_step l t k (by rw [← Hm.out]; exact hlt)))
      clear HS
      generalize nth l k = xc at *
      by_cases h2 : 2 < xc
      · have HU : Hid (workF l 0 = workF (l.drop (k + 1)) (t + (xc - 1) * (xc - 1))) := Lib.hid (by rw [HT.out, if_pos h2])
        have hs1 : IntKind.i64.wrap (xc - 1) = xc - 1 := IntWalk.i64_in _ (by omega)
        have hqq := sq_in (xc - 1) 15 (by omega) (by omega)
        have hs2 : IntKind.i64.wrap ((xc - 1) * (xc - 1)) = (xc - 1) * (xc - 1) := IntWalk.i64_in _ (by omega)
        have hs3 : IntKind.i64.wrap (t + (xc - 1) * (xc - 1)) = t + (xc - 1) * (xc - 1) := IntWalk.i64_in _ (by omega)
        have hq0 : 0 ≤ t + (xc - 1) * (xc - 1) := by omega
        have hq1 : t + (xc - 1) * (xc - 1) ≤ 225 * ((k + 1 : Nat) : Int) := by omega
        have HQ0 := Lib.hid hq0
        have HQ1 := Lib.hid hq1
        clear hq0 hq1 hqq HT
        go_wp2
        try (go_quiet (fail); go_wp2)
        exact ⟨⟨k + 1, t + (xc - 1) * (xc - 1), by go_num, rfl, hlt, HQ0.out, HQ1.out, HU, by first | exact hb | exact below_drewN hb _⟩, by simp [intOf]; omega⟩
      · have HU : Hid (workF l 0 = workF (l.drop (k + 1)) t) := Lib.hid (by rw [HT.out, if_neg h2])
        clear HT
        go_wp2
        try (go_quiet (fail); go_wp2)
        exact ⟨⟨k + 1, t, by go_num, rfl, hlt, hc0, by omega, HU, by first | exact hb | exact below_drewN hb _⟩, by simp [intOf]; omega⟩
    · obtain rfl : k = m := by omega
      have HR2 : Hid (workL l = 1000 * t / (k : Int)) := Lib.hid (by rw [HR.out, HS.out, drop_end _ k k Hm.out (Nat.le_refl _)]; rfl)
      obtain ⟨hk0, hd, hw⟩ := div_factsB (t := 1000 * t) (k := k) (by omega) (by omega) hm1
      have hs1 : IntKind.i64.wrap (1000 * t) = 1000 * t := IntWalk.i64_in _ (by omega)
      clear HS
      go_wp2
      try (go_quiet (fail); go_wp2)
      go_ret
      exact Gives.int HR2.out (by first | exact hb | exact below_drewN hb _)

set_option maxHeartbeats 1000000 in
theorem l20Empty_c (v : Value) (l : List Int) (w : World) (hv : IntsAt w v l) (ht : throwsB l = true) : Calls Tryz.prog 118 #[v] w (Gives (.int .i64 (emptyL l)) w) := by
  obtain ⟨hx, h1, h12⟩ := throwsB_nth ht
  obtain ⟨a', m, cap', rfl, hm, -, -, hc'⟩ := hv
  have Hc' := Lib.hid hc'; clear hc'
  have hm1 : 1 ≤ m := by omega
  have hm12 : m ≤ 12 := by omega
  have Hm := Lib.hid hm; clear hm h1 h12
  have Hx := Lib.hid hx; clear hx ht
  have HR := Lib.hid (show emptyL l = 1000 * zeroF l 0 / (m : Int) by unfold emptyL; rw [Hm.out])
  go_enter Tryz.func118, Tryz.ntmps118
  go_wp2
  go_loopw [3, 4] (fun s i wr => ∃ (k : Nat) (t : Int), i = .int .i64 k ∧ s = .int .i64 t ∧ k ≤ m ∧ 0 ≤ t ∧ t ≤ k ∧ Hid (zeroF l 0 = zeroF (l.drop k) t) ∧ Below w.heap.size w wr) (fun _ i _ => m - (intOf i).toNat)
  case atStart => exact ⟨0, 0, rfl, rfl, Nat.zero_le _, Int.le_refl _, by omega, Lib.hid rfl, Below.refl _ _⟩
  case round =>
    obtain ⟨k, t, rfl, rfl, hk, hc0, hck, HS, hb⟩ := hrel
    by_cases hlt : k < m
    ·
      obtain ⟨b', o', rfl, hbs', d0⟩ := (Hc'.out.below hb) k (by rw [← Hm.out]; exact hlt)
      obtain ⟨hx0, hx1⟩ := Hx.out k (by rw [← Hm.out]; exact hlt)
      have HT := Lib.hid (HS.out.trans (zeroF_step l t k (by rw [← Hm.out]; exact hlt)))
      clear HS
      generalize nth l k = xc at *
      have hs1 : IntKind.i64.wrap (t + 1) = t + 1 := IntWalk.i64_in _ (by omega)
      by_cases h2 : xc = 0
      · have HU : Hid (zeroF l 0 = zeroF (l.drop (k + 1)) (t + 1)) := Lib.hid (by rw [HT.out, if_pos h2])
        subst h2
        clear HT
        go_wp2
        try (go_quiet (fail); go_wp2)
        exact ⟨⟨k + 1, t + 1, by go_num, rfl, hlt, by omega, by omega, HU, by first | exact hb | exact below_drewN hb _⟩, by simp [intOf]; omega⟩
      · have HU : Hid (zeroF l 0 = zeroF (l.drop (k + 1)) t) := Lib.hid (by rw [HT.out, if_neg h2])
        have hz : (xc == 0) = false := beq_eq_false_iff_ne.2 h2
        clear HT
        go_wp2
        try (go_quiet (fail); go_wp2)
        exact ⟨⟨k + 1, t, by go_num, rfl, hlt, hc0, by omega, HU, by first | exact hb | exact below_drewN hb _⟩, by simp [intOf]; omega⟩
    · obtain rfl : k = m := by omega
      have HR2 : Hid (emptyL l = 1000 * t / (k : Int)) := Lib.hid (by rw [HR.out, HS.out, drop_end _ k k Hm.out (Nat.le_refl _)]; rfl)
      obtain ⟨hk0, hd, hw⟩ := div_factsB (t := 1000 * t) (k := k) (by omega) (by omega) hm1
      have hs1 : IntKind.i64.wrap (1000 * t) = 1000 * t := IntWalk.i64_in _ (by omega)
      clear HS
      go_wp2
      try (go_quiet (fail); go_wp2)
      go_ret
      exact Gives.int HR2.out (by first | exact hb | exact below_drewN hb _)

set_option maxHeartbeats 1000000 in
theorem l20Range_c (v : Value) (l : List Int) (w : World) (hv : IntsAt w v l) (ht : throwsB l = true) : Calls Tryz.prog 119 #[v] w (Gives (.int .i64 (spreadL l)) w) := by
  have HQ := Lib.hid (fun W x => l02High_c v l W x ht)
  have HA := Lib.hid hv
  have hMx := maxF_in l 0 0 15 (throws_mem ht) (by omega) (by omega)
  obtain ⟨hx, h1, h12⟩ := throwsB_nth ht
  obtain ⟨a', m, cap', rfl, hm, -, -, hc'⟩ := hv
  have Hc' := Lib.hid hc'; clear hc'
  have hm1 : 1 ≤ m := by omega
  have hm12 : m ≤ 12 := by omega
  have Hm := Lib.hid hm; clear hm h1 h12
  have Hx := Lib.hid hx; clear hx ht
  have HR := Lib.hid (show spreadL l = maxF l 0 - minF l (nth l 0) from rfl)
  have HR1 : Hid (minF l (nth l 0) = minF (l.drop 1) (nth l 0)) := Lib.hid (by
    have h := minF_step l (nth l 0) 0 (by rw [← Hm.out]; omega)
    rw [List.drop_zero] at h
    rw [h]; unfold mn; split <;> rfl)
  obtain ⟨b0, o0, rfl, hbs0, d00⟩ := Hc'.out 0 (by rw [← Hm.out]; omega)
  obtain ⟨hy0, hy1⟩ := Hx.out 0 (by rw [← Hm.out]; omega)
  generalize nth l 0 = z at *
  generalize maxF l 0 = M at *
  have hm0 : 0 < m := by omega
  have d01 : w.cell? ⟨b0, o0, none⟩ = some (.int .i64 z) := by simpa using d00
  go_enter Tryz.func119, Tryz.ntmps119
  go_wp2
  go_loopw [3, 4] (fun s i wr => ∃ (k : Nat) (t : Int), i = .int .i64 k ∧ s = .int .i64 t ∧ 1 ≤ k ∧ k ≤ m ∧ 0 ≤ t ∧ t ≤ 15 ∧ Hid (minF l z = minF (l.drop k) t) ∧ Below w.heap.size w wr) (fun _ i _ => m - (intOf i).toNat)
  case atStart => exact ⟨1, z, rfl, rfl, Nat.le_refl _, hm1, hy0, hy1, HR1, by first | exact Below.refl _ _ | exact below_drewN (Below.refl _ _) _⟩
  case round =>
    obtain ⟨k, t, rfl, rfl, hk1, hk, hc0, hck, HS, hb⟩ := hrel
    by_cases hlt : k < m
    · obtain ⟨b', o', hab, hbs', d0⟩ := (Hc'.out.below hb) k (by rw [← Hm.out]; exact hlt)
      cases hab
      obtain ⟨hx0, hx1⟩ := Hx.out k (by rw [← Hm.out]; exact hlt)
      have HT := Lib.hid (HS.out.trans (minF_step l t k (by rw [← Hm.out]; exact hlt)))
      clear HS
      generalize nth l k = xc at *
      have HM := Lib.hid (fun W => l00Min_c t xc W)
      obtain ⟨M', hM⟩ : ∃ M', mn t xc = M' := ⟨_, rfl⟩
      have hM0 : 0 ≤ M' := by rw [← hM]; unfold mn; split <;> omega
      have hMB : M' ≤ 15 := by rw [← hM]; unfold mn; split <;> omega
      rw [hM] at HM HT
      clear hM
      go_wp2_with fail
      refine (HM.out _).mono ?_
      rintro e w1 ⟨rfl, hb1⟩
      go_wp2
      exact ⟨⟨k + 1, M', by go_num, rfl, by omega, hlt, hM0, hMB, HT, bthen hb hb1⟩, by simp [intOf]; omega⟩
    · obtain rfl : k = m := by omega
      have HE : Hid (spreadL l = M - t) := Lib.hid (by rw [HR.out, HS.out, drop_end _ k k Hm.out (Nat.le_refl _)]; rfl)
      have hs1 : IntKind.i64.wrap (M - t) = M - t := IntWalk.i64_in _ (by omega)
      clear HS
      go_wp2_with fail
      refine (HQ.out _ (HA.out.below hb)).mono ?_
      rintro e w1 ⟨rfl, hb1⟩
      go_wp2
      go_ret
      exact Gives.int HE.out (bthen hb hb1)

set_option maxHeartbeats 1000000 in
theorem l20Changes_c (v : Value) (l : List Int) (w : World) (hv : IntsAt w v l) (ht : throwsB l = true) : Calls Tryz.prog 117 #[v] w (Gives (.int .i64 (chgL l)) w) := by
  have HA := Lib.hid hv
  have HQ := Lib.hid (fun b W x => l02At_c v l b W x (throwsB_nth ht).2.1 (Nat.le_trans (throwsB_nth ht).2.2 (by decide)))
  obtain ⟨hx, h1, h12⟩ := throwsB_nth ht
  obtain ⟨a', m, cap', rfl, hm, -, -, hc'⟩ := hv
  have Hc' := Lib.hid hc'; clear hc'
  have hm1 : 1 ≤ m := by omega
  have hm12 : m ≤ 12 := by omega
  have Hm := Lib.hid hm; clear hm h1 h12
  have Hx := Lib.hid hx; clear hx ht
  have HR := Lib.hid (show chgL l = 1000 * (chgN l m : Int) / (m : Int) by unfold chgL; rw [Hm.out])
  have HB := Lib.hid (chgN_le l)
  go_enter Tryz.func117, Tryz.ntmps117
  go_wp2
  go_loopw [3, 4] (fun s i wr => ∃ (k t : Nat), i = .int .i64 k ∧ s = .int .i64 t ∧ k ≤ m ∧ t ≤ k ∧ Hid (t = chgN l k) ∧ Below w.heap.size w wr) (fun _ i _ => m - (intOf i).toNat)
  case atStart => exact ⟨0, 0, rfl, rfl, Nat.zero_le _, Nat.le_refl _, Lib.hid rfl, Below.refl _ _⟩
  case round =>
    obtain ⟨k, t, rfl, rfl, hk, htk, HS, hb⟩ := hrel
    by_cases hlt : k < m
    · have hw1 : IntKind.i64.wrap ((k : Int) - 1) = (k : Int) - 1 := IntWalk.i64_in _ (by omega)
      have H1 := Lib.hid (HQ.out (k : Int))
      have H2 := Lib.hid (HQ.out ((k : Int) - 1))
      have HE := Lib.hid (chgN_eq (l := l) (k := k))
      have HN := Lib.hid (chgN_ne (l := l) (k := k))
      generalize atB l (k : Int) = X at *
      generalize atB l ((k : Int) - 1) = Y at *
      by_cases hxy : X = Y
      · have HT : Hid (t = chgN l (k + 1)) := Lib.hid (by rw [HE.out hxy]; exact HS.out)
        subst hxy
        clear HE HN HS
        go_wp2_with fail
        refine (H1.out _ (HA.out.below hb)).mono ?_
        rintro e w1 ⟨rfl, hb1⟩
        go_wp2_with fail
        refine (H2.out _ ((HA.out.below hb).below hb1)).mono ?_
        rintro e w2 ⟨rfl, hb2⟩
        go_wp2
        exact ⟨⟨k + 1, t, by go_num, rfl, hlt, by omega, HT, bthen (bthen hb hb1) hb2⟩, by simp [intOf]; omega⟩
      · have HT : Hid (t + 1 = chgN l (k + 1)) := Lib.hid (by rw [HN.out hxy, HS.out])
        have hne : (X != Y) = true := by simpa using hxy
        have hw2 : IntKind.i64.wrap ((t : Int) + 1) = (t : Int) + 1 := IntWalk.i64_in _ (by omega)
        clear HE HN HS hxy
        go_wp2_with fail
        refine (H1.out _ (HA.out.below hb)).mono ?_
        rintro e w1 ⟨rfl, hb1⟩
        go_wp2_with fail
        refine (H2.out _ ((HA.out.below hb).below hb1)).mono ?_
        rintro e w2 ⟨rfl, hb2⟩
        go_wp2
        exact ⟨⟨k + 1, t + 1, by go_num, by go_num, hlt, by omega, HT, bthen (bthen hb hb1) hb2⟩, by simp [intOf]; omega⟩
    · obtain rfl : k = m := by omega
      have HR2 : Hid (chgL l = 1000 * (t : Int) / (k : Int)) := Lib.hid (by rw [HR.out, HS.out])
      obtain ⟨hk0, hd, hw⟩ := div_factsB (t := 1000 * (t : Int)) (k := k) (by omega) (by omega) hm1
      have hs1 : IntKind.i64.wrap (1000 * (t : Int)) = 1000 * (t : Int) := IntWalk.i64_in _ (by omega)
      clear HS
      go_wp2
      try (go_quiet (fail); go_wp2)
      go_ret
      exact Gives.int HR2.out (by first | exact hb | exact below_drewN hb _)

set_option maxHeartbeats 2000000 in
theorem l20Hard_c (v : Value) (l : List Int) (w : World) (hv : IntsAt w v l) (ht : throwsB l = true) : Calls Tryz.prog 58 #[v] w (Gives (.int .i64 (hardL l)) w) := by
  have H1 := Lib.hid (fun W x => l02Props_c v l W x ht)
  have H2 := Lib.hid (fun W x => l20Work_c v l W x ht)
  have H3 := Lib.hid (fun W x => l20Swing_c v l W x ht)
  have H4 := Lib.hid (fun W x => l20Changes_c v l W x ht)
  have H5 := Lib.hid (fun W x => l20Empty_c v l W x ht)
  have H6 := Lib.hid (fun W x => l20Range_c v l W x ht)
  have HA := Lib.hid hv
  clear hv
  obtain ⟨hp, hsw, hwk, hem, hch, hsp⟩ := measures_in ht
  have hpp := sq_in (propsL l) 180 (by omega) (by omega)
  have HR := Lib.hid (show hardL l = 1000 * propsL l * propsL l + 2 * workL l + swingL l + chgL l - 2 * emptyL l + 1000 * spreadL l from rfl)
  obtain ⟨Q, hQ⟩ : ∃ Q, 1000 * propsL l * propsL l = Q := ⟨_, rfl⟩
  have hQ0 : 0 ≤ Q ∧ Q ≤ 32400000 := by rw [← hQ, Int.mul_assoc]; omega
  generalize propsL l = P at *
  generalize workL l = Wk at *
  generalize swingL l = Sw at *
  generalize chgL l = Ch at *
  generalize emptyL l = Em at *
  generalize spreadL l = Sp at *
  clear hpp
  have hs1 : IntKind.i64.wrap (1000 * P) = 1000 * P := IntWalk.i64_in _ (by omega)
  have hs2 : IntKind.i64.wrap Q = Q := IntWalk.i64_in _ (by omega)
  have hs3 : IntKind.i64.wrap (2 * Wk) = 2 * Wk := IntWalk.i64_in _ (by omega)
  have hs4 : IntKind.i64.wrap (Q + 2 * Wk) = Q + 2 * Wk := IntWalk.i64_in _ (by omega)
  have hs5 : IntKind.i64.wrap (Q + 2 * Wk + Sw) = Q + 2 * Wk + Sw := IntWalk.i64_in _ (by omega)
  have hs6 : IntKind.i64.wrap (Q + 2 * Wk + Sw + Ch) = Q + 2 * Wk + Sw + Ch := IntWalk.i64_in _ (by omega)
  have hs7 : IntKind.i64.wrap (2 * Em) = 2 * Em := IntWalk.i64_in _ (by omega)
  have hs8 : IntKind.i64.wrap (Q + 2 * Wk + Sw + Ch - 2 * Em) = Q + 2 * Wk + Sw + Ch - 2 * Em := IntWalk.i64_in _ (by omega)
  have hs9 : IntKind.i64.wrap (1000 * Sp) = 1000 * Sp := IntWalk.i64_in _ (by omega)
  have hs10 : IntKind.i64.wrap (Q + 2 * Wk + Sw + Ch - 2 * Em + 1000 * Sp) = Q + 2 * Wk + Sw + Ch - 2 * Em + 1000 * Sp := IntWalk.i64_in _ (by omega)
  rw [hQ] at HR
  clear hp hsw hwk hem hch hsp hQ0
  clear ht
  go_enter Tryz.func58, Tryz.ntmps58
  go_wp2_with fail
  refine (H1.out _ HA.out).mono ?_
  rintro e w1 ⟨rfl, hb1⟩
  go_wp2_with fail
  refine (H2.out _ (HA.out.below hb1)).mono ?_
  rintro e w2 ⟨rfl, hb2'⟩
  have hb2 := bthen hb1 hb2'
  go_wp2_with fail
  refine (H3.out _ (HA.out.below hb2)).mono ?_
  rintro e w3 ⟨rfl, hb3'⟩
  have hb3 := bthen hb2 hb3'
  go_wp2_with fail
  refine (H4.out _ (HA.out.below hb3)).mono ?_
  rintro e w4 ⟨rfl, hb4'⟩
  have hb4 := bthen hb3 hb4'
  go_wp2_with fail
  refine (H5.out _ (HA.out.below hb4)).mono ?_
  rintro e w5 ⟨rfl, hb5'⟩
  have hb5 := bthen hb4 hb5'
  go_wp2_with fail
  refine (H6.out _ (HA.out.below hb5)).mono ?_
  rintro e w6 ⟨rfl, hb6'⟩
  have hb6 := bthen hb5 hb6'
  go_wp2
  go_ret
  exact Gives.int HR.out hb6
theorem okB_c {l : List Int} {b : Bool} (h : okPat l = b) : okB l = if b then 0 else 1 := by unfold okB; rw [h]
end Go.Proofs.YtclffohjpbmnbaaGreatDoor

/- Diff2: measures of patterns, by the package impl. -/
namespace Go.Proofs.YtclffohjpbmnbaaGreatDoor
open Go.ChangeShapes Go.WideShapes Go.ChangeAt Go.RowKit


theorem atB_idx (l : List Int) (k : Nat) (h : k < l.length) : atB l (k : Int) = nth l k := by
  rw [atB_nat, Nat.mod_eq_of_lt h]
set_option maxHeartbeats 1000000 in
theorem swing_c (v : Value) (l : List Int) (w : World) (hv : IntsAt w v l) (ht : throwsB l = true) : Calls Tryz.prog 111 #[v] w (Gives (.int .i64 (swingL l)) w) := by
  have hP := propsL_in ht
  have HQ := Lib.hid (fun W x => propsOf_c v l W x ht)
  have HA := Lib.hid hv
  have HPn : Hid (∀ W, IntsAt W v l → Calls Tryz.prog 79 #[v] W (Gives (.int .i64 l.length) W)) := Lib.hid (fun W x => period_c v l W x)
  obtain ⟨hx, h1, h12⟩ := throwsB_nth ht
  obtain ⟨a', m, cap', rfl, hm, -, -, hc'⟩ := hv
  have Hc' := Lib.hid hc'; clear hc'
  have hm1 : 1 ≤ m := by omega
  have hm12 : m ≤ 12 := by omega
  have Hm := Lib.hid hm; clear hm h1 h12
  have Hx := Lib.hid hx; clear hx ht
  have HR := Lib.hid (show swingL l = 1000 * swingF (propsL l) l 0 / (m : Int) by unfold swingL; rw [Hm.out])
  generalize propsL l = P at *
  go_enter Tryz.func111, Tryz.ntmps111
  go_wp2
  go_loopw [3, 8] (fun s i wr => ∃ (k : Nat) (t : Int), i = .int .i64 k ∧ s = .int .i64 t ∧ k ≤ m ∧ 0 ≤ t ∧ t ≤ 32400 * k ∧ Hid (swingF P l 0 = swingF P (l.drop k) t) ∧ Below w.heap.size w wr) (fun _ i _ => m - (intOf i).toNat)
  case atStart => exact ⟨0, 0, rfl, rfl, Nat.zero_le _, Int.le_refl _, by omega, Lib.hid rfl, Below.refl _ _⟩
  case round =>
    obtain ⟨k, t, rfl, rfl, hk, hc0, hck, HS, hb⟩ := hrel
    by_cases hlt : k < m
    ·
      obtain ⟨b', o', rfl, hbs', d0⟩ := (Hc'.out.below hb) k (by rw [← Hm.out]; exact hlt)
      obtain ⟨hx0, hx1⟩ := Hx.out k (by rw [← Hm.out]; exact hlt)
      have HT := Lib.hid (HS.out.trans (swingF_step P l t k (by rw [← Hm.out]; exact hlt)))
      clear HS
      generalize nth l k = xc at *
      have hs1 : IntKind.i64.wrap (xc - P) = xc - P := IntWalk.i64_in _ (by omega)
      have hqq := sq_in (xc - P) 180 (by omega) (by omega)
      have hs2 : IntKind.i64.wrap ((xc - P) * (xc - P)) = (xc - P) * (xc - P) := IntWalk.i64_in _ (by omega)
      have hs3 : IntKind.i64.wrap (t + (xc - P) * (xc - P)) = t + (xc - P) * (xc - P) := IntWalk.i64_in _ (by omega)
      have hq0 : 0 ≤ t + (xc - P) * (xc - P) := by omega
      have hq1 : t + (xc - P) * (xc - P) ≤ 32400 * ((k + 1 : Nat) : Int) := by omega
      have HQ0 := Lib.hid hq0
      have HQ1 := Lib.hid hq1
      clear hq0 hq1 hqq
      go_wp2_with fail
      refine (HQ.out _ (HA.out.below hb)).mono ?_
      rintro e w1 ⟨rfl, hb1⟩
      go_wp2_with fail
      refine (HQ.out _ ((HA.out.below hb).below hb1)).mono ?_
      rintro e w2 ⟨rfl, hb2⟩
      go_wp2
      exact ⟨⟨k + 1, t + (xc - P) * (xc - P), by go_num, rfl, hlt, HQ0.out, HQ1.out, HT, bthen (bthen hb hb1) hb2⟩, by simp [intOf]; omega⟩
    · obtain rfl : k = m := by omega
      have HR2 : Hid (swingL l = 1000 * t / (k : Int)) := Lib.hid (by rw [HR.out, HS.out, drop_end _ k k Hm.out (Nat.le_refl _)]; rfl)
      obtain ⟨hk0, hd, hw⟩ := div_factsB (t := 1000 * t) (k := k) (by omega) (by omega) hm1
      have hs1 : IntKind.i64.wrap (1000 * t) = 1000 * t := IntWalk.i64_in _ (by omega)
      have hpn := HPn.out wr (HA.out.below hb)
      rw [← Hm.out] at hpn
      clear HS
      go_wp2_with fail
      refine hpn.mono ?_
      rintro e w9 ⟨rfl, hb9⟩
      clear hpn
      go_wp2
      go_ret
      exact Gives.int HR2.out (bthen hb hb9)

set_option maxHeartbeats 1000000 in
theorem work_c (v : Value) (l : List Int) (w : World) (hv : IntsAt w v l) (ht : throwsB l = true) : Calls Tryz.prog 110 #[v] w (Gives (.int .i64 (workL l)) w) := by
  have HA := Lib.hid hv
  have HPn : Hid (∀ W, IntsAt W v l → Calls Tryz.prog 79 #[v] W (Gives (.int .i64 l.length) W)) := Lib.hid (fun W x => period_c v l W x)
  obtain ⟨hx, h1, h12⟩ := throwsB_nth ht
  obtain ⟨a', m, cap', rfl, hm, -, -, hc'⟩ := hv
  have Hc' := Lib.hid hc'; clear hc'
  have hm1 : 1 ≤ m := by omega
  have hm12 : m ≤ 12 := by omega
  have Hm := Lib.hid hm; clear hm h1 h12
  have Hx := Lib.hid hx; clear hx ht
  have HR := Lib.hid (show workL l = 1000 * workF l 0 / (m : Int) by unfold workL; rw [Hm.out])
  go_enter Tryz.func110, Tryz.ntmps110
  go_wp2
  go_loopw [3, 8] (fun s i wr => ∃ (k : Nat) (t : Int), i = .int .i64 k ∧ s = .int .i64 t ∧ k ≤ m ∧ 0 ≤ t ∧ t ≤ 225 * k ∧ Hid (workF l 0 = workF (l.drop k) t) ∧ Below w.heap.size w wr) (fun _ i _ => m - (intOf i).toNat)
  case atStart => exact ⟨0, 0, rfl, rfl, Nat.zero_le _, Int.le_refl _, by omega, Lib.hid rfl, Below.refl _ _⟩
  case round =>
    obtain ⟨k, t, rfl, rfl, hk, hc0, hck, HS, hb⟩ := hrel
    by_cases hlt : k < m
    ·
      obtain ⟨b', o', rfl, hbs', d0⟩ := (Hc'.out.below hb) k (by rw [← Hm.out]; exact hlt)
      obtain ⟨hx0, hx1⟩ := Hx.out k (by rw [← Hm.out]; exact hlt)
      have HT := Lib.hid (HS.out.trans (workF_step l t k (by rw [← Hm.out]; exact hlt)))
      clear HS
      generalize nth l k = xc at *
      by_cases h2 : 2 < xc
      · have HU : Hid (workF l 0 = workF (l.drop (k + 1)) (t + (xc - 1) * (xc - 1))) := Lib.hid (by rw [HT.out, if_pos h2])
        have hs1 : IntKind.i64.wrap (xc - 1) = xc - 1 := IntWalk.i64_in _ (by omega)
        have hqq := sq_in (xc - 1) 15 (by omega) (by omega)
        have hs2 : IntKind.i64.wrap ((xc - 1) * (xc - 1)) = (xc - 1) * (xc - 1) := IntWalk.i64_in _ (by omega)
        have hs3 : IntKind.i64.wrap (t + (xc - 1) * (xc - 1)) = t + (xc - 1) * (xc - 1) := IntWalk.i64_in _ (by omega)
        have hq0 : 0 ≤ t + (xc - 1) * (xc - 1) := by omega
        have hq1 : t + (xc - 1) * (xc - 1) ≤ 225 * ((k + 1 : Nat) : Int) := by omega
        have HQ0 := Lib.hid hq0
        have HQ1 := Lib.hid hq1
        clear hq0 hq1 hqq HT
        go_wp2
        try (go_quiet (fail); go_wp2)
        exact ⟨⟨k + 1, t + (xc - 1) * (xc - 1), by go_num, rfl, hlt, HQ0.out, HQ1.out, HU, by first | exact hb | exact below_drewN hb _⟩, by simp [intOf]; omega⟩
      · have HU : Hid (workF l 0 = workF (l.drop (k + 1)) t) := Lib.hid (by rw [HT.out, if_neg h2])
        clear HT
        go_wp2
        try (go_quiet (fail); go_wp2)
        exact ⟨⟨k + 1, t, by go_num, rfl, hlt, hc0, by omega, HU, by first | exact hb | exact below_drewN hb _⟩, by simp [intOf]; omega⟩
    · obtain rfl : k = m := by omega
      have HR2 : Hid (workL l = 1000 * t / (k : Int)) := Lib.hid (by rw [HR.out, HS.out, drop_end _ k k Hm.out (Nat.le_refl _)]; rfl)
      obtain ⟨hk0, hd, hw⟩ := div_factsB (t := 1000 * t) (k := k) (by omega) (by omega) hm1
      have hs1 : IntKind.i64.wrap (1000 * t) = 1000 * t := IntWalk.i64_in _ (by omega)
      have hpn := HPn.out wr (HA.out.below hb)
      rw [← Hm.out] at hpn
      clear HS
      go_wp2_with fail
      refine hpn.mono ?_
      rintro e w9 ⟨rfl, hb9⟩
      clear hpn
      go_wp2
      go_ret
      exact Gives.int HR2.out (bthen hb hb9)

set_option maxHeartbeats 1000000 in
theorem empty_c (v : Value) (l : List Int) (w : World) (hv : IntsAt w v l) (ht : throwsB l = true) : Calls Tryz.prog 113 #[v] w (Gives (.int .i64 (emptyL l)) w) := by
  have HA := Lib.hid hv
  have HPn : Hid (∀ W, IntsAt W v l → Calls Tryz.prog 79 #[v] W (Gives (.int .i64 l.length) W)) := Lib.hid (fun W x => period_c v l W x)
  obtain ⟨hx, h1, h12⟩ := throwsB_nth ht
  obtain ⟨a', m, cap', rfl, hm, -, -, hc'⟩ := hv
  have Hc' := Lib.hid hc'; clear hc'
  have hm1 : 1 ≤ m := by omega
  have hm12 : m ≤ 12 := by omega
  have Hm := Lib.hid hm; clear hm h1 h12
  have Hx := Lib.hid hx; clear hx ht
  have HR := Lib.hid (show emptyL l = 1000 * zeroF l 0 / (m : Int) by unfold emptyL; rw [Hm.out])
  go_enter Tryz.func113, Tryz.ntmps113
  go_wp2
  go_loopw [3, 8] (fun s i wr => ∃ (k : Nat) (t : Int), i = .int .i64 k ∧ s = .int .i64 t ∧ k ≤ m ∧ 0 ≤ t ∧ t ≤ k ∧ Hid (zeroF l 0 = zeroF (l.drop k) t) ∧ Below w.heap.size w wr) (fun _ i _ => m - (intOf i).toNat)
  case atStart => exact ⟨0, 0, rfl, rfl, Nat.zero_le _, Int.le_refl _, by omega, Lib.hid rfl, Below.refl _ _⟩
  case round =>
    obtain ⟨k, t, rfl, rfl, hk, hc0, hck, HS, hb⟩ := hrel
    by_cases hlt : k < m
    ·
      obtain ⟨b', o', rfl, hbs', d0⟩ := (Hc'.out.below hb) k (by rw [← Hm.out]; exact hlt)
      obtain ⟨hx0, hx1⟩ := Hx.out k (by rw [← Hm.out]; exact hlt)
      have HT := Lib.hid (HS.out.trans (zeroF_step l t k (by rw [← Hm.out]; exact hlt)))
      clear HS
      generalize nth l k = xc at *
      have hs1 : IntKind.i64.wrap (t + 1) = t + 1 := IntWalk.i64_in _ (by omega)
      by_cases h2 : xc = 0
      · have HU : Hid (zeroF l 0 = zeroF (l.drop (k + 1)) (t + 1)) := Lib.hid (by rw [HT.out, if_pos h2])
        subst h2
        clear HT
        go_wp2
        try (go_quiet (fail); go_wp2)
        exact ⟨⟨k + 1, t + 1, by go_num, rfl, hlt, by omega, by omega, HU, by first | exact hb | exact below_drewN hb _⟩, by simp [intOf]; omega⟩
      · have HU : Hid (zeroF l 0 = zeroF (l.drop (k + 1)) t) := Lib.hid (by rw [HT.out, if_neg h2])
        have hz : (xc == 0) = false := beq_eq_false_iff_ne.2 h2
        clear HT
        go_wp2
        try (go_quiet (fail); go_wp2)
        exact ⟨⟨k + 1, t, by go_num, rfl, hlt, hc0, by omega, HU, by first | exact hb | exact below_drewN hb _⟩, by simp [intOf]; omega⟩
    · obtain rfl : k = m := by omega
      have HR2 : Hid (emptyL l = 1000 * t / (k : Int)) := Lib.hid (by rw [HR.out, HS.out, drop_end _ k k Hm.out (Nat.le_refl _)]; rfl)
      obtain ⟨hk0, hd, hw⟩ := div_factsB (t := 1000 * t) (k := k) (by omega) (by omega) hm1
      have hs1 : IntKind.i64.wrap (1000 * t) = 1000 * t := IntWalk.i64_in _ (by omega)
      have hpn := HPn.out wr (HA.out.below hb)
      rw [← Hm.out] at hpn
      clear HS
      go_wp2_with fail
      refine hpn.mono ?_
      rintro e w9 ⟨rfl, hb9⟩
      clear hpn
      go_wp2
      go_ret
      exact Gives.int HR2.out (bthen hb hb9)

set_option maxHeartbeats 1000000 in
theorem changes_c (v : Value) (l : List Int) (w : World) (hv : IntsAt w v l) (ht : throwsB l = true) : Calls Tryz.prog 112 #[v] w (Gives (.int .i64 (chgL l)) w) := by
  have HQ := Lib.hid (fun b W x => throwAt_c v l b W x (throwsB_nth ht).2.1 (Nat.le_trans (throwsB_nth ht).2.2 (by decide)))
  have HA := Lib.hid hv
  have HPn : Hid (∀ W, IntsAt W v l → Calls Tryz.prog 79 #[v] W (Gives (.int .i64 l.length) W)) := Lib.hid (fun W x => period_c v l W x)
  obtain ⟨hx, h1, h12⟩ := throwsB_nth ht
  obtain ⟨a', m, cap', rfl, hm, -, -, hc'⟩ := hv
  have Hc' := Lib.hid hc'; clear hc'
  have hm1 : 1 ≤ m := by omega
  have hm12 : m ≤ 12 := by omega
  have Hm := Lib.hid hm; clear hm h1 h12
  have Hx := Lib.hid hx; clear hx ht
  have HR := Lib.hid (show chgL l = 1000 * (chgN l m : Int) / (m : Int) by unfold chgL; rw [Hm.out])
  have HB := Lib.hid (chgN_le l)
  go_enter Tryz.func112, Tryz.ntmps112
  go_wp2
  go_loopw [3, 8] (fun s i wr => ∃ (k t : Nat), i = .int .i64 k ∧ s = .int .i64 t ∧ k ≤ m ∧ t ≤ k ∧ Hid (t = chgN l k) ∧ Below w.heap.size w wr) (fun _ i _ => m - (intOf i).toNat)
  case atStart => exact ⟨0, 0, rfl, rfl, Nat.zero_le _, Nat.le_refl _, Lib.hid rfl, Below.refl _ _⟩
  case round =>
    obtain ⟨k, t, rfl, rfl, hk, htk, HS, hb⟩ := hrel
    by_cases hlt : k < m
    · have hw1 : IntKind.i64.wrap ((k : Int) - 1) = (k : Int) - 1 := IntWalk.i64_in _ (by omega)
      obtain ⟨b', o', rfl, hbs', d0⟩ := (Hc'.out.below hb) k (by rw [← Hm.out]; exact hlt)
      obtain ⟨hx0, hx1⟩ := Hx.out k (by rw [← Hm.out]; exact hlt)
      have H2 := Lib.hid (HQ.out ((k : Int) - 1))
      have HE := Lib.hid (chgN_eq (l := l) (k := k))
      have HN := Lib.hid (chgN_ne (l := l) (k := k))
      rw [atB_idx l k (by rw [← Hm.out]; exact hlt)] at HE HN
      generalize nth l k = X at *
      generalize atB l ((k : Int) - 1) = Y at *
      by_cases hxy : X = Y
      · have HT : Hid (t = chgN l (k + 1)) := Lib.hid (by rw [HE.out hxy]; exact HS.out)
        subst hxy
        clear HE HN HS
        go_wp2_with fail
        refine (H2.out _ (HA.out.below hb)).mono ?_
        rintro e w2 ⟨rfl, hb2⟩
        go_wp2
        exact ⟨⟨k + 1, t, by go_num, rfl, hlt, by omega, HT, bthen hb hb2⟩, by simp [intOf]; omega⟩
      · have HT : Hid (t + 1 = chgN l (k + 1)) := Lib.hid (by rw [HN.out hxy, HS.out])
        have hne : (X != Y) = true := by simpa using hxy
        have hw2 : IntKind.i64.wrap ((t : Int) + 1) = (t : Int) + 1 := IntWalk.i64_in _ (by omega)
        clear HE HN HS hxy
        go_wp2_with fail
        refine (H2.out _ (HA.out.below hb)).mono ?_
        rintro e w2 ⟨rfl, hb2⟩
        go_wp2
        exact ⟨⟨k + 1, t + 1, by go_num, by go_num, hlt, by omega, HT, bthen hb hb2⟩, by simp [intOf]; omega⟩
    · obtain rfl : k = m := by omega
      have HR2 : Hid (chgL l = 1000 * (t : Int) / (k : Int)) := Lib.hid (by rw [HR.out, HS.out])
      obtain ⟨hk0, hd, hw⟩ := div_factsB (t := 1000 * (t : Int)) (k := k) (by omega) (by omega) hm1
      have hs1 : IntKind.i64.wrap (1000 * (t : Int)) = 1000 * (t : Int) := IntWalk.i64_in _ (by omega)
      have hpn := HPn.out wr (HA.out.below hb)
      rw [← Hm.out] at hpn
      clear HS
      go_wp2_with fail
      refine hpn.mono ?_
      rintro e w9 ⟨rfl, hb9⟩
      clear hpn
      go_wp2
      go_ret
      exact Gives.int HR2.out (bthen hb hb9)

set_option maxHeartbeats 1000000 in
theorem spread_c (v : Value) (l : List Int) (w : World) (hv : IntsAt w v l) (ht : throwsB l = true) : Calls Tryz.prog 114 #[v] w (Gives (.int .i64 (spreadL l)) w) := by
  have HQ := Lib.hid (fun W x => highest_c v l W x ht)
  have HA := Lib.hid hv
  have hMx := maxF_in l 0 0 15 (throws_mem ht) (by omega) (by omega)
  obtain ⟨hx, h1, h12⟩ := throwsB_nth ht
  obtain ⟨a', m, cap', rfl, hm, -, -, hc'⟩ := hv
  have Hc' := Lib.hid hc'; clear hc'
  have hm1 : 1 ≤ m := by omega
  have hm12 : m ≤ 12 := by omega
  have Hm := Lib.hid hm; clear hm h1 h12
  have Hx := Lib.hid hx; clear hx ht
  have HR := Lib.hid (show spreadL l = maxF l 0 - minF l (nth l 0) from rfl)
  obtain ⟨b0, o0, rfl, hbs0, d00⟩ := Hc'.out 0 (by rw [← Hm.out]; omega)
  obtain ⟨hy0, hy1⟩ := Hx.out 0 (by rw [← Hm.out]; omega)
  generalize nth l 0 = z at *
  generalize maxF l 0 = M at *
  have hm0 : 0 < m := by omega
  have d01 : w.cell? ⟨b0, o0, none⟩ = some (.int .i64 z) := by simpa using d00
  go_enter Tryz.func114, Tryz.ntmps114
  go_wp2
  go_loopw [3, 11] (fun s i wr => ∃ (k : Nat) (t : Int), i = .int .i64 k ∧ s = .int .i64 t ∧ k ≤ m ∧ 0 ≤ t ∧ t ≤ 15 ∧ Hid (minF l z = minF (l.drop k) t) ∧ Below w.heap.size w wr) (fun _ i _ => m - (intOf i).toNat)
  case atStart => exact ⟨0, z, rfl, rfl, Nat.zero_le _, hy0, hy1, Lib.hid rfl, by first | exact Below.refl _ _ | exact below_drewN (Below.refl _ _) _⟩
  case round =>
    obtain ⟨k, t, rfl, rfl, hk, hc0, hck, HS, hb⟩ := hrel
    by_cases hlt : k < m
    · obtain ⟨b', o', hab, hbs', d0⟩ := (Hc'.out.below hb) k (by rw [← Hm.out]; exact hlt)
      cases hab
      obtain ⟨hx0, hx1⟩ := Hx.out k (by rw [← Hm.out]; exact hlt)
      have HT := Lib.hid (HS.out.trans (minF_step l t k (by rw [← Hm.out]; exact hlt)))
      clear HS
      generalize nth l k = xc at *
      by_cases hmn : xc < t
      · have HU : Hid (minF l z = minF (l.drop (k + 1)) xc) := Lib.hid (by rw [HT.out]; unfold mn; rw [if_pos hmn])
        go_wp2
        exact ⟨⟨k + 1, xc, by go_num, rfl, hlt, by omega, by omega, HU, hb⟩, by simp [intOf]; omega⟩
      · have HU : Hid (minF l z = minF (l.drop (k + 1)) t) := Lib.hid (by rw [HT.out]; unfold mn; rw [if_neg hmn])
        by_cases hmn2 : t < xc
        · go_wp2
          exact ⟨⟨k + 1, t, by go_num, rfl, hlt, by omega, by omega, HU, hb⟩, by simp [intOf]; omega⟩
        · obtain rfl : t = xc := by omega
          go_wp2
          exact ⟨⟨k + 1, t, by go_num, rfl, hlt, by omega, by omega, HU, hb⟩, by simp [intOf]; omega⟩
    · obtain rfl : k = m := by omega
      have HE : Hid (spreadL l = M - t) := Lib.hid (by rw [HR.out, HS.out, drop_end _ k k Hm.out (Nat.le_refl _)]; rfl)
      have hs1 : IntKind.i64.wrap (M - t) = M - t := IntWalk.i64_in _ (by omega)
      clear HS
      go_wp2_with fail
      refine (HQ.out _ (HA.out.below hb)).mono ?_
      rintro e w1 ⟨rfl, hb1⟩
      go_wp2
      go_ret
      exact Gives.int HE.out (bthen hb hb1)

set_option maxHeartbeats 2000000 in
theorem difficulty_c (v : Value) (l : List Int) (w : World) (hv : IntsAt w v l) (ht : throwsB l = true) : Calls Tryz.prog 56 #[v] w (Gives (.int .i64 (hardL l)) w) := by
  have H1 := Lib.hid (fun W x => propsOf_c v l W x ht)
  have H2 := Lib.hid (fun W x => work_c v l W x ht)
  have H3 := Lib.hid (fun W x => swing_c v l W x ht)
  have H4 := Lib.hid (fun W x => changes_c v l W x ht)
  have H5 := Lib.hid (fun W x => empty_c v l W x ht)
  have H6 := Lib.hid (fun W x => spread_c v l W x ht)
  have HA := Lib.hid hv
  clear hv
  obtain ⟨hp, hsw, hwk, hem, hch, hsp⟩ := measures_in ht
  have hpp := sq_in (propsL l) 180 (by omega) (by omega)
  have HR := Lib.hid (show hardL l = 1000 * propsL l * propsL l + 2 * workL l + swingL l + chgL l - 2 * emptyL l + 1000 * spreadL l from rfl)
  obtain ⟨Q, hQ⟩ : ∃ Q, 1000 * propsL l * propsL l = Q := ⟨_, rfl⟩
  have hQ0 : 0 ≤ Q ∧ Q ≤ 32400000 := by rw [← hQ, Int.mul_assoc]; omega
  generalize propsL l = P at *
  generalize workL l = Wk at *
  generalize swingL l = Sw at *
  generalize chgL l = Ch at *
  generalize emptyL l = Em at *
  generalize spreadL l = Sp at *
  clear hpp
  have hs1 : IntKind.i64.wrap (1000 * P) = 1000 * P := IntWalk.i64_in _ (by omega)
  have hs2 : IntKind.i64.wrap Q = Q := IntWalk.i64_in _ (by omega)
  have hs3 : IntKind.i64.wrap (2 * Wk) = 2 * Wk := IntWalk.i64_in _ (by omega)
  have hs4 : IntKind.i64.wrap (Q + 2 * Wk) = Q + 2 * Wk := IntWalk.i64_in _ (by omega)
  have hs5 : IntKind.i64.wrap (Q + 2 * Wk + Sw) = Q + 2 * Wk + Sw := IntWalk.i64_in _ (by omega)
  have hs6 : IntKind.i64.wrap (Q + 2 * Wk + Sw + Ch) = Q + 2 * Wk + Sw + Ch := IntWalk.i64_in _ (by omega)
  have hs7 : IntKind.i64.wrap (2 * Em) = 2 * Em := IntWalk.i64_in _ (by omega)
  have hs8 : IntKind.i64.wrap (Q + 2 * Wk + Sw + Ch - 2 * Em) = Q + 2 * Wk + Sw + Ch - 2 * Em := IntWalk.i64_in _ (by omega)
  have hs9 : IntKind.i64.wrap (1000 * Sp) = 1000 * Sp := IntWalk.i64_in _ (by omega)
  have hs10 : IntKind.i64.wrap (Q + 2 * Wk + Sw + Ch - 2 * Em + 1000 * Sp) = Q + 2 * Wk + Sw + Ch - 2 * Em + 1000 * Sp := IntWalk.i64_in _ (by omega)
  rw [hQ] at HR
  clear hp hsw hwk hem hch hsp hQ0
  clear ht
  go_enter Tryz.func56, Tryz.ntmps56
  go_wp2_with fail
  refine (H1.out _ HA.out).mono ?_
  rintro e w0 ⟨rfl, hb0⟩
  go_wp2_with fail
  refine (H1.out _ (HA.out.below hb0)).mono ?_
  rintro e w1 ⟨rfl, hb1'⟩
  have hb1 := bthen hb0 hb1'
  go_wp2_with fail
  refine (H2.out _ (HA.out.below hb1)).mono ?_
  rintro e w2 ⟨rfl, hb2'⟩
  have hb2 := bthen hb1 hb2'
  go_wp2_with fail
  refine (H3.out _ (HA.out.below hb2)).mono ?_
  rintro e w3 ⟨rfl, hb3'⟩
  have hb3 := bthen hb2 hb3'
  go_wp2_with fail
  refine (H4.out _ (HA.out.below hb3)).mono ?_
  rintro e w4 ⟨rfl, hb4'⟩
  have hb4 := bthen hb3 hb4'
  go_wp2_with fail
  refine (H5.out _ (HA.out.below hb4)).mono ?_
  rintro e w5 ⟨rfl, hb5'⟩
  have hb5 := bthen hb4 hb5'
  go_wp2_with fail
  refine (H6.out _ (HA.out.below hb5)).mono ?_
  rintro e w6 ⟨rfl, hb6'⟩
  have hb6 := bthen hb5 hb6'
  go_wp2
  go_ret
  exact Gives.int HR.out hb6
end Go.Proofs.YtclffohjpbmnbaaGreatDoor

/- Strs: slices of texts: what the walks say of them; whether two are the same. -/
namespace Go.Proofs.YtclffohjpbmnbaaGreatDoor
open Go.ChangeShapes Go.WideShapes Go.ChangeAt Go.RowKit

instance : Inhabited ByteArray := ⟨ByteArray.empty⟩
def StrsC (w : World) (a : Option Addr) (l : List ByteArray) : Prop :=
  ∀ i, i < l.length → ∃ b o, a = some ⟨b, o, none⟩ ∧ b < w.heap.size ∧ w.cell? ⟨b, o + i, none⟩ = some (.string (nth l i))
def StrsAt (w : World) (v : Value) (l : List ByteArray) : Prop := ∃ a n cap, v = .slice a n cap ∧ n = l.length ∧ n ≤ cap ∧ cap ≤ 9223372036854775807 ∧ StrsC w a l
theorem StrsC.below {w w' : World} {a : Option Addr} {l : List ByteArray} (h : StrsC w a l) (hb : Below w.heap.size w w') : StrsC w' a l := by
  intro i hi
  obtain ⟨b, o, ha, hs, c0⟩ := h i hi
  exact ⟨b, o, ha, Nat.lt_of_lt_of_le hs hb.size, (hb.cell (p := ⟨b, _, none⟩) hs).trans c0⟩
theorem StrsAt.below {w w' : World} {v : Value} {l : List ByteArray} (h : StrsAt w v l) (hb : Below w.heap.size w w') : StrsAt w' v l := by
  obtain ⟨a, n, cap, rfl, h1, h2, h3, hc⟩ := h
  exact ⟨a, n, cap, rfl, h1, h2, h3, hc.below hb⟩
def OwnStrs (w : World) (base : Nat) (v : Value) (l : List ByteArray) : Prop := w.ownsRow base 9 1 v l.length (l.map Value.string)
theorem OwnStrs.at {w : World} {base : Nat} {v : Value} {l : List ByteArray} (h : OwnStrs w base v l) : StrsAt w v l := by
  have ho : w.ownsRow base 9 1 v l.length (l.map Value.string) := h
  have hlt := ho.lt
  rcases ho.2 with ⟨rfl, h0⟩ | ⟨g, cap, cur, rfl, hb, hg, hnc, hcm, hcs, htake⟩
  · exact ⟨none, 0, 0, rfl, h0.symm, Nat.le_refl _, by decide, fun i hi => by omega⟩
  · refine ⟨_, _, _, rfl, rfl, hnc, hcm, fun i hi => ⟨g, 0, rfl, (hlt g rfl).2, ?_⟩⟩
    have := ho.cellAt i (by omega)
    rw [Nat.zero_add, this, List.getElem?_map, nth_get? l i hi]; rfl
theorem strInfo : (Tryz.prog.info? 9).map (fun i => (i.zero, i.size, i.bytes)) = some (some (.string ByteArray.empty), 1, 16) := by kernel_rfl
theorem strs_one (l : List ByteArray) : ∀ u ∈ l.map Value.string, u.oneCell' = true := by
  intro u hu
  obtain ⟨x, _, rfl⟩ := List.mem_map.1 hu
  rfl
theorem reads_strs {w : World} {a : Option Addr} {l : List ByteArray} (h : StrsC w a l) : Reads w w.heap.size 1 a l.length (l.map Value.string) := by
  refine ⟨by simp, fun hn => ?_⟩
  obtain ⟨b, o, rfl, hb, _⟩ := h 0 hn
  refine ⟨_, rfl, hb, fun j u hu => ?_⟩
  have hj : j < l.length := by
    have := (List.getElem?_eq_some_iff.1 hu).1
    simpa using this
  obtain ⟨b', o', hab, _, hc⟩ := h j hj
  cases hab
  rw [List.getElem?_map, nth_get? l j hj] at hu
  have e : (⟨b, o, none⟩ : Addr).add j = ⟨b, o + j, none⟩ := by unfold Addr.add; split <;> simp_all
  rw [e, hc]; exact hu
/-- 'append(out, s)', 'append(out, ss...)' at texts. -/
theorem wpList_app_strs {w : World} {ops : Array Oper} {rest : List Oper} {o : Oper} {a : Act} {Q : Exit → Act → World → Prop} (hgd : o.guard = none) (s x : Operand)
    (ho : o.op = .call { callee := .builtin .append, args := #[s, x], argTypes := #[88, 88] })
    (base : Nat) (v : Value) (l : List ByteArray) (hs : a.eval s = v) (hown : OwnStrs w base v l)
    (A : Option Addr) (m c : Nat) (t : List ByteArray) (hx : a.eval x = .slice A m c) (hm : m = t.length) (hr : StrsC w A t)
    (hsz : l.length + t.length ≤ 1073741824) (hbase : base ≤ w.heap.size)
    (h : ∀ a' n' c' w', OwnStrs w' base (.slice a' n' c') (l ++ t) → w.grownBy w' v.ownBlock → ((Value.slice a' n' c').ownBlock = v.ownBlock ∨ (Value.slice a' n' c').ownBlock = some w.heap.size) → n' = l.length + t.length → wpList Tryz.prog ops Q rest (a.put o.dst (.slice a' n' c')) w') : wpList Tryz.prog ops Q (o :: rest) a w := by
  obtain ⟨i0, h1, h2, h3, h4⟩ := info_parts strInfo
  refine wpList_append_any w hgd s x 88 ho base 9 i0 _ 1 16 Tryz.underlying88 h1 h2 h3 h4 rfl (by decide) v l.length _ hs hown w.heap.size A m c (t.map Value.string) hx (by rw [hm]; exact reads_strs hr) (strs_one t) (by rw [hm]; unfold maxLen; omega) (by rw [hm]; omega) hbase ?_
  intro v' w' hown' hg hb
  obtain ⟨a', c', rfl⟩ := slice_of_own hown'
  exact h a' _ c' w' (by unfold OwnStrs; rw [List.map_append, List.length_append]; rw [hm] at hown'; rw [hm]; exact hown') hg hb (by rw [hm])
theorem strs_new (w : World) (x : ByteArray) (t : TypeId) : StrsC (w.alloc (.cells #[.string x] t)) (some ⟨w.heap.size, 0, none⟩) [x] := by
  intro i hi
  obtain rfl : i = 0 := by simpa using hi
  exact ⟨w.heap.size, 0, rfl, by simp, by rw [World.cell?_alloc_at _ _ _ _ rfl]; rfl⟩
theorem own_strs_empty (w : World) : OwnStrs (w.alloc (.cells #[] 9)) w.heap.size (.slice (some ⟨w.heap.size, 0, none⟩) 0 0) [] :=
  World.ownsRow_lit w #[] 0 (Nat.le_refl _) (by decide) rfl
def eqStrB (a b : ByteArray) : Bool := decide (a = b)
theorem eqStrB_iff (a b : ByteArray) : eqStrB a b = true ↔ a = b := by simp [eqStrB]
end Go.Proofs.YtclffohjpbmnbaaGreatDoor
