import Derived.Test.YtpfjmbgkbildjaaMg17
import Derived.Test.YtpfjmbgkbildjaaMg5
import Derived.Test.YtpfjmbgkbildjaaMg16
import Derived.Test.YtpfjmbgkbildjaaMg7
/- Diff1: measures of patterns, by the reference. -/
namespace Go.Proofs.Ytpfjmbgkbildjaa
open Go.ChangeShapes Go.WideShapes Go.ChangeAt Go.RowKit

set_option maxHeartbeats 1000000 in
theorem l20Swing_c (v : Value) (l : List Int) (w : World) (hv : IntsAt w v l) (ht : throwsB l = true) : Calls Try.prog 44 #[v] w (Gives (.int .i64 (swingL l)) w) := by
  have hP := propsL_in ht
  have HQ := Lib.hid (l02Props_c v l w hv ht)
  obtain ⟨hx, h1, h12⟩ := throwsB_nth ht
  obtain ⟨a', m, cap', rfl, hm, -, -, hc'⟩ := hv
  have Hc' := Lib.hid hc'; clear hc'
  have hm1 : 1 ≤ m := by omega
  have hm12 : m ≤ 12 := by omega
  have Hm := Lib.hid hm; clear hm h1 h12
  have Hx := Lib.hid hx; clear hx ht
  have HR := Lib.hid (show swingL l = 1000 * swingF (propsL l) l 0 / (m : Int) by unfold swingL; rw [Hm.out])
  generalize propsL l = P at *
  go_enter Try.func44, Try.ntmps44
  go_wp2_with fail
  refine HQ.out.mono ?_
  rintro e w1 ⟨rfl, hb1⟩
  go_wp2
  go_loopw [4, 5] (fun s i wr => ∃ (k : Nat) (t : Int), i = .int .i64 k ∧ s = .int .i64 t ∧ k ≤ m ∧ 0 ≤ t ∧ t ≤ 32400 * k ∧ Hid (swingF P l 0 = swingF P (l.drop k) t) ∧ Below w.heap.size w wr) (fun _ i _ => m - (intOf i).toNat)
  case atStart => exact ⟨0, 0, rfl, rfl, Nat.zero_le _, Int.le_refl _, by omega, Lib.hid rfl, hb1⟩
  case round =>
    obtain ⟨k, t, rfl, rfl, hk, hc0, hck, HS, hb⟩ := hrel
    by_cases hlt : k < m
    ·
      obtain ⟨b', o', rfl, hbs', d0⟩ := (Hc'.out.below hb) k (by rw [← Hm.out]; exact hlt)
      obtain ⟨hx0, hx1⟩ := Hx.out k (by rw [← Hm.out]; exact hlt)
      have HT := Lib.hid (HS.out.trans (swingF_step P l t k (by rw [← Hm.out]; exact hlt)))
      clear HS
      generalize nth l k = xc at *
      have hs1 : IntKind.i64.wrap (xc - P) = xc - P := IntWalk.i64_in _ (by omega)
      have hqq := sq_in (xc - P) 180 (by omega) (by omega)
      have hs2 : IntKind.i64.wrap ((xc - P) * (xc - P)) = (xc - P) * (xc - P) := IntWalk.i64_in _ (by omega)
      have hs3 : IntKind.i64.wrap (t + (xc - P) * (xc - P)) = t + (xc - P) * (xc - P) := IntWalk.i64_in _ (by omega)
      have hq0 : 0 ≤ t + (xc - P) * (xc - P) := by omega
      have hq1 : t + (xc - P) * (xc - P) ≤ 32400 * ((k + 1 : Nat) : Int) := by omega
      have HQ0 := Lib.hid hq0
      have HQ1 := Lib.hid hq1
      clear hq0 hq1 hqq
      go_wp2
      try (go_quiet (fail); go_wp2)
      exact ⟨⟨k + 1, t + (xc - P) * (xc - P), by go_num, rfl, hlt, HQ0.out, HQ1.out, HT, by first | exact hb | exact below_drewN hb _⟩, by simp [intOf]; omega⟩
    · obtain rfl : k = m := by omega
      have HR2 : Hid (swingL l = 1000 * t / (k : Int)) := Lib.hid (by rw [HR.out, HS.out, drop_end _ k k Hm.out (Nat.le_refl _)]; rfl)
      obtain ⟨hk0, hd, hw⟩ := div_factsB (t := 1000 * t) (k := k) (by omega) (by omega) hm1
      have hs1 : IntKind.i64.wrap (1000 * t) = 1000 * t := IntWalk.i64_in _ (by omega)
      clear HS
      go_wp2
      try (go_quiet (fail); go_wp2)
      go_ret
      exact Gives.int HR2.out (by first | exact hb | exact below_drewN hb _)

set_option maxHeartbeats 1000000 in
theorem l20Work_c (v : Value) (l : List Int) (w : World) (hv : IntsAt w v l) (ht : throwsB l = true) : Calls Try.prog 48 #[v] w (Gives (.int .i64 (workL l)) w) := by
  obtain ⟨hx, h1, h12⟩ := throwsB_nth ht
  obtain ⟨a', m, cap', rfl, hm, -, -, hc'⟩ := hv
  have Hc' := Lib.hid hc'; clear hc'
  have hm1 : 1 ≤ m := by omega
  have hm12 : m ≤ 12 := by omega
  have Hm := Lib.hid hm; clear hm h1 h12
  have Hx := Lib.hid hx; clear hx ht
  have HR := Lib.hid (show workL l = 1000 * workF l 0 / (m : Int) by unfold workL; rw [Hm.out])
  go_enter Try.func48, Try.ntmps48
  go_wp2
  go_loopw [3, 4] (fun s i wr => ∃ (k : Nat) (t : Int), i = .int .i64 k ∧ s = .int .i64 t ∧ k ≤ m ∧ 0 ≤ t ∧ t ≤ 225 * k ∧ Hid (workF l 0 = workF (l.drop k) t) ∧ Below w.heap.size w wr) (fun _ i _ => m - (intOf i).toNat)
  case atStart => exact ⟨0, 0, rfl, rfl, Nat.zero_le _, Int.le_refl _, by omega, Lib.hid rfl, Below.refl _ _⟩
  case round =>
    obtain ⟨k, t, rfl, rfl, hk, hc0, hck, HS, hb⟩ := hrel
    by_cases hlt : k < m
    ·
      obtain ⟨b', o', rfl, hbs', d0⟩ := (Hc'.out.below hb) k (by rw [← Hm.out]; exact hlt)
      obtain ⟨hx0, hx1⟩ := Hx.out k (by rw [← Hm.out]; exact hlt)
      have HT := Lib.hid (HS.out.trans (workF_step l t k (by rw [← Hm.out]; exact hlt)))
      clear HS
      generalize nth l k = xc at *
      by_cases h2 : 2 < xc
      · have HU : Hid (workF l 0 = workF (l.drop (k + 1)) (t + (xc - 1) * (xc - 1))) := Lib.hid (by rw [HT.out, if_pos h2])
        have hs1 : IntKind.i64.wrap (xc - 1) = xc - 1 := IntWalk.i64_in _ (by omega)
        have hqq := sq_in (xc - 1) 15 (by omega) (by omega)
        have hs2 : IntKind.i64.wrap ((xc - 1) * (xc - 1)) = (xc - 1) * (xc - 1) := IntWalk.i64_in _ (by omega)
        have hs3 : IntKind.i64.wrap (t + (xc - 1) * (xc - 1)) = t + (xc - 1) * (xc - 1) := IntWalk.i64_in _ (by omega)
        have hq0 : 0 ≤ t + (xc - 1) * (xc - 1) := by omega
        have hq1 : t + (xc - 1) * (xc - 1) ≤ 225 * ((k + 1 : Nat) : Int) := by omega
        have HQ0 := Lib.hid hq0
        have HQ1 := Lib.hid hq1
        clear hq0 hq1 hqq HT
        go_wp2
        try (go_quiet (fail); go_wp2)
        exact ⟨⟨k + 1, t + (xc - 1) * (xc - 1), by go_num, rfl, hlt, HQ0.out, HQ1.out, HU, by first | exact hb | exact below_drewN hb _⟩, by simp [intOf]; omega⟩
      · have HU : Hid (workF l 0 = workF (l.drop (k + 1)) t) := Lib.hid (by rw [HT.out, if_neg h2])
        clear HT
        go_wp2
        try (go_quiet (fail); go_wp2)
        exact ⟨⟨k + 1, t, by go_num, rfl, hlt, hc0, by omega, HU, by first | exact hb | exact below_drewN hb _⟩, by simp [intOf]; omega⟩
    · obtain rfl : k = m := by omega
      have HR2 : Hid (workL l = 1000 * t / (k : Int)) := Lib.hid (by rw [HR.out, HS.out, drop_end _ k k Hm.out (Nat.le_refl _)]; rfl)
      obtain ⟨hk0, hd, hw⟩ := div_factsB (t := 1000 * t) (k := k) (by omega) (by omega) hm1
      have hs1 : IntKind.i64.wrap (1000 * t) = 1000 * t := IntWalk.i64_in _ (by omega)
      clear HS
      go_wp2
      try (go_quiet (fail); go_wp2)
      go_ret
      exact Gives.int HR2.out (by first | exact hb | exact below_drewN hb _)

set_option maxHeartbeats 1000000 in
theorem l20Empty_c (v : Value) (l : List Int) (w : World) (hv : IntsAt w v l) (ht : throwsB l = true) : Calls Try.prog 52 #[v] w (Gives (.int .i64 (emptyL l)) w) := by
  obtain ⟨hx, h1, h12⟩ := throwsB_nth ht
  obtain ⟨a', m, cap', rfl, hm, -, -, hc'⟩ := hv
  have Hc' := Lib.hid hc'; clear hc'
  have hm1 : 1 ≤ m := by omega
  have hm12 : m ≤ 12 := by omega
  have Hm := Lib.hid hm; clear hm h1 h12
  have Hx := Lib.hid hx; clear hx ht
  have HR := Lib.hid (show emptyL l = 1000 * zeroF l 0 / (m : Int) by unfold emptyL; rw [Hm.out])
  go_enter Try.func52, Try.ntmps52
  go_wp2
  go_loopw [3, 4] (fun s i wr => ∃ (k : Nat) (t : Int), i = .int .i64 k ∧ s = .int .i64 t ∧ k ≤ m ∧ 0 ≤ t ∧ t ≤ k ∧ Hid (zeroF l 0 = zeroF (l.drop k) t) ∧ Below w.heap.size w wr) (fun _ i _ => m - (intOf i).toNat)
  case atStart => exact ⟨0, 0, rfl, rfl, Nat.zero_le _, Int.le_refl _, by omega, Lib.hid rfl, Below.refl _ _⟩
  case round =>
    obtain ⟨k, t, rfl, rfl, hk, hc0, hck, HS, hb⟩ := hrel
    by_cases hlt : k < m
    ·
      obtain ⟨b', o', rfl, hbs', d0⟩ := (Hc'.out.below hb) k (by rw [← Hm.out]; exact hlt)
      obtain ⟨hx0, hx1⟩ := Hx.out k (by rw [← Hm.out]; exact hlt)
      have HT := Lib.hid (HS.out.trans (zeroF_step l t k (by rw [← Hm.out]; exact hlt)))
      clear HS
      generalize nth l k = xc at *
      have hs1 : IntKind.i64.wrap (t + 1) = t + 1 := IntWalk.i64_in _ (by omega)
      by_cases h2 : xc = 0
      · have HU : Hid (zeroF l 0 = zeroF (l.drop (k + 1)) (t + 1)) := Lib.hid (by rw [HT.out, if_pos h2])
        subst h2
        clear HT
        go_wp2
        try (go_quiet (fail); go_wp2)
        exact ⟨⟨k + 1, t + 1, by go_num, rfl, hlt, by omega, by omega, HU, by first | exact hb | exact below_drewN hb _⟩, by simp [intOf]; omega⟩
      · have HU : Hid (zeroF l 0 = zeroF (l.drop (k + 1)) t) := Lib.hid (by rw [HT.out, if_neg h2])
        have hz : (xc == 0) = false := beq_eq_false_iff_ne.2 h2
        clear HT
        go_wp2
        try (go_quiet (fail); go_wp2)
        exact ⟨⟨k + 1, t, by go_num, rfl, hlt, hc0, by omega, HU, by first | exact hb | exact below_drewN hb _⟩, by simp [intOf]; omega⟩
    · obtain rfl : k = m := by omega
      have HR2 : Hid (emptyL l = 1000 * t / (k : Int)) := Lib.hid (by rw [HR.out, HS.out, drop_end _ k k Hm.out (Nat.le_refl _)]; rfl)
      obtain ⟨hk0, hd, hw⟩ := div_factsB (t := 1000 * t) (k := k) (by omega) (by omega) hm1
      have hs1 : IntKind.i64.wrap (1000 * t) = 1000 * t := IntWalk.i64_in _ (by omega)
      clear HS
      go_wp2
      try (go_quiet (fail); go_wp2)
      go_ret
      exact Gives.int HR2.out (by first | exact hb | exact below_drewN hb _)

set_option maxHeartbeats 1000000 in
theorem l20Range_c (v : Value) (l : List Int) (w : World) (hv : IntsAt w v l) (ht : throwsB l = true) : Calls Try.prog 50 #[v] w (Gives (.int .i64 (spreadL l)) w) := by
  have HQ := Lib.hid (fun W x => l02High_c v l W x ht)
  have HA := Lib.hid hv
  have hMx := maxF_in l 0 0 15 (throws_mem ht) (by omega) (by omega)
  obtain ⟨hx, h1, h12⟩ := throwsB_nth ht
  obtain ⟨a', m, cap', rfl, hm, -, -, hc'⟩ := hv
  have Hc' := Lib.hid hc'; clear hc'
  have hm1 : 1 ≤ m := by omega
  have hm12 : m ≤ 12 := by omega
  have Hm := Lib.hid hm; clear hm h1 h12
  have Hx := Lib.hid hx; clear hx ht
  have HR := Lib.hid (show spreadL l = maxF l 0 - minF l (nth l 0) from rfl)
  have HR1 : Hid (minF l (nth l 0) = minF (l.drop 1) (nth l 0)) := Lib.hid (by
    have h := minF_step l (nth l 0) 0 (by rw [← Hm.out]; omega)
    rw [List.drop_zero] at h
    rw [h]; unfold mn; split <;> rfl)
  obtain ⟨b0, o0, rfl, hbs0, d00⟩ := Hc'.out 0 (by rw [← Hm.out]; omega)
  obtain ⟨hy0, hy1⟩ := Hx.out 0 (by rw [← Hm.out]; omega)
  generalize nth l 0 = z at *
  generalize maxF l 0 = M at *
  have hm0 : 0 < m := by omega
  have d01 : w.cell? ⟨b0, o0, none⟩ = some (.int .i64 z) := by simpa using d00
  go_enter Try.func50, Try.ntmps50
  go_wp2
  go_loopw [3, 4] (fun s i wr => ∃ (k : Nat) (t : Int), i = .int .i64 k ∧ s = .int .i64 t ∧ 1 ≤ k ∧ k ≤ m ∧ 0 ≤ t ∧ t ≤ 15 ∧ Hid (minF l z = minF (l.drop k) t) ∧ Below w.heap.size w wr) (fun _ i _ => m - (intOf i).toNat)
  case atStart => exact ⟨1, z, rfl, rfl, Nat.le_refl _, hm1, hy0, hy1, HR1, by first | exact Below.refl _ _ | exact below_drewN (Below.refl _ _) _⟩
  case round =>
    obtain ⟨k, t, rfl, rfl, hk1, hk, hc0, hck, HS, hb⟩ := hrel
    by_cases hlt : k < m
    · obtain ⟨b', o', hab, hbs', d0⟩ := (Hc'.out.below hb) k (by rw [← Hm.out]; exact hlt)
      cases hab
      obtain ⟨hx0, hx1⟩ := Hx.out k (by rw [← Hm.out]; exact hlt)
      have HT := Lib.hid (HS.out.trans (minF_step l t k (by rw [← Hm.out]; exact hlt)))
      clear HS
      generalize nth l k = xc at *
      have HM := Lib.hid (fun W => l00Min_c t xc W)
      obtain ⟨M', hM⟩ : ∃ M', mn t xc = M' := ⟨_, rfl⟩
      have hM0 : 0 ≤ M' := by rw [← hM]; unfold mn; split <;> omega
      have hMB : M' ≤ 15 := by rw [← hM]; unfold mn; split <;> omega
      rw [hM] at HM HT
      clear hM
      go_wp2_with fail
      refine (HM.out _).mono ?_
      rintro e w1 ⟨rfl, hb1⟩
      go_wp2
      exact ⟨⟨k + 1, M', by go_num, rfl, by omega, hlt, hM0, hMB, HT, bthen hb hb1⟩, by simp [intOf]; omega⟩
    · obtain rfl : k = m := by omega
      have HE : Hid (spreadL l = M - t) := Lib.hid (by rw [HR.out, HS.out, drop_end _ k k Hm.out (Nat.le_refl _)]; rfl)
      have hs1 : IntKind.i64.wrap (M - t) = M - t := IntWalk.i64_in _ (by omega)
      clear HS
      go_wp2_with fail
      refine (HQ.out _ (HA.out.below hb)).mono ?_
      rintro e w1 ⟨rfl, hb1⟩
      go_wp2
      go_ret
      exact Gives.int HE.out (bthen hb hb1)

set_option maxHeartbeats 1000000 in
theorem l20Changes_c (v : Value) (l : List Int) (w : World) (hv : IntsAt w v l) (ht : throwsB l = true) : Calls Try.prog 46 #[v] w (Gives (.int .i64 (chgL l)) w) := by
  have HA := Lib.hid hv
  have HQ := Lib.hid (fun b W x => l02At_c v l b W x (throwsB_nth ht).2.1 (Nat.le_trans (throwsB_nth ht).2.2 (by decide)))
  obtain ⟨hx, h1, h12⟩ := throwsB_nth ht
  obtain ⟨a', m, cap', rfl, hm, -, -, hc'⟩ := hv
  have Hc' := Lib.hid hc'; clear hc'
  have hm1 : 1 ≤ m := by omega
  have hm12 : m ≤ 12 := by omega
  have Hm := Lib.hid hm; clear hm h1 h12
  have Hx := Lib.hid hx; clear hx ht
  have HR := Lib.hid (show chgL l = 1000 * (chgN l m : Int) / (m : Int) by unfold chgL; rw [Hm.out])
  have HB := Lib.hid (chgN_le l)
  go_enter Try.func46, Try.ntmps46
  go_wp2
  go_loopw [3, 4] (fun s i wr => ∃ (k t : Nat), i = .int .i64 k ∧ s = .int .i64 t ∧ k ≤ m ∧ t ≤ k ∧ Hid (t = chgN l k) ∧ Below w.heap.size w wr) (fun _ i _ => m - (intOf i).toNat)
  case atStart => exact ⟨0, 0, rfl, rfl, Nat.zero_le _, Nat.le_refl _, Lib.hid rfl, Below.refl _ _⟩
  case round =>
    obtain ⟨k, t, rfl, rfl, hk, htk, HS, hb⟩ := hrel
    by_cases hlt : k < m
    · have hw1 : IntKind.i64.wrap ((k : Int) - 1) = (k : Int) - 1 := IntWalk.i64_in _ (by omega)
      have H1 := Lib.hid (HQ.out (k : Int))
      have H2 := Lib.hid (HQ.out ((k : Int) - 1))
      have HE := Lib.hid (chgN_eq (l := l) (k := k))
      have HN := Lib.hid (chgN_ne (l := l) (k := k))
      generalize atB l (k : Int) = X at *
      generalize atB l ((k : Int) - 1) = Y at *
      by_cases hxy : X = Y
      · have HT : Hid (t = chgN l (k + 1)) := Lib.hid (by rw [HE.out hxy]; exact HS.out)
        subst hxy
        clear HE HN HS
        go_wp2_with fail
        refine (H1.out _ (HA.out.below hb)).mono ?_
        rintro e w1 ⟨rfl, hb1⟩
        go_wp2_with fail
        refine (H2.out _ ((HA.out.below hb).below hb1)).mono ?_
        rintro e w2 ⟨rfl, hb2⟩
        go_wp2
        exact ⟨⟨k + 1, t, by go_num, rfl, hlt, by omega, HT, bthen (bthen hb hb1) hb2⟩, by simp [intOf]; omega⟩
      · have HT : Hid (t + 1 = chgN l (k + 1)) := Lib.hid (by rw [HN.out hxy, HS.out])
        have hne : (X != Y) = true := by simpa using hxy
        have hw2 : IntKind.i64.wrap ((t : Int) + 1) = (t : Int) + 1 := IntWalk.i64_in _ (by omega)
        clear HE HN HS hxy
        go_wp2_with fail
        refine (H1.out _ (HA.out.below hb)).mono ?_
        rintro e w1 ⟨rfl, hb1⟩
        go_wp2_with fail
        refine (H2.out _ ((HA.out.below hb).below hb1)).mono ?_
        rintro e w2 ⟨rfl, hb2⟩
        go_wp2
        exact ⟨⟨k + 1, t + 1, by go_num, by go_num, hlt, by omega, HT, bthen (bthen hb hb1) hb2⟩, by simp [intOf]; omega⟩
    · obtain rfl : k = m := by omega
      have HR2 : Hid (chgL l = 1000 * (t : Int) / (k : Int)) := Lib.hid (by rw [HR.out, HS.out])
      obtain ⟨hk0, hd, hw⟩ := div_factsB (t := 1000 * (t : Int)) (k := k) (by omega) (by omega) hm1
      have hs1 : IntKind.i64.wrap (1000 * (t : Int)) = 1000 * (t : Int) := IntWalk.i64_in _ (by omega)
      clear HS
      go_wp2
      try (go_quiet (fail); go_wp2)
      go_ret
      exact Gives.int HR2.out (by first | exact hb | exact below_drewN hb _)

set_option maxHeartbeats 2000000 in
theorem l20Hard_c (v : Value) (l : List Int) (w : World) (hv : IntsAt w v l) (ht : throwsB l = true) : Calls Try.prog 42 #[v] w (Gives (.int .i64 (hardL l)) w) := by
  have H1 := Lib.hid (fun W x => l02Props_c v l W x ht)
  have H2 := Lib.hid (fun W x => l20Work_c v l W x ht)
  have H3 := Lib.hid (fun W x => l20Swing_c v l W x ht)
  have H4 := Lib.hid (fun W x => l20Changes_c v l W x ht)
  have H5 := Lib.hid (fun W x => l20Empty_c v l W x ht)
  have H6 := Lib.hid (fun W x => l20Range_c v l W x ht)
  have HA := Lib.hid hv
  clear hv
  obtain ⟨hp, hsw, hwk, hem, hch, hsp⟩ := measures_in ht
  have hpp := sq_in (propsL l) 180 (by omega) (by omega)
  have HR := Lib.hid (show hardL l = 1000 * propsL l * propsL l + 2 * workL l + swingL l + chgL l - 2 * emptyL l + 1000 * spreadL l from rfl)
  obtain ⟨Q, hQ⟩ : ∃ Q, 1000 * propsL l * propsL l = Q := ⟨_, rfl⟩
  have hQ0 : 0 ≤ Q ∧ Q ≤ 32400000 := by rw [← hQ, Int.mul_assoc]; omega
  generalize propsL l = P at *
  generalize workL l = Wk at *
  generalize swingL l = Sw at *
  generalize chgL l = Ch at *
  generalize emptyL l = Em at *
  generalize spreadL l = Sp at *
  clear hpp
  have hs1 : IntKind.i64.wrap (1000 * P) = 1000 * P := IntWalk.i64_in _ (by omega)
  have hs2 : IntKind.i64.wrap Q = Q := IntWalk.i64_in _ (by omega)
  have hs3 : IntKind.i64.wrap (2 * Wk) = 2 * Wk := IntWalk.i64_in _ (by omega)
  have hs4 : IntKind.i64.wrap (Q + 2 * Wk) = Q + 2 * Wk := IntWalk.i64_in _ (by omega)
  have hs5 : IntKind.i64.wrap (Q + 2 * Wk + Sw) = Q + 2 * Wk + Sw := IntWalk.i64_in _ (by omega)
  have hs6 : IntKind.i64.wrap (Q + 2 * Wk + Sw + Ch) = Q + 2 * Wk + Sw + Ch := IntWalk.i64_in _ (by omega)
  have hs7 : IntKind.i64.wrap (2 * Em) = 2 * Em := IntWalk.i64_in _ (by omega)
  have hs8 : IntKind.i64.wrap (Q + 2 * Wk + Sw + Ch - 2 * Em) = Q + 2 * Wk + Sw + Ch - 2 * Em := IntWalk.i64_in _ (by omega)
  have hs9 : IntKind.i64.wrap (1000 * Sp) = 1000 * Sp := IntWalk.i64_in _ (by omega)
  have hs10 : IntKind.i64.wrap (Q + 2 * Wk + Sw + Ch - 2 * Em + 1000 * Sp) = Q + 2 * Wk + Sw + Ch - 2 * Em + 1000 * Sp := IntWalk.i64_in _ (by omega)
  rw [hQ] at HR
  clear hp hsw hwk hem hch hsp hQ0
  clear ht
  go_enter Try.func42, Try.ntmps42
  go_wp2_with fail
  refine (H1.out _ HA.out).mono ?_
  rintro e w1 ⟨rfl, hb1⟩
  go_wp2_with fail
  refine (H2.out _ (HA.out.below hb1)).mono ?_
  rintro e w2 ⟨rfl, hb2'⟩
  have hb2 := bthen hb1 hb2'
  go_wp2_with fail
  refine (H3.out _ (HA.out.below hb2)).mono ?_
  rintro e w3 ⟨rfl, hb3'⟩
  have hb3 := bthen hb2 hb3'
  go_wp2_with fail
  refine (H4.out _ (HA.out.below hb3)).mono ?_
  rintro e w4 ⟨rfl, hb4'⟩
  have hb4 := bthen hb3 hb4'
  go_wp2_with fail
  refine (H5.out _ (HA.out.below hb4)).mono ?_
  rintro e w5 ⟨rfl, hb5'⟩
  have hb5 := bthen hb4 hb5'
  go_wp2_with fail
  refine (H6.out _ (HA.out.below hb5)).mono ?_
  rintro e w6 ⟨rfl, hb6'⟩
  have hb6 := bthen hb5 hb6'
  go_wp2
  go_ret
  exact Gives.int HR.out hb6
theorem okB_c {l : List Int} {b : Bool} (h : okPat l = b) : okB l = if b then 0 else 1 := by unfold okB; rw [h]
theorem sDifficultyOf_c (v : Value) (l : List Int) (w : World) (hv : IntsAt w v l) : Calls Try.prog 8 #[v] w (Gives (.tuple #[.int .i64 (hardA l), .int .i64 (okB l)]) w) := by
  have hq := l02Ok_c v l w hv
  cases hE : okPat l
  · rw [hE] at hq
    have HA : Hid (hardA l = 0) := Lib.hid (by unfold hardA; rw [hE]; rfl)
    have HB : Hid (okB l = 1) := Lib.hid (okB_c hE)
    clear hE hv
    go_enter Try.func8, Try.ntmps8
    go_wp2_with fail
    refine hq.mono ?_
    rintro e w1 ⟨rfl, hb1⟩
    go_wp2
    go_ret2
    exact Gives.ii HA.out HB.out hb1
  · rw [hE] at hq
    have HQ := Lib.hid (fun W x => l20Hard_c v l W x (okPat_throws hE))
    have HA : Hid (hardA l = hardL l) := Lib.hid (by unfold hardA; rw [hE]; rfl)
    have HB : Hid (okB l = 0) := Lib.hid (okB_c hE)
    have HV := Lib.hid hv
    clear hE hv
    go_enter Try.func8, Try.ntmps8
    go_wp2_with fail
    refine hq.mono ?_
    rintro e w1 ⟨rfl, hb1⟩
    clear hq
    go_wp2_with fail
    refine (HQ.out _ (HV.out.below hb1)).mono ?_
    rintro e w2 ⟨rfl, hb2⟩
    go_wp2
    go_ret2
    exact Gives.ii HA.out HB.out (bthen hb1 hb2)
set_option maxHeartbeats 1000000 in
theorem sGradeOf_c (v : Value) (l : List Int) (w : World) (hv : IntsAt w v l) : Calls Try.prog 20 #[v] w (Gives (.tuple #[.int .i64 (gradeA l), .int .i64 (okB l)]) w) := by
  have hq := l02Ok_c v l w hv
  cases hE : okPat l
  · rw [hE] at hq
    have HA : Hid (gradeA l = 0) := Lib.hid (by unfold gradeA; rw [hE]; rfl)
    have HB : Hid (okB l = 1) := Lib.hid (okB_c hE)
    clear hE hv
    go_enter Try.func20, Try.ntmps20
    go_wp2_with fail
    refine hq.mono ?_
    rintro e w1 ⟨rfl, hb1⟩
    go_wp2
    go_ret2
    exact Gives.ii HA.out HB.out hb1
  · rw [hE] at hq
    have HQ := Lib.hid (fun W x => l20Hard_c v l W x (okPat_throws hE))
    have HA : Hid (gradeA l = gradeF (hardL l) 9 1 10000) := Lib.hid (by unfold gradeA; rw [hE]; rfl)
    have HB : Hid (okB l = 0) := Lib.hid (okB_c hE)
    have HV := Lib.hid hv
    have hbd := hardL_in (okPat_throws hE)
    generalize hardL l = d at *
    clear hE hv
    go_enter Try.func20, Try.ntmps20
    go_wp2_with fail
    refine hq.mono ?_
    rintro e w1 ⟨rfl, hb1⟩
    clear hq
    go_wp2
    go_loopw [4, 5] (fun g k wr => ∃ (f : Nat) (G lim : Int), g = .int .i64 G ∧ k = .int .i64 lim ∧ Hid (G = 10 - (f : Int)) ∧ 1 ≤ G ∧ G ≤ 10 ∧ 0 ≤ lim ∧ lim ≤ 100000 * G ∧ Hid (gradeA l = gradeF d f G lim) ∧ Below w.heap.size w wr) (fun g _ _ => 20 - (intOf g).toNat)
    case atStart => exact ⟨9, 1, 10000, rfl, rfl, Lib.hid rfl, by omega, by omega, by omega, by omega, HA, hb1⟩
    case round =>
      obtain ⟨f, G, lim, rfl, rfl, HG, hG1, hG10, hl0, hl1, HS, hb⟩ := hrel
      by_cases hd : d ≤ lim
      · have HE : Hid (gradeA l = G) := Lib.hid (by rw [HS.out, gradeF_low _ _ _ _ hd])
        have hd2 : ¬ lim < d := by omega
        clear HS HA
        go_wp2_with fail
        refine (HQ.out _ (HV.out.below hb)).mono ?_
        rintro e w2 ⟨rfl, hb2⟩
        go_wp2
        go_ret2
        exact Gives.ii HE.out HB.out (bthen hb hb2)
      · by_cases hg : G < 10
        · obtain ⟨f', rfl⟩ : ∃ f', f = f' + 1 := ⟨f - 1, by have := HG.out; omega⟩
          have HE : Hid (gradeA l = gradeF d f' (G + 1) (lim + (10000 + 2000 * (G + 1)))) := Lib.hid (by rw [HS.out, gradeF_high _ _ _ _ hd])
          have hd2 : lim < d := by omega
          have hs1 : IntKind.i64.wrap (G + 1) = G + 1 := IntWalk.i64_in _ (by omega)
          have hs2 : IntKind.i64.wrap (2000 * (G + 1)) = 2000 * (G + 1) := IntWalk.i64_in _ (by omega)
          have hs3 : IntKind.i64.wrap (10000 + 2000 * (G + 1)) = 10000 + 2000 * (G + 1) := IntWalk.i64_in _ (by omega)
          have hs4 : IntKind.i64.wrap (lim + (10000 + 2000 * (G + 1))) = lim + (10000 + 2000 * (G + 1)) := IntWalk.i64_in _ (by omega)
          clear HS HA
          go_wp2_with fail
          refine (HQ.out _ (HV.out.below hb)).mono ?_
          rintro e w2 ⟨rfl, hb2⟩
          go_wp2
          exact ⟨⟨f', G + 1, _, rfl, rfl, Lib.hid (by have := HG.out; omega), by omega, by omega, by omega, by omega, HE, bthen hb hb2⟩, by simp [intOf]; omega⟩
        · have hf : f = 0 := by have := HG.out; omega
          have HE : Hid (gradeA l = G) := Lib.hid (by rw [HS.out, hf]; rfl)
          have hd2 : lim < d := by omega
          clear HS HA
          go_wp2_with fail
          refine (HQ.out _ (HV.out.below hb)).mono ?_
          rintro e w2 ⟨rfl, hb2⟩
          go_wp2
          go_ret2
          exact Gives.ii HE.out HB.out (bthen hb hb2)
end Go.Proofs.Ytpfjmbgkbildjaa

/- Diff2: measures of patterns, by the package impl. -/
namespace Go.Proofs.Ytpfjmbgkbildjaa
open Go.ChangeShapes Go.WideShapes Go.ChangeAt Go.RowKit


theorem atB_idx (l : List Int) (k : Nat) (h : k < l.length) : atB l (k : Int) = nth l k := by
  rw [atB_nat, Nat.mod_eq_of_lt h]
set_option maxHeartbeats 1000000 in
theorem swing_c (v : Value) (l : List Int) (w : World) (hv : IntsAt w v l) (ht : throwsB l = true) : Calls Try.prog 43 #[v] w (Gives (.int .i64 (swingL l)) w) := by
  have hP := propsL_in ht
  have HQ := Lib.hid (fun W x => propsOf_c v l W x ht)
  have HA := Lib.hid hv
  have HPn : Hid (∀ W, IntsAt W v l → Calls Try.prog 64 #[v] W (Gives (.int .i64 l.length) W)) := Lib.hid (fun W x => period_c v l W x)
  obtain ⟨hx, h1, h12⟩ := throwsB_nth ht
  obtain ⟨a', m, cap', rfl, hm, -, -, hc'⟩ := hv
  have Hc' := Lib.hid hc'; clear hc'
  have hm1 : 1 ≤ m := by omega
  have hm12 : m ≤ 12 := by omega
  have Hm := Lib.hid hm; clear hm h1 h12
  have Hx := Lib.hid hx; clear hx ht
  have HR := Lib.hid (show swingL l = 1000 * swingF (propsL l) l 0 / (m : Int) by unfold swingL; rw [Hm.out])
  generalize propsL l = P at *
  go_enter Try.func43, Try.ntmps43
  go_wp2
  go_loopw [3, 8] (fun s i wr => ∃ (k : Nat) (t : Int), i = .int .i64 k ∧ s = .int .i64 t ∧ k ≤ m ∧ 0 ≤ t ∧ t ≤ 32400 * k ∧ Hid (swingF P l 0 = swingF P (l.drop k) t) ∧ Below w.heap.size w wr) (fun _ i _ => m - (intOf i).toNat)
  case atStart => exact ⟨0, 0, rfl, rfl, Nat.zero_le _, Int.le_refl _, by omega, Lib.hid rfl, Below.refl _ _⟩
  case round =>
    obtain ⟨k, t, rfl, rfl, hk, hc0, hck, HS, hb⟩ := hrel
    by_cases hlt : k < m
    ·
      obtain ⟨b', o', rfl, hbs', d0⟩ := (Hc'.out.below hb) k (by rw [← Hm.out]; exact hlt)
      obtain ⟨hx0, hx1⟩ := Hx.out k (by rw [← Hm.out]; exact hlt)
      have HT := Lib.hid (HS.out.trans (swingF_step P l t k (by rw [← Hm.out]; exact hlt)))
      clear HS
      generalize nth l k = xc at *
      have hs1 : IntKind.i64.wrap (xc - P) = xc - P := IntWalk.i64_in _ (by omega)
      have hqq := sq_in (xc - P) 180 (by omega) (by omega)
      have hs2 : IntKind.i64.wrap ((xc - P) * (xc - P)) = (xc - P) * (xc - P) := IntWalk.i64_in _ (by omega)
      have hs3 : IntKind.i64.wrap (t + (xc - P) * (xc - P)) = t + (xc - P) * (xc - P) := IntWalk.i64_in _ (by omega)
      have hq0 : 0 ≤ t + (xc - P) * (xc - P) := by omega
      have hq1 : t + (xc - P) * (xc - P) ≤ 32400 * ((k + 1 : Nat) : Int) := by omega
      have HQ0 := Lib.hid hq0
      have HQ1 := Lib.hid hq1
      clear hq0 hq1 hqq
      go_wp2_with fail
      refine (HQ.out _ (HA.out.below hb)).mono ?_
      rintro e w1 ⟨rfl, hb1⟩
      go_wp2_with fail
      refine (HQ.out _ ((HA.out.below hb).below hb1)).mono ?_
      rintro e w2 ⟨rfl, hb2⟩
      go_wp2
      exact ⟨⟨k + 1, t + (xc - P) * (xc - P), by go_num, rfl, hlt, HQ0.out, HQ1.out, HT, bthen (bthen hb hb1) hb2⟩, by simp [intOf]; omega⟩
    · obtain rfl : k = m := by omega
      have HR2 : Hid (swingL l = 1000 * t / (k : Int)) := Lib.hid (by rw [HR.out, HS.out, drop_end _ k k Hm.out (Nat.le_refl _)]; rfl)
      obtain ⟨hk0, hd, hw⟩ := div_factsB (t := 1000 * t) (k := k) (by omega) (by omega) hm1
      have hs1 : IntKind.i64.wrap (1000 * t) = 1000 * t := IntWalk.i64_in _ (by omega)
      have hpn := HPn.out wr (HA.out.below hb)
      rw [← Hm.out] at hpn
      clear HS
      go_wp2_with fail
      refine hpn.mono ?_
      rintro e w9 ⟨rfl, hb9⟩
      clear hpn
      go_wp2
      go_ret
      exact Gives.int HR2.out (bthen hb hb9)

set_option maxHeartbeats 1000000 in
theorem work_c (v : Value) (l : List Int) (w : World) (hv : IntsAt w v l) (ht : throwsB l = true) : Calls Try.prog 47 #[v] w (Gives (.int .i64 (workL l)) w) := by
  have HA := Lib.hid hv
  have HPn : Hid (∀ W, IntsAt W v l → Calls Try.prog 64 #[v] W (Gives (.int .i64 l.length) W)) := Lib.hid (fun W x => period_c v l W x)
  obtain ⟨hx, h1, h12⟩ := throwsB_nth ht
  obtain ⟨a', m, cap', rfl, hm, -, -, hc'⟩ := hv
  have Hc' := Lib.hid hc'; clear hc'
  have hm1 : 1 ≤ m := by omega
  have hm12 : m ≤ 12 := by omega
  have Hm := Lib.hid hm; clear hm h1 h12
  have Hx := Lib.hid hx; clear hx ht
  have HR := Lib.hid (show workL l = 1000 * workF l 0 / (m : Int) by unfold workL; rw [Hm.out])
  go_enter Try.func47, Try.ntmps47
  go_wp2
  go_loopw [3, 8] (fun s i wr => ∃ (k : Nat) (t : Int), i = .int .i64 k ∧ s = .int .i64 t ∧ k ≤ m ∧ 0 ≤ t ∧ t ≤ 225 * k ∧ Hid (workF l 0 = workF (l.drop k) t) ∧ Below w.heap.size w wr) (fun _ i _ => m - (intOf i).toNat)
  case atStart => exact ⟨0, 0, rfl, rfl, Nat.zero_le _, Int.le_refl _, by omega, Lib.hid rfl, Below.refl _ _⟩
  case round =>
    obtain ⟨k, t, rfl, rfl, hk, hc0, hck, HS, hb⟩ := hrel
    by_cases hlt : k < m
    ·
      obtain ⟨b', o', rfl, hbs', d0⟩ := (Hc'.out.below hb) k (by rw [← Hm.out]; exact hlt)
      obtain ⟨hx0, hx1⟩ := Hx.out k (by rw [← Hm.out]; exact hlt)
      have HT := Lib.hid (HS.out.trans (workF_step l t k (by rw [← Hm.out]; exact hlt)))
      clear HS
      generalize nth l k = xc at *
      by_cases h2 : 2 < xc
      · have HU : Hid (workF l 0 = workF (l.drop (k + 1)) (t + (xc - 1) * (xc - 1))) := Lib.hid (by rw [HT.out, if_pos h2])
        have hs1 : IntKind.i64.wrap (xc - 1) = xc - 1 := IntWalk.i64_in _ (by omega)
        have hqq := sq_in (xc - 1) 15 (by omega) (by omega)
        have hs2 : IntKind.i64.wrap ((xc - 1) * (xc - 1)) = (xc - 1) * (xc - 1) := IntWalk.i64_in _ (by omega)
        have hs3 : IntKind.i64.wrap (t + (xc - 1) * (xc - 1)) = t + (xc - 1) * (xc - 1) := IntWalk.i64_in _ (by omega)
        have hq0 : 0 ≤ t + (xc - 1) * (xc - 1) := by omega
        have hq1 : t + (xc - 1) * (xc - 1) ≤ 225 * ((k + 1 : Nat) : Int) := by omega
        have HQ0 := Lib.hid hq0
        have HQ1 := Lib.hid hq1
        clear hq0 hq1 hqq HT
        go_wp2
        try (go_quiet (fail); go_wp2)
        exact ⟨⟨k + 1, t + (xc - 1) * (xc - 1), by go_num, rfl, hlt, HQ0.out, HQ1.out, HU, by first | exact hb | exact below_drewN hb _⟩, by simp [intOf]; omega⟩
      · have HU : Hid (workF l 0 = workF (l.drop (k + 1)) t) := Lib.hid (by rw [HT.out, if_neg h2])
        clear HT
        go_wp2
        try (go_quiet (fail); go_wp2)
        exact ⟨⟨k + 1, t, by go_num, rfl, hlt, hc0, by omega, HU, by first | exact hb | exact below_drewN hb _⟩, by simp [intOf]; omega⟩
    · obtain rfl : k = m := by omega
      have HR2 : Hid (workL l = 1000 * t / (k : Int)) := Lib.hid (by rw [HR.out, HS.out, drop_end _ k k Hm.out (Nat.le_refl _)]; rfl)
      obtain ⟨hk0, hd, hw⟩ := div_factsB (t := 1000 * t) (k := k) (by omega) (by omega) hm1
      have hs1 : IntKind.i64.wrap (1000 * t) = 1000 * t := IntWalk.i64_in _ (by omega)
      have hpn := HPn.out wr (HA.out.below hb)
      rw [← Hm.out] at hpn
      clear HS
      go_wp2_with fail
      refine hpn.mono ?_
      rintro e w9 ⟨rfl, hb9⟩
      clear hpn
      go_wp2
      go_ret
      exact Gives.int HR2.out (bthen hb hb9)

set_option maxHeartbeats 1000000 in
theorem empty_c (v : Value) (l : List Int) (w : World) (hv : IntsAt w v l) (ht : throwsB l = true) : Calls Try.prog 51 #[v] w (Gives (.int .i64 (emptyL l)) w) := by
  have HA := Lib.hid hv
  have HPn : Hid (∀ W, IntsAt W v l → Calls Try.prog 64 #[v] W (Gives (.int .i64 l.length) W)) := Lib.hid (fun W x => period_c v l W x)
  obtain ⟨hx, h1, h12⟩ := throwsB_nth ht
  obtain ⟨a', m, cap', rfl, hm, -, -, hc'⟩ := hv
  have Hc' := Lib.hid hc'; clear hc'
  have hm1 : 1 ≤ m := by omega
  have hm12 : m ≤ 12 := by omega
  have Hm := Lib.hid hm; clear hm h1 h12
  have Hx := Lib.hid hx; clear hx ht
  have HR := Lib.hid (show emptyL l = 1000 * zeroF l 0 / (m : Int) by unfold emptyL; rw [Hm.out])
  go_enter Try.func51, Try.ntmps51
  go_wp2
  go_loopw [3, 8] (fun s i wr => ∃ (k : Nat) (t : Int), i = .int .i64 k ∧ s = .int .i64 t ∧ k ≤ m ∧ 0 ≤ t ∧ t ≤ k ∧ Hid (zeroF l 0 = zeroF (l.drop k) t) ∧ Below w.heap.size w wr) (fun _ i _ => m - (intOf i).toNat)
  case atStart => exact ⟨0, 0, rfl, rfl, Nat.zero_le _, Int.le_refl _, by omega, Lib.hid rfl, Below.refl _ _⟩
  case round =>
    obtain ⟨k, t, rfl, rfl, hk, hc0, hck, HS, hb⟩ := hrel
    by_cases hlt : k < m
    ·
      obtain ⟨b', o', rfl, hbs', d0⟩ := (Hc'.out.below hb) k (by rw [← Hm.out]; exact hlt)
      obtain ⟨hx0, hx1⟩ := Hx.out k (by rw [← Hm.out]; exact hlt)
      have HT := Lib.hid (HS.out.trans (zeroF_step l t k (by rw [← Hm.out]; exact hlt)))
      clear HS
      generalize nth l k = xc at *
      have hs1 : IntKind.i64.wrap (t + 1) = t + 1 := IntWalk.i64_in _ (by omega)
      by_cases h2 : xc = 0
      · have HU : Hid (zeroF l 0 = zeroF (l.drop (k + 1)) (t + 1)) := Lib.hid (by rw [HT.out, if_pos h2])
        subst h2
        clear HT
        go_wp2
        try (go_quiet (fail); go_wp2)
        exact ⟨⟨k + 1, t + 1, by go_num, rfl, hlt, by omega, by omega, HU, by first | exact hb | exact below_drewN hb _⟩, by simp [intOf]; omega⟩
      · have HU : Hid (zeroF l 0 = zeroF (l.drop (k + 1)) t) := Lib.hid (by rw [HT.out, if_neg h2])
        have hz : (xc == 0) = false := beq_eq_false_iff_ne.2 h2
        clear HT
        go_wp2
        try (go_quiet (fail); go_wp2)
        exact ⟨⟨k + 1, t, by go_num, rfl, hlt, hc0, by omega, HU, by first | exact hb | exact below_drewN hb _⟩, by simp [intOf]; omega⟩
    · obtain rfl : k = m := by omega
      have HR2 : Hid (emptyL l = 1000 * t / (k : Int)) := Lib.hid (by rw [HR.out, HS.out, drop_end _ k k Hm.out (Nat.le_refl _)]; rfl)
      obtain ⟨hk0, hd, hw⟩ := div_factsB (t := 1000 * t) (k := k) (by omega) (by omega) hm1
      have hs1 : IntKind.i64.wrap (1000 * t) = 1000 * t := IntWalk.i64_in _ (by omega)
      have hpn := HPn.out wr (HA.out.below hb)
      rw [← Hm.out] at hpn
      clear HS
      go_wp2_with fail
      refine hpn.mono ?_
      rintro e w9 ⟨rfl, hb9⟩
      clear hpn
      go_wp2
      go_ret
      exact Gives.int HR2.out (bthen hb hb9)

set_option maxHeartbeats 1000000 in
theorem changes_c (v : Value) (l : List Int) (w : World) (hv : IntsAt w v l) (ht : throwsB l = true) : Calls Try.prog 45 #[v] w (Gives (.int .i64 (chgL l)) w) := by
  have HQ := Lib.hid (fun b W x => throwAt_c v l b W x (throwsB_nth ht).2.1 (Nat.le_trans (throwsB_nth ht).2.2 (by decide)))
  have HA := Lib.hid hv
  have HPn : Hid (∀ W, IntsAt W v l → Calls Try.prog 64 #[v] W (Gives (.int .i64 l.length) W)) := Lib.hid (fun W x => period_c v l W x)
  obtain ⟨hx, h1, h12⟩ := throwsB_nth ht
  obtain ⟨a', m, cap', rfl, hm, -, -, hc'⟩ := hv
  have Hc' := Lib.hid hc'; clear hc'
  have hm1 : 1 ≤ m := by omega
  have hm12 : m ≤ 12 := by omega
  have Hm := Lib.hid hm; clear hm h1 h12
  have Hx := Lib.hid hx; clear hx ht
  have HR := Lib.hid (show chgL l = 1000 * (chgN l m : Int) / (m : Int) by unfold chgL; rw [Hm.out])
  have HB := Lib.hid (chgN_le l)
  go_enter Try.func45, Try.ntmps45
  go_wp2
  go_loopw [3, 8] (fun s i wr => ∃ (k t : Nat), i = .int .i64 k ∧ s = .int .i64 t ∧ k ≤ m ∧ t ≤ k ∧ Hid (t = chgN l k) ∧ Below w.heap.size w wr) (fun _ i _ => m - (intOf i).toNat)
  case atStart => exact ⟨0, 0, rfl, rfl, Nat.zero_le _, Nat.le_refl _, Lib.hid rfl, Below.refl _ _⟩
  case round =>
    obtain ⟨k, t, rfl, rfl, hk, htk, HS, hb⟩ := hrel
    by_cases hlt : k < m
    · have hw1 : IntKind.i64.wrap ((k : Int) - 1) = (k : Int) - 1 := IntWalk.i64_in _ (by omega)
      obtain ⟨b', o', rfl, hbs', d0⟩ := (Hc'.out.below hb) k (by rw [← Hm.out]; exact hlt)
      obtain ⟨hx0, hx1⟩ := Hx.out k (by rw [← Hm.out]; exact hlt)
      have H2 := Lib.hid (HQ.out ((k : Int) - 1))
      have HE := Lib.hid (chgN_eq (l := l) (k := k))
      have HN := Lib.hid (chgN_ne (l := l) (k := k))
      rw [atB_idx l k (by rw [← Hm.out]; exact hlt)] at HE HN
      generalize nth l k = X at *
      generalize atB l ((k : Int) - 1) = Y at *
      by_cases hxy : X = Y
      · have HT : Hid (t = chgN l (k + 1)) := Lib.hid (by rw [HE.out hxy]; exact HS.out)
        subst hxy
        clear HE HN HS
        go_wp2_with fail
        refine (H2.out _ (HA.out.below hb)).mono ?_
        rintro e w2 ⟨rfl, hb2⟩
        go_wp2
        exact ⟨⟨k + 1, t, by go_num, rfl, hlt, by omega, HT, bthen hb hb2⟩, by simp [intOf]; omega⟩
      · have HT : Hid (t + 1 = chgN l (k + 1)) := Lib.hid (by rw [HN.out hxy, HS.out])
        have hne : (X != Y) = true := by simpa using hxy
        have hw2 : IntKind.i64.wrap ((t : Int) + 1) = (t : Int) + 1 := IntWalk.i64_in _ (by omega)
        clear HE HN HS hxy
        go_wp2_with fail
        refine (H2.out _ (HA.out.below hb)).mono ?_
        rintro e w2 ⟨rfl, hb2⟩
        go_wp2
        exact ⟨⟨k + 1, t + 1, by go_num, by go_num, hlt, by omega, HT, bthen hb hb2⟩, by simp [intOf]; omega⟩
    · obtain rfl : k = m := by omega
      have HR2 : Hid (chgL l = 1000 * (t : Int) / (k : Int)) := Lib.hid (by rw [HR.out, HS.out])
      obtain ⟨hk0, hd, hw⟩ := div_factsB (t := 1000 * (t : Int)) (k := k) (by omega) (by omega) hm1
      have hs1 : IntKind.i64.wrap (1000 * (t : Int)) = 1000 * (t : Int) := IntWalk.i64_in _ (by omega)
      have hpn := HPn.out wr (HA.out.below hb)
      rw [← Hm.out] at hpn
      clear HS
      go_wp2_with fail
      refine hpn.mono ?_
      rintro e w9 ⟨rfl, hb9⟩
      clear hpn
      go_wp2
      go_ret
      exact Gives.int HR2.out (bthen hb hb9)

set_option maxHeartbeats 1000000 in
theorem spread_c (v : Value) (l : List Int) (w : World) (hv : IntsAt w v l) (ht : throwsB l = true) : Calls Try.prog 49 #[v] w (Gives (.int .i64 (spreadL l)) w) := by
  have HQ := Lib.hid (fun W x => highest_c v l W x ht)
  have HA := Lib.hid hv
  have hMx := maxF_in l 0 0 15 (throws_mem ht) (by omega) (by omega)
  obtain ⟨hx, h1, h12⟩ := throwsB_nth ht
  obtain ⟨a', m, cap', rfl, hm, -, -, hc'⟩ := hv
  have Hc' := Lib.hid hc'; clear hc'
  have hm1 : 1 ≤ m := by omega
  have hm12 : m ≤ 12 := by omega
  have Hm := Lib.hid hm; clear hm h1 h12
  have Hx := Lib.hid hx; clear hx ht
  have HR := Lib.hid (show spreadL l = maxF l 0 - minF l (nth l 0) from rfl)
  obtain ⟨b0, o0, rfl, hbs0, d00⟩ := Hc'.out 0 (by rw [← Hm.out]; omega)
  obtain ⟨hy0, hy1⟩ := Hx.out 0 (by rw [← Hm.out]; omega)
  generalize nth l 0 = z at *
  generalize maxF l 0 = M at *
  have hm0 : 0 < m := by omega
  have d01 : w.cell? ⟨b0, o0, none⟩ = some (.int .i64 z) := by simpa using d00
  go_enter Try.func49, Try.ntmps49
  go_wp2
  go_loopw [3, 11] (fun s i wr => ∃ (k : Nat) (t : Int), i = .int .i64 k ∧ s = .int .i64 t ∧ k ≤ m ∧ 0 ≤ t ∧ t ≤ 15 ∧ Hid (minF l z = minF (l.drop k) t) ∧ Below w.heap.size w wr) (fun _ i _ => m - (intOf i).toNat)
  case atStart => exact ⟨0, z, rfl, rfl, Nat.zero_le _, hy0, hy1, Lib.hid rfl, by first | exact Below.refl _ _ | exact below_drewN (Below.refl _ _) _⟩
  case round =>
    obtain ⟨k, t, rfl, rfl, hk, hc0, hck, HS, hb⟩ := hrel
    by_cases hlt : k < m
    · obtain ⟨b', o', hab, hbs', d0⟩ := (Hc'.out.below hb) k (by rw [← Hm.out]; exact hlt)
      cases hab
      obtain ⟨hx0, hx1⟩ := Hx.out k (by rw [← Hm.out]; exact hlt)
      have HT := Lib.hid (HS.out.trans (minF_step l t k (by rw [← Hm.out]; exact hlt)))
      clear HS
      generalize nth l k = xc at *
      by_cases hmn : xc < t
      · have HU : Hid (minF l z = minF (l.drop (k + 1)) xc) := Lib.hid (by rw [HT.out]; unfold mn; rw [if_pos hmn])
        go_wp2
        exact ⟨⟨k + 1, xc, by go_num, rfl, hlt, by omega, by omega, HU, hb⟩, by simp [intOf]; omega⟩
      · have HU : Hid (minF l z = minF (l.drop (k + 1)) t) := Lib.hid (by rw [HT.out]; unfold mn; rw [if_neg hmn])
        by_cases hmn2 : t < xc
        · go_wp2
          exact ⟨⟨k + 1, t, by go_num, rfl, hlt, by omega, by omega, HU, hb⟩, by simp [intOf]; omega⟩
        · obtain rfl : t = xc := by omega
          go_wp2
          exact ⟨⟨k + 1, t, by go_num, rfl, hlt, by omega, by omega, HU, hb⟩, by simp [intOf]; omega⟩
    · obtain rfl : k = m := by omega
      have HE : Hid (spreadL l = M - t) := Lib.hid (by rw [HR.out, HS.out, drop_end _ k k Hm.out (Nat.le_refl _)]; rfl)
      have hs1 : IntKind.i64.wrap (M - t) = M - t := IntWalk.i64_in _ (by omega)
      clear HS
      go_wp2_with fail
      refine (HQ.out _ (HA.out.below hb)).mono ?_
      rintro e w1 ⟨rfl, hb1⟩
      go_wp2
      go_ret
      exact Gives.int HE.out (bthen hb hb1)

set_option maxHeartbeats 2000000 in
theorem difficulty_c (v : Value) (l : List Int) (w : World) (hv : IntsAt w v l) (ht : throwsB l = true) : Calls Try.prog 40 #[v] w (Gives (.int .i64 (hardL l)) w) := by
  have H1 := Lib.hid (fun W x => propsOf_c v l W x ht)
  have H2 := Lib.hid (fun W x => work_c v l W x ht)
  have H3 := Lib.hid (fun W x => swing_c v l W x ht)
  have H4 := Lib.hid (fun W x => changes_c v l W x ht)
  have H5 := Lib.hid (fun W x => empty_c v l W x ht)
  have H6 := Lib.hid (fun W x => spread_c v l W x ht)
  have HA := Lib.hid hv
  clear hv
  obtain ⟨hp, hsw, hwk, hem, hch, hsp⟩ := measures_in ht
  have hpp := sq_in (propsL l) 180 (by omega) (by omega)
  have HR := Lib.hid (show hardL l = 1000 * propsL l * propsL l + 2 * workL l + swingL l + chgL l - 2 * emptyL l + 1000 * spreadL l from rfl)
  obtain ⟨Q, hQ⟩ : ∃ Q, 1000 * propsL l * propsL l = Q := ⟨_, rfl⟩
  have hQ0 : 0 ≤ Q ∧ Q ≤ 32400000 := by rw [← hQ, Int.mul_assoc]; omega
  generalize propsL l = P at *
  generalize workL l = Wk at *
  generalize swingL l = Sw at *
  generalize chgL l = Ch at *
  generalize emptyL l = Em at *
  generalize spreadL l = Sp at *
  clear hpp
  have hs1 : IntKind.i64.wrap (1000 * P) = 1000 * P := IntWalk.i64_in _ (by omega)
  have hs2 : IntKind.i64.wrap Q = Q := IntWalk.i64_in _ (by omega)
  have hs3 : IntKind.i64.wrap (2 * Wk) = 2 * Wk := IntWalk.i64_in _ (by omega)
  have hs4 : IntKind.i64.wrap (Q + 2 * Wk) = Q + 2 * Wk := IntWalk.i64_in _ (by omega)
  have hs5 : IntKind.i64.wrap (Q + 2 * Wk + Sw) = Q + 2 * Wk + Sw := IntWalk.i64_in _ (by omega)
  have hs6 : IntKind.i64.wrap (Q + 2 * Wk + Sw + Ch) = Q + 2 * Wk + Sw + Ch := IntWalk.i64_in _ (by omega)
  have hs7 : IntKind.i64.wrap (2 * Em) = 2 * Em := IntWalk.i64_in _ (by omega)
  have hs8 : IntKind.i64.wrap (Q + 2 * Wk + Sw + Ch - 2 * Em) = Q + 2 * Wk + Sw + Ch - 2 * Em := IntWalk.i64_in _ (by omega)
  have hs9 : IntKind.i64.wrap (1000 * Sp) = 1000 * Sp := IntWalk.i64_in _ (by omega)
  have hs10 : IntKind.i64.wrap (Q + 2 * Wk + Sw + Ch - 2 * Em + 1000 * Sp) = Q + 2 * Wk + Sw + Ch - 2 * Em + 1000 * Sp := IntWalk.i64_in _ (by omega)
  rw [hQ] at HR
  clear hp hsw hwk hem hch hsp hQ0
  clear ht
  go_enter Try.func40, Try.ntmps40
  go_wp2_with fail
  refine (H1.out _ HA.out).mono ?_
  rintro e w0 ⟨rfl, hb0⟩
  go_wp2_with fail
  refine (H1.out _ (HA.out.below hb0)).mono ?_
  rintro e w1 ⟨rfl, hb1'⟩
  have hb1 := bthen hb0 hb1'
  go_wp2_with fail
  refine (H2.out _ (HA.out.below hb1)).mono ?_
  rintro e w2 ⟨rfl, hb2'⟩
  have hb2 := bthen hb1 hb2'
  go_wp2_with fail
  refine (H3.out _ (HA.out.below hb2)).mono ?_
  rintro e w3 ⟨rfl, hb3'⟩
  have hb3 := bthen hb2 hb3'
  go_wp2_with fail
  refine (H4.out _ (HA.out.below hb3)).mono ?_
  rintro e w4 ⟨rfl, hb4'⟩
  have hb4 := bthen hb3 hb4'
  go_wp2_with fail
  refine (H5.out _ (HA.out.below hb4)).mono ?_
  rintro e w5 ⟨rfl, hb5'⟩
  have hb5 := bthen hb4 hb5'
  go_wp2_with fail
  refine (H6.out _ (HA.out.below hb5)).mono ?_
  rintro e w6 ⟨rfl, hb6'⟩
  have hb6 := bthen hb5 hb6'
  go_wp2
  go_ret
  exact Gives.int HR.out hb6
end Go.Proofs.Ytpfjmbgkbildjaa
