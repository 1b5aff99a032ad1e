import Derived.Test.YtpfjmbgkbildjaaMg9
import Derived.Test.YtpfjmbgkbildjaaMg1
import Derived.Deep.Slices
import Derived.Deep.Fields
import Derived.ChangeSame
import Derived.ChangeOld
import Derived.ShutString
import Derived.Lib.SmallJoins
/- Diff2: measures of patterns, by the package impl. -/
namespace Go.Proofs.Ytpfjmbgkbildjaa
open Go.ChangeShapes Go.WideShapes Go.ChangeAt Go.RowKit


theorem atB_idx (l : List Int) (k : Nat) (h : k < l.length) : atB l (k : Int) = nth l k := by
  rw [atB_nat, Nat.mod_eq_of_lt h]
set_option maxHeartbeats 1000000 in
theorem swing_c (v : Value) (l : List Int) (w : World) (hv : IntsAt w v l) (ht : throwsB l = true) : Calls Try.prog 43 #[v] w (Gives (.int .i64 (swingL l)) w) := by
  have hP := propsL_in ht
  have HQ := Lib.hid (fun W x => propsOf_c v l W x ht)
  have HA := Lib.hid hv
  have HPn : Hid (∀ W, IntsAt W v l → Calls Try.prog 64 #[v] W (Gives (.int .i64 l.length) W)) := Lib.hid (fun W x => period_c v l W x)
  obtain ⟨hx, h1, h12⟩ := throwsB_nth ht
  obtain ⟨a', m, cap', rfl, hm, -, -, hc'⟩ := hv
  have Hc' := Lib.hid hc'; clear hc'
  have hm1 : 1 ≤ m := by omega
  have hm12 : m ≤ 12 := by omega
  have Hm := Lib.hid hm; clear hm h1 h12
  have Hx := Lib.hid hx; clear hx ht
  have HR := Lib.hid (show swingL l = 1000 * swingF (propsL l) l 0 / (m : Int) by unfold swingL; rw [Hm.out])
  generalize propsL l = P at *
  go_enter Try.func43, Try.ntmps43
  go_wp2
  go_loopw [3, 8] (fun s i wr => ∃ (k : Nat) (t : Int), i = .int .i64 k ∧ s = .int .i64 t ∧ k ≤ m ∧ 0 ≤ t ∧ t ≤ 32400 * k ∧ Hid (swingF P l 0 = swingF P (l.drop k) t) ∧ Below w.heap.size w wr) (fun _ i _ => m - (intOf i).toNat)
  case atStart => exact ⟨0, 0, rfl, rfl, Nat.zero_le _, Int.le_refl _, by omega, Lib.hid rfl, Below.refl _ _⟩
  case round =>
    obtain ⟨k, t, rfl, rfl, hk, hc0, hck, HS, hb⟩ := hrel
    by_cases hlt : k < m
    ·
      obtain ⟨b', o', rfl, hbs', d0⟩ := (Hc'.out.below hb) k (by rw [← Hm.out]; exact hlt)
      obtain ⟨hx0, hx1⟩ := Hx.out k (by rw [← Hm.out]; exact hlt)
      have HT := Lib.hid (HS.out.trans (swingF_step P l t k (by rw [← Hm.out]; exact hlt)))
      clear HS
      generalize nth l k = xc at *
      have hs1 : IntKind.i64.wrap (xc - P) = xc - P := IntWalk.i64_in _ (by omega)
      have hqq := sq_in (xc - P) 180 (by omega) (by omega)
      have hs2 : IntKind.i64.wrap ((xc - P) * (xc - P)) = (xc - P) * (xc - P) := IntWalk.i64_in _ (by omega)
      have hs3 : IntKind.i64.wrap (t + (xc - P) * (xc - P)) = t + (xc - P) * (xc - P) := IntWalk.i64_in _ (by omega)
      have hq0 : 0 ≤ t + (xc - P) * (xc - P) := by omega
      have hq1 : t + (xc - P) * (xc - P) ≤ 32400 * ((k + 1 : Nat) : Int) := by omega
      have HQ0 := Lib.hid hq0
      have HQ1 := Lib.hid hq1
      clear hq0 hq1 hqq
      go_wp2_with fail
      refine (HQ.out _ (HA.out.below hb)).mono ?_
      rintro e w1 ⟨rfl, hb1⟩
      go_wp2_with fail
      refine (HQ.out _ ((HA.out.below hb).below hb1)).mono ?_
      rintro e w2 ⟨rfl, hb2⟩
      go_wp2
      exact ⟨⟨k + 1, t + (xc - P) * (xc - P), by go_num, rfl, hlt, HQ0.out, HQ1.out, HT, bthen (bthen hb hb1) hb2⟩, by simp [intOf]; omega⟩
    · obtain rfl : k = m := by omega
      have HR2 : Hid (swingL l = 1000 * t / (k : Int)) := Lib.hid (by rw [HR.out, HS.out, drop_end _ k k Hm.out (Nat.le_refl _)]; rfl)
      obtain ⟨hk0, hd, hw⟩ := div_factsB (t := 1000 * t) (k := k) (by omega) (by omega) hm1
      have hs1 : IntKind.i64.wrap (1000 * t) = 1000 * t := IntWalk.i64_in _ (by omega)
      have hpn := HPn.out wr (HA.out.below hb)
      rw [← Hm.out] at hpn
      clear HS
      go_wp2_with fail
      refine hpn.mono ?_
      rintro e w9 ⟨rfl, hb9⟩
      clear hpn
      go_wp2
      go_ret
      exact Gives.int HR2.out (bthen hb hb9)

set_option maxHeartbeats 1000000 in
theorem work_c (v : Value) (l : List Int) (w : World) (hv : IntsAt w v l) (ht : throwsB l = true) : Calls Try.prog 47 #[v] w (Gives (.int .i64 (workL l)) w) := by
  have HA := Lib.hid hv
  have HPn : Hid (∀ W, IntsAt W v l → Calls Try.prog 64 #[v] W (Gives (.int .i64 l.length) W)) := Lib.hid (fun W x => period_c v l W x)
  obtain ⟨hx, h1, h12⟩ := throwsB_nth ht
  obtain ⟨a', m, cap', rfl, hm, -, -, hc'⟩ := hv
  have Hc' := Lib.hid hc'; clear hc'
  have hm1 : 1 ≤ m := by omega
  have hm12 : m ≤ 12 := by omega
  have Hm := Lib.hid hm; clear hm h1 h12
  have Hx := Lib.hid hx; clear hx ht
  have HR := Lib.hid (show workL l = 1000 * workF l 0 / (m : Int) by unfold workL; rw [Hm.out])
  go_enter Try.func47, Try.ntmps47
  go_wp2
  go_loopw [3, 8] (fun s i wr => ∃ (k : Nat) (t : Int), i = .int .i64 k ∧ s = .int .i64 t ∧ k ≤ m ∧ 0 ≤ t ∧ t ≤ 225 * k ∧ Hid (workF l 0 = workF (l.drop k) t) ∧ Below w.heap.size w wr) (fun _ i _ => m - (intOf i).toNat)
  case atStart => exact ⟨0, 0, rfl, rfl, Nat.zero_le _, Int.le_refl _, by omega, Lib.hid rfl, Below.refl _ _⟩
  case round =>
    obtain ⟨k, t, rfl, rfl, hk, hc0, hck, HS, hb⟩ := hrel
    by_cases hlt : k < m
    ·
      obtain ⟨b', o', rfl, hbs', d0⟩ := (Hc'.out.below hb) k (by rw [← Hm.out]; exact hlt)
      obtain ⟨hx0, hx1⟩ := Hx.out k (by rw [← Hm.out]; exact hlt)
      have HT := Lib.hid (HS.out.trans (workF_step l t k (by rw [← Hm.out]; exact hlt)))
      clear HS
      generalize nth l k = xc at *
      by_cases h2 : 2 < xc
      · have HU : Hid (workF l 0 = workF (l.drop (k + 1)) (t + (xc - 1) * (xc - 1))) := Lib.hid (by rw [HT.out, if_pos h2])
        have hs1 : IntKind.i64.wrap (xc - 1) = xc - 1 := IntWalk.i64_in _ (by omega)
        have hqq := sq_in (xc - 1) 15 (by omega) (by omega)
        have hs2 : IntKind.i64.wrap ((xc - 1) * (xc - 1)) = (xc - 1) * (xc - 1) := IntWalk.i64_in _ (by omega)
        have hs3 : IntKind.i64.wrap (t + (xc - 1) * (xc - 1)) = t + (xc - 1) * (xc - 1) := IntWalk.i64_in _ (by omega)
        have hq0 : 0 ≤ t + (xc - 1) * (xc - 1) := by omega
        have hq1 : t + (xc - 1) * (xc - 1) ≤ 225 * ((k + 1 : Nat) : Int) := by omega
        have HQ0 := Lib.hid hq0
        have HQ1 := Lib.hid hq1
        clear hq0 hq1 hqq HT
        go_wp2
        try (go_quiet (fail); go_wp2)
        exact ⟨⟨k + 1, t + (xc - 1) * (xc - 1), by go_num, rfl, hlt, HQ0.out, HQ1.out, HU, by first | exact hb | exact below_drewN hb _⟩, by simp [intOf]; omega⟩
      · have HU : Hid (workF l 0 = workF (l.drop (k + 1)) t) := Lib.hid (by rw [HT.out, if_neg h2])
        clear HT
        go_wp2
        try (go_quiet (fail); go_wp2)
        exact ⟨⟨k + 1, t, by go_num, rfl, hlt, hc0, by omega, HU, by first | exact hb | exact below_drewN hb _⟩, by simp [intOf]; omega⟩
    · obtain rfl : k = m := by omega
      have HR2 : Hid (workL l = 1000 * t / (k : Int)) := Lib.hid (by rw [HR.out, HS.out, drop_end _ k k Hm.out (Nat.le_refl _)]; rfl)
      obtain ⟨hk0, hd, hw⟩ := div_factsB (t := 1000 * t) (k := k) (by omega) (by omega) hm1
      have hs1 : IntKind.i64.wrap (1000 * t) = 1000 * t := IntWalk.i64_in _ (by omega)
      have hpn := HPn.out wr (HA.out.below hb)
      rw [← Hm.out] at hpn
      clear HS
      go_wp2_with fail
      refine hpn.mono ?_
      rintro e w9 ⟨rfl, hb9⟩
      clear hpn
      go_wp2
      go_ret
      exact Gives.int HR2.out (bthen hb hb9)

set_option maxHeartbeats 1000000 in
theorem empty_c (v : Value) (l : List Int) (w : World) (hv : IntsAt w v l) (ht : throwsB l = true) : Calls Try.prog 51 #[v] w (Gives (.int .i64 (emptyL l)) w) := by
  have HA := Lib.hid hv
  have HPn : Hid (∀ W, IntsAt W v l → Calls Try.prog 64 #[v] W (Gives (.int .i64 l.length) W)) := Lib.hid (fun W x => period_c v l W x)
  obtain ⟨hx, h1, h12⟩ := throwsB_nth ht
  obtain ⟨a', m, cap', rfl, hm, -, -, hc'⟩ := hv
  have Hc' := Lib.hid hc'; clear hc'
  have hm1 : 1 ≤ m := by omega
  have hm12 : m ≤ 12 := by omega
  have Hm := Lib.hid hm; clear hm h1 h12
  have Hx := Lib.hid hx; clear hx ht
  have HR := Lib.hid (show emptyL l = 1000 * zeroF l 0 / (m : Int) by unfold emptyL; rw [Hm.out])
  go_enter Try.func51, Try.ntmps51
  go_wp2
  go_loopw [3, 8] (fun s i wr => ∃ (k : Nat) (t : Int), i = .int .i64 k ∧ s = .int .i64 t ∧ k ≤ m ∧ 0 ≤ t ∧ t ≤ k ∧ Hid (zeroF l 0 = zeroF (l.drop k) t) ∧ Below w.heap.size w wr) (fun _ i _ => m - (intOf i).toNat)
  case atStart => exact ⟨0, 0, rfl, rfl, Nat.zero_le _, Int.le_refl _, by omega, Lib.hid rfl, Below.refl _ _⟩
  case round =>
    obtain ⟨k, t, rfl, rfl, hk, hc0, hck, HS, hb⟩ := hrel
    by_cases hlt : k < m
    ·
      obtain ⟨b', o', rfl, hbs', d0⟩ := (Hc'.out.below hb) k (by rw [← Hm.out]; exact hlt)
      obtain ⟨hx0, hx1⟩ := Hx.out k (by rw [← Hm.out]; exact hlt)
      have HT := Lib.hid (HS.out.trans (zeroF_step l t k (by rw [← Hm.out]; exact hlt)))
      clear HS
      generalize nth l k = xc at *
      have hs1 : IntKind.i64.wrap (t + 1) = t + 1 := IntWalk.i64_in _ (by omega)
      by_cases h2 : xc = 0
      · have HU : Hid (zeroF l 0 = zeroF (l.drop (k + 1)) (t + 1)) := Lib.hid (by rw [HT.out, if_pos h2])
        subst h2
        clear HT
        go_wp2
        try (go_quiet (fail); go_wp2)
        exact ⟨⟨k + 1, t + 1, by go_num, rfl, hlt, by omega, by omega, HU, by first | exact hb | exact below_drewN hb _⟩, by simp [intOf]; omega⟩
      · have HU : Hid (zeroF l 0 = zeroF (l.drop (k + 1)) t) := Lib.hid (by rw [HT.out, if_neg h2])
        have hz : (xc == 0) = false := beq_eq_false_iff_ne.2 h2
        clear HT
        go_wp2
        try (go_quiet (fail); go_wp2)
        exact ⟨⟨k + 1, t, by go_num, rfl, hlt, hc0, by omega, HU, by first | exact hb | exact below_drewN hb _⟩, by simp [intOf]; omega⟩
    · obtain rfl : k = m := by omega
      have HR2 : Hid (emptyL l = 1000 * t / (k : Int)) := Lib.hid (by rw [HR.out, HS.out, drop_end _ k k Hm.out (Nat.le_refl _)]; rfl)
      obtain ⟨hk0, hd, hw⟩ := div_factsB (t := 1000 * t) (k := k) (by omega) (by omega) hm1
      have hs1 : IntKind.i64.wrap (1000 * t) = 1000 * t := IntWalk.i64_in _ (by omega)
      have hpn := HPn.out wr (HA.out.below hb)
      rw [← Hm.out] at hpn
      clear HS
      go_wp2_with fail
      refine hpn.mono ?_
      rintro e w9 ⟨rfl, hb9⟩
      clear hpn
      go_wp2
      go_ret
      exact Gives.int HR2.out (bthen hb hb9)

set_option maxHeartbeats 1000000 in
theorem changes_c (v : Value) (l : List Int) (w : World) (hv : IntsAt w v l) (ht : throwsB l = true) : Calls Try.prog 45 #[v] w (Gives (.int .i64 (chgL l)) w) := by
  have HQ := Lib.hid (fun b W x => throwAt_c v l b W x (throwsB_nth ht).2.1 (Nat.le_trans (throwsB_nth ht).2.2 (by decide)))
  have HA := Lib.hid hv
  have HPn : Hid (∀ W, IntsAt W v l → Calls Try.prog 64 #[v] W (Gives (.int .i64 l.length) W)) := Lib.hid (fun W x => period_c v l W x)
  obtain ⟨hx, h1, h12⟩ := throwsB_nth ht
  obtain ⟨a', m, cap', rfl, hm, -, -, hc'⟩ := hv
  have Hc' := Lib.hid hc'; clear hc'
  have hm1 : 1 ≤ m := by omega
  have hm12 : m ≤ 12 := by omega
  have Hm := Lib.hid hm; clear hm h1 h12
  have Hx := Lib.hid hx; clear hx ht
  have HR := Lib.hid (show chgL l = 1000 * (chgN l m : Int) / (m : Int) by unfold chgL; rw [Hm.out])
  have HB := Lib.hid (chgN_le l)
  go_enter Try.func45, Try.ntmps45
  go_wp2
  go_loopw [3, 8] (fun s i wr => ∃ (k t : Nat), i = .int .i64 k ∧ s = .int .i64 t ∧ k ≤ m ∧ t ≤ k ∧ Hid (t = chgN l k) ∧ Below w.heap.size w wr) (fun _ i _ => m - (intOf i).toNat)
  case atStart => exact ⟨0, 0, rfl, rfl, Nat.zero_le _, Nat.le_refl _, Lib.hid rfl, Below.refl _ _⟩
  case round =>
    obtain ⟨k, t, rfl, rfl, hk, htk, HS, hb⟩ := hrel
    by_cases hlt : k < m
    · have hw1 : IntKind.i64.wrap ((k : Int) - 1) = (k : Int) - 1 := IntWalk.i64_in _ (by omega)
      obtain ⟨b', o', rfl, hbs', d0⟩ := (Hc'.out.below hb) k (by rw [← Hm.out]; exact hlt)
      obtain ⟨hx0, hx1⟩ := Hx.out k (by rw [← Hm.out]; exact hlt)
      have H2 := Lib.hid (HQ.out ((k : Int) - 1))
      have HE := Lib.hid (chgN_eq (l := l) (k := k))
      have HN := Lib.hid (chgN_ne (l := l) (k := k))
      rw [atB_idx l k (by rw [← Hm.out]; exact hlt)] at HE HN
      generalize nth l k = X at *
      generalize atB l ((k : Int) - 1) = Y at *
      by_cases hxy : X = Y
      · have HT : Hid (t = chgN l (k + 1)) := Lib.hid (by rw [HE.out hxy]; exact HS.out)
        subst hxy
        clear HE HN HS
        go_wp2_with fail
        refine (H2.out _ (HA.out.below hb)).mono ?_
        rintro e w2 ⟨rfl, hb2⟩
        go_wp2
        exact ⟨⟨k + 1, t, by go_num, rfl, hlt, by omega, HT, bthen hb hb2⟩, by simp [intOf]; omega⟩
      · have HT : Hid (t + 1 = chgN l (k + 1)) := Lib.hid (by rw [HN.out hxy, HS.out])
        have hne : (X != Y) = true := by simpa using hxy
        have hw2 : IntKind.i64.wrap ((t : Int) + 1) = (t : Int) + 1 := IntWalk.i64_in _ (by omega)
        clear HE HN HS hxy
        go_wp2_with fail
        refine (H2.out _ (HA.out.below hb)).mono ?_
        rintro e w2 ⟨rfl, hb2⟩
        go_wp2
        exact ⟨⟨k + 1, t + 1, by go_num, by go_num, hlt, by omega, HT, bthen hb hb2⟩, by simp [intOf]; omega⟩
    · obtain rfl : k = m := by omega
      have HR2 : Hid (chgL l = 1000 * (t : Int) / (k : Int)) := Lib.hid (by rw [HR.out, HS.out])
      obtain ⟨hk0, hd, hw⟩ := div_factsB (t := 1000 * (t : Int)) (k := k) (by omega) (by omega) hm1
      have hs1 : IntKind.i64.wrap (1000 * (t : Int)) = 1000 * (t : Int) := IntWalk.i64_in _ (by omega)
      have hpn := HPn.out wr (HA.out.below hb)
      rw [← Hm.out] at hpn
      clear HS
      go_wp2_with fail
      refine hpn.mono ?_
      rintro e w9 ⟨rfl, hb9⟩
      clear hpn
      go_wp2
      go_ret
      exact Gives.int HR2.out (bthen hb hb9)

set_option maxHeartbeats 1000000 in
theorem spread_c (v : Value) (l : List Int) (w : World) (hv : IntsAt w v l) (ht : throwsB l = true) : Calls Try.prog 49 #[v] w (Gives (.int .i64 (spreadL l)) w) := by
  have HQ := Lib.hid (fun W x => highest_c v l W x ht)
  have HA := Lib.hid hv
  have hMx := maxF_in l 0 0 15 (throws_mem ht) (by omega) (by omega)
  obtain ⟨hx, h1, h12⟩ := throwsB_nth ht
  obtain ⟨a', m, cap', rfl, hm, -, -, hc'⟩ := hv
  have Hc' := Lib.hid hc'; clear hc'
  have hm1 : 1 ≤ m := by omega
  have hm12 : m ≤ 12 := by omega
  have Hm := Lib.hid hm; clear hm h1 h12
  have Hx := Lib.hid hx; clear hx ht
  have HR := Lib.hid (show spreadL l = maxF l 0 - minF l (nth l 0) from rfl)
  obtain ⟨b0, o0, rfl, hbs0, d00⟩ := Hc'.out 0 (by rw [← Hm.out]; omega)
  obtain ⟨hy0, hy1⟩ := Hx.out 0 (by rw [← Hm.out]; omega)
  generalize nth l 0 = z at *
  generalize maxF l 0 = M at *
  have hm0 : 0 < m := by omega
  have d01 : w.cell? ⟨b0, o0, none⟩ = some (.int .i64 z) := by simpa using d00
  go_enter Try.func49, Try.ntmps49
  go_wp2
  go_loopw [3, 11] (fun s i wr => ∃ (k : Nat) (t : Int), i = .int .i64 k ∧ s = .int .i64 t ∧ k ≤ m ∧ 0 ≤ t ∧ t ≤ 15 ∧ Hid (minF l z = minF (l.drop k) t) ∧ Below w.heap.size w wr) (fun _ i _ => m - (intOf i).toNat)
  case atStart => exact ⟨0, z, rfl, rfl, Nat.zero_le _, hy0, hy1, Lib.hid rfl, by first | exact Below.refl _ _ | exact below_drewN (Below.refl _ _) _⟩
  case round =>
    obtain ⟨k, t, rfl, rfl, hk, hc0, hck, HS, hb⟩ := hrel
    by_cases hlt : k < m
    · obtain ⟨b', o', hab, hbs', d0⟩ := (Hc'.out.below hb) k (by rw [← Hm.out]; exact hlt)
      cases hab
      obtain ⟨hx0, hx1⟩ := Hx.out k (by rw [← Hm.out]; exact hlt)
      have HT := Lib.hid (HS.out.trans (minF_step l t k (by rw [← Hm.out]; exact hlt)))
      clear HS
      generalize nth l k = xc at *
      by_cases hmn : xc < t
      · have HU : Hid (minF l z = minF (l.drop (k + 1)) xc) := Lib.hid (by rw [HT.out]; unfold mn; rw [if_pos hmn])
        go_wp2
        exact ⟨⟨k + 1, xc, by go_num, rfl, hlt, by omega, by omega, HU, hb⟩, by simp [intOf]; omega⟩
      · have HU : Hid (minF l z = minF (l.drop (k + 1)) t) := Lib.hid (by rw [HT.out]; unfold mn; rw [if_neg hmn])
        by_cases hmn2 : t < xc
        · go_wp2
          exact ⟨⟨k + 1, t, by go_num, rfl, hlt, by omega, by omega, HU, hb⟩, by simp [intOf]; omega⟩
        · obtain rfl : t = xc := by omega
          go_wp2
          exact ⟨⟨k + 1, t, by go_num, rfl, hlt, by omega, by omega, HU, hb⟩, by simp [intOf]; omega⟩
    · obtain rfl : k = m := by omega
      have HE : Hid (spreadL l = M - t) := Lib.hid (by rw [HR.out, HS.out, drop_end _ k k Hm.out (Nat.le_refl _)]; rfl)
      have hs1 : IntKind.i64.wrap (M - t) = M - t := IntWalk.i64_in _ (by omega)
      clear HS
      go_wp2_with fail
      refine (HQ.out _ (HA.out.below hb)).mono ?_
      rintro e w1 ⟨rfl, hb1⟩
      go_wp2
      go_ret
      exact Gives.int HE.out (bthen hb hb1)

set_option maxHeartbeats 2000000 in
theorem difficulty_c (v : Value) (l : List Int) (w : World) (hv : IntsAt w v l) (ht : throwsB l = true) : Calls Try.prog 40 #[v] w (Gives (.int .i64 (hardL l)) w) := by
  have H1 := Lib.hid (fun W x => propsOf_c v l W x ht)
  have H2 := Lib.hid (fun W x => work_c v l W x ht)
  have H3 := Lib.hid (fun W x => swing_c v l W x ht)
  have H4 := Lib.hid (fun W x => changes_c v l W x ht)
  have H5 := Lib.hid (fun W x => empty_c v l W x ht)
  have H6 := Lib.hid (fun W x => spread_c v l W x ht)
  have HA := Lib.hid hv
  clear hv
  obtain ⟨hp, hsw, hwk, hem, hch, hsp⟩ := measures_in ht
  have hpp := sq_in (propsL l) 180 (by omega) (by omega)
  have HR := Lib.hid (show hardL l = 1000 * propsL l * propsL l + 2 * workL l + swingL l + chgL l - 2 * emptyL l + 1000 * spreadL l from rfl)
  obtain ⟨Q, hQ⟩ : ∃ Q, 1000 * propsL l * propsL l = Q := ⟨_, rfl⟩
  have hQ0 : 0 ≤ Q ∧ Q ≤ 32400000 := by rw [← hQ, Int.mul_assoc]; omega
  generalize propsL l = P at *
  generalize workL l = Wk at *
  generalize swingL l = Sw at *
  generalize chgL l = Ch at *
  generalize emptyL l = Em at *
  generalize spreadL l = Sp at *
  clear hpp
  have hs1 : IntKind.i64.wrap (1000 * P) = 1000 * P := IntWalk.i64_in _ (by omega)
  have hs2 : IntKind.i64.wrap Q = Q := IntWalk.i64_in _ (by omega)
  have hs3 : IntKind.i64.wrap (2 * Wk) = 2 * Wk := IntWalk.i64_in _ (by omega)
  have hs4 : IntKind.i64.wrap (Q + 2 * Wk) = Q + 2 * Wk := IntWalk.i64_in _ (by omega)
  have hs5 : IntKind.i64.wrap (Q + 2 * Wk + Sw) = Q + 2 * Wk + Sw := IntWalk.i64_in _ (by omega)
  have hs6 : IntKind.i64.wrap (Q + 2 * Wk + Sw + Ch) = Q + 2 * Wk + Sw + Ch := IntWalk.i64_in _ (by omega)
  have hs7 : IntKind.i64.wrap (2 * Em) = 2 * Em := IntWalk.i64_in _ (by omega)
  have hs8 : IntKind.i64.wrap (Q + 2 * Wk + Sw + Ch - 2 * Em) = Q + 2 * Wk + Sw + Ch - 2 * Em := IntWalk.i64_in _ (by omega)
  have hs9 : IntKind.i64.wrap (1000 * Sp) = 1000 * Sp := IntWalk.i64_in _ (by omega)
  have hs10 : IntKind.i64.wrap (Q + 2 * Wk + Sw + Ch - 2 * Em + 1000 * Sp) = Q + 2 * Wk + Sw + Ch - 2 * Em + 1000 * Sp := IntWalk.i64_in _ (by omega)
  rw [hQ] at HR
  clear hp hsw hwk hem hch hsp hQ0
  clear ht
  go_enter Try.func40, Try.ntmps40
  go_wp2_with fail
  refine (H1.out _ HA.out).mono ?_
  rintro e w0 ⟨rfl, hb0⟩
  go_wp2_with fail
  refine (H1.out _ (HA.out.below hb0)).mono ?_
  rintro e w1 ⟨rfl, hb1'⟩
  have hb1 := bthen hb0 hb1'
  go_wp2_with fail
  refine (H2.out _ (HA.out.below hb1)).mono ?_
  rintro e w2 ⟨rfl, hb2'⟩
  have hb2 := bthen hb1 hb2'
  go_wp2_with fail
  refine (H3.out _ (HA.out.below hb2)).mono ?_
  rintro e w3 ⟨rfl, hb3'⟩
  have hb3 := bthen hb2 hb3'
  go_wp2_with fail
  refine (H4.out _ (HA.out.below hb3)).mono ?_
  rintro e w4 ⟨rfl, hb4'⟩
  have hb4 := bthen hb3 hb4'
  go_wp2_with fail
  refine (H5.out _ (HA.out.below hb4)).mono ?_
  rintro e w5 ⟨rfl, hb5'⟩
  have hb5 := bthen hb4 hb5'
  go_wp2_with fail
  refine (H6.out _ (HA.out.below hb5)).mono ?_
  rintro e w6 ⟨rfl, hb6'⟩
  have hb6 := bthen hb5 hb6'
  go_wp2
  go_ret
  exact Gives.int HR.out hb6
end Go.Proofs.Ytpfjmbgkbildjaa

/- Open: what the reading of an argument says of the memory behind it. -/
namespace Go.Proofs.Ytpfjmbgkbildjaa
open Go.ChangeShapes Go.WideShapes Go.ChangeAt Go.RowKit Go.Deep Go.Joins
open Go.ChangeMaps (open_string)

theorem own : ownKnob Try.prog.godebug = none := by kernel_rfl
theorem laidOut : laidOutB Try.prog = true := by kernel_rfl

section
variable {H : Type} {enc : TypeId × Value → H} {P : Program} {w : World} {base : Nat} {spare : Nat → Bool} {held : Bool}
theorem open_slice_fields {t e : TypeId} {fs : Array Field} {fuel : Nat} {cs : List Value} {x : DataW H × List MemPlace} (ht : P.underlying t = some (.slice e)) (he : P.underlying e = some (.struct fs))
    (hone : oneCellFields P fs = true) (hC : P.cellsOf e = fs.size) (h : DataW.trod enc P w base spare held fuel t cs = some x) :
    (cs = [.slice none 0 0] ∧ x = (.nil, [])) ∨
    ∃ (a : Addr) (len cap m : Nat) (D : Nat → DataW H) (Pl : Nat → List MemPlace), cs = [.slice (some a) len cap] ∧ base ≤ a.block ∧ len ≤ cap ∧ cap ≤ maxLen ∧ m = (if spare a.block then cap else len) ∧
      x = (.slice ((List.range len).map D) ((List.range (m - len)).map fun j => D (len + j)), MemPlace.row a (m * fs.size) ++ (List.range m).flatMap Pl) ∧
      ∀ i, i < m → ∃ (ys : List (DataW H × List MemPlace)) (n : Nat), D i = .agg (ys.map (·.1)) ∧ Pl i = ys.flatMap (·.2) ∧ ys.length = fs.size ∧
        ∀ (j : Nat) (f : Field), fs[j]? = some f → ∃ (v : Value) (y : DataW H × List MemPlace), w.cell? (a.add (i * fs.size + j)) = some v ∧ ys[j]? = some y ∧ DataW.trod enc P w base spare held n f.type [v] = some y := by
  rcases open_slice ht h with h0 | ⟨a, len, cap, m, n, D, Pl, hcs, hb, hl, hm, hmm, hx, hi⟩
  · exact .inl h0
  · refine .inr ⟨a, len, cap, m, D, Pl, hcs, hb, hl, hm, hmm, by rw [hC] at hx; exact hx, fun i him => ?_⟩
    obtain ⟨cs', hc, ht'⟩ := hi i him
    rw [hC] at hc
    obtain ⟨ys, n', hn', hy, hlen, hyl, hf⟩ := DataW.trod_struct he ht'
    obtain ⟨_, hcl, hat⟩ := World.cells?_some hc
    simp only [Prod.mk.injEq] at hy
    refine ⟨ys, n', hy.1, hy.2, hyl, fun j f hj => ?_⟩
    obtain ⟨ho, hk⟩ := hone_of hone j f hj
    have hjl : j < fs.size := (Array.getElem?_eq_some_iff.1 hj).1
    have hcell := hat j hjl
    have hv : cs'[j]? = some (cs'[j]'(by omega)) := List.getElem?_eq_getElem (by omega)
    have h1 := hf j f hj
    rw [ho, hk] at h1
    have hone' : (cs'.drop j).take 1 = [cs'[j]'(by omega)] := by
      rw [List.drop_eq_getElem_cons (by omega)]
      rfl
    rw [hone'] at h1
    have hys : ys[j]? = some (ys[j]'(by omega)) := List.getElem?_eq_getElem (by omega)
    refine ⟨_, _, ?_, hys, h1.trans hys⟩
    rw [← Go.Deep.add_add, hcell, hv]
end

theorem choose_list {α : Type} [Inhabited α] (R : Nat → α → Prop) : ∀ n, (∀ i, i < n → ∃ x, R i x) → ∃ l : List α, l.length = n ∧ ∀ i, i < n → R i (nth l i)
  | 0, _ => ⟨[], rfl, fun i h => absurd h (Nat.not_lt_zero _)⟩
  | n + 1, h => by
    obtain ⟨l, hl, hr⟩ := choose_list R n (fun i hi => h i (by omega))
    obtain ⟨x, hx⟩ := h n (by omega)
    refine ⟨l ++ [x], by simp [hl], fun i hi => ?_⟩
    by_cases hin : i < n
    · have : nth (l ++ [x]) i = nth l i := by simp [nth, List.getElem?_append_left (show i < l.length by omega)]
      rw [this]; exact hr i hin
    · obtain rfl : i = n := by omega
      have : nth (l ++ [x]) i = x := by simp [nth, ← hl]
      rw [this]; exact hx

theorem spot_of_cell {w : World} {a : Addr} {v : Value} (h : w.cell? (a.add 0) = some v) : a.spot = none := by
  have hs := World.cell?_spot h
  simpa [Addr.add] using hs
theorem addr_of_cell {w : World} {a : Addr} {j : Nat} {v : Value} (hs : a.spot = none) (h : w.cell? (a.add j) = some v) : a = ⟨a.block, a.off, none⟩ ∧ a.block < w.heap.size ∧ w.cell? ⟨a.block, a.off + j, none⟩ = some v := by
  obtain ⟨b, o, s⟩ := a
  dsimp only at hs
  subst hs
  have e : (⟨b, o, none⟩ : Addr).add j = ⟨b, o + j, none⟩ := by
    unfold Addr.add
    split
    · rename_i h; subst h; rfl
    · rfl
  rw [e] at h
  have hb : b < w.heap.size := block_lt_of_cell h
  exact ⟨rfl, hb, h⟩

section
variable {P : Program} {H : Type} {enc : TypeId × Value → H} {w : World} {base b0 : Nat} {spare : Nat → Bool} {held : Bool} {r : Reach} {v : Value} {d : DataW H} {p : List MemPlace}
theorem int_of_trod {t : TypeId} (ht : P.underlying t = some (.int .i64)) (hv : Value.okWide P w r b0 t v) (h : DataW.Trod enc P w base spare held t v d p) :
    ∃ n, v = .int .i64 n ∧ -9223372036854775808 ≤ n ∧ n ≤ 9223372036854775807 := by
  obtain ⟨x, hv, _, _, hw⟩ := open_int ht hv h
  refine ⟨x, hv, ?_⟩
  simp [Lit.wf, IntKind.min, IntKind.max, IntKind.signed, IntKind.bits] at hw
  omega
theorem string_of_trod {t : TypeId} (ht : P.underlying t = some .string) (hv : Value.okWide P w r b0 t v) (h : DataW.Trod enc P w base spare held t v d p) :
    ∃ s, v = .string s ∧ s.size ≤ 9223372036854775807 := by
  obtain ⟨s, hv, _, _, hw⟩ := open_string ht hv h
  exact ⟨s, hv, by simpa [maxLen] using hw⟩
theorem bool_of_trod {t : TypeId} (ht : P.underlying t = some .bool) (hv : Value.okWide P w r b0 t v) (h : DataW.Trod enc P w base spare held t v d p) :
    ∃ b, v = .bool b := by
  obtain ⟨s, hv, _, _⟩ := open_bool ht hv h
  exact ⟨s, hv⟩
theorem ints_of_trod' {t e : TypeId} (ht : P.underlying t = some (.slice e)) (he : P.underlying e = some (.int .i64)) (hc1 : P.cellsOf e = 1) {fuel : Nat} {x : DataW H × List MemPlace} (h : DataW.trod enc P w base spare held fuel t [v] = some x) :
    ∃ l, IntsAt w v l ∧ ∀ n ∈ l, -9223372036854775808 ≤ n ∧ n ≤ 9223372036854775807 := by
  rcases open_slice ht h with ⟨hcs, _⟩ | ⟨a, len, cap, m, n, D, Pl, hcs, _, hl, hm, hmm, hx, hi⟩
  · simp at hcs
    exact ⟨[], ⟨none, 0, 0, hcs, rfl, Nat.le_refl _, by decide, fun i hi => absurd hi (Nat.not_lt_zero _)⟩, fun n hn => by cases hn⟩
  · simp at hcs
    have hlm : len ≤ m := by rw [hmm]; split <;> omega
    have hspot : 0 < len → a.spot = none := fun h0 => by
      obtain ⟨cs', hc, ht'⟩ := hi 0 (by omega)
      rw [hc1] at hc
      obtain ⟨z, rfl, _, hw⟩ := DataW.trod_int he ht'
      obtain ⟨_, hcl, hat⟩ := World.cells?_some hc
      have h0 := hat 0 (by omega)
      rw [Nat.zero_mul, ← Nat.add_zero 0, Go.Deep.add_add] at h0
      exact spot_of_cell h0
    obtain ⟨l, hll, hr⟩ := choose_list (fun i (x : Int) => a = ⟨a.block, a.off, none⟩ ∧ a.block < w.heap.size ∧ w.cell? ⟨a.block, a.off + i, none⟩ = some (.int .i64 x) ∧ -9223372036854775808 ≤ x ∧ x ≤ 9223372036854775807) len (fun i hil => by
      obtain ⟨cs', hc, ht'⟩ := hi i (by omega)
      rw [hc1] at hc
      obtain ⟨z, rfl, _, hw⟩ := DataW.trod_int he ht'
      obtain ⟨_, hcl, hat⟩ := World.cells?_some hc
      have h0 := hat 0 (by omega)
      rw [Nat.mul_one] at h0
      have h1 : w.cell? (a.add i) = some (.int .i64 z) := by rw [← Nat.add_zero i, ← Go.Deep.add_add, h0]; rfl
      obtain ⟨h2, h3, h4⟩ := addr_of_cell (hspot (by omega)) h1
      simp [Lit.wf, IntKind.min, IntKind.max, IntKind.signed, IntKind.bits] at hw
      exact ⟨z, h2, h3, h4, by omega, by omega⟩)
    refine ⟨l, ⟨some a, len, cap, hcs, hll.symm, hl, by simpa [maxLen] using hm, fun i hi => ?_⟩, fun n hn => ?_⟩
    · obtain ⟨ha, hb, hc, _⟩ := hr i (by omega)
      exact ⟨a.block, a.off, by rw [← ha], hb, hc⟩
    · obtain ⟨i, hi, rfl⟩ := List.getElem_of_mem hn
      have := (hr i (by omega)).2.2.2
      rwa [nth_eq l i hi] at this
theorem ints_of_trod {t e : TypeId} (ht : P.underlying t = some (.slice e)) (he : P.underlying e = some (.int .i64)) (hc1 : P.cellsOf e = 1) (hv : Value.okWide P w r b0 t v) (h : DataW.Trod enc P w base spare held t v d p) :
    ∃ l, IntsAt w v l ∧ ∀ n ∈ l, -9223372036854775808 ≤ n ∧ n ≤ 9223372036854775807 := by
  obtain ⟨a, len, cap, rfl⟩ := okWide_slice ht hv
  obtain ⟨fuel, hf⟩ := h
  exact ints_of_trod' ht he hc1 (by simpa [Value.cells] using hf)
theorem query_of_trod {t ti : TypeId} {f0 f1 f2 f3 f4 f5 : Field} (hs : P.underlying t = some (.struct #[f0, f1, f2, f3, f4, f5])) (hone : oneCellFields P #[f0, f1, f2, f3, f4, f5] = true) (hC : P.cellsOf t = 6)
    (h0 : P.underlying f0.type = some (.int .i64)) (h1 : P.underlying f1.type = some (.int .i64)) (h2 : P.underlying f2.type = some (.int .i64)) (h3 : P.underlying f3.type = some (.slice ti)) (h4 : P.underlying f4.type = some (.slice ti)) (h5 : P.underlying f5.type = some .bool)
    (hti : P.underlying ti = some (.int .i64)) (hc1 : P.cellsOf ti = 1)
    (hv : Value.okWide P w r b0 t v) (h : DataW.Trod enc P w base spare held t v d p) :
    ∃ (q : Query) (y z : Value), v = .agg #[.int .i64 q.period, .int .i64 q.props, .int .i64 q.high, y, z, .bool q.canonical] ∧ QAt w q y z ∧
      (-9223372036854775808 ≤ q.period ∧ q.period ≤ 9223372036854775807) ∧ (-9223372036854775808 ≤ q.props ∧ q.props ≤ 9223372036854775807) ∧ (-9223372036854775808 ≤ q.high ∧ q.high ≤ 9223372036854775807) ∧
      (∀ n ∈ q.need, -9223372036854775808 ≤ n ∧ n ≤ 9223372036854775807) ∧ (∀ n ∈ q.avoid, -9223372036854775808 ≤ n ∧ n ≤ 9223372036854775807) := by
  obtain ⟨cs, rfl, hsz⟩ := okWide_struct hs hv
  obtain ⟨l⟩ := cs
  match l, hsz.trans hC with
  | [c0, c1, c2, c3, c4, c5], _ =>
    obtain ⟨fuel, hf⟩ := h
    obtain ⟨xs, n, _, hx, _, hlen, hg⟩ := DataW.trod_struct hs hf
    obtain ⟨o0, k0⟩ := hone_of hone 0 f0 rfl
    obtain ⟨o1, k1⟩ := hone_of hone 1 f1 rfl
    obtain ⟨o2, k2⟩ := hone_of hone 2 f2 rfl
    obtain ⟨o3, k3⟩ := hone_of hone 3 f3 rfl
    obtain ⟨o4, k4⟩ := hone_of hone 4 f4 rfl
    obtain ⟨o5, k5⟩ := hone_of hone 5 f5 rfl
    match xs, hlen with
    | [y0, y1, y2, y3, y4, y5], _ =>
      have g0 : DataW.trod enc P w base spare held n f0.type [c0] = some y0 := by simpa [Value.cells, o0, k0] using hg 0 f0 rfl
      have g1 : DataW.trod enc P w base spare held n f1.type [c1] = some y1 := by simpa [Value.cells, o1, k1] using hg 1 f1 rfl
      have g2 : DataW.trod enc P w base spare held n f2.type [c2] = some y2 := by simpa [Value.cells, o2, k2] using hg 2 f2 rfl
      have g3 : DataW.trod enc P w base spare held n f3.type [c3] = some y3 := by simpa [Value.cells, o3, k3] using hg 3 f3 rfl
      have g4 : DataW.trod enc P w base spare held n f4.type [c4] = some y4 := by simpa [Value.cells, o4, k4] using hg 4 f4 rfl
      have g5 : DataW.trod enc P w base spare held n f5.type [c5] = some y5 := by simpa [Value.cells, o5, k5] using hg 5 f5 rfl
      obtain ⟨n0, e0, _, w0⟩ := DataW.trod_int h0 g0
      obtain ⟨n1, e1, _, w1⟩ := DataW.trod_int h1 g1
      obtain ⟨n2, e2, _, w2⟩ := DataW.trod_int h2 g2
      obtain ⟨l3, i3, r3⟩ := ints_of_trod' h3 hti hc1 g3
      obtain ⟨l4, i4, r4⟩ := ints_of_trod' h4 hti hc1 g4
      obtain ⟨n5, e5, _⟩ := DataW.trod_bool h5 g5
      simp only [List.cons.injEq, and_true] at e0 e1 e2 e5
      subst e0 e1 e2 e5
      simp [Lit.wf, IntKind.min, IntKind.max, IntKind.signed, IntKind.bits] at w0 w1 w2
      exact ⟨⟨n0, n1, n2, l3, l4, n5⟩, c3, c4, rfl, ⟨i3, i4⟩, by dsimp only; omega, by dsimp only; omega, by dsimp only; omega, r3, r4⟩
end
end Go.Proofs.Ytpfjmbgkbildjaa
