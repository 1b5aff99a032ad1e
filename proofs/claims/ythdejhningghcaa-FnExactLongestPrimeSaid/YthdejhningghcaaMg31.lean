import Derived.Test.YthdejhningghcaaMg24
import Derived.Test.YthdejhningghcaaMg29
/- PrB: prime patterns, by the package impl: which are prime. -/
namespace Go.Proofs.Ythdejhningghcaa
open Go.ChangeShapes Go.WideShapes Go.ChangeAt Go.RowKit

theorem high_nat {p : List Int} (ho : okPat p = true) : ∃ q : Nat, maxF p 0 = (q : Int) ∧ q ≤ 15 := by
  obtain ⟨h1, h2, h3⟩ := ok_in ho
  obtain ⟨a, b⟩ := maxF_in p 0 0 15 h3 (by omega) (by omega)
  exact ⟨(maxF p 0).toNat, by omega, by omega⟩
theorem ownStates_c (v : Value) (p : List Int) (w : World) (hv : IntsAt w v p) (ho : okPat p = true) : Calls Try.prog 54 #[v] w fun e w' => ∃ a n c, e = .returned (.slice a n c) ∧ OwnSts w' w.heap.size (.slice a n c) (statesL p (ownH p) p.length) ∧ Below w.heap.size w w' := by
  obtain ⟨q, hq, hq15⟩ := high_nat ho
  have HQ := Lib.hid (highest_c v p w hv (okPat_throws ho))
  rw [hq] at HQ
  have hO : ownH p = if q < 1 then 1 else q := by unfold ownH; rw [hq, Int.toNat_natCast]
  have HV := Lib.hid hv
  have HS := Lib.hid (fun h W x y => statesOf_c v p h W x ho y)
  clear hv ho hq
  generalize ownH p = h at *
  go_enter Try.func54, Try.ntmps54
  by_cases h1 : q < 1
  · rw [if_pos h1] at hO
    subst hO
    obtain rfl : q = 0 := by omega
    clear h1 hq15
    go_wp2_with fail
    refine HQ.out.mono ?_
    rintro e w1 ⟨rfl, hb1⟩
    go_wp2_with fail
    refine (HS.out 1 w1 (HV.out.below hb1) (by omega)).mono ?_
    rintro e w2 ⟨a, n, c, rfl, ho2, hb2⟩
    have HO := Lib.hid ho2
    have hs := hb1.size
    clear ho2
    go_wp2
    go_ret
    exact ⟨a, n, c, rfl, own_mono HO.out hs, bthen hb1 hb2⟩
  · rw [if_neg h1] at hO
    subst hO
    have hm : ¬ ((h : Int) < 1) := by omega
    have hm2 : (1 : Int) ≤ (h : Int) := by omega
    go_wp2_with fail
    refine HQ.out.mono ?_
    rintro e w1 ⟨rfl, hb1⟩
    go_wp2_with fail
    refine (HS.out h w1 (HV.out.below hb1) (by omega)).mono ?_
    rintro e w2 ⟨a, n, c, rfl, ho2, hb2⟩
    have HO := Lib.hid ho2
    have hs := hb1.size
    clear ho2
    go_wp2
    go_ret
    exact ⟨a, n, c, rfl, own_mono HO.out hs, bthen hb1 hb2⟩
/-- The masks that are compared. -/
def maskR (p : List Int) (k : Nat) : Nat := if k < p.length then maskTo p k (ownH p) else maskTo p 0 (ownH p)
theorem states_nth (p : List Int) (k : Nat) (hk : k ≤ p.length) : nth (statesL p (ownH p) p.length ++ [((ownH p : Int), ((maskTo p 0 (ownH p) : Nat) : Int))]) k = ((ownH p : Int), ((maskR p k : Nat) : Int)) := by
  have hl : (statesL p (ownH p) p.length).length = p.length := by unfold statesL; simp
  unfold maskR
  by_cases h : k < p.length
  · rw [nth_snoc_lt' _ _ _ (by rw [hl]; exact h), if_pos h]
    unfold statesL
    rw [nth_map' _ _ _ (by simpa using h), nth_eq _ _ (by simpa using h)]; simp
  · obtain rfl : k = p.length := by omega
    rw [if_neg h]
    conv => lhs; arg 2; rw [← hl]
    exact nth_snoc_eq' _ _
set_option maxHeartbeats 1000000 in
theorem firstRepeat_c (v : Value) (p : List Int) (w : World) (hv : IntsAt w v p) (ho : okPat p = true) : Calls Try.prog 37 #[v] w fun e w' => ∃ i k : Nat, e = .returned (.tuple #[.int .i64 i, .int .i64 k]) ∧ (k = p.length ↔ primeB p = true) ∧ Below w.heap.size w w' := by
  have HQ := Lib.hid (ownStates_c v p w hv ho)
  obtain ⟨hp1, hp12, -⟩ := ok_in ho
  have HNth := Lib.hid (fun k hk => states_nth p k hk)
  have HM0 : Hid (maskR p p.length = maskR p 0) := Lib.hid (by unfold maskR; rw [if_neg (Nat.lt_irrefl _), if_pos (show 0 < p.length from hp1)])
  have HRow : Hid (∀ k, k < p.length → (∀ i, i < k → maskR p i ≠ maskR p k) → rowApart p k = true) := Lib.hid (fun k hk h => by
    unfold rowApart
    rw [List.all_eq_true]
    intro i hi
    have hi := List.mem_range.1 hi
    have := h i hi
    unfold maskR at this
    rw [if_pos hk, if_pos (by omega)] at this
    simp [this])
  have HEq : Hid (∀ k i, k < p.length → i < k → maskR p i = maskR p k → primeB p = false) := Lib.hid (fun k i hk hi h => by
    unfold maskR at h
    rw [if_pos hk, if_pos (by omega)] at h
    unfold primeB
    rw [List.all_eq_false]
    refine ⟨k, List.mem_range.2 hk, ?_⟩
    unfold rowApart
    rw [Bool.not_eq_true, List.all_eq_false]
    exact ⟨i, List.mem_range.2 hi, by simp [h]⟩)
  have HAll : Hid ((∀ k, k < p.length → rowApart p k = true) → primeB p = true) := Lib.hid (fun h => by
    unfold primeB
    rw [List.all_eq_true]
    exact fun k hk => h k (List.mem_range.1 hk))
  have hl : (statesL p (ownH p) p.length).length = p.length := by unfold statesL; simp
  have HS0 : Hid (nth (statesL p (ownH p) p.length) 0 = ((ownH p : Int), ((maskTo p 0 (ownH p) : Nat) : Int))) := Lib.hid (by
    unfold statesL
    rw [nth_map' _ _ _ (by simp; omega), nth_eq _ _ (by simp; omega)]; simp)
  have HLen := Lib.hid hl
  clear hv ho hl
  generalize primeB p = pr at *
  generalize hn : p.length = n at *
  go_enter Try.func37, Try.ntmps37
  go_wp2_with fail
  refine HQ.out.mono ?_
  rintro e w1 ⟨a, m, c, rfl, ho1, hb1⟩
  have hm : m = n := by
    obtain ⟨_, _, e⟩ := slice_of_own ho1
    injection e with _ e2 _
    rw [e2, HLen.out]
  subst hm
  obtain ⟨g, rfl, hg⟩ : ∃ g, a = some ⟨g, 0, none⟩ ∧ w.heap.size ≤ g := by
    obtain ⟨g, cap, e, h1, h2⟩ := World.ownsRow.form ho1 (by rw [HLen.out]; omega)
    injection e with e1
    exact ⟨g, e1, h1⟩
  have hc := sts_cell ho1 (i := 0) (by rw [HLen.out]; omega)
  rw [HS0.out] at hc
  obtain ⟨c0, c1⟩ := hc
  simp only [Nat.zero_mul, Nat.zero_add] at c0 c1
  have HO := Lib.hid ho1
  have hs1 := hb1.size
  clear ho1 HQ HS0
  go_wp2_with (at_builtin; refine wpList_app_sts rfl _ _ rfl w.heap.size _ _ rfl (World.ownsRow.alloc HO.out _) _ _ ((ownH p : Int), ((maskTo p 0 (ownH p) : Nat) : Int)) rfl (oneSt _ _ _ _) (by rw [HLen.out]; omega) (by simp; omega) ?_)
  intro a2 c2 w2 ho2 hg2 hl2
  have hb2 : Below w.heap.size w w2 := (hb1.alloc (by omega) _).grown hg2 (by simp; omega) (fun g hg => (World.ownsRow.lt HO.out g hg).1)
  rw [HLen.out] at ho2
  obtain ⟨g2, rfl, hg22, hg2s⟩ : ∃ g, a2 = some ⟨g, 0, none⟩ ∧ w.heap.size ≤ g ∧ g < w2.heap.size := by
    obtain ⟨g, cap, e, h1, h2⟩ := World.ownsRow.form ho2 (by simp)
    injection e with e1
    exact ⟨g, e1, h1, h2⟩
  have HC : Hid (∀ k, k ≤ m → w2.cell? ⟨g2, k * 2, none⟩ = some (.int .i64 (ownH p)) ∧ w2.cell? ⟨g2, k * 2 + 1, none⟩ = some (.int .i64 ((maskR p k : Nat) : Int))) := Lib.hid (fun k hk => by
    have h1 := sts_cell ho2 (i := k) (by rw [List.length_append, HLen.out]; simp; omega)
    rw [HNth.out k hk] at h1
    exact h1)
  rw [HLen.out]
  clear ho2 hg2 hl2 HO c0 c1 hg hb1 hs1 HNth
  generalize ownH p = H at *
  go_wp2
  go_loopw [17] (fun i wr => ∃ k : Nat, i = .int .i64 k ∧ k ≤ m ∧ Hid (∀ j, j < k → rowApart p j = true) ∧ Below w2.heap.size w2 wr) (fun i _ => m + 1 - (intOf i).toNat)
  case atStart => exact ⟨0, rfl, Nat.zero_le _, Lib.hid (fun j hj => absurd hj (Nat.not_lt_zero _)), Below.refl _ _⟩
  case round =>
    obtain ⟨k, rfl, hk, HR, hb⟩ := hrel
    have hk1 : k < m + 1 := by omega
    go_wp2
    go_loopw [21] (fun i wq => ∃ j : Nat, i = .int .i64 j ∧ j ≤ k ∧ Hid (k < m → ∀ i, i < j → maskR p i ≠ maskR p k) ∧ (k = m → j = 0) ∧ Below w2.heap.size w2 wq) (fun i _ => k - (intOf i).toNat)
    case atStart => exact ⟨0, rfl, Nat.zero_le _, Lib.hid (fun _ i hi => absurd hi (Nat.not_lt_zero _)), fun _ => rfl, hb⟩
    case round =>
      obtain ⟨j, rfl, hj, HJ, hjm, hbq⟩ := hrel
      by_cases hjk : j < k
      · have cj := HC.out j (by omega)
        have ck := HC.out k hk
        obtain ⟨x0, x1⟩ := cj
        obtain ⟨y0, y1⟩ := ck
        replace x0 := cell_then hg2s x0 hbq
        replace x1 := cell_then hg2s x1 hbq
        replace y0 := cell_then hg2s y0 hbq
        replace y1 := cell_then hg2s y1 hbq
        have hj1 : j < m + 1 := by omega
        by_cases hE : maskR p j = maskR p k
        · have HEnd : Hid (k = m ↔ pr = true) := Lib.hid (by
            by_cases hkm : k = m
            · subst hkm
              exact ⟨fun _ => HAll.out (fun i hi => HR.out i hi), fun _ => rfl⟩
            · have := HEq.out k j (by omega) hjk hE
              rw [this]
              exact ⟨fun h => absurd h hkm, fun h => absurd h (by decide)⟩)
          rw [hE] at x1
          generalize maskR p k = M at *
          clear HJ HR hjm hE
          go_wp2
          go_quiet (fail)
          go_wp2
          go_ret2
          exact ⟨j, k, rfl, HEnd.out, bthen hb2 (below_drewN hbq _)⟩
        · have hkm : k < m := by
            refine Nat.lt_of_le_of_ne hk fun h => ?_
            have hj0 := hjm h
            apply hE
            rw [h, hj0, HM0.out]
          have HJ2 : Hid (k < m → ∀ i, i < j + 1 → maskR p i ≠ maskR p k) := Lib.hid (fun h i hi => by
            rcases Nat.lt_succ_iff_lt_or_eq.1 hi with h1 | rfl
            · exact HJ.out h i h1
            · exact hE)
          have hEI : ¬ ((maskR p j : Nat) : Int) = ((maskR p k : Nat) : Int) := fun h => hE (Int.ofNat_inj.1 h)
          have hEb : (((maskR p j : Nat) : Int) == ((maskR p k : Nat) : Int)) = false := beq_eq_false_iff_ne.2 hEI
          generalize maskR p k = M at *
          generalize maskR p j = M' at *
          clear HJ hE hjm
          go_wp2
          go_quiet (fail)
          go_wp2
          exact ⟨⟨j + 1, by go_num, hjk, HJ2, fun h => absurd h (by omega), below_drewN hbq _⟩, by simp [intOf]; omega⟩
      · obtain rfl : j = k := by omega
        have hjn : j < m := by
          refine Nat.lt_of_le_of_ne hk fun h => ?_
          have := hjm h
          omega
        have HR2 : Hid (∀ i, i < j + 1 → rowApart p i = true) := Lib.hid (fun i hi => by
          rcases Nat.lt_succ_iff_lt_or_eq.1 hi with h1 | rfl
          · exact HR.out i h1
          · exact HRow.out i hjn (HJ.out hjn))
        clear HR HJ hjm
        go_wp2
        exact ⟨⟨j + 1, by go_num, hjn, HR2, hbq⟩, by simp [intOf]; omega⟩
theorem isLow_c (v : Value) (p : List Int) (w : World) (hv : IntsAt w v p) (ho : okPat p = true) (hh : ∀ x ∈ p, x ≤ 10) : Calls Try.prog 36 #[v] w (Gives (.bool true) w) := by
  have HV := Lib.hid hv
  have HQ := Lib.hid (validPattern_c v p w hv)
  rw [ho] at HQ
  have HM := Lib.hid (fun W x => highest_c v p W x (okPat_throws ho))
  have hm : maxF p 0 ≤ 10 := (maxF_in p 0 0 10 (fun x hx => ⟨((ok_in ho).2.2 x hx).1, hh x hx⟩) (by omega) (by omega)).2
  generalize maxF p 0 = M at *
  clear hv ho hh
  go_enter Try.func36, Try.ntmps36
  go_wp2_with fail
  refine HQ.out.mono ?_
  rintro e w1 ⟨rfl, hb1⟩
  clear HQ
  go_wp2_with fail
  refine (HM.out w1 (HV.out.below hb1)).mono ?_
  rintro e w2 ⟨rfl, hb2⟩
  have hd : decide (M ≤ 10) = true := decide_eq_true hm
  go_wp2
  go_ret
  exact Gives.bool rfl (bthen hb1 hb2)
theorem isPrime_c (v : Value) (p : List Int) (w : World) (hv : IntsAt w v p) (ho : okPat p = true) (hh : ∀ x ∈ p, x ≤ 10) : Calls Try.prog 26 #[v] w (Gives (.bool (primeB p)) w) := by
  have HQ := Lib.hid (isLow_c v p w hv ho hh)
  have HF := Lib.hid (fun W x => firstRepeat_c v p W x ho)
  have HV := Lib.hid hv
  obtain ⟨a, n, cap, rfl, hn, -, -, -⟩ := hv
  have h12 := (ok_in ho).2.1
  rw [← hn] at HF
  clear hn ho hh
  generalize primeB p = pr at *
  go_enter Try.func26, Try.ntmps26
  go_wp2_with fail
  refine HQ.out.mono ?_
  rintro e w1 ⟨rfl, hb1⟩
  clear HQ
  go_wp2_with fail
  refine (HF.out w1 (HV.out.below hb1)).mono ?_
  rintro e w2 ⟨i, k, rfl, hkn, hb2⟩
  have hb := bthen hb1 hb2
  have hbe : ((k : Int) == (n : Int)) = pr := by
    cases pr
    · exact beq_eq_false_iff_ne.2 (fun h => absurd (hkn.1 (Int.ofNat_inj.1 h)) (by decide))
    · exact beq_iff_eq.2 (Int.ofNat_inj.2 (hkn.2 rfl))
  have HBe := Lib.hid hbe
  clear hbe HF hkn
  go_wp2
  go_ret
  exact Gives.bool HBe.out.symm hb
end Go.Proofs.Ythdejhningghcaa
