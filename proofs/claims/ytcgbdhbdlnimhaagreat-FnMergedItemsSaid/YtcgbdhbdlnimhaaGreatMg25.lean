import Derived.Test.YtcgbdhbdlnimhaaGreatMg24
import Derived.Test.YtcgbdhbdlnimhaaGreatMg11
import Derived.Test.YtcgbdhbdlnimhaaGreatMg23
import Derived.Test.YtcgbdhbdlnimhaaGreatMg5
/- ItemsS: which lists of items are libraries, by the package spec. -/
namespace Go.Proofs.YtcgbdhbdlnimhaaGreat
open Go.ChangeShapes Go.WideShapes Go.ChangeAt Go.RowKit

set_option maxHeartbeats 2000000 in
theorem l22Ok_c (v : Value) (l : List Item) (w : World) (hv : ItemsAt w v l) :
    Calls Tryz.prog 55 #[v] w (Gives (.bool (okItems l)) w) := by
  obtain ⟨a, n, cap, rfl, hn, hl, hm, hc⟩ := hv
  have Hc := Lib.hid hc; clear hc
  have Hn := Lib.hid hn; clear hn
  go_enter Tryz.func55, Tryz.ntmps55
  go_wp2
  go_loopw [3] (fun i wr => ∃ (k : Nat), i = .int .i64 k ∧ k ≤ n ∧ Hid (okTo l k = true) ∧ Below w.heap.size w wr) (fun i _ => n - (intOf i).toNat)
  case atStart => exact ⟨0, rfl, Nat.zero_le _, Lib.hid rfl, Below.refl _ _⟩
  case round =>
    obtain ⟨k, rfl, hk, HS, hb⟩ := hrel
    by_cases hlt : k < n
    · have Hcb := Lib.hid (Hc.out.below hb)
      have Hkl : Hid (k < l.length) := Lib.hid (by rw [← Hn.out]; exact hlt)
      obtain ⟨b, o, pa, pn, pc, rfl, hbs, hsz, hp, c0, c1⟩ := item_cells Hcb.out k Hkl.out
      have HP := Lib.hid hp; clear hp
      have k0 := cell_regrown c0
      have k1 := cell_regrown c1
      clear c0 c1
      have HT : Hid (okItemAt l k = (nameB (chars (nth l k).name) && (okPat (nth l k).pattern && (canIs (nth l k).pattern && (ordAt l k && freshAt l k))))) := Lib.hid rfl
      have q1 := fun W => sIsName_c (nth l k).name W hsz
      have q2 := fun W (x : IntsAt W (.slice pa pn pc) (nth l k).pattern) => l02Ok_c _ _ W x
      have q3 := fun W (x : IntsAt W (.slice pa pn pc) (nth l k).pattern) (ho : okPat (nth l k).pattern = true) => canIs_c _ _ W x ho
      generalize hb1 : nameB (chars (nth l k).name) = b1 at *
      generalize hb2 : okPat (nth l k).pattern = b2 at *
      generalize hb3 : canIs (nth l k).pattern = b3 at *
      clear hb1 hb2 hb3
      have Q1 := Lib.hid q1; clear q1
      have Q2 := Lib.hid q2; clear q2
      have Q3 := Lib.hid q3; clear q3
      rcases (by cases b1 <;> cases b2 <;> cases b3 <;> simp : b1 = false ∨ (b1 = true ∧ b2 = false) ∨ (b1 = true ∧ b2 = true ∧ b3 = false) ∨ (b1 = true ∧ b2 = true ∧ b3 = true)) with rfl | ⟨rfl, rfl⟩ | ⟨rfl, rfl, rfl⟩ | ⟨rfl, rfl, rfl⟩
      iterate 3
        · have HV : Hid (okItems l = false) := Lib.hid (okItems_false Hkl.out HT.out)
          clear HT
          go_wp2
          refine wp_region_quiet_below (by kernel_rfl) (by kernel_rfl) ?_
          repeat (first | go_big_quiet_step (first | exact Calls.regrown_of (Q1.out _) | exact Calls.regrown_of (Q2.out _ (HP.out.below (below_regrown _ _ _))) | exact Calls.regrown_of (Q3.out _ (HP.out.below (below_regrown _ _ _)) (by simp))) | quiet_step (first | exact Calls.regrown_of (Q1.out _) | exact Calls.regrown_of (Q2.out _ (HP.out.below (below_regrown _ _ _))) | exact Calls.regrown_of (Q3.out _ (HP.out.below (below_regrown _ _ _)) (by simp))))
          refine wpQuiet_nil ?_
          intro _ hw'
          obtain ⟨⟨dq, osq⟩, hw''⟩ := hw'
          subst hw''
          have hbq := below_regrown wr dq osq
          generalize Go.Sort.grow (redrawn wr dq) osq = wq at *
          have hb2 := bthen hb hbq
          go_wp2
          go_ret
          exact Gives.bool HV.out hb2
      · have HV : Hid (okItemAt l k = (ordAt l k && freshAt l k)) := Lib.hid HT.out
        clear HT
        cases hO : ordAt l k
        · obtain ⟨hk0, hls⟩ : k ≠ 0 ∧ lessB (nth l (k - 1)).name (nth l k).name = false := by
            unfold ordAt at hO; simpa using hO
          have HV2 : Hid (okItems l = false) := Lib.hid (okItems_false Hkl.out (by rw [HV.out, hO]; rfl))
          obtain ⟨b', o', pa', pn', pc', hab, hbs', -, -, d0, -⟩ := item_cells Hcb.out (k - 1) (by have := Hkl.out; omega)
          cases hab
          have hd : decide (0 < k) = true := decide_eq_true (by omega)
          have hw1 : IntKind.i64.wrap ((k : Int) - 1) = (k : Int) - 1 := IntWalk.i64_in _ (by omega)
          have hi0 : (0 : Int) ≤ (k : Int) - 1 := by omega
          have hi1 : (k : Int) - 1 < (n : Int) := by omega
          have hi2 : ((k : Int) - 1).toNat = k - 1 := by omega
          have g1 := cell_regrown d0
          have hcmp : Op.bytesLess (nth l (k - 1)).name.toList (nth l k).name.toList = false := hls
          clear HV hls hO d0 hk0
          go_wp2
          refine wp_region_quiet_below (by kernel_rfl) (by kernel_rfl) ?_
          repeat (first | go_big_quiet_step (first | exact Calls.regrown_of (Q1.out _) | exact Calls.regrown_of (Q2.out _ (HP.out.below (below_regrown _ _ _))) | exact Calls.regrown_of (Q3.out _ (HP.out.below (below_regrown _ _ _)) (by simp))) | quiet_step (first | exact Calls.regrown_of (Q1.out _) | exact Calls.regrown_of (Q2.out _ (HP.out.below (below_regrown _ _ _))) | exact Calls.regrown_of (Q3.out _ (HP.out.below (below_regrown _ _ _)) (by simp))))
          refine wpQuiet_nil ?_
          intro _ hw'
          obtain ⟨⟨dq, osq⟩, hw''⟩ := hw'
          subst hw''
          have hbq := below_regrown wr dq osq
          generalize Go.Sort.grow (redrawn wr dq) osq = wq at *
          have hb2 := bthen hb hbq
          clear hi2 hi1 hi0 hw1 hd
          go_wp2
          go_ret
          exact Gives.bool HV2.out hb2
        · have HF : Hid (okItemAt l k = freshAt l k) := Lib.hid (by rw [HV.out, hO]; rfl)
          have hkk : k = 0 ∨ (0 < k ∧ lessB (nth l (k - 1)).name (nth l k).name = true) := by
            rcases Nat.eq_zero_or_pos k with h | h
            · exact .inl h
            · unfold ordAt at hO; exact .inr ⟨h, by simpa [show k ≠ 0 by omega] using hO⟩
          clear HV hO
          rcases hkk with h0 | ⟨h0, hls⟩
          · have hd : decide (0 < k) = false := decide_eq_false (by omega)
            have H0 := Lib.hid h0; clear h0
            go_wp2
            refine wp_region_quiet_below (by kernel_rfl) (by kernel_rfl) ?_
            repeat (first | go_big_quiet_step (first | exact Calls.regrown_of (Q1.out _) | exact Calls.regrown_of (Q2.out _ (HP.out.below (below_regrown _ _ _))) | exact Calls.regrown_of (Q3.out _ (HP.out.below (below_regrown _ _ _)) (by simp))) | quiet_step (first | exact Calls.regrown_of (Q1.out _) | exact Calls.regrown_of (Q2.out _ (HP.out.below (below_regrown _ _ _))) | exact Calls.regrown_of (Q3.out _ (HP.out.below (below_regrown _ _ _)) (by simp))))
            refine wpQuiet_nil ?_
            intro _ hw'
            obtain ⟨⟨dq, osq⟩, hw''⟩ := hw'
            subst hw''
            have hbq := below_regrown wr dq osq
            generalize Go.Sort.grow (redrawn wr dq) osq = wq at *
            have hb2 := bthen hb hbq
            obtain rfl : k = 0 := H0.out
            clear hd
            go_wp2
            refine wp_loop_rounds 1 ?_
            rw [rounds_succ]
            go_wp2
            exact ⟨⟨0 + 1, by go_num, hlt, Lib.hid (okTo_step HS.out (by rw [HF.out]; rfl)), hb2⟩, by simp [intOf]; omega⟩
          · obtain ⟨b', o', pa', pn', pc', hab, hbs', -, -, d0, -⟩ := item_cells Hcb.out (k - 1) (by have := Hkl.out; omega)
            cases hab
            have hd : decide (0 < k) = true := decide_eq_true (by omega)
            have hw1 : IntKind.i64.wrap ((k : Int) - 1) = (k : Int) - 1 := IntWalk.i64_in _ (by omega)
            have hi0 : (0 : Int) ≤ (k : Int) - 1 := by omega
            have hi1 : (k : Int) - 1 < (n : Int) := by omega
            have hi2 : ((k : Int) - 1).toNat = k - 1 := by omega
            have g1 := cell_regrown d0
            have hcmp : Op.bytesLess (nth l (k - 1)).name.toList (nth l k).name.toList = true := hls
            clear hls d0
            go_wp2
            refine wp_region_quiet_below (by kernel_rfl) (by kernel_rfl) ?_
            repeat (first | go_big_quiet_step (first | exact Calls.regrown_of (Q1.out _) | exact Calls.regrown_of (Q2.out _ (HP.out.below (below_regrown _ _ _))) | exact Calls.regrown_of (Q3.out _ (HP.out.below (below_regrown _ _ _)) (by simp))) | quiet_step (first | exact Calls.regrown_of (Q1.out _) | exact Calls.regrown_of (Q2.out _ (HP.out.below (below_regrown _ _ _))) | exact Calls.regrown_of (Q3.out _ (HP.out.below (below_regrown _ _ _)) (by simp))))
            refine wpQuiet_nil ?_
            intro _ hw'
            obtain ⟨⟨dq, osq⟩, hw''⟩ := hw'
            subst hw''
            have hbq := below_regrown wr dq osq
            generalize Go.Sort.grow (redrawn wr dq) osq = wq at *
            have hb2 := bthen hb hbq
            have Hcq := Lib.hid (Hcb.out.below hbq)
            clear hi2 hi1 hi0 hw1 hd hcmp g1 k0 k1 Q1 Q2 Q3 HP Hcb
            obtain ⟨wo, rfl⟩ : ∃ wo : World, wo = wr := ⟨_, rfl⟩
            go_wp2
            go_loopw [4] (fun i wx => ∃ (m : Nat), i = .int .i64 m ∧ m ≤ k ∧ Hid (∀ j, j < m → same2 eqI (nth l j).pattern (nth l k).pattern = false) ∧ Below wq.heap.size wq wx) (fun i _ => k - (intOf i).toNat)
            case atStart => exact ⟨0, rfl, Nat.zero_le _, Lib.hid (fun j hj => absurd hj (Nat.not_lt_zero _)), Below.refl _ _⟩
            case round =>
              obtain ⟨m, rfl, hmk, HM, hbx⟩ := hrel
              by_cases hmlt : m < k
              · obtain ⟨b1, o1, xa, xn, xc, hab1, hbs1, -, hpx, -, x1⟩ := item_cells (Hcq.out.below hbx) m (by have := Hkl.out; omega)
                cases hab1
                obtain ⟨b2, o2, ya, yn, yc, hab2, hbs2, -, hpy, -, y1⟩ := item_cells (Hcq.out.below hbx) k Hkl.out
                cases hab2
                have g0 := cell_regrown x1
                have g1 := cell_regrown y1
                have HX := Lib.hid hpx; have HY := Lib.hid hpy
                clear hpx hpy x1 y1
                have KQ := Lib.hid (fun W a b => sSame_c (.slice xa xn xc) (.slice ya yn yc) (nth l m).pattern (nth l k).pattern W a b)
                cases hE : same2 eqI (nth l m).pattern (nth l k).pattern
                all_goals
                  rw [hE] at KQ
                  have HE := Lib.hid hE
                  clear hE
                  go_wp2
                  refine wp_region_quiet_below (by kernel_rfl) (by kernel_rfl) ?_
                  repeat (first | go_big_quiet_step (exact Calls.regrown_of (KQ.out _ (HX.out.below (below_regrown _ _ _)) (HY.out.below (below_regrown _ _ _)))) | quiet_step (exact Calls.regrown_of (KQ.out _ (HX.out.below (below_regrown _ _ _)) (HY.out.below (below_regrown _ _ _)))))
                  refine wpQuiet_nil ?_
                  intro _ hw'
                  obtain ⟨⟨dq, osq⟩, hw''⟩ := hw'
                  subst hw''
                  have hby := below_regrown wr dq osq
                  generalize Go.Sort.grow (redrawn wr dq) osq = wy at *
                  have hb3 := bthen hbx hby
                  go_wp2
                · exact ⟨⟨m + 1, by go_num, hmlt, Lib.hid (fun j hj => by
                    rcases Nat.lt_or_ge j m with h | h
                    · exact HM.out j h
                    · obtain rfl : j = m := by omega
                      exact HE.out), hb3⟩, by simp [intOf]; omega⟩
                · go_ret
                  exact Gives.bool (okItems_false Hkl.out (by rw [HF.out]; exact freshAt_false hmlt HE.out)) (bthen hb2 hb3)
              · go_wp2
                exact ⟨⟨k + 1, by go_num, hlt, Lib.hid (okTo_step HS.out (by rw [HF.out]; exact freshAt_true (fun j hj => HM.out j (by omega)))), bthen hb2 hbx⟩, by simp [intOf]; omega⟩
    · obtain rfl : k = n := by omega
      have HV : Hid (okItems l = decide (k ≤ 60)) := Lib.hid (okItems_end Hn.out HS.out)
      by_cases h60 : k ≤ 60
      · have HW : Hid (okItems l = true) := Lib.hid (by rw [HV.out]; exact decide_eq_true h60)
        clear HV HS
        go_wp2
        go_ret
        exact Gives.bool (by rw [HW.out]; simp; omega) hb
      · have HW : Hid (okItems l = false) := Lib.hid (by rw [HV.out]; exact decide_eq_false h60)
        clear HV HS
        go_wp2
        go_ret
        exact Gives.bool (by rw [HW.out]; simp; omega) hb
end Go.Proofs.YtcgbdhbdlnimhaaGreat

/- TurnP: rotations and roots of patterns, by the package spec. -/
namespace Go.Proofs.YtcgbdhbdlnimhaaGreat
open Go.ChangeShapes Go.WideShapes Go.ChangeAt Go.RowKit

theorem rotatePattern_c (v : Value) (l : List Int) (k : Nat) (w : World) (hv : IntsAt w v l) (hok : okPat l = true) (hk : k ≤ 1000) : Calls Tryz.prog 18 #[v, .int .i64 k] w (GivesIntsC (rotL l k) 0 w) := by
  have hq := l02Ok_c v l w hv
  rw [hok] at hq
  have HQ := Lib.hid hq
  have HV := Lib.hid hv
  have hin := ok_in hok
  have HR := Lib.hid (fun W x => l03Rotate_c v l k W x hin.1 (by omega) hk)
  have HI := Lib.hid (fun W => l00In_c (k : Int) (-1000000) 1000000 W)
  rw [show inB (k : Int) (-1000000) 1000000 = true by unfold inB; simp; omega] at HI
  clear hq hv hin hok
  go_enter Tryz.func18, Tryz.ntmps18
  go_wp2_with (first | (go_at_call 56; refine HQ.out.mono ?_; rintro e w1 ⟨rfl, hb1⟩) | (go_at_call 81; refine (HI.out _).mono ?_; rintro e w2 ⟨rfl, hb2⟩) | (go_at_call 67; refine (HR.out _ (HV.out.below (bthen hb1 hb2))).mono ?_; rintro e w3 ⟨a, n, c, rfl, ho, hb3⟩; have HO := Lib.hid ho; have hb := bthen (bthen hb1 hb2) hb3; have hs := (bthen hb1 hb2).size; clear ho hb1 hb2 hb3) | go_in)
  go_ret2
  exact GivesIntsC.mk rfl (own_mono HO.out hs) hb
end Go.Proofs.YtcgbdhbdlnimhaaGreat
