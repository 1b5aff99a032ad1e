import Derived.Test.YtclffohjpbmnbaaGreatDoorMg36
import Derived.Test.YtclffohjpbmnbaaGreatDoorMg48
import Derived.Test.YtclffohjpbmnbaaGreatDoorMg52
import Derived.Test.YtclffohjpbmnbaaGreatDoorMg38
import Derived.Test.YtclffohjpbmnbaaGreatDoorMg4
import Derived.Test.YtclffohjpbmnbaaGreatDoorMg53
import Derived.Deep.RegionHeld3
/- LawPc: the walk of the law FnPracticed, and its card. -/
namespace Go.Proofs.YtclffohjpbmnbaaGreatDoor
open Go.ChangeShapes Go.WideShapes Go.ChangeAt Go.RowKit

theorem attsBelow {w w' : World} {v : Value} {l : List Att} (h : AttsAt w v l) (hb : Below w.heap.size w w') : AttsAt w' v l := NestAt.below h hb
theorem intssBelow {w w' : World} {v : Value} {l : List (List Int)} (h : IntssAt w v l) (hb : Below w.heap.size w w') : IntssAt w' v l := NestAt.below h hb
theorem eqA_self (l : List Att) : same2 eqAttB l l = true := by
  induction l with
  | nil => rfl
  | cons x l ih => simp [same2, eqAttB, (same2_iff eqI eqI_iff x.pattern x.pattern).2 rfl, ih]
set_option maxRecDepth 100000 in
set_option maxHeartbeats 8000000 in
theorem fnPracticed_walk (v : Value) (cs : List Int) (w : World) (hv : BytesAt w v cs) (hin : ∀ x ∈ cs, 0 ≤ x ∧ x ≤ 255) (ht : TabW w) : Calls Tryz.prog 4 #[v] w (Gives (.bool true) w) := by
  have HTab := Lib.hid ht
  clear ht
  have HV := Lib.hid hv
  have Hin := Lib.hid hin
  have HFB := Lib.hid (f6big_c v cs w hv)
  clear hv hin
  by_cases hl : 4096 < cs.length
  · rw [decide_eq_true hl] at HFB
    clear hl
    go_enter Tryz.func4, Tryz.ntmps4
    go_wp2_with fail
    refine HFB.out.mono ?_
    rintro e w1 ⟨rfl, hb1⟩
    go_wp2
    go_ret
    exact Gives.bool rfl hb1
  rw [decide_eq_false hl] at HFB
  have Hcl : Hid (cs.length ≤ 4096) := Lib.hid (by omega)
  clear hl
  go_enter Tryz.func4, Tryz.ntmps4
  go_wp2_with fail
  refine HFB.out.mono ?_
  rintro e w1 ⟨rfl, hb0⟩
  clear HFB
  have HT9 := Lib.hid (HTab.out.below hb0)
  clear HTab
  have HTab := HT9
  clear HT9
  go_wp2_with fail
  refine (drawPracticedOf_c v cs w1 (HV.out.below hb0) Hin.out Hcl.out).mono ?_
  rintro e w2 ⟨la, ln, lc, L, rfl, -, hl, hb⟩
  try (have Hn1 := Lib.hid (NestAt.below HL.out hb); clear HL; have HL := Hn1; clear Hn1)
  try (have Hn1 := Lib.hid (NestAt.below HX.out hb); clear HX; have HX := Hn1; clear Hn1)
  try (have Hn1 := Lib.hid (NestAt.below HM.out hb); clear HM; have HM := Hn1; clear Hn1)
  try (have Hn1 := Lib.hid (NestAt.below HT.out hb); clear HT; have HT := Hn1; clear Hn1)
  try (have Hn1 := Lib.hid (NestAt.below HR.out hb); clear HR; have HR := Hn1; clear Hn1)
  try (have Hn1 := Lib.hid (NestAt.below HY.out hb); clear HY; have HY := Hn1; clear Hn1)
  try (have Hn1 := Lib.hid (NestAt.below HZ.out hb); clear HZ; have HZ := Hn1; clear Hn1)
  try (have Hn1 := Lib.hid (NestAt.below HA.out hb); clear HA; have HA := Hn1; clear Hn1)
  try (have Hn1 := Lib.hid (NestAt.below HB.out hb); clear HB; have HB := Hn1; clear Hn1)
  try (have Hn1 := Lib.hid (HTab.out.below hb); clear HTab; have HTab := Hn1; clear Hn1)
  have Hn2 := bthen hb0 hb
  clear hb0 hb
  have hb0 := Hn2
  clear Hn2
  have HL := Lib.hid hl
  clear hl
  go_wp2_with fail
  refine (iPracticedOf_c _ L w2 HL.out).mono ?_
  rintro e w3 ⟨xa, xn, xc, rfl, ho, hb⟩
  try (have Hn1 := Lib.hid (NestAt.below HL.out hb); clear HL; have HL := Hn1; clear Hn1)
  try (have Hn1 := Lib.hid (NestAt.below HX.out hb); clear HX; have HX := Hn1; clear Hn1)
  try (have Hn1 := Lib.hid (NestAt.below HM.out hb); clear HM; have HM := Hn1; clear Hn1)
  try (have Hn1 := Lib.hid (NestAt.below HT.out hb); clear HT; have HT := Hn1; clear Hn1)
  try (have Hn1 := Lib.hid (NestAt.below HR.out hb); clear HR; have HR := Hn1; clear Hn1)
  try (have Hn1 := Lib.hid (NestAt.below HY.out hb); clear HY; have HY := Hn1; clear Hn1)
  try (have Hn1 := Lib.hid (NestAt.below HZ.out hb); clear HZ; have HZ := Hn1; clear Hn1)
  try (have Hn1 := Lib.hid (NestAt.below HA.out hb); clear HA; have HA := Hn1; clear Hn1)
  try (have Hn1 := Lib.hid (NestAt.below HB.out hb); clear HB; have HB := Hn1; clear Hn1)
  try (have Hn1 := Lib.hid (HTab.out.below hb); clear HTab; have HTab := Hn1; clear Hn1)
  have Hn2 := bthen hb0 hb
  clear hb0 hb
  have hb0 := Hn2
  clear Hn2
  have HX := Lib.hid (OwnIntss.at ho)
  clear ho
  go_wp2_with fail
  refine (sPracticedOf_c _ L w3 HL.out).mono ?_
  rintro e w4 ⟨ma, mn, mc, rfl, ho, hb⟩
  try (have Hn1 := Lib.hid (NestAt.below HL.out hb); clear HL; have HL := Hn1; clear Hn1)
  try (have Hn1 := Lib.hid (NestAt.below HX.out hb); clear HX; have HX := Hn1; clear Hn1)
  try (have Hn1 := Lib.hid (NestAt.below HM.out hb); clear HM; have HM := Hn1; clear Hn1)
  try (have Hn1 := Lib.hid (NestAt.below HT.out hb); clear HT; have HT := Hn1; clear Hn1)
  try (have Hn1 := Lib.hid (NestAt.below HR.out hb); clear HR; have HR := Hn1; clear Hn1)
  try (have Hn1 := Lib.hid (NestAt.below HY.out hb); clear HY; have HY := Hn1; clear Hn1)
  try (have Hn1 := Lib.hid (NestAt.below HZ.out hb); clear HZ; have HZ := Hn1; clear Hn1)
  try (have Hn1 := Lib.hid (NestAt.below HA.out hb); clear HA; have HA := Hn1; clear Hn1)
  try (have Hn1 := Lib.hid (NestAt.below HB.out hb); clear HB; have HB := Hn1; clear Hn1)
  try (have Hn1 := Lib.hid (HTab.out.below hb); clear HTab; have HTab := Hn1; clear Hn1)
  have Hn2 := bthen hb0 hb
  clear hb0 hb
  have hb0 := Hn2
  clear Hn2
  have HM := Lib.hid (OwnIntss.at ho)
  clear ho
  go_wp2_with fail
  refine (iLongestStreak_c _ L w4 HL.out).mono ?_
  rintro e w5 ⟨rfl, hb⟩
  try (have Hn1 := Lib.hid (NestAt.below HL.out hb); clear HL; have HL := Hn1; clear Hn1)
  try (have Hn1 := Lib.hid (NestAt.below HX.out hb); clear HX; have HX := Hn1; clear Hn1)
  try (have Hn1 := Lib.hid (NestAt.below HM.out hb); clear HM; have HM := Hn1; clear Hn1)
  try (have Hn1 := Lib.hid (NestAt.below HT.out hb); clear HT; have HT := Hn1; clear Hn1)
  try (have Hn1 := Lib.hid (NestAt.below HR.out hb); clear HR; have HR := Hn1; clear Hn1)
  try (have Hn1 := Lib.hid (NestAt.below HY.out hb); clear HY; have HY := Hn1; clear Hn1)
  try (have Hn1 := Lib.hid (NestAt.below HZ.out hb); clear HZ; have HZ := Hn1; clear Hn1)
  try (have Hn1 := Lib.hid (NestAt.below HA.out hb); clear HA; have HA := Hn1; clear Hn1)
  try (have Hn1 := Lib.hid (NestAt.below HB.out hb); clear HB; have HB := Hn1; clear Hn1)
  try (have Hn1 := Lib.hid (HTab.out.below hb); clear HTab; have HTab := Hn1; clear Hn1)
  have Hn2 := bthen hb0 hb
  clear hb0 hb
  have hb0 := Hn2
  clear Hn2
  go_wp2_with fail
  refine (sLongestStreak_c _ L w5 HL.out).mono ?_
  rintro e w6 ⟨rfl, hb⟩
  try (have Hn1 := Lib.hid (NestAt.below HL.out hb); clear HL; have HL := Hn1; clear Hn1)
  try (have Hn1 := Lib.hid (NestAt.below HX.out hb); clear HX; have HX := Hn1; clear Hn1)
  try (have Hn1 := Lib.hid (NestAt.below HM.out hb); clear HM; have HM := Hn1; clear Hn1)
  try (have Hn1 := Lib.hid (NestAt.below HT.out hb); clear HT; have HT := Hn1; clear Hn1)
  try (have Hn1 := Lib.hid (NestAt.below HR.out hb); clear HR; have HR := Hn1; clear Hn1)
  try (have Hn1 := Lib.hid (NestAt.below HY.out hb); clear HY; have HY := Hn1; clear Hn1)
  try (have Hn1 := Lib.hid (NestAt.below HZ.out hb); clear HZ; have HZ := Hn1; clear Hn1)
  try (have Hn1 := Lib.hid (NestAt.below HA.out hb); clear HA; have HA := Hn1; clear Hn1)
  try (have Hn1 := Lib.hid (NestAt.below HB.out hb); clear HB; have HB := Hn1; clear Hn1)
  try (have Hn1 := Lib.hid (HTab.out.below hb); clear HTab; have HTab := Hn1; clear Hn1)
  have Hn2 := bthen hb0 hb
  clear hb0 hb
  have hb0 := Hn2
  clear Hn2
  have Hskl : Hid (streakA L ≤ (L.length : Int)) := Lib.hid (streakA_le L)
  generalize hpc : pracC L = pcd at *
  have HPc := Lib.hid hpc
  clear hpc
  generalize streakA L = sk at *
  generalize streakB L = skb at *
  go_wp2_with fail
  refine (drawAttemptsText_c v cs w6 (HV.out.below hb0) Hin.out Hcl.out).mono ?_
  rintro e w7 ⟨ta, tn, tc, T, rfl, -, hl, hb⟩
  try (have Hn1 := Lib.hid (NestAt.below HL.out hb); clear HL; have HL := Hn1; clear Hn1)
  try (have Hn1 := Lib.hid (NestAt.below HX.out hb); clear HX; have HX := Hn1; clear Hn1)
  try (have Hn1 := Lib.hid (NestAt.below HM.out hb); clear HM; have HM := Hn1; clear Hn1)
  try (have Hn1 := Lib.hid (NestAt.below HT.out hb); clear HT; have HT := Hn1; clear Hn1)
  try (have Hn1 := Lib.hid (NestAt.below HR.out hb); clear HR; have HR := Hn1; clear Hn1)
  try (have Hn1 := Lib.hid (NestAt.below HY.out hb); clear HY; have HY := Hn1; clear Hn1)
  try (have Hn1 := Lib.hid (NestAt.below HZ.out hb); clear HZ; have HZ := Hn1; clear Hn1)
  try (have Hn1 := Lib.hid (NestAt.below HA.out hb); clear HA; have HA := Hn1; clear Hn1)
  try (have Hn1 := Lib.hid (NestAt.below HB.out hb); clear HB; have HB := Hn1; clear Hn1)
  try (have Hn1 := Lib.hid (HTab.out.below hb); clear HTab; have HTab := Hn1; clear Hn1)
  have Hn2 := bthen hb0 hb
  clear hb0 hb
  have hb0 := Hn2
  clear Hn2
  have HT := Lib.hid hl
  clear hl
  go_wp2_with fail
  refine (iAttemptsText_c _ T w7 HT.out HTab.out).mono ?_
  rintro e w8 ⟨rfl, hb⟩
  try (have Hn1 := Lib.hid (NestAt.below HL.out hb); clear HL; have HL := Hn1; clear Hn1)
  try (have Hn1 := Lib.hid (NestAt.below HX.out hb); clear HX; have HX := Hn1; clear Hn1)
  try (have Hn1 := Lib.hid (NestAt.below HM.out hb); clear HM; have HM := Hn1; clear Hn1)
  try (have Hn1 := Lib.hid (NestAt.below HT.out hb); clear HT; have HT := Hn1; clear Hn1)
  try (have Hn1 := Lib.hid (NestAt.below HR.out hb); clear HR; have HR := Hn1; clear Hn1)
  try (have Hn1 := Lib.hid (NestAt.below HY.out hb); clear HY; have HY := Hn1; clear Hn1)
  try (have Hn1 := Lib.hid (NestAt.below HZ.out hb); clear HZ; have HZ := Hn1; clear Hn1)
  try (have Hn1 := Lib.hid (NestAt.below HA.out hb); clear HA; have HA := Hn1; clear Hn1)
  try (have Hn1 := Lib.hid (NestAt.below HB.out hb); clear HB; have HB := Hn1; clear Hn1)
  try (have Hn1 := Lib.hid (HTab.out.below hb); clear HTab; have HTab := Hn1; clear Hn1)
  have Hn2 := bthen hb0 hb
  clear hb0 hb
  have hb0 := Hn2
  clear Hn2
  obtain ⟨hsz, hrt⟩ := attsText_law T
  have HS2 := Lib.hid (fun W x => sAttemptsText_c (.slice ta tn tc) T W x)
  generalize attsTextB T = TB at *
  have Hrt := Lib.hid hrt
  clear hrt
  go_wp2_with fail
  refine (iReadAttempts_c TB w8 (by omega) HTab.out).mono ?_
  rintro e w9 ⟨ba, bn, bc, rfl, ho, hb⟩
  try (have Hn1 := Lib.hid (NestAt.below HL.out hb); clear HL; have HL := Hn1; clear Hn1)
  try (have Hn1 := Lib.hid (NestAt.below HX.out hb); clear HX; have HX := Hn1; clear Hn1)
  try (have Hn1 := Lib.hid (NestAt.below HM.out hb); clear HM; have HM := Hn1; clear Hn1)
  try (have Hn1 := Lib.hid (NestAt.below HT.out hb); clear HT; have HT := Hn1; clear Hn1)
  try (have Hn1 := Lib.hid (NestAt.below HR.out hb); clear HR; have HR := Hn1; clear Hn1)
  try (have Hn1 := Lib.hid (NestAt.below HY.out hb); clear HY; have HY := Hn1; clear Hn1)
  try (have Hn1 := Lib.hid (NestAt.below HZ.out hb); clear HZ; have HZ := Hn1; clear Hn1)
  try (have Hn1 := Lib.hid (NestAt.below HA.out hb); clear HA; have HA := Hn1; clear Hn1)
  try (have Hn1 := Lib.hid (NestAt.below HB.out hb); clear HB; have HB := Hn1; clear Hn1)
  try (have Hn1 := Lib.hid (HTab.out.below hb); clear HTab; have HTab := Hn1; clear Hn1)
  have Hn2 := bthen hb0 hb
  clear hb0 hb
  have hb0 := Hn2
  clear Hn2
  have HR := Lib.hid (OwnNest.at ho)
  clear ho
  go_wp2_with fail
  refine (drawReadAttempts_c v cs w9 (HV.out.below hb0) Hin.out Hcl.out).mono ?_
  rintro e w10 ⟨s, rfl, hs, hb⟩
  try (have Hn1 := Lib.hid (NestAt.below HL.out hb); clear HL; have HL := Hn1; clear Hn1)
  try (have Hn1 := Lib.hid (NestAt.below HX.out hb); clear HX; have HX := Hn1; clear Hn1)
  try (have Hn1 := Lib.hid (NestAt.below HM.out hb); clear HM; have HM := Hn1; clear Hn1)
  try (have Hn1 := Lib.hid (NestAt.below HT.out hb); clear HT; have HT := Hn1; clear Hn1)
  try (have Hn1 := Lib.hid (NestAt.below HR.out hb); clear HR; have HR := Hn1; clear Hn1)
  try (have Hn1 := Lib.hid (NestAt.below HY.out hb); clear HY; have HY := Hn1; clear Hn1)
  try (have Hn1 := Lib.hid (NestAt.below HZ.out hb); clear HZ; have HZ := Hn1; clear Hn1)
  try (have Hn1 := Lib.hid (NestAt.below HA.out hb); clear HA; have HA := Hn1; clear Hn1)
  try (have Hn1 := Lib.hid (NestAt.below HB.out hb); clear HB; have HB := Hn1; clear Hn1)
  try (have Hn1 := Lib.hid (HTab.out.below hb); clear HTab; have HTab := Hn1; clear Hn1)
  have Hn2 := bthen hb0 hb
  clear hb0 hb
  have hb0 := Hn2
  clear Hn2
  go_wp2_with fail
  refine (iReadAttempts_c s w10 (by omega) HTab.out).mono ?_
  rintro e w11 ⟨ya, yn, yc, rfl, ho, hb⟩
  try (have Hn1 := Lib.hid (NestAt.below HL.out hb); clear HL; have HL := Hn1; clear Hn1)
  try (have Hn1 := Lib.hid (NestAt.below HX.out hb); clear HX; have HX := Hn1; clear Hn1)
  try (have Hn1 := Lib.hid (NestAt.below HM.out hb); clear HM; have HM := Hn1; clear Hn1)
  try (have Hn1 := Lib.hid (NestAt.below HT.out hb); clear HT; have HT := Hn1; clear Hn1)
  try (have Hn1 := Lib.hid (NestAt.below HR.out hb); clear HR; have HR := Hn1; clear Hn1)
  try (have Hn1 := Lib.hid (NestAt.below HY.out hb); clear HY; have HY := Hn1; clear Hn1)
  try (have Hn1 := Lib.hid (NestAt.below HZ.out hb); clear HZ; have HZ := Hn1; clear Hn1)
  try (have Hn1 := Lib.hid (NestAt.below HA.out hb); clear HA; have HA := Hn1; clear Hn1)
  try (have Hn1 := Lib.hid (NestAt.below HB.out hb); clear HB; have HB := Hn1; clear Hn1)
  try (have Hn1 := Lib.hid (HTab.out.below hb); clear HTab; have HTab := Hn1; clear Hn1)
  have Hn2 := bthen hb0 hb
  clear hb0 hb
  have hb0 := Hn2
  clear Hn2
  have HY := Lib.hid (OwnNest.at ho)
  clear ho
  go_wp2_with fail
  refine (sReadAttempts_c s w11 (by omega)).mono ?_
  rintro e w12 ⟨za, zn, zc, rfl, ho, hb⟩
  try (have Hn1 := Lib.hid (NestAt.below HL.out hb); clear HL; have HL := Hn1; clear Hn1)
  try (have Hn1 := Lib.hid (NestAt.below HX.out hb); clear HX; have HX := Hn1; clear Hn1)
  try (have Hn1 := Lib.hid (NestAt.below HM.out hb); clear HM; have HM := Hn1; clear Hn1)
  try (have Hn1 := Lib.hid (NestAt.below HT.out hb); clear HT; have HT := Hn1; clear Hn1)
  try (have Hn1 := Lib.hid (NestAt.below HR.out hb); clear HR; have HR := Hn1; clear Hn1)
  try (have Hn1 := Lib.hid (NestAt.below HY.out hb); clear HY; have HY := Hn1; clear Hn1)
  try (have Hn1 := Lib.hid (NestAt.below HZ.out hb); clear HZ; have HZ := Hn1; clear Hn1)
  try (have Hn1 := Lib.hid (NestAt.below HA.out hb); clear HA; have HA := Hn1; clear Hn1)
  try (have Hn1 := Lib.hid (NestAt.below HB.out hb); clear HB; have HB := Hn1; clear Hn1)
  try (have Hn1 := Lib.hid (HTab.out.below hb); clear HTab; have HTab := Hn1; clear Hn1)
  have Hn2 := bthen hb0 hb
  clear hb0 hb
  have hb0 := Hn2
  clear Hn2
  have HZ := Lib.hid (OwnNest.at ho)
  clear ho
  generalize raL (chars s) = YL at *
  generalize raOk (chars s) = yok at *
  go_wp2_with fail
  refine (drawSameAttempts_c v cs w12 (HV.out.below hb0) Hin.out Hcl.out).mono ?_
  rintro e w13 ⟨aa, an, ac, ba', bn', bc', A, B, rfl, hl, hm, hb⟩
  try (have Hn1 := Lib.hid (NestAt.below HL.out hb); clear HL; have HL := Hn1; clear Hn1)
  try (have Hn1 := Lib.hid (NestAt.below HX.out hb); clear HX; have HX := Hn1; clear Hn1)
  try (have Hn1 := Lib.hid (NestAt.below HM.out hb); clear HM; have HM := Hn1; clear Hn1)
  try (have Hn1 := Lib.hid (NestAt.below HT.out hb); clear HT; have HT := Hn1; clear Hn1)
  try (have Hn1 := Lib.hid (NestAt.below HR.out hb); clear HR; have HR := Hn1; clear Hn1)
  try (have Hn1 := Lib.hid (NestAt.below HY.out hb); clear HY; have HY := Hn1; clear Hn1)
  try (have Hn1 := Lib.hid (NestAt.below HZ.out hb); clear HZ; have HZ := Hn1; clear Hn1)
  try (have Hn1 := Lib.hid (NestAt.below HA.out hb); clear HA; have HA := Hn1; clear Hn1)
  try (have Hn1 := Lib.hid (NestAt.below HB.out hb); clear HB; have HB := Hn1; clear Hn1)
  try (have Hn1 := Lib.hid (HTab.out.below hb); clear HTab; have HTab := Hn1; clear Hn1)
  have Hn2 := bthen hb0 hb
  clear hb0 hb
  have hb0 := Hn2
  clear Hn2
  have HA := Lib.hid hl
  have HB := Lib.hid hm
  clear hl hm
  go_wp2_with fail
  have h := f6lists_c _ _ _ _ w13 HX.out HM.out
  rw [eqII_self] at h
  refine h.mono ?_
  rintro e w15 ⟨rfl, hb⟩
  clear h
  try (have Hn1 := Lib.hid (NestAt.below HL.out hb); clear HL; have HL := Hn1; clear Hn1)
  try (have Hn1 := Lib.hid (NestAt.below HX.out hb); clear HX; have HX := Hn1; clear Hn1)
  try (have Hn1 := Lib.hid (NestAt.below HM.out hb); clear HM; have HM := Hn1; clear Hn1)
  try (have Hn1 := Lib.hid (NestAt.below HT.out hb); clear HT; have HT := Hn1; clear Hn1)
  try (have Hn1 := Lib.hid (NestAt.below HR.out hb); clear HR; have HR := Hn1; clear Hn1)
  try (have Hn1 := Lib.hid (NestAt.below HY.out hb); clear HY; have HY := Hn1; clear Hn1)
  try (have Hn1 := Lib.hid (NestAt.below HZ.out hb); clear HZ; have HZ := Hn1; clear Hn1)
  try (have Hn1 := Lib.hid (NestAt.below HA.out hb); clear HA; have HA := Hn1; clear Hn1)
  try (have Hn1 := Lib.hid (NestAt.below HB.out hb); clear HB; have HB := Hn1; clear Hn1)
  try (have Hn1 := Lib.hid (HTab.out.below hb); clear HTab; have HTab := Hn1; clear Hn1)
  have Hn2 := bthen hb0 hb
  clear hb0 hb
  have hb0 := Hn2
  clear Hn2
  go_wp2_with fail
  refine (HS2.out _ HT.out).mono ?_
  rintro e w16 ⟨rfl, hb⟩
  clear HS2
  try (have Hn1 := Lib.hid (NestAt.below HL.out hb); clear HL; have HL := Hn1; clear Hn1)
  try (have Hn1 := Lib.hid (NestAt.below HX.out hb); clear HX; have HX := Hn1; clear Hn1)
  try (have Hn1 := Lib.hid (NestAt.below HM.out hb); clear HM; have HM := Hn1; clear Hn1)
  try (have Hn1 := Lib.hid (NestAt.below HT.out hb); clear HT; have HT := Hn1; clear Hn1)
  try (have Hn1 := Lib.hid (NestAt.below HR.out hb); clear HR; have HR := Hn1; clear Hn1)
  try (have Hn1 := Lib.hid (NestAt.below HY.out hb); clear HY; have HY := Hn1; clear Hn1)
  try (have Hn1 := Lib.hid (NestAt.below HZ.out hb); clear HZ; have HZ := Hn1; clear Hn1)
  try (have Hn1 := Lib.hid (NestAt.below HA.out hb); clear HA; have HA := Hn1; clear Hn1)
  try (have Hn1 := Lib.hid (NestAt.below HB.out hb); clear HB; have HB := Hn1; clear Hn1)
  try (have Hn1 := Lib.hid (HTab.out.below hb); clear HTab; have HTab := Hn1; clear Hn1)
  have Hn2 := bthen hb0 hb
  clear hb0 hb
  have hb0 := Hn2
  clear Hn2
  have e1 := beq_bytes TB TB
  rw [decide_eq_true rfl] at e1
  by_cases hE : TB = { data := #[] }
  · have e2 : TB.toList.isEmpty = true := by rw [hE, isEmpty_size]; exact decide_eq_true rfl
    have e3 : TB.toList = [] := List.isEmpty_iff.1 e2
    clear HR HT Hrt hE
    generalize raOk (chars TB) = rok at *
    dsimp only [List.append] at *
    go_wp2_with fail
    have h := sSameAttempts_c _ _ _ _ w16 HY.out HZ.out
    rw [eqA_self] at h
    refine h.mono ?_
    rintro e w17 ⟨rfl, hb⟩
    clear h HY HZ e1 e2 e3
    try (have Hn1 := Lib.hid (NestAt.below HL.out hb); clear HL; have HL := Hn1; clear Hn1)
    try (have Hn1 := Lib.hid (NestAt.below HX.out hb); clear HX; have HX := Hn1; clear Hn1)
    try (have Hn1 := Lib.hid (NestAt.below HM.out hb); clear HM; have HM := Hn1; clear Hn1)
    try (have Hn1 := Lib.hid (NestAt.below HT.out hb); clear HT; have HT := Hn1; clear Hn1)
    try (have Hn1 := Lib.hid (NestAt.below HR.out hb); clear HR; have HR := Hn1; clear Hn1)
    try (have Hn1 := Lib.hid (NestAt.below HY.out hb); clear HY; have HY := Hn1; clear Hn1)
    try (have Hn1 := Lib.hid (NestAt.below HZ.out hb); clear HZ; have HZ := Hn1; clear Hn1)
    try (have Hn1 := Lib.hid (NestAt.below HA.out hb); clear HA; have HA := Hn1; clear Hn1)
    try (have Hn1 := Lib.hid (NestAt.below HB.out hb); clear HB; have HB := Hn1; clear Hn1)
    try (have Hn1 := Lib.hid (HTab.out.below hb); clear HTab; have HTab := Hn1; clear Hn1)
    have Hn2 := bthen hb0 hb
    clear hb0 hb
    have hb0 := Hn2
    clear Hn2
    go_wp2_with fail
    refine (iSameAttempts_c _ _ A B _ HA.out HB.out).mono ?_
    rintro e w14 ⟨rfl, hb⟩
    try (have Hn1 := Lib.hid (NestAt.below HL.out hb); clear HL; have HL := Hn1; clear Hn1)
    try (have Hn1 := Lib.hid (NestAt.below HX.out hb); clear HX; have HX := Hn1; clear Hn1)
    try (have Hn1 := Lib.hid (NestAt.below HM.out hb); clear HM; have HM := Hn1; clear Hn1)
    try (have Hn1 := Lib.hid (NestAt.below HT.out hb); clear HT; have HT := Hn1; clear Hn1)
    try (have Hn1 := Lib.hid (NestAt.below HR.out hb); clear HR; have HR := Hn1; clear Hn1)
    try (have Hn1 := Lib.hid (NestAt.below HY.out hb); clear HY; have HY := Hn1; clear Hn1)
    try (have Hn1 := Lib.hid (NestAt.below HZ.out hb); clear HZ; have HZ := Hn1; clear Hn1)
    try (have Hn1 := Lib.hid (NestAt.below HA.out hb); clear HA; have HA := Hn1; clear Hn1)
    try (have Hn1 := Lib.hid (NestAt.below HB.out hb); clear HB; have HB := Hn1; clear Hn1)
    try (have Hn1 := Lib.hid (HTab.out.below hb); clear HTab; have HTab := Hn1; clear Hn1)
    have Hn2 := bthen hb0 hb
    clear hb0 hb
    have hb0 := Hn2
    clear Hn2
    go_wp2_with fail
    refine (sSameAttempts_c _ _ A B _ HA.out HB.out).mono ?_
    rintro e w15 ⟨rfl, hb⟩
    clear HA HB
    generalize same2 eqAttB A B = sab at *
    have hsab : (sab == sab) = true := beq_self_eq_true _
    try (have Hn1 := Lib.hid (NestAt.below HL.out hb); clear HL; have HL := Hn1; clear Hn1)
    try (have Hn1 := Lib.hid (NestAt.below HX.out hb); clear HX; have HX := Hn1; clear Hn1)
    try (have Hn1 := Lib.hid (NestAt.below HM.out hb); clear HM; have HM := Hn1; clear Hn1)
    try (have Hn1 := Lib.hid (NestAt.below HT.out hb); clear HT; have HT := Hn1; clear Hn1)
    try (have Hn1 := Lib.hid (NestAt.below HR.out hb); clear HR; have HR := Hn1; clear Hn1)
    try (have Hn1 := Lib.hid (NestAt.below HY.out hb); clear HY; have HY := Hn1; clear Hn1)
    try (have Hn1 := Lib.hid (NestAt.below HZ.out hb); clear HZ; have HZ := Hn1; clear Hn1)
    try (have Hn1 := Lib.hid (NestAt.below HA.out hb); clear HA; have HA := Hn1; clear Hn1)
    try (have Hn1 := Lib.hid (NestAt.below HB.out hb); clear HB; have HB := Hn1; clear Hn1)
    try (have Hn1 := Lib.hid (HTab.out.below hb); clear HTab; have HTab := Hn1; clear Hn1)
    have Hn2 := bthen hb0 hb
    clear hb0 hb
    have hb0 := Hn2
    clear Hn2
    go_wp2_with fail
    refine (iValidAttempts_c _ L _ HL.out).mono ?_
    rintro e w16 ⟨rfl, hb⟩
    try (have Hn1 := Lib.hid (NestAt.below HL.out hb); clear HL; have HL := Hn1; clear Hn1)
    try (have Hn1 := Lib.hid (NestAt.below HX.out hb); clear HX; have HX := Hn1; clear Hn1)
    try (have Hn1 := Lib.hid (NestAt.below HM.out hb); clear HM; have HM := Hn1; clear Hn1)
    try (have Hn1 := Lib.hid (NestAt.below HT.out hb); clear HT; have HT := Hn1; clear Hn1)
    try (have Hn1 := Lib.hid (NestAt.below HR.out hb); clear HR; have HR := Hn1; clear Hn1)
    try (have Hn1 := Lib.hid (NestAt.below HY.out hb); clear HY; have HY := Hn1; clear Hn1)
    try (have Hn1 := Lib.hid (NestAt.below HZ.out hb); clear HZ; have HZ := Hn1; clear Hn1)
    try (have Hn1 := Lib.hid (NestAt.below HA.out hb); clear HA; have HA := Hn1; clear Hn1)
    try (have Hn1 := Lib.hid (NestAt.below HB.out hb); clear HB; have HB := Hn1; clear Hn1)
    try (have Hn1 := Lib.hid (HTab.out.below hb); clear HTab; have HTab := Hn1; clear Hn1)
    have Hn2 := bthen hb0 hb
    clear hb0 hb
    have hb0 := Hn2
    clear Hn2
    go_wp2_with fail
    refine (sValidAttempts_c _ L _ HL.out).mono ?_
    rintro e w17 ⟨rfl, hb⟩
    try (have Hn1 := Lib.hid (NestAt.below HL.out hb); clear HL; have HL := Hn1; clear Hn1)
    try (have Hn1 := Lib.hid (NestAt.below HX.out hb); clear HX; have HX := Hn1; clear Hn1)
    try (have Hn1 := Lib.hid (NestAt.below HM.out hb); clear HM; have HM := Hn1; clear Hn1)
    try (have Hn1 := Lib.hid (NestAt.below HT.out hb); clear HT; have HT := Hn1; clear Hn1)
    try (have Hn1 := Lib.hid (NestAt.below HR.out hb); clear HR; have HR := Hn1; clear Hn1)
    try (have Hn1 := Lib.hid (NestAt.below HY.out hb); clear HY; have HY := Hn1; clear Hn1)
    try (have Hn1 := Lib.hid (NestAt.below HZ.out hb); clear HZ; have HZ := Hn1; clear Hn1)
    try (have Hn1 := Lib.hid (NestAt.below HA.out hb); clear HA; have HA := Hn1; clear Hn1)
    try (have Hn1 := Lib.hid (NestAt.below HB.out hb); clear HB; have HB := Hn1; clear Hn1)
    try (have Hn1 := Lib.hid (HTab.out.below hb); clear HTab; have HTab := Hn1; clear Hn1)
    have Hn2 := bthen hb0 hb
    clear hb0 hb
    have hb0 := Hn2
    clear Hn2
    have hokok : (okAtts L == okAtts L) = true := beq_self_eq_true _
    generalize hW : w17 = W0 at *
    clear hW
    cases hok : okAtts L
    · have hc := HPc.out
      rw [(pracL_no hok).2] at hc
      subst hc
      clear hok
      generalize pracL L = M at *
      go_wp2
      go_ret
      exact Gives.bool rfl hb0
    · obtain ⟨hask, hcmp, hsum⟩ := prac_law hok
      have hsl := Hskl.out
      have hL100 := (okAtts_nth hok).2
      have hc := HPc.out
      rw [(pracL_yes hok).2] at hc
      subst hc
      have hM100 : (pracL L).length ≤ 100 := by rw [(pracL_yes hok).1]; have := pracS_len (canAll L) L.length; omega
      clear hok
      generalize pracL L = M at *
      obtain ⟨_, _, _, he, hmn, -, -, hcm⟩ := HM.out
      injection he with he1 he2 he3
      subst he1 he2 he3
      obtain ⟨_, _, _, he, hxn, -, -, hcx⟩ := HX.out
      injection he with he1 he2 he3
      subst he1 he2 he3
      obtain ⟨_, _, _, he, hln, -, -, hcl⟩ := HL.out
      injection he with he1 he2 he3
      subst he1 he2 he3
      have Hcm := Lib.hid hcm
      have Hcx := Lib.hid hcx
      have Hmn := Lib.hid hmn
      have hmx : xn = mn := by omega
      have hm100 : mn ≤ 100 := by omega
      have hl100 : ln ≤ 100 := by omega
      have hskl : sk ≤ (ln : Int) := by omega
      have Hask := Lib.hid hask
      have Hcmp := Lib.hid hcmp
      have Hsum : Hid ((M.map (cntN (canAll L))).sum = ln) := Lib.hid (by rw [hsum]; exact hln.symm)
      clear hcm hcx hmn hxn hln hcl hask hcmp hsum hsl hL100 hM100
      subst hmx
      go_wp2
      go_loopw [23, 24] (fun s i wr => ∃ (k t : Nat), i = .int .i64 k ∧ s = .int .i64 t ∧ k ≤ xn ∧ t ≤ ln ∧ Hid (t = sumTo (canAll L) M k) ∧ Below W0.heap.size W0 wr) (fun _ i _ => xn - (intOf i).toNat)
      case atStart => exact ⟨0, 0, rfl, rfl, Nat.zero_le _, Nat.zero_le _, Lib.hid rfl, Below.refl _ _⟩
      case round =>
        obtain ⟨k, t, rfl, rfl, hk, ht, HT, hb⟩ := hrel
        by_cases hlt : k < xn
        · have hkM : k < M.length := by rw [← Hmn.out]; exact hlt
          obtain ⟨bm, om, pa, pn, pc, rfl, hbm, hp, m0⟩ := intss_cells (Hcm.out.below hb) k hkM
          obtain ⟨bx, ox, xa', xn', xc', hxe, hbx, hx, x0⟩ := intss_cells Hcx.out k hkM
          subst hxe
          obtain ⟨ha1, ha2⟩ := Hask.out k hkM
          have hst := sumTo_step (canAll L) M k hkM
          have hle := sumTo_le (canAll L) M (k + 1)
          rw [Hsum.out] at hle
          have HT2 : Hid (t + cntN (canAll L) (nth M k) = sumTo (canAll L) M (k + 1)) := Lib.hid (by rw [hst, ← HT.out])
          have ht2 : t + cntN (canAll L) (nth M k) ≤ ln := by rw [HT2.out]; exact hle
          have HS0 := Lib.hid (fun W x y => iSummaryOf_c (.slice la ln lc) (.slice pa pn pc) L (nth M k) W x y)
          rw [ha1] at HS0
          have HkM := Lib.hid hkM
          have HX0 := Lib.hid x0
          have HXp := Lib.hid hx
          have HP := Lib.hid hp
          obtain ⟨s, HSE⟩ : ∃ s : Sm, Hid (sumL L (nth M k) = s) := ⟨_, Lib.hid rfl⟩
          rw [HSE.out] at HS0 ha2
          obtain ⟨at', ct, be, dr, fl, ru⟩ := s
          have ha2 : at' = (cntN (canAll L) (nth M k) : Int) := ha2
          generalize cntN (canAll L) (nth M k) = cn at *
          subst ha2
          clear hst hle ha1 HT hkM hx x0 hp HSE
          go_wp2_with fail
          refine (HS0.out wr (HL.out.below hb) HP.out).mono ?_
          rintro e w5 ⟨rfl, hb5⟩
          have hbk := bthen hb hb5
          clear HS0 HP m0 hb hb5
          go_wp2
          have HBx := Lib.hid (BoxIs.new w5 [.int .i64 (cn : Int), .int .i64 ct, .int .i64 be, .int .i64 dr, .int .i64 fl, .int .i64 ru] 59)
          have hb6 : Below W0.heap.size W0 (w5.alloc (.cells #[.int .i64 (cn : Int), .int .i64 ct, .int .i64 be, .int .i64 dr, .int .i64 fl, .int .i64 ru] 59)) := hbk.alloc hbk.size _
          generalize w5.alloc (.cells #[.int .i64 (cn : Int), .int .i64 ct, .int .i64 be, .int .i64 dr, .int .i64 fl, .int .i64 ru] 59) = w6 at *
          generalize w5.heap.size = XB at *
          have hwt : IntKind.i64.wrap ((t : Int) + (cn : Int)) = (t : Int) + (cn : Int) := IntWalk.i64_in _ (by omega)
          by_cases hk0 : k = 0
          · subst hk0
            clear hbk HX0 HXp
            refine wp_region_held_drew (S := fun w' => Below W0.heap.size W0 w' ∧ BoxIs w' XB [.int .i64 (cn : Int), .int .i64 ct, .int .i64 be, .int .i64 dr, .int .i64 fl, .int .i64 ru]) (by kernel_rfl) (by exact ⟨hb6.drew, HBx.out.below (Below.refl _ _).drew⟩) (fun hHeld => ?_)
            refine wpAnyH_take (i := 0) (oi := ⟨_, _, _, _, _, _⟩) (v := ?_) rfl (by kernel_rfl) (by kernel_rfl) (by kernel_rfl) (fun _ _ _ h => h) (Or.inl ⟨by rfl, ?_⟩) (by assumption) ?_; rotate_left; (focus (intro w hSw; (try dsimp only at hSw); go_simp; try with_reducible rfl)); (try simp only [Act.put, List.setIfInBounds_toArray, List.set_cons_zero, List.set_cons_succ])
            refine wpAnyH_take (i := 1) (oi := ⟨_, _, _, _, _, _⟩) (v := ?_) rfl (by kernel_rfl) (by kernel_rfl) (by kernel_rfl) (fun _ _ _ h => h) (Or.inl ⟨by rfl, ?_⟩) (by assumption) ?_; rotate_left; (focus (intro w hSw; (try dsimp only at hSw); go_simp; try with_reducible rfl)); (try simp only [Act.put, List.setIfInBounds_toArray, List.set_cons_zero, List.set_cons_succ])
            refine wpAnyH_take (i := 2) (oi := ⟨_, _, _, _, _, _⟩) (v := ?_) rfl (by kernel_rfl) (by kernel_rfl) (by kernel_rfl) (fun _ _ _ h => h) (Or.inl ⟨by rfl, ?_⟩) (by assumption) ?_; rotate_left; (focus (intro w hSw; (try dsimp only at hSw); go_simp; try with_reducible rfl)); (try simp only [Act.put, List.setIfInBounds_toArray, List.set_cons_zero, List.set_cons_succ])
            first | (refine wpAnyH_take (i := 3) (oi := ⟨_, _, _, _, _, _⟩) rfl (by kernel_rfl) (by kernel_rfl) (by kernel_rfl) (fun _ _ _ h => h) (Or.inr ⟨by rfl, rfl⟩) (by assumption) ?_; (try simp only [Act.put, List.setIfInBounds_toArray, List.set_cons_zero, List.set_cons_succ])) | (refine wpAnyH_take (i := 3) (oi := ⟨_, _, _, _, _, _⟩) (v := ?_) rfl (by kernel_rfl) (by kernel_rfl) (by kernel_rfl) (fun _ _ _ h => h) (Or.inl ⟨by rfl, ?_⟩) (by assumption) ?_; rotate_left; (focus (intro w hSw; (try dsimp only at hSw); go_simp; try with_reducible rfl)); (try simp only [Act.put, List.setIfInBounds_toArray, List.set_cons_zero, List.set_cons_succ]))
            first | (refine wpAnyH_take (i := 4) (oi := ⟨_, _, _, _, _, _⟩) rfl (by kernel_rfl) (by kernel_rfl) (by kernel_rfl) (fun _ _ _ h => h) (Or.inr ⟨by rfl, rfl⟩) (by assumption) ?_; (try simp only [Act.put, List.setIfInBounds_toArray, List.set_cons_zero, List.set_cons_succ])) | (refine wpAnyH_take (i := 4) (oi := ⟨_, _, _, _, _, _⟩) (v := ?_) rfl (by kernel_rfl) (by kernel_rfl) (by kernel_rfl) (fun _ _ _ h => h) (Or.inl ⟨by rfl, ?_⟩) (by assumption) ?_; rotate_left; (focus (intro w hSw; (try dsimp only at hSw); go_simp; try with_reducible rfl)); (try simp only [Act.put, List.setIfInBounds_toArray, List.set_cons_zero, List.set_cons_succ]))
            first | (refine wpAnyH_take (i := 5) (oi := ⟨_, _, _, _, _, _⟩) rfl (by kernel_rfl) (by kernel_rfl) (by kernel_rfl) (fun _ _ _ h => h) (Or.inr ⟨by rfl, rfl⟩) (by assumption) ?_; (try simp only [Act.put, List.setIfInBounds_toArray, List.set_cons_zero, List.set_cons_succ])) | (refine wpAnyH_take (i := 5) (oi := ⟨_, _, _, _, _, _⟩) (v := ?_) rfl (by kernel_rfl) (by kernel_rfl) (by kernel_rfl) (fun _ _ _ h => h) (Or.inl ⟨by rfl, ?_⟩) (by assumption) ?_; rotate_left; (focus (intro w hSw; (try dsimp only at hSw); go_simp; try with_reducible rfl)); (try simp only [Act.put, List.setIfInBounds_toArray, List.set_cons_zero, List.set_cons_succ]))
            first | (refine wpAnyH_take (i := 6) (oi := ⟨_, _, _, _, _, _⟩) rfl (by kernel_rfl) (by kernel_rfl) (by kernel_rfl) (fun _ _ _ h => h) (Or.inr ⟨by rfl, rfl⟩) (by assumption) ?_; (try simp only [Act.put, List.setIfInBounds_toArray, List.set_cons_zero, List.set_cons_succ])) | (refine wpAnyH_take (i := 6) (oi := ⟨_, _, _, _, _, _⟩) (v := ?_) rfl (by kernel_rfl) (by kernel_rfl) (by kernel_rfl) (fun _ _ _ h => h) (Or.inl ⟨by rfl, ?_⟩) (by assumption) ?_; rotate_left; (focus (intro w hSw; (try dsimp only at hSw); go_simp; try with_reducible rfl)); (try simp only [Act.put, List.setIfInBounds_toArray, List.set_cons_zero, List.set_cons_succ]))
            first | (refine wpAnyH_take (i := 7) (oi := ⟨_, _, _, _, _, _⟩) rfl (by kernel_rfl) (by kernel_rfl) (by kernel_rfl) (fun _ _ _ h => h) (Or.inr ⟨by rfl, rfl⟩) (by assumption) ?_; (try simp only [Act.put, List.setIfInBounds_toArray, List.set_cons_zero, List.set_cons_succ])) | (refine wpAnyH_take (i := 7) (oi := ⟨_, _, _, _, _, _⟩) (v := ?_) rfl (by kernel_rfl) (by kernel_rfl) (by kernel_rfl) (fun _ _ _ h => h) (Or.inl ⟨by rfl, ?_⟩) (by assumption) ?_; rotate_left; (focus (intro w hSw; (try dsimp only at hSw); go_simp; try with_reducible rfl)); (try simp only [Act.put, List.setIfInBounds_toArray, List.set_cons_zero, List.set_cons_succ]))
            first | (refine wpAnyH_take (i := 8) (oi := ⟨_, _, _, _, _, _⟩) rfl (by kernel_rfl) (by kernel_rfl) (by kernel_rfl) (fun _ _ _ h => h) (Or.inr ⟨by rfl, rfl⟩) (by assumption) ?_; (try simp only [Act.put, List.setIfInBounds_toArray, List.set_cons_zero, List.set_cons_succ])) | (refine wpAnyH_take (i := 8) (oi := ⟨_, _, _, _, _, _⟩) (v := ?_) rfl (by kernel_rfl) (by kernel_rfl) (by kernel_rfl) (fun _ _ _ h => h) (Or.inl ⟨by rfl, ?_⟩) (by assumption) ?_; rotate_left; (focus (intro w hSw; (try dsimp only at hSw); go_simp; try with_reducible rfl)); (try simp only [Act.put, List.setIfInBounds_toArray, List.set_cons_zero, List.set_cons_succ]))
            first | (refine wpAnyH_take (i := 9) (oi := ⟨_, _, _, _, _, _⟩) rfl (by kernel_rfl) (by kernel_rfl) (by kernel_rfl) (fun _ _ _ h => h) (Or.inr ⟨by rfl, rfl⟩) (by assumption) ?_; (try simp only [Act.put, List.setIfInBounds_toArray, List.set_cons_zero, List.set_cons_succ])) | (refine wpAnyH_take (i := 9) (oi := ⟨_, _, _, _, _, _⟩) (v := ?_) rfl (by kernel_rfl) (by kernel_rfl) (by kernel_rfl) (fun _ _ _ h => h) (Or.inl ⟨by rfl, ?_⟩) (by assumption) ?_; rotate_left; (focus (intro w hSw; (try dsimp only at hSw); go_simp; try with_reducible rfl)); (try simp only [Act.put, List.setIfInBounds_toArray, List.set_cons_zero, List.set_cons_succ]))
            first | (refine wpAnyH_take (i := 10) (oi := ⟨_, _, _, _, _, _⟩) rfl (by kernel_rfl) (by kernel_rfl) (by kernel_rfl) (fun _ _ _ h => h) (Or.inr ⟨by rfl, rfl⟩) (by assumption) ?_; (try simp only [Act.put, List.setIfInBounds_toArray, List.set_cons_zero, List.set_cons_succ])) | (refine wpAnyH_take (i := 10) (oi := ⟨_, _, _, _, _, _⟩) (v := ?_) rfl (by kernel_rfl) (by kernel_rfl) (by kernel_rfl) (fun _ _ _ h => h) (Or.inl ⟨by rfl, ?_⟩) (by assumption) ?_; rotate_left; (focus (intro w hSw; (try dsimp only at hSw); go_simp; try with_reducible rfl)); (try simp only [Act.put, List.setIfInBounds_toArray, List.set_cons_zero, List.set_cons_succ]))
            first | (refine wpAnyH_take (i := 11) (oi := ⟨_, _, _, _, _, _⟩) rfl (by kernel_rfl) (by kernel_rfl) (by kernel_rfl) (fun _ _ _ h => h) (Or.inr ⟨by rfl, rfl⟩) (by assumption) ?_; (try simp only [Act.put, List.setIfInBounds_toArray, List.set_cons_zero, List.set_cons_succ])) | (refine wpAnyH_take (i := 11) (oi := ⟨_, _, _, _, _, _⟩) (v := ?_) rfl (by kernel_rfl) (by kernel_rfl) (by kernel_rfl) (fun _ _ _ h => h) (Or.inl ⟨by rfl, ?_⟩) (by assumption) ?_; rotate_left; (focus (intro w hSw; (try dsimp only at hSw); go_simp; try with_reducible rfl)); (try simp only [Act.put, List.setIfInBounds_toArray, List.set_cons_zero, List.set_cons_succ]))
            first | (refine wpAnyH_take (i := 12) (oi := ⟨_, _, _, _, _, _⟩) rfl (by kernel_rfl) (by kernel_rfl) (by kernel_rfl) (fun _ _ _ h => h) (Or.inr ⟨by rfl, rfl⟩) (by assumption) ?_; (try simp only [Act.put, List.setIfInBounds_toArray, List.set_cons_zero, List.set_cons_succ])) | (refine wpAnyH_take (i := 12) (oi := ⟨_, _, _, _, _, _⟩) (v := ?_) rfl (by kernel_rfl) (by kernel_rfl) (by kernel_rfl) (fun _ _ _ h => h) (Or.inl ⟨by rfl, ?_⟩) (by assumption) ?_; rotate_left; (focus (intro w hSw; (try dsimp only at hSw); go_simp; try with_reducible rfl)); (try simp only [Act.put, List.setIfInBounds_toArray, List.set_cons_zero, List.set_cons_succ]))
            first | (refine wpAnyH_take (i := 13) (oi := ⟨_, _, _, _, _, _⟩) rfl (by kernel_rfl) (by kernel_rfl) (by kernel_rfl) (fun _ _ _ h => h) (Or.inr ⟨by rfl, rfl⟩) (by assumption) ?_; (try simp only [Act.put, List.setIfInBounds_toArray, List.set_cons_zero, List.set_cons_succ])) | (refine wpAnyH_take (i := 13) (oi := ⟨_, _, _, _, _, _⟩) (v := ?_) rfl (by kernel_rfl) (by kernel_rfl) (by kernel_rfl) (fun _ _ _ h => h) (Or.inl ⟨by rfl, ?_⟩) (by assumption) ?_; rotate_left; (focus (intro w hSw; (try dsimp only at hSw); go_simp; try with_reducible rfl)); (try simp only [Act.put, List.setIfInBounds_toArray, List.set_cons_zero, List.set_cons_succ]))
            first | (refine wpAnyH_take (i := 14) (oi := ⟨_, _, _, _, _, _⟩) rfl (by kernel_rfl) (by kernel_rfl) (by kernel_rfl) (fun _ _ _ h => h) (Or.inr ⟨by rfl, rfl⟩) (by assumption) ?_; (try simp only [Act.put, List.setIfInBounds_toArray, List.set_cons_zero, List.set_cons_succ])) | (refine wpAnyH_take (i := 14) (oi := ⟨_, _, _, _, _, _⟩) (v := ?_) rfl (by kernel_rfl) (by kernel_rfl) (by kernel_rfl) (fun _ _ _ h => h) (Or.inl ⟨by rfl, ?_⟩) (by assumption) ?_; rotate_left; (focus (intro w hSw; (try dsimp only at hSw); go_simp; try with_reducible rfl)); (try simp only [Act.put, List.setIfInBounds_toArray, List.set_cons_zero, List.set_cons_succ]))
            (refine wpAnyH_take (i := 15) (oi := ⟨_, _, _, _, _, _⟩) rfl (by kernel_rfl) (by kernel_rfl) (by kernel_rfl) (fun _ _ _ h => h) (Or.inr ⟨by rfl, rfl⟩) (by assumption) ?_; (try simp only [Act.put, List.setIfInBounds_toArray, List.set_cons_zero, List.set_cons_succ]))
            first | (refine wpAnyH_take (i := 16) (oi := ⟨_, _, _, _, _, _⟩) rfl (by kernel_rfl) (by kernel_rfl) (by kernel_rfl) (fun _ _ _ h => h) (Or.inr ⟨by rfl, rfl⟩) (by assumption) ?_; (try simp only [Act.put, List.setIfInBounds_toArray, List.set_cons_zero, List.set_cons_succ])) | (refine wpAnyH_take (i := 16) (oi := ⟨_, _, _, _, _, _⟩) (v := ?_) rfl (by kernel_rfl) (by kernel_rfl) (by kernel_rfl) (fun _ _ _ h => h) (Or.inl ⟨by rfl, ?_⟩) (by assumption) ?_; rotate_left; (focus (intro w hSw; (try dsimp only at hSw); go_simp; try with_reducible rfl)); (try simp only [Act.put, List.setIfInBounds_toArray, List.set_cons_zero, List.set_cons_succ]))
            first | (refine wpAnyH_take (i := 17) (oi := ⟨_, _, _, _, _, _⟩) rfl (by kernel_rfl) (by kernel_rfl) (by kernel_rfl) (fun _ _ _ h => h) (Or.inr ⟨by rfl, rfl⟩) (by assumption) ?_; (try simp only [Act.put, List.setIfInBounds_toArray, List.set_cons_zero, List.set_cons_succ])) | (refine wpAnyH_take (i := 17) (oi := ⟨_, _, _, _, _, _⟩) (v := ?_) rfl (by kernel_rfl) (by kernel_rfl) (by kernel_rfl) (fun _ _ _ h => h) (Or.inl ⟨by rfl, ?_⟩) (by assumption) ?_; rotate_left; (focus (intro w hSw; (try dsimp only at hSw); go_simp; try with_reducible rfl)); (try simp only [Act.put, List.setIfInBounds_toArray, List.set_cons_zero, List.set_cons_succ]))
            refine wpAnyH_take (i := 18) (oi := ⟨_, _, _, _, _, _⟩) (v := ?_) rfl (by kernel_rfl) (by kernel_rfl) (by kernel_rfl) (fun _ _ _ h => h) (Or.inl ⟨by rfl, ?_⟩) (by assumption) ?_; rotate_left; (focus (intro w hSw; (try dsimp only at hSw); go_simp; try with_reducible rfl)); (try simp only [Act.put, List.setIfInBounds_toArray, List.set_cons_zero, List.set_cons_succ])
            refine wpAnyH_done (by kernel_rfl) ?_ _
            have e9 := hHeld.2.2.1
            go_wp2
            exact ⟨⟨1, t + cn, by go_num, by go_num, hlt, ht2, HT2, hHeld.1⟩, by simp [intOf]; omega⟩
          · obtain ⟨j, hj⟩ : ∃ j, k = j + 1 := ⟨k - 1, by omega⟩
            have Hj := Lib.hid hj
            have hkj : (k : Int) - 1 = (j : Int) := by omega
            have hkj2 : IntKind.i64.wrap (j : Int) = (j : Int) := by rw [← hkj]; exact IntWalk.i64_in _ (by omega)
            have hjn : j < xn := by omega
            have hkp : 0 < k := by omega
            have hkd : decide (0 < k) = true := decide_eq_true hkp
            have hkk : j < M.length := by have := HkM.out; omega
            obtain ⟨b', o', ya', yn', yc', he, hbs', hy, d0⟩ := intss_cells Hcx.out j hkk
            injection he with he
            injection he with he1 he2
            subst he1 he2
            have HY := Lib.hid hy
            have HD0 := Lib.hid d0
            have hcj := Hcmp.out j (by rw [← hj]; exact HkM.out)
            rw [← hj] at hcj
            have HKC := Lib.hid (fun W x y => comparePatterns_c (.slice ya' yn' yc') (.slice xa' xn' xc') (nth M j) (nth M k) W x y)
            rw [hcj] at HKC
            clear hj hk0 hy d0 hcj hkk hbk
            refine wp_region_held_drew (S := fun w' => Below W0.heap.size W0 w' ∧ BoxIs w' XB [.int .i64 (cn : Int), .int .i64 ct, .int .i64 be, .int .i64 dr, .int .i64 fl, .int .i64 ru]) (by kernel_rfl) (by exact ⟨hb6.drew, HBx.out.below (Below.refl _ _).drew⟩) (fun hHeld => ?_)
            refine wpAnyH_take (i := 0) (oi := ⟨_, _, _, _, _, _⟩) (v := ?_) rfl (by kernel_rfl) (by kernel_rfl) (by kernel_rfl) (fun _ _ _ h => h) (Or.inl ⟨by rfl, ?_⟩) (by assumption) ?_; rotate_left; (focus (intro w hSw; (try dsimp only at hSw); go_simp; try with_reducible rfl)); (try simp only [Act.put, List.setIfInBounds_toArray, List.set_cons_zero, List.set_cons_succ])
            refine wpAnyH_take (i := 1) (oi := ⟨_, _, _, _, _, _⟩) (v := ?_) rfl (by kernel_rfl) (by kernel_rfl) (by kernel_rfl) (fun _ _ _ h => h) (Or.inl ⟨by rfl, ?_⟩) (by assumption) ?_; rotate_left; (focus (intro w hSw; (try dsimp only at hSw); go_simp; try with_reducible rfl)); (try simp only [Act.put, List.setIfInBounds_toArray, List.set_cons_zero, List.set_cons_succ])
            refine wpAnyH_take (i := 2) (oi := ⟨_, _, _, _, _, _⟩) (v := ?_) rfl (by kernel_rfl) (by kernel_rfl) (by kernel_rfl) (fun _ _ _ h => h) (Or.inl ⟨by rfl, ?_⟩) (by assumption) ?_; rotate_left; (focus (intro w hSw; (try dsimp only at hSw); go_simp; try with_reducible rfl)); (try simp only [Act.put, List.setIfInBounds_toArray, List.set_cons_zero, List.set_cons_succ])
            first | (refine wpAnyH_take (i := 3) (oi := ⟨_, _, _, _, _, _⟩) rfl (by kernel_rfl) (by kernel_rfl) (by kernel_rfl) (fun _ _ _ h => h) (Or.inr ⟨by rfl, rfl⟩) (by assumption) ?_; (try simp only [Act.put, List.setIfInBounds_toArray, List.set_cons_zero, List.set_cons_succ])) | (refine wpAnyH_take (i := 3) (oi := ⟨_, _, _, _, _, _⟩) (v := ?_) rfl (by kernel_rfl) (by kernel_rfl) (by kernel_rfl) (fun _ _ _ h => h) (Or.inl ⟨by rfl, ?_⟩) (by assumption) ?_; rotate_left; (focus (intro w hSw; (try dsimp only at hSw); go_simp; try with_reducible rfl)); (try simp only [Act.put, List.setIfInBounds_toArray, List.set_cons_zero, List.set_cons_succ]))
            first | (refine wpAnyH_take (i := 4) (oi := ⟨_, _, _, _, _, _⟩) rfl (by kernel_rfl) (by kernel_rfl) (by kernel_rfl) (fun _ _ _ h => h) (Or.inr ⟨by rfl, rfl⟩) (by assumption) ?_; (try simp only [Act.put, List.setIfInBounds_toArray, List.set_cons_zero, List.set_cons_succ])) | (refine wpAnyH_take (i := 4) (oi := ⟨_, _, _, _, _, _⟩) (v := ?_) rfl (by kernel_rfl) (by kernel_rfl) (by kernel_rfl) (fun _ _ _ h => h) (Or.inl ⟨by rfl, ?_⟩) (by assumption) ?_; rotate_left; (focus (intro w hSw; (try dsimp only at hSw); go_simp; try with_reducible rfl)); (try simp only [Act.put, List.setIfInBounds_toArray, List.set_cons_zero, List.set_cons_succ]))
            first | (refine wpAnyH_take (i := 5) (oi := ⟨_, _, _, _, _, _⟩) rfl (by kernel_rfl) (by kernel_rfl) (by kernel_rfl) (fun _ _ _ h => h) (Or.inr ⟨by rfl, rfl⟩) (by assumption) ?_; (try simp only [Act.put, List.setIfInBounds_toArray, List.set_cons_zero, List.set_cons_succ])) | (refine wpAnyH_take (i := 5) (oi := ⟨_, _, _, _, _, _⟩) (v := ?_) rfl (by kernel_rfl) (by kernel_rfl) (by kernel_rfl) (fun _ _ _ h => h) (Or.inl ⟨by rfl, ?_⟩) (by assumption) ?_; rotate_left; (focus (intro w hSw; (try dsimp only at hSw); go_simp; try with_reducible rfl)); (try simp only [Act.put, List.setIfInBounds_toArray, List.set_cons_zero, List.set_cons_succ]))
            first | (refine wpAnyH_take (i := 6) (oi := ⟨_, _, _, _, _, _⟩) rfl (by kernel_rfl) (by kernel_rfl) (by kernel_rfl) (fun _ _ _ h => h) (Or.inr ⟨by rfl, rfl⟩) (by assumption) ?_; (try simp only [Act.put, List.setIfInBounds_toArray, List.set_cons_zero, List.set_cons_succ])) | (refine wpAnyH_take (i := 6) (oi := ⟨_, _, _, _, _, _⟩) (v := ?_) rfl (by kernel_rfl) (by kernel_rfl) (by kernel_rfl) (fun _ _ _ h => h) (Or.inl ⟨by rfl, ?_⟩) (by assumption) ?_; rotate_left; (focus (intro w hSw; (try dsimp only at hSw); go_simp; try with_reducible rfl)); (try simp only [Act.put, List.setIfInBounds_toArray, List.set_cons_zero, List.set_cons_succ]))
            first | (refine wpAnyH_take (i := 7) (oi := ⟨_, _, _, _, _, _⟩) rfl (by kernel_rfl) (by kernel_rfl) (by kernel_rfl) (fun _ _ _ h => h) (Or.inr ⟨by rfl, rfl⟩) (by assumption) ?_; (try simp only [Act.put, List.setIfInBounds_toArray, List.set_cons_zero, List.set_cons_succ])) | (refine wpAnyH_take (i := 7) (oi := ⟨_, _, _, _, _, _⟩) (v := ?_) rfl (by kernel_rfl) (by kernel_rfl) (by kernel_rfl) (fun _ _ _ h => h) (Or.inl ⟨by rfl, ?_⟩) (by assumption) ?_; rotate_left; (focus (intro w hSw; (try dsimp only at hSw); go_simp; try with_reducible rfl)); (try simp only [Act.put, List.setIfInBounds_toArray, List.set_cons_zero, List.set_cons_succ]))
            first | (refine wpAnyH_take (i := 8) (oi := ⟨_, _, _, _, _, _⟩) rfl (by kernel_rfl) (by kernel_rfl) (by kernel_rfl) (fun _ _ _ h => h) (Or.inr ⟨by rfl, rfl⟩) (by assumption) ?_; (try simp only [Act.put, List.setIfInBounds_toArray, List.set_cons_zero, List.set_cons_succ])) | (refine wpAnyH_take (i := 8) (oi := ⟨_, _, _, _, _, _⟩) (v := ?_) rfl (by kernel_rfl) (by kernel_rfl) (by kernel_rfl) (fun _ _ _ h => h) (Or.inl ⟨by rfl, ?_⟩) (by assumption) ?_; rotate_left; (focus (intro w hSw; (try dsimp only at hSw); go_simp; try with_reducible rfl)); (try simp only [Act.put, List.setIfInBounds_toArray, List.set_cons_zero, List.set_cons_succ]))
            first | (refine wpAnyH_take (i := 9) (oi := ⟨_, _, _, _, _, _⟩) rfl (by kernel_rfl) (by kernel_rfl) (by kernel_rfl) (fun _ _ _ h => h) (Or.inr ⟨by rfl, rfl⟩) (by assumption) ?_; (try simp only [Act.put, List.setIfInBounds_toArray, List.set_cons_zero, List.set_cons_succ])) | (refine wpAnyH_take (i := 9) (oi := ⟨_, _, _, _, _, _⟩) (v := ?_) rfl (by kernel_rfl) (by kernel_rfl) (by kernel_rfl) (fun _ _ _ h => h) (Or.inl ⟨by rfl, ?_⟩) (by assumption) ?_; rotate_left; (focus (intro w hSw; (try dsimp only at hSw); go_simp; try with_reducible rfl)); (try simp only [Act.put, List.setIfInBounds_toArray, List.set_cons_zero, List.set_cons_succ]))
            first | (refine wpAnyH_take (i := 10) (oi := ⟨_, _, _, _, _, _⟩) rfl (by kernel_rfl) (by kernel_rfl) (by kernel_rfl) (fun _ _ _ h => h) (Or.inr ⟨by rfl, rfl⟩) (by assumption) ?_; (try simp only [Act.put, List.setIfInBounds_toArray, List.set_cons_zero, List.set_cons_succ])) | (refine wpAnyH_take (i := 10) (oi := ⟨_, _, _, _, _, _⟩) (v := ?_) rfl (by kernel_rfl) (by kernel_rfl) (by kernel_rfl) (fun _ _ _ h => h) (Or.inl ⟨by rfl, ?_⟩) (by assumption) ?_; rotate_left; (focus (intro w hSw; (try dsimp only at hSw); have t1 := cell_then hbx HX0.out hSw.1; have t2 := cell_then hbs' HD0.out hSw.1; go_simp; try with_reducible rfl)); (try simp only [Act.put, List.setIfInBounds_toArray, List.set_cons_zero, List.set_cons_succ]))
            first | (refine wpAnyH_take (i := 11) (oi := ⟨_, _, _, _, _, _⟩) rfl (by kernel_rfl) (by kernel_rfl) (by kernel_rfl) (fun _ _ _ h => h) (Or.inr ⟨by rfl, rfl⟩) (by assumption) ?_; (try simp only [Act.put, List.setIfInBounds_toArray, List.set_cons_zero, List.set_cons_succ])) | (refine wpAnyH_take (i := 11) (oi := ⟨_, _, _, _, _, _⟩) (v := ?_) rfl (by kernel_rfl) (by kernel_rfl) (by kernel_rfl) (fun _ _ _ h => h) (Or.inl ⟨by rfl, ?_⟩) (by assumption) ?_; rotate_left; (focus (intro w hSw; (try dsimp only at hSw); go_simp; try with_reducible rfl)); (try simp only [Act.put, List.setIfInBounds_toArray, List.set_cons_zero, List.set_cons_succ]))
            first | (refine wpAnyH_take (i := 12) (oi := ⟨_, _, _, _, _, _⟩) rfl (by kernel_rfl) (by kernel_rfl) (by kernel_rfl) (fun _ _ _ h => h) (Or.inr ⟨by rfl, rfl⟩) (by assumption) ?_; (try simp only [Act.put, List.setIfInBounds_toArray, List.set_cons_zero, List.set_cons_succ])) | (refine wpAnyH_take (i := 12) (oi := ⟨_, _, _, _, _, _⟩) (v := ?_) rfl (by kernel_rfl) (by kernel_rfl) (by kernel_rfl) (fun _ _ _ h => h) (Or.inl ⟨by rfl, ?_⟩) (by assumption) ?_; rotate_left; (focus (intro w hSw; (try dsimp only at hSw); go_simp; try with_reducible rfl)); (try simp only [Act.put, List.setIfInBounds_toArray, List.set_cons_zero, List.set_cons_succ]))
            first | (refine wpAnyH_take (i := 13) (oi := ⟨_, _, _, _, _, _⟩) rfl (by kernel_rfl) (by kernel_rfl) (by kernel_rfl) (fun _ _ _ h => h) (Or.inr ⟨by rfl, rfl⟩) (by assumption) ?_; (try simp only [Act.put, List.setIfInBounds_toArray, List.set_cons_zero, List.set_cons_succ])) | (refine wpAnyH_take (i := 13) (oi := ⟨_, _, _, _, _, _⟩) (v := ?_) rfl (by kernel_rfl) (by kernel_rfl) (by kernel_rfl) (fun _ _ _ h => h) (Or.inl ⟨by rfl, ?_⟩) (by assumption) ?_; rotate_left; (focus (intro w hSw; (try dsimp only at hSw); go_simp; try with_reducible rfl)); (try simp only [Act.put, List.setIfInBounds_toArray, List.set_cons_zero, List.set_cons_succ]))
            first | (refine wpAnyH_take (i := 14) (oi := ⟨_, _, _, _, _, _⟩) rfl (by kernel_rfl) (by kernel_rfl) (by kernel_rfl) (fun _ _ _ h => h) (Or.inr ⟨by rfl, rfl⟩) (by assumption) ?_; (try simp only [Act.put, List.setIfInBounds_toArray, List.set_cons_zero, List.set_cons_succ])) | (refine wpAnyH_take (i := 14) (oi := ⟨_, _, _, _, _, _⟩) (v := ?_) rfl (by kernel_rfl) (by kernel_rfl) (by kernel_rfl) (fun _ _ _ h => h) (Or.inl ⟨by rfl, ?_⟩) (by assumption) ?_; rotate_left; (focus (intro w hSw; (try dsimp only at hSw); have t1 := cell_then hbx HX0.out hSw.1; have t2 := cell_then hbs' HD0.out hSw.1; go_simp; try with_reducible rfl)); (try simp only [Act.put, List.setIfInBounds_toArray, List.set_cons_zero, List.set_cons_succ]))
            refine wpAnyH_ready (rs := [15]) (by kernel_rfl) (by simp) ?_
            refine AllReadyH.cons (o := ⟨_, _, _, _, _, _⟩) rfl (fun K hK => ?_) AllReadyH.nil
            go_simp
            go_at_call 43; refine (HKC.out _ (HY.out.below hHeld.1) (HXp.out.below hHeld.1)).mono ?_; rintro e x2 ⟨rfl, d2⟩; have hS' := And.intro (bthen hHeld.1 d2) (hHeld.2.below d2)
            refine hK.out _ _ (by exact hS') (fun hHeld' => ?_)
            clear hHeld hK K
            have hHeld := hHeld'
            clear hHeld'
            try simp only [Act.put, List.setIfInBounds_toArray, List.set_cons_zero, List.set_cons_succ]
            first | (refine wpAnyH_take (i := 16) (oi := ⟨_, _, _, _, _, _⟩) rfl (by kernel_rfl) (by kernel_rfl) (by kernel_rfl) (fun _ _ _ h => h) (Or.inr ⟨by rfl, rfl⟩) (by assumption) ?_; (try simp only [Act.put, List.setIfInBounds_toArray, List.set_cons_zero, List.set_cons_succ])) | (refine wpAnyH_take (i := 16) (oi := ⟨_, _, _, _, _, _⟩) (v := ?_) rfl (by kernel_rfl) (by kernel_rfl) (by kernel_rfl) (fun _ _ _ h => h) (Or.inl ⟨by rfl, ?_⟩) (by assumption) ?_; rotate_left; (focus (intro w hSw; (try dsimp only at hSw); go_simp; try with_reducible rfl)); (try simp only [Act.put, List.setIfInBounds_toArray, List.set_cons_zero, List.set_cons_succ]))
            first | (refine wpAnyH_take (i := 17) (oi := ⟨_, _, _, _, _, _⟩) rfl (by kernel_rfl) (by kernel_rfl) (by kernel_rfl) (fun _ _ _ h => h) (Or.inr ⟨by rfl, rfl⟩) (by assumption) ?_; (try simp only [Act.put, List.setIfInBounds_toArray, List.set_cons_zero, List.set_cons_succ])) | (refine wpAnyH_take (i := 17) (oi := ⟨_, _, _, _, _, _⟩) (v := ?_) rfl (by kernel_rfl) (by kernel_rfl) (by kernel_rfl) (fun _ _ _ h => h) (Or.inl ⟨by rfl, ?_⟩) (by assumption) ?_; rotate_left; (focus (intro w hSw; (try dsimp only at hSw); go_simp; try with_reducible rfl)); (try simp only [Act.put, List.setIfInBounds_toArray, List.set_cons_zero, List.set_cons_succ]))
            refine wpAnyH_take (i := 18) (oi := ⟨_, _, _, _, _, _⟩) (v := ?_) rfl (by kernel_rfl) (by kernel_rfl) (by kernel_rfl) (fun _ _ _ h => h) (Or.inl ⟨by rfl, ?_⟩) (by assumption) ?_; rotate_left; (focus (intro w hSw; (try dsimp only at hSw); go_simp; try with_reducible rfl)); (try simp only [Act.put, List.setIfInBounds_toArray, List.set_cons_zero, List.set_cons_succ])
            refine wpAnyH_done (by kernel_rfl) ?_ _
            have e9 := hHeld.2.2.1
            clear hkj2 hkj hkd
            go_wp2
            exact ⟨⟨k + 1, t + cn, by go_num, by go_num, hlt, ht2, HT2, hHeld.1⟩, by simp [intOf]; omega⟩
        · obtain rfl : k = xn := by omega
          have hte : t = ln := by rw [HT.out, sumTo_all _ _ _ (by rw [← Hmn.out]; exact Nat.le_refl _), Hsum.out]
          subst hte
          have hbz := bthen hb0 hb
          clear HT hb
          go_wp2
          go_ret
          exact Gives.bool (by simp <;> omega) hbz
  · have e2 : TB.toList.isEmpty = false := by
      rw [isEmpty_size]
      exact decide_eq_false (fun h => hE (by apply ByteArray.ext; exact Array.eq_empty_of_size_eq_zero h))
    have e3 : ¬ TB.toList = [] := fun h => by rw [h] at e2; exact absurd e2 (by decide)
    have hrt : raOk (chars TB) = true ∧ raL (chars TB) = T := by
      rcases Hrt.out with h | h
      · exact absurd h hE
      · exact h
    have HR2 := Lib.hid HR.out
    rw [hrt.2] at HR2
    rw [hrt.1]
    clear HR Hrt hE hrt
    go_wp2_with fail
    have h := sSameAttempts_c _ _ _ _ w16 HR2.out HT.out
    rw [eqA_self] at h
    refine h.mono ?_
    rintro e w17 ⟨rfl, hb⟩
    clear h HR2 HT e1 e2 e3
    try (have Hn1 := Lib.hid (NestAt.below HL.out hb); clear HL; have HL := Hn1; clear Hn1)
    try (have Hn1 := Lib.hid (NestAt.below HX.out hb); clear HX; have HX := Hn1; clear Hn1)
    try (have Hn1 := Lib.hid (NestAt.below HM.out hb); clear HM; have HM := Hn1; clear Hn1)
    try (have Hn1 := Lib.hid (NestAt.below HT.out hb); clear HT; have HT := Hn1; clear Hn1)
    try (have Hn1 := Lib.hid (NestAt.below HR.out hb); clear HR; have HR := Hn1; clear Hn1)
    try (have Hn1 := Lib.hid (NestAt.below HY.out hb); clear HY; have HY := Hn1; clear Hn1)
    try (have Hn1 := Lib.hid (NestAt.below HZ.out hb); clear HZ; have HZ := Hn1; clear Hn1)
    try (have Hn1 := Lib.hid (NestAt.below HA.out hb); clear HA; have HA := Hn1; clear Hn1)
    try (have Hn1 := Lib.hid (NestAt.below HB.out hb); clear HB; have HB := Hn1; clear Hn1)
    try (have Hn1 := Lib.hid (HTab.out.below hb); clear HTab; have HTab := Hn1; clear Hn1)
    have Hn2 := bthen hb0 hb
    clear hb0 hb
    have hb0 := Hn2
    clear Hn2
    go_wp2_with fail
    have h := sSameAttempts_c _ _ _ _ w17 HY.out HZ.out
    rw [eqA_self] at h
    refine h.mono ?_
    rintro e w18 ⟨rfl, hb⟩
    clear h HY HZ
    try (have Hn1 := Lib.hid (NestAt.below HL.out hb); clear HL; have HL := Hn1; clear Hn1)
    try (have Hn1 := Lib.hid (NestAt.below HX.out hb); clear HX; have HX := Hn1; clear Hn1)
    try (have Hn1 := Lib.hid (NestAt.below HM.out hb); clear HM; have HM := Hn1; clear Hn1)
    try (have Hn1 := Lib.hid (NestAt.below HT.out hb); clear HT; have HT := Hn1; clear Hn1)
    try (have Hn1 := Lib.hid (NestAt.below HR.out hb); clear HR; have HR := Hn1; clear Hn1)
    try (have Hn1 := Lib.hid (NestAt.below HY.out hb); clear HY; have HY := Hn1; clear Hn1)
    try (have Hn1 := Lib.hid (NestAt.below HZ.out hb); clear HZ; have HZ := Hn1; clear Hn1)
    try (have Hn1 := Lib.hid (NestAt.below HA.out hb); clear HA; have HA := Hn1; clear Hn1)
    try (have Hn1 := Lib.hid (NestAt.below HB.out hb); clear HB; have HB := Hn1; clear Hn1)
    try (have Hn1 := Lib.hid (HTab.out.below hb); clear HTab; have HTab := Hn1; clear Hn1)
    have Hn2 := bthen hb0 hb
    clear hb0 hb
    have hb0 := Hn2
    clear Hn2
    go_wp2_with fail
    refine (iSameAttempts_c _ _ A B _ HA.out HB.out).mono ?_
    rintro e w14 ⟨rfl, hb⟩
    try (have Hn1 := Lib.hid (NestAt.below HL.out hb); clear HL; have HL := Hn1; clear Hn1)
    try (have Hn1 := Lib.hid (NestAt.below HX.out hb); clear HX; have HX := Hn1; clear Hn1)
    try (have Hn1 := Lib.hid (NestAt.below HM.out hb); clear HM; have HM := Hn1; clear Hn1)
    try (have Hn1 := Lib.hid (NestAt.below HT.out hb); clear HT; have HT := Hn1; clear Hn1)
    try (have Hn1 := Lib.hid (NestAt.below HR.out hb); clear HR; have HR := Hn1; clear Hn1)
    try (have Hn1 := Lib.hid (NestAt.below HY.out hb); clear HY; have HY := Hn1; clear Hn1)
    try (have Hn1 := Lib.hid (NestAt.below HZ.out hb); clear HZ; have HZ := Hn1; clear Hn1)
    try (have Hn1 := Lib.hid (NestAt.below HA.out hb); clear HA; have HA := Hn1; clear Hn1)
    try (have Hn1 := Lib.hid (NestAt.below HB.out hb); clear HB; have HB := Hn1; clear Hn1)
    try (have Hn1 := Lib.hid (HTab.out.below hb); clear HTab; have HTab := Hn1; clear Hn1)
    have Hn2 := bthen hb0 hb
    clear hb0 hb
    have hb0 := Hn2
    clear Hn2
    go_wp2_with fail
    refine (sSameAttempts_c _ _ A B _ HA.out HB.out).mono ?_
    rintro e w15 ⟨rfl, hb⟩
    clear HA HB
    generalize same2 eqAttB A B = sab at *
    have hsab : (sab == sab) = true := beq_self_eq_true _
    try (have Hn1 := Lib.hid (NestAt.below HL.out hb); clear HL; have HL := Hn1; clear Hn1)
    try (have Hn1 := Lib.hid (NestAt.below HX.out hb); clear HX; have HX := Hn1; clear Hn1)
    try (have Hn1 := Lib.hid (NestAt.below HM.out hb); clear HM; have HM := Hn1; clear Hn1)
    try (have Hn1 := Lib.hid (NestAt.below HT.out hb); clear HT; have HT := Hn1; clear Hn1)
    try (have Hn1 := Lib.hid (NestAt.below HR.out hb); clear HR; have HR := Hn1; clear Hn1)
    try (have Hn1 := Lib.hid (NestAt.below HY.out hb); clear HY; have HY := Hn1; clear Hn1)
    try (have Hn1 := Lib.hid (NestAt.below HZ.out hb); clear HZ; have HZ := Hn1; clear Hn1)
    try (have Hn1 := Lib.hid (NestAt.below HA.out hb); clear HA; have HA := Hn1; clear Hn1)
    try (have Hn1 := Lib.hid (NestAt.below HB.out hb); clear HB; have HB := Hn1; clear Hn1)
    try (have Hn1 := Lib.hid (HTab.out.below hb); clear HTab; have HTab := Hn1; clear Hn1)
    have Hn2 := bthen hb0 hb
    clear hb0 hb
    have hb0 := Hn2
    clear Hn2
    go_wp2_with fail
    refine (iValidAttempts_c _ L _ HL.out).mono ?_
    rintro e w16 ⟨rfl, hb⟩
    try (have Hn1 := Lib.hid (NestAt.below HL.out hb); clear HL; have HL := Hn1; clear Hn1)
    try (have Hn1 := Lib.hid (NestAt.below HX.out hb); clear HX; have HX := Hn1; clear Hn1)
    try (have Hn1 := Lib.hid (NestAt.below HM.out hb); clear HM; have HM := Hn1; clear Hn1)
    try (have Hn1 := Lib.hid (NestAt.below HT.out hb); clear HT; have HT := Hn1; clear Hn1)
    try (have Hn1 := Lib.hid (NestAt.below HR.out hb); clear HR; have HR := Hn1; clear Hn1)
    try (have Hn1 := Lib.hid (NestAt.below HY.out hb); clear HY; have HY := Hn1; clear Hn1)
    try (have Hn1 := Lib.hid (NestAt.below HZ.out hb); clear HZ; have HZ := Hn1; clear Hn1)
    try (have Hn1 := Lib.hid (NestAt.below HA.out hb); clear HA; have HA := Hn1; clear Hn1)
    try (have Hn1 := Lib.hid (NestAt.below HB.out hb); clear HB; have HB := Hn1; clear Hn1)
    try (have Hn1 := Lib.hid (HTab.out.below hb); clear HTab; have HTab := Hn1; clear Hn1)
    have Hn2 := bthen hb0 hb
    clear hb0 hb
    have hb0 := Hn2
    clear Hn2
    go_wp2_with fail
    refine (sValidAttempts_c _ L _ HL.out).mono ?_
    rintro e w17 ⟨rfl, hb⟩
    try (have Hn1 := Lib.hid (NestAt.below HL.out hb); clear HL; have HL := Hn1; clear Hn1)
    try (have Hn1 := Lib.hid (NestAt.below HX.out hb); clear HX; have HX := Hn1; clear Hn1)
    try (have Hn1 := Lib.hid (NestAt.below HM.out hb); clear HM; have HM := Hn1; clear Hn1)
    try (have Hn1 := Lib.hid (NestAt.below HT.out hb); clear HT; have HT := Hn1; clear Hn1)
    try (have Hn1 := Lib.hid (NestAt.below HR.out hb); clear HR; have HR := Hn1; clear Hn1)
    try (have Hn1 := Lib.hid (NestAt.below HY.out hb); clear HY; have HY := Hn1; clear Hn1)
    try (have Hn1 := Lib.hid (NestAt.below HZ.out hb); clear HZ; have HZ := Hn1; clear Hn1)
    try (have Hn1 := Lib.hid (NestAt.below HA.out hb); clear HA; have HA := Hn1; clear Hn1)
    try (have Hn1 := Lib.hid (NestAt.below HB.out hb); clear HB; have HB := Hn1; clear Hn1)
    try (have Hn1 := Lib.hid (HTab.out.below hb); clear HTab; have HTab := Hn1; clear Hn1)
    have Hn2 := bthen hb0 hb
    clear hb0 hb
    have hb0 := Hn2
    clear Hn2
    have hokok : (okAtts L == okAtts L) = true := beq_self_eq_true _
    generalize hW : w17 = W0 at *
    clear hW
    cases hok : okAtts L
    · have hc := HPc.out
      rw [(pracL_no hok).2] at hc
      subst hc
      clear hok
      generalize pracL L = M at *
      go_wp2
      go_ret
      exact Gives.bool rfl hb0
    · obtain ⟨hask, hcmp, hsum⟩ := prac_law hok
      have hsl := Hskl.out
      have hL100 := (okAtts_nth hok).2
      have hc := HPc.out
      rw [(pracL_yes hok).2] at hc
      subst hc
      have hM100 : (pracL L).length ≤ 100 := by rw [(pracL_yes hok).1]; have := pracS_len (canAll L) L.length; omega
      clear hok
      generalize pracL L = M at *
      obtain ⟨_, _, _, he, hmn, -, -, hcm⟩ := HM.out
      injection he with he1 he2 he3
      subst he1 he2 he3
      obtain ⟨_, _, _, he, hxn, -, -, hcx⟩ := HX.out
      injection he with he1 he2 he3
      subst he1 he2 he3
      obtain ⟨_, _, _, he, hln, -, -, hcl⟩ := HL.out
      injection he with he1 he2 he3
      subst he1 he2 he3
      have Hcm := Lib.hid hcm
      have Hcx := Lib.hid hcx
      have Hmn := Lib.hid hmn
      have hmx : xn = mn := by omega
      have hm100 : mn ≤ 100 := by omega
      have hl100 : ln ≤ 100 := by omega
      have hskl : sk ≤ (ln : Int) := by omega
      have Hask := Lib.hid hask
      have Hcmp := Lib.hid hcmp
      have Hsum : Hid ((M.map (cntN (canAll L))).sum = ln) := Lib.hid (by rw [hsum]; exact hln.symm)
      clear hcm hcx hmn hxn hln hcl hask hcmp hsum hsl hL100 hM100
      subst hmx
      go_wp2
      go_loopw [23, 24] (fun s i wr => ∃ (k t : Nat), i = .int .i64 k ∧ s = .int .i64 t ∧ k ≤ xn ∧ t ≤ ln ∧ Hid (t = sumTo (canAll L) M k) ∧ Below W0.heap.size W0 wr) (fun _ i _ => xn - (intOf i).toNat)
      case atStart => exact ⟨0, 0, rfl, rfl, Nat.zero_le _, Nat.zero_le _, Lib.hid rfl, Below.refl _ _⟩
      case round =>
        obtain ⟨k, t, rfl, rfl, hk, ht, HT, hb⟩ := hrel
        by_cases hlt : k < xn
        · have hkM : k < M.length := by rw [← Hmn.out]; exact hlt
          obtain ⟨bm, om, pa, pn, pc, rfl, hbm, hp, m0⟩ := intss_cells (Hcm.out.below hb) k hkM
          obtain ⟨bx, ox, xa', xn', xc', hxe, hbx, hx, x0⟩ := intss_cells Hcx.out k hkM
          subst hxe
          obtain ⟨ha1, ha2⟩ := Hask.out k hkM
          have hst := sumTo_step (canAll L) M k hkM
          have hle := sumTo_le (canAll L) M (k + 1)
          rw [Hsum.out] at hle
          have HT2 : Hid (t + cntN (canAll L) (nth M k) = sumTo (canAll L) M (k + 1)) := Lib.hid (by rw [hst, ← HT.out])
          have ht2 : t + cntN (canAll L) (nth M k) ≤ ln := by rw [HT2.out]; exact hle
          have HS0 := Lib.hid (fun W x y => iSummaryOf_c (.slice la ln lc) (.slice pa pn pc) L (nth M k) W x y)
          rw [ha1] at HS0
          have HkM := Lib.hid hkM
          have HX0 := Lib.hid x0
          have HXp := Lib.hid hx
          have HP := Lib.hid hp
          obtain ⟨s, HSE⟩ : ∃ s : Sm, Hid (sumL L (nth M k) = s) := ⟨_, Lib.hid rfl⟩
          rw [HSE.out] at HS0 ha2
          obtain ⟨at', ct, be, dr, fl, ru⟩ := s
          have ha2 : at' = (cntN (canAll L) (nth M k) : Int) := ha2
          generalize cntN (canAll L) (nth M k) = cn at *
          subst ha2
          clear hst hle ha1 HT hkM hx x0 hp HSE
          go_wp2_with fail
          refine (HS0.out wr (HL.out.below hb) HP.out).mono ?_
          rintro e w5 ⟨rfl, hb5⟩
          have hbk := bthen hb hb5
          clear HS0 HP m0 hb hb5
          go_wp2
          have HBx := Lib.hid (BoxIs.new w5 [.int .i64 (cn : Int), .int .i64 ct, .int .i64 be, .int .i64 dr, .int .i64 fl, .int .i64 ru] 59)
          have hb6 : Below W0.heap.size W0 (w5.alloc (.cells #[.int .i64 (cn : Int), .int .i64 ct, .int .i64 be, .int .i64 dr, .int .i64 fl, .int .i64 ru] 59)) := hbk.alloc hbk.size _
          generalize w5.alloc (.cells #[.int .i64 (cn : Int), .int .i64 ct, .int .i64 be, .int .i64 dr, .int .i64 fl, .int .i64 ru] 59) = w6 at *
          generalize w5.heap.size = XB at *
          have hwt : IntKind.i64.wrap ((t : Int) + (cn : Int)) = (t : Int) + (cn : Int) := IntWalk.i64_in _ (by omega)
          by_cases hk0 : k = 0
          · subst hk0
            clear hbk HX0 HXp
            refine wp_region_held_drew (S := fun w' => Below W0.heap.size W0 w' ∧ BoxIs w' XB [.int .i64 (cn : Int), .int .i64 ct, .int .i64 be, .int .i64 dr, .int .i64 fl, .int .i64 ru]) (by kernel_rfl) (by exact ⟨hb6.drew, HBx.out.below (Below.refl _ _).drew⟩) (fun hHeld => ?_)
            refine wpAnyH_take (i := 0) (oi := ⟨_, _, _, _, _, _⟩) (v := ?_) rfl (by kernel_rfl) (by kernel_rfl) (by kernel_rfl) (fun _ _ _ h => h) (Or.inl ⟨by rfl, ?_⟩) (by assumption) ?_; rotate_left; (focus (intro w hSw; (try dsimp only at hSw); go_simp; try with_reducible rfl)); (try simp only [Act.put, List.setIfInBounds_toArray, List.set_cons_zero, List.set_cons_succ])
            refine wpAnyH_take (i := 1) (oi := ⟨_, _, _, _, _, _⟩) (v := ?_) rfl (by kernel_rfl) (by kernel_rfl) (by kernel_rfl) (fun _ _ _ h => h) (Or.inl ⟨by rfl, ?_⟩) (by assumption) ?_; rotate_left; (focus (intro w hSw; (try dsimp only at hSw); go_simp; try with_reducible rfl)); (try simp only [Act.put, List.setIfInBounds_toArray, List.set_cons_zero, List.set_cons_succ])
            refine wpAnyH_take (i := 2) (oi := ⟨_, _, _, _, _, _⟩) (v := ?_) rfl (by kernel_rfl) (by kernel_rfl) (by kernel_rfl) (fun _ _ _ h => h) (Or.inl ⟨by rfl, ?_⟩) (by assumption) ?_; rotate_left; (focus (intro w hSw; (try dsimp only at hSw); go_simp; try with_reducible rfl)); (try simp only [Act.put, List.setIfInBounds_toArray, List.set_cons_zero, List.set_cons_succ])
            first | (refine wpAnyH_take (i := 3) (oi := ⟨_, _, _, _, _, _⟩) rfl (by kernel_rfl) (by kernel_rfl) (by kernel_rfl) (fun _ _ _ h => h) (Or.inr ⟨by rfl, rfl⟩) (by assumption) ?_; (try simp only [Act.put, List.setIfInBounds_toArray, List.set_cons_zero, List.set_cons_succ])) | (refine wpAnyH_take (i := 3) (oi := ⟨_, _, _, _, _, _⟩) (v := ?_) rfl (by kernel_rfl) (by kernel_rfl) (by kernel_rfl) (fun _ _ _ h => h) (Or.inl ⟨by rfl, ?_⟩) (by assumption) ?_; rotate_left; (focus (intro w hSw; (try dsimp only at hSw); go_simp; try with_reducible rfl)); (try simp only [Act.put, List.setIfInBounds_toArray, List.set_cons_zero, List.set_cons_succ]))
            first | (refine wpAnyH_take (i := 4) (oi := ⟨_, _, _, _, _, _⟩) rfl (by kernel_rfl) (by kernel_rfl) (by kernel_rfl) (fun _ _ _ h => h) (Or.inr ⟨by rfl, rfl⟩) (by assumption) ?_; (try simp only [Act.put, List.setIfInBounds_toArray, List.set_cons_zero, List.set_cons_succ])) | (refine wpAnyH_take (i := 4) (oi := ⟨_, _, _, _, _, _⟩) (v := ?_) rfl (by kernel_rfl) (by kernel_rfl) (by kernel_rfl) (fun _ _ _ h => h) (Or.inl ⟨by rfl, ?_⟩) (by assumption) ?_; rotate_left; (focus (intro w hSw; (try dsimp only at hSw); go_simp; try with_reducible rfl)); (try simp only [Act.put, List.setIfInBounds_toArray, List.set_cons_zero, List.set_cons_succ]))
            first | (refine wpAnyH_take (i := 5) (oi := ⟨_, _, _, _, _, _⟩) rfl (by kernel_rfl) (by kernel_rfl) (by kernel_rfl) (fun _ _ _ h => h) (Or.inr ⟨by rfl, rfl⟩) (by assumption) ?_; (try simp only [Act.put, List.setIfInBounds_toArray, List.set_cons_zero, List.set_cons_succ])) | (refine wpAnyH_take (i := 5) (oi := ⟨_, _, _, _, _, _⟩) (v := ?_) rfl (by kernel_rfl) (by kernel_rfl) (by kernel_rfl) (fun _ _ _ h => h) (Or.inl ⟨by rfl, ?_⟩) (by assumption) ?_; rotate_left; (focus (intro w hSw; (try dsimp only at hSw); go_simp; try with_reducible rfl)); (try simp only [Act.put, List.setIfInBounds_toArray, List.set_cons_zero, List.set_cons_succ]))
            first | (refine wpAnyH_take (i := 6) (oi := ⟨_, _, _, _, _, _⟩) rfl (by kernel_rfl) (by kernel_rfl) (by kernel_rfl) (fun _ _ _ h => h) (Or.inr ⟨by rfl, rfl⟩) (by assumption) ?_; (try simp only [Act.put, List.setIfInBounds_toArray, List.set_cons_zero, List.set_cons_succ])) | (refine wpAnyH_take (i := 6) (oi := ⟨_, _, _, _, _, _⟩) (v := ?_) rfl (by kernel_rfl) (by kernel_rfl) (by kernel_rfl) (fun _ _ _ h => h) (Or.inl ⟨by rfl, ?_⟩) (by assumption) ?_; rotate_left; (focus (intro w hSw; (try dsimp only at hSw); go_simp; try with_reducible rfl)); (try simp only [Act.put, List.setIfInBounds_toArray, List.set_cons_zero, List.set_cons_succ]))
            first | (refine wpAnyH_take (i := 7) (oi := ⟨_, _, _, _, _, _⟩) rfl (by kernel_rfl) (by kernel_rfl) (by kernel_rfl) (fun _ _ _ h => h) (Or.inr ⟨by rfl, rfl⟩) (by assumption) ?_; (try simp only [Act.put, List.setIfInBounds_toArray, List.set_cons_zero, List.set_cons_succ])) | (refine wpAnyH_take (i := 7) (oi := ⟨_, _, _, _, _, _⟩) (v := ?_) rfl (by kernel_rfl) (by kernel_rfl) (by kernel_rfl) (fun _ _ _ h => h) (Or.inl ⟨by rfl, ?_⟩) (by assumption) ?_; rotate_left; (focus (intro w hSw; (try dsimp only at hSw); go_simp; try with_reducible rfl)); (try simp only [Act.put, List.setIfInBounds_toArray, List.set_cons_zero, List.set_cons_succ]))
            first | (refine wpAnyH_take (i := 8) (oi := ⟨_, _, _, _, _, _⟩) rfl (by kernel_rfl) (by kernel_rfl) (by kernel_rfl) (fun _ _ _ h => h) (Or.inr ⟨by rfl, rfl⟩) (by assumption) ?_; (try simp only [Act.put, List.setIfInBounds_toArray, List.set_cons_zero, List.set_cons_succ])) | (refine wpAnyH_take (i := 8) (oi := ⟨_, _, _, _, _, _⟩) (v := ?_) rfl (by kernel_rfl) (by kernel_rfl) (by kernel_rfl) (fun _ _ _ h => h) (Or.inl ⟨by rfl, ?_⟩) (by assumption) ?_; rotate_left; (focus (intro w hSw; (try dsimp only at hSw); go_simp; try with_reducible rfl)); (try simp only [Act.put, List.setIfInBounds_toArray, List.set_cons_zero, List.set_cons_succ]))
            first | (refine wpAnyH_take (i := 9) (oi := ⟨_, _, _, _, _, _⟩) rfl (by kernel_rfl) (by kernel_rfl) (by kernel_rfl) (fun _ _ _ h => h) (Or.inr ⟨by rfl, rfl⟩) (by assumption) ?_; (try simp only [Act.put, List.setIfInBounds_toArray, List.set_cons_zero, List.set_cons_succ])) | (refine wpAnyH_take (i := 9) (oi := ⟨_, _, _, _, _, _⟩) (v := ?_) rfl (by kernel_rfl) (by kernel_rfl) (by kernel_rfl) (fun _ _ _ h => h) (Or.inl ⟨by rfl, ?_⟩) (by assumption) ?_; rotate_left; (focus (intro w hSw; (try dsimp only at hSw); go_simp; try with_reducible rfl)); (try simp only [Act.put, List.setIfInBounds_toArray, List.set_cons_zero, List.set_cons_succ]))
            first | (refine wpAnyH_take (i := 10) (oi := ⟨_, _, _, _, _, _⟩) rfl (by kernel_rfl) (by kernel_rfl) (by kernel_rfl) (fun _ _ _ h => h) (Or.inr ⟨by rfl, rfl⟩) (by assumption) ?_; (try simp only [Act.put, List.setIfInBounds_toArray, List.set_cons_zero, List.set_cons_succ])) | (refine wpAnyH_take (i := 10) (oi := ⟨_, _, _, _, _, _⟩) (v := ?_) rfl (by kernel_rfl) (by kernel_rfl) (by kernel_rfl) (fun _ _ _ h => h) (Or.inl ⟨by rfl, ?_⟩) (by assumption) ?_; rotate_left; (focus (intro w hSw; (try dsimp only at hSw); go_simp; try with_reducible rfl)); (try simp only [Act.put, List.setIfInBounds_toArray, List.set_cons_zero, List.set_cons_succ]))
            first | (refine wpAnyH_take (i := 11) (oi := ⟨_, _, _, _, _, _⟩) rfl (by kernel_rfl) (by kernel_rfl) (by kernel_rfl) (fun _ _ _ h => h) (Or.inr ⟨by rfl, rfl⟩) (by assumption) ?_; (try simp only [Act.put, List.setIfInBounds_toArray, List.set_cons_zero, List.set_cons_succ])) | (refine wpAnyH_take (i := 11) (oi := ⟨_, _, _, _, _, _⟩) (v := ?_) rfl (by kernel_rfl) (by kernel_rfl) (by kernel_rfl) (fun _ _ _ h => h) (Or.inl ⟨by rfl, ?_⟩) (by assumption) ?_; rotate_left; (focus (intro w hSw; (try dsimp only at hSw); go_simp; try with_reducible rfl)); (try simp only [Act.put, List.setIfInBounds_toArray, List.set_cons_zero, List.set_cons_succ]))
            first | (refine wpAnyH_take (i := 12) (oi := ⟨_, _, _, _, _, _⟩) rfl (by kernel_rfl) (by kernel_rfl) (by kernel_rfl) (fun _ _ _ h => h) (Or.inr ⟨by rfl, rfl⟩) (by assumption) ?_; (try simp only [Act.put, List.setIfInBounds_toArray, List.set_cons_zero, List.set_cons_succ])) | (refine wpAnyH_take (i := 12) (oi := ⟨_, _, _, _, _, _⟩) (v := ?_) rfl (by kernel_rfl) (by kernel_rfl) (by kernel_rfl) (fun _ _ _ h => h) (Or.inl ⟨by rfl, ?_⟩) (by assumption) ?_; rotate_left; (focus (intro w hSw; (try dsimp only at hSw); go_simp; try with_reducible rfl)); (try simp only [Act.put, List.setIfInBounds_toArray, List.set_cons_zero, List.set_cons_succ]))
            first | (refine wpAnyH_take (i := 13) (oi := ⟨_, _, _, _, _, _⟩) rfl (by kernel_rfl) (by kernel_rfl) (by kernel_rfl) (fun _ _ _ h => h) (Or.inr ⟨by rfl, rfl⟩) (by assumption) ?_; (try simp only [Act.put, List.setIfInBounds_toArray, List.set_cons_zero, List.set_cons_succ])) | (refine wpAnyH_take (i := 13) (oi := ⟨_, _, _, _, _, _⟩) (v := ?_) rfl (by kernel_rfl) (by kernel_rfl) (by kernel_rfl) (fun _ _ _ h => h) (Or.inl ⟨by rfl, ?_⟩) (by assumption) ?_; rotate_left; (focus (intro w hSw; (try dsimp only at hSw); go_simp; try with_reducible rfl)); (try simp only [Act.put, List.setIfInBounds_toArray, List.set_cons_zero, List.set_cons_succ]))
            first | (refine wpAnyH_take (i := 14) (oi := ⟨_, _, _, _, _, _⟩) rfl (by kernel_rfl) (by kernel_rfl) (by kernel_rfl) (fun _ _ _ h => h) (Or.inr ⟨by rfl, rfl⟩) (by assumption) ?_; (try simp only [Act.put, List.setIfInBounds_toArray, List.set_cons_zero, List.set_cons_succ])) | (refine wpAnyH_take (i := 14) (oi := ⟨_, _, _, _, _, _⟩) (v := ?_) rfl (by kernel_rfl) (by kernel_rfl) (by kernel_rfl) (fun _ _ _ h => h) (Or.inl ⟨by rfl, ?_⟩) (by assumption) ?_; rotate_left; (focus (intro w hSw; (try dsimp only at hSw); go_simp; try with_reducible rfl)); (try simp only [Act.put, List.setIfInBounds_toArray, List.set_cons_zero, List.set_cons_succ]))
            (refine wpAnyH_take (i := 15) (oi := ⟨_, _, _, _, _, _⟩) rfl (by kernel_rfl) (by kernel_rfl) (by kernel_rfl) (fun _ _ _ h => h) (Or.inr ⟨by rfl, rfl⟩) (by assumption) ?_; (try simp only [Act.put, List.setIfInBounds_toArray, List.set_cons_zero, List.set_cons_succ]))
            first | (refine wpAnyH_take (i := 16) (oi := ⟨_, _, _, _, _, _⟩) rfl (by kernel_rfl) (by kernel_rfl) (by kernel_rfl) (fun _ _ _ h => h) (Or.inr ⟨by rfl, rfl⟩) (by assumption) ?_; (try simp only [Act.put, List.setIfInBounds_toArray, List.set_cons_zero, List.set_cons_succ])) | (refine wpAnyH_take (i := 16) (oi := ⟨_, _, _, _, _, _⟩) (v := ?_) rfl (by kernel_rfl) (by kernel_rfl) (by kernel_rfl) (fun _ _ _ h => h) (Or.inl ⟨by rfl, ?_⟩) (by assumption) ?_; rotate_left; (focus (intro w hSw; (try dsimp only at hSw); go_simp; try with_reducible rfl)); (try simp only [Act.put, List.setIfInBounds_toArray, List.set_cons_zero, List.set_cons_succ]))
            first | (refine wpAnyH_take (i := 17) (oi := ⟨_, _, _, _, _, _⟩) rfl (by kernel_rfl) (by kernel_rfl) (by kernel_rfl) (fun _ _ _ h => h) (Or.inr ⟨by rfl, rfl⟩) (by assumption) ?_; (try simp only [Act.put, List.setIfInBounds_toArray, List.set_cons_zero, List.set_cons_succ])) | (refine wpAnyH_take (i := 17) (oi := ⟨_, _, _, _, _, _⟩) (v := ?_) rfl (by kernel_rfl) (by kernel_rfl) (by kernel_rfl) (fun _ _ _ h => h) (Or.inl ⟨by rfl, ?_⟩) (by assumption) ?_; rotate_left; (focus (intro w hSw; (try dsimp only at hSw); go_simp; try with_reducible rfl)); (try simp only [Act.put, List.setIfInBounds_toArray, List.set_cons_zero, List.set_cons_succ]))
            refine wpAnyH_take (i := 18) (oi := ⟨_, _, _, _, _, _⟩) (v := ?_) rfl (by kernel_rfl) (by kernel_rfl) (by kernel_rfl) (fun _ _ _ h => h) (Or.inl ⟨by rfl, ?_⟩) (by assumption) ?_; rotate_left; (focus (intro w hSw; (try dsimp only at hSw); go_simp; try with_reducible rfl)); (try simp only [Act.put, List.setIfInBounds_toArray, List.set_cons_zero, List.set_cons_succ])
            refine wpAnyH_done (by kernel_rfl) ?_ _
            have e9 := hHeld.2.2.1
            go_wp2
            exact ⟨⟨1, t + cn, by go_num, by go_num, hlt, ht2, HT2, hHeld.1⟩, by simp [intOf]; omega⟩
          · obtain ⟨j, hj⟩ : ∃ j, k = j + 1 := ⟨k - 1, by omega⟩
            have Hj := Lib.hid hj
            have hkj : (k : Int) - 1 = (j : Int) := by omega
            have hkj2 : IntKind.i64.wrap (j : Int) = (j : Int) := by rw [← hkj]; exact IntWalk.i64_in _ (by omega)
            have hjn : j < xn := by omega
            have hkp : 0 < k := by omega
            have hkd : decide (0 < k) = true := decide_eq_true hkp
            have hkk : j < M.length := by have := HkM.out; omega
            obtain ⟨b', o', ya', yn', yc', he, hbs', hy, d0⟩ := intss_cells Hcx.out j hkk
            injection he with he
            injection he with he1 he2
            subst he1 he2
            have HY := Lib.hid hy
            have HD0 := Lib.hid d0
            have hcj := Hcmp.out j (by rw [← hj]; exact HkM.out)
            rw [← hj] at hcj
            have HKC := Lib.hid (fun W x y => comparePatterns_c (.slice ya' yn' yc') (.slice xa' xn' xc') (nth M j) (nth M k) W x y)
            rw [hcj] at HKC
            clear hj hk0 hy d0 hcj hkk hbk
            refine wp_region_held_drew (S := fun w' => Below W0.heap.size W0 w' ∧ BoxIs w' XB [.int .i64 (cn : Int), .int .i64 ct, .int .i64 be, .int .i64 dr, .int .i64 fl, .int .i64 ru]) (by kernel_rfl) (by exact ⟨hb6.drew, HBx.out.below (Below.refl _ _).drew⟩) (fun hHeld => ?_)
            refine wpAnyH_take (i := 0) (oi := ⟨_, _, _, _, _, _⟩) (v := ?_) rfl (by kernel_rfl) (by kernel_rfl) (by kernel_rfl) (fun _ _ _ h => h) (Or.inl ⟨by rfl, ?_⟩) (by assumption) ?_; rotate_left; (focus (intro w hSw; (try dsimp only at hSw); go_simp; try with_reducible rfl)); (try simp only [Act.put, List.setIfInBounds_toArray, List.set_cons_zero, List.set_cons_succ])
            refine wpAnyH_take (i := 1) (oi := ⟨_, _, _, _, _, _⟩) (v := ?_) rfl (by kernel_rfl) (by kernel_rfl) (by kernel_rfl) (fun _ _ _ h => h) (Or.inl ⟨by rfl, ?_⟩) (by assumption) ?_; rotate_left; (focus (intro w hSw; (try dsimp only at hSw); go_simp; try with_reducible rfl)); (try simp only [Act.put, List.setIfInBounds_toArray, List.set_cons_zero, List.set_cons_succ])
            refine wpAnyH_take (i := 2) (oi := ⟨_, _, _, _, _, _⟩) (v := ?_) rfl (by kernel_rfl) (by kernel_rfl) (by kernel_rfl) (fun _ _ _ h => h) (Or.inl ⟨by rfl, ?_⟩) (by assumption) ?_; rotate_left; (focus (intro w hSw; (try dsimp only at hSw); go_simp; try with_reducible rfl)); (try simp only [Act.put, List.setIfInBounds_toArray, List.set_cons_zero, List.set_cons_succ])
            first | (refine wpAnyH_take (i := 3) (oi := ⟨_, _, _, _, _, _⟩) rfl (by kernel_rfl) (by kernel_rfl) (by kernel_rfl) (fun _ _ _ h => h) (Or.inr ⟨by rfl, rfl⟩) (by assumption) ?_; (try simp only [Act.put, List.setIfInBounds_toArray, List.set_cons_zero, List.set_cons_succ])) | (refine wpAnyH_take (i := 3) (oi := ⟨_, _, _, _, _, _⟩) (v := ?_) rfl (by kernel_rfl) (by kernel_rfl) (by kernel_rfl) (fun _ _ _ h => h) (Or.inl ⟨by rfl, ?_⟩) (by assumption) ?_; rotate_left; (focus (intro w hSw; (try dsimp only at hSw); go_simp; try with_reducible rfl)); (try simp only [Act.put, List.setIfInBounds_toArray, List.set_cons_zero, List.set_cons_succ]))
            first | (refine wpAnyH_take (i := 4) (oi := ⟨_, _, _, _, _, _⟩) rfl (by kernel_rfl) (by kernel_rfl) (by kernel_rfl) (fun _ _ _ h => h) (Or.inr ⟨by rfl, rfl⟩) (by assumption) ?_; (try simp only [Act.put, List.setIfInBounds_toArray, List.set_cons_zero, List.set_cons_succ])) | (refine wpAnyH_take (i := 4) (oi := ⟨_, _, _, _, _, _⟩) (v := ?_) rfl (by kernel_rfl) (by kernel_rfl) (by kernel_rfl) (fun _ _ _ h => h) (Or.inl ⟨by rfl, ?_⟩) (by assumption) ?_; rotate_left; (focus (intro w hSw; (try dsimp only at hSw); go_simp; try with_reducible rfl)); (try simp only [Act.put, List.setIfInBounds_toArray, List.set_cons_zero, List.set_cons_succ]))
            first | (refine wpAnyH_take (i := 5) (oi := ⟨_, _, _, _, _, _⟩) rfl (by kernel_rfl) (by kernel_rfl) (by kernel_rfl) (fun _ _ _ h => h) (Or.inr ⟨by rfl, rfl⟩) (by assumption) ?_; (try simp only [Act.put, List.setIfInBounds_toArray, List.set_cons_zero, List.set_cons_succ])) | (refine wpAnyH_take (i := 5) (oi := ⟨_, _, _, _, _, _⟩) (v := ?_) rfl (by kernel_rfl) (by kernel_rfl) (by kernel_rfl) (fun _ _ _ h => h) (Or.inl ⟨by rfl, ?_⟩) (by assumption) ?_; rotate_left; (focus (intro w hSw; (try dsimp only at hSw); go_simp; try with_reducible rfl)); (try simp only [Act.put, List.setIfInBounds_toArray, List.set_cons_zero, List.set_cons_succ]))
            first | (refine wpAnyH_take (i := 6) (oi := ⟨_, _, _, _, _, _⟩) rfl (by kernel_rfl) (by kernel_rfl) (by kernel_rfl) (fun _ _ _ h => h) (Or.inr ⟨by rfl, rfl⟩) (by assumption) ?_; (try simp only [Act.put, List.setIfInBounds_toArray, List.set_cons_zero, List.set_cons_succ])) | (refine wpAnyH_take (i := 6) (oi := ⟨_, _, _, _, _, _⟩) (v := ?_) rfl (by kernel_rfl) (by kernel_rfl) (by kernel_rfl) (fun _ _ _ h => h) (Or.inl ⟨by rfl, ?_⟩) (by assumption) ?_; rotate_left; (focus (intro w hSw; (try dsimp only at hSw); go_simp; try with_reducible rfl)); (try simp only [Act.put, List.setIfInBounds_toArray, List.set_cons_zero, List.set_cons_succ]))
            first | (refine wpAnyH_take (i := 7) (oi := ⟨_, _, _, _, _, _⟩) rfl (by kernel_rfl) (by kernel_rfl) (by kernel_rfl) (fun _ _ _ h => h) (Or.inr ⟨by rfl, rfl⟩) (by assumption) ?_; (try simp only [Act.put, List.setIfInBounds_toArray, List.set_cons_zero, List.set_cons_succ])) | (refine wpAnyH_take (i := 7) (oi := ⟨_, _, _, _, _, _⟩) (v := ?_) rfl (by kernel_rfl) (by kernel_rfl) (by kernel_rfl) (fun _ _ _ h => h) (Or.inl ⟨by rfl, ?_⟩) (by assumption) ?_; rotate_left; (focus (intro w hSw; (try dsimp only at hSw); go_simp; try with_reducible rfl)); (try simp only [Act.put, List.setIfInBounds_toArray, List.set_cons_zero, List.set_cons_succ]))
            first | (refine wpAnyH_take (i := 8) (oi := ⟨_, _, _, _, _, _⟩) rfl (by kernel_rfl) (by kernel_rfl) (by kernel_rfl) (fun _ _ _ h => h) (Or.inr ⟨by rfl, rfl⟩) (by assumption) ?_; (try simp only [Act.put, List.setIfInBounds_toArray, List.set_cons_zero, List.set_cons_succ])) | (refine wpAnyH_take (i := 8) (oi := ⟨_, _, _, _, _, _⟩) (v := ?_) rfl (by kernel_rfl) (by kernel_rfl) (by kernel_rfl) (fun _ _ _ h => h) (Or.inl ⟨by rfl, ?_⟩) (by assumption) ?_; rotate_left; (focus (intro w hSw; (try dsimp only at hSw); go_simp; try with_reducible rfl)); (try simp only [Act.put, List.setIfInBounds_toArray, List.set_cons_zero, List.set_cons_succ]))
            first | (refine wpAnyH_take (i := 9) (oi := ⟨_, _, _, _, _, _⟩) rfl (by kernel_rfl) (by kernel_rfl) (by kernel_rfl) (fun _ _ _ h => h) (Or.inr ⟨by rfl, rfl⟩) (by assumption) ?_; (try simp only [Act.put, List.setIfInBounds_toArray, List.set_cons_zero, List.set_cons_succ])) | (refine wpAnyH_take (i := 9) (oi := ⟨_, _, _, _, _, _⟩) (v := ?_) rfl (by kernel_rfl) (by kernel_rfl) (by kernel_rfl) (fun _ _ _ h => h) (Or.inl ⟨by rfl, ?_⟩) (by assumption) ?_; rotate_left; (focus (intro w hSw; (try dsimp only at hSw); go_simp; try with_reducible rfl)); (try simp only [Act.put, List.setIfInBounds_toArray, List.set_cons_zero, List.set_cons_succ]))
            first | (refine wpAnyH_take (i := 10) (oi := ⟨_, _, _, _, _, _⟩) rfl (by kernel_rfl) (by kernel_rfl) (by kernel_rfl) (fun _ _ _ h => h) (Or.inr ⟨by rfl, rfl⟩) (by assumption) ?_; (try simp only [Act.put, List.setIfInBounds_toArray, List.set_cons_zero, List.set_cons_succ])) | (refine wpAnyH_take (i := 10) (oi := ⟨_, _, _, _, _, _⟩) (v := ?_) rfl (by kernel_rfl) (by kernel_rfl) (by kernel_rfl) (fun _ _ _ h => h) (Or.inl ⟨by rfl, ?_⟩) (by assumption) ?_; rotate_left; (focus (intro w hSw; (try dsimp only at hSw); have t1 := cell_then hbx HX0.out hSw.1; have t2 := cell_then hbs' HD0.out hSw.1; go_simp; try with_reducible rfl)); (try simp only [Act.put, List.setIfInBounds_toArray, List.set_cons_zero, List.set_cons_succ]))
            first | (refine wpAnyH_take (i := 11) (oi := ⟨_, _, _, _, _, _⟩) rfl (by kernel_rfl) (by kernel_rfl) (by kernel_rfl) (fun _ _ _ h => h) (Or.inr ⟨by rfl, rfl⟩) (by assumption) ?_; (try simp only [Act.put, List.setIfInBounds_toArray, List.set_cons_zero, List.set_cons_succ])) | (refine wpAnyH_take (i := 11) (oi := ⟨_, _, _, _, _, _⟩) (v := ?_) rfl (by kernel_rfl) (by kernel_rfl) (by kernel_rfl) (fun _ _ _ h => h) (Or.inl ⟨by rfl, ?_⟩) (by assumption) ?_; rotate_left; (focus (intro w hSw; (try dsimp only at hSw); go_simp; try with_reducible rfl)); (try simp only [Act.put, List.setIfInBounds_toArray, List.set_cons_zero, List.set_cons_succ]))
            first | (refine wpAnyH_take (i := 12) (oi := ⟨_, _, _, _, _, _⟩) rfl (by kernel_rfl) (by kernel_rfl) (by kernel_rfl) (fun _ _ _ h => h) (Or.inr ⟨by rfl, rfl⟩) (by assumption) ?_; (try simp only [Act.put, List.setIfInBounds_toArray, List.set_cons_zero, List.set_cons_succ])) | (refine wpAnyH_take (i := 12) (oi := ⟨_, _, _, _, _, _⟩) (v := ?_) rfl (by kernel_rfl) (by kernel_rfl) (by kernel_rfl) (fun _ _ _ h => h) (Or.inl ⟨by rfl, ?_⟩) (by assumption) ?_; rotate_left; (focus (intro w hSw; (try dsimp only at hSw); go_simp; try with_reducible rfl)); (try simp only [Act.put, List.setIfInBounds_toArray, List.set_cons_zero, List.set_cons_succ]))
            first | (refine wpAnyH_take (i := 13) (oi := ⟨_, _, _, _, _, _⟩) rfl (by kernel_rfl) (by kernel_rfl) (by kernel_rfl) (fun _ _ _ h => h) (Or.inr ⟨by rfl, rfl⟩) (by assumption) ?_; (try simp only [Act.put, List.setIfInBounds_toArray, List.set_cons_zero, List.set_cons_succ])) | (refine wpAnyH_take (i := 13) (oi := ⟨_, _, _, _, _, _⟩) (v := ?_) rfl (by kernel_rfl) (by kernel_rfl) (by kernel_rfl) (fun _ _ _ h => h) (Or.inl ⟨by rfl, ?_⟩) (by assumption) ?_; rotate_left; (focus (intro w hSw; (try dsimp only at hSw); go_simp; try with_reducible rfl)); (try simp only [Act.put, List.setIfInBounds_toArray, List.set_cons_zero, List.set_cons_succ]))
            first | (refine wpAnyH_take (i := 14) (oi := ⟨_, _, _, _, _, _⟩) rfl (by kernel_rfl) (by kernel_rfl) (by kernel_rfl) (fun _ _ _ h => h) (Or.inr ⟨by rfl, rfl⟩) (by assumption) ?_; (try simp only [Act.put, List.setIfInBounds_toArray, List.set_cons_zero, List.set_cons_succ])) | (refine wpAnyH_take (i := 14) (oi := ⟨_, _, _, _, _, _⟩) (v := ?_) rfl (by kernel_rfl) (by kernel_rfl) (by kernel_rfl) (fun _ _ _ h => h) (Or.inl ⟨by rfl, ?_⟩) (by assumption) ?_; rotate_left; (focus (intro w hSw; (try dsimp only at hSw); have t1 := cell_then hbx HX0.out hSw.1; have t2 := cell_then hbs' HD0.out hSw.1; go_simp; try with_reducible rfl)); (try simp only [Act.put, List.setIfInBounds_toArray, List.set_cons_zero, List.set_cons_succ]))
            refine wpAnyH_ready (rs := [15]) (by kernel_rfl) (by simp) ?_
            refine AllReadyH.cons (o := ⟨_, _, _, _, _, _⟩) rfl (fun K hK => ?_) AllReadyH.nil
            go_simp
            go_at_call 43; refine (HKC.out _ (HY.out.below hHeld.1) (HXp.out.below hHeld.1)).mono ?_; rintro e x2 ⟨rfl, d2⟩; have hS' := And.intro (bthen hHeld.1 d2) (hHeld.2.below d2)
            refine hK.out _ _ (by exact hS') (fun hHeld' => ?_)
            clear hHeld hK K
            have hHeld := hHeld'
            clear hHeld'
            try simp only [Act.put, List.setIfInBounds_toArray, List.set_cons_zero, List.set_cons_succ]
            first | (refine wpAnyH_take (i := 16) (oi := ⟨_, _, _, _, _, _⟩) rfl (by kernel_rfl) (by kernel_rfl) (by kernel_rfl) (fun _ _ _ h => h) (Or.inr ⟨by rfl, rfl⟩) (by assumption) ?_; (try simp only [Act.put, List.setIfInBounds_toArray, List.set_cons_zero, List.set_cons_succ])) | (refine wpAnyH_take (i := 16) (oi := ⟨_, _, _, _, _, _⟩) (v := ?_) rfl (by kernel_rfl) (by kernel_rfl) (by kernel_rfl) (fun _ _ _ h => h) (Or.inl ⟨by rfl, ?_⟩) (by assumption) ?_; rotate_left; (focus (intro w hSw; (try dsimp only at hSw); go_simp; try with_reducible rfl)); (try simp only [Act.put, List.setIfInBounds_toArray, List.set_cons_zero, List.set_cons_succ]))
            first | (refine wpAnyH_take (i := 17) (oi := ⟨_, _, _, _, _, _⟩) rfl (by kernel_rfl) (by kernel_rfl) (by kernel_rfl) (fun _ _ _ h => h) (Or.inr ⟨by rfl, rfl⟩) (by assumption) ?_; (try simp only [Act.put, List.setIfInBounds_toArray, List.set_cons_zero, List.set_cons_succ])) | (refine wpAnyH_take (i := 17) (oi := ⟨_, _, _, _, _, _⟩) (v := ?_) rfl (by kernel_rfl) (by kernel_rfl) (by kernel_rfl) (fun _ _ _ h => h) (Or.inl ⟨by rfl, ?_⟩) (by assumption) ?_; rotate_left; (focus (intro w hSw; (try dsimp only at hSw); go_simp; try with_reducible rfl)); (try simp only [Act.put, List.setIfInBounds_toArray, List.set_cons_zero, List.set_cons_succ]))
            refine wpAnyH_take (i := 18) (oi := ⟨_, _, _, _, _, _⟩) (v := ?_) rfl (by kernel_rfl) (by kernel_rfl) (by kernel_rfl) (fun _ _ _ h => h) (Or.inl ⟨by rfl, ?_⟩) (by assumption) ?_; rotate_left; (focus (intro w hSw; (try dsimp only at hSw); go_simp; try with_reducible rfl)); (try simp only [Act.put, List.setIfInBounds_toArray, List.set_cons_zero, List.set_cons_succ])
            refine wpAnyH_done (by kernel_rfl) ?_ _
            have e9 := hHeld.2.2.1
            clear hkj2 hkj hkd
            go_wp2
            exact ⟨⟨k + 1, t + cn, by go_num, by go_num, hlt, ht2, HT2, hHeld.1⟩, by simp [intOf]; omega⟩
        · obtain rfl : k = xn := by omega
          have hte : t = ln := by rw [HT.out, sumTo_all _ _ _ (by rw [← Hmn.out]; exact Nat.le_refl _), Hsum.out]
          subst hte
          have hbz := bthen hb0 hb
          clear HT hb
          go_wp2
          go_ret
          exact Gives.bool (by simp <;> omega) hbz
set_option maxRecDepth 100000 in
set_option linter.unusedVariables false in
theorem fnPracticed_lifted (os : Os) (started : os.Started) (H : Type) (enc : TypeId × Value → H) :
    ReturnsInHanded {} Tryz.checked os 4 .any (fun w args => (Rows.fnPracticedSpec.pre enc Tryz.prog Tryz.f4 Rows.fnPracticedRow.domain false w args ∧ laidMetH Tryz.prog dLaid w) ∧ sizedMet enc Tryz.prog Tryz.f4 (OpenSpec.ofChange Rows.fnPracticedSpec) false w args) (Rows.fnPracticedSpec.post enc Tryz.prog Tryz.f4 false true false false) := by
  refine returnsInHanded_of_change_and (C := Tryz.checked) (X := fun w _ => laidMetH Tryz.prog dLaid w) (fun _ _ _ hh h => h.of_heap hh) own started (by kernel_rfl) Tryz.func4
    (ChangeSpec.witness_shaped (enc := enc) (C := Tryz.checked) (os := os) (X := fun w _ => laidMetH Tryz.prog dLaid w) false (World.doorLaid Tryz.prog doorSteps os) #[.slice none 0 0] 8 rfl (World.shaped_of_RefB (by kernel_rfl) (by kernel_rfl)) (by kernel_rfl) (by kernel_rfl) (by kernel_rfl) (door_met os _)) ?_
  intro W base args ds gs before hval0 hW _ _ hL _
  have hval : ∀ (j : Nat) t v, Tryz.f4.params[j]? = some t → args[j]? = some v → Value.okWide Tryz.prog W .any base t v := hval0
  have hW' := hW
  obtain ⟨p, q, hA0, hV, rfl, hfz, hnd⟩ := hW
  have hA : DataW.TrodAll enc Tryz.prog W 0 (fun _ => true) true Tryz.f4.params.toList args.toList ds p := hA0
  rw [Tryz.params4] at hA hval
  obtain ⟨v0, vs0, d0, ds0, p0, q0, hargs, rfl, rfl, h0, r0⟩ := trodAll_cons hA
  obtain ⟨rfl, rfl, rfl⟩ := trodAll_nil r0
  obtain rfl : args = #[v0] := by cases args; simp_all
  obtain ⟨rfl, rfl⟩ := trodVars_none hV
  have k0 := h0
  have lt0 : ∀ x ∈ p0, x.block < W.heap.size := by obtain ⟨m, hm⟩ := k0; exact DataW.trod_lt m _ _ _ hm
  obtain ⟨l0, c0, w0⟩ := bytes_of_trod (v := v0) Tryz.underlying22 Tryz.underlying5 (by kernel_rfl) (hval 0 22 v0 rfl rfl) h0
  have hTab := tab_of_laid hL
  clear hA0 hval0
  refine (fnPracticed_walk v0 l0 W c0 w0 hTab).mono fun e W' ⟨he, bel⟩ => ?_
  subst he
  exact ⟨_, rfl, _, _, _, [], _, [], hW', trodAll_mk1 (shut_bool Tryz.underlying4 _), (trodAll_cons_mk (Below.trod laidOut (by kernel_rfl) (of_decide_eq_true (by kernel_rfl)) k0 bel lt0) trodAll_mk0), rfl, bel.frame _, fun h => by cases h⟩
theorem fnPracticed_over : Rows.fnPracticedRow.holds Tryz.pinned (OpenSpec.ofChange Rows.fnPracticedSpec) :=
  OpenClaim.holds_of_wide 4 Tryz.f4 rfl rfl rfl rfl rfl rfl rfl ⟨rfl, rfl, rfl, rfl, rfl⟩ rfl rfl rfl rfl rfl (by kernel_rfl) Tryz.func4 (by kernel_rfl)
    (of_decide_eq_true (by kernel_rfl)) (by unfold Func.isWrapper; first | (rw [if_pos (by decide +kernel)]; kernel_rfl) | (rw [if_neg (by decide +kernel)]; exact ⟨rfl, rfl⟩))
    (fun os started H enc _ => fnPracticed_lifted os started H enc)
theorem fnPracticed_holds : Rows.FnPracticedCardSaid :=
  Claim7.holds_tied_plain_at .later [] [.data, .data, .data] true Rows.fnPracticedCard.stood.harness false
    fnPracticed_over (fun _ h => by cases h) (by kernel_rfl) (fun _ h => by cases h) fnPracticed_row_tie rfl ⟨rfl, rfl⟩ (by kernel_rfl) rfl
    (fun f fn hf hfn => by
      obtain rfl : f = 4 := Option.some.inj ((show Tryz.prog.funcNamed "loop.example/g00927/laws.FnPracticed" = some 4 by kernel_rfl).symm.trans hf) |>.symm
      obtain rfl : fn = Tryz.f4 := (Option.some.inj (Tryz.func4.symm.trans hfn)).symm
      exact ⟨by kernel_rfl, fun j t ht => by
        rw [Tryz.params4] at ht
        have hm : t ∈ [22] := by simpa using Array.mem_of_getElem? ht
        have hall : ([22].all fun u => !Tryz.prog.wantsStandIn u) = true := by kernel_rfl
        exact (show Tryz.prog.wantsStandIn t = false by simpa using List.all_eq_true.1 hall t hm)⟩)
    (by kernel_rfl)
#print axioms fnPracticed_holds
end Go.Proofs.YtclffohjpbmnbaaGreatDoor
