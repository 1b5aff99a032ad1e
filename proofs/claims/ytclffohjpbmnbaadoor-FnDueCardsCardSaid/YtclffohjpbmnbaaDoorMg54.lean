import Derived.Test.YtclffohjpbmnbaaDoorMg40
import Derived.Test.YtclffohjpbmnbaaDoorMg52
import Derived.Test.YtclffohjpbmnbaaDoorMg42
import Derived.Test.YtclffohjpbmnbaaDoorMg39
import Derived.Test.YtclffohjpbmnbaaDoorMg3
import Derived.Test.YtclffohjpbmnbaaDoorMg13
import Derived.Test.YtclffohjpbmnbaaDoorMg53
import Derived.Deep.RegionHeld3
/- LawDu: the walk of the law FnDueCards, and its card. -/
namespace Go.Proofs.YtclffohjpbmnbaaDoor
open Go.ChangeShapes Go.WideShapes Go.ChangeAt Go.RowKit

theorem eqC_selfD (l : List Card) : same2 eqCardB l l = true := (same2_iff eqCardB eqCardB_iff l l).2 rfl
set_option maxRecDepth 100000 in
set_option maxHeartbeats 8000000 in
theorem fnDueCards_walk (v : Value) (cs : List Int) (w : World) (hv : BytesAt w v cs) (hin : ∀ x ∈ cs, 0 ≤ x ∧ x ≤ 255) (ht : TabW w) : Calls Tryd.prog 3 #[v] w (Gives (.bool true) w) := by
  have HTab := Lib.hid ht
  clear ht
  have HV := Lib.hid hv
  have Hin := Lib.hid hin
  have HFB := Lib.hid (f6big_c v cs w hv)
  clear hv hin
  by_cases hl : 4096 < cs.length
  · rw [decide_eq_true hl] at HFB
    clear hl
    go_enter Tryd.func3, Tryd.ntmps3
    go_wp2_with fail
    refine HFB.out.mono ?_
    rintro e w1 ⟨rfl, hb1⟩
    go_wp2
    go_ret
    exact Gives.bool rfl hb1
  rw [decide_eq_false hl] at HFB
  have Hcl : Hid (cs.length ≤ 4096) := Lib.hid (by omega)
  clear hl
  go_enter Tryd.func3, Tryd.ntmps3
  go_wp2_with fail
  refine HFB.out.mono ?_
  rintro e w1 ⟨rfl, hb0⟩
  clear HFB
  have HT9 := Lib.hid (HTab.out.below hb0)
  clear HTab
  have HTab := HT9
  clear HT9
  go_wp2_with fail
  refine (drawDueCards_c v cs w1 (HV.out.below hb0) Hin.out Hcl.out).mono ?_
  rintro e w2 ⟨la, ln, lc, L, day, rfl, hl2, hl, -, -, hb⟩
  have HL := Lib.hid hl
  have HL2 := Lib.hid hl2
  clear hl hl2
  have HT9 := Lib.hid (HTab.out.below hb)
  clear HTab
  have HTab := HT9
  clear HT9
  have Hn2 := bthen hb0 hb
  clear hb0 hb
  have hb0 := Hn2
  clear Hn2
  go_wp2_with fail
  refine (iDueCards_c _ L day w2 HL.out).mono ?_
  rintro e w3 ⟨xa, xn, xc, rfl, ho, hb⟩
  try (have Hn1 := Lib.hid (HL.out.below hb); clear HL; have HL := Hn1; clear Hn1)
  try (have Hn1 := Lib.hid (HX.out.below hb); clear HX; have HX := Hn1; clear Hn1)
  try (have Hn1 := Lib.hid (HM.out.below hb); clear HM; have HM := Hn1; clear Hn1)
  try (have Hn1 := Lib.hid (HC.out.below hb); clear HC; have HC := Hn1; clear Hn1)
  try (have Hn1 := Lib.hid (HY.out.below hb); clear HY; have HY := Hn1; clear Hn1)
  try (have Hn1 := Lib.hid (HZ.out.below hb); clear HZ; have HZ := Hn1; clear Hn1)
  try (have Hn1 := Lib.hid (HD.out.below hb); clear HD; have HD := Hn1; clear Hn1)
  try (have Hn1 := Lib.hid (HP.out.below hb); clear HP; have HP := Hn1; clear Hn1)
  try (have Hn1 := Lib.hid (HQ.out.below hb); clear HQ; have HQ := Hn1; clear Hn1)
  try (have Hn1 := Lib.hid (HA.out.below hb); clear HA; have HA := Hn1; clear Hn1)
  try (have Hn1 := Lib.hid (HB.out.below hb); clear HB; have HB := Hn1; clear Hn1)
  try (have Hn1 := Lib.hid (HT.out.below hb); clear HT; have HT := Hn1; clear Hn1)
  try (have Hn1 := Lib.hid (HR.out.below hb); clear HR; have HR := Hn1; clear Hn1)
  try (have Hn1 := Lib.hid (HE.out.below hb); clear HE; have HE := Hn1; clear Hn1)
  try (have Hn1 := Lib.hid (HF.out.below hb); clear HF; have HF := Hn1; clear Hn1)
  try (have Hn1 := Lib.hid (HG.out.below hb); clear HG; have HG := Hn1; clear Hn1)
  try (have Hn1 := Lib.hid (HTab.out.below hb); clear HTab; have HTab := Hn1; clear Hn1)
  have Hn2 := bthen hb0 hb
  clear hb0 hb
  have hb0 := Hn2
  clear Hn2
  have HX := Lib.hid (OwnStrs.at ho)
  clear ho
  go_wp2_with fail
  refine (sDueCards_c _ L day w3 HL.out).mono ?_
  rintro e w4 ⟨ma, mn, mc, rfl, ho, hb⟩
  try (have Hn1 := Lib.hid (HL.out.below hb); clear HL; have HL := Hn1; clear Hn1)
  try (have Hn1 := Lib.hid (HX.out.below hb); clear HX; have HX := Hn1; clear Hn1)
  try (have Hn1 := Lib.hid (HM.out.below hb); clear HM; have HM := Hn1; clear Hn1)
  try (have Hn1 := Lib.hid (HC.out.below hb); clear HC; have HC := Hn1; clear Hn1)
  try (have Hn1 := Lib.hid (HY.out.below hb); clear HY; have HY := Hn1; clear Hn1)
  try (have Hn1 := Lib.hid (HZ.out.below hb); clear HZ; have HZ := Hn1; clear Hn1)
  try (have Hn1 := Lib.hid (HD.out.below hb); clear HD; have HD := Hn1; clear Hn1)
  try (have Hn1 := Lib.hid (HP.out.below hb); clear HP; have HP := Hn1; clear Hn1)
  try (have Hn1 := Lib.hid (HQ.out.below hb); clear HQ; have HQ := Hn1; clear Hn1)
  try (have Hn1 := Lib.hid (HA.out.below hb); clear HA; have HA := Hn1; clear Hn1)
  try (have Hn1 := Lib.hid (HB.out.below hb); clear HB; have HB := Hn1; clear Hn1)
  try (have Hn1 := Lib.hid (HT.out.below hb); clear HT; have HT := Hn1; clear Hn1)
  try (have Hn1 := Lib.hid (HR.out.below hb); clear HR; have HR := Hn1; clear Hn1)
  try (have Hn1 := Lib.hid (HE.out.below hb); clear HE; have HE := Hn1; clear Hn1)
  try (have Hn1 := Lib.hid (HF.out.below hb); clear HF; have HF := Hn1; clear Hn1)
  try (have Hn1 := Lib.hid (HG.out.below hb); clear HG; have HG := Hn1; clear Hn1)
  try (have Hn1 := Lib.hid (HTab.out.below hb); clear HTab; have HTab := Hn1; clear Hn1)
  have Hn2 := bthen hb0 hb
  clear hb0 hb
  have hb0 := Hn2
  clear Hn2
  have HM := Lib.hid (OwnStrs.at ho)
  clear ho
  go_wp2_with fail
  refine (drawCardsText_c v cs w4 (HV.out.below hb0) Hin.out Hcl.out).mono ?_
  rintro e w5 ⟨ta, tn, tc, T, rfl, -, hl, hb⟩
  try (have Hn1 := Lib.hid (HL.out.below hb); clear HL; have HL := Hn1; clear Hn1)
  try (have Hn1 := Lib.hid (HX.out.below hb); clear HX; have HX := Hn1; clear Hn1)
  try (have Hn1 := Lib.hid (HM.out.below hb); clear HM; have HM := Hn1; clear Hn1)
  try (have Hn1 := Lib.hid (HC.out.below hb); clear HC; have HC := Hn1; clear Hn1)
  try (have Hn1 := Lib.hid (HY.out.below hb); clear HY; have HY := Hn1; clear Hn1)
  try (have Hn1 := Lib.hid (HZ.out.below hb); clear HZ; have HZ := Hn1; clear Hn1)
  try (have Hn1 := Lib.hid (HD.out.below hb); clear HD; have HD := Hn1; clear Hn1)
  try (have Hn1 := Lib.hid (HP.out.below hb); clear HP; have HP := Hn1; clear Hn1)
  try (have Hn1 := Lib.hid (HQ.out.below hb); clear HQ; have HQ := Hn1; clear Hn1)
  try (have Hn1 := Lib.hid (HA.out.below hb); clear HA; have HA := Hn1; clear Hn1)
  try (have Hn1 := Lib.hid (HB.out.below hb); clear HB; have HB := Hn1; clear Hn1)
  try (have Hn1 := Lib.hid (HT.out.below hb); clear HT; have HT := Hn1; clear Hn1)
  try (have Hn1 := Lib.hid (HR.out.below hb); clear HR; have HR := Hn1; clear Hn1)
  try (have Hn1 := Lib.hid (HE.out.below hb); clear HE; have HE := Hn1; clear Hn1)
  try (have Hn1 := Lib.hid (HF.out.below hb); clear HF; have HF := Hn1; clear Hn1)
  try (have Hn1 := Lib.hid (HG.out.below hb); clear HG; have HG := Hn1; clear Hn1)
  try (have Hn1 := Lib.hid (HTab.out.below hb); clear HTab; have HTab := Hn1; clear Hn1)
  have Hn2 := bthen hb0 hb
  clear hb0 hb
  have hb0 := Hn2
  clear Hn2
  have HT := Lib.hid hl
  clear hl
  go_wp2_with fail
  refine (iCardsText_c _ T w5 HT.out HTab.out).mono ?_
  rintro e w6 ⟨rfl, hb⟩
  try (have Hn1 := Lib.hid (HL.out.below hb); clear HL; have HL := Hn1; clear Hn1)
  try (have Hn1 := Lib.hid (HX.out.below hb); clear HX; have HX := Hn1; clear Hn1)
  try (have Hn1 := Lib.hid (HM.out.below hb); clear HM; have HM := Hn1; clear Hn1)
  try (have Hn1 := Lib.hid (HC.out.below hb); clear HC; have HC := Hn1; clear Hn1)
  try (have Hn1 := Lib.hid (HY.out.below hb); clear HY; have HY := Hn1; clear Hn1)
  try (have Hn1 := Lib.hid (HZ.out.below hb); clear HZ; have HZ := Hn1; clear Hn1)
  try (have Hn1 := Lib.hid (HD.out.below hb); clear HD; have HD := Hn1; clear Hn1)
  try (have Hn1 := Lib.hid (HP.out.below hb); clear HP; have HP := Hn1; clear Hn1)
  try (have Hn1 := Lib.hid (HQ.out.below hb); clear HQ; have HQ := Hn1; clear Hn1)
  try (have Hn1 := Lib.hid (HA.out.below hb); clear HA; have HA := Hn1; clear Hn1)
  try (have Hn1 := Lib.hid (HB.out.below hb); clear HB; have HB := Hn1; clear Hn1)
  try (have Hn1 := Lib.hid (HT.out.below hb); clear HT; have HT := Hn1; clear Hn1)
  try (have Hn1 := Lib.hid (HR.out.below hb); clear HR; have HR := Hn1; clear Hn1)
  try (have Hn1 := Lib.hid (HE.out.below hb); clear HE; have HE := Hn1; clear Hn1)
  try (have Hn1 := Lib.hid (HF.out.below hb); clear HF; have HF := Hn1; clear Hn1)
  try (have Hn1 := Lib.hid (HG.out.below hb); clear HG; have HG := Hn1; clear Hn1)
  try (have Hn1 := Lib.hid (HTab.out.below hb); clear HTab; have HTab := Hn1; clear Hn1)
  have Hn2 := bthen hb0 hb
  clear hb0 hb
  have hb0 := Hn2
  clear Hn2
  obtain ⟨hsz, hrt⟩ := cardsText_law T
  have HS2 := Lib.hid (fun W x => sCardsText_c (.slice ta tn tc) T W x)
  generalize cardsTextB T = TB at *
  have Hrt := Lib.hid hrt
  clear hrt
  go_wp2_with fail
  refine (iReadCards_c TB w6 (by omega) HTab.out).mono ?_
  rintro e w7 ⟨ba, bn, bc, rfl, ho, hb⟩
  try (have Hn1 := Lib.hid (HL.out.below hb); clear HL; have HL := Hn1; clear Hn1)
  try (have Hn1 := Lib.hid (HX.out.below hb); clear HX; have HX := Hn1; clear Hn1)
  try (have Hn1 := Lib.hid (HM.out.below hb); clear HM; have HM := Hn1; clear Hn1)
  try (have Hn1 := Lib.hid (HC.out.below hb); clear HC; have HC := Hn1; clear Hn1)
  try (have Hn1 := Lib.hid (HY.out.below hb); clear HY; have HY := Hn1; clear Hn1)
  try (have Hn1 := Lib.hid (HZ.out.below hb); clear HZ; have HZ := Hn1; clear Hn1)
  try (have Hn1 := Lib.hid (HD.out.below hb); clear HD; have HD := Hn1; clear Hn1)
  try (have Hn1 := Lib.hid (HP.out.below hb); clear HP; have HP := Hn1; clear Hn1)
  try (have Hn1 := Lib.hid (HQ.out.below hb); clear HQ; have HQ := Hn1; clear Hn1)
  try (have Hn1 := Lib.hid (HA.out.below hb); clear HA; have HA := Hn1; clear Hn1)
  try (have Hn1 := Lib.hid (HB.out.below hb); clear HB; have HB := Hn1; clear Hn1)
  try (have Hn1 := Lib.hid (HT.out.below hb); clear HT; have HT := Hn1; clear Hn1)
  try (have Hn1 := Lib.hid (HR.out.below hb); clear HR; have HR := Hn1; clear Hn1)
  try (have Hn1 := Lib.hid (HE.out.below hb); clear HE; have HE := Hn1; clear Hn1)
  try (have Hn1 := Lib.hid (HF.out.below hb); clear HF; have HF := Hn1; clear Hn1)
  try (have Hn1 := Lib.hid (HG.out.below hb); clear HG; have HG := Hn1; clear Hn1)
  try (have Hn1 := Lib.hid (HTab.out.below hb); clear HTab; have HTab := Hn1; clear Hn1)
  have Hn2 := bthen hb0 hb
  clear hb0 hb
  have hb0 := Hn2
  clear Hn2
  have HR := Lib.hid (OwnCards.at ho)
  clear ho
  go_wp2_with fail
  refine (drawReadCards_c v cs w7 (HV.out.below hb0) Hin.out Hcl.out).mono ?_
  rintro e w8 ⟨s, rfl, hs, hb⟩
  try (have Hn1 := Lib.hid (HL.out.below hb); clear HL; have HL := Hn1; clear Hn1)
  try (have Hn1 := Lib.hid (HX.out.below hb); clear HX; have HX := Hn1; clear Hn1)
  try (have Hn1 := Lib.hid (HM.out.below hb); clear HM; have HM := Hn1; clear Hn1)
  try (have Hn1 := Lib.hid (HC.out.below hb); clear HC; have HC := Hn1; clear Hn1)
  try (have Hn1 := Lib.hid (HY.out.below hb); clear HY; have HY := Hn1; clear Hn1)
  try (have Hn1 := Lib.hid (HZ.out.below hb); clear HZ; have HZ := Hn1; clear Hn1)
  try (have Hn1 := Lib.hid (HD.out.below hb); clear HD; have HD := Hn1; clear Hn1)
  try (have Hn1 := Lib.hid (HP.out.below hb); clear HP; have HP := Hn1; clear Hn1)
  try (have Hn1 := Lib.hid (HQ.out.below hb); clear HQ; have HQ := Hn1; clear Hn1)
  try (have Hn1 := Lib.hid (HA.out.below hb); clear HA; have HA := Hn1; clear Hn1)
  try (have Hn1 := Lib.hid (HB.out.below hb); clear HB; have HB := Hn1; clear Hn1)
  try (have Hn1 := Lib.hid (HT.out.below hb); clear HT; have HT := Hn1; clear Hn1)
  try (have Hn1 := Lib.hid (HR.out.below hb); clear HR; have HR := Hn1; clear Hn1)
  try (have Hn1 := Lib.hid (HE.out.below hb); clear HE; have HE := Hn1; clear Hn1)
  try (have Hn1 := Lib.hid (HF.out.below hb); clear HF; have HF := Hn1; clear Hn1)
  try (have Hn1 := Lib.hid (HG.out.below hb); clear HG; have HG := Hn1; clear Hn1)
  try (have Hn1 := Lib.hid (HTab.out.below hb); clear HTab; have HTab := Hn1; clear Hn1)
  have Hn2 := bthen hb0 hb
  clear hb0 hb
  have hb0 := Hn2
  clear Hn2
  go_wp2_with fail
  refine (iReadCards_c s w8 (by omega) HTab.out).mono ?_
  rintro e w9 ⟨ya, yn, yc, rfl, ho, hb⟩
  try (have Hn1 := Lib.hid (HL.out.below hb); clear HL; have HL := Hn1; clear Hn1)
  try (have Hn1 := Lib.hid (HX.out.below hb); clear HX; have HX := Hn1; clear Hn1)
  try (have Hn1 := Lib.hid (HM.out.below hb); clear HM; have HM := Hn1; clear Hn1)
  try (have Hn1 := Lib.hid (HC.out.below hb); clear HC; have HC := Hn1; clear Hn1)
  try (have Hn1 := Lib.hid (HY.out.below hb); clear HY; have HY := Hn1; clear Hn1)
  try (have Hn1 := Lib.hid (HZ.out.below hb); clear HZ; have HZ := Hn1; clear Hn1)
  try (have Hn1 := Lib.hid (HD.out.below hb); clear HD; have HD := Hn1; clear Hn1)
  try (have Hn1 := Lib.hid (HP.out.below hb); clear HP; have HP := Hn1; clear Hn1)
  try (have Hn1 := Lib.hid (HQ.out.below hb); clear HQ; have HQ := Hn1; clear Hn1)
  try (have Hn1 := Lib.hid (HA.out.below hb); clear HA; have HA := Hn1; clear Hn1)
  try (have Hn1 := Lib.hid (HB.out.below hb); clear HB; have HB := Hn1; clear Hn1)
  try (have Hn1 := Lib.hid (HT.out.below hb); clear HT; have HT := Hn1; clear Hn1)
  try (have Hn1 := Lib.hid (HR.out.below hb); clear HR; have HR := Hn1; clear Hn1)
  try (have Hn1 := Lib.hid (HE.out.below hb); clear HE; have HE := Hn1; clear Hn1)
  try (have Hn1 := Lib.hid (HF.out.below hb); clear HF; have HF := Hn1; clear Hn1)
  try (have Hn1 := Lib.hid (HG.out.below hb); clear HG; have HG := Hn1; clear Hn1)
  try (have Hn1 := Lib.hid (HTab.out.below hb); clear HTab; have HTab := Hn1; clear Hn1)
  have Hn2 := bthen hb0 hb
  clear hb0 hb
  have hb0 := Hn2
  clear Hn2
  have HY := Lib.hid (OwnCards.at ho)
  clear ho
  go_wp2_with fail
  refine (sReadCards_c s w9 (by omega)).mono ?_
  rintro e w10 ⟨za, zn, zc, rfl, ho, hb⟩
  try (have Hn1 := Lib.hid (HL.out.below hb); clear HL; have HL := Hn1; clear Hn1)
  try (have Hn1 := Lib.hid (HX.out.below hb); clear HX; have HX := Hn1; clear Hn1)
  try (have Hn1 := Lib.hid (HM.out.below hb); clear HM; have HM := Hn1; clear Hn1)
  try (have Hn1 := Lib.hid (HC.out.below hb); clear HC; have HC := Hn1; clear Hn1)
  try (have Hn1 := Lib.hid (HY.out.below hb); clear HY; have HY := Hn1; clear Hn1)
  try (have Hn1 := Lib.hid (HZ.out.below hb); clear HZ; have HZ := Hn1; clear Hn1)
  try (have Hn1 := Lib.hid (HD.out.below hb); clear HD; have HD := Hn1; clear Hn1)
  try (have Hn1 := Lib.hid (HP.out.below hb); clear HP; have HP := Hn1; clear Hn1)
  try (have Hn1 := Lib.hid (HQ.out.below hb); clear HQ; have HQ := Hn1; clear Hn1)
  try (have Hn1 := Lib.hid (HA.out.below hb); clear HA; have HA := Hn1; clear Hn1)
  try (have Hn1 := Lib.hid (HB.out.below hb); clear HB; have HB := Hn1; clear Hn1)
  try (have Hn1 := Lib.hid (HT.out.below hb); clear HT; have HT := Hn1; clear Hn1)
  try (have Hn1 := Lib.hid (HR.out.below hb); clear HR; have HR := Hn1; clear Hn1)
  try (have Hn1 := Lib.hid (HE.out.below hb); clear HE; have HE := Hn1; clear Hn1)
  try (have Hn1 := Lib.hid (HF.out.below hb); clear HF; have HF := Hn1; clear Hn1)
  try (have Hn1 := Lib.hid (HG.out.below hb); clear HG; have HG := Hn1; clear Hn1)
  try (have Hn1 := Lib.hid (HTab.out.below hb); clear HTab; have HTab := Hn1; clear Hn1)
  have Hn2 := bthen hb0 hb
  clear hb0 hb
  have hb0 := Hn2
  clear Hn2
  have HZ := Lib.hid (OwnCards.at ho)
  clear ho
  go_wp2_with fail
  refine (drawSameCards_c v cs w10 (HV.out.below hb0) Hin.out Hcl.out).mono ?_
  rintro e w11 ⟨aa, an, ac, ba', bn', bc', A, B, rfl, hl, hm, hb⟩
  try (have Hn1 := Lib.hid (HL.out.below hb); clear HL; have HL := Hn1; clear Hn1)
  try (have Hn1 := Lib.hid (HX.out.below hb); clear HX; have HX := Hn1; clear Hn1)
  try (have Hn1 := Lib.hid (HM.out.below hb); clear HM; have HM := Hn1; clear Hn1)
  try (have Hn1 := Lib.hid (HC.out.below hb); clear HC; have HC := Hn1; clear Hn1)
  try (have Hn1 := Lib.hid (HY.out.below hb); clear HY; have HY := Hn1; clear Hn1)
  try (have Hn1 := Lib.hid (HZ.out.below hb); clear HZ; have HZ := Hn1; clear Hn1)
  try (have Hn1 := Lib.hid (HD.out.below hb); clear HD; have HD := Hn1; clear Hn1)
  try (have Hn1 := Lib.hid (HP.out.below hb); clear HP; have HP := Hn1; clear Hn1)
  try (have Hn1 := Lib.hid (HQ.out.below hb); clear HQ; have HQ := Hn1; clear Hn1)
  try (have Hn1 := Lib.hid (HA.out.below hb); clear HA; have HA := Hn1; clear Hn1)
  try (have Hn1 := Lib.hid (HB.out.below hb); clear HB; have HB := Hn1; clear Hn1)
  try (have Hn1 := Lib.hid (HT.out.below hb); clear HT; have HT := Hn1; clear Hn1)
  try (have Hn1 := Lib.hid (HR.out.below hb); clear HR; have HR := Hn1; clear Hn1)
  try (have Hn1 := Lib.hid (HE.out.below hb); clear HE; have HE := Hn1; clear Hn1)
  try (have Hn1 := Lib.hid (HF.out.below hb); clear HF; have HF := Hn1; clear Hn1)
  try (have Hn1 := Lib.hid (HG.out.below hb); clear HG; have HG := Hn1; clear Hn1)
  try (have Hn1 := Lib.hid (HTab.out.below hb); clear HTab; have HTab := Hn1; clear Hn1)
  have Hn2 := bthen hb0 hb
  clear hb0 hb
  have hb0 := Hn2
  clear Hn2
  have HA := Lib.hid hl
  have HB := Lib.hid hm
  clear hl hm
  go_wp2_with fail
  refine (drawIntervalOf_c v cs w11 (HV.out.below hb0) Hin.out Hcl.out).mono ?_
  rintro e w12 ⟨kk, rfl, -, -, hb⟩
  try (have Hn1 := Lib.hid (HL.out.below hb); clear HL; have HL := Hn1; clear Hn1)
  try (have Hn1 := Lib.hid (HX.out.below hb); clear HX; have HX := Hn1; clear Hn1)
  try (have Hn1 := Lib.hid (HM.out.below hb); clear HM; have HM := Hn1; clear Hn1)
  try (have Hn1 := Lib.hid (HC.out.below hb); clear HC; have HC := Hn1; clear Hn1)
  try (have Hn1 := Lib.hid (HY.out.below hb); clear HY; have HY := Hn1; clear Hn1)
  try (have Hn1 := Lib.hid (HZ.out.below hb); clear HZ; have HZ := Hn1; clear Hn1)
  try (have Hn1 := Lib.hid (HD.out.below hb); clear HD; have HD := Hn1; clear Hn1)
  try (have Hn1 := Lib.hid (HP.out.below hb); clear HP; have HP := Hn1; clear Hn1)
  try (have Hn1 := Lib.hid (HQ.out.below hb); clear HQ; have HQ := Hn1; clear Hn1)
  try (have Hn1 := Lib.hid (HA.out.below hb); clear HA; have HA := Hn1; clear Hn1)
  try (have Hn1 := Lib.hid (HB.out.below hb); clear HB; have HB := Hn1; clear Hn1)
  try (have Hn1 := Lib.hid (HT.out.below hb); clear HT; have HT := Hn1; clear Hn1)
  try (have Hn1 := Lib.hid (HR.out.below hb); clear HR; have HR := Hn1; clear Hn1)
  try (have Hn1 := Lib.hid (HE.out.below hb); clear HE; have HE := Hn1; clear Hn1)
  try (have Hn1 := Lib.hid (HF.out.below hb); clear HF; have HF := Hn1; clear Hn1)
  try (have Hn1 := Lib.hid (HG.out.below hb); clear HG; have HG := Hn1; clear Hn1)
  try (have Hn1 := Lib.hid (HTab.out.below hb); clear HTab; have HTab := Hn1; clear Hn1)
  have Hn2 := bthen hb0 hb
  clear hb0 hb
  have hb0 := Hn2
  clear Hn2
  go_wp2_with fail
  refine (iIntervalOf_c kk w12).mono ?_
  rintro e w13 ⟨rfl, hb⟩
  try (have Hn1 := Lib.hid (HL.out.below hb); clear HL; have HL := Hn1; clear Hn1)
  try (have Hn1 := Lib.hid (HX.out.below hb); clear HX; have HX := Hn1; clear Hn1)
  try (have Hn1 := Lib.hid (HM.out.below hb); clear HM; have HM := Hn1; clear Hn1)
  try (have Hn1 := Lib.hid (HC.out.below hb); clear HC; have HC := Hn1; clear Hn1)
  try (have Hn1 := Lib.hid (HY.out.below hb); clear HY; have HY := Hn1; clear Hn1)
  try (have Hn1 := Lib.hid (HZ.out.below hb); clear HZ; have HZ := Hn1; clear Hn1)
  try (have Hn1 := Lib.hid (HD.out.below hb); clear HD; have HD := Hn1; clear Hn1)
  try (have Hn1 := Lib.hid (HP.out.below hb); clear HP; have HP := Hn1; clear Hn1)
  try (have Hn1 := Lib.hid (HQ.out.below hb); clear HQ; have HQ := Hn1; clear Hn1)
  try (have Hn1 := Lib.hid (HA.out.below hb); clear HA; have HA := Hn1; clear Hn1)
  try (have Hn1 := Lib.hid (HB.out.below hb); clear HB; have HB := Hn1; clear Hn1)
  try (have Hn1 := Lib.hid (HT.out.below hb); clear HT; have HT := Hn1; clear Hn1)
  try (have Hn1 := Lib.hid (HR.out.below hb); clear HR; have HR := Hn1; clear Hn1)
  try (have Hn1 := Lib.hid (HE.out.below hb); clear HE; have HE := Hn1; clear Hn1)
  try (have Hn1 := Lib.hid (HF.out.below hb); clear HF; have HF := Hn1; clear Hn1)
  try (have Hn1 := Lib.hid (HG.out.below hb); clear HG; have HG := Hn1; clear Hn1)
  try (have Hn1 := Lib.hid (HTab.out.below hb); clear HTab; have HTab := Hn1; clear Hn1)
  have Hn2 := bthen hb0 hb
  clear hb0 hb
  have hb0 := Hn2
  clear Hn2
  go_wp2_with fail
  refine (sIntervalOf_c kk w13).mono ?_
  rintro e w14 ⟨rfl, hb⟩
  try (have Hn1 := Lib.hid (HL.out.below hb); clear HL; have HL := Hn1; clear Hn1)
  try (have Hn1 := Lib.hid (HX.out.below hb); clear HX; have HX := Hn1; clear Hn1)
  try (have Hn1 := Lib.hid (HM.out.below hb); clear HM; have HM := Hn1; clear Hn1)
  try (have Hn1 := Lib.hid (HC.out.below hb); clear HC; have HC := Hn1; clear Hn1)
  try (have Hn1 := Lib.hid (HY.out.below hb); clear HY; have HY := Hn1; clear Hn1)
  try (have Hn1 := Lib.hid (HZ.out.below hb); clear HZ; have HZ := Hn1; clear Hn1)
  try (have Hn1 := Lib.hid (HD.out.below hb); clear HD; have HD := Hn1; clear Hn1)
  try (have Hn1 := Lib.hid (HP.out.below hb); clear HP; have HP := Hn1; clear Hn1)
  try (have Hn1 := Lib.hid (HQ.out.below hb); clear HQ; have HQ := Hn1; clear Hn1)
  try (have Hn1 := Lib.hid (HA.out.below hb); clear HA; have HA := Hn1; clear Hn1)
  try (have Hn1 := Lib.hid (HB.out.below hb); clear HB; have HB := Hn1; clear Hn1)
  try (have Hn1 := Lib.hid (HT.out.below hb); clear HT; have HT := Hn1; clear Hn1)
  try (have Hn1 := Lib.hid (HR.out.below hb); clear HR; have HR := Hn1; clear Hn1)
  try (have Hn1 := Lib.hid (HE.out.below hb); clear HE; have HE := Hn1; clear Hn1)
  try (have Hn1 := Lib.hid (HF.out.below hb); clear HF; have HF := Hn1; clear Hn1)
  try (have Hn1 := Lib.hid (HG.out.below hb); clear HG; have HG := Hn1; clear Hn1)
  try (have Hn1 := Lib.hid (HTab.out.below hb); clear HTab; have HTab := Hn1; clear Hn1)
  have Hn2 := bthen hb0 hb
  clear hb0 hb
  have hb0 := Hn2
  clear Hn2
  go_wp2_with fail
  have h := f6texts_c _ _ _ _ w14 HX.out HM.out
  rw [eqT_self] at h
  refine h.mono ?_
  rintro e w15 ⟨rfl, hb⟩
  clear h HM
  try (have Hn1 := Lib.hid (HL.out.below hb); clear HL; have HL := Hn1; clear Hn1)
  try (have Hn1 := Lib.hid (HX.out.below hb); clear HX; have HX := Hn1; clear Hn1)
  try (have Hn1 := Lib.hid (HM.out.below hb); clear HM; have HM := Hn1; clear Hn1)
  try (have Hn1 := Lib.hid (HC.out.below hb); clear HC; have HC := Hn1; clear Hn1)
  try (have Hn1 := Lib.hid (HY.out.below hb); clear HY; have HY := Hn1; clear Hn1)
  try (have Hn1 := Lib.hid (HZ.out.below hb); clear HZ; have HZ := Hn1; clear Hn1)
  try (have Hn1 := Lib.hid (HD.out.below hb); clear HD; have HD := Hn1; clear Hn1)
  try (have Hn1 := Lib.hid (HP.out.below hb); clear HP; have HP := Hn1; clear Hn1)
  try (have Hn1 := Lib.hid (HQ.out.below hb); clear HQ; have HQ := Hn1; clear Hn1)
  try (have Hn1 := Lib.hid (HA.out.below hb); clear HA; have HA := Hn1; clear Hn1)
  try (have Hn1 := Lib.hid (HB.out.below hb); clear HB; have HB := Hn1; clear Hn1)
  try (have Hn1 := Lib.hid (HT.out.below hb); clear HT; have HT := Hn1; clear Hn1)
  try (have Hn1 := Lib.hid (HR.out.below hb); clear HR; have HR := Hn1; clear Hn1)
  try (have Hn1 := Lib.hid (HE.out.below hb); clear HE; have HE := Hn1; clear Hn1)
  try (have Hn1 := Lib.hid (HF.out.below hb); clear HF; have HF := Hn1; clear Hn1)
  try (have Hn1 := Lib.hid (HG.out.below hb); clear HG; have HG := Hn1; clear Hn1)
  try (have Hn1 := Lib.hid (HTab.out.below hb); clear HTab; have HTab := Hn1; clear Hn1)
  have Hn2 := bthen hb0 hb
  clear hb0 hb
  have hb0 := Hn2
  clear Hn2
  go_wp2_with fail
  refine (HS2.out _ HT.out).mono ?_
  rintro e w16 ⟨rfl, hb⟩
  clear HS2
  try (have Hn1 := Lib.hid (HL.out.below hb); clear HL; have HL := Hn1; clear Hn1)
  try (have Hn1 := Lib.hid (HX.out.below hb); clear HX; have HX := Hn1; clear Hn1)
  try (have Hn1 := Lib.hid (HM.out.below hb); clear HM; have HM := Hn1; clear Hn1)
  try (have Hn1 := Lib.hid (HC.out.below hb); clear HC; have HC := Hn1; clear Hn1)
  try (have Hn1 := Lib.hid (HY.out.below hb); clear HY; have HY := Hn1; clear Hn1)
  try (have Hn1 := Lib.hid (HZ.out.below hb); clear HZ; have HZ := Hn1; clear Hn1)
  try (have Hn1 := Lib.hid (HD.out.below hb); clear HD; have HD := Hn1; clear Hn1)
  try (have Hn1 := Lib.hid (HP.out.below hb); clear HP; have HP := Hn1; clear Hn1)
  try (have Hn1 := Lib.hid (HQ.out.below hb); clear HQ; have HQ := Hn1; clear Hn1)
  try (have Hn1 := Lib.hid (HA.out.below hb); clear HA; have HA := Hn1; clear Hn1)
  try (have Hn1 := Lib.hid (HB.out.below hb); clear HB; have HB := Hn1; clear Hn1)
  try (have Hn1 := Lib.hid (HT.out.below hb); clear HT; have HT := Hn1; clear Hn1)
  try (have Hn1 := Lib.hid (HR.out.below hb); clear HR; have HR := Hn1; clear Hn1)
  try (have Hn1 := Lib.hid (HE.out.below hb); clear HE; have HE := Hn1; clear Hn1)
  try (have Hn1 := Lib.hid (HF.out.below hb); clear HF; have HF := Hn1; clear Hn1)
  try (have Hn1 := Lib.hid (HG.out.below hb); clear HG; have HG := Hn1; clear Hn1)
  try (have Hn1 := Lib.hid (HTab.out.below hb); clear HTab; have HTab := Hn1; clear Hn1)
  have Hn2 := bthen hb0 hb
  clear hb0 hb
  have hb0 := Hn2
  clear Hn2
  have e1 := beq_bytes TB TB
  rw [decide_eq_true rfl] at e1
  by_cases hE : TB = { data := #[] }
  · have e2 : TB.toList.isEmpty = true := by rw [hE, isEmpty_size]; exact decide_eq_true rfl
    have e3 : TB.toList = [] := List.isEmpty_iff.1 e2
    clear HR HT Hrt hE
    generalize rcOk (chars TB) = rok at *
    go_wp2_with fail
    have h := sSameCards_c _ _ _ _ w16 HY.out HZ.out
    rw [eqC_selfD] at h
    refine h.mono ?_
    rintro e w17 ⟨rfl, hb⟩
    clear h HY HZ e1 e2 e3
    try (have Hn1 := Lib.hid (HL.out.below hb); clear HL; have HL := Hn1; clear Hn1)
    try (have Hn1 := Lib.hid (HX.out.below hb); clear HX; have HX := Hn1; clear Hn1)
    try (have Hn1 := Lib.hid (HM.out.below hb); clear HM; have HM := Hn1; clear Hn1)
    try (have Hn1 := Lib.hid (HC.out.below hb); clear HC; have HC := Hn1; clear Hn1)
    try (have Hn1 := Lib.hid (HY.out.below hb); clear HY; have HY := Hn1; clear Hn1)
    try (have Hn1 := Lib.hid (HZ.out.below hb); clear HZ; have HZ := Hn1; clear Hn1)
    try (have Hn1 := Lib.hid (HD.out.below hb); clear HD; have HD := Hn1; clear Hn1)
    try (have Hn1 := Lib.hid (HP.out.below hb); clear HP; have HP := Hn1; clear Hn1)
    try (have Hn1 := Lib.hid (HQ.out.below hb); clear HQ; have HQ := Hn1; clear Hn1)
    try (have Hn1 := Lib.hid (HA.out.below hb); clear HA; have HA := Hn1; clear Hn1)
    try (have Hn1 := Lib.hid (HB.out.below hb); clear HB; have HB := Hn1; clear Hn1)
    try (have Hn1 := Lib.hid (HT.out.below hb); clear HT; have HT := Hn1; clear Hn1)
    try (have Hn1 := Lib.hid (HR.out.below hb); clear HR; have HR := Hn1; clear Hn1)
    try (have Hn1 := Lib.hid (HE.out.below hb); clear HE; have HE := Hn1; clear Hn1)
    try (have Hn1 := Lib.hid (HF.out.below hb); clear HF; have HF := Hn1; clear Hn1)
    try (have Hn1 := Lib.hid (HG.out.below hb); clear HG; have HG := Hn1; clear Hn1)
    try (have Hn1 := Lib.hid (HTab.out.below hb); clear HTab; have HTab := Hn1; clear Hn1)
    have Hn2 := bthen hb0 hb
    clear hb0 hb
    have hb0 := Hn2
    clear Hn2
    go_wp2_with fail
    refine (iSameCards_c _ _ A B _ HA.out HB.out).mono ?_
    rintro e w14 ⟨rfl, hb⟩
    try (have Hn1 := Lib.hid (HL.out.below hb); clear HL; have HL := Hn1; clear Hn1)
    try (have Hn1 := Lib.hid (HX.out.below hb); clear HX; have HX := Hn1; clear Hn1)
    try (have Hn1 := Lib.hid (HM.out.below hb); clear HM; have HM := Hn1; clear Hn1)
    try (have Hn1 := Lib.hid (HC.out.below hb); clear HC; have HC := Hn1; clear Hn1)
    try (have Hn1 := Lib.hid (HY.out.below hb); clear HY; have HY := Hn1; clear Hn1)
    try (have Hn1 := Lib.hid (HZ.out.below hb); clear HZ; have HZ := Hn1; clear Hn1)
    try (have Hn1 := Lib.hid (HD.out.below hb); clear HD; have HD := Hn1; clear Hn1)
    try (have Hn1 := Lib.hid (HP.out.below hb); clear HP; have HP := Hn1; clear Hn1)
    try (have Hn1 := Lib.hid (HQ.out.below hb); clear HQ; have HQ := Hn1; clear Hn1)
    try (have Hn1 := Lib.hid (HA.out.below hb); clear HA; have HA := Hn1; clear Hn1)
    try (have Hn1 := Lib.hid (HB.out.below hb); clear HB; have HB := Hn1; clear Hn1)
    try (have Hn1 := Lib.hid (HT.out.below hb); clear HT; have HT := Hn1; clear Hn1)
    try (have Hn1 := Lib.hid (HR.out.below hb); clear HR; have HR := Hn1; clear Hn1)
    try (have Hn1 := Lib.hid (HE.out.below hb); clear HE; have HE := Hn1; clear Hn1)
    try (have Hn1 := Lib.hid (HF.out.below hb); clear HF; have HF := Hn1; clear Hn1)
    try (have Hn1 := Lib.hid (HG.out.below hb); clear HG; have HG := Hn1; clear Hn1)
    try (have Hn1 := Lib.hid (HTab.out.below hb); clear HTab; have HTab := Hn1; clear Hn1)
    have Hn2 := bthen hb0 hb
    clear hb0 hb
    have hb0 := Hn2
    clear Hn2
    go_wp2_with fail
    refine (sSameCards_c _ _ A B _ HA.out HB.out).mono ?_
    rintro e w15 ⟨rfl, hb⟩
    clear HA HB
    generalize same2 eqCardB A B = sab at *
    have hsab : (sab == sab) = true := beq_self_eq_true _
    try (have Hn1 := Lib.hid (HL.out.below hb); clear HL; have HL := Hn1; clear Hn1)
    try (have Hn1 := Lib.hid (HX.out.below hb); clear HX; have HX := Hn1; clear Hn1)
    try (have Hn1 := Lib.hid (HM.out.below hb); clear HM; have HM := Hn1; clear Hn1)
    try (have Hn1 := Lib.hid (HC.out.below hb); clear HC; have HC := Hn1; clear Hn1)
    try (have Hn1 := Lib.hid (HY.out.below hb); clear HY; have HY := Hn1; clear Hn1)
    try (have Hn1 := Lib.hid (HZ.out.below hb); clear HZ; have HZ := Hn1; clear Hn1)
    try (have Hn1 := Lib.hid (HD.out.below hb); clear HD; have HD := Hn1; clear Hn1)
    try (have Hn1 := Lib.hid (HP.out.below hb); clear HP; have HP := Hn1; clear Hn1)
    try (have Hn1 := Lib.hid (HQ.out.below hb); clear HQ; have HQ := Hn1; clear Hn1)
    try (have Hn1 := Lib.hid (HA.out.below hb); clear HA; have HA := Hn1; clear Hn1)
    try (have Hn1 := Lib.hid (HB.out.below hb); clear HB; have HB := Hn1; clear Hn1)
    try (have Hn1 := Lib.hid (HT.out.below hb); clear HT; have HT := Hn1; clear Hn1)
    try (have Hn1 := Lib.hid (HR.out.below hb); clear HR; have HR := Hn1; clear Hn1)
    try (have Hn1 := Lib.hid (HE.out.below hb); clear HE; have HE := Hn1; clear Hn1)
    try (have Hn1 := Lib.hid (HF.out.below hb); clear HF; have HF := Hn1; clear Hn1)
    try (have Hn1 := Lib.hid (HG.out.below hb); clear HG; have HG := Hn1; clear Hn1)
    try (have Hn1 := Lib.hid (HTab.out.below hb); clear HTab; have HTab := Hn1; clear Hn1)
    have Hn2 := bthen hb0 hb
    clear hb0 hb
    have hb0 := Hn2
    clear Hn2
    generalize hW : w15 = W0 at *
    clear hW
    by_cases hdc : dayC L day = 0
    · have hlaw := due_law hdc
      rw [hdc]
      obtain ⟨_, _, _, he, hxn, -, -, -⟩ := HX.out
      injection he with he1 he2 he3
      rw [hlaw, ← he2] at hxn
      obtain ⟨_, _, _, he, hln, -, -, hcl⟩ := HL.out
      injection he with he1' he2' he3'
      subst he1' he2' he3'
      have Hcl := Lib.hid hcl
      have Hln := Lib.hid hln
      have Hxn := Lib.hid hxn
      have hl45 : ln ≤ 45 := by have := HL2.out; omega
      clear hcl hln hxn hlaw hdc he1 he2 he3 HX HL
      go_wp2
      go_loopw [25, 26] (fun s j wr => ∃ (k c : Nat), j = .int .i64 k ∧ s = .int .i64 c ∧ k ≤ ln ∧ c ≤ k ∧ Hid (c = cntDue (L.take k) day) ∧ Below W0.heap.size W0 wr) (fun _ j _ => ln - (intOf j).toNat)
      case atStart => exact ⟨0, 0, rfl, rfl, Nat.zero_le _, Nat.le_refl _, Lib.hid rfl, Below.refl _ _⟩
      case round =>
        obtain ⟨k, c, rfl, rfl, hk, hck, HC, hb⟩ := hrel
        by_cases hlt : k < ln
        · obtain ⟨bl, ol, hl, hls, -, -, -, l2⟩ := Hcl.out k (by rw [← Hln.out]; exact hlt)
          subst hl
          have hst := cntDue_step L day k (by rw [← Hln.out]; exact hlt)
          by_cases hE : (nth L k).due ≤ day
          · rw [if_pos hE] at hst
            have HC2 : Hid (c + 1 = cntDue (L.take (k + 1)) day) := Lib.hid (by rw [hst, ← HC.out])
            generalize (nth L k).due = d at *
            have t0 := cell_then hls l2 hb
            clear hst l2 HC
            go_wp2
            exact ⟨⟨k + 1, c + 1, by go_num, by go_num, hlt, by omega, HC2, hb⟩, by simp [intOf]; omega⟩
          · rw [if_neg hE] at hst
            have HC2 : Hid (c = cntDue (L.take (k + 1)) day) := Lib.hid (by rw [hst, ← HC.out]; rfl)
            generalize (nth L k).due = d at *
            have t0 := cell_then hls l2 hb
            clear hst l2 HC
            go_wp2
            exact ⟨⟨k + 1, c, by go_num, rfl, hlt, by omega, HC2, hb⟩, by simp [intOf]; omega⟩
        · have hcx : c = xn := by
            have := HC.out
            rw [List.take_of_length_le (by rw [← Hln.out]; omega)] at this
            rw [this, ← Hxn.out]
          subst hcx
          have hbz := bthen hb0 hb
          clear HC hb
          go_wp2
          go_ret
          exact Gives.bool (by simp) hbz
    · have hcb : (dayC L day == 0) = false := beq_eq_false_iff_ne.2 hdc
      generalize dayC L day = code at *
      go_wp2
      go_ret
      exact Gives.bool rfl hb0
  · have e2 : TB.toList.isEmpty = false := by
      rw [isEmpty_size]
      exact decide_eq_false (fun h => hE (by apply ByteArray.ext; exact Array.eq_empty_of_size_eq_zero h))
    have e3 : ¬ TB.toList = [] := fun h => by rw [h] at e2; exact absurd e2 (by decide)
    have hrt : rcOk (chars TB) = true ∧ rcL (chars TB) = T := by
      rcases Hrt.out with h | h
      · exact absurd h hE
      · exact h
    have HR2 := Lib.hid HR.out
    rw [hrt.2] at HR2
    rw [hrt.1]
    clear HR Hrt hE hrt
    go_wp2_with fail
    have h := sSameCards_c _ _ _ _ w16 HR2.out HT.out
    rw [eqC_selfD] at h
    refine h.mono ?_
    rintro e w17 ⟨rfl, hb⟩
    clear h HR2 HT e1 e2 e3
    try (have Hn1 := Lib.hid (HL.out.below hb); clear HL; have HL := Hn1; clear Hn1)
    try (have Hn1 := Lib.hid (HX.out.below hb); clear HX; have HX := Hn1; clear Hn1)
    try (have Hn1 := Lib.hid (HM.out.below hb); clear HM; have HM := Hn1; clear Hn1)
    try (have Hn1 := Lib.hid (HC.out.below hb); clear HC; have HC := Hn1; clear Hn1)
    try (have Hn1 := Lib.hid (HY.out.below hb); clear HY; have HY := Hn1; clear Hn1)
    try (have Hn1 := Lib.hid (HZ.out.below hb); clear HZ; have HZ := Hn1; clear Hn1)
    try (have Hn1 := Lib.hid (HD.out.below hb); clear HD; have HD := Hn1; clear Hn1)
    try (have Hn1 := Lib.hid (HP.out.below hb); clear HP; have HP := Hn1; clear Hn1)
    try (have Hn1 := Lib.hid (HQ.out.below hb); clear HQ; have HQ := Hn1; clear Hn1)
    try (have Hn1 := Lib.hid (HA.out.below hb); clear HA; have HA := Hn1; clear Hn1)
    try (have Hn1 := Lib.hid (HB.out.below hb); clear HB; have HB := Hn1; clear Hn1)
    try (have Hn1 := Lib.hid (HT.out.below hb); clear HT; have HT := Hn1; clear Hn1)
    try (have Hn1 := Lib.hid (HR.out.below hb); clear HR; have HR := Hn1; clear Hn1)
    try (have Hn1 := Lib.hid (HE.out.below hb); clear HE; have HE := Hn1; clear Hn1)
    try (have Hn1 := Lib.hid (HF.out.below hb); clear HF; have HF := Hn1; clear Hn1)
    try (have Hn1 := Lib.hid (HG.out.below hb); clear HG; have HG := Hn1; clear Hn1)
    try (have Hn1 := Lib.hid (HTab.out.below hb); clear HTab; have HTab := Hn1; clear Hn1)
    have Hn2 := bthen hb0 hb
    clear hb0 hb
    have hb0 := Hn2
    clear Hn2
    go_wp2_with fail
    have h := sSameCards_c _ _ _ _ w17 HY.out HZ.out
    rw [eqC_selfD] at h
    refine h.mono ?_
    rintro e w18 ⟨rfl, hb⟩
    clear h HY HZ
    try (have Hn1 := Lib.hid (HL.out.below hb); clear HL; have HL := Hn1; clear Hn1)
    try (have Hn1 := Lib.hid (HX.out.below hb); clear HX; have HX := Hn1; clear Hn1)
    try (have Hn1 := Lib.hid (HM.out.below hb); clear HM; have HM := Hn1; clear Hn1)
    try (have Hn1 := Lib.hid (HC.out.below hb); clear HC; have HC := Hn1; clear Hn1)
    try (have Hn1 := Lib.hid (HY.out.below hb); clear HY; have HY := Hn1; clear Hn1)
    try (have Hn1 := Lib.hid (HZ.out.below hb); clear HZ; have HZ := Hn1; clear Hn1)
    try (have Hn1 := Lib.hid (HD.out.below hb); clear HD; have HD := Hn1; clear Hn1)
    try (have Hn1 := Lib.hid (HP.out.below hb); clear HP; have HP := Hn1; clear Hn1)
    try (have Hn1 := Lib.hid (HQ.out.below hb); clear HQ; have HQ := Hn1; clear Hn1)
    try (have Hn1 := Lib.hid (HA.out.below hb); clear HA; have HA := Hn1; clear Hn1)
    try (have Hn1 := Lib.hid (HB.out.below hb); clear HB; have HB := Hn1; clear Hn1)
    try (have Hn1 := Lib.hid (HT.out.below hb); clear HT; have HT := Hn1; clear Hn1)
    try (have Hn1 := Lib.hid (HR.out.below hb); clear HR; have HR := Hn1; clear Hn1)
    try (have Hn1 := Lib.hid (HE.out.below hb); clear HE; have HE := Hn1; clear Hn1)
    try (have Hn1 := Lib.hid (HF.out.below hb); clear HF; have HF := Hn1; clear Hn1)
    try (have Hn1 := Lib.hid (HG.out.below hb); clear HG; have HG := Hn1; clear Hn1)
    try (have Hn1 := Lib.hid (HTab.out.below hb); clear HTab; have HTab := Hn1; clear Hn1)
    have Hn2 := bthen hb0 hb
    clear hb0 hb
    have hb0 := Hn2
    clear Hn2
    go_wp2_with fail
    refine (iSameCards_c _ _ A B _ HA.out HB.out).mono ?_
    rintro e w14 ⟨rfl, hb⟩
    try (have Hn1 := Lib.hid (HL.out.below hb); clear HL; have HL := Hn1; clear Hn1)
    try (have Hn1 := Lib.hid (HX.out.below hb); clear HX; have HX := Hn1; clear Hn1)
    try (have Hn1 := Lib.hid (HM.out.below hb); clear HM; have HM := Hn1; clear Hn1)
    try (have Hn1 := Lib.hid (HC.out.below hb); clear HC; have HC := Hn1; clear Hn1)
    try (have Hn1 := Lib.hid (HY.out.below hb); clear HY; have HY := Hn1; clear Hn1)
    try (have Hn1 := Lib.hid (HZ.out.below hb); clear HZ; have HZ := Hn1; clear Hn1)
    try (have Hn1 := Lib.hid (HD.out.below hb); clear HD; have HD := Hn1; clear Hn1)
    try (have Hn1 := Lib.hid (HP.out.below hb); clear HP; have HP := Hn1; clear Hn1)
    try (have Hn1 := Lib.hid (HQ.out.below hb); clear HQ; have HQ := Hn1; clear Hn1)
    try (have Hn1 := Lib.hid (HA.out.below hb); clear HA; have HA := Hn1; clear Hn1)
    try (have Hn1 := Lib.hid (HB.out.below hb); clear HB; have HB := Hn1; clear Hn1)
    try (have Hn1 := Lib.hid (HT.out.below hb); clear HT; have HT := Hn1; clear Hn1)
    try (have Hn1 := Lib.hid (HR.out.below hb); clear HR; have HR := Hn1; clear Hn1)
    try (have Hn1 := Lib.hid (HE.out.below hb); clear HE; have HE := Hn1; clear Hn1)
    try (have Hn1 := Lib.hid (HF.out.below hb); clear HF; have HF := Hn1; clear Hn1)
    try (have Hn1 := Lib.hid (HG.out.below hb); clear HG; have HG := Hn1; clear Hn1)
    try (have Hn1 := Lib.hid (HTab.out.below hb); clear HTab; have HTab := Hn1; clear Hn1)
    have Hn2 := bthen hb0 hb
    clear hb0 hb
    have hb0 := Hn2
    clear Hn2
    go_wp2_with fail
    refine (sSameCards_c _ _ A B _ HA.out HB.out).mono ?_
    rintro e w15 ⟨rfl, hb⟩
    clear HA HB
    generalize same2 eqCardB A B = sab at *
    have hsab : (sab == sab) = true := beq_self_eq_true _
    try (have Hn1 := Lib.hid (HL.out.below hb); clear HL; have HL := Hn1; clear Hn1)
    try (have Hn1 := Lib.hid (HX.out.below hb); clear HX; have HX := Hn1; clear Hn1)
    try (have Hn1 := Lib.hid (HM.out.below hb); clear HM; have HM := Hn1; clear Hn1)
    try (have Hn1 := Lib.hid (HC.out.below hb); clear HC; have HC := Hn1; clear Hn1)
    try (have Hn1 := Lib.hid (HY.out.below hb); clear HY; have HY := Hn1; clear Hn1)
    try (have Hn1 := Lib.hid (HZ.out.below hb); clear HZ; have HZ := Hn1; clear Hn1)
    try (have Hn1 := Lib.hid (HD.out.below hb); clear HD; have HD := Hn1; clear Hn1)
    try (have Hn1 := Lib.hid (HP.out.below hb); clear HP; have HP := Hn1; clear Hn1)
    try (have Hn1 := Lib.hid (HQ.out.below hb); clear HQ; have HQ := Hn1; clear Hn1)
    try (have Hn1 := Lib.hid (HA.out.below hb); clear HA; have HA := Hn1; clear Hn1)
    try (have Hn1 := Lib.hid (HB.out.below hb); clear HB; have HB := Hn1; clear Hn1)
    try (have Hn1 := Lib.hid (HT.out.below hb); clear HT; have HT := Hn1; clear Hn1)
    try (have Hn1 := Lib.hid (HR.out.below hb); clear HR; have HR := Hn1; clear Hn1)
    try (have Hn1 := Lib.hid (HE.out.below hb); clear HE; have HE := Hn1; clear Hn1)
    try (have Hn1 := Lib.hid (HF.out.below hb); clear HF; have HF := Hn1; clear Hn1)
    try (have Hn1 := Lib.hid (HG.out.below hb); clear HG; have HG := Hn1; clear Hn1)
    try (have Hn1 := Lib.hid (HTab.out.below hb); clear HTab; have HTab := Hn1; clear Hn1)
    have Hn2 := bthen hb0 hb
    clear hb0 hb
    have hb0 := Hn2
    clear Hn2
    generalize hW : w15 = W0 at *
    clear hW
    by_cases hdc : dayC L day = 0
    · have hlaw := due_law hdc
      rw [hdc]
      obtain ⟨_, _, _, he, hxn, -, -, -⟩ := HX.out
      injection he with he1 he2 he3
      rw [hlaw, ← he2] at hxn
      obtain ⟨_, _, _, he, hln, -, -, hcl⟩ := HL.out
      injection he with he1' he2' he3'
      subst he1' he2' he3'
      have Hcl := Lib.hid hcl
      have Hln := Lib.hid hln
      have Hxn := Lib.hid hxn
      have hl45 : ln ≤ 45 := by have := HL2.out; omega
      clear hcl hln hxn hlaw hdc he1 he2 he3 HX HL
      go_wp2
      go_loopw [25, 26] (fun s j wr => ∃ (k c : Nat), j = .int .i64 k ∧ s = .int .i64 c ∧ k ≤ ln ∧ c ≤ k ∧ Hid (c = cntDue (L.take k) day) ∧ Below W0.heap.size W0 wr) (fun _ j _ => ln - (intOf j).toNat)
      case atStart => exact ⟨0, 0, rfl, rfl, Nat.zero_le _, Nat.le_refl _, Lib.hid rfl, Below.refl _ _⟩
      case round =>
        obtain ⟨k, c, rfl, rfl, hk, hck, HC, hb⟩ := hrel
        by_cases hlt : k < ln
        · obtain ⟨bl, ol, hl, hls, -, -, -, l2⟩ := Hcl.out k (by rw [← Hln.out]; exact hlt)
          subst hl
          have hst := cntDue_step L day k (by rw [← Hln.out]; exact hlt)
          by_cases hE : (nth L k).due ≤ day
          · rw [if_pos hE] at hst
            have HC2 : Hid (c + 1 = cntDue (L.take (k + 1)) day) := Lib.hid (by rw [hst, ← HC.out])
            generalize (nth L k).due = d at *
            have t0 := cell_then hls l2 hb
            clear hst l2 HC
            go_wp2
            exact ⟨⟨k + 1, c + 1, by go_num, by go_num, hlt, by omega, HC2, hb⟩, by simp [intOf]; omega⟩
          · rw [if_neg hE] at hst
            have HC2 : Hid (c = cntDue (L.take (k + 1)) day) := Lib.hid (by rw [hst, ← HC.out]; rfl)
            generalize (nth L k).due = d at *
            have t0 := cell_then hls l2 hb
            clear hst l2 HC
            go_wp2
            exact ⟨⟨k + 1, c, by go_num, rfl, hlt, by omega, HC2, hb⟩, by simp [intOf]; omega⟩
        · have hcx : c = xn := by
            have := HC.out
            rw [List.take_of_length_le (by rw [← Hln.out]; omega)] at this
            rw [this, ← Hxn.out]
          subst hcx
          have hbz := bthen hb0 hb
          clear HC hb
          go_wp2
          go_ret
          exact Gives.bool (by simp) hbz
    · have hcb : (dayC L day == 0) = false := beq_eq_false_iff_ne.2 hdc
      generalize dayC L day = code at *
      go_wp2
      go_ret
      exact Gives.bool rfl hb0
set_option maxRecDepth 100000 in
set_option linter.unusedVariables false in
theorem fnDueCards_lifted (os : Os) (started : os.Started) (H : Type) (enc : TypeId × Value → H) :
    ReturnsInHanded {} Tryd.checked os 3 .any (fun w args => (Rows.fnDueCardsSpec.pre enc Tryd.prog Tryd.f3 Rows.fnDueCardsRow.domain false w args ∧ laidMetH Tryd.prog dLaid w) ∧ sizedMet enc Tryd.prog Tryd.f3 (OpenSpec.ofChange Rows.fnDueCardsSpec) false w args) (Rows.fnDueCardsSpec.post enc Tryd.prog Tryd.f3 false true false false) := by
  refine returnsInHanded_of_change_and (C := Tryd.checked) (X := fun w _ => laidMetH Tryd.prog dLaid w) (fun _ _ _ hh h => h.of_heap hh) own started (by kernel_rfl) Tryd.func3
    (ChangeSpec.witness_shaped (enc := enc) (C := Tryd.checked) (os := os) (X := fun w _ => laidMetH Tryd.prog dLaid w) false (World.doorLaid Tryd.prog doorSteps os) #[.slice none 0 0] 8 rfl (World.shaped_of_RefB (by kernel_rfl) (by kernel_rfl)) (by kernel_rfl) (by kernel_rfl) (by kernel_rfl) (door_met os _)) ?_
  intro W base args ds gs before hval0 hW _ _ hL _
  have hval : ∀ (j : Nat) t v, Tryd.f3.params[j]? = some t → args[j]? = some v → Value.okWide Tryd.prog W .any base t v := hval0
  have hW' := hW
  obtain ⟨p, q, hA0, hV, rfl, hfz, hnd⟩ := hW
  have hA : DataW.TrodAll enc Tryd.prog W 0 (fun _ => true) true Tryd.f3.params.toList args.toList ds p := hA0
  rw [Tryd.params3] at hA hval
  obtain ⟨v0, vs0, d0, ds0, p0, q0, hargs, rfl, rfl, h0, r0⟩ := trodAll_cons hA
  obtain ⟨rfl, rfl, rfl⟩ := trodAll_nil r0
  obtain rfl : args = #[v0] := by cases args; simp_all
  obtain ⟨rfl, rfl⟩ := trodVars_none hV
  have k0 := h0
  have lt0 : ∀ x ∈ p0, x.block < W.heap.size := by obtain ⟨m, hm⟩ := k0; exact DataW.trod_lt m _ _ _ hm
  obtain ⟨l0, c0, w0⟩ := bytes_of_trod (v := v0) Tryd.underlying22 Tryd.underlying5 (by kernel_rfl) (hval 0 22 v0 rfl rfl) h0
  have hTab := tab_of_laid hL
  clear hA0 hval0
  refine (fnDueCards_walk v0 l0 W c0 w0 hTab).mono fun e W' ⟨he, bel⟩ => ?_
  subst he
  exact ⟨_, rfl, _, _, _, [], _, [], hW', trodAll_mk1 (shut_bool Tryd.underlying4 _), (trodAll_cons_mk (Below.trod laidOut (by kernel_rfl) (of_decide_eq_true (by kernel_rfl)) k0 bel lt0) trodAll_mk0), rfl, bel.frame _, fun h => by cases h⟩
theorem fnDueCards_over : Rows.fnDueCardsRow.holds Tryd.pinned (OpenSpec.ofChange Rows.fnDueCardsSpec) :=
  OpenClaim.holds_of_wide 3 Tryd.f3 rfl rfl rfl rfl rfl rfl rfl ⟨rfl, rfl, rfl, rfl, rfl⟩ rfl rfl rfl rfl rfl (by kernel_rfl) Tryd.func3 (by kernel_rfl)
    (of_decide_eq_true (by kernel_rfl)) (by unfold Func.isWrapper; first | (rw [if_pos (by decide +kernel)]; kernel_rfl) | (rw [if_neg (by decide +kernel)]; exact ⟨rfl, rfl⟩))
    (fun os started H enc _ => fnDueCards_lifted os started H enc)
theorem fnDueCards_holds : Rows.FnDueCardsCardSaid :=
  Claim7.holds_tied_plain_at .later [] [.data, .data, .data] true Rows.fnDueCardsCard.stood.harness false
    fnDueCards_over (fun _ h => by cases h) (by kernel_rfl) (fun _ h => by cases h) fnDueCards_row_tie rfl ⟨rfl, rfl⟩ (by kernel_rfl) rfl
    (fun f fn hf hfn => by
      obtain rfl : f = 3 := Option.some.inj ((show Tryd.prog.funcNamed "loop.example/g00927/laws.FnDueCards" = some 3 by kernel_rfl).symm.trans hf) |>.symm
      obtain rfl : fn = Tryd.f3 := (Option.some.inj (Tryd.func3.symm.trans hfn)).symm
      exact ⟨by kernel_rfl, fun j t ht => by
        rw [Tryd.params3] at ht
        have hm : t ∈ [22] := by simpa using Array.mem_of_getElem? ht
        have hall : ([22].all fun u => !Tryd.prog.wantsStandIn u) = true := by kernel_rfl
        exact (show Tryd.prog.wantsStandIn t = false by simpa using List.all_eq_true.1 hall t hm)⟩)
    (by kernel_rfl)
#print axioms fnDueCards_holds
end Go.Proofs.YtclffohjpbmnbaaDoor
