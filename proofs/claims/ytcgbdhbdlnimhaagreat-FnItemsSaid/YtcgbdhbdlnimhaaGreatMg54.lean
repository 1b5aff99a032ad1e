import Derived.Test.YtcgbdhbdlnimhaaGreatMg52
import Derived.Test.YtcgbdhbdlnimhaaGreatMg44
import Derived.Test.YtcgbdhbdlnimhaaGreatMg27
import Derived.Test.YtcgbdhbdlnimhaaGreatMg31
import Derived.Test.YtcgbdhbdlnimhaaGreatMg30
import Derived.Test.YtcgbdhbdlnimhaaGreatMg53
import Derived.Test.YtcgbdhbdlnimhaaGreatMg48
import Derived.Test.YtcgbdhbdlnimhaaGreatMg15
import Derived.Test.YtcgbdhbdlnimhaaGreatMg4
/- LawFi: the walk of the law FnItems, and its row. -/
namespace Go.Proofs.YtcgbdhbdlnimhaaGreat
open Go.ChangeShapes Go.WideShapes Go.ChangeAt Go.RowKit

theorem eqIt_self (l : List Item) : same2 eqItemB l l = true := (same2_iff eqItemB eqItemB_iff l l).2 rfl
set_option maxRecDepth 100000 in
set_option maxHeartbeats 8000000 in
theorem fnItems_walk (v : Value) (cs : List Int) (w : World) (hv : BytesAt w v cs) (hin : ∀ x ∈ cs, 0 ≤ x ∧ x ≤ 255) : Calls Tryz.prog 3 #[v] w (Gives (.bool true) w) := by
  have HV := Lib.hid hv
  have Hin := Lib.hid hin
  have HFB := Lib.hid (f6big_c v cs w hv)
  clear hv hin
  by_cases hl : 4096 < cs.length
  · rw [decide_eq_true hl] at HFB
    clear hl
    go_enter Tryz.func3, Tryz.ntmps3
    go_wp2_with fail
    refine HFB.out.mono ?_
    rintro e w1 ⟨rfl, hb1⟩
    go_wp2
    go_ret
    exact Gives.bool rfl hb1
  rw [decide_eq_false hl] at HFB
  have Hcl : Hid (cs.length ≤ 4096) := Lib.hid (by omega)
  clear hl
  go_enter Tryz.func3, Tryz.ntmps3
  go_wp2_with fail
  refine HFB.out.mono ?_
  rintro e w1 ⟨rfl, hb0⟩
  clear HFB
  go_wp2_with fail
  refine (drawAddItem_c v cs w1 (HV.out.below hb0) Hin.out Hcl.out).mono ?_
  rintro e w2 ⟨la, ln, lc, L, s, pa, pn, pc, p, rfl, -, hl, hs, hp, hb⟩
  try (have Hn1 := Lib.hid (NestAt.below HL.out hb); clear HL; have HL := Hn1; clear Hn1)
  try (have Hn1 := Lib.hid (NestAt.below HX.out hb); clear HX; have HX := Hn1; clear Hn1)
  try (have Hn1 := Lib.hid (NestAt.below HM.out hb); clear HM; have HM := Hn1; clear Hn1)
  try (have Hn1 := Lib.hid (NestAt.below HR.out hb); clear HR; have HR := Hn1; clear Hn1)
  try (have Hn1 := Lib.hid (NestAt.below HY.out hb); clear HY; have HY := Hn1; clear Hn1)
  try (have Hn1 := Lib.hid (NestAt.below HZ.out hb); clear HZ; have HZ := Hn1; clear Hn1)
  try (have Hn1 := Lib.hid (NestAt.below HU.out hb); clear HU; have HU := Hn1; clear Hn1)
  try (have Hn1 := Lib.hid (NestAt.below HT.out hb); clear HT; have HT := Hn1; clear Hn1)
  try (have Hn1 := Lib.hid (NestAt.below HA.out hb); clear HA; have HA := Hn1; clear Hn1)
  try (have Hn1 := Lib.hid (NestAt.below HB.out hb); clear HB; have HB := Hn1; clear Hn1)
  try (have Hn1 := Lib.hid (HP.out.below hb); clear HP; have HP := Hn1; clear Hn1)
  try (have Hn1 := Lib.hid (HQ.out.below hb); clear HQ; have HQ := Hn1; clear Hn1)
  try (have Hn1 := Lib.hid (HW.out.below hb); clear HW; have HW := Hn1; clear Hn1)
  have Hn2 := bthen hb0 hb
  clear hb0 hb
  have hb0 := Hn2
  clear Hn2
  have HL := Lib.hid hl
  have HP := Lib.hid hp
  clear hl hp
  go_wp2_with fail
  refine (iAddItem_c _ _ L s p w2 HL.out HP.out (by omega)).mono ?_
  rintro e w3 ⟨xa, xn, xc, rfl, ho, hb⟩
  try (have Hn1 := Lib.hid (NestAt.below HL.out hb); clear HL; have HL := Hn1; clear Hn1)
  try (have Hn1 := Lib.hid (NestAt.below HX.out hb); clear HX; have HX := Hn1; clear Hn1)
  try (have Hn1 := Lib.hid (NestAt.below HM.out hb); clear HM; have HM := Hn1; clear Hn1)
  try (have Hn1 := Lib.hid (NestAt.below HR.out hb); clear HR; have HR := Hn1; clear Hn1)
  try (have Hn1 := Lib.hid (NestAt.below HY.out hb); clear HY; have HY := Hn1; clear Hn1)
  try (have Hn1 := Lib.hid (NestAt.below HZ.out hb); clear HZ; have HZ := Hn1; clear Hn1)
  try (have Hn1 := Lib.hid (NestAt.below HU.out hb); clear HU; have HU := Hn1; clear Hn1)
  try (have Hn1 := Lib.hid (NestAt.below HT.out hb); clear HT; have HT := Hn1; clear Hn1)
  try (have Hn1 := Lib.hid (NestAt.below HA.out hb); clear HA; have HA := Hn1; clear Hn1)
  try (have Hn1 := Lib.hid (NestAt.below HB.out hb); clear HB; have HB := Hn1; clear Hn1)
  try (have Hn1 := Lib.hid (HP.out.below hb); clear HP; have HP := Hn1; clear Hn1)
  try (have Hn1 := Lib.hid (HQ.out.below hb); clear HQ; have HQ := Hn1; clear Hn1)
  try (have Hn1 := Lib.hid (HW.out.below hb); clear HW; have HW := Hn1; clear Hn1)
  have Hn2 := bthen hb0 hb
  clear hb0 hb
  have hb0 := Hn2
  clear Hn2
  have HX := Lib.hid (OwnItems.at ho)
  clear ho
  go_wp2_with fail
  refine (sAddItem_c _ _ L s p w3 HL.out HP.out (by omega)).mono ?_
  rintro e w4 ⟨ma, mn, mc, rfl, ho, hb⟩
  try (have Hn1 := Lib.hid (NestAt.below HL.out hb); clear HL; have HL := Hn1; clear Hn1)
  try (have Hn1 := Lib.hid (NestAt.below HX.out hb); clear HX; have HX := Hn1; clear Hn1)
  try (have Hn1 := Lib.hid (NestAt.below HM.out hb); clear HM; have HM := Hn1; clear Hn1)
  try (have Hn1 := Lib.hid (NestAt.below HR.out hb); clear HR; have HR := Hn1; clear Hn1)
  try (have Hn1 := Lib.hid (NestAt.below HY.out hb); clear HY; have HY := Hn1; clear Hn1)
  try (have Hn1 := Lib.hid (NestAt.below HZ.out hb); clear HZ; have HZ := Hn1; clear Hn1)
  try (have Hn1 := Lib.hid (NestAt.below HU.out hb); clear HU; have HU := Hn1; clear Hn1)
  try (have Hn1 := Lib.hid (NestAt.below HT.out hb); clear HT; have HT := Hn1; clear Hn1)
  try (have Hn1 := Lib.hid (NestAt.below HA.out hb); clear HA; have HA := Hn1; clear Hn1)
  try (have Hn1 := Lib.hid (NestAt.below HB.out hb); clear HB; have HB := Hn1; clear Hn1)
  try (have Hn1 := Lib.hid (HP.out.below hb); clear HP; have HP := Hn1; clear Hn1)
  try (have Hn1 := Lib.hid (HQ.out.below hb); clear HQ; have HQ := Hn1; clear Hn1)
  try (have Hn1 := Lib.hid (HW.out.below hb); clear HW; have HW := Hn1; clear Hn1)
  have Hn2 := bthen hb0 hb
  clear hb0 hb
  have hb0 := Hn2
  clear Hn2
  have HM := Lib.hid (OwnItems.at ho)
  clear ho
  have Hadd : Hid (addItCode L s p = 0 → (okItems (addItL L s p) = true ∧ (⟨s, canL p⟩ : Item) ∈ addItL L s p ∧ remCode (addItL L s p) s = 0 ∧ remL (addItL L s p) s = L) ∧ okPat p = true) := Lib.hid (fun h => ⟨add_all h, (add_facts h).2.1⟩)
  generalize addItL L s p = X at *
  generalize addItCode L s p = bad at *
  go_wp2_with fail
  refine (drawRemoveItem_c v cs w4 (HV.out.below hb0) Hin.out Hcl.out).mono ?_
  rintro e w5 ⟨ra, rn, rc, R, old, rfl, -, hl, hold, hb⟩
  try (have Hn1 := Lib.hid (NestAt.below HL.out hb); clear HL; have HL := Hn1; clear Hn1)
  try (have Hn1 := Lib.hid (NestAt.below HX.out hb); clear HX; have HX := Hn1; clear Hn1)
  try (have Hn1 := Lib.hid (NestAt.below HM.out hb); clear HM; have HM := Hn1; clear Hn1)
  try (have Hn1 := Lib.hid (NestAt.below HR.out hb); clear HR; have HR := Hn1; clear Hn1)
  try (have Hn1 := Lib.hid (NestAt.below HY.out hb); clear HY; have HY := Hn1; clear Hn1)
  try (have Hn1 := Lib.hid (NestAt.below HZ.out hb); clear HZ; have HZ := Hn1; clear Hn1)
  try (have Hn1 := Lib.hid (NestAt.below HU.out hb); clear HU; have HU := Hn1; clear Hn1)
  try (have Hn1 := Lib.hid (NestAt.below HT.out hb); clear HT; have HT := Hn1; clear Hn1)
  try (have Hn1 := Lib.hid (NestAt.below HA.out hb); clear HA; have HA := Hn1; clear Hn1)
  try (have Hn1 := Lib.hid (NestAt.below HB.out hb); clear HB; have HB := Hn1; clear Hn1)
  try (have Hn1 := Lib.hid (HP.out.below hb); clear HP; have HP := Hn1; clear Hn1)
  try (have Hn1 := Lib.hid (HQ.out.below hb); clear HQ; have HQ := Hn1; clear Hn1)
  try (have Hn1 := Lib.hid (HW.out.below hb); clear HW; have HW := Hn1; clear Hn1)
  have Hn2 := bthen hb0 hb
  clear hb0 hb
  have hb0 := Hn2
  clear Hn2
  have HR := Lib.hid hl
  clear hl
  go_wp2_with fail
  refine (iRemoveItem_c _ R old w5 HR.out).mono ?_
  rintro e w6 ⟨ya, yn, yc, rfl, ho, hb⟩
  try (have Hn1 := Lib.hid (NestAt.below HL.out hb); clear HL; have HL := Hn1; clear Hn1)
  try (have Hn1 := Lib.hid (NestAt.below HX.out hb); clear HX; have HX := Hn1; clear Hn1)
  try (have Hn1 := Lib.hid (NestAt.below HM.out hb); clear HM; have HM := Hn1; clear Hn1)
  try (have Hn1 := Lib.hid (NestAt.below HR.out hb); clear HR; have HR := Hn1; clear Hn1)
  try (have Hn1 := Lib.hid (NestAt.below HY.out hb); clear HY; have HY := Hn1; clear Hn1)
  try (have Hn1 := Lib.hid (NestAt.below HZ.out hb); clear HZ; have HZ := Hn1; clear Hn1)
  try (have Hn1 := Lib.hid (NestAt.below HU.out hb); clear HU; have HU := Hn1; clear Hn1)
  try (have Hn1 := Lib.hid (NestAt.below HT.out hb); clear HT; have HT := Hn1; clear Hn1)
  try (have Hn1 := Lib.hid (NestAt.below HA.out hb); clear HA; have HA := Hn1; clear Hn1)
  try (have Hn1 := Lib.hid (NestAt.below HB.out hb); clear HB; have HB := Hn1; clear Hn1)
  try (have Hn1 := Lib.hid (HP.out.below hb); clear HP; have HP := Hn1; clear Hn1)
  try (have Hn1 := Lib.hid (HQ.out.below hb); clear HQ; have HQ := Hn1; clear Hn1)
  try (have Hn1 := Lib.hid (HW.out.below hb); clear HW; have HW := Hn1; clear Hn1)
  have Hn2 := bthen hb0 hb
  clear hb0 hb
  have hb0 := Hn2
  clear Hn2
  have HY := Lib.hid (OwnItems.at ho)
  clear ho
  go_wp2_with fail
  refine (sRemoveItem_c _ R old w6 HR.out).mono ?_
  rintro e w7 ⟨za, zn, zc, rfl, ho, hb⟩
  clear HR
  try (have Hn1 := Lib.hid (NestAt.below HL.out hb); clear HL; have HL := Hn1; clear Hn1)
  try (have Hn1 := Lib.hid (NestAt.below HX.out hb); clear HX; have HX := Hn1; clear Hn1)
  try (have Hn1 := Lib.hid (NestAt.below HM.out hb); clear HM; have HM := Hn1; clear Hn1)
  try (have Hn1 := Lib.hid (NestAt.below HR.out hb); clear HR; have HR := Hn1; clear Hn1)
  try (have Hn1 := Lib.hid (NestAt.below HY.out hb); clear HY; have HY := Hn1; clear Hn1)
  try (have Hn1 := Lib.hid (NestAt.below HZ.out hb); clear HZ; have HZ := Hn1; clear Hn1)
  try (have Hn1 := Lib.hid (NestAt.below HU.out hb); clear HU; have HU := Hn1; clear Hn1)
  try (have Hn1 := Lib.hid (NestAt.below HT.out hb); clear HT; have HT := Hn1; clear Hn1)
  try (have Hn1 := Lib.hid (NestAt.below HA.out hb); clear HA; have HA := Hn1; clear Hn1)
  try (have Hn1 := Lib.hid (NestAt.below HB.out hb); clear HB; have HB := Hn1; clear Hn1)
  try (have Hn1 := Lib.hid (HP.out.below hb); clear HP; have HP := Hn1; clear Hn1)
  try (have Hn1 := Lib.hid (HQ.out.below hb); clear HQ; have HQ := Hn1; clear Hn1)
  try (have Hn1 := Lib.hid (HW.out.below hb); clear HW; have HW := Hn1; clear Hn1)
  have Hn2 := bthen hb0 hb
  clear hb0 hb
  have hb0 := Hn2
  clear Hn2
  have HZ := Lib.hid (OwnItems.at ho)
  clear ho
  generalize remL R old = YL at *
  generalize remCode R old = ycd at *
  go_wp2_with fail
  refine (drawNameOf_c v cs w7 (HV.out.below hb0) Hin.out Hcl.out).mono ?_
  rintro e w8 ⟨ua, un, uc, U, qa, qn, qc, q, rfl, -, hl, hq, hb⟩
  try (have Hn1 := Lib.hid (NestAt.below HL.out hb); clear HL; have HL := Hn1; clear Hn1)
  try (have Hn1 := Lib.hid (NestAt.below HX.out hb); clear HX; have HX := Hn1; clear Hn1)
  try (have Hn1 := Lib.hid (NestAt.below HM.out hb); clear HM; have HM := Hn1; clear Hn1)
  try (have Hn1 := Lib.hid (NestAt.below HR.out hb); clear HR; have HR := Hn1; clear Hn1)
  try (have Hn1 := Lib.hid (NestAt.below HY.out hb); clear HY; have HY := Hn1; clear Hn1)
  try (have Hn1 := Lib.hid (NestAt.below HZ.out hb); clear HZ; have HZ := Hn1; clear Hn1)
  try (have Hn1 := Lib.hid (NestAt.below HU.out hb); clear HU; have HU := Hn1; clear Hn1)
  try (have Hn1 := Lib.hid (NestAt.below HT.out hb); clear HT; have HT := Hn1; clear Hn1)
  try (have Hn1 := Lib.hid (NestAt.below HA.out hb); clear HA; have HA := Hn1; clear Hn1)
  try (have Hn1 := Lib.hid (NestAt.below HB.out hb); clear HB; have HB := Hn1; clear Hn1)
  try (have Hn1 := Lib.hid (HP.out.below hb); clear HP; have HP := Hn1; clear Hn1)
  try (have Hn1 := Lib.hid (HQ.out.below hb); clear HQ; have HQ := Hn1; clear Hn1)
  try (have Hn1 := Lib.hid (HW.out.below hb); clear HW; have HW := Hn1; clear Hn1)
  have Hn2 := bthen hb0 hb
  clear hb0 hb
  have hb0 := Hn2
  clear Hn2
  have HU := Lib.hid hl
  have HQ := Lib.hid hq
  clear hl hq
  go_wp2_with fail
  refine (iNameOf_c _ _ U q w8 HU.out HQ.out).mono ?_
  rintro e w9 ⟨rfl, hb⟩
  try (have Hn1 := Lib.hid (NestAt.below HL.out hb); clear HL; have HL := Hn1; clear Hn1)
  try (have Hn1 := Lib.hid (NestAt.below HX.out hb); clear HX; have HX := Hn1; clear Hn1)
  try (have Hn1 := Lib.hid (NestAt.below HM.out hb); clear HM; have HM := Hn1; clear Hn1)
  try (have Hn1 := Lib.hid (NestAt.below HR.out hb); clear HR; have HR := Hn1; clear Hn1)
  try (have Hn1 := Lib.hid (NestAt.below HY.out hb); clear HY; have HY := Hn1; clear Hn1)
  try (have Hn1 := Lib.hid (NestAt.below HZ.out hb); clear HZ; have HZ := Hn1; clear Hn1)
  try (have Hn1 := Lib.hid (NestAt.below HU.out hb); clear HU; have HU := Hn1; clear Hn1)
  try (have Hn1 := Lib.hid (NestAt.below HT.out hb); clear HT; have HT := Hn1; clear Hn1)
  try (have Hn1 := Lib.hid (NestAt.below HA.out hb); clear HA; have HA := Hn1; clear Hn1)
  try (have Hn1 := Lib.hid (NestAt.below HB.out hb); clear HB; have HB := Hn1; clear Hn1)
  try (have Hn1 := Lib.hid (HP.out.below hb); clear HP; have HP := Hn1; clear Hn1)
  try (have Hn1 := Lib.hid (HQ.out.below hb); clear HQ; have HQ := Hn1; clear Hn1)
  try (have Hn1 := Lib.hid (HW.out.below hb); clear HW; have HW := Hn1; clear Hn1)
  have Hn2 := bthen hb0 hb
  clear hb0 hb
  have hb0 := Hn2
  clear Hn2
  go_wp2_with fail
  refine (sNameOf_c _ _ U q w9 HU.out HQ.out).mono ?_
  rintro e w10 ⟨rfl, hb⟩
  clear HU HQ
  try (have Hn1 := Lib.hid (NestAt.below HL.out hb); clear HL; have HL := Hn1; clear Hn1)
  try (have Hn1 := Lib.hid (NestAt.below HX.out hb); clear HX; have HX := Hn1; clear Hn1)
  try (have Hn1 := Lib.hid (NestAt.below HM.out hb); clear HM; have HM := Hn1; clear Hn1)
  try (have Hn1 := Lib.hid (NestAt.below HR.out hb); clear HR; have HR := Hn1; clear Hn1)
  try (have Hn1 := Lib.hid (NestAt.below HY.out hb); clear HY; have HY := Hn1; clear Hn1)
  try (have Hn1 := Lib.hid (NestAt.below HZ.out hb); clear HZ; have HZ := Hn1; clear Hn1)
  try (have Hn1 := Lib.hid (NestAt.below HU.out hb); clear HU; have HU := Hn1; clear Hn1)
  try (have Hn1 := Lib.hid (NestAt.below HT.out hb); clear HT; have HT := Hn1; clear Hn1)
  try (have Hn1 := Lib.hid (NestAt.below HA.out hb); clear HA; have HA := Hn1; clear Hn1)
  try (have Hn1 := Lib.hid (NestAt.below HB.out hb); clear HB; have HB := Hn1; clear Hn1)
  try (have Hn1 := Lib.hid (HP.out.below hb); clear HP; have HP := Hn1; clear Hn1)
  try (have Hn1 := Lib.hid (HQ.out.below hb); clear HQ; have HQ := Hn1; clear Hn1)
  try (have Hn1 := Lib.hid (HW.out.below hb); clear HW; have HW := Hn1; clear Hn1)
  have Hn2 := bthen hb0 hb
  clear hb0 hb
  have hb0 := Hn2
  clear Hn2
  generalize nameOfS U q = nms at *
  generalize nameOfCode U q = nmc at *
  go_wp2_with fail
  have h := sSameItems_c _ _ _ _ w10 HX.out HM.out
  rw [eqIt_self] at h
  refine h.mono ?_
  rintro e w11 ⟨rfl, hb⟩
  clear h HM
  try (have Hn1 := Lib.hid (NestAt.below HL.out hb); clear HL; have HL := Hn1; clear Hn1)
  try (have Hn1 := Lib.hid (NestAt.below HX.out hb); clear HX; have HX := Hn1; clear Hn1)
  try (have Hn1 := Lib.hid (NestAt.below HM.out hb); clear HM; have HM := Hn1; clear Hn1)
  try (have Hn1 := Lib.hid (NestAt.below HR.out hb); clear HR; have HR := Hn1; clear Hn1)
  try (have Hn1 := Lib.hid (NestAt.below HY.out hb); clear HY; have HY := Hn1; clear Hn1)
  try (have Hn1 := Lib.hid (NestAt.below HZ.out hb); clear HZ; have HZ := Hn1; clear Hn1)
  try (have Hn1 := Lib.hid (NestAt.below HU.out hb); clear HU; have HU := Hn1; clear Hn1)
  try (have Hn1 := Lib.hid (NestAt.below HT.out hb); clear HT; have HT := Hn1; clear Hn1)
  try (have Hn1 := Lib.hid (NestAt.below HA.out hb); clear HA; have HA := Hn1; clear Hn1)
  try (have Hn1 := Lib.hid (NestAt.below HB.out hb); clear HB; have HB := Hn1; clear Hn1)
  try (have Hn1 := Lib.hid (HP.out.below hb); clear HP; have HP := Hn1; clear Hn1)
  try (have Hn1 := Lib.hid (HQ.out.below hb); clear HQ; have HQ := Hn1; clear Hn1)
  try (have Hn1 := Lib.hid (HW.out.below hb); clear HW; have HW := Hn1; clear Hn1)
  have Hn2 := bthen hb0 hb
  clear hb0 hb
  have hb0 := Hn2
  clear Hn2
  go_wp2_with fail
  have h := sSameItems_c _ _ _ _ w11 HY.out HZ.out
  rw [eqIt_self] at h
  refine h.mono ?_
  rintro e w12 ⟨rfl, hb⟩
  clear h HY HZ
  try (have Hn1 := Lib.hid (NestAt.below HL.out hb); clear HL; have HL := Hn1; clear Hn1)
  try (have Hn1 := Lib.hid (NestAt.below HX.out hb); clear HX; have HX := Hn1; clear Hn1)
  try (have Hn1 := Lib.hid (NestAt.below HM.out hb); clear HM; have HM := Hn1; clear Hn1)
  try (have Hn1 := Lib.hid (NestAt.below HR.out hb); clear HR; have HR := Hn1; clear Hn1)
  try (have Hn1 := Lib.hid (NestAt.below HY.out hb); clear HY; have HY := Hn1; clear Hn1)
  try (have Hn1 := Lib.hid (NestAt.below HZ.out hb); clear HZ; have HZ := Hn1; clear Hn1)
  try (have Hn1 := Lib.hid (NestAt.below HU.out hb); clear HU; have HU := Hn1; clear Hn1)
  try (have Hn1 := Lib.hid (NestAt.below HT.out hb); clear HT; have HT := Hn1; clear Hn1)
  try (have Hn1 := Lib.hid (NestAt.below HA.out hb); clear HA; have HA := Hn1; clear Hn1)
  try (have Hn1 := Lib.hid (NestAt.below HB.out hb); clear HB; have HB := Hn1; clear Hn1)
  try (have Hn1 := Lib.hid (HP.out.below hb); clear HP; have HP := Hn1; clear Hn1)
  try (have Hn1 := Lib.hid (HQ.out.below hb); clear HQ; have HQ := Hn1; clear Hn1)
  try (have Hn1 := Lib.hid (HW.out.below hb); clear HW; have HW := Hn1; clear Hn1)
  have Hn2 := bthen hb0 hb
  clear hb0 hb
  have hb0 := Hn2
  clear Hn2
  have e1 := beq_bytes nms nms
  rw [decide_eq_true rfl] at e1
  go_wp2_with fail
  refine (iValidItems_c _ L w12 HL.out).mono ?_
  rintro e w13 ⟨rfl, hb⟩
  clear e1
  try (have Hn1 := Lib.hid (NestAt.below HL.out hb); clear HL; have HL := Hn1; clear Hn1)
  try (have Hn1 := Lib.hid (NestAt.below HX.out hb); clear HX; have HX := Hn1; clear Hn1)
  try (have Hn1 := Lib.hid (NestAt.below HM.out hb); clear HM; have HM := Hn1; clear Hn1)
  try (have Hn1 := Lib.hid (NestAt.below HR.out hb); clear HR; have HR := Hn1; clear Hn1)
  try (have Hn1 := Lib.hid (NestAt.below HY.out hb); clear HY; have HY := Hn1; clear Hn1)
  try (have Hn1 := Lib.hid (NestAt.below HZ.out hb); clear HZ; have HZ := Hn1; clear Hn1)
  try (have Hn1 := Lib.hid (NestAt.below HU.out hb); clear HU; have HU := Hn1; clear Hn1)
  try (have Hn1 := Lib.hid (NestAt.below HT.out hb); clear HT; have HT := Hn1; clear Hn1)
  try (have Hn1 := Lib.hid (NestAt.below HA.out hb); clear HA; have HA := Hn1; clear Hn1)
  try (have Hn1 := Lib.hid (NestAt.below HB.out hb); clear HB; have HB := Hn1; clear Hn1)
  try (have Hn1 := Lib.hid (HP.out.below hb); clear HP; have HP := Hn1; clear Hn1)
  try (have Hn1 := Lib.hid (HQ.out.below hb); clear HQ; have HQ := Hn1; clear Hn1)
  try (have Hn1 := Lib.hid (HW.out.below hb); clear HW; have HW := Hn1; clear Hn1)
  have Hn2 := bthen hb0 hb
  clear hb0 hb
  have hb0 := Hn2
  clear Hn2
  go_wp2_with fail
  refine (sValidItems_c _ L w13 HL.out).mono ?_
  rintro e w14 ⟨rfl, hb⟩
  try (have Hn1 := Lib.hid (NestAt.below HL.out hb); clear HL; have HL := Hn1; clear Hn1)
  try (have Hn1 := Lib.hid (NestAt.below HX.out hb); clear HX; have HX := Hn1; clear Hn1)
  try (have Hn1 := Lib.hid (NestAt.below HM.out hb); clear HM; have HM := Hn1; clear Hn1)
  try (have Hn1 := Lib.hid (NestAt.below HR.out hb); clear HR; have HR := Hn1; clear Hn1)
  try (have Hn1 := Lib.hid (NestAt.below HY.out hb); clear HY; have HY := Hn1; clear Hn1)
  try (have Hn1 := Lib.hid (NestAt.below HZ.out hb); clear HZ; have HZ := Hn1; clear Hn1)
  try (have Hn1 := Lib.hid (NestAt.below HU.out hb); clear HU; have HU := Hn1; clear Hn1)
  try (have Hn1 := Lib.hid (NestAt.below HT.out hb); clear HT; have HT := Hn1; clear Hn1)
  try (have Hn1 := Lib.hid (NestAt.below HA.out hb); clear HA; have HA := Hn1; clear Hn1)
  try (have Hn1 := Lib.hid (NestAt.below HB.out hb); clear HB; have HB := Hn1; clear Hn1)
  try (have Hn1 := Lib.hid (HP.out.below hb); clear HP; have HP := Hn1; clear Hn1)
  try (have Hn1 := Lib.hid (HQ.out.below hb); clear HQ; have HQ := Hn1; clear Hn1)
  try (have Hn1 := Lib.hid (HW.out.below hb); clear HW; have HW := Hn1; clear Hn1)
  have Hn2 := bthen hb0 hb
  clear hb0 hb
  have hb0 := Hn2
  clear Hn2
  have hokok : (okItems L == okItems L) = true := beq_self_eq_true _
  by_cases hbad : bad = 0
  · subst hbad
    obtain ⟨⟨hX1, hX2, hX3, hX4⟩, hpo⟩ := Hadd.out rfl
    have hin1 := ok_in hpo
    have HX1 := Lib.hid hX1
    have Hpo := Lib.hid hpo
    have HX3 := Lib.hid hX3
    have HX4 := Lib.hid hX4
    have Hnm := Lib.hid (fun r : Nat => name_law hX1 hX2 (q := rotL p r) (okPat_rot hpo r) (can_rot p hin1.1 r))
    have Hpt := Lib.hid (named_law hX1 hX2)
    have Hcc := Lib.hid (can_can p hin1.1)
    have Hco := Lib.hid (okPat_can hpo)
    clear hX1 hX2 hX3 hX4 hpo hin1 Hadd
    go_wp2_with fail
    refine (f6roll_c v cs 2201 w14 (HV.out.below hb0) Hin.out Hcl.out).mono ?_
    rintro e w15 ⟨rfl, hdice, hb⟩
    have HDi := Lib.hid hdice
    clear hdice
    go_wp2_with fail
    refine (below_c _ cs 12 w15 HDi.out (by omega) (by omega)).mono ?_
    rintro e w16 ⟨r, rfl, hr, hb2⟩
    have hr11 : r ≤ 11 := by omega
    have hb3 : Below w14.heap.size w14 w16 := hb.trans hb2
    clear hb hb2 HDi hr hokok
    try (have Hn1 := Lib.hid (NestAt.below HL.out hb3); clear HL; have HL := Hn1; clear Hn1)
    try (have Hn1 := Lib.hid (NestAt.below HX.out hb3); clear HX; have HX := Hn1; clear Hn1)
    try (have Hn1 := Lib.hid (NestAt.below HM.out hb3); clear HM; have HM := Hn1; clear Hn1)
    try (have Hn1 := Lib.hid (NestAt.below HR.out hb3); clear HR; have HR := Hn1; clear Hn1)
    try (have Hn1 := Lib.hid (NestAt.below HY.out hb3); clear HY; have HY := Hn1; clear Hn1)
    try (have Hn1 := Lib.hid (NestAt.below HZ.out hb3); clear HZ; have HZ := Hn1; clear Hn1)
    try (have Hn1 := Lib.hid (NestAt.below HU.out hb3); clear HU; have HU := Hn1; clear Hn1)
    try (have Hn1 := Lib.hid (NestAt.below HT.out hb3); clear HT; have HT := Hn1; clear Hn1)
    try (have Hn1 := Lib.hid (NestAt.below HA.out hb3); clear HA; have HA := Hn1; clear Hn1)
    try (have Hn1 := Lib.hid (NestAt.below HB.out hb3); clear HB; have HB := Hn1; clear Hn1)
    try (have Hn1 := Lib.hid (HP.out.below hb3); clear HP; have HP := Hn1; clear Hn1)
    try (have Hn1 := Lib.hid (HQ.out.below hb3); clear HQ; have HQ := Hn1; clear Hn1)
    try (have Hn1 := Lib.hid (HW.out.below hb3); clear HW; have HW := Hn1; clear Hn1)
    have Hn2 := bthen hb0 hb3
    clear hb0 hb3
    have hb0 := Hn2
    clear Hn2
    go_wp2_with fail
    refine (rotatePattern_c _ p r w16 HP.out Hpo.out (by omega)).mono ?_
    rintro e w17 ⟨ta, tn, tc, rfl, ho, hb⟩
    try (have Hn1 := Lib.hid (NestAt.below HL.out hb); clear HL; have HL := Hn1; clear Hn1)
    try (have Hn1 := Lib.hid (NestAt.below HX.out hb); clear HX; have HX := Hn1; clear Hn1)
    try (have Hn1 := Lib.hid (NestAt.below HM.out hb); clear HM; have HM := Hn1; clear Hn1)
    try (have Hn1 := Lib.hid (NestAt.below HR.out hb); clear HR; have HR := Hn1; clear Hn1)
    try (have Hn1 := Lib.hid (NestAt.below HY.out hb); clear HY; have HY := Hn1; clear Hn1)
    try (have Hn1 := Lib.hid (NestAt.below HZ.out hb); clear HZ; have HZ := Hn1; clear Hn1)
    try (have Hn1 := Lib.hid (NestAt.below HU.out hb); clear HU; have HU := Hn1; clear Hn1)
    try (have Hn1 := Lib.hid (NestAt.below HT.out hb); clear HT; have HT := Hn1; clear Hn1)
    try (have Hn1 := Lib.hid (NestAt.below HA.out hb); clear HA; have HA := Hn1; clear Hn1)
    try (have Hn1 := Lib.hid (NestAt.below HB.out hb); clear HB; have HB := Hn1; clear Hn1)
    try (have Hn1 := Lib.hid (HP.out.below hb); clear HP; have HP := Hn1; clear Hn1)
    try (have Hn1 := Lib.hid (HQ.out.below hb); clear HQ; have HQ := Hn1; clear Hn1)
    try (have Hn1 := Lib.hid (HW.out.below hb); clear HW; have HW := Hn1; clear Hn1)
    have Hn2 := bthen hb0 hb
    clear hb0 hb
    have hb0 := Hn2
    clear Hn2
    have HW := Lib.hid (OwnInts.at ho)
    clear ho
    go_wp2_with fail
    have h := iNameOf_c _ _ X (rotL p r) w17 HX.out HW.out
    rw [(Hnm.out r).1, (Hnm.out r).2] at h
    refine h.mono ?_
    rintro e w18 ⟨rfl, hb⟩
    clear h HW Hnm
    try (have Hn1 := Lib.hid (NestAt.below HL.out hb); clear HL; have HL := Hn1; clear Hn1)
    try (have Hn1 := Lib.hid (NestAt.below HX.out hb); clear HX; have HX := Hn1; clear Hn1)
    try (have Hn1 := Lib.hid (NestAt.below HM.out hb); clear HM; have HM := Hn1; clear Hn1)
    try (have Hn1 := Lib.hid (NestAt.below HR.out hb); clear HR; have HR := Hn1; clear Hn1)
    try (have Hn1 := Lib.hid (NestAt.below HY.out hb); clear HY; have HY := Hn1; clear Hn1)
    try (have Hn1 := Lib.hid (NestAt.below HZ.out hb); clear HZ; have HZ := Hn1; clear Hn1)
    try (have Hn1 := Lib.hid (NestAt.below HU.out hb); clear HU; have HU := Hn1; clear Hn1)
    try (have Hn1 := Lib.hid (NestAt.below HT.out hb); clear HT; have HT := Hn1; clear Hn1)
    try (have Hn1 := Lib.hid (NestAt.below HA.out hb); clear HA; have HA := Hn1; clear Hn1)
    try (have Hn1 := Lib.hid (NestAt.below HB.out hb); clear HB; have HB := Hn1; clear Hn1)
    try (have Hn1 := Lib.hid (HP.out.below hb); clear HP; have HP := Hn1; clear Hn1)
    try (have Hn1 := Lib.hid (HQ.out.below hb); clear HQ; have HQ := Hn1; clear Hn1)
    try (have Hn1 := Lib.hid (HW.out.below hb); clear HW; have HW := Hn1; clear Hn1)
    have Hn2 := bthen hb0 hb
    clear hb0 hb
    have hb0 := Hn2
    clear Hn2
    go_wp2_with fail
    have h := iPatternNamed_c _ X s w18 HX.out
    rw [Hpt.out.1, Hpt.out.2] at h
    refine h.mono ?_
    rintro e w19 ⟨ga, gn, gc, rfl, ho, hb⟩
    clear h Hpt
    try (have Hn1 := Lib.hid (NestAt.below HL.out hb); clear HL; have HL := Hn1; clear Hn1)
    try (have Hn1 := Lib.hid (NestAt.below HX.out hb); clear HX; have HX := Hn1; clear Hn1)
    try (have Hn1 := Lib.hid (NestAt.below HM.out hb); clear HM; have HM := Hn1; clear Hn1)
    try (have Hn1 := Lib.hid (NestAt.below HR.out hb); clear HR; have HR := Hn1; clear Hn1)
    try (have Hn1 := Lib.hid (NestAt.below HY.out hb); clear HY; have HY := Hn1; clear Hn1)
    try (have Hn1 := Lib.hid (NestAt.below HZ.out hb); clear HZ; have HZ := Hn1; clear Hn1)
    try (have Hn1 := Lib.hid (NestAt.below HU.out hb); clear HU; have HU := Hn1; clear Hn1)
    try (have Hn1 := Lib.hid (NestAt.below HT.out hb); clear HT; have HT := Hn1; clear Hn1)
    try (have Hn1 := Lib.hid (NestAt.below HA.out hb); clear HA; have HA := Hn1; clear Hn1)
    try (have Hn1 := Lib.hid (NestAt.below HB.out hb); clear HB; have HB := Hn1; clear Hn1)
    try (have Hn1 := Lib.hid (HP.out.below hb); clear HP; have HP := Hn1; clear Hn1)
    try (have Hn1 := Lib.hid (HQ.out.below hb); clear HQ; have HQ := Hn1; clear Hn1)
    try (have Hn1 := Lib.hid (HW.out.below hb); clear HW; have HW := Hn1; clear Hn1)
    have Hn2 := bthen hb0 hb
    clear hb0 hb
    have hb0 := Hn2
    clear Hn2
    have HW := Lib.hid (OwnInts.at ho)
    clear ho
    go_wp2_with fail
    have h := iRemoveItem_c _ X s w19 HX.out
    rw [HX3.out, HX4.out] at h
    refine h.mono ?_
    rintro e w20 ⟨da, dn, dc, rfl, ho, hb⟩
    clear h HX3 HX4
    try (have Hn1 := Lib.hid (NestAt.below HL.out hb); clear HL; have HL := Hn1; clear Hn1)
    try (have Hn1 := Lib.hid (NestAt.below HX.out hb); clear HX; have HX := Hn1; clear Hn1)
    try (have Hn1 := Lib.hid (NestAt.below HM.out hb); clear HM; have HM := Hn1; clear Hn1)
    try (have Hn1 := Lib.hid (NestAt.below HR.out hb); clear HR; have HR := Hn1; clear Hn1)
    try (have Hn1 := Lib.hid (NestAt.below HY.out hb); clear HY; have HY := Hn1; clear Hn1)
    try (have Hn1 := Lib.hid (NestAt.below HZ.out hb); clear HZ; have HZ := Hn1; clear Hn1)
    try (have Hn1 := Lib.hid (NestAt.below HU.out hb); clear HU; have HU := Hn1; clear Hn1)
    try (have Hn1 := Lib.hid (NestAt.below HT.out hb); clear HT; have HT := Hn1; clear Hn1)
    try (have Hn1 := Lib.hid (NestAt.below HA.out hb); clear HA; have HA := Hn1; clear Hn1)
    try (have Hn1 := Lib.hid (NestAt.below HB.out hb); clear HB; have HB := Hn1; clear Hn1)
    try (have Hn1 := Lib.hid (HP.out.below hb); clear HP; have HP := Hn1; clear Hn1)
    try (have Hn1 := Lib.hid (HQ.out.below hb); clear HQ; have HQ := Hn1; clear Hn1)
    try (have Hn1 := Lib.hid (HW.out.below hb); clear HW; have HW := Hn1; clear Hn1)
    have Hn2 := bthen hb0 hb
    clear hb0 hb
    have hb0 := Hn2
    clear Hn2
    have HY := Lib.hid (OwnItems.at ho)
    clear ho
    have e1 := beq_bytes s s
    rw [decide_eq_true rfl] at e1
    go_wp2_with fail
    refine (alikePatterns_c _ _ _ p w20 HW.out HP.out Hco.out Hpo.out Hcc.out).mono ?_
    rintro e w21 ⟨rfl, hb⟩
    clear HW HP Hco Hpo Hcc e1
    try (have Hn1 := Lib.hid (NestAt.below HL.out hb); clear HL; have HL := Hn1; clear Hn1)
    try (have Hn1 := Lib.hid (NestAt.below HX.out hb); clear HX; have HX := Hn1; clear Hn1)
    try (have Hn1 := Lib.hid (NestAt.below HM.out hb); clear HM; have HM := Hn1; clear Hn1)
    try (have Hn1 := Lib.hid (NestAt.below HR.out hb); clear HR; have HR := Hn1; clear Hn1)
    try (have Hn1 := Lib.hid (NestAt.below HY.out hb); clear HY; have HY := Hn1; clear Hn1)
    try (have Hn1 := Lib.hid (NestAt.below HZ.out hb); clear HZ; have HZ := Hn1; clear Hn1)
    try (have Hn1 := Lib.hid (NestAt.below HU.out hb); clear HU; have HU := Hn1; clear Hn1)
    try (have Hn1 := Lib.hid (NestAt.below HT.out hb); clear HT; have HT := Hn1; clear Hn1)
    try (have Hn1 := Lib.hid (NestAt.below HA.out hb); clear HA; have HA := Hn1; clear Hn1)
    try (have Hn1 := Lib.hid (NestAt.below HB.out hb); clear HB; have HB := Hn1; clear Hn1)
    try (have Hn1 := Lib.hid (HP.out.below hb); clear HP; have HP := Hn1; clear Hn1)
    try (have Hn1 := Lib.hid (HQ.out.below hb); clear HQ; have HQ := Hn1; clear Hn1)
    try (have Hn1 := Lib.hid (HW.out.below hb); clear HW; have HW := Hn1; clear Hn1)
    have Hn2 := bthen hb0 hb
    clear hb0 hb
    have hb0 := Hn2
    clear Hn2
    go_wp2_with fail
    have h := sSameItems_c _ _ _ _ w21 HY.out HL.out
    rw [eqIt_self] at h
    refine h.mono ?_
    rintro e w22 ⟨rfl, hb⟩
    clear h HY HL
    try (have Hn1 := Lib.hid (NestAt.below HL.out hb); clear HL; have HL := Hn1; clear Hn1)
    try (have Hn1 := Lib.hid (NestAt.below HX.out hb); clear HX; have HX := Hn1; clear Hn1)
    try (have Hn1 := Lib.hid (NestAt.below HM.out hb); clear HM; have HM := Hn1; clear Hn1)
    try (have Hn1 := Lib.hid (NestAt.below HR.out hb); clear HR; have HR := Hn1; clear Hn1)
    try (have Hn1 := Lib.hid (NestAt.below HY.out hb); clear HY; have HY := Hn1; clear Hn1)
    try (have Hn1 := Lib.hid (NestAt.below HZ.out hb); clear HZ; have HZ := Hn1; clear Hn1)
    try (have Hn1 := Lib.hid (NestAt.below HU.out hb); clear HU; have HU := Hn1; clear Hn1)
    try (have Hn1 := Lib.hid (NestAt.below HT.out hb); clear HT; have HT := Hn1; clear Hn1)
    try (have Hn1 := Lib.hid (NestAt.below HA.out hb); clear HA; have HA := Hn1; clear Hn1)
    try (have Hn1 := Lib.hid (NestAt.below HB.out hb); clear HB; have HB := Hn1; clear Hn1)
    try (have Hn1 := Lib.hid (HP.out.below hb); clear HP; have HP := Hn1; clear Hn1)
    try (have Hn1 := Lib.hid (HQ.out.below hb); clear HQ; have HQ := Hn1; clear Hn1)
    try (have Hn1 := Lib.hid (HW.out.below hb); clear HW; have HW := Hn1; clear Hn1)
    have Hn2 := bthen hb0 hb
    clear hb0 hb
    have hb0 := Hn2
    clear Hn2
    go_wp2_with fail
    have h := iValidItems_c _ X w22 HX.out
    rw [HX1.out] at h
    refine h.mono ?_
    rintro e w23 ⟨rfl, hb⟩
    clear h HX HX1
    have Hn2 := bthen hb0 hb
    clear hb0 hb
    have hb0 := Hn2
    clear Hn2
    go_wp2
    go_ret
    exact Gives.bool rfl hb0
  · have hcb : (bad == 0) = false := beq_eq_false_iff_ne.2 hbad
    clear HX HL HP Hadd
    go_wp2
    go_ret
    exact Gives.bool rfl hb0
set_option maxRecDepth 100000 in
set_option linter.unusedVariables false in
theorem fnItems_lifted (os : Os) (started : os.Started) (H : Type) (enc : TypeId × Value → H) :
    ReturnsInHanded {} Tryz.checked os 3 .any (Rows.fnItemsSpec.pre6 enc Tryz.prog Tryz.f3 Rows.fnItemsRow.domain false) (Rows.fnItemsSpec.post enc Tryz.prog Tryz.f3 false true false false) := by
  refine returnsInHanded_of_change (C := Tryz.checked) own started (by kernel_rfl) Tryz.func3
    (ChangeSpec.witness6 (enc := enc) (C := Tryz.checked) false ⟨#[], #[.slice none 0 0], []⟩ 8 (by kernel_rfl) (by kernel_rfl) (by kernel_rfl) (by kernel_rfl)) ?_
  intro W base args ds gs before hval0 hW hcnd _
  have hval : ∀ (j : Nat) t v, Tryz.f3.params[j]? = some t → args[j]? = some v → Value.okWide Tryz.prog W .any base t v := hval0
  have hW' := hW
  obtain ⟨p, q, hA0, hV, rfl, hfz, hnd⟩ := hW
  have hA : DataW.TrodAll enc Tryz.prog W 0 (fun _ => true) true Tryz.f3.params.toList args.toList ds p := hA0
  rw [Tryz.params3] at hA hval
  obtain ⟨v0, vs0, d0, ds0, p0, q0, hargs, rfl, rfl, h0, r0⟩ := trodAll_cons hA
  obtain ⟨rfl, rfl, rfl⟩ := trodAll_nil r0
  obtain rfl : args = #[v0] := by cases args; simp_all
  obtain ⟨rfl, rfl⟩ := trodVars_none hV
  have k0 := h0
  have lt0 : ∀ x ∈ p0, x.block < W.heap.size := by obtain ⟨m, hm⟩ := k0; exact DataW.trod_lt m _ _ _ hm
  obtain ⟨l0, c0, w0⟩ := bytes_of_trod (v := v0) Tryz.underlying22 Tryz.underlying5 (by kernel_rfl) (hval 0 22 v0 rfl rfl) h0
  clear hA0 hval0
  refine (fnItems_walk v0 l0 W c0 w0).mono fun e W' ⟨he, bel⟩ => ?_
  subst he
  exact ⟨_, rfl, _, _, _, [], _, [], hW', trodAll_mk1 (shut_bool Tryz.underlying4 _), (trodAll_cons_mk (Below.trod laidOut (by kernel_rfl) (of_decide_eq_true (by kernel_rfl)) k0 bel lt0) trodAll_mk0), rfl, bel.frame _, fun h => by cases h⟩
theorem fnItems_over : Rows.fnItemsRow.holds Tryz.pinned (OpenSpec.ofChange Rows.fnItemsSpec) :=
  OpenClaim.holds_of_wide 3 Tryz.f3 rfl rfl rfl rfl rfl rfl rfl ⟨rfl, rfl, rfl, rfl, rfl⟩ rfl rfl rfl rfl rfl (by kernel_rfl) Tryz.func3 (by kernel_rfl)
    (of_decide_eq_true (by kernel_rfl)) (by unfold Func.isWrapper; first | (rw [if_pos (by decide +kernel)]; kernel_rfl) | (rw [if_neg (by decide +kernel)]; exact ⟨rfl, rfl⟩))
    (fun os started H enc _ => fnItems_lifted os started H enc)
theorem fnItems_holds : Rows.FnItemsSaid := fnItems_over
#print axioms fnItems_holds
end Go.Proofs.YtcgbdhbdlnimhaaGreat
