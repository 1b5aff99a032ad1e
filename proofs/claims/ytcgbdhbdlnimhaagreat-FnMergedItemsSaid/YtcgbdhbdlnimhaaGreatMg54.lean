import Derived.Test.YtcgbdhbdlnimhaaGreatMg50
import Derived.Test.YtcgbdhbdlnimhaaGreatMg42
import Derived.Test.YtcgbdhbdlnimhaaGreatMg29
import Derived.Test.YtcgbdhbdlnimhaaGreatMg52
import Derived.Test.YtcgbdhbdlnimhaaGreatMg35
import Derived.Test.YtcgbdhbdlnimhaaGreatMg28
import Derived.Test.YtcgbdhbdlnimhaaGreatMg53
import Derived.Test.YtcgbdhbdlnimhaaGreatMg18
import Derived.Test.YtcgbdhbdlnimhaaGreatMg2
import Derived.Deep.RegionHeld3
/- LawFm: the walk of the law FnMergedItems, and its row. -/
namespace Go.Proofs.YtcgbdhbdlnimhaaGreat
open Go.ChangeShapes Go.WideShapes Go.ChangeAt Go.RowKit

theorem itemsText_law (l : List Item) : (itemsTextB l).size ≤ 2000 ∧ (itemsTextB l = { data := #[] } ∨ (readOk (chars (itemsTextB l)) = true ∧ readL (chars (itemsTextB l)) = l)) := by
  unfold itemsTextB
  cases h : okItems l
  · rw [if_neg (by decide)]; exact ⟨by decide, .inl rfl⟩
  · rw [if_pos rfl]
    refine ⟨?_, .inr ?_⟩
    · rw [strOfNums_size]
      have h1 := itemsCh_len h l.length (Nat.le_refl _)
      rw [List.take_length] at h1
      have := okItems_len h
      omega
    · rw [chars_strOf ?_]
      · exact items_rt h
      · intro y hy
        unfold itemsCh at hy
        obtain ⟨x, hx, hy⟩ := List.mem_flatMap.1 hy
        unfold itemLine at hy
        simp only [List.mem_append, List.mem_cons, List.not_mem_nil, or_false] at hy
        rcases hy with hy | rfl | hy | rfl
        · exact chars_in _ y hy
        · omega
        · exact hex_bytes (okPat_mem (okItems_pat h x hx)) y hy
        · omega
theorem eqItM_self (l : List Item) : same2 eqItemB l l = true := (same2_iff eqItemB eqItemB_iff l l).2 rfl
theorem eqIM_self (l : List Int) : same2 eqI l l = true := (same2_iff eqI eqI_iff l l).2 rfl
set_option maxRecDepth 100000 in
set_option maxHeartbeats 8000000 in
theorem fnMergedItems_walk (v : Value) (cs : List Int) (w : World) (hv : BytesAt w v cs) (hin : ∀ x ∈ cs, 0 ≤ x ∧ x ≤ 255) : Calls Tryz.prog 4 #[v] w (Gives (.bool true) w) := by
  have HV := Lib.hid hv
  have Hin := Lib.hid hin
  have HFB := Lib.hid (f6big_c v cs w hv)
  clear hv hin
  by_cases hl : 4096 < cs.length
  · rw [decide_eq_true hl] at HFB
    clear hl
    go_enter Tryz.func4, Tryz.ntmps4
    go_wp2_with fail
    refine HFB.out.mono ?_
    rintro e w1 ⟨rfl, hb1⟩
    go_wp2
    go_ret
    exact Gives.bool rfl hb1
  rw [decide_eq_false hl] at HFB
  have Hcl : Hid (cs.length ≤ 4096) := Lib.hid (by omega)
  clear hl
  go_enter Tryz.func4, Tryz.ntmps4
  go_wp2_with fail
  refine HFB.out.mono ?_
  rintro e w1 ⟨rfl, hb0⟩
  clear HFB
  go_wp2_with fail
  refine (drawMergeItems_c v cs w1 (HV.out.below hb0) Hin.out Hcl.out).mono ?_
  rintro e w2 ⟨la, ln, lc, L, ka, kn, kc, K, rfl, -, hl, hk81, hk, hb⟩
  try (have Hn1 := Lib.hid (NestAt.below HL.out hb); clear HL; have HL := Hn1; clear Hn1)
  try (have Hn1 := Lib.hid (NestAt.below HK.out hb); clear HK; have HK := Hn1; clear Hn1)
  try (have Hn1 := Lib.hid (NestAt.below HX.out hb); clear HX; have HX := Hn1; clear Hn1)
  try (have Hn1 := Lib.hid (NestAt.below HM.out hb); clear HM; have HM := Hn1; clear Hn1)
  try (have Hn1 := Lib.hid (NestAt.below HR.out hb); clear HR; have HR := Hn1; clear Hn1)
  try (have Hn1 := Lib.hid (NestAt.below HY.out hb); clear HY; have HY := Hn1; clear Hn1)
  try (have Hn1 := Lib.hid (NestAt.below HZ.out hb); clear HZ; have HZ := Hn1; clear Hn1)
  try (have Hn1 := Lib.hid (NestAt.below HT.out hb); clear HT; have HT := Hn1; clear Hn1)
  try (have Hn1 := Lib.hid (NestAt.below HA.out hb); clear HA; have HA := Hn1; clear Hn1)
  try (have Hn1 := Lib.hid (NestAt.below HB.out hb); clear HB; have HB := Hn1; clear Hn1)
  try (have Hn1 := Lib.hid (HP.out.below hb); clear HP; have HP := Hn1; clear Hn1)
  try (have Hn1 := Lib.hid (HQ.out.below hb); clear HQ; have HQ := Hn1; clear Hn1)
  have Hn2 := bthen hb0 hb
  clear hb0 hb
  have hb0 := Hn2
  clear Hn2
  have HL := Lib.hid hl
  have HK := Lib.hid hk
  have Hk81 := Lib.hid hk81
  clear hl hk hk81
  go_wp2_with fail
  refine (iMergeItems_c _ _ L K w2 HL.out HK.out).mono ?_
  rintro e w3 ⟨xa, xn, xc, rfl, ho, hb⟩
  try (have Hn1 := Lib.hid (NestAt.below HL.out hb); clear HL; have HL := Hn1; clear Hn1)
  try (have Hn1 := Lib.hid (NestAt.below HK.out hb); clear HK; have HK := Hn1; clear Hn1)
  try (have Hn1 := Lib.hid (NestAt.below HX.out hb); clear HX; have HX := Hn1; clear Hn1)
  try (have Hn1 := Lib.hid (NestAt.below HM.out hb); clear HM; have HM := Hn1; clear Hn1)
  try (have Hn1 := Lib.hid (NestAt.below HR.out hb); clear HR; have HR := Hn1; clear Hn1)
  try (have Hn1 := Lib.hid (NestAt.below HY.out hb); clear HY; have HY := Hn1; clear Hn1)
  try (have Hn1 := Lib.hid (NestAt.below HZ.out hb); clear HZ; have HZ := Hn1; clear Hn1)
  try (have Hn1 := Lib.hid (NestAt.below HT.out hb); clear HT; have HT := Hn1; clear Hn1)
  try (have Hn1 := Lib.hid (NestAt.below HA.out hb); clear HA; have HA := Hn1; clear Hn1)
  try (have Hn1 := Lib.hid (NestAt.below HB.out hb); clear HB; have HB := Hn1; clear Hn1)
  try (have Hn1 := Lib.hid (HP.out.below hb); clear HP; have HP := Hn1; clear Hn1)
  try (have Hn1 := Lib.hid (HQ.out.below hb); clear HQ; have HQ := Hn1; clear Hn1)
  have Hn2 := bthen hb0 hb
  clear hb0 hb
  have hb0 := Hn2
  clear Hn2
  have HX := Lib.hid (OwnItems.at ho)
  clear ho
  go_wp2_with fail
  refine (sMergeItems_c _ _ L K w3 HL.out HK.out).mono ?_
  rintro e w4 ⟨ma, mn, mc, rfl, ho, hb⟩
  try (have Hn1 := Lib.hid (NestAt.below HL.out hb); clear HL; have HL := Hn1; clear Hn1)
  try (have Hn1 := Lib.hid (NestAt.below HK.out hb); clear HK; have HK := Hn1; clear Hn1)
  try (have Hn1 := Lib.hid (NestAt.below HX.out hb); clear HX; have HX := Hn1; clear Hn1)
  try (have Hn1 := Lib.hid (NestAt.below HM.out hb); clear HM; have HM := Hn1; clear Hn1)
  try (have Hn1 := Lib.hid (NestAt.below HR.out hb); clear HR; have HR := Hn1; clear Hn1)
  try (have Hn1 := Lib.hid (NestAt.below HY.out hb); clear HY; have HY := Hn1; clear Hn1)
  try (have Hn1 := Lib.hid (NestAt.below HZ.out hb); clear HZ; have HZ := Hn1; clear Hn1)
  try (have Hn1 := Lib.hid (NestAt.below HT.out hb); clear HT; have HT := Hn1; clear Hn1)
  try (have Hn1 := Lib.hid (NestAt.below HA.out hb); clear HA; have HA := Hn1; clear Hn1)
  try (have Hn1 := Lib.hid (NestAt.below HB.out hb); clear HB; have HB := Hn1; clear Hn1)
  try (have Hn1 := Lib.hid (HP.out.below hb); clear HP; have HP := Hn1; clear Hn1)
  try (have Hn1 := Lib.hid (HQ.out.below hb); clear HQ; have HQ := Hn1; clear Hn1)
  have Hn2 := bthen hb0 hb
  clear hb0 hb
  have hb0 := Hn2
  clear Hn2
  have HM := Lib.hid (OwnItems.at ho)
  clear ho
  have Hmer : Hid (mergeCode L K = 0 → (mergeCode K L = 0 ∧ mergeL K L = mergeL L K) ∧ okItems (mergeL L K) = true ∧ ∀ x ∈ K, x ∈ mergeL L K) := Lib.hid (fun h => ⟨merge_swap h, merge_all h⟩)
  generalize mergeL L K = X at *
  generalize mergeCode L K = bad at *
  go_wp2_with fail
  refine (drawItemsText_c v cs w4 (HV.out.below hb0) Hin.out Hcl.out).mono ?_
  rintro e w5 ⟨ta, tn, tc, T, rfl, -, hl, hb⟩
  try (have Hn1 := Lib.hid (NestAt.below HL.out hb); clear HL; have HL := Hn1; clear Hn1)
  try (have Hn1 := Lib.hid (NestAt.below HK.out hb); clear HK; have HK := Hn1; clear Hn1)
  try (have Hn1 := Lib.hid (NestAt.below HX.out hb); clear HX; have HX := Hn1; clear Hn1)
  try (have Hn1 := Lib.hid (NestAt.below HM.out hb); clear HM; have HM := Hn1; clear Hn1)
  try (have Hn1 := Lib.hid (NestAt.below HR.out hb); clear HR; have HR := Hn1; clear Hn1)
  try (have Hn1 := Lib.hid (NestAt.below HY.out hb); clear HY; have HY := Hn1; clear Hn1)
  try (have Hn1 := Lib.hid (NestAt.below HZ.out hb); clear HZ; have HZ := Hn1; clear Hn1)
  try (have Hn1 := Lib.hid (NestAt.below HT.out hb); clear HT; have HT := Hn1; clear Hn1)
  try (have Hn1 := Lib.hid (NestAt.below HA.out hb); clear HA; have HA := Hn1; clear Hn1)
  try (have Hn1 := Lib.hid (NestAt.below HB.out hb); clear HB; have HB := Hn1; clear Hn1)
  try (have Hn1 := Lib.hid (HP.out.below hb); clear HP; have HP := Hn1; clear Hn1)
  try (have Hn1 := Lib.hid (HQ.out.below hb); clear HQ; have HQ := Hn1; clear Hn1)
  have Hn2 := bthen hb0 hb
  clear hb0 hb
  have hb0 := Hn2
  clear Hn2
  have HT := Lib.hid hl
  clear hl
  go_wp2_with fail
  refine (iItemsText_c _ T w5 HT.out).mono ?_
  rintro e w6 ⟨rfl, hb⟩
  try (have Hn1 := Lib.hid (NestAt.below HL.out hb); clear HL; have HL := Hn1; clear Hn1)
  try (have Hn1 := Lib.hid (NestAt.below HK.out hb); clear HK; have HK := Hn1; clear Hn1)
  try (have Hn1 := Lib.hid (NestAt.below HX.out hb); clear HX; have HX := Hn1; clear Hn1)
  try (have Hn1 := Lib.hid (NestAt.below HM.out hb); clear HM; have HM := Hn1; clear Hn1)
  try (have Hn1 := Lib.hid (NestAt.below HR.out hb); clear HR; have HR := Hn1; clear Hn1)
  try (have Hn1 := Lib.hid (NestAt.below HY.out hb); clear HY; have HY := Hn1; clear Hn1)
  try (have Hn1 := Lib.hid (NestAt.below HZ.out hb); clear HZ; have HZ := Hn1; clear Hn1)
  try (have Hn1 := Lib.hid (NestAt.below HT.out hb); clear HT; have HT := Hn1; clear Hn1)
  try (have Hn1 := Lib.hid (NestAt.below HA.out hb); clear HA; have HA := Hn1; clear Hn1)
  try (have Hn1 := Lib.hid (NestAt.below HB.out hb); clear HB; have HB := Hn1; clear Hn1)
  try (have Hn1 := Lib.hid (HP.out.below hb); clear HP; have HP := Hn1; clear Hn1)
  try (have Hn1 := Lib.hid (HQ.out.below hb); clear HQ; have HQ := Hn1; clear Hn1)
  have Hn2 := bthen hb0 hb
  clear hb0 hb
  have hb0 := Hn2
  clear Hn2
  obtain ⟨hsz, hrt⟩ := itemsText_law T
  have HS2 := Lib.hid (fun W x => sItemsText_c (.slice ta tn tc) T W x)
  generalize itemsTextB T = TB at *
  have Hrt := Lib.hid hrt
  clear hrt
  go_wp2_with fail
  refine (iReadItems_c TB w6 (by omega)).mono ?_
  rintro e w7 ⟨ba, bn, bc, rfl, ho, hb⟩
  try (have Hn1 := Lib.hid (NestAt.below HL.out hb); clear HL; have HL := Hn1; clear Hn1)
  try (have Hn1 := Lib.hid (NestAt.below HK.out hb); clear HK; have HK := Hn1; clear Hn1)
  try (have Hn1 := Lib.hid (NestAt.below HX.out hb); clear HX; have HX := Hn1; clear Hn1)
  try (have Hn1 := Lib.hid (NestAt.below HM.out hb); clear HM; have HM := Hn1; clear Hn1)
  try (have Hn1 := Lib.hid (NestAt.below HR.out hb); clear HR; have HR := Hn1; clear Hn1)
  try (have Hn1 := Lib.hid (NestAt.below HY.out hb); clear HY; have HY := Hn1; clear Hn1)
  try (have Hn1 := Lib.hid (NestAt.below HZ.out hb); clear HZ; have HZ := Hn1; clear Hn1)
  try (have Hn1 := Lib.hid (NestAt.below HT.out hb); clear HT; have HT := Hn1; clear Hn1)
  try (have Hn1 := Lib.hid (NestAt.below HA.out hb); clear HA; have HA := Hn1; clear Hn1)
  try (have Hn1 := Lib.hid (NestAt.below HB.out hb); clear HB; have HB := Hn1; clear Hn1)
  try (have Hn1 := Lib.hid (HP.out.below hb); clear HP; have HP := Hn1; clear Hn1)
  try (have Hn1 := Lib.hid (HQ.out.below hb); clear HQ; have HQ := Hn1; clear Hn1)
  have Hn2 := bthen hb0 hb
  clear hb0 hb
  have hb0 := Hn2
  clear Hn2
  have HR := Lib.hid (OwnItems.at ho)
  clear ho
  go_wp2_with fail
  refine (drawReadItems_c v cs w7 (HV.out.below hb0) Hin.out Hcl.out).mono ?_
  rintro e w8 ⟨s, rfl, hs, hb⟩
  try (have Hn1 := Lib.hid (NestAt.below HL.out hb); clear HL; have HL := Hn1; clear Hn1)
  try (have Hn1 := Lib.hid (NestAt.below HK.out hb); clear HK; have HK := Hn1; clear Hn1)
  try (have Hn1 := Lib.hid (NestAt.below HX.out hb); clear HX; have HX := Hn1; clear Hn1)
  try (have Hn1 := Lib.hid (NestAt.below HM.out hb); clear HM; have HM := Hn1; clear Hn1)
  try (have Hn1 := Lib.hid (NestAt.below HR.out hb); clear HR; have HR := Hn1; clear Hn1)
  try (have Hn1 := Lib.hid (NestAt.below HY.out hb); clear HY; have HY := Hn1; clear Hn1)
  try (have Hn1 := Lib.hid (NestAt.below HZ.out hb); clear HZ; have HZ := Hn1; clear Hn1)
  try (have Hn1 := Lib.hid (NestAt.below HT.out hb); clear HT; have HT := Hn1; clear Hn1)
  try (have Hn1 := Lib.hid (NestAt.below HA.out hb); clear HA; have HA := Hn1; clear Hn1)
  try (have Hn1 := Lib.hid (NestAt.below HB.out hb); clear HB; have HB := Hn1; clear Hn1)
  try (have Hn1 := Lib.hid (HP.out.below hb); clear HP; have HP := Hn1; clear Hn1)
  try (have Hn1 := Lib.hid (HQ.out.below hb); clear HQ; have HQ := Hn1; clear Hn1)
  have Hn2 := bthen hb0 hb
  clear hb0 hb
  have hb0 := Hn2
  clear Hn2
  go_wp2_with fail
  refine (iReadItems_c s w8 (by omega)).mono ?_
  rintro e w9 ⟨ya, yn, yc, rfl, ho, hb⟩
  try (have Hn1 := Lib.hid (NestAt.below HL.out hb); clear HL; have HL := Hn1; clear Hn1)
  try (have Hn1 := Lib.hid (NestAt.below HK.out hb); clear HK; have HK := Hn1; clear Hn1)
  try (have Hn1 := Lib.hid (NestAt.below HX.out hb); clear HX; have HX := Hn1; clear Hn1)
  try (have Hn1 := Lib.hid (NestAt.below HM.out hb); clear HM; have HM := Hn1; clear Hn1)
  try (have Hn1 := Lib.hid (NestAt.below HR.out hb); clear HR; have HR := Hn1; clear Hn1)
  try (have Hn1 := Lib.hid (NestAt.below HY.out hb); clear HY; have HY := Hn1; clear Hn1)
  try (have Hn1 := Lib.hid (NestAt.below HZ.out hb); clear HZ; have HZ := Hn1; clear Hn1)
  try (have Hn1 := Lib.hid (NestAt.below HT.out hb); clear HT; have HT := Hn1; clear Hn1)
  try (have Hn1 := Lib.hid (NestAt.below HA.out hb); clear HA; have HA := Hn1; clear Hn1)
  try (have Hn1 := Lib.hid (NestAt.below HB.out hb); clear HB; have HB := Hn1; clear Hn1)
  try (have Hn1 := Lib.hid (HP.out.below hb); clear HP; have HP := Hn1; clear Hn1)
  try (have Hn1 := Lib.hid (HQ.out.below hb); clear HQ; have HQ := Hn1; clear Hn1)
  have Hn2 := bthen hb0 hb
  clear hb0 hb
  have hb0 := Hn2
  clear Hn2
  have HY := Lib.hid (OwnItems.at ho)
  clear ho
  go_wp2_with fail
  refine (sReadItems_c s w9 (by omega)).mono ?_
  rintro e w10 ⟨za, zn, zc, rfl, ho, hb⟩
  try (have Hn1 := Lib.hid (NestAt.below HL.out hb); clear HL; have HL := Hn1; clear Hn1)
  try (have Hn1 := Lib.hid (NestAt.below HK.out hb); clear HK; have HK := Hn1; clear Hn1)
  try (have Hn1 := Lib.hid (NestAt.below HX.out hb); clear HX; have HX := Hn1; clear Hn1)
  try (have Hn1 := Lib.hid (NestAt.below HM.out hb); clear HM; have HM := Hn1; clear Hn1)
  try (have Hn1 := Lib.hid (NestAt.below HR.out hb); clear HR; have HR := Hn1; clear Hn1)
  try (have Hn1 := Lib.hid (NestAt.below HY.out hb); clear HY; have HY := Hn1; clear Hn1)
  try (have Hn1 := Lib.hid (NestAt.below HZ.out hb); clear HZ; have HZ := Hn1; clear Hn1)
  try (have Hn1 := Lib.hid (NestAt.below HT.out hb); clear HT; have HT := Hn1; clear Hn1)
  try (have Hn1 := Lib.hid (NestAt.below HA.out hb); clear HA; have HA := Hn1; clear Hn1)
  try (have Hn1 := Lib.hid (NestAt.below HB.out hb); clear HB; have HB := Hn1; clear Hn1)
  try (have Hn1 := Lib.hid (HP.out.below hb); clear HP; have HP := Hn1; clear Hn1)
  try (have Hn1 := Lib.hid (HQ.out.below hb); clear HQ; have HQ := Hn1; clear Hn1)
  have Hn2 := bthen hb0 hb
  clear hb0 hb
  have hb0 := Hn2
  clear Hn2
  have HZ := Lib.hid (OwnItems.at ho)
  clear ho
  generalize readL (chars s) = YL at *
  generalize readOk (chars s) = yok at *
  go_wp2_with fail
  refine (drawNamesWith_c v cs w10 (HV.out.below hb0) Hin.out Hcl.out).mono ?_
  rintro e w11 ⟨ua, un, uc, U, props, rfl, -, hl, hb⟩
  try (have Hn1 := Lib.hid (NestAt.below HL.out hb); clear HL; have HL := Hn1; clear Hn1)
  try (have Hn1 := Lib.hid (NestAt.below HK.out hb); clear HK; have HK := Hn1; clear Hn1)
  try (have Hn1 := Lib.hid (NestAt.below HX.out hb); clear HX; have HX := Hn1; clear Hn1)
  try (have Hn1 := Lib.hid (NestAt.below HM.out hb); clear HM; have HM := Hn1; clear Hn1)
  try (have Hn1 := Lib.hid (NestAt.below HR.out hb); clear HR; have HR := Hn1; clear Hn1)
  try (have Hn1 := Lib.hid (NestAt.below HY.out hb); clear HY; have HY := Hn1; clear Hn1)
  try (have Hn1 := Lib.hid (NestAt.below HZ.out hb); clear HZ; have HZ := Hn1; clear Hn1)
  try (have Hn1 := Lib.hid (NestAt.below HT.out hb); clear HT; have HT := Hn1; clear Hn1)
  try (have Hn1 := Lib.hid (NestAt.below HA.out hb); clear HA; have HA := Hn1; clear Hn1)
  try (have Hn1 := Lib.hid (NestAt.below HB.out hb); clear HB; have HB := Hn1; clear Hn1)
  try (have Hn1 := Lib.hid (HP.out.below hb); clear HP; have HP := Hn1; clear Hn1)
  try (have Hn1 := Lib.hid (HQ.out.below hb); clear HQ; have HQ := Hn1; clear Hn1)
  have Hn2 := bthen hb0 hb
  clear hb0 hb
  have hb0 := Hn2
  clear Hn2
  have HA := Lib.hid hl
  clear hl
  go_wp2_with fail
  refine (iNamesWith_c _ U props w11 HA.out).mono ?_
  rintro e w12 ⟨na, nn, nc, rfl, ho, hb⟩
  try (have Hn1 := Lib.hid (NestAt.below HL.out hb); clear HL; have HL := Hn1; clear Hn1)
  try (have Hn1 := Lib.hid (NestAt.below HK.out hb); clear HK; have HK := Hn1; clear Hn1)
  try (have Hn1 := Lib.hid (NestAt.below HX.out hb); clear HX; have HX := Hn1; clear Hn1)
  try (have Hn1 := Lib.hid (NestAt.below HM.out hb); clear HM; have HM := Hn1; clear Hn1)
  try (have Hn1 := Lib.hid (NestAt.below HR.out hb); clear HR; have HR := Hn1; clear Hn1)
  try (have Hn1 := Lib.hid (NestAt.below HY.out hb); clear HY; have HY := Hn1; clear Hn1)
  try (have Hn1 := Lib.hid (NestAt.below HZ.out hb); clear HZ; have HZ := Hn1; clear Hn1)
  try (have Hn1 := Lib.hid (NestAt.below HT.out hb); clear HT; have HT := Hn1; clear Hn1)
  try (have Hn1 := Lib.hid (NestAt.below HA.out hb); clear HA; have HA := Hn1; clear Hn1)
  try (have Hn1 := Lib.hid (NestAt.below HB.out hb); clear HB; have HB := Hn1; clear Hn1)
  try (have Hn1 := Lib.hid (HP.out.below hb); clear HP; have HP := Hn1; clear Hn1)
  try (have Hn1 := Lib.hid (HQ.out.below hb); clear HQ; have HQ := Hn1; clear Hn1)
  have Hn2 := bthen hb0 hb
  clear hb0 hb
  have hb0 := Hn2
  clear Hn2
  have HP := Lib.hid (OwnStrs.at ho)
  clear ho
  go_wp2_with fail
  refine (sNamesWith_c _ U props w12 HA.out).mono ?_
  rintro e w13 ⟨oa, on, oc, rfl, ho, hb⟩
  clear HA
  try (have Hn1 := Lib.hid (NestAt.below HL.out hb); clear HL; have HL := Hn1; clear Hn1)
  try (have Hn1 := Lib.hid (NestAt.below HK.out hb); clear HK; have HK := Hn1; clear Hn1)
  try (have Hn1 := Lib.hid (NestAt.below HX.out hb); clear HX; have HX := Hn1; clear Hn1)
  try (have Hn1 := Lib.hid (NestAt.below HM.out hb); clear HM; have HM := Hn1; clear Hn1)
  try (have Hn1 := Lib.hid (NestAt.below HR.out hb); clear HR; have HR := Hn1; clear Hn1)
  try (have Hn1 := Lib.hid (NestAt.below HY.out hb); clear HY; have HY := Hn1; clear Hn1)
  try (have Hn1 := Lib.hid (NestAt.below HZ.out hb); clear HZ; have HZ := Hn1; clear Hn1)
  try (have Hn1 := Lib.hid (NestAt.below HT.out hb); clear HT; have HT := Hn1; clear Hn1)
  try (have Hn1 := Lib.hid (NestAt.below HA.out hb); clear HA; have HA := Hn1; clear Hn1)
  try (have Hn1 := Lib.hid (NestAt.below HB.out hb); clear HB; have HB := Hn1; clear Hn1)
  try (have Hn1 := Lib.hid (HP.out.below hb); clear HP; have HP := Hn1; clear Hn1)
  try (have Hn1 := Lib.hid (HQ.out.below hb); clear HQ; have HQ := Hn1; clear Hn1)
  have Hn2 := bthen hb0 hb
  clear hb0 hb
  have hb0 := Hn2
  clear Hn2
  have HQ := Lib.hid (OwnStrs.at ho)
  clear ho
  generalize namesWithL U props = NL at *
  generalize namesWithCode U props = ncd at *
  go_wp2_with fail
  refine (drawSameItems_c v cs w13 (HV.out.below hb0) Hin.out Hcl.out).mono ?_
  rintro e w14 ⟨aa, an, ac, ba', bn', bc', A, B, rfl, hl, hm, hb⟩
  try (have Hn1 := Lib.hid (NestAt.below HL.out hb); clear HL; have HL := Hn1; clear Hn1)
  try (have Hn1 := Lib.hid (NestAt.below HK.out hb); clear HK; have HK := Hn1; clear Hn1)
  try (have Hn1 := Lib.hid (NestAt.below HX.out hb); clear HX; have HX := Hn1; clear Hn1)
  try (have Hn1 := Lib.hid (NestAt.below HM.out hb); clear HM; have HM := Hn1; clear Hn1)
  try (have Hn1 := Lib.hid (NestAt.below HR.out hb); clear HR; have HR := Hn1; clear Hn1)
  try (have Hn1 := Lib.hid (NestAt.below HY.out hb); clear HY; have HY := Hn1; clear Hn1)
  try (have Hn1 := Lib.hid (NestAt.below HZ.out hb); clear HZ; have HZ := Hn1; clear Hn1)
  try (have Hn1 := Lib.hid (NestAt.below HT.out hb); clear HT; have HT := Hn1; clear Hn1)
  try (have Hn1 := Lib.hid (NestAt.below HA.out hb); clear HA; have HA := Hn1; clear Hn1)
  try (have Hn1 := Lib.hid (NestAt.below HB.out hb); clear HB; have HB := Hn1; clear Hn1)
  try (have Hn1 := Lib.hid (HP.out.below hb); clear HP; have HP := Hn1; clear Hn1)
  try (have Hn1 := Lib.hid (HQ.out.below hb); clear HQ; have HQ := Hn1; clear Hn1)
  have Hn2 := bthen hb0 hb
  clear hb0 hb
  have hb0 := Hn2
  clear Hn2
  have HA := Lib.hid hl
  have HB := Lib.hid hm
  clear hl hm
  go_wp2_with fail
  have h := sSameItems_c _ _ _ _ w14 HX.out HM.out
  rw [eqItM_self] at h
  refine h.mono ?_
  rintro e w15 ⟨rfl, hb⟩
  clear h HM
  try (have Hn1 := Lib.hid (NestAt.below HL.out hb); clear HL; have HL := Hn1; clear Hn1)
  try (have Hn1 := Lib.hid (NestAt.below HK.out hb); clear HK; have HK := Hn1; clear Hn1)
  try (have Hn1 := Lib.hid (NestAt.below HX.out hb); clear HX; have HX := Hn1; clear Hn1)
  try (have Hn1 := Lib.hid (NestAt.below HM.out hb); clear HM; have HM := Hn1; clear Hn1)
  try (have Hn1 := Lib.hid (NestAt.below HR.out hb); clear HR; have HR := Hn1; clear Hn1)
  try (have Hn1 := Lib.hid (NestAt.below HY.out hb); clear HY; have HY := Hn1; clear Hn1)
  try (have Hn1 := Lib.hid (NestAt.below HZ.out hb); clear HZ; have HZ := Hn1; clear Hn1)
  try (have Hn1 := Lib.hid (NestAt.below HT.out hb); clear HT; have HT := Hn1; clear Hn1)
  try (have Hn1 := Lib.hid (NestAt.below HA.out hb); clear HA; have HA := Hn1; clear Hn1)
  try (have Hn1 := Lib.hid (NestAt.below HB.out hb); clear HB; have HB := Hn1; clear Hn1)
  try (have Hn1 := Lib.hid (HP.out.below hb); clear HP; have HP := Hn1; clear Hn1)
  try (have Hn1 := Lib.hid (HQ.out.below hb); clear HQ; have HQ := Hn1; clear Hn1)
  have Hn2 := bthen hb0 hb
  clear hb0 hb
  have hb0 := Hn2
  clear Hn2
  go_wp2_with fail
  refine (HS2.out _ HT.out).mono ?_
  rintro e w16 ⟨rfl, hb⟩
  clear HS2
  try (have Hn1 := Lib.hid (NestAt.below HL.out hb); clear HL; have HL := Hn1; clear Hn1)
  try (have Hn1 := Lib.hid (NestAt.below HK.out hb); clear HK; have HK := Hn1; clear Hn1)
  try (have Hn1 := Lib.hid (NestAt.below HX.out hb); clear HX; have HX := Hn1; clear Hn1)
  try (have Hn1 := Lib.hid (NestAt.below HM.out hb); clear HM; have HM := Hn1; clear Hn1)
  try (have Hn1 := Lib.hid (NestAt.below HR.out hb); clear HR; have HR := Hn1; clear Hn1)
  try (have Hn1 := Lib.hid (NestAt.below HY.out hb); clear HY; have HY := Hn1; clear Hn1)
  try (have Hn1 := Lib.hid (NestAt.below HZ.out hb); clear HZ; have HZ := Hn1; clear Hn1)
  try (have Hn1 := Lib.hid (NestAt.below HT.out hb); clear HT; have HT := Hn1; clear Hn1)
  try (have Hn1 := Lib.hid (NestAt.below HA.out hb); clear HA; have HA := Hn1; clear Hn1)
  try (have Hn1 := Lib.hid (NestAt.below HB.out hb); clear HB; have HB := Hn1; clear Hn1)
  try (have Hn1 := Lib.hid (HP.out.below hb); clear HP; have HP := Hn1; clear Hn1)
  try (have Hn1 := Lib.hid (HQ.out.below hb); clear HQ; have HQ := Hn1; clear Hn1)
  have Hn2 := bthen hb0 hb
  clear hb0 hb
  have hb0 := Hn2
  clear Hn2
  have e1 := beq_bytes TB TB
  rw [decide_eq_true rfl] at e1
  by_cases hE : TB = { data := #[] }
  · have e2 : TB.toList.isEmpty = true := by rw [hE, isEmpty_size]; exact decide_eq_true rfl
    have e3 : TB.toList = [] := List.isEmpty_iff.1 e2
    clear HR HT Hrt hE
    generalize readOk (chars TB) = rok at *
    dsimp only [List.append] at *
    go_wp2_with fail
    have h := sSameItems_c _ _ _ _ w16 HY.out HZ.out
    rw [eqItM_self] at h
    refine h.mono ?_
    rintro e w17 ⟨rfl, hb⟩
    clear h HY HZ e1 e2 e3
    try (have Hn1 := Lib.hid (NestAt.below HL.out hb); clear HL; have HL := Hn1; clear Hn1)
    try (have Hn1 := Lib.hid (NestAt.below HK.out hb); clear HK; have HK := Hn1; clear Hn1)
    try (have Hn1 := Lib.hid (NestAt.below HX.out hb); clear HX; have HX := Hn1; clear Hn1)
    try (have Hn1 := Lib.hid (NestAt.below HM.out hb); clear HM; have HM := Hn1; clear Hn1)
    try (have Hn1 := Lib.hid (NestAt.below HR.out hb); clear HR; have HR := Hn1; clear Hn1)
    try (have Hn1 := Lib.hid (NestAt.below HY.out hb); clear HY; have HY := Hn1; clear Hn1)
    try (have Hn1 := Lib.hid (NestAt.below HZ.out hb); clear HZ; have HZ := Hn1; clear Hn1)
    try (have Hn1 := Lib.hid (NestAt.below HT.out hb); clear HT; have HT := Hn1; clear Hn1)
    try (have Hn1 := Lib.hid (NestAt.below HA.out hb); clear HA; have HA := Hn1; clear Hn1)
    try (have Hn1 := Lib.hid (NestAt.below HB.out hb); clear HB; have HB := Hn1; clear Hn1)
    try (have Hn1 := Lib.hid (HP.out.below hb); clear HP; have HP := Hn1; clear Hn1)
    try (have Hn1 := Lib.hid (HQ.out.below hb); clear HQ; have HQ := Hn1; clear Hn1)
    have Hn2 := bthen hb0 hb
    clear hb0 hb
    have hb0 := Hn2
    clear Hn2
    go_wp2_with fail
    have h := f6texts_c _ _ NL NL w17 HP.out HQ.out
    rw [eqT_self] at h
    refine h.mono ?_
    rintro e w31 ⟨rfl, hb⟩
    clear h HP HQ
    try (have Hn1 := Lib.hid (NestAt.below HL.out hb); clear HL; have HL := Hn1; clear Hn1)
    try (have Hn1 := Lib.hid (NestAt.below HK.out hb); clear HK; have HK := Hn1; clear Hn1)
    try (have Hn1 := Lib.hid (NestAt.below HX.out hb); clear HX; have HX := Hn1; clear Hn1)
    try (have Hn1 := Lib.hid (NestAt.below HM.out hb); clear HM; have HM := Hn1; clear Hn1)
    try (have Hn1 := Lib.hid (NestAt.below HR.out hb); clear HR; have HR := Hn1; clear Hn1)
    try (have Hn1 := Lib.hid (NestAt.below HY.out hb); clear HY; have HY := Hn1; clear Hn1)
    try (have Hn1 := Lib.hid (NestAt.below HZ.out hb); clear HZ; have HZ := Hn1; clear Hn1)
    try (have Hn1 := Lib.hid (NestAt.below HT.out hb); clear HT; have HT := Hn1; clear Hn1)
    try (have Hn1 := Lib.hid (NestAt.below HA.out hb); clear HA; have HA := Hn1; clear Hn1)
    try (have Hn1 := Lib.hid (NestAt.below HB.out hb); clear HB; have HB := Hn1; clear Hn1)
    try (have Hn1 := Lib.hid (HP.out.below hb); clear HP; have HP := Hn1; clear Hn1)
    try (have Hn1 := Lib.hid (HQ.out.below hb); clear HQ; have HQ := Hn1; clear Hn1)
    have Hn2 := bthen hb0 hb
    clear hb0 hb
    have hb0 := Hn2
    clear Hn2
    go_wp2_with fail
    refine (iSameItems_c _ _ A B _ HA.out HB.out).mono ?_
    rintro e w32 ⟨rfl, hb⟩
    try (have Hn1 := Lib.hid (NestAt.below HL.out hb); clear HL; have HL := Hn1; clear Hn1)
    try (have Hn1 := Lib.hid (NestAt.below HK.out hb); clear HK; have HK := Hn1; clear Hn1)
    try (have Hn1 := Lib.hid (NestAt.below HX.out hb); clear HX; have HX := Hn1; clear Hn1)
    try (have Hn1 := Lib.hid (NestAt.below HM.out hb); clear HM; have HM := Hn1; clear Hn1)
    try (have Hn1 := Lib.hid (NestAt.below HR.out hb); clear HR; have HR := Hn1; clear Hn1)
    try (have Hn1 := Lib.hid (NestAt.below HY.out hb); clear HY; have HY := Hn1; clear Hn1)
    try (have Hn1 := Lib.hid (NestAt.below HZ.out hb); clear HZ; have HZ := Hn1; clear Hn1)
    try (have Hn1 := Lib.hid (NestAt.below HT.out hb); clear HT; have HT := Hn1; clear Hn1)
    try (have Hn1 := Lib.hid (NestAt.below HA.out hb); clear HA; have HA := Hn1; clear Hn1)
    try (have Hn1 := Lib.hid (NestAt.below HB.out hb); clear HB; have HB := Hn1; clear Hn1)
    try (have Hn1 := Lib.hid (HP.out.below hb); clear HP; have HP := Hn1; clear Hn1)
    try (have Hn1 := Lib.hid (HQ.out.below hb); clear HQ; have HQ := Hn1; clear Hn1)
    have Hn2 := bthen hb0 hb
    clear hb0 hb
    have hb0 := Hn2
    clear Hn2
    go_wp2_with fail
    refine (sSameItems_c _ _ A B _ HA.out HB.out).mono ?_
    rintro e w33 ⟨rfl, hb⟩
    clear HA HB
    generalize same2 eqItemB A B = sab at *
    have hsab : (sab == sab) = true := beq_self_eq_true _
    try (have Hn1 := Lib.hid (NestAt.below HL.out hb); clear HL; have HL := Hn1; clear Hn1)
    try (have Hn1 := Lib.hid (NestAt.below HK.out hb); clear HK; have HK := Hn1; clear Hn1)
    try (have Hn1 := Lib.hid (NestAt.below HX.out hb); clear HX; have HX := Hn1; clear Hn1)
    try (have Hn1 := Lib.hid (NestAt.below HM.out hb); clear HM; have HM := Hn1; clear Hn1)
    try (have Hn1 := Lib.hid (NestAt.below HR.out hb); clear HR; have HR := Hn1; clear Hn1)
    try (have Hn1 := Lib.hid (NestAt.below HY.out hb); clear HY; have HY := Hn1; clear Hn1)
    try (have Hn1 := Lib.hid (NestAt.below HZ.out hb); clear HZ; have HZ := Hn1; clear Hn1)
    try (have Hn1 := Lib.hid (NestAt.below HT.out hb); clear HT; have HT := Hn1; clear Hn1)
    try (have Hn1 := Lib.hid (NestAt.below HA.out hb); clear HA; have HA := Hn1; clear Hn1)
    try (have Hn1 := Lib.hid (NestAt.below HB.out hb); clear HB; have HB := Hn1; clear Hn1)
    try (have Hn1 := Lib.hid (HP.out.below hb); clear HP; have HP := Hn1; clear Hn1)
    try (have Hn1 := Lib.hid (HQ.out.below hb); clear HQ; have HQ := Hn1; clear Hn1)
    have Hn2 := bthen hb0 hb
    clear hb0 hb
    have hb0 := Hn2
    clear Hn2
    go_wp2_with fail
    refine (iStandardItems_c w33).mono ?_
    rintro e w34 ⟨sa, sn, sc, rfl, ho, hb⟩
    try (have Hn1 := Lib.hid (NestAt.below HL.out hb); clear HL; have HL := Hn1; clear Hn1)
    try (have Hn1 := Lib.hid (NestAt.below HK.out hb); clear HK; have HK := Hn1; clear Hn1)
    try (have Hn1 := Lib.hid (NestAt.below HX.out hb); clear HX; have HX := Hn1; clear Hn1)
    try (have Hn1 := Lib.hid (NestAt.below HM.out hb); clear HM; have HM := Hn1; clear Hn1)
    try (have Hn1 := Lib.hid (NestAt.below HR.out hb); clear HR; have HR := Hn1; clear Hn1)
    try (have Hn1 := Lib.hid (NestAt.below HY.out hb); clear HY; have HY := Hn1; clear Hn1)
    try (have Hn1 := Lib.hid (NestAt.below HZ.out hb); clear HZ; have HZ := Hn1; clear Hn1)
    try (have Hn1 := Lib.hid (NestAt.below HT.out hb); clear HT; have HT := Hn1; clear Hn1)
    try (have Hn1 := Lib.hid (NestAt.below HA.out hb); clear HA; have HA := Hn1; clear Hn1)
    try (have Hn1 := Lib.hid (NestAt.below HB.out hb); clear HB; have HB := Hn1; clear Hn1)
    try (have Hn1 := Lib.hid (HP.out.below hb); clear HP; have HP := Hn1; clear Hn1)
    try (have Hn1 := Lib.hid (HQ.out.below hb); clear HQ; have HQ := Hn1; clear Hn1)
    have Hn2 := bthen hb0 hb
    clear hb0 hb
    have hb0 := Hn2
    clear Hn2
    have HA := Lib.hid (OwnItems.at ho)
    clear ho
    go_wp2_with fail
    refine (sStandardItems_c w34).mono ?_
    rintro e w35 ⟨sa2, sn2, sc2, rfl, ho, hb⟩
    try (have Hn1 := Lib.hid (NestAt.below HL.out hb); clear HL; have HL := Hn1; clear Hn1)
    try (have Hn1 := Lib.hid (NestAt.below HK.out hb); clear HK; have HK := Hn1; clear Hn1)
    try (have Hn1 := Lib.hid (NestAt.below HX.out hb); clear HX; have HX := Hn1; clear Hn1)
    try (have Hn1 := Lib.hid (NestAt.below HM.out hb); clear HM; have HM := Hn1; clear Hn1)
    try (have Hn1 := Lib.hid (NestAt.below HR.out hb); clear HR; have HR := Hn1; clear Hn1)
    try (have Hn1 := Lib.hid (NestAt.below HY.out hb); clear HY; have HY := Hn1; clear Hn1)
    try (have Hn1 := Lib.hid (NestAt.below HZ.out hb); clear HZ; have HZ := Hn1; clear Hn1)
    try (have Hn1 := Lib.hid (NestAt.below HT.out hb); clear HT; have HT := Hn1; clear Hn1)
    try (have Hn1 := Lib.hid (NestAt.below HA.out hb); clear HA; have HA := Hn1; clear Hn1)
    try (have Hn1 := Lib.hid (NestAt.below HB.out hb); clear HB; have HB := Hn1; clear Hn1)
    try (have Hn1 := Lib.hid (HP.out.below hb); clear HP; have HP := Hn1; clear Hn1)
    try (have Hn1 := Lib.hid (HQ.out.below hb); clear HQ; have HQ := Hn1; clear Hn1)
    have Hn2 := bthen hb0 hb
    clear hb0 hb
    have hb0 := Hn2
    clear Hn2
    have HB := Lib.hid (OwnItems.at ho)
    clear ho
    go_wp2_with fail
    have h := sSameItems_c _ _ _ _ w35 HA.out HB.out
    rw [eqItM_self] at h
    refine h.mono ?_
    rintro e w36 ⟨rfl, hb⟩
    clear h HA HB
    try (have Hn1 := Lib.hid (NestAt.below HL.out hb); clear HL; have HL := Hn1; clear Hn1)
    try (have Hn1 := Lib.hid (NestAt.below HK.out hb); clear HK; have HK := Hn1; clear Hn1)
    try (have Hn1 := Lib.hid (NestAt.below HX.out hb); clear HX; have HX := Hn1; clear Hn1)
    try (have Hn1 := Lib.hid (NestAt.below HM.out hb); clear HM; have HM := Hn1; clear Hn1)
    try (have Hn1 := Lib.hid (NestAt.below HR.out hb); clear HR; have HR := Hn1; clear Hn1)
    try (have Hn1 := Lib.hid (NestAt.below HY.out hb); clear HY; have HY := Hn1; clear Hn1)
    try (have Hn1 := Lib.hid (NestAt.below HZ.out hb); clear HZ; have HZ := Hn1; clear Hn1)
    try (have Hn1 := Lib.hid (NestAt.below HT.out hb); clear HT; have HT := Hn1; clear Hn1)
    try (have Hn1 := Lib.hid (NestAt.below HA.out hb); clear HA; have HA := Hn1; clear Hn1)
    try (have Hn1 := Lib.hid (NestAt.below HB.out hb); clear HB; have HB := Hn1; clear Hn1)
    try (have Hn1 := Lib.hid (HP.out.below hb); clear HP; have HP := Hn1; clear Hn1)
    try (have Hn1 := Lib.hid (HQ.out.below hb); clear HQ; have HQ := Hn1; clear Hn1)
    have Hn2 := bthen hb0 hb
    clear hb0 hb
    have hb0 := Hn2
    clear Hn2
    generalize hW : w36 = W0 at *
    clear hW
    by_cases hbad : bad = 0
    · subst hbad
      obtain ⟨⟨hsw1, hsw2⟩, hX1, hXm⟩ := Hmer.out rfl
      have HX1 := Lib.hid hX1
      have HXm := Lib.hid (fun x hx => named_law hX1 (hXm x hx))
      have h := iMergeItems_c (.slice ka kn kc) (.slice la ln lc) K L W0 HK.out HL.out
      rw [hsw1, hsw2] at h
      have HS := Lib.hid h
      clear h hsw1 hsw2 hX1 hXm Hmer
      go_wp2_with fail
      refine HS.out.mono ?_
      rintro e w41 ⟨ga, gn, gc, rfl, ho, hb⟩
      clear HS
      try (have Hn1 := Lib.hid (NestAt.below HL.out hb); clear HL; have HL := Hn1; clear Hn1)
      try (have Hn1 := Lib.hid (NestAt.below HK.out hb); clear HK; have HK := Hn1; clear Hn1)
      try (have Hn1 := Lib.hid (NestAt.below HX.out hb); clear HX; have HX := Hn1; clear Hn1)
      try (have Hn1 := Lib.hid (NestAt.below HM.out hb); clear HM; have HM := Hn1; clear Hn1)
      try (have Hn1 := Lib.hid (NestAt.below HR.out hb); clear HR; have HR := Hn1; clear Hn1)
      try (have Hn1 := Lib.hid (NestAt.below HY.out hb); clear HY; have HY := Hn1; clear Hn1)
      try (have Hn1 := Lib.hid (NestAt.below HZ.out hb); clear HZ; have HZ := Hn1; clear Hn1)
      try (have Hn1 := Lib.hid (NestAt.below HT.out hb); clear HT; have HT := Hn1; clear Hn1)
      try (have Hn1 := Lib.hid (NestAt.below HA.out hb); clear HA; have HA := Hn1; clear Hn1)
      try (have Hn1 := Lib.hid (NestAt.below HB.out hb); clear HB; have HB := Hn1; clear Hn1)
      try (have Hn1 := Lib.hid (HP.out.below hb); clear HP; have HP := Hn1; clear Hn1)
      try (have Hn1 := Lib.hid (HQ.out.below hb); clear HQ; have HQ := Hn1; clear Hn1)
      have Hn2 := bthen hb0 hb
      clear hb0 hb
      have hb0 := Hn2
      clear Hn2
      have HA := Lib.hid (OwnItems.at ho)
      clear ho
      go_wp2_with fail
      have h := sSameItems_c _ _ _ _ w41 HA.out HX.out
      rw [eqItM_self] at h
      refine h.mono ?_
      rintro e w42 ⟨rfl, hb⟩
      clear h HA
      try (have Hn1 := Lib.hid (NestAt.below HL.out hb); clear HL; have HL := Hn1; clear Hn1)
      try (have Hn1 := Lib.hid (NestAt.below HK.out hb); clear HK; have HK := Hn1; clear Hn1)
      try (have Hn1 := Lib.hid (NestAt.below HX.out hb); clear HX; have HX := Hn1; clear Hn1)
      try (have Hn1 := Lib.hid (NestAt.below HM.out hb); clear HM; have HM := Hn1; clear Hn1)
      try (have Hn1 := Lib.hid (NestAt.below HR.out hb); clear HR; have HR := Hn1; clear Hn1)
      try (have Hn1 := Lib.hid (NestAt.below HY.out hb); clear HY; have HY := Hn1; clear Hn1)
      try (have Hn1 := Lib.hid (NestAt.below HZ.out hb); clear HZ; have HZ := Hn1; clear Hn1)
      try (have Hn1 := Lib.hid (NestAt.below HT.out hb); clear HT; have HT := Hn1; clear Hn1)
      try (have Hn1 := Lib.hid (NestAt.below HA.out hb); clear HA; have HA := Hn1; clear Hn1)
      try (have Hn1 := Lib.hid (NestAt.below HB.out hb); clear HB; have HB := Hn1; clear Hn1)
      try (have Hn1 := Lib.hid (HP.out.below hb); clear HP; have HP := Hn1; clear Hn1)
      try (have Hn1 := Lib.hid (HQ.out.below hb); clear HQ; have HQ := Hn1; clear Hn1)
      have Hn2 := bthen hb0 hb
      clear hb0 hb
      have hb0 := Hn2
      clear Hn2
      go_wp2_with fail
      have h := iValidItems_c _ X w42 HX.out
      rw [HX1.out] at h
      refine h.mono ?_
      rintro e w43 ⟨rfl, hb⟩
      clear h HX1
      try (have Hn1 := Lib.hid (NestAt.below HL.out hb); clear HL; have HL := Hn1; clear Hn1)
      try (have Hn1 := Lib.hid (NestAt.below HK.out hb); clear HK; have HK := Hn1; clear Hn1)
      try (have Hn1 := Lib.hid (NestAt.below HX.out hb); clear HX; have HX := Hn1; clear Hn1)
      try (have Hn1 := Lib.hid (NestAt.below HM.out hb); clear HM; have HM := Hn1; clear Hn1)
      try (have Hn1 := Lib.hid (NestAt.below HR.out hb); clear HR; have HR := Hn1; clear Hn1)
      try (have Hn1 := Lib.hid (NestAt.below HY.out hb); clear HY; have HY := Hn1; clear Hn1)
      try (have Hn1 := Lib.hid (NestAt.below HZ.out hb); clear HZ; have HZ := Hn1; clear Hn1)
      try (have Hn1 := Lib.hid (NestAt.below HT.out hb); clear HT; have HT := Hn1; clear Hn1)
      try (have Hn1 := Lib.hid (NestAt.below HA.out hb); clear HA; have HA := Hn1; clear Hn1)
      try (have Hn1 := Lib.hid (NestAt.below HB.out hb); clear HB; have HB := Hn1; clear Hn1)
      try (have Hn1 := Lib.hid (HP.out.below hb); clear HP; have HP := Hn1; clear Hn1)
      try (have Hn1 := Lib.hid (HQ.out.below hb); clear HQ; have HQ := Hn1; clear Hn1)
      have Hn2 := bthen hb0 hb
      clear hb0 hb
      have hb0 := Hn2
      clear Hn2
      obtain ⟨_, _, _, he, hkn, -, -, hck⟩ := HK.out
      injection he with he1 he2 he3
      subst he1 he2 he3
      have Hck := Lib.hid hck
      have Hkn := Lib.hid hkn
      clear hck hkn
      have hk81 : kn ≤ 81 := by have := Hkn.out; have := Hk81.out; omega
      go_wp2
      go_loopw [28] (fun i wr => ∃ k : Nat, i = .int .i64 k ∧ k ≤ kn ∧ Below w43.heap.size w43 wr) (fun i _ => kn - (intOf i).toNat)
      case atStart => exact ⟨0, rfl, Nat.zero_le _, Below.refl _ _⟩
      case round =>
        obtain ⟨k, rfl, hk, hb⟩ := hrel
        by_cases hlt : k < kn
        · have hkK : k < K.length := by rw [← Hkn.out]; exact hlt
          obtain ⟨bm, om, pa, pn, pc, rfl, hbm, hsz, hp, c0, c1⟩ := item_cells Hck.out k hkK
          have C0 := Lib.hid (fun W (h : Below w43.heap.size w43 W) => cell_then hbm c0 h)
          have C1 := Lib.hid (fun W (h : Below w43.heap.size w43 W) => cell_then hbm c1 h)
          have HP := Lib.hid hp
          have hnm := HXm.out _ (mem_nth hkK)
          have h := fun W x => iPatternNamed_c (.slice xa xn xc) X (nth K k).name W x
          rw [hnm.1, hnm.2] at h
          have HS := Lib.hid h
          clear h hnm hp c0 c1 hkK
          generalize (nth K k).pattern = pt at *
          generalize (nth K k).name = nm at *
          have c0 := C0.out wr hb
          go_wp2_with fail
          refine (HS.out wr (HX.out.below hb)).mono ?_
          rintro e w44 ⟨ta, tn, tc, rfl, ho, hb44⟩
          have hb45 := bthen hb hb44
          have HO := Lib.hid (OwnInts.at ho)
          have c1 := C1.out w44 hb45
          clear ho hb44 c0 HS
          go_wp2_with fail
          have h := f6ints_c _ _ _ _ w44 HO.out (HP.out.below hb45)
          rw [eqIM_self] at h
          refine h.mono ?_
          rintro e w46 ⟨rfl, hb46⟩
          have hb47 := bthen hb45 hb46
          clear h HO c1 C0 C1 HP hb45 hb46 hb
          go_wp2
          exact ⟨⟨k + 1, by go_num, hlt, hb47⟩, by simp [intOf]; omega⟩
        · obtain rfl : k = kn := by omega
          have hbz := bthen hb0 hb
          clear hb
          go_wp2
          go_ret
          exact Gives.bool rfl hbz
    · have hcb : (bad == 0) = false := beq_eq_false_iff_ne.2 hbad
      clear HX HL HK Hmer
      go_wp2
      go_ret
      exact Gives.bool rfl hb0
  · have e2 : TB.toList.isEmpty = false := by
      rw [isEmpty_size]
      exact decide_eq_false (fun h => hE (by apply ByteArray.ext; exact Array.eq_empty_of_size_eq_zero h))
    have e3 : ¬ TB.toList = [] := fun h => by rw [h] at e2; exact absurd e2 (by decide)
    have hrt : readOk (chars TB) = true ∧ readL (chars TB) = T := by
      rcases Hrt.out with h | h
      · exact absurd h hE
      · exact h
    have HR2 := Lib.hid HR.out
    rw [hrt.2] at HR2
    rw [hrt.1]
    clear HR Hrt hE hrt
    dsimp only [List.append] at *
    go_wp2_with fail
    have h := sSameItems_c _ _ _ _ w16 HR2.out HT.out
    rw [eqItM_self] at h
    refine h.mono ?_
    rintro e w17 ⟨rfl, hb⟩
    clear h HR2 HT e1 e2 e3
    try (have Hn1 := Lib.hid (NestAt.below HL.out hb); clear HL; have HL := Hn1; clear Hn1)
    try (have Hn1 := Lib.hid (NestAt.below HK.out hb); clear HK; have HK := Hn1; clear Hn1)
    try (have Hn1 := Lib.hid (NestAt.below HX.out hb); clear HX; have HX := Hn1; clear Hn1)
    try (have Hn1 := Lib.hid (NestAt.below HM.out hb); clear HM; have HM := Hn1; clear Hn1)
    try (have Hn1 := Lib.hid (NestAt.below HR.out hb); clear HR; have HR := Hn1; clear Hn1)
    try (have Hn1 := Lib.hid (NestAt.below HY.out hb); clear HY; have HY := Hn1; clear Hn1)
    try (have Hn1 := Lib.hid (NestAt.below HZ.out hb); clear HZ; have HZ := Hn1; clear Hn1)
    try (have Hn1 := Lib.hid (NestAt.below HT.out hb); clear HT; have HT := Hn1; clear Hn1)
    try (have Hn1 := Lib.hid (NestAt.below HA.out hb); clear HA; have HA := Hn1; clear Hn1)
    try (have Hn1 := Lib.hid (NestAt.below HB.out hb); clear HB; have HB := Hn1; clear Hn1)
    try (have Hn1 := Lib.hid (HP.out.below hb); clear HP; have HP := Hn1; clear Hn1)
    try (have Hn1 := Lib.hid (HQ.out.below hb); clear HQ; have HQ := Hn1; clear Hn1)
    have Hn2 := bthen hb0 hb
    clear hb0 hb
    have hb0 := Hn2
    clear Hn2
    go_wp2_with fail
    have h := sSameItems_c _ _ _ _ w17 HY.out HZ.out
    rw [eqItM_self] at h
    refine h.mono ?_
    rintro e w18 ⟨rfl, hb⟩
    clear h HY HZ
    try (have Hn1 := Lib.hid (NestAt.below HL.out hb); clear HL; have HL := Hn1; clear Hn1)
    try (have Hn1 := Lib.hid (NestAt.below HK.out hb); clear HK; have HK := Hn1; clear Hn1)
    try (have Hn1 := Lib.hid (NestAt.below HX.out hb); clear HX; have HX := Hn1; clear Hn1)
    try (have Hn1 := Lib.hid (NestAt.below HM.out hb); clear HM; have HM := Hn1; clear Hn1)
    try (have Hn1 := Lib.hid (NestAt.below HR.out hb); clear HR; have HR := Hn1; clear Hn1)
    try (have Hn1 := Lib.hid (NestAt.below HY.out hb); clear HY; have HY := Hn1; clear Hn1)
    try (have Hn1 := Lib.hid (NestAt.below HZ.out hb); clear HZ; have HZ := Hn1; clear Hn1)
    try (have Hn1 := Lib.hid (NestAt.below HT.out hb); clear HT; have HT := Hn1; clear Hn1)
    try (have Hn1 := Lib.hid (NestAt.below HA.out hb); clear HA; have HA := Hn1; clear Hn1)
    try (have Hn1 := Lib.hid (NestAt.below HB.out hb); clear HB; have HB := Hn1; clear Hn1)
    try (have Hn1 := Lib.hid (HP.out.below hb); clear HP; have HP := Hn1; clear Hn1)
    try (have Hn1 := Lib.hid (HQ.out.below hb); clear HQ; have HQ := Hn1; clear Hn1)
    have Hn2 := bthen hb0 hb
    clear hb0 hb
    have hb0 := Hn2
    clear Hn2
    go_wp2_with fail
    have h := f6texts_c _ _ NL NL w18 HP.out HQ.out
    rw [eqT_self] at h
    refine h.mono ?_
    rintro e w31 ⟨rfl, hb⟩
    clear h HP HQ
    try (have Hn1 := Lib.hid (NestAt.below HL.out hb); clear HL; have HL := Hn1; clear Hn1)
    try (have Hn1 := Lib.hid (NestAt.below HK.out hb); clear HK; have HK := Hn1; clear Hn1)
    try (have Hn1 := Lib.hid (NestAt.below HX.out hb); clear HX; have HX := Hn1; clear Hn1)
    try (have Hn1 := Lib.hid (NestAt.below HM.out hb); clear HM; have HM := Hn1; clear Hn1)
    try (have Hn1 := Lib.hid (NestAt.below HR.out hb); clear HR; have HR := Hn1; clear Hn1)
    try (have Hn1 := Lib.hid (NestAt.below HY.out hb); clear HY; have HY := Hn1; clear Hn1)
    try (have Hn1 := Lib.hid (NestAt.below HZ.out hb); clear HZ; have HZ := Hn1; clear Hn1)
    try (have Hn1 := Lib.hid (NestAt.below HT.out hb); clear HT; have HT := Hn1; clear Hn1)
    try (have Hn1 := Lib.hid (NestAt.below HA.out hb); clear HA; have HA := Hn1; clear Hn1)
    try (have Hn1 := Lib.hid (NestAt.below HB.out hb); clear HB; have HB := Hn1; clear Hn1)
    try (have Hn1 := Lib.hid (HP.out.below hb); clear HP; have HP := Hn1; clear Hn1)
    try (have Hn1 := Lib.hid (HQ.out.below hb); clear HQ; have HQ := Hn1; clear Hn1)
    have Hn2 := bthen hb0 hb
    clear hb0 hb
    have hb0 := Hn2
    clear Hn2
    go_wp2_with fail
    refine (iSameItems_c _ _ A B _ HA.out HB.out).mono ?_
    rintro e w32 ⟨rfl, hb⟩
    try (have Hn1 := Lib.hid (NestAt.below HL.out hb); clear HL; have HL := Hn1; clear Hn1)
    try (have Hn1 := Lib.hid (NestAt.below HK.out hb); clear HK; have HK := Hn1; clear Hn1)
    try (have Hn1 := Lib.hid (NestAt.below HX.out hb); clear HX; have HX := Hn1; clear Hn1)
    try (have Hn1 := Lib.hid (NestAt.below HM.out hb); clear HM; have HM := Hn1; clear Hn1)
    try (have Hn1 := Lib.hid (NestAt.below HR.out hb); clear HR; have HR := Hn1; clear Hn1)
    try (have Hn1 := Lib.hid (NestAt.below HY.out hb); clear HY; have HY := Hn1; clear Hn1)
    try (have Hn1 := Lib.hid (NestAt.below HZ.out hb); clear HZ; have HZ := Hn1; clear Hn1)
    try (have Hn1 := Lib.hid (NestAt.below HT.out hb); clear HT; have HT := Hn1; clear Hn1)
    try (have Hn1 := Lib.hid (NestAt.below HA.out hb); clear HA; have HA := Hn1; clear Hn1)
    try (have Hn1 := Lib.hid (NestAt.below HB.out hb); clear HB; have HB := Hn1; clear Hn1)
    try (have Hn1 := Lib.hid (HP.out.below hb); clear HP; have HP := Hn1; clear Hn1)
    try (have Hn1 := Lib.hid (HQ.out.below hb); clear HQ; have HQ := Hn1; clear Hn1)
    have Hn2 := bthen hb0 hb
    clear hb0 hb
    have hb0 := Hn2
    clear Hn2
    go_wp2_with fail
    refine (sSameItems_c _ _ A B _ HA.out HB.out).mono ?_
    rintro e w33 ⟨rfl, hb⟩
    clear HA HB
    generalize same2 eqItemB A B = sab at *
    have hsab : (sab == sab) = true := beq_self_eq_true _
    try (have Hn1 := Lib.hid (NestAt.below HL.out hb); clear HL; have HL := Hn1; clear Hn1)
    try (have Hn1 := Lib.hid (NestAt.below HK.out hb); clear HK; have HK := Hn1; clear Hn1)
    try (have Hn1 := Lib.hid (NestAt.below HX.out hb); clear HX; have HX := Hn1; clear Hn1)
    try (have Hn1 := Lib.hid (NestAt.below HM.out hb); clear HM; have HM := Hn1; clear Hn1)
    try (have Hn1 := Lib.hid (NestAt.below HR.out hb); clear HR; have HR := Hn1; clear Hn1)
    try (have Hn1 := Lib.hid (NestAt.below HY.out hb); clear HY; have HY := Hn1; clear Hn1)
    try (have Hn1 := Lib.hid (NestAt.below HZ.out hb); clear HZ; have HZ := Hn1; clear Hn1)
    try (have Hn1 := Lib.hid (NestAt.below HT.out hb); clear HT; have HT := Hn1; clear Hn1)
    try (have Hn1 := Lib.hid (NestAt.below HA.out hb); clear HA; have HA := Hn1; clear Hn1)
    try (have Hn1 := Lib.hid (NestAt.below HB.out hb); clear HB; have HB := Hn1; clear Hn1)
    try (have Hn1 := Lib.hid (HP.out.below hb); clear HP; have HP := Hn1; clear Hn1)
    try (have Hn1 := Lib.hid (HQ.out.below hb); clear HQ; have HQ := Hn1; clear Hn1)
    have Hn2 := bthen hb0 hb
    clear hb0 hb
    have hb0 := Hn2
    clear Hn2
    go_wp2_with fail
    refine (iStandardItems_c w33).mono ?_
    rintro e w34 ⟨sa, sn, sc, rfl, ho, hb⟩
    try (have Hn1 := Lib.hid (NestAt.below HL.out hb); clear HL; have HL := Hn1; clear Hn1)
    try (have Hn1 := Lib.hid (NestAt.below HK.out hb); clear HK; have HK := Hn1; clear Hn1)
    try (have Hn1 := Lib.hid (NestAt.below HX.out hb); clear HX; have HX := Hn1; clear Hn1)
    try (have Hn1 := Lib.hid (NestAt.below HM.out hb); clear HM; have HM := Hn1; clear Hn1)
    try (have Hn1 := Lib.hid (NestAt.below HR.out hb); clear HR; have HR := Hn1; clear Hn1)
    try (have Hn1 := Lib.hid (NestAt.below HY.out hb); clear HY; have HY := Hn1; clear Hn1)
    try (have Hn1 := Lib.hid (NestAt.below HZ.out hb); clear HZ; have HZ := Hn1; clear Hn1)
    try (have Hn1 := Lib.hid (NestAt.below HT.out hb); clear HT; have HT := Hn1; clear Hn1)
    try (have Hn1 := Lib.hid (NestAt.below HA.out hb); clear HA; have HA := Hn1; clear Hn1)
    try (have Hn1 := Lib.hid (NestAt.below HB.out hb); clear HB; have HB := Hn1; clear Hn1)
    try (have Hn1 := Lib.hid (HP.out.below hb); clear HP; have HP := Hn1; clear Hn1)
    try (have Hn1 := Lib.hid (HQ.out.below hb); clear HQ; have HQ := Hn1; clear Hn1)
    have Hn2 := bthen hb0 hb
    clear hb0 hb
    have hb0 := Hn2
    clear Hn2
    have HA := Lib.hid (OwnItems.at ho)
    clear ho
    go_wp2_with fail
    refine (sStandardItems_c w34).mono ?_
    rintro e w35 ⟨sa2, sn2, sc2, rfl, ho, hb⟩
    try (have Hn1 := Lib.hid (NestAt.below HL.out hb); clear HL; have HL := Hn1; clear Hn1)
    try (have Hn1 := Lib.hid (NestAt.below HK.out hb); clear HK; have HK := Hn1; clear Hn1)
    try (have Hn1 := Lib.hid (NestAt.below HX.out hb); clear HX; have HX := Hn1; clear Hn1)
    try (have Hn1 := Lib.hid (NestAt.below HM.out hb); clear HM; have HM := Hn1; clear Hn1)
    try (have Hn1 := Lib.hid (NestAt.below HR.out hb); clear HR; have HR := Hn1; clear Hn1)
    try (have Hn1 := Lib.hid (NestAt.below HY.out hb); clear HY; have HY := Hn1; clear Hn1)
    try (have Hn1 := Lib.hid (NestAt.below HZ.out hb); clear HZ; have HZ := Hn1; clear Hn1)
    try (have Hn1 := Lib.hid (NestAt.below HT.out hb); clear HT; have HT := Hn1; clear Hn1)
    try (have Hn1 := Lib.hid (NestAt.below HA.out hb); clear HA; have HA := Hn1; clear Hn1)
    try (have Hn1 := Lib.hid (NestAt.below HB.out hb); clear HB; have HB := Hn1; clear Hn1)
    try (have Hn1 := Lib.hid (HP.out.below hb); clear HP; have HP := Hn1; clear Hn1)
    try (have Hn1 := Lib.hid (HQ.out.below hb); clear HQ; have HQ := Hn1; clear Hn1)
    have Hn2 := bthen hb0 hb
    clear hb0 hb
    have hb0 := Hn2
    clear Hn2
    have HB := Lib.hid (OwnItems.at ho)
    clear ho
    go_wp2_with fail
    have h := sSameItems_c _ _ _ _ w35 HA.out HB.out
    rw [eqItM_self] at h
    refine h.mono ?_
    rintro e w36 ⟨rfl, hb⟩
    clear h HA HB
    try (have Hn1 := Lib.hid (NestAt.below HL.out hb); clear HL; have HL := Hn1; clear Hn1)
    try (have Hn1 := Lib.hid (NestAt.below HK.out hb); clear HK; have HK := Hn1; clear Hn1)
    try (have Hn1 := Lib.hid (NestAt.below HX.out hb); clear HX; have HX := Hn1; clear Hn1)
    try (have Hn1 := Lib.hid (NestAt.below HM.out hb); clear HM; have HM := Hn1; clear Hn1)
    try (have Hn1 := Lib.hid (NestAt.below HR.out hb); clear HR; have HR := Hn1; clear Hn1)
    try (have Hn1 := Lib.hid (NestAt.below HY.out hb); clear HY; have HY := Hn1; clear Hn1)
    try (have Hn1 := Lib.hid (NestAt.below HZ.out hb); clear HZ; have HZ := Hn1; clear Hn1)
    try (have Hn1 := Lib.hid (NestAt.below HT.out hb); clear HT; have HT := Hn1; clear Hn1)
    try (have Hn1 := Lib.hid (NestAt.below HA.out hb); clear HA; have HA := Hn1; clear Hn1)
    try (have Hn1 := Lib.hid (NestAt.below HB.out hb); clear HB; have HB := Hn1; clear Hn1)
    try (have Hn1 := Lib.hid (HP.out.below hb); clear HP; have HP := Hn1; clear Hn1)
    try (have Hn1 := Lib.hid (HQ.out.below hb); clear HQ; have HQ := Hn1; clear Hn1)
    have Hn2 := bthen hb0 hb
    clear hb0 hb
    have hb0 := Hn2
    clear Hn2
    generalize hW : w36 = W0 at *
    clear hW
    by_cases hbad : bad = 0
    · subst hbad
      obtain ⟨⟨hsw1, hsw2⟩, hX1, hXm⟩ := Hmer.out rfl
      have HX1 := Lib.hid hX1
      have HXm := Lib.hid (fun x hx => named_law hX1 (hXm x hx))
      have h := iMergeItems_c (.slice ka kn kc) (.slice la ln lc) K L W0 HK.out HL.out
      rw [hsw1, hsw2] at h
      have HS := Lib.hid h
      clear h hsw1 hsw2 hX1 hXm Hmer
      go_wp2_with fail
      refine HS.out.mono ?_
      rintro e w41 ⟨ga, gn, gc, rfl, ho, hb⟩
      clear HS
      try (have Hn1 := Lib.hid (NestAt.below HL.out hb); clear HL; have HL := Hn1; clear Hn1)
      try (have Hn1 := Lib.hid (NestAt.below HK.out hb); clear HK; have HK := Hn1; clear Hn1)
      try (have Hn1 := Lib.hid (NestAt.below HX.out hb); clear HX; have HX := Hn1; clear Hn1)
      try (have Hn1 := Lib.hid (NestAt.below HM.out hb); clear HM; have HM := Hn1; clear Hn1)
      try (have Hn1 := Lib.hid (NestAt.below HR.out hb); clear HR; have HR := Hn1; clear Hn1)
      try (have Hn1 := Lib.hid (NestAt.below HY.out hb); clear HY; have HY := Hn1; clear Hn1)
      try (have Hn1 := Lib.hid (NestAt.below HZ.out hb); clear HZ; have HZ := Hn1; clear Hn1)
      try (have Hn1 := Lib.hid (NestAt.below HT.out hb); clear HT; have HT := Hn1; clear Hn1)
      try (have Hn1 := Lib.hid (NestAt.below HA.out hb); clear HA; have HA := Hn1; clear Hn1)
      try (have Hn1 := Lib.hid (NestAt.below HB.out hb); clear HB; have HB := Hn1; clear Hn1)
      try (have Hn1 := Lib.hid (HP.out.below hb); clear HP; have HP := Hn1; clear Hn1)
      try (have Hn1 := Lib.hid (HQ.out.below hb); clear HQ; have HQ := Hn1; clear Hn1)
      have Hn2 := bthen hb0 hb
      clear hb0 hb
      have hb0 := Hn2
      clear Hn2
      have HA := Lib.hid (OwnItems.at ho)
      clear ho
      go_wp2_with fail
      have h := sSameItems_c _ _ _ _ w41 HA.out HX.out
      rw [eqItM_self] at h
      refine h.mono ?_
      rintro e w42 ⟨rfl, hb⟩
      clear h HA
      try (have Hn1 := Lib.hid (NestAt.below HL.out hb); clear HL; have HL := Hn1; clear Hn1)
      try (have Hn1 := Lib.hid (NestAt.below HK.out hb); clear HK; have HK := Hn1; clear Hn1)
      try (have Hn1 := Lib.hid (NestAt.below HX.out hb); clear HX; have HX := Hn1; clear Hn1)
      try (have Hn1 := Lib.hid (NestAt.below HM.out hb); clear HM; have HM := Hn1; clear Hn1)
      try (have Hn1 := Lib.hid (NestAt.below HR.out hb); clear HR; have HR := Hn1; clear Hn1)
      try (have Hn1 := Lib.hid (NestAt.below HY.out hb); clear HY; have HY := Hn1; clear Hn1)
      try (have Hn1 := Lib.hid (NestAt.below HZ.out hb); clear HZ; have HZ := Hn1; clear Hn1)
      try (have Hn1 := Lib.hid (NestAt.below HT.out hb); clear HT; have HT := Hn1; clear Hn1)
      try (have Hn1 := Lib.hid (NestAt.below HA.out hb); clear HA; have HA := Hn1; clear Hn1)
      try (have Hn1 := Lib.hid (NestAt.below HB.out hb); clear HB; have HB := Hn1; clear Hn1)
      try (have Hn1 := Lib.hid (HP.out.below hb); clear HP; have HP := Hn1; clear Hn1)
      try (have Hn1 := Lib.hid (HQ.out.below hb); clear HQ; have HQ := Hn1; clear Hn1)
      have Hn2 := bthen hb0 hb
      clear hb0 hb
      have hb0 := Hn2
      clear Hn2
      go_wp2_with fail
      have h := iValidItems_c _ X w42 HX.out
      rw [HX1.out] at h
      refine h.mono ?_
      rintro e w43 ⟨rfl, hb⟩
      clear h HX1
      try (have Hn1 := Lib.hid (NestAt.below HL.out hb); clear HL; have HL := Hn1; clear Hn1)
      try (have Hn1 := Lib.hid (NestAt.below HK.out hb); clear HK; have HK := Hn1; clear Hn1)
      try (have Hn1 := Lib.hid (NestAt.below HX.out hb); clear HX; have HX := Hn1; clear Hn1)
      try (have Hn1 := Lib.hid (NestAt.below HM.out hb); clear HM; have HM := Hn1; clear Hn1)
      try (have Hn1 := Lib.hid (NestAt.below HR.out hb); clear HR; have HR := Hn1; clear Hn1)
      try (have Hn1 := Lib.hid (NestAt.below HY.out hb); clear HY; have HY := Hn1; clear Hn1)
      try (have Hn1 := Lib.hid (NestAt.below HZ.out hb); clear HZ; have HZ := Hn1; clear Hn1)
      try (have Hn1 := Lib.hid (NestAt.below HT.out hb); clear HT; have HT := Hn1; clear Hn1)
      try (have Hn1 := Lib.hid (NestAt.below HA.out hb); clear HA; have HA := Hn1; clear Hn1)
      try (have Hn1 := Lib.hid (NestAt.below HB.out hb); clear HB; have HB := Hn1; clear Hn1)
      try (have Hn1 := Lib.hid (HP.out.below hb); clear HP; have HP := Hn1; clear Hn1)
      try (have Hn1 := Lib.hid (HQ.out.below hb); clear HQ; have HQ := Hn1; clear Hn1)
      have Hn2 := bthen hb0 hb
      clear hb0 hb
      have hb0 := Hn2
      clear Hn2
      obtain ⟨_, _, _, he, hkn, -, -, hck⟩ := HK.out
      injection he with he1 he2 he3
      subst he1 he2 he3
      have Hck := Lib.hid hck
      have Hkn := Lib.hid hkn
      clear hck hkn
      have hk81 : kn ≤ 81 := by have := Hkn.out; have := Hk81.out; omega
      go_wp2
      go_loopw [28] (fun i wr => ∃ k : Nat, i = .int .i64 k ∧ k ≤ kn ∧ Below w43.heap.size w43 wr) (fun i _ => kn - (intOf i).toNat)
      case atStart => exact ⟨0, rfl, Nat.zero_le _, Below.refl _ _⟩
      case round =>
        obtain ⟨k, rfl, hk, hb⟩ := hrel
        by_cases hlt : k < kn
        · have hkK : k < K.length := by rw [← Hkn.out]; exact hlt
          obtain ⟨bm, om, pa, pn, pc, rfl, hbm, hsz, hp, c0, c1⟩ := item_cells Hck.out k hkK
          have C0 := Lib.hid (fun W (h : Below w43.heap.size w43 W) => cell_then hbm c0 h)
          have C1 := Lib.hid (fun W (h : Below w43.heap.size w43 W) => cell_then hbm c1 h)
          have HP := Lib.hid hp
          have hnm := HXm.out _ (mem_nth hkK)
          have h := fun W x => iPatternNamed_c (.slice xa xn xc) X (nth K k).name W x
          rw [hnm.1, hnm.2] at h
          have HS := Lib.hid h
          clear h hnm hp c0 c1 hkK
          generalize (nth K k).pattern = pt at *
          generalize (nth K k).name = nm at *
          have c0 := C0.out wr hb
          go_wp2_with fail
          refine (HS.out wr (HX.out.below hb)).mono ?_
          rintro e w44 ⟨ta, tn, tc, rfl, ho, hb44⟩
          have hb45 := bthen hb hb44
          have HO := Lib.hid (OwnInts.at ho)
          have c1 := C1.out w44 hb45
          clear ho hb44 c0 HS
          go_wp2_with fail
          have h := f6ints_c _ _ _ _ w44 HO.out (HP.out.below hb45)
          rw [eqIM_self] at h
          refine h.mono ?_
          rintro e w46 ⟨rfl, hb46⟩
          have hb47 := bthen hb45 hb46
          clear h HO c1 C0 C1 HP hb45 hb46 hb
          go_wp2
          exact ⟨⟨k + 1, by go_num, hlt, hb47⟩, by simp [intOf]; omega⟩
        · obtain rfl : k = kn := by omega
          have hbz := bthen hb0 hb
          clear hb
          go_wp2
          go_ret
          exact Gives.bool rfl hbz
    · have hcb : (bad == 0) = false := beq_eq_false_iff_ne.2 hbad
      clear HX HL HK Hmer
      go_wp2
      go_ret
      exact Gives.bool rfl hb0
set_option maxRecDepth 100000 in
set_option linter.unusedVariables false in
theorem fnMergedItems_lifted (os : Os) (started : os.Started) (H : Type) (enc : TypeId × Value → H) :
    ReturnsInHanded {} Tryz.checked os 4 .any (Rows.fnMergedItemsSpec.pre6 enc Tryz.prog Tryz.f4 Rows.fnMergedItemsRow.domain false) (Rows.fnMergedItemsSpec.post enc Tryz.prog Tryz.f4 false true false false) := by
  refine returnsInHanded_of_change (C := Tryz.checked) own started (by kernel_rfl) Tryz.func4
    (ChangeSpec.witness6 (enc := enc) (C := Tryz.checked) false ⟨#[], #[.slice none 0 0], []⟩ 8 (by kernel_rfl) (by kernel_rfl) (by kernel_rfl) (by kernel_rfl)) ?_
  intro W base args ds gs before hval0 hW hcnd _
  have hval : ∀ (j : Nat) t v, Tryz.f4.params[j]? = some t → args[j]? = some v → Value.okWide Tryz.prog W .any base t v := hval0
  have hW' := hW
  obtain ⟨p, q, hA0, hV, rfl, hfz, hnd⟩ := hW
  have hA : DataW.TrodAll enc Tryz.prog W 0 (fun _ => true) true Tryz.f4.params.toList args.toList ds p := hA0
  rw [Tryz.params4] at hA hval
  obtain ⟨v0, vs0, d0, ds0, p0, q0, hargs, rfl, rfl, h0, r0⟩ := trodAll_cons hA
  obtain ⟨rfl, rfl, rfl⟩ := trodAll_nil r0
  obtain rfl : args = #[v0] := by cases args; simp_all
  obtain ⟨rfl, rfl⟩ := trodVars_none hV
  have k0 := h0
  have lt0 : ∀ x ∈ p0, x.block < W.heap.size := by obtain ⟨m, hm⟩ := k0; exact DataW.trod_lt m _ _ _ hm
  obtain ⟨l0, c0, w0⟩ := bytes_of_trod (v := v0) Tryz.underlying22 Tryz.underlying5 (by kernel_rfl) (hval 0 22 v0 rfl rfl) h0
  clear hA0 hval0
  refine (fnMergedItems_walk v0 l0 W c0 w0).mono fun e W' ⟨he, bel⟩ => ?_
  subst he
  exact ⟨_, rfl, _, _, _, [], _, [], hW', trodAll_mk1 (shut_bool Tryz.underlying4 _), (trodAll_cons_mk (Below.trod laidOut (by kernel_rfl) (of_decide_eq_true (by kernel_rfl)) k0 bel lt0) trodAll_mk0), rfl, bel.frame _, fun h => by cases h⟩
theorem fnMergedItems_over : Rows.fnMergedItemsRow.holds Tryz.pinned (OpenSpec.ofChange Rows.fnMergedItemsSpec) :=
  OpenClaim.holds_of_wide 4 Tryz.f4 rfl rfl rfl rfl rfl rfl rfl ⟨rfl, rfl, rfl, rfl, rfl⟩ rfl rfl rfl rfl rfl (by kernel_rfl) Tryz.func4 (by kernel_rfl)
    (of_decide_eq_true (by kernel_rfl)) (by unfold Func.isWrapper; first | (rw [if_pos (by decide +kernel)]; kernel_rfl) | (rw [if_neg (by decide +kernel)]; exact ⟨rfl, rfl⟩))
    (fun os started H enc _ => fnMergedItems_lifted os started H enc)
theorem fnMergedItems_holds : Rows.FnMergedItemsSaid := fnMergedItems_over
#print axioms fnMergedItems_holds
end Go.Proofs.YtcgbdhbdlnimhaaGreat
