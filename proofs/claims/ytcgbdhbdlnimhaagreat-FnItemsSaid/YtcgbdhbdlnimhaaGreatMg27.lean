import Derived.Test.YtcgbdhbdlnimhaaGreatMg13
import Derived.Test.YtcgbdhbdlnimhaaGreatMg24
/- AlikeP: patterns that are alike, by the package spec. -/
namespace Go.Proofs.YtcgbdhbdlnimhaaGreat
open Go.ChangeShapes Go.WideShapes Go.ChangeAt Go.RowKit

theorem eqI_self (l : List Int) : same2 eqI l l = true := (same2_iff eqI eqI_iff l l).2 rfl
theorem l03Alike_c (v u : Value) (l m : List Int) (w : World) (hv : IntsAt w v l) (hu : IntsAt w u m) (hl : okPat l = true) (hm : okPat m = true) (he : canL l = canL m) : Calls Tryz.prog 68 #[v, u] w (Gives (.bool true) w) := by
  have h1 := ok_in hl
  have h2 := ok_in hm
  have HU := Lib.hid hu
  have HQ1 := Lib.hid (l03Canon_c v l w hv h1.1 h1.2.1)
  have HQ2 := Lib.hid (fun W x => l03Canon_c u m W x h2.1 h2.2.1)
  rw [he] at HQ1
  clear hv hu hl hm he h1 h2
  go_enter Tryz.func68, Tryz.ntmps68
  go_wp2_with fail
  refine HQ1.out.mono ?_
  rintro e w1 ⟨a, n, c, rfl, ho1, hb1⟩
  have HO1 := Lib.hid (OwnInts.at ho1)
  clear ho1 HQ1
  go_wp2_with fail
  refine (HQ2.out _ (HU.out.below hb1)).mono ?_
  rintro e w2 ⟨a2, n2, c2, rfl, ho2, hb2⟩
  have HO2 := Lib.hid (OwnInts.at ho2)
  have hb := bthen hb1 hb2
  replace HO1 := Lib.hid (HO1.out.below hb2)
  clear ho2 HQ2 hb1 hb2 HU
  go_wp2_with fail
  have h := sSame_c _ _ _ _ w2 HO1.out HO2.out
  rw [eqI_self] at h
  refine h.mono ?_
  rintro e w3 ⟨rfl, hb3⟩
  clear h HO1 HO2
  go_wp2
  go_ret
  exact Gives.bool rfl (bthen hb hb3)
theorem alikePatterns_c (v u : Value) (l m : List Int) (w : World) (hv : IntsAt w v l) (hu : IntsAt w u m) (hl : okPat l = true) (hm : okPat m = true) (he : canL l = canL m) : Calls Tryz.prog 22 #[v, u] w (Gives (.bool true) w) := by
  have HV := Lib.hid hv
  have HU := Lib.hid hu
  have HQ1 := Lib.hid (l02Ok_c v l w hv)
  have HQ2 := Lib.hid (fun W x => l02Ok_c u m W x)
  rw [hl] at HQ1
  rw [hm] at HQ2
  have HQ3 := Lib.hid (fun W x y => l03Alike_c v u l m W x y hl hm he)
  clear hv hu hl hm he
  go_enter Tryz.func22, Tryz.ntmps22
  go_wp2_with fail
  refine HQ1.out.mono ?_
  rintro e w1 ⟨rfl, hb1⟩
  clear HQ1
  go_wp2_with fail
  refine (HQ2.out _ (HU.out.below hb1)).mono ?_
  rintro e w2 ⟨rfl, hb2⟩
  have hb := bthen hb1 hb2
  clear HQ2 hb1 hb2
  go_wp2_with fail
  refine (HQ3.out _ (HV.out.below hb) (HU.out.below hb)).mono ?_
  rintro e w3 ⟨rfl, hb3⟩
  clear HQ3
  go_wp2
  go_ret
  exact Gives.bool rfl (bthen hb hb3)
end Go.Proofs.YtcgbdhbdlnimhaaGreat
