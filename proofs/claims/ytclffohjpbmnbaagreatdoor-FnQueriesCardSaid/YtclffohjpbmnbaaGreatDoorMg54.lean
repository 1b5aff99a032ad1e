import Derived.Test.YtclffohjpbmnbaaGreatDoorMg39
import Derived.Test.YtclffohjpbmnbaaGreatDoorMg51
import Derived.Test.YtclffohjpbmnbaaGreatDoorMg47
import Derived.Test.YtclffohjpbmnbaaGreatDoorMg52
import Derived.Test.YtclffohjpbmnbaaGreatDoorMg31
import Derived.Test.YtclffohjpbmnbaaGreatDoorMg6
import Derived.Test.YtclffohjpbmnbaaGreatDoorMg16
import Derived.Test.YtclffohjpbmnbaaGreatDoorMg41
import Derived.Test.YtclffohjpbmnbaaGreatDoorMg53
import Derived.Deep.RegionHeld3
/- LawQy: the walk of the law FnQueries, and its card. -/
namespace Go.Proofs.YtclffohjpbmnbaaGreatDoor
open Go.ChangeShapes Go.WideShapes Go.ChangeAt Go.RowKit

set_option maxRecDepth 100000 in
set_option maxHeartbeats 16000000 in
theorem fnQueries_walk (v : Value) (cs : List Int) (w : World) (hv : BytesAt w v cs) (hin : ∀ x ∈ cs, 0 ≤ x ∧ x ≤ 255) (ht : TabW w) : Calls Tryz.prog 3 #[v] w (Gives (.bool true) w) := by
  have HTab := Lib.hid ht
  clear ht
  have HV := Lib.hid hv
  have Hin := Lib.hid hin
  have HFB := Lib.hid (f6big_c v cs w hv)
  clear hv hin
  by_cases hl : 4096 < cs.length
  · rw [decide_eq_true hl] at HFB
    clear hl
    go_enter Tryz.func3, Tryz.ntmps3
    go_wp2_with fail
    refine HFB.out.mono ?_
    rintro e w1 ⟨rfl, hb1⟩
    go_wp2
    go_ret
    exact Gives.bool rfl hb1
  rw [decide_eq_false hl] at HFB
  have Hcl : Hid (cs.length ≤ 4096) := Lib.hid (by omega)
  clear hl
  go_enter Tryz.func3, Tryz.ntmps3
  go_wp2_with fail
  refine HFB.out.mono ?_
  rintro e w1 ⟨rfl, hb0⟩
  clear HFB
  have HT9 := Lib.hid (HTab.out.below hb0)
  clear HTab
  have HTab := HT9
  clear HT9
  go_wp2_with fail
  refine (drawMatchesQuery_c v cs w1 (HV.out.below hb0) Hin.out Hcl.out).mono ?_
  rintro e w2 ⟨q, y, z, p, u, rfl, hq, hu, hb⟩
  obtain ⟨ya, yn, yc, rfl, -⟩ := hq.need
  obtain ⟨za, zn, zc, rfl, -⟩ := hq.avoid
  have HU := Lib.hid hu
  obtain ⟨pa, pn, pc, rfl, -⟩ := hu
  try (have Hn1 := Lib.hid (HTab.out.below hb); clear HTab; have HTab := Hn1; clear Hn1)
  have Hn2 := bthen hb0 hb
  clear hb0 hb
  have hb0 := Hn2
  clear Hn2
  have HQ1 := Lib.hid hq
  clear hq
  go_wp2_with fail
  have HB1 := Lib.hid (BoxIs.new w2 [.int .i64 q.period, .int .i64 q.props, .int .i64 q.high, (.slice ya yn yc), (.slice za zn zc), .bool q.canonical] 26)
  have hb : Below w2.heap.size w2 (w2.alloc (.cells #[.int .i64 q.period, .int .i64 q.props, .int .i64 q.high, (.slice ya yn yc), (.slice za zn zc), .bool q.canonical] 26)) := by go_grown
  generalize w2.alloc (.cells #[.int .i64 q.period, .int .i64 q.props, .int .i64 q.high, (.slice ya yn yc), (.slice za zn zc), .bool q.canonical] 26) = w3 at *
  try (have Hn1 := Lib.hid (QAt.below HQ1.out hb); clear HQ1; have HQ1 := Hn1; clear Hn1)
  try (have Hn1 := Lib.hid (HB2.out.below hb); clear HB2; have HB2 := Hn1; clear Hn1)
  try (have Hn1 := Lib.hid (QAt.below HQ2.out hb); clear HQ2; have HQ2 := Hn1; clear Hn1)
  try (have Hn1 := Lib.hid (HB3.out.below hb); clear HB3; have HB3 := Hn1; clear Hn1)
  try (have Hn1 := Lib.hid (QAt.below HQ3.out hb); clear HQ3; have HQ3 := Hn1; clear Hn1)
  try (have Hn1 := Lib.hid (HB4.out.below hb); clear HB4; have HB4 := Hn1; clear Hn1)
  try (have Hn1 := Lib.hid (QAt.below HQ4.out hb); clear HQ4; have HQ4 := Hn1; clear Hn1)
  try (have Hn1 := Lib.hid (HB5.out.below hb); clear HB5; have HB5 := Hn1; clear Hn1)
  try (have Hn1 := Lib.hid (QAt.below HQ5.out hb); clear HQ5; have HQ5 := Hn1; clear Hn1)
  try (have Hn1 := Lib.hid (HB6.out.below hb); clear HB6; have HB6 := Hn1; clear Hn1)
  try (have Hn1 := Lib.hid (QAt.below HQ6.out hb); clear HQ6; have HQ6 := Hn1; clear Hn1)
  try (have Hn1 := Lib.hid (HB7.out.below hb); clear HB7; have HB7 := Hn1; clear Hn1)
  try (have Hn1 := Lib.hid (QAt.below HQ7.out hb); clear HQ7; have HQ7 := Hn1; clear Hn1)
  try (have Hn1 := Lib.hid (HB8.out.below hb); clear HB8; have HB8 := Hn1; clear Hn1)
  try (have Hn1 := Lib.hid (QAt.below HQ8.out hb); clear HQ8; have HQ8 := Hn1; clear Hn1)
  try (have Hn1 := Lib.hid (HU.out.below hb); clear HU; have HU := Hn1; clear Hn1)
  try (have Hn1 := Lib.hid (HX.out.below hb); clear HX; have HX := Hn1; clear Hn1)
  try (have Hn1 := Lib.hid (HM.out.below hb); clear HM; have HM := Hn1; clear Hn1)
  try (have Hn1 := Lib.hid (HTab.out.below hb); clear HTab; have HTab := Hn1; clear Hn1)
  have Hn2 := bthen hb0 hb
  clear hb0 hb
  have hb0 := Hn2
  clear Hn2
  generalize w2.heap.size = B1 at *
  refine (iMatchesQuery_c q _ _ _ u w3 HQ1.out HU.out).mono ?_
  rintro e w4 ⟨rfl, hb⟩
  try (have Hn1 := Lib.hid (HB1.out.below hb); clear HB1; have HB1 := Hn1; clear Hn1)
  try (have Hn1 := Lib.hid (QAt.below HQ1.out hb); clear HQ1; have HQ1 := Hn1; clear Hn1)
  try (have Hn1 := Lib.hid (HB2.out.below hb); clear HB2; have HB2 := Hn1; clear Hn1)
  try (have Hn1 := Lib.hid (QAt.below HQ2.out hb); clear HQ2; have HQ2 := Hn1; clear Hn1)
  try (have Hn1 := Lib.hid (HB3.out.below hb); clear HB3; have HB3 := Hn1; clear Hn1)
  try (have Hn1 := Lib.hid (QAt.below HQ3.out hb); clear HQ3; have HQ3 := Hn1; clear Hn1)
  try (have Hn1 := Lib.hid (HB4.out.below hb); clear HB4; have HB4 := Hn1; clear Hn1)
  try (have Hn1 := Lib.hid (QAt.below HQ4.out hb); clear HQ4; have HQ4 := Hn1; clear Hn1)
  try (have Hn1 := Lib.hid (HB5.out.below hb); clear HB5; have HB5 := Hn1; clear Hn1)
  try (have Hn1 := Lib.hid (QAt.below HQ5.out hb); clear HQ5; have HQ5 := Hn1; clear Hn1)
  try (have Hn1 := Lib.hid (HB6.out.below hb); clear HB6; have HB6 := Hn1; clear Hn1)
  try (have Hn1 := Lib.hid (QAt.below HQ6.out hb); clear HQ6; have HQ6 := Hn1; clear Hn1)
  try (have Hn1 := Lib.hid (HB7.out.below hb); clear HB7; have HB7 := Hn1; clear Hn1)
  try (have Hn1 := Lib.hid (QAt.below HQ7.out hb); clear HQ7; have HQ7 := Hn1; clear Hn1)
  try (have Hn1 := Lib.hid (HB8.out.below hb); clear HB8; have HB8 := Hn1; clear Hn1)
  try (have Hn1 := Lib.hid (QAt.below HQ8.out hb); clear HQ8; have HQ8 := Hn1; clear Hn1)
  try (have Hn1 := Lib.hid (HU.out.below hb); clear HU; have HU := Hn1; clear Hn1)
  try (have Hn1 := Lib.hid (HX.out.below hb); clear HX; have HX := Hn1; clear Hn1)
  try (have Hn1 := Lib.hid (HM.out.below hb); clear HM; have HM := Hn1; clear Hn1)
  try (have Hn1 := Lib.hid (HTab.out.below hb); clear HTab; have HTab := Hn1; clear Hn1)
  have Hn2 := bthen hb0 hb
  clear hb0 hb
  have hb0 := Hn2
  clear Hn2
  generalize hmb : mqB q u = mb at *
  have Hmq := Lib.hid hmb
  clear hmb
  go_wp2_with fail
  refine (drawEasiestFound_c v cs w4 (HV.out.below hb0) Hin.out Hcl.out).mono ?_
  rintro e w5 ⟨t6, y6, z6, rfl, hq, hb⟩
  obtain ⟨y6a, y6n, y6c, rfl, -⟩ := hq.need
  obtain ⟨z6a, z6n, z6c, rfl, -⟩ := hq.avoid
  try (have Hn1 := Lib.hid (HB1.out.below hb); clear HB1; have HB1 := Hn1; clear Hn1)
  try (have Hn1 := Lib.hid (QAt.below HQ1.out hb); clear HQ1; have HQ1 := Hn1; clear Hn1)
  try (have Hn1 := Lib.hid (HB2.out.below hb); clear HB2; have HB2 := Hn1; clear Hn1)
  try (have Hn1 := Lib.hid (QAt.below HQ2.out hb); clear HQ2; have HQ2 := Hn1; clear Hn1)
  try (have Hn1 := Lib.hid (HB3.out.below hb); clear HB3; have HB3 := Hn1; clear Hn1)
  try (have Hn1 := Lib.hid (QAt.below HQ3.out hb); clear HQ3; have HQ3 := Hn1; clear Hn1)
  try (have Hn1 := Lib.hid (HB4.out.below hb); clear HB4; have HB4 := Hn1; clear Hn1)
  try (have Hn1 := Lib.hid (QAt.below HQ4.out hb); clear HQ4; have HQ4 := Hn1; clear Hn1)
  try (have Hn1 := Lib.hid (HB5.out.below hb); clear HB5; have HB5 := Hn1; clear Hn1)
  try (have Hn1 := Lib.hid (QAt.below HQ5.out hb); clear HQ5; have HQ5 := Hn1; clear Hn1)
  try (have Hn1 := Lib.hid (HB6.out.below hb); clear HB6; have HB6 := Hn1; clear Hn1)
  try (have Hn1 := Lib.hid (QAt.below HQ6.out hb); clear HQ6; have HQ6 := Hn1; clear Hn1)
  try (have Hn1 := Lib.hid (HB7.out.below hb); clear HB7; have HB7 := Hn1; clear Hn1)
  try (have Hn1 := Lib.hid (QAt.below HQ7.out hb); clear HQ7; have HQ7 := Hn1; clear Hn1)
  try (have Hn1 := Lib.hid (HB8.out.below hb); clear HB8; have HB8 := Hn1; clear Hn1)
  try (have Hn1 := Lib.hid (QAt.below HQ8.out hb); clear HQ8; have HQ8 := Hn1; clear Hn1)
  try (have Hn1 := Lib.hid (HU.out.below hb); clear HU; have HU := Hn1; clear Hn1)
  try (have Hn1 := Lib.hid (HX.out.below hb); clear HX; have HX := Hn1; clear Hn1)
  try (have Hn1 := Lib.hid (HM.out.below hb); clear HM; have HM := Hn1; clear Hn1)
  try (have Hn1 := Lib.hid (HTab.out.below hb); clear HTab; have HTab := Hn1; clear Hn1)
  have Hn2 := bthen hb0 hb
  clear hb0 hb
  have hb0 := Hn2
  clear Hn2
  have HQ2 := Lib.hid hq
  clear hq
  go_wp2_with fail
  have HB2 := Lib.hid (BoxIs.new w5 [.int .i64 t6.period, .int .i64 t6.props, .int .i64 t6.high, (.slice y6a y6n y6c), (.slice z6a z6n z6c), .bool t6.canonical] 26)
  have hb : Below w5.heap.size w5 (w5.alloc (.cells #[.int .i64 t6.period, .int .i64 t6.props, .int .i64 t6.high, (.slice y6a y6n y6c), (.slice z6a z6n z6c), .bool t6.canonical] 26)) := by go_grown
  generalize w5.alloc (.cells #[.int .i64 t6.period, .int .i64 t6.props, .int .i64 t6.high, (.slice y6a y6n y6c), (.slice z6a z6n z6c), .bool t6.canonical] 26) = w6 at *
  try (have Hn1 := Lib.hid (HB1.out.below hb); clear HB1; have HB1 := Hn1; clear Hn1)
  try (have Hn1 := Lib.hid (QAt.below HQ1.out hb); clear HQ1; have HQ1 := Hn1; clear Hn1)
  try (have Hn1 := Lib.hid (QAt.below HQ2.out hb); clear HQ2; have HQ2 := Hn1; clear Hn1)
  try (have Hn1 := Lib.hid (HB3.out.below hb); clear HB3; have HB3 := Hn1; clear Hn1)
  try (have Hn1 := Lib.hid (QAt.below HQ3.out hb); clear HQ3; have HQ3 := Hn1; clear Hn1)
  try (have Hn1 := Lib.hid (HB4.out.below hb); clear HB4; have HB4 := Hn1; clear Hn1)
  try (have Hn1 := Lib.hid (QAt.below HQ4.out hb); clear HQ4; have HQ4 := Hn1; clear Hn1)
  try (have Hn1 := Lib.hid (HB5.out.below hb); clear HB5; have HB5 := Hn1; clear Hn1)
  try (have Hn1 := Lib.hid (QAt.below HQ5.out hb); clear HQ5; have HQ5 := Hn1; clear Hn1)
  try (have Hn1 := Lib.hid (HB6.out.below hb); clear HB6; have HB6 := Hn1; clear Hn1)
  try (have Hn1 := Lib.hid (QAt.below HQ6.out hb); clear HQ6; have HQ6 := Hn1; clear Hn1)
  try (have Hn1 := Lib.hid (HB7.out.below hb); clear HB7; have HB7 := Hn1; clear Hn1)
  try (have Hn1 := Lib.hid (QAt.below HQ7.out hb); clear HQ7; have HQ7 := Hn1; clear Hn1)
  try (have Hn1 := Lib.hid (HB8.out.below hb); clear HB8; have HB8 := Hn1; clear Hn1)
  try (have Hn1 := Lib.hid (QAt.below HQ8.out hb); clear HQ8; have HQ8 := Hn1; clear Hn1)
  try (have Hn1 := Lib.hid (HU.out.below hb); clear HU; have HU := Hn1; clear Hn1)
  try (have Hn1 := Lib.hid (HX.out.below hb); clear HX; have HX := Hn1; clear Hn1)
  try (have Hn1 := Lib.hid (HM.out.below hb); clear HM; have HM := Hn1; clear Hn1)
  try (have Hn1 := Lib.hid (HTab.out.below hb); clear HTab; have HTab := Hn1; clear Hn1)
  have Hn2 := bthen hb0 hb
  clear hb0 hb
  have hb0 := Hn2
  clear Hn2
  generalize w5.heap.size = B2 at *
  refine (iEasiestFound_c t6 _ _ w6 HQ2.out).mono ?_
  rintro e w7 ⟨xa, xn, xc, rfl, ho, hb⟩
  try (have Hn1 := Lib.hid (HB1.out.below hb); clear HB1; have HB1 := Hn1; clear Hn1)
  try (have Hn1 := Lib.hid (QAt.below HQ1.out hb); clear HQ1; have HQ1 := Hn1; clear Hn1)
  try (have Hn1 := Lib.hid (HB2.out.below hb); clear HB2; have HB2 := Hn1; clear Hn1)
  try (have Hn1 := Lib.hid (QAt.below HQ2.out hb); clear HQ2; have HQ2 := Hn1; clear Hn1)
  try (have Hn1 := Lib.hid (HB3.out.below hb); clear HB3; have HB3 := Hn1; clear Hn1)
  try (have Hn1 := Lib.hid (QAt.below HQ3.out hb); clear HQ3; have HQ3 := Hn1; clear Hn1)
  try (have Hn1 := Lib.hid (HB4.out.below hb); clear HB4; have HB4 := Hn1; clear Hn1)
  try (have Hn1 := Lib.hid (QAt.below HQ4.out hb); clear HQ4; have HQ4 := Hn1; clear Hn1)
  try (have Hn1 := Lib.hid (HB5.out.below hb); clear HB5; have HB5 := Hn1; clear Hn1)
  try (have Hn1 := Lib.hid (QAt.below HQ5.out hb); clear HQ5; have HQ5 := Hn1; clear Hn1)
  try (have Hn1 := Lib.hid (HB6.out.below hb); clear HB6; have HB6 := Hn1; clear Hn1)
  try (have Hn1 := Lib.hid (QAt.below HQ6.out hb); clear HQ6; have HQ6 := Hn1; clear Hn1)
  try (have Hn1 := Lib.hid (HB7.out.below hb); clear HB7; have HB7 := Hn1; clear Hn1)
  try (have Hn1 := Lib.hid (QAt.below HQ7.out hb); clear HQ7; have HQ7 := Hn1; clear Hn1)
  try (have Hn1 := Lib.hid (HB8.out.below hb); clear HB8; have HB8 := Hn1; clear Hn1)
  try (have Hn1 := Lib.hid (QAt.below HQ8.out hb); clear HQ8; have HQ8 := Hn1; clear Hn1)
  try (have Hn1 := Lib.hid (HU.out.below hb); clear HU; have HU := Hn1; clear Hn1)
  try (have Hn1 := Lib.hid (HX.out.below hb); clear HX; have HX := Hn1; clear Hn1)
  try (have Hn1 := Lib.hid (HM.out.below hb); clear HM; have HM := Hn1; clear Hn1)
  try (have Hn1 := Lib.hid (HTab.out.below hb); clear HTab; have HTab := Hn1; clear Hn1)
  have Hn2 := bthen hb0 hb
  clear hb0 hb
  have hb0 := Hn2
  clear Hn2
  have HX := Lib.hid (OwnInts.at ho)
  clear ho
  have e6 := HB2.out.2.1
  go_wp2_with fail
  refine (sEasiestFound_c t6 _ _ w7 HQ2.out).mono ?_
  rintro e w8 ⟨ma, mn, mc, rfl, ho, hb⟩
  clear e6
  try (have Hn1 := Lib.hid (HB1.out.below hb); clear HB1; have HB1 := Hn1; clear Hn1)
  try (have Hn1 := Lib.hid (QAt.below HQ1.out hb); clear HQ1; have HQ1 := Hn1; clear Hn1)
  try (have Hn1 := Lib.hid (HB2.out.below hb); clear HB2; have HB2 := Hn1; clear Hn1)
  try (have Hn1 := Lib.hid (QAt.below HQ2.out hb); clear HQ2; have HQ2 := Hn1; clear Hn1)
  try (have Hn1 := Lib.hid (HB3.out.below hb); clear HB3; have HB3 := Hn1; clear Hn1)
  try (have Hn1 := Lib.hid (QAt.below HQ3.out hb); clear HQ3; have HQ3 := Hn1; clear Hn1)
  try (have Hn1 := Lib.hid (HB4.out.below hb); clear HB4; have HB4 := Hn1; clear Hn1)
  try (have Hn1 := Lib.hid (QAt.below HQ4.out hb); clear HQ4; have HQ4 := Hn1; clear Hn1)
  try (have Hn1 := Lib.hid (HB5.out.below hb); clear HB5; have HB5 := Hn1; clear Hn1)
  try (have Hn1 := Lib.hid (QAt.below HQ5.out hb); clear HQ5; have HQ5 := Hn1; clear Hn1)
  try (have Hn1 := Lib.hid (HB6.out.below hb); clear HB6; have HB6 := Hn1; clear Hn1)
  try (have Hn1 := Lib.hid (QAt.below HQ6.out hb); clear HQ6; have HQ6 := Hn1; clear Hn1)
  try (have Hn1 := Lib.hid (HB7.out.below hb); clear HB7; have HB7 := Hn1; clear Hn1)
  try (have Hn1 := Lib.hid (QAt.below HQ7.out hb); clear HQ7; have HQ7 := Hn1; clear Hn1)
  try (have Hn1 := Lib.hid (HB8.out.below hb); clear HB8; have HB8 := Hn1; clear Hn1)
  try (have Hn1 := Lib.hid (QAt.below HQ8.out hb); clear HQ8; have HQ8 := Hn1; clear Hn1)
  try (have Hn1 := Lib.hid (HU.out.below hb); clear HU; have HU := Hn1; clear Hn1)
  try (have Hn1 := Lib.hid (HX.out.below hb); clear HX; have HX := Hn1; clear Hn1)
  try (have Hn1 := Lib.hid (HM.out.below hb); clear HM; have HM := Hn1; clear Hn1)
  try (have Hn1 := Lib.hid (HTab.out.below hb); clear HTab; have HTab := Hn1; clear Hn1)
  have Hn2 := bthen hb0 hb
  clear hb0 hb
  have hb0 := Hn2
  clear Hn2
  have HM := Lib.hid (OwnInts.at ho)
  clear ho
  go_wp2_with fail
  refine (drawQueryText_c v cs w8 (HV.out.below hb0) Hin.out Hcl.out).mono ?_
  rintro e w9 ⟨t, ty, tz, rfl, hq, hb⟩
  obtain ⟨tya, tyn, tyc, rfl, -⟩ := hq.need
  obtain ⟨tza, tzn, tzc, rfl, -⟩ := hq.avoid
  try (have Hn1 := Lib.hid (HB1.out.below hb); clear HB1; have HB1 := Hn1; clear Hn1)
  try (have Hn1 := Lib.hid (QAt.below HQ1.out hb); clear HQ1; have HQ1 := Hn1; clear Hn1)
  try (have Hn1 := Lib.hid (HB2.out.below hb); clear HB2; have HB2 := Hn1; clear Hn1)
  try (have Hn1 := Lib.hid (QAt.below HQ2.out hb); clear HQ2; have HQ2 := Hn1; clear Hn1)
  try (have Hn1 := Lib.hid (HB3.out.below hb); clear HB3; have HB3 := Hn1; clear Hn1)
  try (have Hn1 := Lib.hid (QAt.below HQ3.out hb); clear HQ3; have HQ3 := Hn1; clear Hn1)
  try (have Hn1 := Lib.hid (HB4.out.below hb); clear HB4; have HB4 := Hn1; clear Hn1)
  try (have Hn1 := Lib.hid (QAt.below HQ4.out hb); clear HQ4; have HQ4 := Hn1; clear Hn1)
  try (have Hn1 := Lib.hid (HB5.out.below hb); clear HB5; have HB5 := Hn1; clear Hn1)
  try (have Hn1 := Lib.hid (QAt.below HQ5.out hb); clear HQ5; have HQ5 := Hn1; clear Hn1)
  try (have Hn1 := Lib.hid (HB6.out.below hb); clear HB6; have HB6 := Hn1; clear Hn1)
  try (have Hn1 := Lib.hid (QAt.below HQ6.out hb); clear HQ6; have HQ6 := Hn1; clear Hn1)
  try (have Hn1 := Lib.hid (HB7.out.below hb); clear HB7; have HB7 := Hn1; clear Hn1)
  try (have Hn1 := Lib.hid (QAt.below HQ7.out hb); clear HQ7; have HQ7 := Hn1; clear Hn1)
  try (have Hn1 := Lib.hid (HB8.out.below hb); clear HB8; have HB8 := Hn1; clear Hn1)
  try (have Hn1 := Lib.hid (QAt.below HQ8.out hb); clear HQ8; have HQ8 := Hn1; clear Hn1)
  try (have Hn1 := Lib.hid (HU.out.below hb); clear HU; have HU := Hn1; clear Hn1)
  try (have Hn1 := Lib.hid (HX.out.below hb); clear HX; have HX := Hn1; clear Hn1)
  try (have Hn1 := Lib.hid (HM.out.below hb); clear HM; have HM := Hn1; clear Hn1)
  try (have Hn1 := Lib.hid (HTab.out.below hb); clear HTab; have HTab := Hn1; clear Hn1)
  have Hn2 := bthen hb0 hb
  clear hb0 hb
  have hb0 := Hn2
  clear Hn2
  have HQ3 := Lib.hid hq
  clear hq
  go_wp2_with fail
  have HB3 := Lib.hid (BoxIs.new w9 [.int .i64 t.period, .int .i64 t.props, .int .i64 t.high, (.slice tya tyn tyc), (.slice tza tzn tzc), .bool t.canonical] 26)
  have hb : Below w9.heap.size w9 (w9.alloc (.cells #[.int .i64 t.period, .int .i64 t.props, .int .i64 t.high, (.slice tya tyn tyc), (.slice tza tzn tzc), .bool t.canonical] 26)) := by go_grown
  generalize w9.alloc (.cells #[.int .i64 t.period, .int .i64 t.props, .int .i64 t.high, (.slice tya tyn tyc), (.slice tza tzn tzc), .bool t.canonical] 26) = w10 at *
  try (have Hn1 := Lib.hid (HB1.out.below hb); clear HB1; have HB1 := Hn1; clear Hn1)
  try (have Hn1 := Lib.hid (QAt.below HQ1.out hb); clear HQ1; have HQ1 := Hn1; clear Hn1)
  try (have Hn1 := Lib.hid (HB2.out.below hb); clear HB2; have HB2 := Hn1; clear Hn1)
  try (have Hn1 := Lib.hid (QAt.below HQ2.out hb); clear HQ2; have HQ2 := Hn1; clear Hn1)
  try (have Hn1 := Lib.hid (QAt.below HQ3.out hb); clear HQ3; have HQ3 := Hn1; clear Hn1)
  try (have Hn1 := Lib.hid (HB4.out.below hb); clear HB4; have HB4 := Hn1; clear Hn1)
  try (have Hn1 := Lib.hid (QAt.below HQ4.out hb); clear HQ4; have HQ4 := Hn1; clear Hn1)
  try (have Hn1 := Lib.hid (HB5.out.below hb); clear HB5; have HB5 := Hn1; clear Hn1)
  try (have Hn1 := Lib.hid (QAt.below HQ5.out hb); clear HQ5; have HQ5 := Hn1; clear Hn1)
  try (have Hn1 := Lib.hid (HB6.out.below hb); clear HB6; have HB6 := Hn1; clear Hn1)
  try (have Hn1 := Lib.hid (QAt.below HQ6.out hb); clear HQ6; have HQ6 := Hn1; clear Hn1)
  try (have Hn1 := Lib.hid (HB7.out.below hb); clear HB7; have HB7 := Hn1; clear Hn1)
  try (have Hn1 := Lib.hid (QAt.below HQ7.out hb); clear HQ7; have HQ7 := Hn1; clear Hn1)
  try (have Hn1 := Lib.hid (HB8.out.below hb); clear HB8; have HB8 := Hn1; clear Hn1)
  try (have Hn1 := Lib.hid (QAt.below HQ8.out hb); clear HQ8; have HQ8 := Hn1; clear Hn1)
  try (have Hn1 := Lib.hid (HU.out.below hb); clear HU; have HU := Hn1; clear Hn1)
  try (have Hn1 := Lib.hid (HX.out.below hb); clear HX; have HX := Hn1; clear Hn1)
  try (have Hn1 := Lib.hid (HM.out.below hb); clear HM; have HM := Hn1; clear Hn1)
  try (have Hn1 := Lib.hid (HTab.out.below hb); clear HTab; have HTab := Hn1; clear Hn1)
  have Hn2 := bthen hb0 hb
  clear hb0 hb
  have hb0 := Hn2
  clear Hn2
  generalize w9.heap.size = B3 at *
  refine (iQueryText_c t _ _ w10 HQ3.out HTab.out).mono ?_
  rintro e w11 ⟨rfl, hb⟩
  try (have Hn1 := Lib.hid (HB1.out.below hb); clear HB1; have HB1 := Hn1; clear Hn1)
  try (have Hn1 := Lib.hid (QAt.below HQ1.out hb); clear HQ1; have HQ1 := Hn1; clear Hn1)
  try (have Hn1 := Lib.hid (HB2.out.below hb); clear HB2; have HB2 := Hn1; clear Hn1)
  try (have Hn1 := Lib.hid (QAt.below HQ2.out hb); clear HQ2; have HQ2 := Hn1; clear Hn1)
  try (have Hn1 := Lib.hid (HB3.out.below hb); clear HB3; have HB3 := Hn1; clear Hn1)
  try (have Hn1 := Lib.hid (QAt.below HQ3.out hb); clear HQ3; have HQ3 := Hn1; clear Hn1)
  try (have Hn1 := Lib.hid (HB4.out.below hb); clear HB4; have HB4 := Hn1; clear Hn1)
  try (have Hn1 := Lib.hid (QAt.below HQ4.out hb); clear HQ4; have HQ4 := Hn1; clear Hn1)
  try (have Hn1 := Lib.hid (HB5.out.below hb); clear HB5; have HB5 := Hn1; clear Hn1)
  try (have Hn1 := Lib.hid (QAt.below HQ5.out hb); clear HQ5; have HQ5 := Hn1; clear Hn1)
  try (have Hn1 := Lib.hid (HB6.out.below hb); clear HB6; have HB6 := Hn1; clear Hn1)
  try (have Hn1 := Lib.hid (QAt.below HQ6.out hb); clear HQ6; have HQ6 := Hn1; clear Hn1)
  try (have Hn1 := Lib.hid (HB7.out.below hb); clear HB7; have HB7 := Hn1; clear Hn1)
  try (have Hn1 := Lib.hid (QAt.below HQ7.out hb); clear HQ7; have HQ7 := Hn1; clear Hn1)
  try (have Hn1 := Lib.hid (HB8.out.below hb); clear HB8; have HB8 := Hn1; clear Hn1)
  try (have Hn1 := Lib.hid (QAt.below HQ8.out hb); clear HQ8; have HQ8 := Hn1; clear Hn1)
  try (have Hn1 := Lib.hid (HU.out.below hb); clear HU; have HU := Hn1; clear Hn1)
  try (have Hn1 := Lib.hid (HX.out.below hb); clear HX; have HX := Hn1; clear Hn1)
  try (have Hn1 := Lib.hid (HM.out.below hb); clear HM; have HM := Hn1; clear Hn1)
  try (have Hn1 := Lib.hid (HTab.out.below hb); clear HTab; have HTab := Hn1; clear Hn1)
  have Hn2 := bthen hb0 hb
  clear hb0 hb
  have hb0 := Hn2
  clear Hn2
  obtain ⟨hsz, hrt⟩ := qText_law t
  have HS2 := Lib.hid (fun W x => sQueryText_c t (.slice tya tyn tyc) (.slice tza tzn tzc) W x)
  generalize qTextB t = TB at *
  have Hrt := Lib.hid hrt
  clear hrt
  go_wp2_with fail
  refine (iReadQuery_c TB w11 (by omega) HTab.out).mono ?_
  rintro e w12 ⟨ba, bn, bc, ca, cn, cc, rfl, oy, oz, -, hb⟩
  try (have Hn1 := Lib.hid (HB1.out.below hb); clear HB1; have HB1 := Hn1; clear Hn1)
  try (have Hn1 := Lib.hid (QAt.below HQ1.out hb); clear HQ1; have HQ1 := Hn1; clear Hn1)
  try (have Hn1 := Lib.hid (HB2.out.below hb); clear HB2; have HB2 := Hn1; clear Hn1)
  try (have Hn1 := Lib.hid (QAt.below HQ2.out hb); clear HQ2; have HQ2 := Hn1; clear Hn1)
  try (have Hn1 := Lib.hid (HB3.out.below hb); clear HB3; have HB3 := Hn1; clear Hn1)
  try (have Hn1 := Lib.hid (QAt.below HQ3.out hb); clear HQ3; have HQ3 := Hn1; clear Hn1)
  try (have Hn1 := Lib.hid (HB4.out.below hb); clear HB4; have HB4 := Hn1; clear Hn1)
  try (have Hn1 := Lib.hid (QAt.below HQ4.out hb); clear HQ4; have HQ4 := Hn1; clear Hn1)
  try (have Hn1 := Lib.hid (HB5.out.below hb); clear HB5; have HB5 := Hn1; clear Hn1)
  try (have Hn1 := Lib.hid (QAt.below HQ5.out hb); clear HQ5; have HQ5 := Hn1; clear Hn1)
  try (have Hn1 := Lib.hid (HB6.out.below hb); clear HB6; have HB6 := Hn1; clear Hn1)
  try (have Hn1 := Lib.hid (QAt.below HQ6.out hb); clear HQ6; have HQ6 := Hn1; clear Hn1)
  try (have Hn1 := Lib.hid (HB7.out.below hb); clear HB7; have HB7 := Hn1; clear Hn1)
  try (have Hn1 := Lib.hid (QAt.below HQ7.out hb); clear HQ7; have HQ7 := Hn1; clear Hn1)
  try (have Hn1 := Lib.hid (HB8.out.below hb); clear HB8; have HB8 := Hn1; clear Hn1)
  try (have Hn1 := Lib.hid (QAt.below HQ8.out hb); clear HQ8; have HQ8 := Hn1; clear Hn1)
  try (have Hn1 := Lib.hid (HU.out.below hb); clear HU; have HU := Hn1; clear Hn1)
  try (have Hn1 := Lib.hid (HX.out.below hb); clear HX; have HX := Hn1; clear Hn1)
  try (have Hn1 := Lib.hid (HM.out.below hb); clear HM; have HM := Hn1; clear Hn1)
  try (have Hn1 := Lib.hid (HTab.out.below hb); clear HTab; have HTab := Hn1; clear Hn1)
  have Hn2 := bthen hb0 hb
  clear hb0 hb
  have hb0 := Hn2
  clear Hn2
  generalize rqQ (chars TB) = bq at *
  have HQ4 : Hid (QAt w12 bq (.slice ba bn bc) (.slice ca cn cc)) := Lib.hid ⟨OwnInts.at oy, OwnInts.at oz⟩
  clear oy oz
  go_wp2_with fail
  have HB4 := Lib.hid (BoxIs.new w12 [.int .i64 bq.period, .int .i64 bq.props, .int .i64 bq.high, (.slice ba bn bc), (.slice ca cn cc), .bool bq.canonical] 26)
  have hb : Below w12.heap.size w12 (w12.alloc (.cells #[.int .i64 bq.period, .int .i64 bq.props, .int .i64 bq.high, (.slice ba bn bc), (.slice ca cn cc), .bool bq.canonical] 26)) := by go_grown
  generalize w12.alloc (.cells #[.int .i64 bq.period, .int .i64 bq.props, .int .i64 bq.high, (.slice ba bn bc), (.slice ca cn cc), .bool bq.canonical] 26) = w13 at *
  try (have Hn1 := Lib.hid (HB1.out.below hb); clear HB1; have HB1 := Hn1; clear Hn1)
  try (have Hn1 := Lib.hid (QAt.below HQ1.out hb); clear HQ1; have HQ1 := Hn1; clear Hn1)
  try (have Hn1 := Lib.hid (HB2.out.below hb); clear HB2; have HB2 := Hn1; clear Hn1)
  try (have Hn1 := Lib.hid (QAt.below HQ2.out hb); clear HQ2; have HQ2 := Hn1; clear Hn1)
  try (have Hn1 := Lib.hid (HB3.out.below hb); clear HB3; have HB3 := Hn1; clear Hn1)
  try (have Hn1 := Lib.hid (QAt.below HQ3.out hb); clear HQ3; have HQ3 := Hn1; clear Hn1)
  try (have Hn1 := Lib.hid (QAt.below HQ4.out hb); clear HQ4; have HQ4 := Hn1; clear Hn1)
  try (have Hn1 := Lib.hid (HB5.out.below hb); clear HB5; have HB5 := Hn1; clear Hn1)
  try (have Hn1 := Lib.hid (QAt.below HQ5.out hb); clear HQ5; have HQ5 := Hn1; clear Hn1)
  try (have Hn1 := Lib.hid (HB6.out.below hb); clear HB6; have HB6 := Hn1; clear Hn1)
  try (have Hn1 := Lib.hid (QAt.below HQ6.out hb); clear HQ6; have HQ6 := Hn1; clear Hn1)
  try (have Hn1 := Lib.hid (HB7.out.below hb); clear HB7; have HB7 := Hn1; clear Hn1)
  try (have Hn1 := Lib.hid (QAt.below HQ7.out hb); clear HQ7; have HQ7 := Hn1; clear Hn1)
  try (have Hn1 := Lib.hid (HB8.out.below hb); clear HB8; have HB8 := Hn1; clear Hn1)
  try (have Hn1 := Lib.hid (QAt.below HQ8.out hb); clear HQ8; have HQ8 := Hn1; clear Hn1)
  try (have Hn1 := Lib.hid (HU.out.below hb); clear HU; have HU := Hn1; clear Hn1)
  try (have Hn1 := Lib.hid (HX.out.below hb); clear HX; have HX := Hn1; clear Hn1)
  try (have Hn1 := Lib.hid (HM.out.below hb); clear HM; have HM := Hn1; clear Hn1)
  try (have Hn1 := Lib.hid (HTab.out.below hb); clear HTab; have HTab := Hn1; clear Hn1)
  have Hn2 := bthen hb0 hb
  clear hb0 hb
  have hb0 := Hn2
  clear Hn2
  generalize w12.heap.size = B4 at *
  refine (drawReadQuery_c v cs w13 (HV.out.below hb0) Hin.out Hcl.out).mono ?_
  rintro e w14 ⟨s, rfl, hs, hb⟩
  try (have Hn1 := Lib.hid (HB1.out.below hb); clear HB1; have HB1 := Hn1; clear Hn1)
  try (have Hn1 := Lib.hid (QAt.below HQ1.out hb); clear HQ1; have HQ1 := Hn1; clear Hn1)
  try (have Hn1 := Lib.hid (HB2.out.below hb); clear HB2; have HB2 := Hn1; clear Hn1)
  try (have Hn1 := Lib.hid (QAt.below HQ2.out hb); clear HQ2; have HQ2 := Hn1; clear Hn1)
  try (have Hn1 := Lib.hid (HB3.out.below hb); clear HB3; have HB3 := Hn1; clear Hn1)
  try (have Hn1 := Lib.hid (QAt.below HQ3.out hb); clear HQ3; have HQ3 := Hn1; clear Hn1)
  try (have Hn1 := Lib.hid (HB4.out.below hb); clear HB4; have HB4 := Hn1; clear Hn1)
  try (have Hn1 := Lib.hid (QAt.below HQ4.out hb); clear HQ4; have HQ4 := Hn1; clear Hn1)
  try (have Hn1 := Lib.hid (HB5.out.below hb); clear HB5; have HB5 := Hn1; clear Hn1)
  try (have Hn1 := Lib.hid (QAt.below HQ5.out hb); clear HQ5; have HQ5 := Hn1; clear Hn1)
  try (have Hn1 := Lib.hid (HB6.out.below hb); clear HB6; have HB6 := Hn1; clear Hn1)
  try (have Hn1 := Lib.hid (QAt.below HQ6.out hb); clear HQ6; have HQ6 := Hn1; clear Hn1)
  try (have Hn1 := Lib.hid (HB7.out.below hb); clear HB7; have HB7 := Hn1; clear Hn1)
  try (have Hn1 := Lib.hid (QAt.below HQ7.out hb); clear HQ7; have HQ7 := Hn1; clear Hn1)
  try (have Hn1 := Lib.hid (HB8.out.below hb); clear HB8; have HB8 := Hn1; clear Hn1)
  try (have Hn1 := Lib.hid (QAt.below HQ8.out hb); clear HQ8; have HQ8 := Hn1; clear Hn1)
  try (have Hn1 := Lib.hid (HU.out.below hb); clear HU; have HU := Hn1; clear Hn1)
  try (have Hn1 := Lib.hid (HX.out.below hb); clear HX; have HX := Hn1; clear Hn1)
  try (have Hn1 := Lib.hid (HM.out.below hb); clear HM; have HM := Hn1; clear Hn1)
  try (have Hn1 := Lib.hid (HTab.out.below hb); clear HTab; have HTab := Hn1; clear Hn1)
  have Hn2 := bthen hb0 hb
  clear hb0 hb
  have hb0 := Hn2
  clear Hn2
  go_wp2_with fail
  refine (iReadQuery_c s w14 (by omega) HTab.out).mono ?_
  rintro e w15 ⟨da, dn, dc, ea, en, ec, rfl, oy, oz, -, hb⟩
  try (have Hn1 := Lib.hid (HB1.out.below hb); clear HB1; have HB1 := Hn1; clear Hn1)
  try (have Hn1 := Lib.hid (QAt.below HQ1.out hb); clear HQ1; have HQ1 := Hn1; clear Hn1)
  try (have Hn1 := Lib.hid (HB2.out.below hb); clear HB2; have HB2 := Hn1; clear Hn1)
  try (have Hn1 := Lib.hid (QAt.below HQ2.out hb); clear HQ2; have HQ2 := Hn1; clear Hn1)
  try (have Hn1 := Lib.hid (HB3.out.below hb); clear HB3; have HB3 := Hn1; clear Hn1)
  try (have Hn1 := Lib.hid (QAt.below HQ3.out hb); clear HQ3; have HQ3 := Hn1; clear Hn1)
  try (have Hn1 := Lib.hid (HB4.out.below hb); clear HB4; have HB4 := Hn1; clear Hn1)
  try (have Hn1 := Lib.hid (QAt.below HQ4.out hb); clear HQ4; have HQ4 := Hn1; clear Hn1)
  try (have Hn1 := Lib.hid (HB5.out.below hb); clear HB5; have HB5 := Hn1; clear Hn1)
  try (have Hn1 := Lib.hid (QAt.below HQ5.out hb); clear HQ5; have HQ5 := Hn1; clear Hn1)
  try (have Hn1 := Lib.hid (HB6.out.below hb); clear HB6; have HB6 := Hn1; clear Hn1)
  try (have Hn1 := Lib.hid (QAt.below HQ6.out hb); clear HQ6; have HQ6 := Hn1; clear Hn1)
  try (have Hn1 := Lib.hid (HB7.out.below hb); clear HB7; have HB7 := Hn1; clear Hn1)
  try (have Hn1 := Lib.hid (QAt.below HQ7.out hb); clear HQ7; have HQ7 := Hn1; clear Hn1)
  try (have Hn1 := Lib.hid (HB8.out.below hb); clear HB8; have HB8 := Hn1; clear Hn1)
  try (have Hn1 := Lib.hid (QAt.below HQ8.out hb); clear HQ8; have HQ8 := Hn1; clear Hn1)
  try (have Hn1 := Lib.hid (HU.out.below hb); clear HU; have HU := Hn1; clear Hn1)
  try (have Hn1 := Lib.hid (HX.out.below hb); clear HX; have HX := Hn1; clear Hn1)
  try (have Hn1 := Lib.hid (HM.out.below hb); clear HM; have HM := Hn1; clear Hn1)
  try (have Hn1 := Lib.hid (HTab.out.below hb); clear HTab; have HTab := Hn1; clear Hn1)
  have Hn2 := bthen hb0 hb
  clear hb0 hb
  have hb0 := Hn2
  clear Hn2
  have HSR := Lib.hid (fun W => sReadQuery_c s W (by omega))
  generalize rqQ (chars s) = rq at *
  generalize rqOk (chars s) = rok at *
  have HQ5 : Hid (QAt w15 rq (.slice da dn dc) (.slice ea en ec)) := Lib.hid ⟨OwnInts.at oy, OwnInts.at oz⟩
  clear oy oz
  go_wp2_with fail
  have HB5 := Lib.hid (BoxIs.new w15 [.int .i64 rq.period, .int .i64 rq.props, .int .i64 rq.high, (.slice da dn dc), (.slice ea en ec), .bool rq.canonical] 26)
  have hb : Below w15.heap.size w15 (w15.alloc (.cells #[.int .i64 rq.period, .int .i64 rq.props, .int .i64 rq.high, (.slice da dn dc), (.slice ea en ec), .bool rq.canonical] 26)) := by go_grown
  generalize w15.alloc (.cells #[.int .i64 rq.period, .int .i64 rq.props, .int .i64 rq.high, (.slice da dn dc), (.slice ea en ec), .bool rq.canonical] 26) = w16 at *
  try (have Hn1 := Lib.hid (HB1.out.below hb); clear HB1; have HB1 := Hn1; clear Hn1)
  try (have Hn1 := Lib.hid (QAt.below HQ1.out hb); clear HQ1; have HQ1 := Hn1; clear Hn1)
  try (have Hn1 := Lib.hid (HB2.out.below hb); clear HB2; have HB2 := Hn1; clear Hn1)
  try (have Hn1 := Lib.hid (QAt.below HQ2.out hb); clear HQ2; have HQ2 := Hn1; clear Hn1)
  try (have Hn1 := Lib.hid (HB3.out.below hb); clear HB3; have HB3 := Hn1; clear Hn1)
  try (have Hn1 := Lib.hid (QAt.below HQ3.out hb); clear HQ3; have HQ3 := Hn1; clear Hn1)
  try (have Hn1 := Lib.hid (HB4.out.below hb); clear HB4; have HB4 := Hn1; clear Hn1)
  try (have Hn1 := Lib.hid (QAt.below HQ4.out hb); clear HQ4; have HQ4 := Hn1; clear Hn1)
  try (have Hn1 := Lib.hid (QAt.below HQ5.out hb); clear HQ5; have HQ5 := Hn1; clear Hn1)
  try (have Hn1 := Lib.hid (HB6.out.below hb); clear HB6; have HB6 := Hn1; clear Hn1)
  try (have Hn1 := Lib.hid (QAt.below HQ6.out hb); clear HQ6; have HQ6 := Hn1; clear Hn1)
  try (have Hn1 := Lib.hid (HB7.out.below hb); clear HB7; have HB7 := Hn1; clear Hn1)
  try (have Hn1 := Lib.hid (QAt.below HQ7.out hb); clear HQ7; have HQ7 := Hn1; clear Hn1)
  try (have Hn1 := Lib.hid (HB8.out.below hb); clear HB8; have HB8 := Hn1; clear Hn1)
  try (have Hn1 := Lib.hid (QAt.below HQ8.out hb); clear HQ8; have HQ8 := Hn1; clear Hn1)
  try (have Hn1 := Lib.hid (HU.out.below hb); clear HU; have HU := Hn1; clear Hn1)
  try (have Hn1 := Lib.hid (HX.out.below hb); clear HX; have HX := Hn1; clear Hn1)
  try (have Hn1 := Lib.hid (HM.out.below hb); clear HM; have HM := Hn1; clear Hn1)
  try (have Hn1 := Lib.hid (HTab.out.below hb); clear HTab; have HTab := Hn1; clear Hn1)
  have Hn2 := bthen hb0 hb
  clear hb0 hb
  have hb0 := Hn2
  clear Hn2
  generalize w15.heap.size = B5 at *
  refine (HSR.out w16).mono ?_
  rintro e w17 ⟨fa, fn, fc, ga, gn, gc, rfl, oy, oz, -, hb⟩
  clear HSR
  try (have Hn1 := Lib.hid (HB1.out.below hb); clear HB1; have HB1 := Hn1; clear Hn1)
  try (have Hn1 := Lib.hid (QAt.below HQ1.out hb); clear HQ1; have HQ1 := Hn1; clear Hn1)
  try (have Hn1 := Lib.hid (HB2.out.below hb); clear HB2; have HB2 := Hn1; clear Hn1)
  try (have Hn1 := Lib.hid (QAt.below HQ2.out hb); clear HQ2; have HQ2 := Hn1; clear Hn1)
  try (have Hn1 := Lib.hid (HB3.out.below hb); clear HB3; have HB3 := Hn1; clear Hn1)
  try (have Hn1 := Lib.hid (QAt.below HQ3.out hb); clear HQ3; have HQ3 := Hn1; clear Hn1)
  try (have Hn1 := Lib.hid (HB4.out.below hb); clear HB4; have HB4 := Hn1; clear Hn1)
  try (have Hn1 := Lib.hid (QAt.below HQ4.out hb); clear HQ4; have HQ4 := Hn1; clear Hn1)
  try (have Hn1 := Lib.hid (HB5.out.below hb); clear HB5; have HB5 := Hn1; clear Hn1)
  try (have Hn1 := Lib.hid (QAt.below HQ5.out hb); clear HQ5; have HQ5 := Hn1; clear Hn1)
  try (have Hn1 := Lib.hid (HB6.out.below hb); clear HB6; have HB6 := Hn1; clear Hn1)
  try (have Hn1 := Lib.hid (QAt.below HQ6.out hb); clear HQ6; have HQ6 := Hn1; clear Hn1)
  try (have Hn1 := Lib.hid (HB7.out.below hb); clear HB7; have HB7 := Hn1; clear Hn1)
  try (have Hn1 := Lib.hid (QAt.below HQ7.out hb); clear HQ7; have HQ7 := Hn1; clear Hn1)
  try (have Hn1 := Lib.hid (HB8.out.below hb); clear HB8; have HB8 := Hn1; clear Hn1)
  try (have Hn1 := Lib.hid (QAt.below HQ8.out hb); clear HQ8; have HQ8 := Hn1; clear Hn1)
  try (have Hn1 := Lib.hid (HU.out.below hb); clear HU; have HU := Hn1; clear Hn1)
  try (have Hn1 := Lib.hid (HX.out.below hb); clear HX; have HX := Hn1; clear Hn1)
  try (have Hn1 := Lib.hid (HM.out.below hb); clear HM; have HM := Hn1; clear Hn1)
  try (have Hn1 := Lib.hid (HTab.out.below hb); clear HTab; have HTab := Hn1; clear Hn1)
  have Hn2 := bthen hb0 hb
  clear hb0 hb
  have hb0 := Hn2
  clear Hn2
  have HQ6 : Hid (QAt w17 rq (.slice fa fn fc) (.slice ga gn gc)) := Lib.hid ⟨OwnInts.at oy, OwnInts.at oz⟩
  clear oy oz
  go_wp2_with fail
  have HB6 := Lib.hid (BoxIs.new w17 [.int .i64 rq.period, .int .i64 rq.props, .int .i64 rq.high, (.slice fa fn fc), (.slice ga gn gc), .bool rq.canonical] 26)
  have hb : Below w17.heap.size w17 (w17.alloc (.cells #[.int .i64 rq.period, .int .i64 rq.props, .int .i64 rq.high, (.slice fa fn fc), (.slice ga gn gc), .bool rq.canonical] 26)) := by go_grown
  generalize w17.alloc (.cells #[.int .i64 rq.period, .int .i64 rq.props, .int .i64 rq.high, (.slice fa fn fc), (.slice ga gn gc), .bool rq.canonical] 26) = w18 at *
  try (have Hn1 := Lib.hid (HB1.out.below hb); clear HB1; have HB1 := Hn1; clear Hn1)
  try (have Hn1 := Lib.hid (QAt.below HQ1.out hb); clear HQ1; have HQ1 := Hn1; clear Hn1)
  try (have Hn1 := Lib.hid (HB2.out.below hb); clear HB2; have HB2 := Hn1; clear Hn1)
  try (have Hn1 := Lib.hid (QAt.below HQ2.out hb); clear HQ2; have HQ2 := Hn1; clear Hn1)
  try (have Hn1 := Lib.hid (HB3.out.below hb); clear HB3; have HB3 := Hn1; clear Hn1)
  try (have Hn1 := Lib.hid (QAt.below HQ3.out hb); clear HQ3; have HQ3 := Hn1; clear Hn1)
  try (have Hn1 := Lib.hid (HB4.out.below hb); clear HB4; have HB4 := Hn1; clear Hn1)
  try (have Hn1 := Lib.hid (QAt.below HQ4.out hb); clear HQ4; have HQ4 := Hn1; clear Hn1)
  try (have Hn1 := Lib.hid (HB5.out.below hb); clear HB5; have HB5 := Hn1; clear Hn1)
  try (have Hn1 := Lib.hid (QAt.below HQ5.out hb); clear HQ5; have HQ5 := Hn1; clear Hn1)
  try (have Hn1 := Lib.hid (QAt.below HQ6.out hb); clear HQ6; have HQ6 := Hn1; clear Hn1)
  try (have Hn1 := Lib.hid (HB7.out.below hb); clear HB7; have HB7 := Hn1; clear Hn1)
  try (have Hn1 := Lib.hid (QAt.below HQ7.out hb); clear HQ7; have HQ7 := Hn1; clear Hn1)
  try (have Hn1 := Lib.hid (HB8.out.below hb); clear HB8; have HB8 := Hn1; clear Hn1)
  try (have Hn1 := Lib.hid (QAt.below HQ8.out hb); clear HQ8; have HQ8 := Hn1; clear Hn1)
  try (have Hn1 := Lib.hid (HU.out.below hb); clear HU; have HU := Hn1; clear Hn1)
  try (have Hn1 := Lib.hid (HX.out.below hb); clear HX; have HX := Hn1; clear Hn1)
  try (have Hn1 := Lib.hid (HM.out.below hb); clear HM; have HM := Hn1; clear Hn1)
  try (have Hn1 := Lib.hid (HTab.out.below hb); clear HTab; have HTab := Hn1; clear Hn1)
  have Hn2 := bthen hb0 hb
  clear hb0 hb
  have hb0 := Hn2
  clear Hn2
  generalize w17.heap.size = B6 at *
  refine (drawSameQuery_c v cs w18 (HV.out.below hb0) Hin.out Hcl.out).mono ?_
  rintro e w19 ⟨sq, sy, sz, rq2, ry, rz, rfl, hq, hr, hb⟩
  obtain ⟨sya, syn, syc, rfl, -⟩ := hq.need
  obtain ⟨sza, szn, szc, rfl, -⟩ := hq.avoid
  obtain ⟨rya, ryn, ryc, rfl, -⟩ := hr.need
  obtain ⟨rza, rzn, rzc, rfl, -⟩ := hr.avoid
  try (have Hn1 := Lib.hid (HB1.out.below hb); clear HB1; have HB1 := Hn1; clear Hn1)
  try (have Hn1 := Lib.hid (QAt.below HQ1.out hb); clear HQ1; have HQ1 := Hn1; clear Hn1)
  try (have Hn1 := Lib.hid (HB2.out.below hb); clear HB2; have HB2 := Hn1; clear Hn1)
  try (have Hn1 := Lib.hid (QAt.below HQ2.out hb); clear HQ2; have HQ2 := Hn1; clear Hn1)
  try (have Hn1 := Lib.hid (HB3.out.below hb); clear HB3; have HB3 := Hn1; clear Hn1)
  try (have Hn1 := Lib.hid (QAt.below HQ3.out hb); clear HQ3; have HQ3 := Hn1; clear Hn1)
  try (have Hn1 := Lib.hid (HB4.out.below hb); clear HB4; have HB4 := Hn1; clear Hn1)
  try (have Hn1 := Lib.hid (QAt.below HQ4.out hb); clear HQ4; have HQ4 := Hn1; clear Hn1)
  try (have Hn1 := Lib.hid (HB5.out.below hb); clear HB5; have HB5 := Hn1; clear Hn1)
  try (have Hn1 := Lib.hid (QAt.below HQ5.out hb); clear HQ5; have HQ5 := Hn1; clear Hn1)
  try (have Hn1 := Lib.hid (HB6.out.below hb); clear HB6; have HB6 := Hn1; clear Hn1)
  try (have Hn1 := Lib.hid (QAt.below HQ6.out hb); clear HQ6; have HQ6 := Hn1; clear Hn1)
  try (have Hn1 := Lib.hid (HB7.out.below hb); clear HB7; have HB7 := Hn1; clear Hn1)
  try (have Hn1 := Lib.hid (QAt.below HQ7.out hb); clear HQ7; have HQ7 := Hn1; clear Hn1)
  try (have Hn1 := Lib.hid (HB8.out.below hb); clear HB8; have HB8 := Hn1; clear Hn1)
  try (have Hn1 := Lib.hid (QAt.below HQ8.out hb); clear HQ8; have HQ8 := Hn1; clear Hn1)
  try (have Hn1 := Lib.hid (HU.out.below hb); clear HU; have HU := Hn1; clear Hn1)
  try (have Hn1 := Lib.hid (HX.out.below hb); clear HX; have HX := Hn1; clear Hn1)
  try (have Hn1 := Lib.hid (HM.out.below hb); clear HM; have HM := Hn1; clear Hn1)
  try (have Hn1 := Lib.hid (HTab.out.below hb); clear HTab; have HTab := Hn1; clear Hn1)
  have Hn2 := bthen hb0 hb
  clear hb0 hb
  have hb0 := Hn2
  clear Hn2
  have HQ7 := Lib.hid hq
  have HQ8 := Lib.hid hr
  clear hq hr
  have ebb : (mb == mb) = true := beq_self_eq_true _
  have ecc : (easyCode t6 == easyCode t6) = true := beq_self_eq_true _
  have eTB := beq_bytes TB TB
  rw [decide_eq_true rfl] at eTB
  have err : (rok == rok) = true := beq_self_eq_true _
  have HA1 := Lib.hid (fun W x y => sMatchesQuery_c q (.slice ya yn yc) (.slice za zn zc) (.slice pa pn pc) u W x y)
  rw [Hmq.out] at HA1
  have HA2 := Lib.hid (fun W x y => f6ints_c (.slice xa xn xc) (.slice ma mn mc) (easyL t6) (easyL t6) W x y)
  rw [eqI_self] at HA2
  have HA3 := Lib.hid (fun W x y => sSameQuery_c rq rq (.slice da dn dc) (.slice ea en ec) (.slice fa fn fc) (.slice ga gn gc) W x y)
  rw [eqQ_self] at HA3
  have HA4 := Lib.hid (fun W x y => iSameQuery_c sq rq2 (.slice sya syn syc) (.slice sza szn szc) (.slice rya ryn ryc) (.slice rza rzn rzc) W x y)
  have HA5 := Lib.hid (fun W x y => sSameQuery_c sq rq2 (.slice sya syn syc) (.slice sza szn szc) (.slice rya ryn ryc) (.slice rza rzn rzc) W x y)
  generalize eqQueryB sq rq2 = sab at *
  have esab : (sab == sab) = true := beq_self_eq_true _
  have HA6 := Lib.hid (fun W x => iValidQuery_c t (.slice tya tyn tyc) (.slice tza tzn tzc) W x)
  have HA7 := Lib.hid (fun W x => sValidQuery_c t (.slice tya tyn tyc) (.slice tza tzn tzc) W x)
  have HA8 := Lib.hid (fun W x y => sSameQuery_c t t (.slice ba bn bc) (.slice ca cn cc) (.slice tya tyn tyc) (.slice tza tzn tzc) W x y)
  rw [eqQ_self] at HA8
  generalize okQueryB t = okt at *
  have eokt : (okt == okt) = true := beq_self_eq_true _
  go_wp2_with fail
  have HB7 := Lib.hid ((BoxIs.new w19 [.int .i64 sq.period, .int .i64 sq.props, .int .i64 sq.high, (.slice sya syn syc), (.slice sza szn szc), .bool sq.canonical] 26).alloc (.cells #[.int .i64 rq2.period, .int .i64 rq2.props, .int .i64 rq2.high, (.slice rya ryn ryc), (.slice rza rzn rzc), .bool rq2.canonical] 26))
  have HB8 := Lib.hid (BoxIs.new' (b := w19.heap.size + 1) (w := w19.alloc (.cells #[.int .i64 sq.period, .int .i64 sq.props, .int .i64 sq.high, (.slice sya syn syc), (.slice sza szn szc), .bool sq.canonical] 26)) (by simp) [.int .i64 rq2.period, .int .i64 rq2.props, .int .i64 rq2.high, (.slice rya ryn ryc), (.slice rza rzn rzc), .bool rq2.canonical] 26)
  have hb : Below w19.heap.size w19 ((w19.alloc (.cells #[.int .i64 sq.period, .int .i64 sq.props, .int .i64 sq.high, (.slice sya syn syc), (.slice sza szn szc), .bool sq.canonical] 26)).alloc (.cells #[.int .i64 rq2.period, .int .i64 rq2.props, .int .i64 rq2.high, (.slice rya ryn ryc), (.slice rza rzn rzc), .bool rq2.canonical] 26)) := by go_grown
  generalize (w19.alloc (.cells #[.int .i64 sq.period, .int .i64 sq.props, .int .i64 sq.high, (.slice sya syn syc), (.slice sza szn szc), .bool sq.canonical] 26)).alloc (.cells #[.int .i64 rq2.period, .int .i64 rq2.props, .int .i64 rq2.high, (.slice rya ryn ryc), (.slice rza rzn rzc), .bool rq2.canonical] 26) = w20 at *
  try (have Hn1 := Lib.hid (HB1.out.below hb); clear HB1; have HB1 := Hn1; clear Hn1)
  try (have Hn1 := Lib.hid (QAt.below HQ1.out hb); clear HQ1; have HQ1 := Hn1; clear Hn1)
  try (have Hn1 := Lib.hid (HB2.out.below hb); clear HB2; have HB2 := Hn1; clear Hn1)
  try (have Hn1 := Lib.hid (QAt.below HQ2.out hb); clear HQ2; have HQ2 := Hn1; clear Hn1)
  try (have Hn1 := Lib.hid (HB3.out.below hb); clear HB3; have HB3 := Hn1; clear Hn1)
  try (have Hn1 := Lib.hid (QAt.below HQ3.out hb); clear HQ3; have HQ3 := Hn1; clear Hn1)
  try (have Hn1 := Lib.hid (HB4.out.below hb); clear HB4; have HB4 := Hn1; clear Hn1)
  try (have Hn1 := Lib.hid (QAt.below HQ4.out hb); clear HQ4; have HQ4 := Hn1; clear Hn1)
  try (have Hn1 := Lib.hid (HB5.out.below hb); clear HB5; have HB5 := Hn1; clear Hn1)
  try (have Hn1 := Lib.hid (QAt.below HQ5.out hb); clear HQ5; have HQ5 := Hn1; clear Hn1)
  try (have Hn1 := Lib.hid (HB6.out.below hb); clear HB6; have HB6 := Hn1; clear Hn1)
  try (have Hn1 := Lib.hid (QAt.below HQ6.out hb); clear HQ6; have HQ6 := Hn1; clear Hn1)
  try (have Hn1 := Lib.hid (QAt.below HQ7.out hb); clear HQ7; have HQ7 := Hn1; clear Hn1)
  try (have Hn1 := Lib.hid (QAt.below HQ8.out hb); clear HQ8; have HQ8 := Hn1; clear Hn1)
  try (have Hn1 := Lib.hid (HU.out.below hb); clear HU; have HU := Hn1; clear Hn1)
  try (have Hn1 := Lib.hid (HX.out.below hb); clear HX; have HX := Hn1; clear Hn1)
  try (have Hn1 := Lib.hid (HM.out.below hb); clear HM; have HM := Hn1; clear Hn1)
  try (have Hn1 := Lib.hid (HTab.out.below hb); clear HTab; have HTab := Hn1; clear Hn1)
  have Hn2 := bthen hb0 hb
  clear hb0 hb
  have hb0 := Hn2
  clear Hn2
  generalize w19.heap.size = B7 at *
  generalize B7 + 1 = B8 at *
  by_cases hE : TB = { data := #[] }
  · have e2 : TB.toList.isEmpty = true := by rw [hE, isEmpty_size]; exact decide_eq_true rfl
    have e3 : TB.toList = [] := List.isEmpty_iff.1 e2
    have hrk : rqOk (chars TB) = false := by
      rcases Hrt.out with h | h
      · exact h.2
      · exact absurd hE h.1
    rw [hrk]
    clear hE hrk Hrt
    refine wp_region_held_drew (S := fun w' => Below w20.heap.size w20 w') (by kernel_rfl) (by exact ((Below.refl w20.heap.size w20)).drew) (fun hHeld => ?_)
    refine wpAnyH_take (i := 0) (oi := ⟨_, _, _, _, _, _⟩) (v := ?_) rfl (by kernel_rfl) (by kernel_rfl) (by kernel_rfl) (fun _ _ _ h => h) (Or.inl ⟨by rfl, ?_⟩) (by assumption) ?_; rotate_left; (focus (intro w hSw; (try dsimp only at hSw); go_simp; try with_reducible rfl)); (try simp only [Act.put, List.setIfInBounds_toArray, List.set_cons_zero, List.set_cons_succ])
    refine wpAnyH_take (i := 1) (oi := ⟨_, _, _, _, _, _⟩) (v := ?_) rfl (by kernel_rfl) (by kernel_rfl) (by kernel_rfl) (fun _ _ _ h => h) (Or.inl ⟨by rfl, ?_⟩) (by assumption) ?_; rotate_left; (focus (intro w hSw; (try dsimp only at hSw); have t1 := (HB1.out.below hSw).2.1; have t3 := (HB3.out.below hSw).2.1; have t4 := (HB4.out.below hSw).2.1; have t5 := (HB5.out.below hSw).2.1; have t6 := (HB6.out.below hSw).2.1; have t7 := (HB7.out.below hSw).2.1; have t8 := (HB8.out.below hSw).2.1; go_simp; try with_reducible rfl)); (try simp only [Act.put, List.setIfInBounds_toArray, List.set_cons_zero, List.set_cons_succ])
    refine wpAnyH_take (i := 2) (oi := ⟨_, _, _, _, _, _⟩) (v := ?_) rfl (by kernel_rfl) (by kernel_rfl) (by kernel_rfl) (fun _ _ _ h => h) (Or.inl ⟨by rfl, ?_⟩) (by assumption) ?_; rotate_left; (focus (intro w hSw; (try dsimp only at hSw); go_simp; try with_reducible rfl)); (try simp only [Act.put, List.setIfInBounds_toArray, List.set_cons_zero, List.set_cons_succ])
    refine wpAnyH_ready (rs := [3]) (by kernel_rfl) (by simp) ?_
    refine AllReadyH.cons (o := ⟨_, _, _, _, _, _⟩) rfl (fun K hK => ?_) AllReadyH.nil
    go_simp
    go_at_call 17; (with_reducible refine (HA1.out _ (QAt.below HQ1.out hHeld) (IntsAt.below HU.out hHeld)).mono ?_); rintro e x1 ⟨rfl, d1⟩; have hS' := bthen hHeld d1
    refine hK.out _ _ (by exact hS') (fun hHeld' => ?_)
    clear hHeld hK K
    have hHeld := hHeld'
    clear hHeld'
    try simp only [Act.put, List.setIfInBounds_toArray, List.set_cons_zero, List.set_cons_succ]
    refine wpAnyH_take (i := 4) (oi := ⟨_, _, _, _, _, _⟩) (v := ?_) rfl (by kernel_rfl) (by kernel_rfl) (by kernel_rfl) (fun _ _ _ h => h) (Or.inl ⟨by rfl, ?_⟩) (by assumption) ?_; rotate_left; (focus (intro w hSw; (try dsimp only at hSw); go_simp; try with_reducible rfl)); (try simp only [Act.put, List.setIfInBounds_toArray, List.set_cons_zero, List.set_cons_succ])
    refine wpAnyH_take (i := 5) (oi := ⟨_, _, _, _, _, _⟩) (v := ?_) rfl (by kernel_rfl) (by kernel_rfl) (by kernel_rfl) (fun _ _ _ h => h) (Or.inl ⟨by rfl, ?_⟩) (by assumption) ?_; rotate_left; (focus (intro w hSw; (try dsimp only at hSw); go_simp; try with_reducible rfl)); (try simp only [Act.put, List.setIfInBounds_toArray, List.set_cons_zero, List.set_cons_succ])
    first | (refine wpAnyH_take (i := 6) (oi := ⟨_, _, _, _, _, _⟩) rfl (by kernel_rfl) (by kernel_rfl) (by kernel_rfl) (fun _ _ _ h => h) (Or.inr ⟨by rfl, rfl⟩) (by assumption) ?_; (try simp only [Act.put, List.setIfInBounds_toArray, List.set_cons_zero, List.set_cons_succ])) | (refine wpAnyH_take (i := 6) (oi := ⟨_, _, _, _, _, _⟩) (v := ?_) rfl (by kernel_rfl) (by kernel_rfl) (by kernel_rfl) (fun _ _ _ h => h) (Or.inl ⟨by rfl, ?_⟩) (by assumption) ?_; rotate_left; (focus (intro w hSw; (try dsimp only at hSw); go_simp; try with_reducible rfl)); (try simp only [Act.put, List.setIfInBounds_toArray, List.set_cons_zero, List.set_cons_succ]))
    first | (refine wpAnyH_take (i := 7) (oi := ⟨_, _, _, _, _, _⟩) rfl (by kernel_rfl) (by kernel_rfl) (by kernel_rfl) (fun _ _ _ h => h) (Or.inr ⟨by rfl, rfl⟩) (by assumption) ?_; (try simp only [Act.put, List.setIfInBounds_toArray, List.set_cons_zero, List.set_cons_succ])) | (refine wpAnyH_take (i := 7) (oi := ⟨_, _, _, _, _, _⟩) (v := ?_) rfl (by kernel_rfl) (by kernel_rfl) (by kernel_rfl) (fun _ _ _ h => h) (Or.inl ⟨by rfl, ?_⟩) (by assumption) ?_; rotate_left; (focus (intro w hSw; (try dsimp only at hSw); go_simp; try with_reducible rfl)); (try simp only [Act.put, List.setIfInBounds_toArray, List.set_cons_zero, List.set_cons_succ]))
    first | (refine wpAnyH_take (i := 8) (oi := ⟨_, _, _, _, _, _⟩) rfl (by kernel_rfl) (by kernel_rfl) (by kernel_rfl) (fun _ _ _ h => h) (Or.inr ⟨by rfl, rfl⟩) (by assumption) ?_; (try simp only [Act.put, List.setIfInBounds_toArray, List.set_cons_zero, List.set_cons_succ])) | (refine wpAnyH_take (i := 8) (oi := ⟨_, _, _, _, _, _⟩) (v := ?_) rfl (by kernel_rfl) (by kernel_rfl) (by kernel_rfl) (fun _ _ _ h => h) (Or.inl ⟨by rfl, ?_⟩) (by assumption) ?_; rotate_left; (focus (intro w hSw; (try dsimp only at hSw); go_simp; try with_reducible rfl)); (try simp only [Act.put, List.setIfInBounds_toArray, List.set_cons_zero, List.set_cons_succ]))
    refine wpAnyH_take (i := 9) (oi := ⟨_, _, _, _, _, _⟩) (v := ?_) rfl (by kernel_rfl) (by kernel_rfl) (by kernel_rfl) (fun _ _ _ h => h) (Or.inl ⟨by rfl, ?_⟩) (by assumption) ?_; rotate_left; (focus (intro w hSw; (try dsimp only at hSw); go_simp; try with_reducible rfl)); (try simp only [Act.put, List.setIfInBounds_toArray, List.set_cons_zero, List.set_cons_succ])
    refine wpAnyH_take (i := 10) (oi := ⟨_, _, _, _, _, _⟩) (v := ?_) rfl (by kernel_rfl) (by kernel_rfl) (by kernel_rfl) (fun _ _ _ h => h) (Or.inl ⟨by rfl, ?_⟩) (by assumption) ?_; rotate_left; (focus (intro w hSw; (try dsimp only at hSw); go_simp; try with_reducible rfl)); (try simp only [Act.put, List.setIfInBounds_toArray, List.set_cons_zero, List.set_cons_succ])
    first | (refine wpAnyH_take (i := 11) (oi := ⟨_, _, _, _, _, _⟩) rfl (by kernel_rfl) (by kernel_rfl) (by kernel_rfl) (fun _ _ _ h => h) (Or.inr ⟨by rfl, rfl⟩) (by assumption) ?_; (try simp only [Act.put, List.setIfInBounds_toArray, List.set_cons_zero, List.set_cons_succ])) | (refine wpAnyH_take (i := 11) (oi := ⟨_, _, _, _, _, _⟩) (v := ?_) rfl (by kernel_rfl) (by kernel_rfl) (by kernel_rfl) (fun _ _ _ h => h) (Or.inl ⟨by rfl, ?_⟩) (by assumption) ?_; rotate_left; (focus (intro w hSw; (try dsimp only at hSw); go_simp; try with_reducible rfl)); (try simp only [Act.put, List.setIfInBounds_toArray, List.set_cons_zero, List.set_cons_succ]))
    first | (refine wpAnyH_take (i := 12) (oi := ⟨_, _, _, _, _, _⟩) rfl (by kernel_rfl) (by kernel_rfl) (by kernel_rfl) (fun _ _ _ h => h) (Or.inr ⟨by rfl, rfl⟩) (by assumption) ?_; (try simp only [Act.put, List.setIfInBounds_toArray, List.set_cons_zero, List.set_cons_succ])) | (refine wpAnyH_take (i := 12) (oi := ⟨_, _, _, _, _, _⟩) (v := ?_) rfl (by kernel_rfl) (by kernel_rfl) (by kernel_rfl) (fun _ _ _ h => h) (Or.inl ⟨by rfl, ?_⟩) (by assumption) ?_; rotate_left; (focus (intro w hSw; (try dsimp only at hSw); go_simp; try with_reducible rfl)); (try simp only [Act.put, List.setIfInBounds_toArray, List.set_cons_zero, List.set_cons_succ]))
    refine wpAnyH_ready (rs := [13]) (by kernel_rfl) (by simp) ?_
    refine AllReadyH.cons (o := ⟨_, _, _, _, _, _⟩) rfl (fun K hK => ?_) AllReadyH.nil
    go_simp
    go_at_call 18; (with_reducible refine (HA2.out _ (IntsAt.below HX.out hHeld) (IntsAt.below HM.out hHeld)).mono ?_); rintro e x2 ⟨rfl, d1⟩; have hS' := bthen hHeld d1
    refine hK.out _ _ (by exact hS') (fun hHeld' => ?_)
    clear hHeld hK K
    have hHeld := hHeld'
    clear hHeld'
    try simp only [Act.put, List.setIfInBounds_toArray, List.set_cons_zero, List.set_cons_succ]
    first | (refine wpAnyH_take (i := 14) (oi := ⟨_, _, _, _, _, _⟩) rfl (by kernel_rfl) (by kernel_rfl) (by kernel_rfl) (fun _ _ _ h => h) (Or.inr ⟨by rfl, rfl⟩) (by assumption) ?_; (try simp only [Act.put, List.setIfInBounds_toArray, List.set_cons_zero, List.set_cons_succ])) | (refine wpAnyH_take (i := 14) (oi := ⟨_, _, _, _, _, _⟩) (v := ?_) rfl (by kernel_rfl) (by kernel_rfl) (by kernel_rfl) (fun _ _ _ h => h) (Or.inl ⟨by rfl, ?_⟩) (by assumption) ?_; rotate_left; (focus (intro w hSw; (try dsimp only at hSw); go_simp; try with_reducible rfl)); (try simp only [Act.put, List.setIfInBounds_toArray, List.set_cons_zero, List.set_cons_succ]))
    refine wpAnyH_take (i := 15) (oi := ⟨_, _, _, _, _, _⟩) (v := ?_) rfl (by kernel_rfl) (by kernel_rfl) (by kernel_rfl) (fun _ _ _ h => h) (Or.inl ⟨by rfl, ?_⟩) (by assumption) ?_; rotate_left; (focus (intro w hSw; (try dsimp only at hSw); go_simp; try with_reducible rfl)); (try simp only [Act.put, List.setIfInBounds_toArray, List.set_cons_zero, List.set_cons_succ])
    refine wpAnyH_take (i := 16) (oi := ⟨_, _, _, _, _, _⟩) (v := ?_) rfl (by kernel_rfl) (by kernel_rfl) (by kernel_rfl) (fun _ _ _ h => h) (Or.inl ⟨by rfl, ?_⟩) (by assumption) ?_; rotate_left; (focus (intro w hSw; (try dsimp only at hSw); go_simp; try with_reducible rfl)); (try simp only [Act.put, List.setIfInBounds_toArray, List.set_cons_zero, List.set_cons_succ])
    first | (refine wpAnyH_take (i := 17) (oi := ⟨_, _, _, _, _, _⟩) rfl (by kernel_rfl) (by kernel_rfl) (by kernel_rfl) (fun _ _ _ h => h) (Or.inr ⟨by rfl, rfl⟩) (by assumption) ?_; (try simp only [Act.put, List.setIfInBounds_toArray, List.set_cons_zero, List.set_cons_succ])) | (refine wpAnyH_take (i := 17) (oi := ⟨_, _, _, _, _, _⟩) (v := ?_) rfl (by kernel_rfl) (by kernel_rfl) (by kernel_rfl) (fun _ _ _ h => h) (Or.inl ⟨by rfl, ?_⟩) (by assumption) ?_; rotate_left; (focus (intro w hSw; (try dsimp only at hSw); go_simp; try with_reducible rfl)); (try simp only [Act.put, List.setIfInBounds_toArray, List.set_cons_zero, List.set_cons_succ]))
    first | (refine wpAnyH_take (i := 18) (oi := ⟨_, _, _, _, _, _⟩) rfl (by kernel_rfl) (by kernel_rfl) (by kernel_rfl) (fun _ _ _ h => h) (Or.inr ⟨by rfl, rfl⟩) (by assumption) ?_; (try simp only [Act.put, List.setIfInBounds_toArray, List.set_cons_zero, List.set_cons_succ])) | (refine wpAnyH_take (i := 18) (oi := ⟨_, _, _, _, _, _⟩) (v := ?_) rfl (by kernel_rfl) (by kernel_rfl) (by kernel_rfl) (fun _ _ _ h => h) (Or.inl ⟨by rfl, ?_⟩) (by assumption) ?_; rotate_left; (focus (intro w hSw; (try dsimp only at hSw); have t1 := (HB1.out.below hSw).2.1; have t3 := (HB3.out.below hSw).2.1; have t4 := (HB4.out.below hSw).2.1; have t5 := (HB5.out.below hSw).2.1; have t6 := (HB6.out.below hSw).2.1; have t7 := (HB7.out.below hSw).2.1; have t8 := (HB8.out.below hSw).2.1; go_simp; try with_reducible rfl)); (try simp only [Act.put, List.setIfInBounds_toArray, List.set_cons_zero, List.set_cons_succ]))
    refine wpAnyH_ready (rs := [19]) (by kernel_rfl) (by simp) ?_
    refine AllReadyH.cons (o := ⟨_, _, _, _, _, _⟩) rfl (fun K hK => ?_) AllReadyH.nil
    go_simp
    go_at_call 19; (with_reducible refine (HS2.out _ (QAt.below HQ3.out hHeld)).mono ?_); rintro e x3 ⟨rfl, d1⟩; have hS' := bthen hHeld d1
    refine hK.out _ _ (by exact hS') (fun hHeld' => ?_)
    clear hHeld hK K
    have hHeld := hHeld'
    clear hHeld'
    try simp only [Act.put, List.setIfInBounds_toArray, List.set_cons_zero, List.set_cons_succ]
    first | (refine wpAnyH_take (i := 20) (oi := ⟨_, _, _, _, _, _⟩) rfl (by kernel_rfl) (by kernel_rfl) (by kernel_rfl) (fun _ _ _ h => h) (Or.inr ⟨by rfl, rfl⟩) (by assumption) ?_; (try simp only [Act.put, List.setIfInBounds_toArray, List.set_cons_zero, List.set_cons_succ])) | (refine wpAnyH_take (i := 20) (oi := ⟨_, _, _, _, _, _⟩) (v := ?_) rfl (by kernel_rfl) (by kernel_rfl) (by kernel_rfl) (fun _ _ _ h => h) (Or.inl ⟨by rfl, ?_⟩) (by assumption) ?_; rotate_left; (focus (intro w hSw; (try dsimp only at hSw); go_simp; try with_reducible rfl)); (try simp only [Act.put, List.setIfInBounds_toArray, List.set_cons_zero, List.set_cons_succ]))
    refine wpAnyH_take (i := 21) (oi := ⟨_, _, _, _, _, _⟩) (v := ?_) rfl (by kernel_rfl) (by kernel_rfl) (by kernel_rfl) (fun _ _ _ h => h) (Or.inl ⟨by rfl, ?_⟩) (by assumption) ?_; rotate_left; (focus (intro w hSw; (try dsimp only at hSw); go_simp; try with_reducible rfl)); (try simp only [Act.put, List.setIfInBounds_toArray, List.set_cons_zero, List.set_cons_succ])
    refine wpAnyH_take (i := 22) (oi := ⟨_, _, _, _, _, _⟩) (v := ?_) rfl (by kernel_rfl) (by kernel_rfl) (by kernel_rfl) (fun _ _ _ h => h) (Or.inl ⟨by rfl, ?_⟩) (by assumption) ?_; rotate_left; (focus (intro w hSw; (try dsimp only at hSw); go_simp; try with_reducible rfl)); (try simp only [Act.put, List.setIfInBounds_toArray, List.set_cons_zero, List.set_cons_succ])
    first | (refine wpAnyH_take (i := 23) (oi := ⟨_, _, _, _, _, _⟩) rfl (by kernel_rfl) (by kernel_rfl) (by kernel_rfl) (fun _ _ _ h => h) (Or.inr ⟨by rfl, rfl⟩) (by assumption) ?_; (try simp only [Act.put, List.setIfInBounds_toArray, List.set_cons_zero, List.set_cons_succ])) | (refine wpAnyH_take (i := 23) (oi := ⟨_, _, _, _, _, _⟩) (v := ?_) rfl (by kernel_rfl) (by kernel_rfl) (by kernel_rfl) (fun _ _ _ h => h) (Or.inl ⟨by rfl, ?_⟩) (by assumption) ?_; rotate_left; (focus (intro w hSw; (try dsimp only at hSw); go_simp; try with_reducible rfl)); (try simp only [Act.put, List.setIfInBounds_toArray, List.set_cons_zero, List.set_cons_succ]))
    first | (refine wpAnyH_take (i := 24) (oi := ⟨_, _, _, _, _, _⟩) rfl (by kernel_rfl) (by kernel_rfl) (by kernel_rfl) (fun _ _ _ h => h) (Or.inr ⟨by rfl, rfl⟩) (by assumption) ?_; (try simp only [Act.put, List.setIfInBounds_toArray, List.set_cons_zero, List.set_cons_succ])) | (refine wpAnyH_take (i := 24) (oi := ⟨_, _, _, _, _, _⟩) (v := ?_) rfl (by kernel_rfl) (by kernel_rfl) (by kernel_rfl) (fun _ _ _ h => h) (Or.inl ⟨by rfl, ?_⟩) (by assumption) ?_; rotate_left; (focus (intro w hSw; (try dsimp only at hSw); go_simp; try with_reducible rfl)); (try simp only [Act.put, List.setIfInBounds_toArray, List.set_cons_zero, List.set_cons_succ]))
    first | (refine wpAnyH_take (i := 25) (oi := ⟨_, _, _, _, _, _⟩) rfl (by kernel_rfl) (by kernel_rfl) (by kernel_rfl) (fun _ _ _ h => h) (Or.inr ⟨by rfl, rfl⟩) (by assumption) ?_; (try simp only [Act.put, List.setIfInBounds_toArray, List.set_cons_zero, List.set_cons_succ])) | (refine wpAnyH_take (i := 25) (oi := ⟨_, _, _, _, _, _⟩) (v := ?_) rfl (by kernel_rfl) (by kernel_rfl) (by kernel_rfl) (fun _ _ _ h => h) (Or.inl ⟨by rfl, ?_⟩) (by assumption) ?_; rotate_left; (focus (intro w hSw; (try dsimp only at hSw); go_simp; try with_reducible rfl)); (try simp only [Act.put, List.setIfInBounds_toArray, List.set_cons_zero, List.set_cons_succ]))
    first | (refine wpAnyH_take (i := 26) (oi := ⟨_, _, _, _, _, _⟩) rfl (by kernel_rfl) (by kernel_rfl) (by kernel_rfl) (fun _ _ _ h => h) (Or.inr ⟨by rfl, rfl⟩) (by assumption) ?_; (try simp only [Act.put, List.setIfInBounds_toArray, List.set_cons_zero, List.set_cons_succ])) | (refine wpAnyH_take (i := 26) (oi := ⟨_, _, _, _, _, _⟩) (v := ?_) rfl (by kernel_rfl) (by kernel_rfl) (by kernel_rfl) (fun _ _ _ h => h) (Or.inl ⟨by rfl, ?_⟩) (by assumption) ?_; rotate_left; (focus (intro w hSw; (try dsimp only at hSw); go_simp; try with_reducible rfl)); (try simp only [Act.put, List.setIfInBounds_toArray, List.set_cons_zero, List.set_cons_succ]))
    refine wpAnyH_take (i := 27) (oi := ⟨_, _, _, _, _, _⟩) (v := ?_) rfl (by kernel_rfl) (by kernel_rfl) (by kernel_rfl) (fun _ _ _ h => h) (Or.inl ⟨by rfl, ?_⟩) (by assumption) ?_; rotate_left; (focus (intro w hSw; (try dsimp only at hSw); go_simp; try with_reducible rfl)); (try simp only [Act.put, List.setIfInBounds_toArray, List.set_cons_zero, List.set_cons_succ])
    refine wpAnyH_take (i := 28) (oi := ⟨_, _, _, _, _, _⟩) (v := ?_) rfl (by kernel_rfl) (by kernel_rfl) (by kernel_rfl) (fun _ _ _ h => h) (Or.inl ⟨by rfl, ?_⟩) (by assumption) ?_; rotate_left; (focus (intro w hSw; (try dsimp only at hSw); go_simp; try with_reducible rfl)); (try simp only [Act.put, List.setIfInBounds_toArray, List.set_cons_zero, List.set_cons_succ])
    first | (refine wpAnyH_take (i := 29) (oi := ⟨_, _, _, _, _, _⟩) rfl (by kernel_rfl) (by kernel_rfl) (by kernel_rfl) (fun _ _ _ h => h) (Or.inr ⟨by rfl, rfl⟩) (by assumption) ?_; (try simp only [Act.put, List.setIfInBounds_toArray, List.set_cons_zero, List.set_cons_succ])) | (refine wpAnyH_take (i := 29) (oi := ⟨_, _, _, _, _, _⟩) (v := ?_) rfl (by kernel_rfl) (by kernel_rfl) (by kernel_rfl) (fun _ _ _ h => h) (Or.inl ⟨by rfl, ?_⟩) (by assumption) ?_; rotate_left; (focus (intro w hSw; (try dsimp only at hSw); go_simp; try with_reducible rfl)); (try simp only [Act.put, List.setIfInBounds_toArray, List.set_cons_zero, List.set_cons_succ]))
    first | (refine wpAnyH_take (i := 30) (oi := ⟨_, _, _, _, _, _⟩) rfl (by kernel_rfl) (by kernel_rfl) (by kernel_rfl) (fun _ _ _ h => h) (Or.inr ⟨by rfl, rfl⟩) (by assumption) ?_; (try simp only [Act.put, List.setIfInBounds_toArray, List.set_cons_zero, List.set_cons_succ])) | (refine wpAnyH_take (i := 30) (oi := ⟨_, _, _, _, _, _⟩) (v := ?_) rfl (by kernel_rfl) (by kernel_rfl) (by kernel_rfl) (fun _ _ _ h => h) (Or.inl ⟨by rfl, ?_⟩) (by assumption) ?_; rotate_left; (focus (intro w hSw; (try dsimp only at hSw); go_simp; try with_reducible rfl)); (try simp only [Act.put, List.setIfInBounds_toArray, List.set_cons_zero, List.set_cons_succ]))
    first | (refine wpAnyH_take (i := 31) (oi := ⟨_, _, _, _, _, _⟩) rfl (by kernel_rfl) (by kernel_rfl) (by kernel_rfl) (fun _ _ _ h => h) (Or.inr ⟨by rfl, rfl⟩) (by assumption) ?_; (try simp only [Act.put, List.setIfInBounds_toArray, List.set_cons_zero, List.set_cons_succ])) | (refine wpAnyH_take (i := 31) (oi := ⟨_, _, _, _, _, _⟩) (v := ?_) rfl (by kernel_rfl) (by kernel_rfl) (by kernel_rfl) (fun _ _ _ h => h) (Or.inl ⟨by rfl, ?_⟩) (by assumption) ?_; rotate_left; (focus (intro w hSw; (try dsimp only at hSw); have t1 := (HB1.out.below hSw).2.1; have t3 := (HB3.out.below hSw).2.1; have t4 := (HB4.out.below hSw).2.1; have t5 := (HB5.out.below hSw).2.1; have t6 := (HB6.out.below hSw).2.1; have t7 := (HB7.out.below hSw).2.1; have t8 := (HB8.out.below hSw).2.1; go_simp; try with_reducible rfl)); (try simp only [Act.put, List.setIfInBounds_toArray, List.set_cons_zero, List.set_cons_succ]))
    first | (refine wpAnyH_take (i := 32) (oi := ⟨_, _, _, _, _, _⟩) rfl (by kernel_rfl) (by kernel_rfl) (by kernel_rfl) (fun _ _ _ h => h) (Or.inr ⟨by rfl, rfl⟩) (by assumption) ?_; (try simp only [Act.put, List.setIfInBounds_toArray, List.set_cons_zero, List.set_cons_succ])) | (refine wpAnyH_take (i := 32) (oi := ⟨_, _, _, _, _, _⟩) (v := ?_) rfl (by kernel_rfl) (by kernel_rfl) (by kernel_rfl) (fun _ _ _ h => h) (Or.inl ⟨by rfl, ?_⟩) (by assumption) ?_; rotate_left; (focus (intro w hSw; (try dsimp only at hSw); have t1 := (HB1.out.below hSw).2.1; have t3 := (HB3.out.below hSw).2.1; have t4 := (HB4.out.below hSw).2.1; have t5 := (HB5.out.below hSw).2.1; have t6 := (HB6.out.below hSw).2.1; have t7 := (HB7.out.below hSw).2.1; have t8 := (HB8.out.below hSw).2.1; go_simp; try with_reducible rfl)); (try simp only [Act.put, List.setIfInBounds_toArray, List.set_cons_zero, List.set_cons_succ]))
    (refine wpAnyH_take (i := 33) (oi := ⟨_, _, _, _, _, _⟩) rfl (by kernel_rfl) (by kernel_rfl) (by kernel_rfl) (fun _ _ _ h => h) (Or.inr ⟨by rfl, rfl⟩) (by assumption) ?_; (try simp only [Act.put, List.setIfInBounds_toArray, List.set_cons_zero, List.set_cons_succ]))
    first | (refine wpAnyH_take (i := 34) (oi := ⟨_, _, _, _, _, _⟩) rfl (by kernel_rfl) (by kernel_rfl) (by kernel_rfl) (fun _ _ _ h => h) (Or.inr ⟨by rfl, rfl⟩) (by assumption) ?_; (try simp only [Act.put, List.setIfInBounds_toArray, List.set_cons_zero, List.set_cons_succ])) | (refine wpAnyH_take (i := 34) (oi := ⟨_, _, _, _, _, _⟩) (v := ?_) rfl (by kernel_rfl) (by kernel_rfl) (by kernel_rfl) (fun _ _ _ h => h) (Or.inl ⟨by rfl, ?_⟩) (by assumption) ?_; rotate_left; (focus (intro w hSw; (try dsimp only at hSw); go_simp; try with_reducible rfl)); (try simp only [Act.put, List.setIfInBounds_toArray, List.set_cons_zero, List.set_cons_succ]))
    first | (refine wpAnyH_take (i := 35) (oi := ⟨_, _, _, _, _, _⟩) rfl (by kernel_rfl) (by kernel_rfl) (by kernel_rfl) (fun _ _ _ h => h) (Or.inr ⟨by rfl, rfl⟩) (by assumption) ?_; (try simp only [Act.put, List.setIfInBounds_toArray, List.set_cons_zero, List.set_cons_succ])) | (refine wpAnyH_take (i := 35) (oi := ⟨_, _, _, _, _, _⟩) (v := ?_) rfl (by kernel_rfl) (by kernel_rfl) (by kernel_rfl) (fun _ _ _ h => h) (Or.inl ⟨by rfl, ?_⟩) (by assumption) ?_; rotate_left; (focus (intro w hSw; (try dsimp only at hSw); go_simp; try with_reducible rfl)); (try simp only [Act.put, List.setIfInBounds_toArray, List.set_cons_zero, List.set_cons_succ]))
    refine wpAnyH_take (i := 36) (oi := ⟨_, _, _, _, _, _⟩) (v := ?_) rfl (by kernel_rfl) (by kernel_rfl) (by kernel_rfl) (fun _ _ _ h => h) (Or.inl ⟨by rfl, ?_⟩) (by assumption) ?_; rotate_left; (focus (intro w hSw; (try dsimp only at hSw); go_simp; try with_reducible rfl)); (try simp only [Act.put, List.setIfInBounds_toArray, List.set_cons_zero, List.set_cons_succ])
    refine wpAnyH_take (i := 37) (oi := ⟨_, _, _, _, _, _⟩) (v := ?_) rfl (by kernel_rfl) (by kernel_rfl) (by kernel_rfl) (fun _ _ _ h => h) (Or.inl ⟨by rfl, ?_⟩) (by assumption) ?_; rotate_left; (focus (intro w hSw; (try dsimp only at hSw); go_simp; try with_reducible rfl)); (try simp only [Act.put, List.setIfInBounds_toArray, List.set_cons_zero, List.set_cons_succ])
    first | (refine wpAnyH_take (i := 38) (oi := ⟨_, _, _, _, _, _⟩) rfl (by kernel_rfl) (by kernel_rfl) (by kernel_rfl) (fun _ _ _ h => h) (Or.inr ⟨by rfl, rfl⟩) (by assumption) ?_; (try simp only [Act.put, List.setIfInBounds_toArray, List.set_cons_zero, List.set_cons_succ])) | (refine wpAnyH_take (i := 38) (oi := ⟨_, _, _, _, _, _⟩) (v := ?_) rfl (by kernel_rfl) (by kernel_rfl) (by kernel_rfl) (fun _ _ _ h => h) (Or.inl ⟨by rfl, ?_⟩) (by assumption) ?_; rotate_left; (focus (intro w hSw; (try dsimp only at hSw); go_simp; try with_reducible rfl)); (try simp only [Act.put, List.setIfInBounds_toArray, List.set_cons_zero, List.set_cons_succ]))
    first | (refine wpAnyH_take (i := 39) (oi := ⟨_, _, _, _, _, _⟩) rfl (by kernel_rfl) (by kernel_rfl) (by kernel_rfl) (fun _ _ _ h => h) (Or.inr ⟨by rfl, rfl⟩) (by assumption) ?_; (try simp only [Act.put, List.setIfInBounds_toArray, List.set_cons_zero, List.set_cons_succ])) | (refine wpAnyH_take (i := 39) (oi := ⟨_, _, _, _, _, _⟩) (v := ?_) rfl (by kernel_rfl) (by kernel_rfl) (by kernel_rfl) (fun _ _ _ h => h) (Or.inl ⟨by rfl, ?_⟩) (by assumption) ?_; rotate_left; (focus (intro w hSw; (try dsimp only at hSw); go_simp; try with_reducible rfl)); (try simp only [Act.put, List.setIfInBounds_toArray, List.set_cons_zero, List.set_cons_succ]))
    first | (refine wpAnyH_take (i := 40) (oi := ⟨_, _, _, _, _, _⟩) rfl (by kernel_rfl) (by kernel_rfl) (by kernel_rfl) (fun _ _ _ h => h) (Or.inr ⟨by rfl, rfl⟩) (by assumption) ?_; (try simp only [Act.put, List.setIfInBounds_toArray, List.set_cons_zero, List.set_cons_succ])) | (refine wpAnyH_take (i := 40) (oi := ⟨_, _, _, _, _, _⟩) (v := ?_) rfl (by kernel_rfl) (by kernel_rfl) (by kernel_rfl) (fun _ _ _ h => h) (Or.inl ⟨by rfl, ?_⟩) (by assumption) ?_; rotate_left; (focus (intro w hSw; (try dsimp only at hSw); go_simp; try with_reducible rfl)); (try simp only [Act.put, List.setIfInBounds_toArray, List.set_cons_zero, List.set_cons_succ]))
    refine wpAnyH_take (i := 41) (oi := ⟨_, _, _, _, _, _⟩) (v := ?_) rfl (by kernel_rfl) (by kernel_rfl) (by kernel_rfl) (fun _ _ _ h => h) (Or.inl ⟨by rfl, ?_⟩) (by assumption) ?_; rotate_left; (focus (intro w hSw; (try dsimp only at hSw); go_simp; try with_reducible rfl)); (try simp only [Act.put, List.setIfInBounds_toArray, List.set_cons_zero, List.set_cons_succ])
    refine wpAnyH_take (i := 42) (oi := ⟨_, _, _, _, _, _⟩) (v := ?_) rfl (by kernel_rfl) (by kernel_rfl) (by kernel_rfl) (fun _ _ _ h => h) (Or.inl ⟨by rfl, ?_⟩) (by assumption) ?_; rotate_left; (focus (intro w hSw; (try dsimp only at hSw); go_simp; try with_reducible rfl)); (try simp only [Act.put, List.setIfInBounds_toArray, List.set_cons_zero, List.set_cons_succ])
    first | (refine wpAnyH_take (i := 43) (oi := ⟨_, _, _, _, _, _⟩) rfl (by kernel_rfl) (by kernel_rfl) (by kernel_rfl) (fun _ _ _ h => h) (Or.inr ⟨by rfl, rfl⟩) (by assumption) ?_; (try simp only [Act.put, List.setIfInBounds_toArray, List.set_cons_zero, List.set_cons_succ])) | (refine wpAnyH_take (i := 43) (oi := ⟨_, _, _, _, _, _⟩) (v := ?_) rfl (by kernel_rfl) (by kernel_rfl) (by kernel_rfl) (fun _ _ _ h => h) (Or.inl ⟨by rfl, ?_⟩) (by assumption) ?_; rotate_left; (focus (intro w hSw; (try dsimp only at hSw); have t1 := (HB1.out.below hSw).2.1; have t3 := (HB3.out.below hSw).2.1; have t4 := (HB4.out.below hSw).2.1; have t5 := (HB5.out.below hSw).2.1; have t6 := (HB6.out.below hSw).2.1; have t7 := (HB7.out.below hSw).2.1; have t8 := (HB8.out.below hSw).2.1; go_simp; try with_reducible rfl)); (try simp only [Act.put, List.setIfInBounds_toArray, List.set_cons_zero, List.set_cons_succ]))
    first | (refine wpAnyH_take (i := 44) (oi := ⟨_, _, _, _, _, _⟩) rfl (by kernel_rfl) (by kernel_rfl) (by kernel_rfl) (fun _ _ _ h => h) (Or.inr ⟨by rfl, rfl⟩) (by assumption) ?_; (try simp only [Act.put, List.setIfInBounds_toArray, List.set_cons_zero, List.set_cons_succ])) | (refine wpAnyH_take (i := 44) (oi := ⟨_, _, _, _, _, _⟩) (v := ?_) rfl (by kernel_rfl) (by kernel_rfl) (by kernel_rfl) (fun _ _ _ h => h) (Or.inl ⟨by rfl, ?_⟩) (by assumption) ?_; rotate_left; (focus (intro w hSw; (try dsimp only at hSw); have t1 := (HB1.out.below hSw).2.1; have t3 := (HB3.out.below hSw).2.1; have t4 := (HB4.out.below hSw).2.1; have t5 := (HB5.out.below hSw).2.1; have t6 := (HB6.out.below hSw).2.1; have t7 := (HB7.out.below hSw).2.1; have t8 := (HB8.out.below hSw).2.1; go_simp; try with_reducible rfl)); (try simp only [Act.put, List.setIfInBounds_toArray, List.set_cons_zero, List.set_cons_succ]))
    refine wpAnyH_ready (rs := [45]) (by kernel_rfl) (by simp) ?_
    refine AllReadyH.cons (o := ⟨_, _, _, _, _, _⟩) rfl (fun K hK => ?_) AllReadyH.nil
    go_simp
    go_at_call 20; (with_reducible refine (HA3.out _ (QAt.below HQ5.out hHeld) (QAt.below HQ6.out hHeld)).mono ?_); rintro e x5 ⟨rfl, d1⟩; have hS' := bthen hHeld d1
    refine hK.out _ _ (by exact hS') (fun hHeld' => ?_)
    clear hHeld hK K
    have hHeld := hHeld'
    clear hHeld'
    try simp only [Act.put, List.setIfInBounds_toArray, List.set_cons_zero, List.set_cons_succ]
    first | (refine wpAnyH_take (i := 46) (oi := ⟨_, _, _, _, _, _⟩) rfl (by kernel_rfl) (by kernel_rfl) (by kernel_rfl) (fun _ _ _ h => h) (Or.inr ⟨by rfl, rfl⟩) (by assumption) ?_; (try simp only [Act.put, List.setIfInBounds_toArray, List.set_cons_zero, List.set_cons_succ])) | (refine wpAnyH_take (i := 46) (oi := ⟨_, _, _, _, _, _⟩) (v := ?_) rfl (by kernel_rfl) (by kernel_rfl) (by kernel_rfl) (fun _ _ _ h => h) (Or.inl ⟨by rfl, ?_⟩) (by assumption) ?_; rotate_left; (focus (intro w hSw; (try dsimp only at hSw); go_simp; try with_reducible rfl)); (try simp only [Act.put, List.setIfInBounds_toArray, List.set_cons_zero, List.set_cons_succ]))
    refine wpAnyH_take (i := 47) (oi := ⟨_, _, _, _, _, _⟩) (v := ?_) rfl (by kernel_rfl) (by kernel_rfl) (by kernel_rfl) (fun _ _ _ h => h) (Or.inl ⟨by rfl, ?_⟩) (by assumption) ?_; rotate_left; (focus (intro w hSw; (try dsimp only at hSw); go_simp; try with_reducible rfl)); (try simp only [Act.put, List.setIfInBounds_toArray, List.set_cons_zero, List.set_cons_succ])
    refine wpAnyH_take (i := 48) (oi := ⟨_, _, _, _, _, _⟩) (v := ?_) rfl (by kernel_rfl) (by kernel_rfl) (by kernel_rfl) (fun _ _ _ h => h) (Or.inl ⟨by rfl, ?_⟩) (by assumption) ?_; rotate_left; (focus (intro w hSw; (try dsimp only at hSw); go_simp; try with_reducible rfl)); (try simp only [Act.put, List.setIfInBounds_toArray, List.set_cons_zero, List.set_cons_succ])
    first | (refine wpAnyH_take (i := 49) (oi := ⟨_, _, _, _, _, _⟩) rfl (by kernel_rfl) (by kernel_rfl) (by kernel_rfl) (fun _ _ _ h => h) (Or.inr ⟨by rfl, rfl⟩) (by assumption) ?_; (try simp only [Act.put, List.setIfInBounds_toArray, List.set_cons_zero, List.set_cons_succ])) | (refine wpAnyH_take (i := 49) (oi := ⟨_, _, _, _, _, _⟩) (v := ?_) rfl (by kernel_rfl) (by kernel_rfl) (by kernel_rfl) (fun _ _ _ h => h) (Or.inl ⟨by rfl, ?_⟩) (by assumption) ?_; rotate_left; (focus (intro w hSw; (try dsimp only at hSw); have t1 := (HB1.out.below hSw).2.1; have t3 := (HB3.out.below hSw).2.1; have t4 := (HB4.out.below hSw).2.1; have t5 := (HB5.out.below hSw).2.1; have t6 := (HB6.out.below hSw).2.1; have t7 := (HB7.out.below hSw).2.1; have t8 := (HB8.out.below hSw).2.1; go_simp; try with_reducible rfl)); (try simp only [Act.put, List.setIfInBounds_toArray, List.set_cons_zero, List.set_cons_succ]))
    first | (refine wpAnyH_take (i := 50) (oi := ⟨_, _, _, _, _, _⟩) rfl (by kernel_rfl) (by kernel_rfl) (by kernel_rfl) (fun _ _ _ h => h) (Or.inr ⟨by rfl, rfl⟩) (by assumption) ?_; (try simp only [Act.put, List.setIfInBounds_toArray, List.set_cons_zero, List.set_cons_succ])) | (refine wpAnyH_take (i := 50) (oi := ⟨_, _, _, _, _, _⟩) (v := ?_) rfl (by kernel_rfl) (by kernel_rfl) (by kernel_rfl) (fun _ _ _ h => h) (Or.inl ⟨by rfl, ?_⟩) (by assumption) ?_; rotate_left; (focus (intro w hSw; (try dsimp only at hSw); have t1 := (HB1.out.below hSw).2.1; have t3 := (HB3.out.below hSw).2.1; have t4 := (HB4.out.below hSw).2.1; have t5 := (HB5.out.below hSw).2.1; have t6 := (HB6.out.below hSw).2.1; have t7 := (HB7.out.below hSw).2.1; have t8 := (HB8.out.below hSw).2.1; go_simp; try with_reducible rfl)); (try simp only [Act.put, List.setIfInBounds_toArray, List.set_cons_zero, List.set_cons_succ]))
    first | (refine wpAnyH_take (i := 52) (oi := ⟨_, _, _, _, _, _⟩) rfl (by kernel_rfl) (by kernel_rfl) (by kernel_rfl) (fun _ _ _ h => h) (Or.inr ⟨by rfl, rfl⟩) (by assumption) ?_; (try simp only [Act.put, List.setIfInBounds_toArray, List.set_cons_zero, List.set_cons_succ])) | (refine wpAnyH_take (i := 52) (oi := ⟨_, _, _, _, _, _⟩) (v := ?_) rfl (by kernel_rfl) (by kernel_rfl) (by kernel_rfl) (fun _ _ _ h => h) (Or.inl ⟨by rfl, ?_⟩) (by assumption) ?_; rotate_left; (focus (intro w hSw; (try dsimp only at hSw); have t1 := (HB1.out.below hSw).2.1; have t3 := (HB3.out.below hSw).2.1; have t4 := (HB4.out.below hSw).2.1; have t5 := (HB5.out.below hSw).2.1; have t6 := (HB6.out.below hSw).2.1; have t7 := (HB7.out.below hSw).2.1; have t8 := (HB8.out.below hSw).2.1; go_simp; try with_reducible rfl)); (try simp only [Act.put, List.setIfInBounds_toArray, List.set_cons_zero, List.set_cons_succ]))
    first | (refine wpAnyH_take (i := 53) (oi := ⟨_, _, _, _, _, _⟩) rfl (by kernel_rfl) (by kernel_rfl) (by kernel_rfl) (fun _ _ _ h => h) (Or.inr ⟨by rfl, rfl⟩) (by assumption) ?_; (try simp only [Act.put, List.setIfInBounds_toArray, List.set_cons_zero, List.set_cons_succ])) | (refine wpAnyH_take (i := 53) (oi := ⟨_, _, _, _, _, _⟩) (v := ?_) rfl (by kernel_rfl) (by kernel_rfl) (by kernel_rfl) (fun _ _ _ h => h) (Or.inl ⟨by rfl, ?_⟩) (by assumption) ?_; rotate_left; (focus (intro w hSw; (try dsimp only at hSw); have t1 := (HB1.out.below hSw).2.1; have t3 := (HB3.out.below hSw).2.1; have t4 := (HB4.out.below hSw).2.1; have t5 := (HB5.out.below hSw).2.1; have t6 := (HB6.out.below hSw).2.1; have t7 := (HB7.out.below hSw).2.1; have t8 := (HB8.out.below hSw).2.1; go_simp; try with_reducible rfl)); (try simp only [Act.put, List.setIfInBounds_toArray, List.set_cons_zero, List.set_cons_succ]))
    refine wpAnyH_ready (rs := [51]) (by kernel_rfl) (by simp) ?_
    refine AllReadyH.cons (o := ⟨_, _, _, _, _, _⟩) rfl (fun K hK => ?_) AllReadyH.nil
    go_simp
    go_at_call 21; (with_reducible refine (HA4.out _ (QAt.below HQ7.out hHeld) (QAt.below HQ8.out hHeld)).mono ?_); rintro e x6 ⟨rfl, d1⟩; have hS' := bthen hHeld d1
    refine hK.out _ _ (by exact hS') (fun hHeld' => ?_)
    clear hHeld hK K
    have hHeld := hHeld'
    clear hHeld'
    try simp only [Act.put, List.setIfInBounds_toArray, List.set_cons_zero, List.set_cons_succ]
    refine wpAnyH_ready (rs := [54]) (by kernel_rfl) (by simp) ?_
    refine AllReadyH.cons (o := ⟨_, _, _, _, _, _⟩) rfl (fun K hK => ?_) AllReadyH.nil
    go_simp
    go_at_call 20; (with_reducible refine (HA5.out _ (QAt.below HQ7.out hHeld) (QAt.below HQ8.out hHeld)).mono ?_); rintro e x7 ⟨rfl, d1⟩; have hS' := bthen hHeld d1
    refine hK.out _ _ (by exact hS') (fun hHeld' => ?_)
    clear hHeld hK K
    have hHeld := hHeld'
    clear hHeld'
    try simp only [Act.put, List.setIfInBounds_toArray, List.set_cons_zero, List.set_cons_succ]
    first | (refine wpAnyH_take (i := 55) (oi := ⟨_, _, _, _, _, _⟩) rfl (by kernel_rfl) (by kernel_rfl) (by kernel_rfl) (fun _ _ _ h => h) (Or.inr ⟨by rfl, rfl⟩) (by assumption) ?_; (try simp only [Act.put, List.setIfInBounds_toArray, List.set_cons_zero, List.set_cons_succ])) | (refine wpAnyH_take (i := 55) (oi := ⟨_, _, _, _, _, _⟩) (v := ?_) rfl (by kernel_rfl) (by kernel_rfl) (by kernel_rfl) (fun _ _ _ h => h) (Or.inl ⟨by rfl, ?_⟩) (by assumption) ?_; rotate_left; (focus (intro w hSw; (try dsimp only at hSw); go_simp; try with_reducible rfl)); (try simp only [Act.put, List.setIfInBounds_toArray, List.set_cons_zero, List.set_cons_succ]))
    refine wpAnyH_take (i := 56) (oi := ⟨_, _, _, _, _, _⟩) (v := ?_) rfl (by kernel_rfl) (by kernel_rfl) (by kernel_rfl) (fun _ _ _ h => h) (Or.inl ⟨by rfl, ?_⟩) (by assumption) ?_; rotate_left; (focus (intro w hSw; (try dsimp only at hSw); go_simp; try with_reducible rfl)); (try simp only [Act.put, List.setIfInBounds_toArray, List.set_cons_zero, List.set_cons_succ])
    refine wpAnyH_take (i := 57) (oi := ⟨_, _, _, _, _, _⟩) (v := ?_) rfl (by kernel_rfl) (by kernel_rfl) (by kernel_rfl) (fun _ _ _ h => h) (Or.inl ⟨by rfl, ?_⟩) (by assumption) ?_; rotate_left; (focus (intro w hSw; (try dsimp only at hSw); go_simp; try with_reducible rfl)); (try simp only [Act.put, List.setIfInBounds_toArray, List.set_cons_zero, List.set_cons_succ])
    first | (refine wpAnyH_take (i := 58) (oi := ⟨_, _, _, _, _, _⟩) rfl (by kernel_rfl) (by kernel_rfl) (by kernel_rfl) (fun _ _ _ h => h) (Or.inr ⟨by rfl, rfl⟩) (by assumption) ?_; (try simp only [Act.put, List.setIfInBounds_toArray, List.set_cons_zero, List.set_cons_succ])) | (refine wpAnyH_take (i := 58) (oi := ⟨_, _, _, _, _, _⟩) (v := ?_) rfl (by kernel_rfl) (by kernel_rfl) (by kernel_rfl) (fun _ _ _ h => h) (Or.inl ⟨by rfl, ?_⟩) (by assumption) ?_; rotate_left; (focus (intro w hSw; (try dsimp only at hSw); have t1 := (HB1.out.below hSw).2.1; have t3 := (HB3.out.below hSw).2.1; have t4 := (HB4.out.below hSw).2.1; have t5 := (HB5.out.below hSw).2.1; have t6 := (HB6.out.below hSw).2.1; have t7 := (HB7.out.below hSw).2.1; have t8 := (HB8.out.below hSw).2.1; go_simp; try with_reducible rfl)); (try simp only [Act.put, List.setIfInBounds_toArray, List.set_cons_zero, List.set_cons_succ]))
    first | (refine wpAnyH_take (i := 60) (oi := ⟨_, _, _, _, _, _⟩) rfl (by kernel_rfl) (by kernel_rfl) (by kernel_rfl) (fun _ _ _ h => h) (Or.inr ⟨by rfl, rfl⟩) (by assumption) ?_; (try simp only [Act.put, List.setIfInBounds_toArray, List.set_cons_zero, List.set_cons_succ])) | (refine wpAnyH_take (i := 60) (oi := ⟨_, _, _, _, _, _⟩) (v := ?_) rfl (by kernel_rfl) (by kernel_rfl) (by kernel_rfl) (fun _ _ _ h => h) (Or.inl ⟨by rfl, ?_⟩) (by assumption) ?_; rotate_left; (focus (intro w hSw; (try dsimp only at hSw); have t1 := (HB1.out.below hSw).2.1; have t3 := (HB3.out.below hSw).2.1; have t4 := (HB4.out.below hSw).2.1; have t5 := (HB5.out.below hSw).2.1; have t6 := (HB6.out.below hSw).2.1; have t7 := (HB7.out.below hSw).2.1; have t8 := (HB8.out.below hSw).2.1; go_simp; try with_reducible rfl)); (try simp only [Act.put, List.setIfInBounds_toArray, List.set_cons_zero, List.set_cons_succ]))
    refine wpAnyH_ready (rs := [59]) (by kernel_rfl) (by simp) ?_
    refine AllReadyH.cons (o := ⟨_, _, _, _, _, _⟩) rfl (fun K hK => ?_) AllReadyH.nil
    go_simp
    go_at_call 22; (with_reducible refine (HA6.out _ (QAt.below HQ3.out hHeld)).mono ?_); rintro e x8 ⟨rfl, d1⟩; have hS' := bthen hHeld d1
    refine hK.out _ _ (by exact hS') (fun hHeld' => ?_)
    clear hHeld hK K
    have hHeld := hHeld'
    clear hHeld'
    try simp only [Act.put, List.setIfInBounds_toArray, List.set_cons_zero, List.set_cons_succ]
    refine wpAnyH_ready (rs := [61]) (by kernel_rfl) (by simp) ?_
    refine AllReadyH.cons (o := ⟨_, _, _, _, _, _⟩) rfl (fun K hK => ?_) AllReadyH.nil
    go_simp
    go_at_call 23; (with_reducible refine (HA7.out _ (QAt.below HQ3.out hHeld)).mono ?_); rintro e w29 ⟨rfl, d1⟩; have hS' := bthen hHeld d1
    refine hK.out _ _ (by exact hS') (fun hHeld' => ?_)
    clear hHeld hK K
    have hHeld := hHeld'
    clear hHeld'
    try simp only [Act.put, List.setIfInBounds_toArray, List.set_cons_zero, List.set_cons_succ]
    first | (refine wpAnyH_take (i := 62) (oi := ⟨_, _, _, _, _, _⟩) rfl (by kernel_rfl) (by kernel_rfl) (by kernel_rfl) (fun _ _ _ h => h) (Or.inr ⟨by rfl, rfl⟩) (by assumption) ?_; (try simp only [Act.put, List.setIfInBounds_toArray, List.set_cons_zero, List.set_cons_succ])) | (refine wpAnyH_take (i := 62) (oi := ⟨_, _, _, _, _, _⟩) (v := ?_) rfl (by kernel_rfl) (by kernel_rfl) (by kernel_rfl) (fun _ _ _ h => h) (Or.inl ⟨by rfl, ?_⟩) (by assumption) ?_; rotate_left; (focus (intro w hSw; (try dsimp only at hSw); go_simp; try with_reducible rfl)); (try simp only [Act.put, List.setIfInBounds_toArray, List.set_cons_zero, List.set_cons_succ]))
    refine wpAnyH_take (i := 63) (oi := ⟨_, _, _, _, _, _⟩) (v := ?_) rfl (by kernel_rfl) (by kernel_rfl) (by kernel_rfl) (fun _ _ _ h => h) (Or.inl ⟨by rfl, ?_⟩) (by assumption) ?_; rotate_left; (focus (intro w hSw; (try dsimp only at hSw); go_simp; try with_reducible rfl)); (try simp only [Act.put, List.setIfInBounds_toArray, List.set_cons_zero, List.set_cons_succ])
    refine wpAnyH_done (by kernel_rfl) ?_ _
    have hb := hHeld
    clear hHeld HA1 HA2 HA3 HA4 HA5 HA6 HA7 HA8 HS2 HB3 HB4 HB5 HB6 HB7 HB8 HQ3 HQ4 HQ5 HQ6 HQ7 HQ8 HM
    try (have Hn1 := Lib.hid (HB1.out.below hb); clear HB1; have HB1 := Hn1; clear Hn1)
    try (have Hn1 := Lib.hid (QAt.below HQ1.out hb); clear HQ1; have HQ1 := Hn1; clear Hn1)
    try (have Hn1 := Lib.hid (HB2.out.below hb); clear HB2; have HB2 := Hn1; clear Hn1)
    try (have Hn1 := Lib.hid (QAt.below HQ2.out hb); clear HQ2; have HQ2 := Hn1; clear Hn1)
    try (have Hn1 := Lib.hid (HB3.out.below hb); clear HB3; have HB3 := Hn1; clear Hn1)
    try (have Hn1 := Lib.hid (QAt.below HQ3.out hb); clear HQ3; have HQ3 := Hn1; clear Hn1)
    try (have Hn1 := Lib.hid (HB4.out.below hb); clear HB4; have HB4 := Hn1; clear Hn1)
    try (have Hn1 := Lib.hid (QAt.below HQ4.out hb); clear HQ4; have HQ4 := Hn1; clear Hn1)
    try (have Hn1 := Lib.hid (HB5.out.below hb); clear HB5; have HB5 := Hn1; clear Hn1)
    try (have Hn1 := Lib.hid (QAt.below HQ5.out hb); clear HQ5; have HQ5 := Hn1; clear Hn1)
    try (have Hn1 := Lib.hid (HB6.out.below hb); clear HB6; have HB6 := Hn1; clear Hn1)
    try (have Hn1 := Lib.hid (QAt.below HQ6.out hb); clear HQ6; have HQ6 := Hn1; clear Hn1)
    try (have Hn1 := Lib.hid (HB7.out.below hb); clear HB7; have HB7 := Hn1; clear Hn1)
    try (have Hn1 := Lib.hid (QAt.below HQ7.out hb); clear HQ7; have HQ7 := Hn1; clear Hn1)
    try (have Hn1 := Lib.hid (HB8.out.below hb); clear HB8; have HB8 := Hn1; clear Hn1)
    try (have Hn1 := Lib.hid (QAt.below HQ8.out hb); clear HQ8; have HQ8 := Hn1; clear Hn1)
    try (have Hn1 := Lib.hid (HU.out.below hb); clear HU; have HU := Hn1; clear Hn1)
    try (have Hn1 := Lib.hid (HX.out.below hb); clear HX; have HX := Hn1; clear Hn1)
    try (have Hn1 := Lib.hid (HM.out.below hb); clear HM; have HM := Hn1; clear Hn1)
    try (have Hn1 := Lib.hid (HTab.out.below hb); clear HTab; have HTab := Hn1; clear Hn1)
    have Hn2 := bthen hb0 hb
    clear hb0 hb
    have hb0 := Hn2
    clear Hn2
    have HKE := Lib.hid (fun W a b => iMatchesQuery_c t6 (.slice y6a y6n y6c) (.slice z6a z6n z6c) (.slice xa xn xc) (easyL t6) W a b)
    by_cases hc : easyCode t6 = 0
    · rw [easy_match hc] at HKE
      rw [hc]
      clear hc
      have e6 := HB2.out.2.1
      generalize easyL t6 = EL at *
      go_wp2_with fail
      refine (HKE.out _ HQ2.out HX.out).mono ?_
      rintro e w30 ⟨rfl, hb⟩
      clear HKE e6
      try (have Hn1 := Lib.hid (HB1.out.below hb); clear HB1; have HB1 := Hn1; clear Hn1)
      try (have Hn1 := Lib.hid (QAt.below HQ1.out hb); clear HQ1; have HQ1 := Hn1; clear Hn1)
      try (have Hn1 := Lib.hid (HB2.out.below hb); clear HB2; have HB2 := Hn1; clear Hn1)
      try (have Hn1 := Lib.hid (QAt.below HQ2.out hb); clear HQ2; have HQ2 := Hn1; clear Hn1)
      try (have Hn1 := Lib.hid (HB3.out.below hb); clear HB3; have HB3 := Hn1; clear Hn1)
      try (have Hn1 := Lib.hid (QAt.below HQ3.out hb); clear HQ3; have HQ3 := Hn1; clear Hn1)
      try (have Hn1 := Lib.hid (HB4.out.below hb); clear HB4; have HB4 := Hn1; clear Hn1)
      try (have Hn1 := Lib.hid (QAt.below HQ4.out hb); clear HQ4; have HQ4 := Hn1; clear Hn1)
      try (have Hn1 := Lib.hid (HB5.out.below hb); clear HB5; have HB5 := Hn1; clear Hn1)
      try (have Hn1 := Lib.hid (QAt.below HQ5.out hb); clear HQ5; have HQ5 := Hn1; clear Hn1)
      try (have Hn1 := Lib.hid (HB6.out.below hb); clear HB6; have HB6 := Hn1; clear Hn1)
      try (have Hn1 := Lib.hid (QAt.below HQ6.out hb); clear HQ6; have HQ6 := Hn1; clear Hn1)
      try (have Hn1 := Lib.hid (HB7.out.below hb); clear HB7; have HB7 := Hn1; clear Hn1)
      try (have Hn1 := Lib.hid (QAt.below HQ7.out hb); clear HQ7; have HQ7 := Hn1; clear Hn1)
      try (have Hn1 := Lib.hid (HB8.out.below hb); clear HB8; have HB8 := Hn1; clear Hn1)
      try (have Hn1 := Lib.hid (QAt.below HQ8.out hb); clear HQ8; have HQ8 := Hn1; clear Hn1)
      try (have Hn1 := Lib.hid (HU.out.below hb); clear HU; have HU := Hn1; clear Hn1)
      try (have Hn1 := Lib.hid (HX.out.below hb); clear HX; have HX := Hn1; clear Hn1)
      try (have Hn1 := Lib.hid (HM.out.below hb); clear HM; have HM := Hn1; clear Hn1)
      try (have Hn1 := Lib.hid (HTab.out.below hb); clear HTab; have HTab := Hn1; clear Hn1)
      have Hn2 := bthen hb0 hb
      clear hb0 hb
      have hb0 := Hn2
      clear Hn2
      cases mb
      · go_wp2
        go_ret
        exact Gives.bool rfl hb0
      · generalize hW : w30 = W0 at *
        clear hW
        have hmq := Hmq.out
        have hok : okPat u = true := by
          unfold mqB at hmq
          simp only [Bool.and_eq_true] at hmq
          exact hmq.2.1
        have Hin2 := Lib.hid (throwsIn (okPat_throws hok))
        have hul := (throwsB_nth (okPat_throws hok)).2
        obtain ⟨_, _, _, he, hun, -, -, huc⟩ := HU.out
        injection he with he1 he2 he3
        subst he1 he2 he3
        have hp12 : 1 ≤ pn ∧ pn ≤ 12 := by omega
        have Hun := Lib.hid hun
        have Huc := Lib.hid huc
        clear hmq hok hul hun huc
        go_wp2
        go_loopw [22, 23] (fun o i wr => ∃ (k : Nat) (a' : Option Addr) (n' c' : Nat), i = .int .i64 k ∧ k ≤ pn ∧ o = .slice a' n' c' ∧ Hid (OwnInts wr W0.heap.size (.slice a' n' c') (u.take k)) ∧ Below W0.heap.size W0 wr) (fun _ i _ => pn - (intOf i).toNat)
        case atStart => exact ⟨0, _, _, _, rfl, Nat.zero_le _, rfl, Lib.hid (by rw [List.take_zero]; exact own_empty W0), by go_grown⟩
        case round =>
          obtain ⟨k, a', n', c', rfl, hk, rfl, HO, hb⟩ := hrel
          by_cases hlt : k < pn
          · have HT : Hid (u.take k ++ [nth u k] = u.take (k + 1)) := Lib.hid (take_nth u k (by rw [← Hun.out]; exact hlt)).symm
            obtain ⟨b, o, rfl, hbs, c0⟩ := Huc.out k (by rw [← Hun.out]; exact hlt)
            have c1 := cell_then hbs c0 hb
            have hsz := hb.size
            have HL : Hid ((u.take k).length ≤ 12) := Lib.hid (by rw [List.length_take]; have := Hun.out; omega)
            generalize nth u k = x at *
            clear c0
            go_wp2_with (at_builtin; refine wpList_app_ints rfl _ _ rfl W0.heap.size _ _ rfl (HO.out.alloc _) _ _ _ [x] rfl rfl (ints_new _ _ _) (by have := HL.out; simp only [List.length_cons, List.length_nil]; omega) (by simp; omega) ?_)
            intro a7 n7 c7 w7 ho7 hg7 _ hn7; clear hn7
            have hb7 : Below W0.heap.size W0 w7 := (hb.alloc hsz _).grown hg7 (by simp; omega) (fun g hg => (World.ownsRow.lt HO.out g hg).1)
            have HO7 : Hid (OwnInts w7 W0.heap.size (.slice a7 n7 c7) (u.take (k + 1))) := Lib.hid (by rw [← HT.out]; exact ho7)
            clear ho7 hg7 HO c1 hb HT HL
            go_wp2
            exact ⟨⟨k + 1, a7, n7, c7, by go_num, hlt, rfl, HO7, hb7⟩, by simp [intOf]; omega⟩
          · obtain rfl : k = pn := by omega
            have HO2 : Hid (OwnInts wr W0.heap.size (.slice a' n' c') u) := Lib.hid (by
              have h := HO.out
              rw [List.take_of_length_le (by rw [← Hun.out]; exact Nat.le_refl _)] at h
              exact h)
            obtain ⟨hn, hh⟩ := ownHead HO2.out
            rw [← Hun.out] at hn
            obtain rfl : k = n' := hn.symm
            obtain ⟨g, rfl, hg⟩ := hh (by omega)
            clear HO hh
            have hw1 : IntKind.i64.wrap ((k : Int) - 1) = (k : Int) - 1 := IntWalk.i64_in _ (by omega)
            go_wp2
            clear hw1
            generalize hW1 : wr = W1 at *
            clear hW1
            go_loopw [24] (fun kv wr => ∃ t : Int, kv = .int .i64 t ∧ -1 ≤ t ∧ t < (k : Int) ∧ Hid (∀ i : Nat, t < (i : Int) → i < u.length → nth u i = 0) ∧ Below W1.heap.size W1 wr) (fun kv _ => (intOf kv + 1).toNat)
            case atStart => exact ⟨(k : Int) - 1, rfl, by omega, by omega, Lib.hid (fun i h1 h2 => by have := Hun.out; omega), Below.refl _ _⟩
            case round =>
              obtain ⟨t, rfl, ht0, htk, HZ, hb1⟩ := hrel
              by_cases ht : 0 ≤ t
              · obtain ⟨i, rfl⟩ : ∃ i : Nat, t = (i : Int) := ⟨t.toNat, by omega⟩
                have hik : i < k := by omega
                have hiu : i < u.length := by rw [← Hun.out]; exact hik
                have HO3 := Lib.hid (own_below HO2.out hb1)
                obtain ⟨e0, f0⟩ := ownCell HO3.out i hiu
                have hx := Hin2.out _ (mem_nth hiu)
                by_cases hx0 : nth u i = 0
                · have HZ2 : Hid (∀ j : Nat, (i : Int) - 1 < (j : Int) → j < u.length → nth u j = 0) := Lib.hid (fun j h1 h2 => by
                    rcases Nat.lt_or_ge i j with h3 | h3
                    · exact HZ.out j (by omega) h2
                    · obtain rfl : j = i := by omega
                      exact hx0)
                  rw [hx0] at e0
                  clear hx0 hx HZ hiu
                  have hw1 : IntKind.i64.wrap ((i : Int) - 1) = (i : Int) - 1 := IntWalk.i64_in _ (by omega)
                  go_wp2
                  exact ⟨⟨(i : Int) - 1, by go_num, by omega, by omega, HZ2, hb1⟩, by simp [intOf] <;> omega⟩
                · have Hx0 := Lib.hid hx0
                  have hbef := before_law Hmq.out hiu hx0 (fun j h1 h2 => HZ.out j (by omega) h2)
                  have Hbef := Lib.hid hbef
                  have HF := Lib.hid (fill_bef u i hiu)
                  have hxe : (nth u i == 0) = false := beq_eq_false_iff_ne.2 hx0
                  have hb2 := bthen hb hb1
                  clear hbef hx0 HZ
                  generalize nth u i = x at *
                  have hw1 : IntKind.i64.wrap (x - 1) = x - 1 := IntWalk.i64_in _ (by omega)
                  go_wp2
                  clear e0 f0 hw1 hxe
                  have HO4 := Lib.hid (ownSet HO3.out i (x - 1))
                  have hb3 : Below W0.heap.size W0 (wr.setCell ⟨g, i, none⟩ (.int .i64 (x - 1))) := hb2.setCell hg _
                  generalize wr.setCell ⟨g, i, none⟩ (.int .i64 (x - 1)) = W2 at *
                  clear HO3 hb2 hb1
                  go_loopw [25] (fun jv wr => ∃ m : Nat, jv = .int .i64 m ∧ i + 1 ≤ m ∧ m ≤ k ∧ Hid (OwnInts wr W0.heap.size (.slice (some ⟨g, 0, none⟩) k c') (fillL (u.set i (x - 1)) (i + 1) (m - (i + 1)))) ∧ Below W0.heap.size W0 wr) (fun jv _ => k - (intOf jv).toNat)
                  case atStart => exact ⟨i + 1, by go_num, Nat.le_refl _, hik, Lib.hid (by rw [Nat.sub_self]; exact HO4.out), hb3⟩
                  case round =>
                    obtain ⟨m, rfl, him, hmk, HO5, hb5⟩ := hrel
                    by_cases hlt : m < k
                    · obtain ⟨e0, f0⟩ := ownCell HO5.out m (by rw [fillL_len, List.length_set, ← Hun.out]; exact hlt)
                      have HO6 : Hid (OwnInts (wr.setCell ⟨g, m, none⟩ (.int .i64 15)) W0.heap.size (.slice (some ⟨g, 0, none⟩) k c') (fillL (u.set i (x - 1)) (i + 1) (m + 1 - (i + 1)))) := Lib.hid (by
                        have h := ownSet HO5.out m 15
                        have e : m + 1 - (i + 1) = (m - (i + 1)) + 1 := by omega
                        have e2 : i + 1 + (m - (i + 1)) = m := by omega
                        rw [e]
                        show OwnInts _ _ _ ((fillL (u.set i (x - 1)) (i + 1) (m - (i + 1))).set (i + 1 + (m - (i + 1))) 15)
                        rw [e2]; exact h)
                      have hb6 : Below W0.heap.size W0 (wr.setCell ⟨g, m, none⟩ (.int .i64 15)) := hb5.setCell hg _
                      generalize hxl : nth (fillL (u.set i (x - 1)) (i + 1) (m - (i + 1))) m = y at *
                      clear hxl HO5
                      go_wp2
                      exact ⟨⟨m + 1, by go_num, by omega, hlt, HO6, hb6⟩, by simp [intOf]; omega⟩
                    · obtain rfl : m = k := by omega
                      have HO6 : Hid (OwnInts wr W0.heap.size (.slice (some ⟨g, 0, none⟩) m c') (befL u i)) := Lib.hid (by
                        have h := HO5.out
                        have e := HF.out
                        rw [← Hun.out] at e
                        rw [e] at h
                        exact h)
                      clear HO5 HF HO4
                      have e3 := (HB1.out.below hb5).2.1
                      go_wp2_with fail
                      refine (iNextFound_c q _ _ _ _ wr (QAt.below HQ1.out hb5) (OwnInts.at HO6.out)).mono ?_
                      rintro e w9 ⟨na, nn, nc, rfl, ho, hb9⟩
                      have HN := Lib.hid (OwnInts.at ho)
                      have hbz := bthen hb0 (bthen hb5 hb9)
                      clear ho e3
                      rcases Hbef.out with h5 | ⟨h0, hl⟩
                      · rw [h5]
                        clear h5 Hbef
                        go_wp2
                        go_ret
                        exact Gives.bool rfl hbz
                      · rw [hl] at HN
                        rw [h0]
                        have HU9 := Lib.hid (IntsAt.below HU.out (bthen hb5 hb9))
                        clear h0 hl Hbef
                        go_wp2_with fail
                        have h := f6ints_c _ _ _ _ w9 HN.out HU9.out
                        rw [eqI_self] at h
                        refine h.mono ?_
                        rintro e w10 ⟨rfl, hb10⟩
                        have hbz2 := bthen hbz hb10
                        clear h hb10 hbz
                        go_wp2
                        go_ret
                        exact Gives.bool rfl hbz2
              · obtain rfl : t = -1 := by omega
                have hbz := bthen hb0 (bthen hb hb1)
                clear HZ
                go_wp2
                go_ret
                exact Gives.bool rfl hbz
    · have hcb : (easyCode t6 == 0) = false := beq_eq_false_iff_ne.2 hc
      clear hc HKE
      generalize easyCode t6 = code at *
      generalize easyL t6 = EL at *
      cases mb
      · go_wp2
        go_ret
        exact Gives.bool rfl hb0
      · generalize hW : w29 = W0 at *
        clear hW
        have hmq := Hmq.out
        have hok : okPat u = true := by
          unfold mqB at hmq
          simp only [Bool.and_eq_true] at hmq
          exact hmq.2.1
        have Hin2 := Lib.hid (throwsIn (okPat_throws hok))
        have hul := (throwsB_nth (okPat_throws hok)).2
        obtain ⟨_, _, _, he, hun, -, -, huc⟩ := HU.out
        injection he with he1 he2 he3
        subst he1 he2 he3
        have hp12 : 1 ≤ pn ∧ pn ≤ 12 := by omega
        have Hun := Lib.hid hun
        have Huc := Lib.hid huc
        clear hmq hok hul hun huc
        go_wp2
        go_loopw [22, 23] (fun o i wr => ∃ (k : Nat) (a' : Option Addr) (n' c' : Nat), i = .int .i64 k ∧ k ≤ pn ∧ o = .slice a' n' c' ∧ Hid (OwnInts wr W0.heap.size (.slice a' n' c') (u.take k)) ∧ Below W0.heap.size W0 wr) (fun _ i _ => pn - (intOf i).toNat)
        case atStart => exact ⟨0, _, _, _, rfl, Nat.zero_le _, rfl, Lib.hid (by rw [List.take_zero]; exact own_empty W0), by go_grown⟩
        case round =>
          obtain ⟨k, a', n', c', rfl, hk, rfl, HO, hb⟩ := hrel
          by_cases hlt : k < pn
          · have HT : Hid (u.take k ++ [nth u k] = u.take (k + 1)) := Lib.hid (take_nth u k (by rw [← Hun.out]; exact hlt)).symm
            obtain ⟨b, o, rfl, hbs, c0⟩ := Huc.out k (by rw [← Hun.out]; exact hlt)
            have c1 := cell_then hbs c0 hb
            have hsz := hb.size
            have HL : Hid ((u.take k).length ≤ 12) := Lib.hid (by rw [List.length_take]; have := Hun.out; omega)
            generalize nth u k = x at *
            clear c0
            go_wp2_with (at_builtin; refine wpList_app_ints rfl _ _ rfl W0.heap.size _ _ rfl (HO.out.alloc _) _ _ _ [x] rfl rfl (ints_new _ _ _) (by have := HL.out; simp only [List.length_cons, List.length_nil]; omega) (by simp; omega) ?_)
            intro a7 n7 c7 w7 ho7 hg7 _ hn7; clear hn7
            have hb7 : Below W0.heap.size W0 w7 := (hb.alloc hsz _).grown hg7 (by simp; omega) (fun g hg => (World.ownsRow.lt HO.out g hg).1)
            have HO7 : Hid (OwnInts w7 W0.heap.size (.slice a7 n7 c7) (u.take (k + 1))) := Lib.hid (by rw [← HT.out]; exact ho7)
            clear ho7 hg7 HO c1 hb HT HL
            go_wp2
            exact ⟨⟨k + 1, a7, n7, c7, by go_num, hlt, rfl, HO7, hb7⟩, by simp [intOf]; omega⟩
          · obtain rfl : k = pn := by omega
            have HO2 : Hid (OwnInts wr W0.heap.size (.slice a' n' c') u) := Lib.hid (by
              have h := HO.out
              rw [List.take_of_length_le (by rw [← Hun.out]; exact Nat.le_refl _)] at h
              exact h)
            obtain ⟨hn, hh⟩ := ownHead HO2.out
            rw [← Hun.out] at hn
            obtain rfl : k = n' := hn.symm
            obtain ⟨g, rfl, hg⟩ := hh (by omega)
            clear HO hh
            have hw1 : IntKind.i64.wrap ((k : Int) - 1) = (k : Int) - 1 := IntWalk.i64_in _ (by omega)
            go_wp2
            clear hw1
            generalize hW1 : wr = W1 at *
            clear hW1
            go_loopw [24] (fun kv wr => ∃ t : Int, kv = .int .i64 t ∧ -1 ≤ t ∧ t < (k : Int) ∧ Hid (∀ i : Nat, t < (i : Int) → i < u.length → nth u i = 0) ∧ Below W1.heap.size W1 wr) (fun kv _ => (intOf kv + 1).toNat)
            case atStart => exact ⟨(k : Int) - 1, rfl, by omega, by omega, Lib.hid (fun i h1 h2 => by have := Hun.out; omega), Below.refl _ _⟩
            case round =>
              obtain ⟨t, rfl, ht0, htk, HZ, hb1⟩ := hrel
              by_cases ht : 0 ≤ t
              · obtain ⟨i, rfl⟩ : ∃ i : Nat, t = (i : Int) := ⟨t.toNat, by omega⟩
                have hik : i < k := by omega
                have hiu : i < u.length := by rw [← Hun.out]; exact hik
                have HO3 := Lib.hid (own_below HO2.out hb1)
                obtain ⟨e0, f0⟩ := ownCell HO3.out i hiu
                have hx := Hin2.out _ (mem_nth hiu)
                by_cases hx0 : nth u i = 0
                · have HZ2 : Hid (∀ j : Nat, (i : Int) - 1 < (j : Int) → j < u.length → nth u j = 0) := Lib.hid (fun j h1 h2 => by
                    rcases Nat.lt_or_ge i j with h3 | h3
                    · exact HZ.out j (by omega) h2
                    · obtain rfl : j = i := by omega
                      exact hx0)
                  rw [hx0] at e0
                  clear hx0 hx HZ hiu
                  have hw1 : IntKind.i64.wrap ((i : Int) - 1) = (i : Int) - 1 := IntWalk.i64_in _ (by omega)
                  go_wp2
                  exact ⟨⟨(i : Int) - 1, by go_num, by omega, by omega, HZ2, hb1⟩, by simp [intOf] <;> omega⟩
                · have Hx0 := Lib.hid hx0
                  have hbef := before_law Hmq.out hiu hx0 (fun j h1 h2 => HZ.out j (by omega) h2)
                  have Hbef := Lib.hid hbef
                  have HF := Lib.hid (fill_bef u i hiu)
                  have hxe : (nth u i == 0) = false := beq_eq_false_iff_ne.2 hx0
                  have hb2 := bthen hb hb1
                  clear hbef hx0 HZ
                  generalize nth u i = x at *
                  have hw1 : IntKind.i64.wrap (x - 1) = x - 1 := IntWalk.i64_in _ (by omega)
                  go_wp2
                  clear e0 f0 hw1 hxe
                  have HO4 := Lib.hid (ownSet HO3.out i (x - 1))
                  have hb3 : Below W0.heap.size W0 (wr.setCell ⟨g, i, none⟩ (.int .i64 (x - 1))) := hb2.setCell hg _
                  generalize wr.setCell ⟨g, i, none⟩ (.int .i64 (x - 1)) = W2 at *
                  clear HO3 hb2 hb1
                  go_loopw [25] (fun jv wr => ∃ m : Nat, jv = .int .i64 m ∧ i + 1 ≤ m ∧ m ≤ k ∧ Hid (OwnInts wr W0.heap.size (.slice (some ⟨g, 0, none⟩) k c') (fillL (u.set i (x - 1)) (i + 1) (m - (i + 1)))) ∧ Below W0.heap.size W0 wr) (fun jv _ => k - (intOf jv).toNat)
                  case atStart => exact ⟨i + 1, by go_num, Nat.le_refl _, hik, Lib.hid (by rw [Nat.sub_self]; exact HO4.out), hb3⟩
                  case round =>
                    obtain ⟨m, rfl, him, hmk, HO5, hb5⟩ := hrel
                    by_cases hlt : m < k
                    · obtain ⟨e0, f0⟩ := ownCell HO5.out m (by rw [fillL_len, List.length_set, ← Hun.out]; exact hlt)
                      have HO6 : Hid (OwnInts (wr.setCell ⟨g, m, none⟩ (.int .i64 15)) W0.heap.size (.slice (some ⟨g, 0, none⟩) k c') (fillL (u.set i (x - 1)) (i + 1) (m + 1 - (i + 1)))) := Lib.hid (by
                        have h := ownSet HO5.out m 15
                        have e : m + 1 - (i + 1) = (m - (i + 1)) + 1 := by omega
                        have e2 : i + 1 + (m - (i + 1)) = m := by omega
                        rw [e]
                        show OwnInts _ _ _ ((fillL (u.set i (x - 1)) (i + 1) (m - (i + 1))).set (i + 1 + (m - (i + 1))) 15)
                        rw [e2]; exact h)
                      have hb6 : Below W0.heap.size W0 (wr.setCell ⟨g, m, none⟩ (.int .i64 15)) := hb5.setCell hg _
                      generalize hxl : nth (fillL (u.set i (x - 1)) (i + 1) (m - (i + 1))) m = y at *
                      clear hxl HO5
                      go_wp2
                      exact ⟨⟨m + 1, by go_num, by omega, hlt, HO6, hb6⟩, by simp [intOf]; omega⟩
                    · obtain rfl : m = k := by omega
                      have HO6 : Hid (OwnInts wr W0.heap.size (.slice (some ⟨g, 0, none⟩) m c') (befL u i)) := Lib.hid (by
                        have h := HO5.out
                        have e := HF.out
                        rw [← Hun.out] at e
                        rw [e] at h
                        exact h)
                      clear HO5 HF HO4
                      have e3 := (HB1.out.below hb5).2.1
                      go_wp2_with fail
                      refine (iNextFound_c q _ _ _ _ wr (QAt.below HQ1.out hb5) (OwnInts.at HO6.out)).mono ?_
                      rintro e w9 ⟨na, nn, nc, rfl, ho, hb9⟩
                      have HN := Lib.hid (OwnInts.at ho)
                      have hbz := bthen hb0 (bthen hb5 hb9)
                      clear ho e3
                      rcases Hbef.out with h5 | ⟨h0, hl⟩
                      · rw [h5]
                        clear h5 Hbef
                        go_wp2
                        go_ret
                        exact Gives.bool rfl hbz
                      · rw [hl] at HN
                        rw [h0]
                        have HU9 := Lib.hid (IntsAt.below HU.out (bthen hb5 hb9))
                        clear h0 hl Hbef
                        go_wp2_with fail
                        have h := f6ints_c _ _ _ _ w9 HN.out HU9.out
                        rw [eqI_self] at h
                        refine h.mono ?_
                        rintro e w10 ⟨rfl, hb10⟩
                        have hbz2 := bthen hbz hb10
                        clear h hb10 hbz
                        go_wp2
                        go_ret
                        exact Gives.bool rfl hbz2
              · obtain rfl : t = -1 := by omega
                have hbz := bthen hb0 (bthen hb hb1)
                clear HZ
                go_wp2
                go_ret
                exact Gives.bool rfl hbz
  · have e2 : TB.toList.isEmpty = false := by
      rw [isEmpty_size]
      exact decide_eq_false (fun h => hE (by apply ByteArray.ext; exact Array.eq_empty_of_size_eq_zero h))
    have e3 : ¬ TB.toList = [] := fun h => by rw [h] at e2; exact absurd e2 (by decide)
    have hrk : rqOk (chars TB) = true ∧ bq = t := by
      rcases Hrt.out with h | h
      · exact absurd h.1 hE
      · exact h.2
    obtain ⟨hr1, rfl⟩ := hrk
    rw [hr1]
    clear hE hr1 Hrt
    refine wp_region_held_drew (S := fun w' => Below w20.heap.size w20 w') (by kernel_rfl) (by exact ((Below.refl w20.heap.size w20)).drew) (fun hHeld => ?_)
    refine wpAnyH_take (i := 0) (oi := ⟨_, _, _, _, _, _⟩) (v := ?_) rfl (by kernel_rfl) (by kernel_rfl) (by kernel_rfl) (fun _ _ _ h => h) (Or.inl ⟨by rfl, ?_⟩) (by assumption) ?_; rotate_left; (focus (intro w hSw; (try dsimp only at hSw); go_simp; try with_reducible rfl)); (try simp only [Act.put, List.setIfInBounds_toArray, List.set_cons_zero, List.set_cons_succ])
    refine wpAnyH_take (i := 1) (oi := ⟨_, _, _, _, _, _⟩) (v := ?_) rfl (by kernel_rfl) (by kernel_rfl) (by kernel_rfl) (fun _ _ _ h => h) (Or.inl ⟨by rfl, ?_⟩) (by assumption) ?_; rotate_left; (focus (intro w hSw; (try dsimp only at hSw); have t1 := (HB1.out.below hSw).2.1; have t3 := (HB3.out.below hSw).2.1; have t4 := (HB4.out.below hSw).2.1; have t5 := (HB5.out.below hSw).2.1; have t6 := (HB6.out.below hSw).2.1; have t7 := (HB7.out.below hSw).2.1; have t8 := (HB8.out.below hSw).2.1; go_simp; try with_reducible rfl)); (try simp only [Act.put, List.setIfInBounds_toArray, List.set_cons_zero, List.set_cons_succ])
    refine wpAnyH_take (i := 2) (oi := ⟨_, _, _, _, _, _⟩) (v := ?_) rfl (by kernel_rfl) (by kernel_rfl) (by kernel_rfl) (fun _ _ _ h => h) (Or.inl ⟨by rfl, ?_⟩) (by assumption) ?_; rotate_left; (focus (intro w hSw; (try dsimp only at hSw); go_simp; try with_reducible rfl)); (try simp only [Act.put, List.setIfInBounds_toArray, List.set_cons_zero, List.set_cons_succ])
    refine wpAnyH_ready (rs := [3]) (by kernel_rfl) (by simp) ?_
    refine AllReadyH.cons (o := ⟨_, _, _, _, _, _⟩) rfl (fun K hK => ?_) AllReadyH.nil
    go_simp
    go_at_call 17; (with_reducible refine (HA1.out _ (QAt.below HQ1.out hHeld) (IntsAt.below HU.out hHeld)).mono ?_); rintro e x1 ⟨rfl, d1⟩; have hS' := bthen hHeld d1
    refine hK.out _ _ (by exact hS') (fun hHeld' => ?_)
    clear hHeld hK K
    have hHeld := hHeld'
    clear hHeld'
    try simp only [Act.put, List.setIfInBounds_toArray, List.set_cons_zero, List.set_cons_succ]
    refine wpAnyH_take (i := 4) (oi := ⟨_, _, _, _, _, _⟩) (v := ?_) rfl (by kernel_rfl) (by kernel_rfl) (by kernel_rfl) (fun _ _ _ h => h) (Or.inl ⟨by rfl, ?_⟩) (by assumption) ?_; rotate_left; (focus (intro w hSw; (try dsimp only at hSw); go_simp; try with_reducible rfl)); (try simp only [Act.put, List.setIfInBounds_toArray, List.set_cons_zero, List.set_cons_succ])
    refine wpAnyH_take (i := 5) (oi := ⟨_, _, _, _, _, _⟩) (v := ?_) rfl (by kernel_rfl) (by kernel_rfl) (by kernel_rfl) (fun _ _ _ h => h) (Or.inl ⟨by rfl, ?_⟩) (by assumption) ?_; rotate_left; (focus (intro w hSw; (try dsimp only at hSw); go_simp; try with_reducible rfl)); (try simp only [Act.put, List.setIfInBounds_toArray, List.set_cons_zero, List.set_cons_succ])
    first | (refine wpAnyH_take (i := 6) (oi := ⟨_, _, _, _, _, _⟩) rfl (by kernel_rfl) (by kernel_rfl) (by kernel_rfl) (fun _ _ _ h => h) (Or.inr ⟨by rfl, rfl⟩) (by assumption) ?_; (try simp only [Act.put, List.setIfInBounds_toArray, List.set_cons_zero, List.set_cons_succ])) | (refine wpAnyH_take (i := 6) (oi := ⟨_, _, _, _, _, _⟩) (v := ?_) rfl (by kernel_rfl) (by kernel_rfl) (by kernel_rfl) (fun _ _ _ h => h) (Or.inl ⟨by rfl, ?_⟩) (by assumption) ?_; rotate_left; (focus (intro w hSw; (try dsimp only at hSw); go_simp; try with_reducible rfl)); (try simp only [Act.put, List.setIfInBounds_toArray, List.set_cons_zero, List.set_cons_succ]))
    first | (refine wpAnyH_take (i := 7) (oi := ⟨_, _, _, _, _, _⟩) rfl (by kernel_rfl) (by kernel_rfl) (by kernel_rfl) (fun _ _ _ h => h) (Or.inr ⟨by rfl, rfl⟩) (by assumption) ?_; (try simp only [Act.put, List.setIfInBounds_toArray, List.set_cons_zero, List.set_cons_succ])) | (refine wpAnyH_take (i := 7) (oi := ⟨_, _, _, _, _, _⟩) (v := ?_) rfl (by kernel_rfl) (by kernel_rfl) (by kernel_rfl) (fun _ _ _ h => h) (Or.inl ⟨by rfl, ?_⟩) (by assumption) ?_; rotate_left; (focus (intro w hSw; (try dsimp only at hSw); go_simp; try with_reducible rfl)); (try simp only [Act.put, List.setIfInBounds_toArray, List.set_cons_zero, List.set_cons_succ]))
    first | (refine wpAnyH_take (i := 8) (oi := ⟨_, _, _, _, _, _⟩) rfl (by kernel_rfl) (by kernel_rfl) (by kernel_rfl) (fun _ _ _ h => h) (Or.inr ⟨by rfl, rfl⟩) (by assumption) ?_; (try simp only [Act.put, List.setIfInBounds_toArray, List.set_cons_zero, List.set_cons_succ])) | (refine wpAnyH_take (i := 8) (oi := ⟨_, _, _, _, _, _⟩) (v := ?_) rfl (by kernel_rfl) (by kernel_rfl) (by kernel_rfl) (fun _ _ _ h => h) (Or.inl ⟨by rfl, ?_⟩) (by assumption) ?_; rotate_left; (focus (intro w hSw; (try dsimp only at hSw); go_simp; try with_reducible rfl)); (try simp only [Act.put, List.setIfInBounds_toArray, List.set_cons_zero, List.set_cons_succ]))
    refine wpAnyH_take (i := 9) (oi := ⟨_, _, _, _, _, _⟩) (v := ?_) rfl (by kernel_rfl) (by kernel_rfl) (by kernel_rfl) (fun _ _ _ h => h) (Or.inl ⟨by rfl, ?_⟩) (by assumption) ?_; rotate_left; (focus (intro w hSw; (try dsimp only at hSw); go_simp; try with_reducible rfl)); (try simp only [Act.put, List.setIfInBounds_toArray, List.set_cons_zero, List.set_cons_succ])
    refine wpAnyH_take (i := 10) (oi := ⟨_, _, _, _, _, _⟩) (v := ?_) rfl (by kernel_rfl) (by kernel_rfl) (by kernel_rfl) (fun _ _ _ h => h) (Or.inl ⟨by rfl, ?_⟩) (by assumption) ?_; rotate_left; (focus (intro w hSw; (try dsimp only at hSw); go_simp; try with_reducible rfl)); (try simp only [Act.put, List.setIfInBounds_toArray, List.set_cons_zero, List.set_cons_succ])
    first | (refine wpAnyH_take (i := 11) (oi := ⟨_, _, _, _, _, _⟩) rfl (by kernel_rfl) (by kernel_rfl) (by kernel_rfl) (fun _ _ _ h => h) (Or.inr ⟨by rfl, rfl⟩) (by assumption) ?_; (try simp only [Act.put, List.setIfInBounds_toArray, List.set_cons_zero, List.set_cons_succ])) | (refine wpAnyH_take (i := 11) (oi := ⟨_, _, _, _, _, _⟩) (v := ?_) rfl (by kernel_rfl) (by kernel_rfl) (by kernel_rfl) (fun _ _ _ h => h) (Or.inl ⟨by rfl, ?_⟩) (by assumption) ?_; rotate_left; (focus (intro w hSw; (try dsimp only at hSw); go_simp; try with_reducible rfl)); (try simp only [Act.put, List.setIfInBounds_toArray, List.set_cons_zero, List.set_cons_succ]))
    first | (refine wpAnyH_take (i := 12) (oi := ⟨_, _, _, _, _, _⟩) rfl (by kernel_rfl) (by kernel_rfl) (by kernel_rfl) (fun _ _ _ h => h) (Or.inr ⟨by rfl, rfl⟩) (by assumption) ?_; (try simp only [Act.put, List.setIfInBounds_toArray, List.set_cons_zero, List.set_cons_succ])) | (refine wpAnyH_take (i := 12) (oi := ⟨_, _, _, _, _, _⟩) (v := ?_) rfl (by kernel_rfl) (by kernel_rfl) (by kernel_rfl) (fun _ _ _ h => h) (Or.inl ⟨by rfl, ?_⟩) (by assumption) ?_; rotate_left; (focus (intro w hSw; (try dsimp only at hSw); go_simp; try with_reducible rfl)); (try simp only [Act.put, List.setIfInBounds_toArray, List.set_cons_zero, List.set_cons_succ]))
    refine wpAnyH_ready (rs := [13]) (by kernel_rfl) (by simp) ?_
    refine AllReadyH.cons (o := ⟨_, _, _, _, _, _⟩) rfl (fun K hK => ?_) AllReadyH.nil
    go_simp
    go_at_call 18; (with_reducible refine (HA2.out _ (IntsAt.below HX.out hHeld) (IntsAt.below HM.out hHeld)).mono ?_); rintro e x2 ⟨rfl, d1⟩; have hS' := bthen hHeld d1
    refine hK.out _ _ (by exact hS') (fun hHeld' => ?_)
    clear hHeld hK K
    have hHeld := hHeld'
    clear hHeld'
    try simp only [Act.put, List.setIfInBounds_toArray, List.set_cons_zero, List.set_cons_succ]
    first | (refine wpAnyH_take (i := 14) (oi := ⟨_, _, _, _, _, _⟩) rfl (by kernel_rfl) (by kernel_rfl) (by kernel_rfl) (fun _ _ _ h => h) (Or.inr ⟨by rfl, rfl⟩) (by assumption) ?_; (try simp only [Act.put, List.setIfInBounds_toArray, List.set_cons_zero, List.set_cons_succ])) | (refine wpAnyH_take (i := 14) (oi := ⟨_, _, _, _, _, _⟩) (v := ?_) rfl (by kernel_rfl) (by kernel_rfl) (by kernel_rfl) (fun _ _ _ h => h) (Or.inl ⟨by rfl, ?_⟩) (by assumption) ?_; rotate_left; (focus (intro w hSw; (try dsimp only at hSw); go_simp; try with_reducible rfl)); (try simp only [Act.put, List.setIfInBounds_toArray, List.set_cons_zero, List.set_cons_succ]))
    refine wpAnyH_take (i := 15) (oi := ⟨_, _, _, _, _, _⟩) (v := ?_) rfl (by kernel_rfl) (by kernel_rfl) (by kernel_rfl) (fun _ _ _ h => h) (Or.inl ⟨by rfl, ?_⟩) (by assumption) ?_; rotate_left; (focus (intro w hSw; (try dsimp only at hSw); go_simp; try with_reducible rfl)); (try simp only [Act.put, List.setIfInBounds_toArray, List.set_cons_zero, List.set_cons_succ])
    refine wpAnyH_take (i := 16) (oi := ⟨_, _, _, _, _, _⟩) (v := ?_) rfl (by kernel_rfl) (by kernel_rfl) (by kernel_rfl) (fun _ _ _ h => h) (Or.inl ⟨by rfl, ?_⟩) (by assumption) ?_; rotate_left; (focus (intro w hSw; (try dsimp only at hSw); go_simp; try with_reducible rfl)); (try simp only [Act.put, List.setIfInBounds_toArray, List.set_cons_zero, List.set_cons_succ])
    first | (refine wpAnyH_take (i := 17) (oi := ⟨_, _, _, _, _, _⟩) rfl (by kernel_rfl) (by kernel_rfl) (by kernel_rfl) (fun _ _ _ h => h) (Or.inr ⟨by rfl, rfl⟩) (by assumption) ?_; (try simp only [Act.put, List.setIfInBounds_toArray, List.set_cons_zero, List.set_cons_succ])) | (refine wpAnyH_take (i := 17) (oi := ⟨_, _, _, _, _, _⟩) (v := ?_) rfl (by kernel_rfl) (by kernel_rfl) (by kernel_rfl) (fun _ _ _ h => h) (Or.inl ⟨by rfl, ?_⟩) (by assumption) ?_; rotate_left; (focus (intro w hSw; (try dsimp only at hSw); go_simp; try with_reducible rfl)); (try simp only [Act.put, List.setIfInBounds_toArray, List.set_cons_zero, List.set_cons_succ]))
    first | (refine wpAnyH_take (i := 18) (oi := ⟨_, _, _, _, _, _⟩) rfl (by kernel_rfl) (by kernel_rfl) (by kernel_rfl) (fun _ _ _ h => h) (Or.inr ⟨by rfl, rfl⟩) (by assumption) ?_; (try simp only [Act.put, List.setIfInBounds_toArray, List.set_cons_zero, List.set_cons_succ])) | (refine wpAnyH_take (i := 18) (oi := ⟨_, _, _, _, _, _⟩) (v := ?_) rfl (by kernel_rfl) (by kernel_rfl) (by kernel_rfl) (fun _ _ _ h => h) (Or.inl ⟨by rfl, ?_⟩) (by assumption) ?_; rotate_left; (focus (intro w hSw; (try dsimp only at hSw); have t1 := (HB1.out.below hSw).2.1; have t3 := (HB3.out.below hSw).2.1; have t4 := (HB4.out.below hSw).2.1; have t5 := (HB5.out.below hSw).2.1; have t6 := (HB6.out.below hSw).2.1; have t7 := (HB7.out.below hSw).2.1; have t8 := (HB8.out.below hSw).2.1; go_simp; try with_reducible rfl)); (try simp only [Act.put, List.setIfInBounds_toArray, List.set_cons_zero, List.set_cons_succ]))
    refine wpAnyH_ready (rs := [19]) (by kernel_rfl) (by simp) ?_
    refine AllReadyH.cons (o := ⟨_, _, _, _, _, _⟩) rfl (fun K hK => ?_) AllReadyH.nil
    go_simp
    go_at_call 19; (with_reducible refine (HS2.out _ (QAt.below HQ3.out hHeld)).mono ?_); rintro e x3 ⟨rfl, d1⟩; have hS' := bthen hHeld d1
    refine hK.out _ _ (by exact hS') (fun hHeld' => ?_)
    clear hHeld hK K
    have hHeld := hHeld'
    clear hHeld'
    try simp only [Act.put, List.setIfInBounds_toArray, List.set_cons_zero, List.set_cons_succ]
    first | (refine wpAnyH_take (i := 20) (oi := ⟨_, _, _, _, _, _⟩) rfl (by kernel_rfl) (by kernel_rfl) (by kernel_rfl) (fun _ _ _ h => h) (Or.inr ⟨by rfl, rfl⟩) (by assumption) ?_; (try simp only [Act.put, List.setIfInBounds_toArray, List.set_cons_zero, List.set_cons_succ])) | (refine wpAnyH_take (i := 20) (oi := ⟨_, _, _, _, _, _⟩) (v := ?_) rfl (by kernel_rfl) (by kernel_rfl) (by kernel_rfl) (fun _ _ _ h => h) (Or.inl ⟨by rfl, ?_⟩) (by assumption) ?_; rotate_left; (focus (intro w hSw; (try dsimp only at hSw); go_simp; try with_reducible rfl)); (try simp only [Act.put, List.setIfInBounds_toArray, List.set_cons_zero, List.set_cons_succ]))
    refine wpAnyH_take (i := 21) (oi := ⟨_, _, _, _, _, _⟩) (v := ?_) rfl (by kernel_rfl) (by kernel_rfl) (by kernel_rfl) (fun _ _ _ h => h) (Or.inl ⟨by rfl, ?_⟩) (by assumption) ?_; rotate_left; (focus (intro w hSw; (try dsimp only at hSw); go_simp; try with_reducible rfl)); (try simp only [Act.put, List.setIfInBounds_toArray, List.set_cons_zero, List.set_cons_succ])
    refine wpAnyH_take (i := 22) (oi := ⟨_, _, _, _, _, _⟩) (v := ?_) rfl (by kernel_rfl) (by kernel_rfl) (by kernel_rfl) (fun _ _ _ h => h) (Or.inl ⟨by rfl, ?_⟩) (by assumption) ?_; rotate_left; (focus (intro w hSw; (try dsimp only at hSw); go_simp; try with_reducible rfl)); (try simp only [Act.put, List.setIfInBounds_toArray, List.set_cons_zero, List.set_cons_succ])
    first | (refine wpAnyH_take (i := 23) (oi := ⟨_, _, _, _, _, _⟩) rfl (by kernel_rfl) (by kernel_rfl) (by kernel_rfl) (fun _ _ _ h => h) (Or.inr ⟨by rfl, rfl⟩) (by assumption) ?_; (try simp only [Act.put, List.setIfInBounds_toArray, List.set_cons_zero, List.set_cons_succ])) | (refine wpAnyH_take (i := 23) (oi := ⟨_, _, _, _, _, _⟩) (v := ?_) rfl (by kernel_rfl) (by kernel_rfl) (by kernel_rfl) (fun _ _ _ h => h) (Or.inl ⟨by rfl, ?_⟩) (by assumption) ?_; rotate_left; (focus (intro w hSw; (try dsimp only at hSw); go_simp; try with_reducible rfl)); (try simp only [Act.put, List.setIfInBounds_toArray, List.set_cons_zero, List.set_cons_succ]))
    first | (refine wpAnyH_take (i := 24) (oi := ⟨_, _, _, _, _, _⟩) rfl (by kernel_rfl) (by kernel_rfl) (by kernel_rfl) (fun _ _ _ h => h) (Or.inr ⟨by rfl, rfl⟩) (by assumption) ?_; (try simp only [Act.put, List.setIfInBounds_toArray, List.set_cons_zero, List.set_cons_succ])) | (refine wpAnyH_take (i := 24) (oi := ⟨_, _, _, _, _, _⟩) (v := ?_) rfl (by kernel_rfl) (by kernel_rfl) (by kernel_rfl) (fun _ _ _ h => h) (Or.inl ⟨by rfl, ?_⟩) (by assumption) ?_; rotate_left; (focus (intro w hSw; (try dsimp only at hSw); go_simp; try with_reducible rfl)); (try simp only [Act.put, List.setIfInBounds_toArray, List.set_cons_zero, List.set_cons_succ]))
    first | (refine wpAnyH_take (i := 25) (oi := ⟨_, _, _, _, _, _⟩) rfl (by kernel_rfl) (by kernel_rfl) (by kernel_rfl) (fun _ _ _ h => h) (Or.inr ⟨by rfl, rfl⟩) (by assumption) ?_; (try simp only [Act.put, List.setIfInBounds_toArray, List.set_cons_zero, List.set_cons_succ])) | (refine wpAnyH_take (i := 25) (oi := ⟨_, _, _, _, _, _⟩) (v := ?_) rfl (by kernel_rfl) (by kernel_rfl) (by kernel_rfl) (fun _ _ _ h => h) (Or.inl ⟨by rfl, ?_⟩) (by assumption) ?_; rotate_left; (focus (intro w hSw; (try dsimp only at hSw); go_simp; try with_reducible rfl)); (try simp only [Act.put, List.setIfInBounds_toArray, List.set_cons_zero, List.set_cons_succ]))
    first | (refine wpAnyH_take (i := 26) (oi := ⟨_, _, _, _, _, _⟩) rfl (by kernel_rfl) (by kernel_rfl) (by kernel_rfl) (fun _ _ _ h => h) (Or.inr ⟨by rfl, rfl⟩) (by assumption) ?_; (try simp only [Act.put, List.setIfInBounds_toArray, List.set_cons_zero, List.set_cons_succ])) | (refine wpAnyH_take (i := 26) (oi := ⟨_, _, _, _, _, _⟩) (v := ?_) rfl (by kernel_rfl) (by kernel_rfl) (by kernel_rfl) (fun _ _ _ h => h) (Or.inl ⟨by rfl, ?_⟩) (by assumption) ?_; rotate_left; (focus (intro w hSw; (try dsimp only at hSw); go_simp; try with_reducible rfl)); (try simp only [Act.put, List.setIfInBounds_toArray, List.set_cons_zero, List.set_cons_succ]))
    refine wpAnyH_take (i := 27) (oi := ⟨_, _, _, _, _, _⟩) (v := ?_) rfl (by kernel_rfl) (by kernel_rfl) (by kernel_rfl) (fun _ _ _ h => h) (Or.inl ⟨by rfl, ?_⟩) (by assumption) ?_; rotate_left; (focus (intro w hSw; (try dsimp only at hSw); go_simp; try with_reducible rfl)); (try simp only [Act.put, List.setIfInBounds_toArray, List.set_cons_zero, List.set_cons_succ])
    refine wpAnyH_take (i := 28) (oi := ⟨_, _, _, _, _, _⟩) (v := ?_) rfl (by kernel_rfl) (by kernel_rfl) (by kernel_rfl) (fun _ _ _ h => h) (Or.inl ⟨by rfl, ?_⟩) (by assumption) ?_; rotate_left; (focus (intro w hSw; (try dsimp only at hSw); go_simp; try with_reducible rfl)); (try simp only [Act.put, List.setIfInBounds_toArray, List.set_cons_zero, List.set_cons_succ])
    first | (refine wpAnyH_take (i := 29) (oi := ⟨_, _, _, _, _, _⟩) rfl (by kernel_rfl) (by kernel_rfl) (by kernel_rfl) (fun _ _ _ h => h) (Or.inr ⟨by rfl, rfl⟩) (by assumption) ?_; (try simp only [Act.put, List.setIfInBounds_toArray, List.set_cons_zero, List.set_cons_succ])) | (refine wpAnyH_take (i := 29) (oi := ⟨_, _, _, _, _, _⟩) (v := ?_) rfl (by kernel_rfl) (by kernel_rfl) (by kernel_rfl) (fun _ _ _ h => h) (Or.inl ⟨by rfl, ?_⟩) (by assumption) ?_; rotate_left; (focus (intro w hSw; (try dsimp only at hSw); go_simp; try with_reducible rfl)); (try simp only [Act.put, List.setIfInBounds_toArray, List.set_cons_zero, List.set_cons_succ]))
    first | (refine wpAnyH_take (i := 30) (oi := ⟨_, _, _, _, _, _⟩) rfl (by kernel_rfl) (by kernel_rfl) (by kernel_rfl) (fun _ _ _ h => h) (Or.inr ⟨by rfl, rfl⟩) (by assumption) ?_; (try simp only [Act.put, List.setIfInBounds_toArray, List.set_cons_zero, List.set_cons_succ])) | (refine wpAnyH_take (i := 30) (oi := ⟨_, _, _, _, _, _⟩) (v := ?_) rfl (by kernel_rfl) (by kernel_rfl) (by kernel_rfl) (fun _ _ _ h => h) (Or.inl ⟨by rfl, ?_⟩) (by assumption) ?_; rotate_left; (focus (intro w hSw; (try dsimp only at hSw); go_simp; try with_reducible rfl)); (try simp only [Act.put, List.setIfInBounds_toArray, List.set_cons_zero, List.set_cons_succ]))
    first | (refine wpAnyH_take (i := 31) (oi := ⟨_, _, _, _, _, _⟩) rfl (by kernel_rfl) (by kernel_rfl) (by kernel_rfl) (fun _ _ _ h => h) (Or.inr ⟨by rfl, rfl⟩) (by assumption) ?_; (try simp only [Act.put, List.setIfInBounds_toArray, List.set_cons_zero, List.set_cons_succ])) | (refine wpAnyH_take (i := 31) (oi := ⟨_, _, _, _, _, _⟩) (v := ?_) rfl (by kernel_rfl) (by kernel_rfl) (by kernel_rfl) (fun _ _ _ h => h) (Or.inl ⟨by rfl, ?_⟩) (by assumption) ?_; rotate_left; (focus (intro w hSw; (try dsimp only at hSw); have t1 := (HB1.out.below hSw).2.1; have t3 := (HB3.out.below hSw).2.1; have t4 := (HB4.out.below hSw).2.1; have t5 := (HB5.out.below hSw).2.1; have t6 := (HB6.out.below hSw).2.1; have t7 := (HB7.out.below hSw).2.1; have t8 := (HB8.out.below hSw).2.1; go_simp; try with_reducible rfl)); (try simp only [Act.put, List.setIfInBounds_toArray, List.set_cons_zero, List.set_cons_succ]))
    first | (refine wpAnyH_take (i := 32) (oi := ⟨_, _, _, _, _, _⟩) rfl (by kernel_rfl) (by kernel_rfl) (by kernel_rfl) (fun _ _ _ h => h) (Or.inr ⟨by rfl, rfl⟩) (by assumption) ?_; (try simp only [Act.put, List.setIfInBounds_toArray, List.set_cons_zero, List.set_cons_succ])) | (refine wpAnyH_take (i := 32) (oi := ⟨_, _, _, _, _, _⟩) (v := ?_) rfl (by kernel_rfl) (by kernel_rfl) (by kernel_rfl) (fun _ _ _ h => h) (Or.inl ⟨by rfl, ?_⟩) (by assumption) ?_; rotate_left; (focus (intro w hSw; (try dsimp only at hSw); have t1 := (HB1.out.below hSw).2.1; have t3 := (HB3.out.below hSw).2.1; have t4 := (HB4.out.below hSw).2.1; have t5 := (HB5.out.below hSw).2.1; have t6 := (HB6.out.below hSw).2.1; have t7 := (HB7.out.below hSw).2.1; have t8 := (HB8.out.below hSw).2.1; go_simp; try with_reducible rfl)); (try simp only [Act.put, List.setIfInBounds_toArray, List.set_cons_zero, List.set_cons_succ]))
    refine wpAnyH_ready (rs := [33]) (by kernel_rfl) (by simp) ?_
    refine AllReadyH.cons (o := ⟨_, _, _, _, _, _⟩) rfl (fun K hK => ?_) AllReadyH.nil
    go_simp
    go_at_call 20; (with_reducible refine (HA8.out _ (QAt.below HQ4.out hHeld) (QAt.below HQ3.out hHeld)).mono ?_); rintro e x4 ⟨rfl, d1⟩; have hS' := bthen hHeld d1
    refine hK.out _ _ (by exact hS') (fun hHeld' => ?_)
    clear hHeld hK K
    have hHeld := hHeld'
    clear hHeld'
    try simp only [Act.put, List.setIfInBounds_toArray, List.set_cons_zero, List.set_cons_succ]
    first | (refine wpAnyH_take (i := 34) (oi := ⟨_, _, _, _, _, _⟩) rfl (by kernel_rfl) (by kernel_rfl) (by kernel_rfl) (fun _ _ _ h => h) (Or.inr ⟨by rfl, rfl⟩) (by assumption) ?_; (try simp only [Act.put, List.setIfInBounds_toArray, List.set_cons_zero, List.set_cons_succ])) | (refine wpAnyH_take (i := 34) (oi := ⟨_, _, _, _, _, _⟩) (v := ?_) rfl (by kernel_rfl) (by kernel_rfl) (by kernel_rfl) (fun _ _ _ h => h) (Or.inl ⟨by rfl, ?_⟩) (by assumption) ?_; rotate_left; (focus (intro w hSw; (try dsimp only at hSw); go_simp; try with_reducible rfl)); (try simp only [Act.put, List.setIfInBounds_toArray, List.set_cons_zero, List.set_cons_succ]))
    first | (refine wpAnyH_take (i := 35) (oi := ⟨_, _, _, _, _, _⟩) rfl (by kernel_rfl) (by kernel_rfl) (by kernel_rfl) (fun _ _ _ h => h) (Or.inr ⟨by rfl, rfl⟩) (by assumption) ?_; (try simp only [Act.put, List.setIfInBounds_toArray, List.set_cons_zero, List.set_cons_succ])) | (refine wpAnyH_take (i := 35) (oi := ⟨_, _, _, _, _, _⟩) (v := ?_) rfl (by kernel_rfl) (by kernel_rfl) (by kernel_rfl) (fun _ _ _ h => h) (Or.inl ⟨by rfl, ?_⟩) (by assumption) ?_; rotate_left; (focus (intro w hSw; (try dsimp only at hSw); go_simp; try with_reducible rfl)); (try simp only [Act.put, List.setIfInBounds_toArray, List.set_cons_zero, List.set_cons_succ]))
    refine wpAnyH_take (i := 36) (oi := ⟨_, _, _, _, _, _⟩) (v := ?_) rfl (by kernel_rfl) (by kernel_rfl) (by kernel_rfl) (fun _ _ _ h => h) (Or.inl ⟨by rfl, ?_⟩) (by assumption) ?_; rotate_left; (focus (intro w hSw; (try dsimp only at hSw); go_simp; try with_reducible rfl)); (try simp only [Act.put, List.setIfInBounds_toArray, List.set_cons_zero, List.set_cons_succ])
    refine wpAnyH_take (i := 37) (oi := ⟨_, _, _, _, _, _⟩) (v := ?_) rfl (by kernel_rfl) (by kernel_rfl) (by kernel_rfl) (fun _ _ _ h => h) (Or.inl ⟨by rfl, ?_⟩) (by assumption) ?_; rotate_left; (focus (intro w hSw; (try dsimp only at hSw); go_simp; try with_reducible rfl)); (try simp only [Act.put, List.setIfInBounds_toArray, List.set_cons_zero, List.set_cons_succ])
    first | (refine wpAnyH_take (i := 38) (oi := ⟨_, _, _, _, _, _⟩) rfl (by kernel_rfl) (by kernel_rfl) (by kernel_rfl) (fun _ _ _ h => h) (Or.inr ⟨by rfl, rfl⟩) (by assumption) ?_; (try simp only [Act.put, List.setIfInBounds_toArray, List.set_cons_zero, List.set_cons_succ])) | (refine wpAnyH_take (i := 38) (oi := ⟨_, _, _, _, _, _⟩) (v := ?_) rfl (by kernel_rfl) (by kernel_rfl) (by kernel_rfl) (fun _ _ _ h => h) (Or.inl ⟨by rfl, ?_⟩) (by assumption) ?_; rotate_left; (focus (intro w hSw; (try dsimp only at hSw); go_simp; try with_reducible rfl)); (try simp only [Act.put, List.setIfInBounds_toArray, List.set_cons_zero, List.set_cons_succ]))
    first | (refine wpAnyH_take (i := 39) (oi := ⟨_, _, _, _, _, _⟩) rfl (by kernel_rfl) (by kernel_rfl) (by kernel_rfl) (fun _ _ _ h => h) (Or.inr ⟨by rfl, rfl⟩) (by assumption) ?_; (try simp only [Act.put, List.setIfInBounds_toArray, List.set_cons_zero, List.set_cons_succ])) | (refine wpAnyH_take (i := 39) (oi := ⟨_, _, _, _, _, _⟩) (v := ?_) rfl (by kernel_rfl) (by kernel_rfl) (by kernel_rfl) (fun _ _ _ h => h) (Or.inl ⟨by rfl, ?_⟩) (by assumption) ?_; rotate_left; (focus (intro w hSw; (try dsimp only at hSw); go_simp; try with_reducible rfl)); (try simp only [Act.put, List.setIfInBounds_toArray, List.set_cons_zero, List.set_cons_succ]))
    first | (refine wpAnyH_take (i := 40) (oi := ⟨_, _, _, _, _, _⟩) rfl (by kernel_rfl) (by kernel_rfl) (by kernel_rfl) (fun _ _ _ h => h) (Or.inr ⟨by rfl, rfl⟩) (by assumption) ?_; (try simp only [Act.put, List.setIfInBounds_toArray, List.set_cons_zero, List.set_cons_succ])) | (refine wpAnyH_take (i := 40) (oi := ⟨_, _, _, _, _, _⟩) (v := ?_) rfl (by kernel_rfl) (by kernel_rfl) (by kernel_rfl) (fun _ _ _ h => h) (Or.inl ⟨by rfl, ?_⟩) (by assumption) ?_; rotate_left; (focus (intro w hSw; (try dsimp only at hSw); go_simp; try with_reducible rfl)); (try simp only [Act.put, List.setIfInBounds_toArray, List.set_cons_zero, List.set_cons_succ]))
    refine wpAnyH_take (i := 41) (oi := ⟨_, _, _, _, _, _⟩) (v := ?_) rfl (by kernel_rfl) (by kernel_rfl) (by kernel_rfl) (fun _ _ _ h => h) (Or.inl ⟨by rfl, ?_⟩) (by assumption) ?_; rotate_left; (focus (intro w hSw; (try dsimp only at hSw); go_simp; try with_reducible rfl)); (try simp only [Act.put, List.setIfInBounds_toArray, List.set_cons_zero, List.set_cons_succ])
    refine wpAnyH_take (i := 42) (oi := ⟨_, _, _, _, _, _⟩) (v := ?_) rfl (by kernel_rfl) (by kernel_rfl) (by kernel_rfl) (fun _ _ _ h => h) (Or.inl ⟨by rfl, ?_⟩) (by assumption) ?_; rotate_left; (focus (intro w hSw; (try dsimp only at hSw); go_simp; try with_reducible rfl)); (try simp only [Act.put, List.setIfInBounds_toArray, List.set_cons_zero, List.set_cons_succ])
    first | (refine wpAnyH_take (i := 43) (oi := ⟨_, _, _, _, _, _⟩) rfl (by kernel_rfl) (by kernel_rfl) (by kernel_rfl) (fun _ _ _ h => h) (Or.inr ⟨by rfl, rfl⟩) (by assumption) ?_; (try simp only [Act.put, List.setIfInBounds_toArray, List.set_cons_zero, List.set_cons_succ])) | (refine wpAnyH_take (i := 43) (oi := ⟨_, _, _, _, _, _⟩) (v := ?_) rfl (by kernel_rfl) (by kernel_rfl) (by kernel_rfl) (fun _ _ _ h => h) (Or.inl ⟨by rfl, ?_⟩) (by assumption) ?_; rotate_left; (focus (intro w hSw; (try dsimp only at hSw); have t1 := (HB1.out.below hSw).2.1; have t3 := (HB3.out.below hSw).2.1; have t4 := (HB4.out.below hSw).2.1; have t5 := (HB5.out.below hSw).2.1; have t6 := (HB6.out.below hSw).2.1; have t7 := (HB7.out.below hSw).2.1; have t8 := (HB8.out.below hSw).2.1; go_simp; try with_reducible rfl)); (try simp only [Act.put, List.setIfInBounds_toArray, List.set_cons_zero, List.set_cons_succ]))
    first | (refine wpAnyH_take (i := 44) (oi := ⟨_, _, _, _, _, _⟩) rfl (by kernel_rfl) (by kernel_rfl) (by kernel_rfl) (fun _ _ _ h => h) (Or.inr ⟨by rfl, rfl⟩) (by assumption) ?_; (try simp only [Act.put, List.setIfInBounds_toArray, List.set_cons_zero, List.set_cons_succ])) | (refine wpAnyH_take (i := 44) (oi := ⟨_, _, _, _, _, _⟩) (v := ?_) rfl (by kernel_rfl) (by kernel_rfl) (by kernel_rfl) (fun _ _ _ h => h) (Or.inl ⟨by rfl, ?_⟩) (by assumption) ?_; rotate_left; (focus (intro w hSw; (try dsimp only at hSw); have t1 := (HB1.out.below hSw).2.1; have t3 := (HB3.out.below hSw).2.1; have t4 := (HB4.out.below hSw).2.1; have t5 := (HB5.out.below hSw).2.1; have t6 := (HB6.out.below hSw).2.1; have t7 := (HB7.out.below hSw).2.1; have t8 := (HB8.out.below hSw).2.1; go_simp; try with_reducible rfl)); (try simp only [Act.put, List.setIfInBounds_toArray, List.set_cons_zero, List.set_cons_succ]))
    refine wpAnyH_ready (rs := [45]) (by kernel_rfl) (by simp) ?_
    refine AllReadyH.cons (o := ⟨_, _, _, _, _, _⟩) rfl (fun K hK => ?_) AllReadyH.nil
    go_simp
    go_at_call 20; (with_reducible refine (HA3.out _ (QAt.below HQ5.out hHeld) (QAt.below HQ6.out hHeld)).mono ?_); rintro e x5 ⟨rfl, d1⟩; have hS' := bthen hHeld d1
    refine hK.out _ _ (by exact hS') (fun hHeld' => ?_)
    clear hHeld hK K
    have hHeld := hHeld'
    clear hHeld'
    try simp only [Act.put, List.setIfInBounds_toArray, List.set_cons_zero, List.set_cons_succ]
    first | (refine wpAnyH_take (i := 46) (oi := ⟨_, _, _, _, _, _⟩) rfl (by kernel_rfl) (by kernel_rfl) (by kernel_rfl) (fun _ _ _ h => h) (Or.inr ⟨by rfl, rfl⟩) (by assumption) ?_; (try simp only [Act.put, List.setIfInBounds_toArray, List.set_cons_zero, List.set_cons_succ])) | (refine wpAnyH_take (i := 46) (oi := ⟨_, _, _, _, _, _⟩) (v := ?_) rfl (by kernel_rfl) (by kernel_rfl) (by kernel_rfl) (fun _ _ _ h => h) (Or.inl ⟨by rfl, ?_⟩) (by assumption) ?_; rotate_left; (focus (intro w hSw; (try dsimp only at hSw); go_simp; try with_reducible rfl)); (try simp only [Act.put, List.setIfInBounds_toArray, List.set_cons_zero, List.set_cons_succ]))
    refine wpAnyH_take (i := 47) (oi := ⟨_, _, _, _, _, _⟩) (v := ?_) rfl (by kernel_rfl) (by kernel_rfl) (by kernel_rfl) (fun _ _ _ h => h) (Or.inl ⟨by rfl, ?_⟩) (by assumption) ?_; rotate_left; (focus (intro w hSw; (try dsimp only at hSw); go_simp; try with_reducible rfl)); (try simp only [Act.put, List.setIfInBounds_toArray, List.set_cons_zero, List.set_cons_succ])
    refine wpAnyH_take (i := 48) (oi := ⟨_, _, _, _, _, _⟩) (v := ?_) rfl (by kernel_rfl) (by kernel_rfl) (by kernel_rfl) (fun _ _ _ h => h) (Or.inl ⟨by rfl, ?_⟩) (by assumption) ?_; rotate_left; (focus (intro w hSw; (try dsimp only at hSw); go_simp; try with_reducible rfl)); (try simp only [Act.put, List.setIfInBounds_toArray, List.set_cons_zero, List.set_cons_succ])
    first | (refine wpAnyH_take (i := 49) (oi := ⟨_, _, _, _, _, _⟩) rfl (by kernel_rfl) (by kernel_rfl) (by kernel_rfl) (fun _ _ _ h => h) (Or.inr ⟨by rfl, rfl⟩) (by assumption) ?_; (try simp only [Act.put, List.setIfInBounds_toArray, List.set_cons_zero, List.set_cons_succ])) | (refine wpAnyH_take (i := 49) (oi := ⟨_, _, _, _, _, _⟩) (v := ?_) rfl (by kernel_rfl) (by kernel_rfl) (by kernel_rfl) (fun _ _ _ h => h) (Or.inl ⟨by rfl, ?_⟩) (by assumption) ?_; rotate_left; (focus (intro w hSw; (try dsimp only at hSw); have t1 := (HB1.out.below hSw).2.1; have t3 := (HB3.out.below hSw).2.1; have t4 := (HB4.out.below hSw).2.1; have t5 := (HB5.out.below hSw).2.1; have t6 := (HB6.out.below hSw).2.1; have t7 := (HB7.out.below hSw).2.1; have t8 := (HB8.out.below hSw).2.1; go_simp; try with_reducible rfl)); (try simp only [Act.put, List.setIfInBounds_toArray, List.set_cons_zero, List.set_cons_succ]))
    first | (refine wpAnyH_take (i := 50) (oi := ⟨_, _, _, _, _, _⟩) rfl (by kernel_rfl) (by kernel_rfl) (by kernel_rfl) (fun _ _ _ h => h) (Or.inr ⟨by rfl, rfl⟩) (by assumption) ?_; (try simp only [Act.put, List.setIfInBounds_toArray, List.set_cons_zero, List.set_cons_succ])) | (refine wpAnyH_take (i := 50) (oi := ⟨_, _, _, _, _, _⟩) (v := ?_) rfl (by kernel_rfl) (by kernel_rfl) (by kernel_rfl) (fun _ _ _ h => h) (Or.inl ⟨by rfl, ?_⟩) (by assumption) ?_; rotate_left; (focus (intro w hSw; (try dsimp only at hSw); have t1 := (HB1.out.below hSw).2.1; have t3 := (HB3.out.below hSw).2.1; have t4 := (HB4.out.below hSw).2.1; have t5 := (HB5.out.below hSw).2.1; have t6 := (HB6.out.below hSw).2.1; have t7 := (HB7.out.below hSw).2.1; have t8 := (HB8.out.below hSw).2.1; go_simp; try with_reducible rfl)); (try simp only [Act.put, List.setIfInBounds_toArray, List.set_cons_zero, List.set_cons_succ]))
    first | (refine wpAnyH_take (i := 52) (oi := ⟨_, _, _, _, _, _⟩) rfl (by kernel_rfl) (by kernel_rfl) (by kernel_rfl) (fun _ _ _ h => h) (Or.inr ⟨by rfl, rfl⟩) (by assumption) ?_; (try simp only [Act.put, List.setIfInBounds_toArray, List.set_cons_zero, List.set_cons_succ])) | (refine wpAnyH_take (i := 52) (oi := ⟨_, _, _, _, _, _⟩) (v := ?_) rfl (by kernel_rfl) (by kernel_rfl) (by kernel_rfl) (fun _ _ _ h => h) (Or.inl ⟨by rfl, ?_⟩) (by assumption) ?_; rotate_left; (focus (intro w hSw; (try dsimp only at hSw); have t1 := (HB1.out.below hSw).2.1; have t3 := (HB3.out.below hSw).2.1; have t4 := (HB4.out.below hSw).2.1; have t5 := (HB5.out.below hSw).2.1; have t6 := (HB6.out.below hSw).2.1; have t7 := (HB7.out.below hSw).2.1; have t8 := (HB8.out.below hSw).2.1; go_simp; try with_reducible rfl)); (try simp only [Act.put, List.setIfInBounds_toArray, List.set_cons_zero, List.set_cons_succ]))
    first | (refine wpAnyH_take (i := 53) (oi := ⟨_, _, _, _, _, _⟩) rfl (by kernel_rfl) (by kernel_rfl) (by kernel_rfl) (fun _ _ _ h => h) (Or.inr ⟨by rfl, rfl⟩) (by assumption) ?_; (try simp only [Act.put, List.setIfInBounds_toArray, List.set_cons_zero, List.set_cons_succ])) | (refine wpAnyH_take (i := 53) (oi := ⟨_, _, _, _, _, _⟩) (v := ?_) rfl (by kernel_rfl) (by kernel_rfl) (by kernel_rfl) (fun _ _ _ h => h) (Or.inl ⟨by rfl, ?_⟩) (by assumption) ?_; rotate_left; (focus (intro w hSw; (try dsimp only at hSw); have t1 := (HB1.out.below hSw).2.1; have t3 := (HB3.out.below hSw).2.1; have t4 := (HB4.out.below hSw).2.1; have t5 := (HB5.out.below hSw).2.1; have t6 := (HB6.out.below hSw).2.1; have t7 := (HB7.out.below hSw).2.1; have t8 := (HB8.out.below hSw).2.1; go_simp; try with_reducible rfl)); (try simp only [Act.put, List.setIfInBounds_toArray, List.set_cons_zero, List.set_cons_succ]))
    refine wpAnyH_ready (rs := [51]) (by kernel_rfl) (by simp) ?_
    refine AllReadyH.cons (o := ⟨_, _, _, _, _, _⟩) rfl (fun K hK => ?_) AllReadyH.nil
    go_simp
    go_at_call 21; (with_reducible refine (HA4.out _ (QAt.below HQ7.out hHeld) (QAt.below HQ8.out hHeld)).mono ?_); rintro e x6 ⟨rfl, d1⟩; have hS' := bthen hHeld d1
    refine hK.out _ _ (by exact hS') (fun hHeld' => ?_)
    clear hHeld hK K
    have hHeld := hHeld'
    clear hHeld'
    try simp only [Act.put, List.setIfInBounds_toArray, List.set_cons_zero, List.set_cons_succ]
    refine wpAnyH_ready (rs := [54]) (by kernel_rfl) (by simp) ?_
    refine AllReadyH.cons (o := ⟨_, _, _, _, _, _⟩) rfl (fun K hK => ?_) AllReadyH.nil
    go_simp
    go_at_call 20; (with_reducible refine (HA5.out _ (QAt.below HQ7.out hHeld) (QAt.below HQ8.out hHeld)).mono ?_); rintro e x7 ⟨rfl, d1⟩; have hS' := bthen hHeld d1
    refine hK.out _ _ (by exact hS') (fun hHeld' => ?_)
    clear hHeld hK K
    have hHeld := hHeld'
    clear hHeld'
    try simp only [Act.put, List.setIfInBounds_toArray, List.set_cons_zero, List.set_cons_succ]
    first | (refine wpAnyH_take (i := 55) (oi := ⟨_, _, _, _, _, _⟩) rfl (by kernel_rfl) (by kernel_rfl) (by kernel_rfl) (fun _ _ _ h => h) (Or.inr ⟨by rfl, rfl⟩) (by assumption) ?_; (try simp only [Act.put, List.setIfInBounds_toArray, List.set_cons_zero, List.set_cons_succ])) | (refine wpAnyH_take (i := 55) (oi := ⟨_, _, _, _, _, _⟩) (v := ?_) rfl (by kernel_rfl) (by kernel_rfl) (by kernel_rfl) (fun _ _ _ h => h) (Or.inl ⟨by rfl, ?_⟩) (by assumption) ?_; rotate_left; (focus (intro w hSw; (try dsimp only at hSw); go_simp; try with_reducible rfl)); (try simp only [Act.put, List.setIfInBounds_toArray, List.set_cons_zero, List.set_cons_succ]))
    refine wpAnyH_take (i := 56) (oi := ⟨_, _, _, _, _, _⟩) (v := ?_) rfl (by kernel_rfl) (by kernel_rfl) (by kernel_rfl) (fun _ _ _ h => h) (Or.inl ⟨by rfl, ?_⟩) (by assumption) ?_; rotate_left; (focus (intro w hSw; (try dsimp only at hSw); go_simp; try with_reducible rfl)); (try simp only [Act.put, List.setIfInBounds_toArray, List.set_cons_zero, List.set_cons_succ])
    refine wpAnyH_take (i := 57) (oi := ⟨_, _, _, _, _, _⟩) (v := ?_) rfl (by kernel_rfl) (by kernel_rfl) (by kernel_rfl) (fun _ _ _ h => h) (Or.inl ⟨by rfl, ?_⟩) (by assumption) ?_; rotate_left; (focus (intro w hSw; (try dsimp only at hSw); go_simp; try with_reducible rfl)); (try simp only [Act.put, List.setIfInBounds_toArray, List.set_cons_zero, List.set_cons_succ])
    first | (refine wpAnyH_take (i := 58) (oi := ⟨_, _, _, _, _, _⟩) rfl (by kernel_rfl) (by kernel_rfl) (by kernel_rfl) (fun _ _ _ h => h) (Or.inr ⟨by rfl, rfl⟩) (by assumption) ?_; (try simp only [Act.put, List.setIfInBounds_toArray, List.set_cons_zero, List.set_cons_succ])) | (refine wpAnyH_take (i := 58) (oi := ⟨_, _, _, _, _, _⟩) (v := ?_) rfl (by kernel_rfl) (by kernel_rfl) (by kernel_rfl) (fun _ _ _ h => h) (Or.inl ⟨by rfl, ?_⟩) (by assumption) ?_; rotate_left; (focus (intro w hSw; (try dsimp only at hSw); have t1 := (HB1.out.below hSw).2.1; have t3 := (HB3.out.below hSw).2.1; have t4 := (HB4.out.below hSw).2.1; have t5 := (HB5.out.below hSw).2.1; have t6 := (HB6.out.below hSw).2.1; have t7 := (HB7.out.below hSw).2.1; have t8 := (HB8.out.below hSw).2.1; go_simp; try with_reducible rfl)); (try simp only [Act.put, List.setIfInBounds_toArray, List.set_cons_zero, List.set_cons_succ]))
    first | (refine wpAnyH_take (i := 60) (oi := ⟨_, _, _, _, _, _⟩) rfl (by kernel_rfl) (by kernel_rfl) (by kernel_rfl) (fun _ _ _ h => h) (Or.inr ⟨by rfl, rfl⟩) (by assumption) ?_; (try simp only [Act.put, List.setIfInBounds_toArray, List.set_cons_zero, List.set_cons_succ])) | (refine wpAnyH_take (i := 60) (oi := ⟨_, _, _, _, _, _⟩) (v := ?_) rfl (by kernel_rfl) (by kernel_rfl) (by kernel_rfl) (fun _ _ _ h => h) (Or.inl ⟨by rfl, ?_⟩) (by assumption) ?_; rotate_left; (focus (intro w hSw; (try dsimp only at hSw); have t1 := (HB1.out.below hSw).2.1; have t3 := (HB3.out.below hSw).2.1; have t4 := (HB4.out.below hSw).2.1; have t5 := (HB5.out.below hSw).2.1; have t6 := (HB6.out.below hSw).2.1; have t7 := (HB7.out.below hSw).2.1; have t8 := (HB8.out.below hSw).2.1; go_simp; try with_reducible rfl)); (try simp only [Act.put, List.setIfInBounds_toArray, List.set_cons_zero, List.set_cons_succ]))
    refine wpAnyH_ready (rs := [59]) (by kernel_rfl) (by simp) ?_
    refine AllReadyH.cons (o := ⟨_, _, _, _, _, _⟩) rfl (fun K hK => ?_) AllReadyH.nil
    go_simp
    go_at_call 22; (with_reducible refine (HA6.out _ (QAt.below HQ3.out hHeld)).mono ?_); rintro e x8 ⟨rfl, d1⟩; have hS' := bthen hHeld d1
    refine hK.out _ _ (by exact hS') (fun hHeld' => ?_)
    clear hHeld hK K
    have hHeld := hHeld'
    clear hHeld'
    try simp only [Act.put, List.setIfInBounds_toArray, List.set_cons_zero, List.set_cons_succ]
    refine wpAnyH_ready (rs := [61]) (by kernel_rfl) (by simp) ?_
    refine AllReadyH.cons (o := ⟨_, _, _, _, _, _⟩) rfl (fun K hK => ?_) AllReadyH.nil
    go_simp
    go_at_call 23; (with_reducible refine (HA7.out _ (QAt.below HQ3.out hHeld)).mono ?_); rintro e w29 ⟨rfl, d1⟩; have hS' := bthen hHeld d1
    refine hK.out _ _ (by exact hS') (fun hHeld' => ?_)
    clear hHeld hK K
    have hHeld := hHeld'
    clear hHeld'
    try simp only [Act.put, List.setIfInBounds_toArray, List.set_cons_zero, List.set_cons_succ]
    first | (refine wpAnyH_take (i := 62) (oi := ⟨_, _, _, _, _, _⟩) rfl (by kernel_rfl) (by kernel_rfl) (by kernel_rfl) (fun _ _ _ h => h) (Or.inr ⟨by rfl, rfl⟩) (by assumption) ?_; (try simp only [Act.put, List.setIfInBounds_toArray, List.set_cons_zero, List.set_cons_succ])) | (refine wpAnyH_take (i := 62) (oi := ⟨_, _, _, _, _, _⟩) (v := ?_) rfl (by kernel_rfl) (by kernel_rfl) (by kernel_rfl) (fun _ _ _ h => h) (Or.inl ⟨by rfl, ?_⟩) (by assumption) ?_; rotate_left; (focus (intro w hSw; (try dsimp only at hSw); go_simp; try with_reducible rfl)); (try simp only [Act.put, List.setIfInBounds_toArray, List.set_cons_zero, List.set_cons_succ]))
    refine wpAnyH_take (i := 63) (oi := ⟨_, _, _, _, _, _⟩) (v := ?_) rfl (by kernel_rfl) (by kernel_rfl) (by kernel_rfl) (fun _ _ _ h => h) (Or.inl ⟨by rfl, ?_⟩) (by assumption) ?_; rotate_left; (focus (intro w hSw; (try dsimp only at hSw); go_simp; try with_reducible rfl)); (try simp only [Act.put, List.setIfInBounds_toArray, List.set_cons_zero, List.set_cons_succ])
    refine wpAnyH_done (by kernel_rfl) ?_ _
    have hb := hHeld
    clear hHeld HA1 HA2 HA3 HA4 HA5 HA6 HA7 HA8 HS2 HB3 HB4 HB5 HB6 HB7 HB8 HQ3 HQ4 HQ5 HQ6 HQ7 HQ8 HM
    try (have Hn1 := Lib.hid (HB1.out.below hb); clear HB1; have HB1 := Hn1; clear Hn1)
    try (have Hn1 := Lib.hid (QAt.below HQ1.out hb); clear HQ1; have HQ1 := Hn1; clear Hn1)
    try (have Hn1 := Lib.hid (HB2.out.below hb); clear HB2; have HB2 := Hn1; clear Hn1)
    try (have Hn1 := Lib.hid (QAt.below HQ2.out hb); clear HQ2; have HQ2 := Hn1; clear Hn1)
    try (have Hn1 := Lib.hid (HB3.out.below hb); clear HB3; have HB3 := Hn1; clear Hn1)
    try (have Hn1 := Lib.hid (QAt.below HQ3.out hb); clear HQ3; have HQ3 := Hn1; clear Hn1)
    try (have Hn1 := Lib.hid (HB4.out.below hb); clear HB4; have HB4 := Hn1; clear Hn1)
    try (have Hn1 := Lib.hid (QAt.below HQ4.out hb); clear HQ4; have HQ4 := Hn1; clear Hn1)
    try (have Hn1 := Lib.hid (HB5.out.below hb); clear HB5; have HB5 := Hn1; clear Hn1)
    try (have Hn1 := Lib.hid (QAt.below HQ5.out hb); clear HQ5; have HQ5 := Hn1; clear Hn1)
    try (have Hn1 := Lib.hid (HB6.out.below hb); clear HB6; have HB6 := Hn1; clear Hn1)
    try (have Hn1 := Lib.hid (QAt.below HQ6.out hb); clear HQ6; have HQ6 := Hn1; clear Hn1)
    try (have Hn1 := Lib.hid (HB7.out.below hb); clear HB7; have HB7 := Hn1; clear Hn1)
    try (have Hn1 := Lib.hid (QAt.below HQ7.out hb); clear HQ7; have HQ7 := Hn1; clear Hn1)
    try (have Hn1 := Lib.hid (HB8.out.below hb); clear HB8; have HB8 := Hn1; clear Hn1)
    try (have Hn1 := Lib.hid (QAt.below HQ8.out hb); clear HQ8; have HQ8 := Hn1; clear Hn1)
    try (have Hn1 := Lib.hid (HU.out.below hb); clear HU; have HU := Hn1; clear Hn1)
    try (have Hn1 := Lib.hid (HX.out.below hb); clear HX; have HX := Hn1; clear Hn1)
    try (have Hn1 := Lib.hid (HM.out.below hb); clear HM; have HM := Hn1; clear Hn1)
    try (have Hn1 := Lib.hid (HTab.out.below hb); clear HTab; have HTab := Hn1; clear Hn1)
    have Hn2 := bthen hb0 hb
    clear hb0 hb
    have hb0 := Hn2
    clear Hn2
    have HKE := Lib.hid (fun W a b => iMatchesQuery_c t6 (.slice y6a y6n y6c) (.slice z6a z6n z6c) (.slice xa xn xc) (easyL t6) W a b)
    by_cases hc : easyCode t6 = 0
    · rw [easy_match hc] at HKE
      rw [hc]
      clear hc
      have e6 := HB2.out.2.1
      generalize easyL t6 = EL at *
      go_wp2_with fail
      refine (HKE.out _ HQ2.out HX.out).mono ?_
      rintro e w30 ⟨rfl, hb⟩
      clear HKE e6
      try (have Hn1 := Lib.hid (HB1.out.below hb); clear HB1; have HB1 := Hn1; clear Hn1)
      try (have Hn1 := Lib.hid (QAt.below HQ1.out hb); clear HQ1; have HQ1 := Hn1; clear Hn1)
      try (have Hn1 := Lib.hid (HB2.out.below hb); clear HB2; have HB2 := Hn1; clear Hn1)
      try (have Hn1 := Lib.hid (QAt.below HQ2.out hb); clear HQ2; have HQ2 := Hn1; clear Hn1)
      try (have Hn1 := Lib.hid (HB3.out.below hb); clear HB3; have HB3 := Hn1; clear Hn1)
      try (have Hn1 := Lib.hid (QAt.below HQ3.out hb); clear HQ3; have HQ3 := Hn1; clear Hn1)
      try (have Hn1 := Lib.hid (HB4.out.below hb); clear HB4; have HB4 := Hn1; clear Hn1)
      try (have Hn1 := Lib.hid (QAt.below HQ4.out hb); clear HQ4; have HQ4 := Hn1; clear Hn1)
      try (have Hn1 := Lib.hid (HB5.out.below hb); clear HB5; have HB5 := Hn1; clear Hn1)
      try (have Hn1 := Lib.hid (QAt.below HQ5.out hb); clear HQ5; have HQ5 := Hn1; clear Hn1)
      try (have Hn1 := Lib.hid (HB6.out.below hb); clear HB6; have HB6 := Hn1; clear Hn1)
      try (have Hn1 := Lib.hid (QAt.below HQ6.out hb); clear HQ6; have HQ6 := Hn1; clear Hn1)
      try (have Hn1 := Lib.hid (HB7.out.below hb); clear HB7; have HB7 := Hn1; clear Hn1)
      try (have Hn1 := Lib.hid (QAt.below HQ7.out hb); clear HQ7; have HQ7 := Hn1; clear Hn1)
      try (have Hn1 := Lib.hid (HB8.out.below hb); clear HB8; have HB8 := Hn1; clear Hn1)
      try (have Hn1 := Lib.hid (QAt.below HQ8.out hb); clear HQ8; have HQ8 := Hn1; clear Hn1)
      try (have Hn1 := Lib.hid (HU.out.below hb); clear HU; have HU := Hn1; clear Hn1)
      try (have Hn1 := Lib.hid (HX.out.below hb); clear HX; have HX := Hn1; clear Hn1)
      try (have Hn1 := Lib.hid (HM.out.below hb); clear HM; have HM := Hn1; clear Hn1)
      try (have Hn1 := Lib.hid (HTab.out.below hb); clear HTab; have HTab := Hn1; clear Hn1)
      have Hn2 := bthen hb0 hb
      clear hb0 hb
      have hb0 := Hn2
      clear Hn2
      cases mb
      · go_wp2
        go_ret
        exact Gives.bool rfl hb0
      · generalize hW : w30 = W0 at *
        clear hW
        have hmq := Hmq.out
        have hok : okPat u = true := by
          unfold mqB at hmq
          simp only [Bool.and_eq_true] at hmq
          exact hmq.2.1
        have Hin2 := Lib.hid (throwsIn (okPat_throws hok))
        have hul := (throwsB_nth (okPat_throws hok)).2
        obtain ⟨_, _, _, he, hun, -, -, huc⟩ := HU.out
        injection he with he1 he2 he3
        subst he1 he2 he3
        have hp12 : 1 ≤ pn ∧ pn ≤ 12 := by omega
        have Hun := Lib.hid hun
        have Huc := Lib.hid huc
        clear hmq hok hul hun huc
        go_wp2
        go_loopw [22, 23] (fun o i wr => ∃ (k : Nat) (a' : Option Addr) (n' c' : Nat), i = .int .i64 k ∧ k ≤ pn ∧ o = .slice a' n' c' ∧ Hid (OwnInts wr W0.heap.size (.slice a' n' c') (u.take k)) ∧ Below W0.heap.size W0 wr) (fun _ i _ => pn - (intOf i).toNat)
        case atStart => exact ⟨0, _, _, _, rfl, Nat.zero_le _, rfl, Lib.hid (by rw [List.take_zero]; exact own_empty W0), by go_grown⟩
        case round =>
          obtain ⟨k, a', n', c', rfl, hk, rfl, HO, hb⟩ := hrel
          by_cases hlt : k < pn
          · have HT : Hid (u.take k ++ [nth u k] = u.take (k + 1)) := Lib.hid (take_nth u k (by rw [← Hun.out]; exact hlt)).symm
            obtain ⟨b, o, rfl, hbs, c0⟩ := Huc.out k (by rw [← Hun.out]; exact hlt)
            have c1 := cell_then hbs c0 hb
            have hsz := hb.size
            have HL : Hid ((u.take k).length ≤ 12) := Lib.hid (by rw [List.length_take]; have := Hun.out; omega)
            generalize nth u k = x at *
            clear c0
            go_wp2_with (at_builtin; refine wpList_app_ints rfl _ _ rfl W0.heap.size _ _ rfl (HO.out.alloc _) _ _ _ [x] rfl rfl (ints_new _ _ _) (by have := HL.out; simp only [List.length_cons, List.length_nil]; omega) (by simp; omega) ?_)
            intro a7 n7 c7 w7 ho7 hg7 _ hn7; clear hn7
            have hb7 : Below W0.heap.size W0 w7 := (hb.alloc hsz _).grown hg7 (by simp; omega) (fun g hg => (World.ownsRow.lt HO.out g hg).1)
            have HO7 : Hid (OwnInts w7 W0.heap.size (.slice a7 n7 c7) (u.take (k + 1))) := Lib.hid (by rw [← HT.out]; exact ho7)
            clear ho7 hg7 HO c1 hb HT HL
            go_wp2
            exact ⟨⟨k + 1, a7, n7, c7, by go_num, hlt, rfl, HO7, hb7⟩, by simp [intOf]; omega⟩
          · obtain rfl : k = pn := by omega
            have HO2 : Hid (OwnInts wr W0.heap.size (.slice a' n' c') u) := Lib.hid (by
              have h := HO.out
              rw [List.take_of_length_le (by rw [← Hun.out]; exact Nat.le_refl _)] at h
              exact h)
            obtain ⟨hn, hh⟩ := ownHead HO2.out
            rw [← Hun.out] at hn
            obtain rfl : k = n' := hn.symm
            obtain ⟨g, rfl, hg⟩ := hh (by omega)
            clear HO hh
            have hw1 : IntKind.i64.wrap ((k : Int) - 1) = (k : Int) - 1 := IntWalk.i64_in _ (by omega)
            go_wp2
            clear hw1
            generalize hW1 : wr = W1 at *
            clear hW1
            go_loopw [24] (fun kv wr => ∃ t : Int, kv = .int .i64 t ∧ -1 ≤ t ∧ t < (k : Int) ∧ Hid (∀ i : Nat, t < (i : Int) → i < u.length → nth u i = 0) ∧ Below W1.heap.size W1 wr) (fun kv _ => (intOf kv + 1).toNat)
            case atStart => exact ⟨(k : Int) - 1, rfl, by omega, by omega, Lib.hid (fun i h1 h2 => by have := Hun.out; omega), Below.refl _ _⟩
            case round =>
              obtain ⟨t, rfl, ht0, htk, HZ, hb1⟩ := hrel
              by_cases ht : 0 ≤ t
              · obtain ⟨i, rfl⟩ : ∃ i : Nat, t = (i : Int) := ⟨t.toNat, by omega⟩
                have hik : i < k := by omega
                have hiu : i < u.length := by rw [← Hun.out]; exact hik
                have HO3 := Lib.hid (own_below HO2.out hb1)
                obtain ⟨e0, f0⟩ := ownCell HO3.out i hiu
                have hx := Hin2.out _ (mem_nth hiu)
                by_cases hx0 : nth u i = 0
                · have HZ2 : Hid (∀ j : Nat, (i : Int) - 1 < (j : Int) → j < u.length → nth u j = 0) := Lib.hid (fun j h1 h2 => by
                    rcases Nat.lt_or_ge i j with h3 | h3
                    · exact HZ.out j (by omega) h2
                    · obtain rfl : j = i := by omega
                      exact hx0)
                  rw [hx0] at e0
                  clear hx0 hx HZ hiu
                  have hw1 : IntKind.i64.wrap ((i : Int) - 1) = (i : Int) - 1 := IntWalk.i64_in _ (by omega)
                  go_wp2
                  exact ⟨⟨(i : Int) - 1, by go_num, by omega, by omega, HZ2, hb1⟩, by simp [intOf] <;> omega⟩
                · have Hx0 := Lib.hid hx0
                  have hbef := before_law Hmq.out hiu hx0 (fun j h1 h2 => HZ.out j (by omega) h2)
                  have Hbef := Lib.hid hbef
                  have HF := Lib.hid (fill_bef u i hiu)
                  have hxe : (nth u i == 0) = false := beq_eq_false_iff_ne.2 hx0
                  have hb2 := bthen hb hb1
                  clear hbef hx0 HZ
                  generalize nth u i = x at *
                  have hw1 : IntKind.i64.wrap (x - 1) = x - 1 := IntWalk.i64_in _ (by omega)
                  go_wp2
                  clear e0 f0 hw1 hxe
                  have HO4 := Lib.hid (ownSet HO3.out i (x - 1))
                  have hb3 : Below W0.heap.size W0 (wr.setCell ⟨g, i, none⟩ (.int .i64 (x - 1))) := hb2.setCell hg _
                  generalize wr.setCell ⟨g, i, none⟩ (.int .i64 (x - 1)) = W2 at *
                  clear HO3 hb2 hb1
                  go_loopw [25] (fun jv wr => ∃ m : Nat, jv = .int .i64 m ∧ i + 1 ≤ m ∧ m ≤ k ∧ Hid (OwnInts wr W0.heap.size (.slice (some ⟨g, 0, none⟩) k c') (fillL (u.set i (x - 1)) (i + 1) (m - (i + 1)))) ∧ Below W0.heap.size W0 wr) (fun jv _ => k - (intOf jv).toNat)
                  case atStart => exact ⟨i + 1, by go_num, Nat.le_refl _, hik, Lib.hid (by rw [Nat.sub_self]; exact HO4.out), hb3⟩
                  case round =>
                    obtain ⟨m, rfl, him, hmk, HO5, hb5⟩ := hrel
                    by_cases hlt : m < k
                    · obtain ⟨e0, f0⟩ := ownCell HO5.out m (by rw [fillL_len, List.length_set, ← Hun.out]; exact hlt)
                      have HO6 : Hid (OwnInts (wr.setCell ⟨g, m, none⟩ (.int .i64 15)) W0.heap.size (.slice (some ⟨g, 0, none⟩) k c') (fillL (u.set i (x - 1)) (i + 1) (m + 1 - (i + 1)))) := Lib.hid (by
                        have h := ownSet HO5.out m 15
                        have e : m + 1 - (i + 1) = (m - (i + 1)) + 1 := by omega
                        have e2 : i + 1 + (m - (i + 1)) = m := by omega
                        rw [e]
                        show OwnInts _ _ _ ((fillL (u.set i (x - 1)) (i + 1) (m - (i + 1))).set (i + 1 + (m - (i + 1))) 15)
                        rw [e2]; exact h)
                      have hb6 : Below W0.heap.size W0 (wr.setCell ⟨g, m, none⟩ (.int .i64 15)) := hb5.setCell hg _
                      generalize hxl : nth (fillL (u.set i (x - 1)) (i + 1) (m - (i + 1))) m = y at *
                      clear hxl HO5
                      go_wp2
                      exact ⟨⟨m + 1, by go_num, by omega, hlt, HO6, hb6⟩, by simp [intOf]; omega⟩
                    · obtain rfl : m = k := by omega
                      have HO6 : Hid (OwnInts wr W0.heap.size (.slice (some ⟨g, 0, none⟩) m c') (befL u i)) := Lib.hid (by
                        have h := HO5.out
                        have e := HF.out
                        rw [← Hun.out] at e
                        rw [e] at h
                        exact h)
                      clear HO5 HF HO4
                      have e3 := (HB1.out.below hb5).2.1
                      go_wp2_with fail
                      refine (iNextFound_c q _ _ _ _ wr (QAt.below HQ1.out hb5) (OwnInts.at HO6.out)).mono ?_
                      rintro e w9 ⟨na, nn, nc, rfl, ho, hb9⟩
                      have HN := Lib.hid (OwnInts.at ho)
                      have hbz := bthen hb0 (bthen hb5 hb9)
                      clear ho e3
                      rcases Hbef.out with h5 | ⟨h0, hl⟩
                      · rw [h5]
                        clear h5 Hbef
                        go_wp2
                        go_ret
                        exact Gives.bool rfl hbz
                      · rw [hl] at HN
                        rw [h0]
                        have HU9 := Lib.hid (IntsAt.below HU.out (bthen hb5 hb9))
                        clear h0 hl Hbef
                        go_wp2_with fail
                        have h := f6ints_c _ _ _ _ w9 HN.out HU9.out
                        rw [eqI_self] at h
                        refine h.mono ?_
                        rintro e w10 ⟨rfl, hb10⟩
                        have hbz2 := bthen hbz hb10
                        clear h hb10 hbz
                        go_wp2
                        go_ret
                        exact Gives.bool rfl hbz2
              · obtain rfl : t = -1 := by omega
                have hbz := bthen hb0 (bthen hb hb1)
                clear HZ
                go_wp2
                go_ret
                exact Gives.bool rfl hbz
    · have hcb : (easyCode t6 == 0) = false := beq_eq_false_iff_ne.2 hc
      clear hc HKE
      generalize easyCode t6 = code at *
      generalize easyL t6 = EL at *
      cases mb
      · go_wp2
        go_ret
        exact Gives.bool rfl hb0
      · generalize hW : w29 = W0 at *
        clear hW
        have hmq := Hmq.out
        have hok : okPat u = true := by
          unfold mqB at hmq
          simp only [Bool.and_eq_true] at hmq
          exact hmq.2.1
        have Hin2 := Lib.hid (throwsIn (okPat_throws hok))
        have hul := (throwsB_nth (okPat_throws hok)).2
        obtain ⟨_, _, _, he, hun, -, -, huc⟩ := HU.out
        injection he with he1 he2 he3
        subst he1 he2 he3
        have hp12 : 1 ≤ pn ∧ pn ≤ 12 := by omega
        have Hun := Lib.hid hun
        have Huc := Lib.hid huc
        clear hmq hok hul hun huc
        go_wp2
        go_loopw [22, 23] (fun o i wr => ∃ (k : Nat) (a' : Option Addr) (n' c' : Nat), i = .int .i64 k ∧ k ≤ pn ∧ o = .slice a' n' c' ∧ Hid (OwnInts wr W0.heap.size (.slice a' n' c') (u.take k)) ∧ Below W0.heap.size W0 wr) (fun _ i _ => pn - (intOf i).toNat)
        case atStart => exact ⟨0, _, _, _, rfl, Nat.zero_le _, rfl, Lib.hid (by rw [List.take_zero]; exact own_empty W0), by go_grown⟩
        case round =>
          obtain ⟨k, a', n', c', rfl, hk, rfl, HO, hb⟩ := hrel
          by_cases hlt : k < pn
          · have HT : Hid (u.take k ++ [nth u k] = u.take (k + 1)) := Lib.hid (take_nth u k (by rw [← Hun.out]; exact hlt)).symm
            obtain ⟨b, o, rfl, hbs, c0⟩ := Huc.out k (by rw [← Hun.out]; exact hlt)
            have c1 := cell_then hbs c0 hb
            have hsz := hb.size
            have HL : Hid ((u.take k).length ≤ 12) := Lib.hid (by rw [List.length_take]; have := Hun.out; omega)
            generalize nth u k = x at *
            clear c0
            go_wp2_with (at_builtin; refine wpList_app_ints rfl _ _ rfl W0.heap.size _ _ rfl (HO.out.alloc _) _ _ _ [x] rfl rfl (ints_new _ _ _) (by have := HL.out; simp only [List.length_cons, List.length_nil]; omega) (by simp; omega) ?_)
            intro a7 n7 c7 w7 ho7 hg7 _ hn7; clear hn7
            have hb7 : Below W0.heap.size W0 w7 := (hb.alloc hsz _).grown hg7 (by simp; omega) (fun g hg => (World.ownsRow.lt HO.out g hg).1)
            have HO7 : Hid (OwnInts w7 W0.heap.size (.slice a7 n7 c7) (u.take (k + 1))) := Lib.hid (by rw [← HT.out]; exact ho7)
            clear ho7 hg7 HO c1 hb HT HL
            go_wp2
            exact ⟨⟨k + 1, a7, n7, c7, by go_num, hlt, rfl, HO7, hb7⟩, by simp [intOf]; omega⟩
          · obtain rfl : k = pn := by omega
            have HO2 : Hid (OwnInts wr W0.heap.size (.slice a' n' c') u) := Lib.hid (by
              have h := HO.out
              rw [List.take_of_length_le (by rw [← Hun.out]; exact Nat.le_refl _)] at h
              exact h)
            obtain ⟨hn, hh⟩ := ownHead HO2.out
            rw [← Hun.out] at hn
            obtain rfl : k = n' := hn.symm
            obtain ⟨g, rfl, hg⟩ := hh (by omega)
            clear HO hh
            have hw1 : IntKind.i64.wrap ((k : Int) - 1) = (k : Int) - 1 := IntWalk.i64_in _ (by omega)
            go_wp2
            clear hw1
            generalize hW1 : wr = W1 at *
            clear hW1
            go_loopw [24] (fun kv wr => ∃ t : Int, kv = .int .i64 t ∧ -1 ≤ t ∧ t < (k : Int) ∧ Hid (∀ i : Nat, t < (i : Int) → i < u.length → nth u i = 0) ∧ Below W1.heap.size W1 wr) (fun kv _ => (intOf kv + 1).toNat)
            case atStart => exact ⟨(k : Int) - 1, rfl, by omega, by omega, Lib.hid (fun i h1 h2 => by have := Hun.out; omega), Below.refl _ _⟩
            case round =>
              obtain ⟨t, rfl, ht0, htk, HZ, hb1⟩ := hrel
              by_cases ht : 0 ≤ t
              · obtain ⟨i, rfl⟩ : ∃ i : Nat, t = (i : Int) := ⟨t.toNat, by omega⟩
                have hik : i < k := by omega
                have hiu : i < u.length := by rw [← Hun.out]; exact hik
                have HO3 := Lib.hid (own_below HO2.out hb1)
                obtain ⟨e0, f0⟩ := ownCell HO3.out i hiu
                have hx := Hin2.out _ (mem_nth hiu)
                by_cases hx0 : nth u i = 0
                · have HZ2 : Hid (∀ j : Nat, (i : Int) - 1 < (j : Int) → j < u.length → nth u j = 0) := Lib.hid (fun j h1 h2 => by
                    rcases Nat.lt_or_ge i j with h3 | h3
                    · exact HZ.out j (by omega) h2
                    · obtain rfl : j = i := by omega
                      exact hx0)
                  rw [hx0] at e0
                  clear hx0 hx HZ hiu
                  have hw1 : IntKind.i64.wrap ((i : Int) - 1) = (i : Int) - 1 := IntWalk.i64_in _ (by omega)
                  go_wp2
                  exact ⟨⟨(i : Int) - 1, by go_num, by omega, by omega, HZ2, hb1⟩, by simp [intOf] <;> omega⟩
                · have Hx0 := Lib.hid hx0
                  have hbef := before_law Hmq.out hiu hx0 (fun j h1 h2 => HZ.out j (by omega) h2)
                  have Hbef := Lib.hid hbef
                  have HF := Lib.hid (fill_bef u i hiu)
                  have hxe : (nth u i == 0) = false := beq_eq_false_iff_ne.2 hx0
                  have hb2 := bthen hb hb1
                  clear hbef hx0 HZ
                  generalize nth u i = x at *
                  have hw1 : IntKind.i64.wrap (x - 1) = x - 1 := IntWalk.i64_in _ (by omega)
                  go_wp2
                  clear e0 f0 hw1 hxe
                  have HO4 := Lib.hid (ownSet HO3.out i (x - 1))
                  have hb3 : Below W0.heap.size W0 (wr.setCell ⟨g, i, none⟩ (.int .i64 (x - 1))) := hb2.setCell hg _
                  generalize wr.setCell ⟨g, i, none⟩ (.int .i64 (x - 1)) = W2 at *
                  clear HO3 hb2 hb1
                  go_loopw [25] (fun jv wr => ∃ m : Nat, jv = .int .i64 m ∧ i + 1 ≤ m ∧ m ≤ k ∧ Hid (OwnInts wr W0.heap.size (.slice (some ⟨g, 0, none⟩) k c') (fillL (u.set i (x - 1)) (i + 1) (m - (i + 1)))) ∧ Below W0.heap.size W0 wr) (fun jv _ => k - (intOf jv).toNat)
                  case atStart => exact ⟨i + 1, by go_num, Nat.le_refl _, hik, Lib.hid (by rw [Nat.sub_self]; exact HO4.out), hb3⟩
                  case round =>
                    obtain ⟨m, rfl, him, hmk, HO5, hb5⟩ := hrel
                    by_cases hlt : m < k
                    · obtain ⟨e0, f0⟩ := ownCell HO5.out m (by rw [fillL_len, List.length_set, ← Hun.out]; exact hlt)
                      have HO6 : Hid (OwnInts (wr.setCell ⟨g, m, none⟩ (.int .i64 15)) W0.heap.size (.slice (some ⟨g, 0, none⟩) k c') (fillL (u.set i (x - 1)) (i + 1) (m + 1 - (i + 1)))) := Lib.hid (by
                        have h := ownSet HO5.out m 15
                        have e : m + 1 - (i + 1) = (m - (i + 1)) + 1 := by omega
                        have e2 : i + 1 + (m - (i + 1)) = m := by omega
                        rw [e]
                        show OwnInts _ _ _ ((fillL (u.set i (x - 1)) (i + 1) (m - (i + 1))).set (i + 1 + (m - (i + 1))) 15)
                        rw [e2]; exact h)
                      have hb6 : Below W0.heap.size W0 (wr.setCell ⟨g, m, none⟩ (.int .i64 15)) := hb5.setCell hg _
                      generalize hxl : nth (fillL (u.set i (x - 1)) (i + 1) (m - (i + 1))) m = y at *
                      clear hxl HO5
                      go_wp2
                      exact ⟨⟨m + 1, by go_num, by omega, hlt, HO6, hb6⟩, by simp [intOf]; omega⟩
                    · obtain rfl : m = k := by omega
                      have HO6 : Hid (OwnInts wr W0.heap.size (.slice (some ⟨g, 0, none⟩) m c') (befL u i)) := Lib.hid (by
                        have h := HO5.out
                        have e := HF.out
                        rw [← Hun.out] at e
                        rw [e] at h
                        exact h)
                      clear HO5 HF HO4
                      have e3 := (HB1.out.below hb5).2.1
                      go_wp2_with fail
                      refine (iNextFound_c q _ _ _ _ wr (QAt.below HQ1.out hb5) (OwnInts.at HO6.out)).mono ?_
                      rintro e w9 ⟨na, nn, nc, rfl, ho, hb9⟩
                      have HN := Lib.hid (OwnInts.at ho)
                      have hbz := bthen hb0 (bthen hb5 hb9)
                      clear ho e3
                      rcases Hbef.out with h5 | ⟨h0, hl⟩
                      · rw [h5]
                        clear h5 Hbef
                        go_wp2
                        go_ret
                        exact Gives.bool rfl hbz
                      · rw [hl] at HN
                        rw [h0]
                        have HU9 := Lib.hid (IntsAt.below HU.out (bthen hb5 hb9))
                        clear h0 hl Hbef
                        go_wp2_with fail
                        have h := f6ints_c _ _ _ _ w9 HN.out HU9.out
                        rw [eqI_self] at h
                        refine h.mono ?_
                        rintro e w10 ⟨rfl, hb10⟩
                        have hbz2 := bthen hbz hb10
                        clear h hb10 hbz
                        go_wp2
                        go_ret
                        exact Gives.bool rfl hbz2
              · obtain rfl : t = -1 := by omega
                have hbz := bthen hb0 (bthen hb hb1)
                clear HZ
                go_wp2
                go_ret
                exact Gives.bool rfl hbz

set_option maxRecDepth 100000 in
set_option linter.unusedVariables false in
theorem fnQueries_lifted (os : Os) (started : os.Started) (H : Type) (enc : TypeId × Value → H) :
    ReturnsInHanded {} Tryz.checked os 3 .any (fun w args => (Rows.fnQueriesSpec.pre enc Tryz.prog Tryz.f3 Rows.fnQueriesRow.domain false w args ∧ laidMetH Tryz.prog dLaid w) ∧ sizedMet enc Tryz.prog Tryz.f3 (OpenSpec.ofChange Rows.fnQueriesSpec) false w args) (Rows.fnQueriesSpec.post enc Tryz.prog Tryz.f3 false true false false) := by
  refine returnsInHanded_of_change_and (C := Tryz.checked) (X := fun w _ => laidMetH Tryz.prog dLaid w) (fun _ _ _ hh h => h.of_heap hh) own started (by kernel_rfl) Tryz.func3
    (ChangeSpec.witness_shaped (enc := enc) (C := Tryz.checked) (os := os) (X := fun w _ => laidMetH Tryz.prog dLaid w) false (World.doorLaid Tryz.prog doorSteps os) #[.slice none 0 0] 8 rfl (World.shaped_of_RefB (by kernel_rfl) (by kernel_rfl)) (by kernel_rfl) (by kernel_rfl) (by kernel_rfl) (door_met os _)) ?_
  intro W base args ds gs before hval0 hW _ _ hL _
  have hval : ∀ (j : Nat) t v, Tryz.f3.params[j]? = some t → args[j]? = some v → Value.okWide Tryz.prog W .any base t v := hval0
  have hW' := hW
  obtain ⟨p, q, hA0, hV, rfl, hfz, hnd⟩ := hW
  have hA : DataW.TrodAll enc Tryz.prog W 0 (fun _ => true) true Tryz.f3.params.toList args.toList ds p := hA0
  rw [Tryz.params3] at hA hval
  obtain ⟨v0, vs0, d0, ds0, p0, q0, hargs, rfl, rfl, h0, r0⟩ := trodAll_cons hA
  obtain ⟨rfl, rfl, rfl⟩ := trodAll_nil r0
  obtain rfl : args = #[v0] := by cases args; simp_all
  obtain ⟨rfl, rfl⟩ := trodVars_none hV
  have k0 := h0
  have lt0 : ∀ x ∈ p0, x.block < W.heap.size := by obtain ⟨m, hm⟩ := k0; exact DataW.trod_lt m _ _ _ hm
  obtain ⟨l0, c0, w0⟩ := bytes_of_trod (v := v0) Tryz.underlying22 Tryz.underlying5 (by kernel_rfl) (hval 0 22 v0 rfl rfl) h0
  have hTab := tab_of_laid hL
  clear hA0 hval0
  refine (fnQueries_walk v0 l0 W c0 w0 hTab).mono fun e W' ⟨he, bel⟩ => ?_
  subst he
  exact ⟨_, rfl, _, _, _, [], _, [], hW', trodAll_mk1 (shut_bool Tryz.underlying4 _), (trodAll_cons_mk (Below.trod laidOut (by kernel_rfl) (of_decide_eq_true (by kernel_rfl)) k0 bel lt0) trodAll_mk0), rfl, bel.frame _, fun h => by cases h⟩
theorem fnQueries_over : Rows.fnQueriesRow.holds Tryz.pinned (OpenSpec.ofChange Rows.fnQueriesSpec) :=
  OpenClaim.holds_of_wide 3 Tryz.f3 rfl rfl rfl rfl rfl rfl rfl ⟨rfl, rfl, rfl, rfl, rfl⟩ rfl rfl rfl rfl rfl (by kernel_rfl) Tryz.func3 (by kernel_rfl)
    (of_decide_eq_true (by kernel_rfl)) (by unfold Func.isWrapper; first | (rw [if_pos (by decide +kernel)]; kernel_rfl) | (rw [if_neg (by decide +kernel)]; exact ⟨rfl, rfl⟩))
    (fun os started H enc _ => fnQueries_lifted os started H enc)
theorem fnQueries_holds : Rows.FnQueriesCardSaid :=
  Claim7.holds_tied_plain_at .later [] [.data, .data, .data] true Rows.fnQueriesCard.stood.harness false
    fnQueries_over (fun _ h => by cases h) (by kernel_rfl) (fun _ h => by cases h) fnQueries_row_tie rfl ⟨rfl, rfl⟩ (by kernel_rfl) rfl
    (fun f fn hf hfn => by
      obtain rfl : f = 3 := Option.some.inj ((show Tryz.prog.funcNamed "loop.example/g00927/laws.FnQueries" = some 3 by kernel_rfl).symm.trans hf) |>.symm
      obtain rfl : fn = Tryz.f3 := (Option.some.inj (Tryz.func3.symm.trans hfn)).symm
      exact ⟨by kernel_rfl, fun j t ht => by
        rw [Tryz.params3] at ht
        have hm : t ∈ [22] := by simpa using Array.mem_of_getElem? ht
        have hall : ([22].all fun u => !Tryz.prog.wantsStandIn u) = true := by kernel_rfl
        exact (show Tryz.prog.wantsStandIn t = false by simpa using List.all_eq_true.1 hall t hm)⟩)
    (by kernel_rfl)
#print axioms fnQueries_holds
end Go.Proofs.YtclffohjpbmnbaaGreatDoor
