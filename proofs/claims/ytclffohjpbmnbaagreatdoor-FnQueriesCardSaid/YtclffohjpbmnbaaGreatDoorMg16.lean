import Derived.Test.YtclffohjpbmnbaaGreatDoorMg5
import Derived.Test.YtclffohjpbmnbaaGreatDoorMg6
import Derived.Test.YtclffohjpbmnbaaGreatDoorMg15
import Derived.Deep.RegionHeld3
/- ValidQ: valid queries. -/
namespace Go.Proofs.YtclffohjpbmnbaaGreatDoor
open Go.ChangeShapes Go.WideShapes Go.ChangeAt Go.RowKit

def okQueryB (q : Query) : Bool := inB q.period 1 12 && (inB q.props 0 15 && (inB q.high 0 15 && (risesF (-1) q.need && (risesF (-1) q.avoid))))
theorem chain5 (b1 b2 b3 b4 b5 : Bool) : (b1 = false) ∨ (b1 = true ∧ b2 = false) ∨ (b1 = true ∧ b2 = true ∧ b3 = false) ∨ (b1 = true ∧ b2 = true ∧ b3 = true ∧ b4 = false) ∨ (b1 = true ∧ b2 = true ∧ b3 = true ∧ b4 = true ∧ b5 = b5) := by
  cases b1 <;> cases b2 <;> cases b3 <;> cases b4 <;> simp

set_option maxHeartbeats 1000000 in
theorem l21Ok_c (q : Query) (y z : Value) (b : Nat) (w : World) (hB : BoxIs w b [.int .i64 q.period, .int .i64 q.props, .int .i64 q.high, y, z, .bool q.canonical]) (hQ : QAt w q y z) :
    Calls Tryz.prog 47 #[.pointer (some ⟨b, 0, none⟩)] w (Gives (.bool (okQueryB q)) w) := by
  obtain ⟨pe, pr, hi, ne, av, ca⟩ := q
  obtain ⟨hy, hz⟩ := hQ
  dsimp only at hB hy hz ⊢
  have HY := Lib.hid hy; clear hy
  have HZ := Lib.hid hz; clear hz
  have HB := Lib.hid hB
  have e0 := hB.2.1; clear hB
  have k1 := l00In_c pe 1 12
  have k2 := l00In_c pr 0 15
  have k3 := l00In_c hi 0 15
  have k4 := fun W a => sRises_c y ne W a
  have k5 := fun W a => sRises_c z av W a
  generalize hR : okQueryB ⟨pe, pr, hi, ne, av, ca⟩ = R
  have HR := Lib.hid hR; clear hR
  unfold okQueryB at HR
  dsimp only at HR
  generalize inB pe 1 12 = b1 at *
  generalize inB pr 0 15 = b2 at *
  generalize inB hi 0 15 = b3 at *
  generalize risesF (-1) ne = b4 at *
  generalize risesF (-1) av = b5 at *
  have K1 := Lib.hid k1; clear k1
  have K2 := Lib.hid k2; clear k2
  have K3 := Lib.hid k3; clear k3
  have K4 := Lib.hid k4; clear k4
  have K5 := Lib.hid k5; clear k5
  rcases chain5 b1 b2 b3 b4 b5 with rfl | ⟨rfl, rfl⟩ | ⟨rfl, rfl, rfl⟩ | ⟨rfl, rfl, rfl, rfl⟩ | ⟨rfl, rfl, rfl, rfl, -⟩
  all_goals
    go_enter Tryz.func47, Tryz.ntmps47
    go_wp2_with fail
    refine (K1.out _).mono ?_
    rintro e w1 ⟨rfl, hb1⟩
    have B1 := Lib.hid (HB.out.below hb1)
    replace e0 := B1.out.2.1
  · go_wp2
    go_ret
    exact Gives.bool HR.out.symm hb1
  all_goals
    go_wp2_with fail
    refine (K2.out _).mono ?_
    rintro e w2 ⟨rfl, hb2⟩
    have B2 := Lib.hid (B1.out.below hb2)
    replace e0 := B2.out.2.1
    have hc2 := bthen hb1 hb2
  · go_wp2
    go_ret
    exact Gives.bool HR.out.symm hc2
  all_goals
    go_wp2_with fail
    refine (K3.out _).mono ?_
    rintro e w3 ⟨rfl, hb3⟩
    have B3 := Lib.hid (B2.out.below hb3)
    replace e0 := B3.out.2.1
    have hc3 := bthen hc2 hb3
  · go_wp2
    go_ret
    exact Gives.bool HR.out.symm hc3
  all_goals
    go_wp2_with fail
    refine (K4.out _ (HY.out.below hc3)).mono ?_
    rintro e w4 ⟨rfl, hb4⟩
    have B4 := Lib.hid (B3.out.below hb4)
    replace e0 := B4.out.2.1
    have hc4 := bthen hc3 hb4
  · go_wp2
    go_ret
    exact Gives.bool HR.out.symm hc4
  · go_wp2_with fail
    refine (K5.out _ (HZ.out.below hc4)).mono ?_
    rintro e w5 ⟨rfl, hb5⟩
    have hc5 := bthen hc4 hb5
    clear e0
    go_wp2
    go_ret
    exact Gives.bool HR.out.symm hc5

theorem sValidQuery_c (q : Query) (y z : Value) (w : World) (hQ : QAt w q y z) :
    Calls Tryz.prog 23 #[.agg #[.int .i64 q.period, .int .i64 q.props, .int .i64 q.high, y, z, .bool q.canonical]] w (Gives (.bool (okQueryB q)) w) := by
  have HQ := Lib.hid hQ; clear hQ
  go_enter Tryz.func23, Tryz.ntmps23
  go_wp2_with fail
  refine (l21Ok_c q y z w.heap.size _ (BoxIs.new w _ _) (HQ.out.below (by go_grown))).mono ?_
  rintro e w1 ⟨rfl, hb1⟩
  have hbx := bthen (by go_grown : Below w.heap.size w _) hb1
  go_wp2
  go_ret
  exact Gives.bool rfl hbx
set_option maxHeartbeats 1000000 in
theorem iValidQuery_c (q : Query) (y z : Value) (w : World) (hQ : QAt w q y z) :
    Calls Tryz.prog 22 #[.agg #[.int .i64 q.period, .int .i64 q.props, .int .i64 q.high, y, z, .bool q.canonical]] w (Gives (.bool (okQueryB q)) w) := by
  obtain ⟨pe, pr, hi, ne, av, ca⟩ := q
  obtain ⟨hy, hz⟩ := hQ
  dsimp only at hy hz ⊢
  have HY := Lib.hid hy; clear hy
  have HZ := Lib.hid hz; clear hz
  have k1 := between_c pe 1 12
  have k2 := between_c pr 0 15
  have k3 := between_c hi 0 15
  have k4 := fun W a => iRises_c y ne W a
  have k5 := fun W a => iRises_c z av W a
  generalize hR : okQueryB ⟨pe, pr, hi, ne, av, ca⟩ = R
  have HR := Lib.hid hR; clear hR
  unfold okQueryB at HR
  dsimp only at HR
  generalize inB pe 1 12 = b1 at *
  generalize inB pr 0 15 = b2 at *
  generalize inB hi 0 15 = b3 at *
  generalize risesF (-1) ne = b4 at *
  generalize risesF (-1) av = b5 at *
  have K1 := Lib.hid k1; clear k1
  have K2 := Lib.hid k2; clear k2
  have K3 := Lib.hid k3; clear k3
  have K4 := Lib.hid k4; clear k4
  have K5 := Lib.hid k5; clear k5
  rcases chain5 b1 b2 b3 b4 b5 with rfl | ⟨rfl, rfl⟩ | ⟨rfl, rfl, rfl⟩ | ⟨rfl, rfl, rfl, rfl⟩ | ⟨rfl, rfl, rfl, rfl, -⟩
  all_goals
    go_enter Tryz.func22, Tryz.ntmps22
    go_wp2_with fail
    refine (K1.out _).mono ?_
    rintro e w1 ⟨rfl, hb1⟩
    have B1 := Lib.hid ((BoxIs.new w _ _).below hb1)
    have e0 := B1.out.2.1
    have hc1 := bthen (by go_grown : Below w.heap.size w _) hb1
    clear hb1
  · go_wp2
    go_ret
    exact Gives.bool HR.out.symm hc1
  all_goals
    go_wp2_with fail
    refine (K2.out _).mono ?_
    rintro e w2 ⟨rfl, hb2⟩
    have B2 := Lib.hid (B1.out.below hb2)
    replace e0 := B2.out.2.1
    have hc2 := bthen hc1 hb2
  · go_wp2
    go_ret
    exact Gives.bool HR.out.symm hc2
  all_goals
    go_wp2_with fail
    refine (K3.out _).mono ?_
    rintro e w3 ⟨rfl, hb3⟩
    have B3 := Lib.hid (B2.out.below hb3)
    replace e0 := B3.out.2.1
    have hc3 := bthen hc2 hb3
  · go_wp2
    go_ret
    exact Gives.bool HR.out.symm hc3
  all_goals
    go_wp2_with fail
    refine (K4.out _ (HY.out.below hc3)).mono ?_
    rintro e w4 ⟨rfl, hb4⟩
    have B4 := Lib.hid (B3.out.below hb4)
    replace e0 := B4.out.2.1
    have hc4 := bthen hc3 hb4
  · go_wp2
    go_ret
    exact Gives.bool HR.out.symm hc4
  · go_wp2_with fail
    refine (K5.out _ (HZ.out.below hc4)).mono ?_
    rintro e w5 ⟨rfl, hb5⟩
    have hc5 := bthen hc4 hb5
    clear e0
    go_wp2
    go_ret
    exact Gives.bool HR.out.symm hc5

end Go.Proofs.YtclffohjpbmnbaaGreatDoor
