/- LawNext: the walk of the law FnExactNextFound, and its row. -/
import Derived.Test.YtonaakbdbfncoaaNext
import Derived.Test.YtonaakbdbfncoaaMarkQ
import Derived.Test.YtonaakbdbfncoaaMarkI
import Derived.Test.YtonaakbdbfncoaaOpen
import Derived.Deep.RegionHeld3
namespace Go.Proofs.Ytonaakbdbfncoaa
open Go.ChangeShapes Go.WideShapes Go.ChangeAt Go.RowKit

set_option maxHeartbeats 2000000 in
set_option linter.unusedVariables false in
theorem fnExactNextFound_walk (q0 : Query) (y0 z0 : Value) (v1 : Value) (l1 : List Int) (w : World) (c0 : QAt w q0 y0 z0) (c1 : IntsAt w v1 l1) :
    Calls Try.prog 5 #[.agg #[.int .i64 q0.period, .int .i64 q0.props, .int .i64 q0.high, y0, z0, .bool q0.canonical], v1] w (Gives (.bool true) w) := by
  have A0 := Lib.hid c0; clear c0
  have A1 := Lib.hid c1; clear c1
  obtain ⟨pa1, pn1, pc1, rfl, hpn1, hpr1⟩ := A1.out
  have Hpn1 := Lib.hid hpn1; clear hpn1 hpr1
  by_cases hg1 : 1048576 < pn1
  · go_enter Try.func5, Try.ntmps5
    go_wp2
    go_ret
    exact Gives.bool rfl (by go_grown)
  have hl1 : l1.length ≤ 1048576 := by rw [← Hpn1.out]; omega
  have qs0 := szQueryT_le q0 1048576 (by omega)
  have QS0 := Lib.hid qs0.2.2; have qt0 := qs0.2.1; clear qs0
  go_enter Try.func5, Try.ntmps5
  go_wp2_with fail
  generalize Value.slice pa1 pn1 pc1 = v1 at *
  generalize hW1 : World.alloc w (.cells #[.int .i64 q0.period, .int .i64 q0.props, .int .i64 q0.high, y0, z0, .bool q0.canonical] 24) = W1 at *
  have hb1 : Below w.heap.size w W1 := by rw [← hW1]; go_grown
  have sz1 := hb1.size
  have BQ0 : Hid (BoxIs W1 w.heap.size [.int .i64 q0.period, .int .i64 q0.props, .int .i64 q0.high, y0, z0, .bool q0.canonical]) := Lib.hid (by rw [← hW1]; exact BoxIs.new _ _ _)
  have eBQ0 := BQ0.out.2.1; have sBQ0 := BQ0.out.1; have nBQ0 := BQ0.out.1
  clear hW1
  refine (szQuery_c q0 y0 z0 1048576 W1 (A0.out.below hb1) (by omega) (by omega)).mono ?_
  rintro e W2 ⟨rfl, b2⟩
  have hb2 := bthen hb1 b2
  have sz2 := b2.size
  replace BQ0 := Lib.hid (BQ0.out.below b2); replace eBQ0 := BQ0.out.2.1; replace sBQ0 := BQ0.out.1
  clear b2
  generalize szQueryT q0 1048576 = r0 at *
  by_cases hs0' : r0 < 0
  · go_wp2
    go_ret
    exact Gives.bool rfl hb2
  obtain ⟨hl0, hm0⟩ := QS0.out (by omega)
  go_wp2_with fail
  refine (toQueryO_c q0 y0 z0 W2 (A0.out.below hb2) (by omega) (by omega)).mono ?_
  rintro e W3 ⟨ax1, nx1, cx1, dx1, mx1, kx1, rfl, ox1, b3⟩
  have hb3 := bthen hb2 b3
  have sz3 := b3.size
  replace BQ0 := Lib.hid (BQ0.out.below b3); replace eBQ0 := BQ0.out.2.1; replace sBQ0 := BQ0.out.1
  clear b3
  generalize Value.slice ax1 nx1 cx1 = yx1 at *
  generalize Value.slice dx1 mx1 kx1 = zx1 at *
  have Mx1 := Lib.hid ox1; clear ox1
  go_wp2_with fail
  refine (toInt64S_c v1 l1 W3 (A1.out.below hb3) (by omega)).mono ?_
  rintro e W4 ⟨ax2, nx2, cx2, rfl, ox2, b4⟩
  have hb4 := bthen hb3 b4
  have sz4 := b4.size
  replace Mx1 := Lib.hid (Mx1.out.below b4)
  replace BQ0 := Lib.hid (BQ0.out.below b4); replace eBQ0 := BQ0.out.2.1; replace sBQ0 := BQ0.out.1
  clear b4
  generalize Value.slice ax2 nx2 cx2 = vx2 at *
  have Mx2 : Hid (InInts W4 W3.heap.size W4.heap.size vx2 l1) := Lib.hid (InInts.of ox2); clear ox2
  go_wp2_with fail
  refine (sNextFound_c q0 yx1 zx1 vx2 l1 W4 Mx1.out.at Mx2.out.at).mono ?_
  rintro e W5 ⟨aw, nw, cw, rfl, ow, b5⟩
  have hb5 := bthen hb4 b5
  have sz5 := b5.size
  replace Mx1 := Lib.hid (Mx1.out.below b5)
  replace Mx2 := Lib.hid (Mx2.out.below b5)
  replace BQ0 := Lib.hid (BQ0.out.below b5); replace eBQ0 := BQ0.out.2.1; replace sBQ0 := BQ0.out.1
  clear b5
  generalize Value.slice aw nw cw = vw at *
  have SW := Lib.hid ow.at; clear ow
  have hs5 : Below W5.heap.size W5 W5 := Below.refl _ _
  clear Mx1
  clear Mx2
  go_wp2_with fail
  refine (toQueryO_c q0 y0 z0 W5 (A0.out.below hb5) (by omega) (by omega)).mono ?_
  rintro e W6 ⟨ax3, nx3, cx3, dx3, mx3, kx3, rfl, ox3, b6⟩
  have hb6 := bthen hb5 b6
  have sz6 := b6.size
  have hs6 := bthen hs5 b6
  replace BQ0 := Lib.hid (BQ0.out.below b6); replace eBQ0 := BQ0.out.2.1; replace sBQ0 := BQ0.out.1
  clear b6
  have Mx3 := Lib.hid ox3; clear ox3
  go_wp2_with fail
  generalize hG : World.alloc W6 (.cells #[.int .i64 q0.period, .int .i64 q0.props, .int .i64 q0.high, .slice ax3 nx3 cx3, .slice dx3 mx3 kx3, .bool q0.canonical] 28) = W7 at *
  have b7 : Below W6.heap.size W6 W7 := by rw [← hG]; go_grown
  have Bx3 : Hid (BoxIs W7 (W6.heap.size) [.int .i64 q0.period, .int .i64 q0.props, .int .i64 q0.high, .slice ax3 nx3 cx3, .slice dx3 mx3 kx3, .bool q0.canonical]) := Lib.hid (by rw [← hG]; exact BoxIs.new _ _ _)
  clear hG
  generalize Value.slice ax3 nx3 cx3 = yx3 at *
  generalize Value.slice dx3 mx3 kx3 = zx3 at *
  have hb7 := bthen hb6 b7
  have sz7 := b7.size
  have hs7 := bthen hs6 b7
  replace Mx3 := Lib.hid (Mx3.out.below b7)
  replace BQ0 := Lib.hid (BQ0.out.below b7); replace eBQ0 := BQ0.out.2.1; replace sBQ0 := BQ0.out.1
  clear b7
  have eBx3 := Bx3.out.2.1; have sBx3 := Bx3.out.1; have nBx3 := Bx3.out.1
  refine (toInt64S_c v1 l1 W7 (A1.out.below hb7) (by omega)).mono ?_
  rintro e W8 ⟨ax4, nx4, cx4, rfl, ox4, b8⟩
  have hb8 := bthen hb7 b8
  have sz8 := b8.size
  have hs8 := bthen hs7 b8
  replace Mx3 := Lib.hid (Mx3.out.below b8)
  replace BQ0 := Lib.hid (BQ0.out.below b8); replace eBQ0 := BQ0.out.2.1; replace sBQ0 := BQ0.out.1
  replace Bx3 := Lib.hid (Bx3.out.below b8); replace eBx3 := Bx3.out.2.1; replace sBx3 := Bx3.out.1
  clear b8
  generalize Value.slice ax4 nx4 cx4 = vx4 at *
  have Mx4 : Hid (InInts W8 W7.heap.size W8.heap.size vx4 l1) := Lib.hid (InInts.of ox4); clear ox4
  go_wp2_with fail
  refine (iNextFound_c q0 yx3 zx3 vx4 l1 W8 Mx3.out.at Mx4.out.at).mono ?_
  rintro e W9 ⟨ag5, ng5, cg5, rfl, og5, b9⟩
  have hb9 := bthen hb8 b9
  have sz9 := b9.size
  have hs9 := bthen hs8 b9
  replace Mx3 := Lib.hid (Mx3.out.below b9)
  replace Mx4 := Lib.hid (Mx4.out.below b9)
  replace BQ0 := Lib.hid (BQ0.out.below b9); replace eBQ0 := BQ0.out.2.1; replace sBQ0 := BQ0.out.1
  replace Bx3 := Lib.hid (Bx3.out.below b9); replace eBx3 := Bx3.out.2.1; replace sBx3 := Bx3.out.1
  clear b9
  generalize Value.slice ag5 ng5 cg5 = vg5 at *
  have Mg5 : Hid (InInts W9 W8.heap.size W9.heap.size vg5 ((nextL q0 l1))) := Lib.hid (InInts.of og5); clear og5
  go_wp2_with fail
  refine (eqInt64S_c vg5 vw (nextL q0 l1) (nextL q0 l1) W9 Mg5.out.at (SW.out.below hs9)).mono ?_
  rw [(same2_iff eqI eqI_iff ((nextL q0 l1)) ((nextL q0 l1))).2 rfl]
  rintro e W10 ⟨rfl, b10⟩
  have hb10 := bthen hb9 b10
  have sz10 := b10.size
  have hs10 := bthen hs9 b10
  replace Mx3 := Lib.hid (Mx3.out.below b10)
  replace Mx4 := Lib.hid (Mx4.out.below b10)
  replace Mg5 := Lib.hid (Mg5.out.below b10)
  replace BQ0 := Lib.hid (BQ0.out.below b10); replace eBQ0 := BQ0.out.2.1; replace sBQ0 := BQ0.out.1
  replace Bx3 := Lib.hid (Bx3.out.below b10); replace eBx3 := Bx3.out.2.1; replace sBx3 := Bx3.out.1
  clear b10
  go_wp2_with fail
  go_region_held3 (fun w' => (∀ j, w'.cell? ⟨w.heap.size, j, none⟩ = ([.int .i64 q0.period, .int .i64 q0.props, .int .i64 q0.high, y0, z0, .bool q0.canonical] : List Value)[j]?) ∧ (∀ j, w'.cell? ⟨W6.heap.size, j, none⟩ = ([.int .i64 q0.period, .int .i64 q0.props, .int .i64 q0.high, yx3, zx3, .bool q0.canonical] : List Value)[j]?)) (exact ⟨eBQ0, eBx3⟩)
    (first | (go_at_call 10; (with_reducible refine (toQuery_c q0 y0 z0 _ (by exact (A0.out.below hb10).drewn) (by omega) (by omega)).mono ?_); rintro e W11 ⟨ax6, nx6, cx6, dx6, mx6, kx6, rfl, ox6, b11⟩; replace b11 := ((Below.refl W10.heap.size W10).drew).trans b11; generalize Value.slice ax6 nx6 cx6 = yx6 at *; generalize Value.slice dx6 mx6 kx6 = zx6 at *; have Ox6 := Lib.hid ox6; clear ox6; have hb11 := bthen hb10 b11; have sz11 := b11.size; have hs11 := bthen hs10 b11; replace Mx3 := Lib.hid (Mx3.out.below b11); replace Mx4 := Lib.hid (Mx4.out.below b11); replace Mg5 := Lib.hid (Mg5.out.below b11); replace BQ0 := Lib.hid (BQ0.out.below b11); replace eBQ0 := BQ0.out.2.1; replace sBQ0 := BQ0.out.1; replace Bx3 := Lib.hid (Bx3.out.below b11); replace eBx3 := Bx3.out.2.1; replace sBx3 := Bx3.out.1; clear b11) | (go_at_call 12; (with_reducible refine (eqQuery_c q0 q0 yx3 zx3 yx6 zx6 _ (by exact Mx3.out.at) (by exact Ox6.out)).mono ?_); rw [(eqQueryB_iff q0 q0).2 rfl]; rintro e W12 ⟨rfl, b12⟩; have hb12 := bthen hb11 b12; have sz12 := b12.size; have hs12 := bthen hs11 b12; replace Mx3 := Lib.hid (Mx3.out.below b12); replace Mx4 := Lib.hid (Mx4.out.below b12); replace Mg5 := Lib.hid (Mg5.out.below b12); replace BQ0 := Lib.hid (BQ0.out.below b12); replace eBQ0 := BQ0.out.2.1; replace sBQ0 := BQ0.out.1; replace Bx3 := Lib.hid (Bx3.out.below b12); replace eBx3 := Bx3.out.2.1; replace sBx3 := Bx3.out.1; clear b12))
  go_wp2_with fail
  refine (toInt64S_c v1 l1 W12 (A1.out.below hb12) (by omega)).mono ?_
  rintro e W13 ⟨ax7, nx7, cx7, rfl, ox7, b13⟩
  have hb13 := bthen hb12 b13
  have sz13 := b13.size
  have hs13 := bthen hs12 b13
  replace Mx3 := Lib.hid (Mx3.out.below b13)
  replace Mx4 := Lib.hid (Mx4.out.below b13)
  replace Mg5 := Lib.hid (Mg5.out.below b13)
  replace BQ0 := Lib.hid (BQ0.out.below b13); replace eBQ0 := BQ0.out.2.1; replace sBQ0 := BQ0.out.1
  replace Bx3 := Lib.hid (Bx3.out.below b13); replace eBx3 := Bx3.out.2.1; replace sBx3 := Bx3.out.1
  clear b13
  generalize Value.slice ax7 nx7 cx7 = vx7 at *
  have Mx7 : Hid (InInts W13 W12.heap.size W13.heap.size vx7 l1) := Lib.hid (InInts.of ox7); clear ox7
  go_wp2_with fail
  refine (eqInt64S_c vx4 vx7 l1 l1 W13 Mx4.out.at Mx7.out.at).mono ?_
  rw [(same2_iff eqI eqI_iff l1 l1).2 rfl]
  rintro e W14 ⟨rfl, b14⟩
  have hb14 := bthen hb13 b14
  have sz14 := b14.size
  have hs14 := bthen hs13 b14
  replace Mx3 := Lib.hid (Mx3.out.below b14)
  replace Mx4 := Lib.hid (Mx4.out.below b14)
  replace Mg5 := Lib.hid (Mg5.out.below b14)
  replace Mx7 := Lib.hid (Mx7.out.below b14)
  replace BQ0 := Lib.hid (BQ0.out.below b14); replace eBQ0 := BQ0.out.2.1; replace sBQ0 := BQ0.out.1
  replace Bx3 := Lib.hid (Bx3.out.below b14); replace eBx3 := Bx3.out.2.1; replace sBx3 := Bx3.out.1
  clear b14
  clear Mx7
  go_wp2_with fail
  refine (markQuery_c q0 yx3 zx3 1 _ _ _ Mx3.out (by omega) (by omega) (by omega) (by omega) (by omega)).mono ?_
  rintro e W15 ⟨k8, rfl, hek8, hxk8, i15, t15⟩
  have hyk8 : 1 ≤ k8 := by rw [hek8]; omega
  have HEk8 := Lib.hid hek8; clear hek8
  have sz15 := t15.size
  have hb15 := mark_then hb14 t15 (by exact hb5.size) hb14.size
  have hs15 := mark_then hs14 t15 (by omega) hs14.size
  replace Mx4 := Lib.hid (Mx4.out.turned t15 (by omega))
  replace Mg5 := Lib.hid (Mg5.out.turned t15 (by omega))
  replace BQ0 := Lib.hid (BQ0.out.turned t15 (by omega)); replace eBQ0 := BQ0.out.2.1; replace sBQ0 := BQ0.out.1
  replace Bx3 := Lib.hid (Bx3.out.turned t15 (by omega)); replace eBx3 := Bx3.out.2.1; replace sBx3 := Bx3.out.1
  have Mx3' := Lib.hid i15; clear Mx3 i15 t15
  have Mx3 := Mx3'; clear Mx3'
  clear Mx3
  go_wp2_with fail
  refine (markInt64S_c vx4 _ k8 _ _ _ Mx4.out (by omega) (by omega) (by omega) (by omega)).mono ?_
  rintro e W16 ⟨k9, rfl, hek9, hxk9, i16, t16⟩
  have hyk9 : 1 ≤ k9 := by rw [hek9]; omega
  have HEk9 := Lib.hid hek9; clear hek9
  have sz16 := t16.size
  have hb16 := mark_then hb15 t16 (by exact hb7.size) hb15.size
  have hs16 := mark_then hs15 t16 (by omega) hs15.size
  replace Mg5 := Lib.hid (Mg5.out.turned t16 (by omega))
  replace BQ0 := Lib.hid (BQ0.out.turned t16 (by omega)); replace eBQ0 := BQ0.out.2.1; replace sBQ0 := BQ0.out.1
  replace Bx3 := Lib.hid (Bx3.out.turned t16 (by omega)); replace eBx3 := Bx3.out.2.1; replace sBx3 := Bx3.out.1
  have Mx4' := Lib.hid i16; clear Mx4 i16 t16
  have Mx4 := Mx4'; clear Mx4'
  clear Mx4
  go_wp2_with fail
  refine (eqInt64S_c vg5 vw (nextL q0 l1) (nextL q0 l1) W16 Mg5.out.at (SW.out.below hs16)).mono ?_
  rw [(same2_iff eqI eqI_iff ((nextL q0 l1)) ((nextL q0 l1))).2 rfl]
  rintro e W17 ⟨rfl, b17⟩
  have hb17 := bthen hb16 b17
  have sz17 := b17.size
  have hs17 := bthen hs16 b17
  replace Mg5 := Lib.hid (Mg5.out.below b17)
  replace BQ0 := Lib.hid (BQ0.out.below b17); replace eBQ0 := BQ0.out.2.1; replace sBQ0 := BQ0.out.1
  replace Bx3 := Lib.hid (Bx3.out.below b17); replace eBx3 := Bx3.out.2.1; replace sBx3 := Bx3.out.1
  clear b17
  go_wp2_with fail
  refine (markInt64S_c vg5 _ 1 _ _ _ Mg5.out (by exact nextL_len q0 l1) (by omega) (by omega) (by omega)).mono ?_
  rintro e W18 ⟨mq, rfl, hemq, hxmq, i18, t18⟩
  have hymq : 1 ≤ mq := by rw [hemq]; omega
  have HEmq := Lib.hid hemq; clear hemq
  have sz18 := t18.size
  have hb18 := mark_then hb17 t18 (by exact hb8.size) hb17.size
  have hs18 := mark_then hs17 t18 (by omega) hs17.size
  replace BQ0 := Lib.hid (BQ0.out.turned t18 (by omega)); replace eBQ0 := BQ0.out.2.1; replace sBQ0 := BQ0.out.1
  replace Bx3 := Lib.hid (Bx3.out.turned t18 (by omega)); replace eBx3 := Bx3.out.2.1; replace sBx3 := Bx3.out.1
  have Mg5' := Lib.hid i18; clear Mg5 i18 t18
  have Mg5 := Mg5'; clear Mg5'
  have HH := Lib.hid (fun (W : World) h => heldInt64S_c vg5 ((nextL q0 l1)) W h (by exact nextL_len q0 l1) mq HEmq.out)
  go_wp2_with fail
  refine (HH.out W18 Mg5.out.at).mono ?_
  rintro e W19 ⟨rfl, b19⟩
  have hb19 := bthen hb18 b19
  have sz19 := b19.size
  have hs19 := bthen hs18 b19
  replace Mg5 := Lib.hid (Mg5.out.below b19)
  replace BQ0 := Lib.hid (BQ0.out.below b19); replace eBQ0 := BQ0.out.2.1; replace sBQ0 := BQ0.out.1
  replace Bx3 := Lib.hid (Bx3.out.below b19); replace eBx3 := Bx3.out.2.1; replace sBx3 := Bx3.out.1
  clear b19
  go_wp2_with fail
  refine (toQueryO_c q0 y0 z0 W19 (A0.out.below hb19) (by omega) (by omega)).mono ?_
  rintro e W20 ⟨ax10, nx10, cx10, dx10, mx10, kx10, rfl, ox10, b20⟩
  have hb20 := bthen hb19 b20
  have sz20 := b20.size
  have hs20 := bthen hs19 b20
  replace Mg5 := Lib.hid (Mg5.out.below b20)
  replace BQ0 := Lib.hid (BQ0.out.below b20); replace eBQ0 := BQ0.out.2.1; replace sBQ0 := BQ0.out.1
  replace Bx3 := Lib.hid (Bx3.out.below b20); replace eBx3 := Bx3.out.2.1; replace sBx3 := Bx3.out.1
  clear b20
  generalize Value.slice ax10 nx10 cx10 = yx10 at *
  generalize Value.slice dx10 mx10 kx10 = zx10 at *
  have Mx10 := Lib.hid ox10; clear ox10
  go_wp2_with fail
  refine (toInt64S_c v1 l1 W20 (A1.out.below hb20) (by omega)).mono ?_
  rintro e W21 ⟨ax11, nx11, cx11, rfl, ox11, b21⟩
  have hb21 := bthen hb20 b21
  have sz21 := b21.size
  have hs21 := bthen hs20 b21
  replace Mg5 := Lib.hid (Mg5.out.below b21)
  replace Mx10 := Lib.hid (Mx10.out.below b21)
  replace BQ0 := Lib.hid (BQ0.out.below b21); replace eBQ0 := BQ0.out.2.1; replace sBQ0 := BQ0.out.1
  replace Bx3 := Lib.hid (Bx3.out.below b21); replace eBx3 := Bx3.out.2.1; replace sBx3 := Bx3.out.1
  clear b21
  generalize Value.slice ax11 nx11 cx11 = vx11 at *
  have Mx11 : Hid (InInts W21 W20.heap.size W21.heap.size vx11 l1) := Lib.hid (InInts.of ox11); clear ox11
  go_wp2_with fail
  refine (iNextFound_c q0 yx10 zx10 vx11 l1 W21 Mx10.out.at Mx11.out.at).mono ?_
  rintro e W22 ⟨ag12, ng12, cg12, rfl, og12, b22⟩
  have hb22 := bthen hb21 b22
  have sz22 := b22.size
  have hs22 := bthen hs21 b22
  replace Mg5 := Lib.hid (Mg5.out.below b22)
  replace Mx10 := Lib.hid (Mx10.out.below b22)
  replace Mx11 := Lib.hid (Mx11.out.below b22)
  replace BQ0 := Lib.hid (BQ0.out.below b22); replace eBQ0 := BQ0.out.2.1; replace sBQ0 := BQ0.out.1
  replace Bx3 := Lib.hid (Bx3.out.below b22); replace eBx3 := Bx3.out.2.1; replace sBx3 := Bx3.out.1
  clear b22
  generalize Value.slice ag12 ng12 cg12 = vg12 at *
  have Mg12 : Hid (InInts W22 W21.heap.size W22.heap.size vg12 ((nextL q0 l1))) := Lib.hid (InInts.of og12); clear og12
  clear Mx10
  clear Mx11
  go_wp2_with fail
  refine (eqInt64S_c vg12 vw (nextL q0 l1) (nextL q0 l1) W22 Mg12.out.at (SW.out.below hs22)).mono ?_
  rw [(same2_iff eqI eqI_iff ((nextL q0 l1)) ((nextL q0 l1))).2 rfl]
  rintro e W23 ⟨rfl, b23⟩
  have hb23 := bthen hb22 b23
  have sz23 := b23.size
  have hs23 := bthen hs22 b23
  replace Mg5 := Lib.hid (Mg5.out.below b23)
  replace Mg12 := Lib.hid (Mg12.out.below b23)
  replace BQ0 := Lib.hid (BQ0.out.below b23); replace eBQ0 := BQ0.out.2.1; replace sBQ0 := BQ0.out.1
  replace Bx3 := Lib.hid (Bx3.out.below b23); replace eBx3 := Bx3.out.2.1; replace sBx3 := Bx3.out.1
  clear b23
  go_wp2_with fail
  refine (HH.out W23 Mg5.out.at).mono ?_
  rintro e W24 ⟨rfl, b24⟩
  have hb24 := bthen hb23 b24
  have sz24 := b24.size
  have hs24 := bthen hs23 b24
  replace Mg5 := Lib.hid (Mg5.out.below b24)
  replace Mg12 := Lib.hid (Mg12.out.below b24)
  replace BQ0 := Lib.hid (BQ0.out.below b24); replace eBQ0 := BQ0.out.2.1; replace sBQ0 := BQ0.out.1
  replace Bx3 := Lib.hid (Bx3.out.below b24); replace eBx3 := Bx3.out.2.1; replace sBx3 := Bx3.out.1
  clear b24
  go_wp2
  go_ret
  exact Gives.bool rfl hb24
set_option maxRecDepth 100000 in
set_option linter.unusedVariables false in
theorem fnExactNextFound_lifted (os : Os) (started : os.Started) (H : Type) (enc : TypeId × Value → H) :
    ReturnsInHanded {} Try.checked os 5 .any (Rows.fnExactNextFoundSpec.pre6 enc Try.prog Try.f5 Rows.fnExactNextFoundRow.domain false) (Rows.fnExactNextFoundSpec.post enc Try.prog Try.f5 false true false false) := by
  refine returnsInHanded_of_change (C := Try.checked) own started (by kernel_rfl) Try.func5
    (ChangeSpec.witness6 (enc := enc) (C := Try.checked) false ⟨#[], #[.agg #[.int .i64 0, .int .i64 0, .int .i64 0, .slice none 0 0, .slice none 0 0, .bool false], .slice none 0 0], []⟩ 8 (by kernel_rfl) (by kernel_rfl) (by kernel_rfl) (by kernel_rfl)) ?_
  intro W base args ds gs before hval0 hW hcnd _
  have hval : ∀ (j : Nat) t v, Try.f5.params[j]? = some t → args[j]? = some v → Value.okWide Try.prog W .any base t v := hval0
  have hW' := hW
  obtain ⟨p, q, hA0, hV, rfl, hfz, hnd⟩ := hW
  have hA : DataW.TrodAll enc Try.prog W 0 (fun _ => true) true Try.f5.params.toList args.toList ds p := hA0
  rw [Try.params5] at hA hval
  obtain ⟨v0, vs0, d0, ds0, p0, q0, hargs, rfl, rfl, h0, r0⟩ := trodAll_cons hA
  obtain ⟨v1, vs1, d1, ds1, p1, q1, rfl, rfl, rfl, h1, r1⟩ := trodAll_cons r0
  obtain ⟨rfl, rfl, rfl⟩ := trodAll_nil r1
  obtain rfl : args = #[v0, v1] := by cases args; simp_all
  obtain ⟨rfl, rfl⟩ := trodVars_none hV
  have k0 := h0
  have lt0 : ∀ x ∈ p0, x.block < W.heap.size := by obtain ⟨m, hm⟩ := k0; exact DataW.trod_lt m _ _ _ hm
  obtain ⟨q0, y0, z0, rfl, c0, w0⟩ := query_of_trod (v := v0) Try.underlying24 (by kernel_rfl) (by kernel_rfl) Try.underlying2 Try.underlying2 Try.underlying2 Try.underlying22 Try.underlying22 Try.underlying4 Try.underlying2 (by kernel_rfl) (hval 0 24 v0 rfl rfl) h0
  have k1 := h1
  have lt1 : ∀ x ∈ p1, x.block < W.heap.size := by obtain ⟨m, hm⟩ := k1; exact DataW.trod_lt m _ _ _ hm
  obtain ⟨l1, c1, w1⟩ := ints_of_trod (v := v1) Try.underlying22 Try.underlying2 (by kernel_rfl) (hval 1 22 v1 rfl rfl) h1
  clear hA0 hval0
  refine (fnExactNextFound_walk q0 y0 z0 v1 l1 W c0 c1).mono fun e W' ⟨he, bel⟩ => ?_
  subst he
  exact ⟨_, rfl, _, _, _, [], _, [], hW', trodAll_mk1 (shut_bool Try.underlying4 _), (trodAll_cons_mk (Below.trod laidOut (by kernel_rfl) (of_decide_eq_true (by kernel_rfl)) k0 bel lt0) (trodAll_cons_mk (Below.trod laidOut (by kernel_rfl) (of_decide_eq_true (by kernel_rfl)) k1 bel lt1) trodAll_mk0)), rfl, bel.frame _, fun h => by cases h⟩
theorem fnExactNextFound_over : Rows.fnExactNextFoundRow.holds Try.pinned (OpenSpec.ofChange Rows.fnExactNextFoundSpec) :=
  OpenClaim.holds_of_wide 5 Try.f5 rfl rfl rfl rfl rfl rfl rfl ⟨rfl, rfl, rfl, rfl, rfl⟩ rfl rfl rfl rfl rfl (by kernel_rfl) Try.func5 (by kernel_rfl)
    (of_decide_eq_true (by kernel_rfl)) (by unfold Func.isWrapper; first | (rw [if_pos (by decide +kernel)]; kernel_rfl) | (rw [if_neg (by decide +kernel)]; exact ⟨rfl, rfl⟩))
    (fun os started H enc _ => fnExactNextFound_lifted os started H enc)
theorem fnExactNextFound_holds : Rows.FnExactNextFoundSaid := fnExactNextFound_over
#print axioms fnExactNextFound_holds
end Go.Proofs.Ytonaakbdbfncoaa
