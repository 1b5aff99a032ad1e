/- LawEasyF: the walk of the law FnExactEasiestFound, and its row. -/
import Derived.Test.YthpkppafndlclaaEasyF
import Derived.Test.YthpkppafndlclaaMarkQ
import Derived.Test.YthpkppafndlclaaMarkI
import Derived.Test.YthpkppafndlclaaOpen
import Derived.Deep.RegionHeld3
namespace Go.Proofs.Ythpkppafndlclaa
open Go.ChangeShapes Go.WideShapes Go.ChangeAt Go.RowKit

set_option maxHeartbeats 2000000 in
set_option linter.unusedVariables false in
theorem fnExactEasiestFound_walk (q0 : Query) (y0 z0 : Value) (w : World) (c0 : QAt w q0 y0 z0) :
    Calls Try.prog 3 #[.agg #[.int .i64 q0.period, .int .i64 q0.props, .int .i64 q0.high, y0, z0, .bool q0.canonical]] w (Gives (.bool true) w) := by
  have A0 := Lib.hid c0; clear c0
  have qs0 := szQueryT_le q0 1048576 (by omega)
  have QS0 := Lib.hid qs0.2.2; have qt0 := qs0.2.1; clear qs0
  go_enter Try.func3, Try.ntmps3
  go_wp2_with fail
  generalize hW1 : World.alloc w (.cells #[.int .i64 q0.period, .int .i64 q0.props, .int .i64 q0.high, y0, z0, .bool q0.canonical] 24) = W1 at *
  have hb1 : Below w.heap.size w W1 := by rw [← hW1]; go_grown
  have sz1 := hb1.size
  have BQ0 : Hid (BoxIs W1 w.heap.size [.int .i64 q0.period, .int .i64 q0.props, .int .i64 q0.high, y0, z0, .bool q0.canonical]) := Lib.hid (by rw [← hW1]; exact BoxIs.new _ _ _)
  have eBQ0 := BQ0.out.2.1; have sBQ0 := BQ0.out.1; have nBQ0 := BQ0.out.1
  clear hW1
  refine (szQuery_c q0 y0 z0 1048576 W1 (A0.out.below hb1) (by omega) (by omega)).mono ?_
  rintro e W2 ⟨rfl, b2⟩
  have hb2 := bthen hb1 b2
  have sz2 := b2.size
  replace BQ0 := Lib.hid (BQ0.out.below b2); replace eBQ0 := BQ0.out.2.1; replace sBQ0 := BQ0.out.1
  clear b2
  generalize szQueryT q0 1048576 = r0 at *
  by_cases hs0' : r0 < 0
  · go_wp2
    go_ret
    exact Gives.bool rfl hb2
  obtain ⟨hl0, hm0⟩ := QS0.out (by omega)
  go_wp2_with fail
  refine (toQueryO_c q0 y0 z0 W2 (A0.out.below hb2) (by omega) (by omega)).mono ?_
  rintro e W3 ⟨ax1, nx1, cx1, dx1, mx1, kx1, rfl, ox1, b3⟩
  have hb3 := bthen hb2 b3
  have sz3 := b3.size
  replace BQ0 := Lib.hid (BQ0.out.below b3); replace eBQ0 := BQ0.out.2.1; replace sBQ0 := BQ0.out.1
  clear b3
  generalize Value.slice ax1 nx1 cx1 = yx1 at *
  generalize Value.slice dx1 mx1 kx1 = zx1 at *
  have Mx1 := Lib.hid ox1; clear ox1
  go_wp2_with fail
  refine (sEasiestFound_c q0 yx1 zx1 W3 Mx1.out.at).mono ?_
  rintro e W4 ⟨aw, nw, cw, rfl, ow, b4⟩
  have hb4 := bthen hb3 b4
  have sz4 := b4.size
  replace Mx1 := Lib.hid (Mx1.out.below b4)
  replace BQ0 := Lib.hid (BQ0.out.below b4); replace eBQ0 := BQ0.out.2.1; replace sBQ0 := BQ0.out.1
  clear b4
  generalize Value.slice aw nw cw = vw at *
  have SW := Lib.hid ow.at; clear ow
  have hs4 : Below W4.heap.size W4 W4 := Below.refl _ _
  clear Mx1
  go_wp2_with fail
  refine (toQueryO_c q0 y0 z0 W4 (A0.out.below hb4) (by omega) (by omega)).mono ?_
  rintro e W5 ⟨ax2, nx2, cx2, dx2, mx2, kx2, rfl, ox2, b5⟩
  have hb5 := bthen hb4 b5
  have sz5 := b5.size
  have hs5 := bthen hs4 b5
  replace BQ0 := Lib.hid (BQ0.out.below b5); replace eBQ0 := BQ0.out.2.1; replace sBQ0 := BQ0.out.1
  clear b5
  have Mx2 := Lib.hid ox2; clear ox2
  go_wp2_with fail
  generalize hG : World.alloc W5 (.cells #[.int .i64 q0.period, .int .i64 q0.props, .int .i64 q0.high, .slice ax2 nx2 cx2, .slice dx2 mx2 kx2, .bool q0.canonical] 28) = W6 at *
  have b6 : Below W5.heap.size W5 W6 := by rw [← hG]; go_grown
  have Bx2 : Hid (BoxIs W6 (W5.heap.size) [.int .i64 q0.period, .int .i64 q0.props, .int .i64 q0.high, .slice ax2 nx2 cx2, .slice dx2 mx2 kx2, .bool q0.canonical]) := Lib.hid (by rw [← hG]; exact BoxIs.new _ _ _)
  clear hG
  generalize Value.slice ax2 nx2 cx2 = yx2 at *
  generalize Value.slice dx2 mx2 kx2 = zx2 at *
  have hb6 := bthen hb5 b6
  have sz6 := b6.size
  have hs6 := bthen hs5 b6
  replace Mx2 := Lib.hid (Mx2.out.below b6)
  replace BQ0 := Lib.hid (BQ0.out.below b6); replace eBQ0 := BQ0.out.2.1; replace sBQ0 := BQ0.out.1
  clear b6
  have eBx2 := Bx2.out.2.1; have sBx2 := Bx2.out.1; have nBx2 := Bx2.out.1
  refine (iEasiestFound_c q0 yx2 zx2 W6 Mx2.out.at).mono ?_
  rintro e W7 ⟨ag3, ng3, cg3, rfl, og3, b7⟩
  have hb7 := bthen hb6 b7
  have sz7 := b7.size
  have hs7 := bthen hs6 b7
  replace Mx2 := Lib.hid (Mx2.out.below b7)
  replace BQ0 := Lib.hid (BQ0.out.below b7); replace eBQ0 := BQ0.out.2.1; replace sBQ0 := BQ0.out.1
  replace Bx2 := Lib.hid (Bx2.out.below b7); replace eBx2 := Bx2.out.2.1; replace sBx2 := Bx2.out.1
  clear b7
  generalize Value.slice ag3 ng3 cg3 = vg3 at *
  have Mg3 : Hid (InInts W7 W6.heap.size W7.heap.size vg3 ((easyL q0))) := Lib.hid (InInts.of og3); clear og3
  go_wp2_with fail
  refine (eqInt64S_c vg3 vw (easyL q0) (easyL q0) W7 Mg3.out.at (SW.out.below hs7)).mono ?_
  rw [(same2_iff eqI eqI_iff ((easyL q0)) ((easyL q0))).2 rfl]
  rintro e W8 ⟨rfl, b8⟩
  have hb8 := bthen hb7 b8
  have sz8 := b8.size
  have hs8 := bthen hs7 b8
  replace Mx2 := Lib.hid (Mx2.out.below b8)
  replace Mg3 := Lib.hid (Mg3.out.below b8)
  replace BQ0 := Lib.hid (BQ0.out.below b8); replace eBQ0 := BQ0.out.2.1; replace sBQ0 := BQ0.out.1
  replace Bx2 := Lib.hid (Bx2.out.below b8); replace eBx2 := Bx2.out.2.1; replace sBx2 := Bx2.out.1
  clear b8
  go_wp2_with fail
  go_region_held3 (fun w' => (∀ j, w'.cell? ⟨w.heap.size, j, none⟩ = ([.int .i64 q0.period, .int .i64 q0.props, .int .i64 q0.high, y0, z0, .bool q0.canonical] : List Value)[j]?) ∧ (∀ j, w'.cell? ⟨W5.heap.size, j, none⟩ = ([.int .i64 q0.period, .int .i64 q0.props, .int .i64 q0.high, yx2, zx2, .bool q0.canonical] : List Value)[j]?)) (exact ⟨eBQ0, eBx2⟩)
    (first | (go_at_call 7; (with_reducible refine (toQuery_c q0 y0 z0 _ (by exact (A0.out.below hb8).drewn) (by omega) (by omega)).mono ?_); rintro e W9 ⟨ax4, nx4, cx4, dx4, mx4, kx4, rfl, ox4, b9⟩; replace b9 := ((Below.refl W8.heap.size W8).drew).trans b9; generalize Value.slice ax4 nx4 cx4 = yx4 at *; generalize Value.slice dx4 mx4 kx4 = zx4 at *; have Ox4 := Lib.hid ox4; clear ox4; have hb9 := bthen hb8 b9; have sz9 := b9.size; have hs9 := bthen hs8 b9; replace Mx2 := Lib.hid (Mx2.out.below b9); replace Mg3 := Lib.hid (Mg3.out.below b9); replace BQ0 := Lib.hid (BQ0.out.below b9); replace eBQ0 := BQ0.out.2.1; replace sBQ0 := BQ0.out.1; replace Bx2 := Lib.hid (Bx2.out.below b9); replace eBx2 := Bx2.out.2.1; replace sBx2 := Bx2.out.1; clear b9) | (go_at_call 10; (with_reducible refine (eqQuery_c q0 q0 yx2 zx2 yx4 zx4 _ (by exact Mx2.out.at) (by exact Ox4.out)).mono ?_); rw [(eqQueryB_iff q0 q0).2 rfl]; rintro e W10 ⟨rfl, b10⟩; have hb10 := bthen hb9 b10; have sz10 := b10.size; have hs10 := bthen hs9 b10; replace Mx2 := Lib.hid (Mx2.out.below b10); replace Mg3 := Lib.hid (Mg3.out.below b10); replace BQ0 := Lib.hid (BQ0.out.below b10); replace eBQ0 := BQ0.out.2.1; replace sBQ0 := BQ0.out.1; replace Bx2 := Lib.hid (Bx2.out.below b10); replace eBx2 := Bx2.out.2.1; replace sBx2 := Bx2.out.1; clear b10))
  go_wp2_with fail
  refine (markQuery_c q0 yx2 zx2 1 _ _ _ Mx2.out (by omega) (by omega) (by omega) (by omega) (by omega)).mono ?_
  rintro e W11 ⟨k5, rfl, hek5, hxk5, i11, t11⟩
  have hyk5 : 1 ≤ k5 := by rw [hek5]; omega
  have HEk5 := Lib.hid hek5; clear hek5
  have sz11 := t11.size
  have hb11 := mark_then hb10 t11 (by exact hb4.size) hb10.size
  have hs11 := mark_then hs10 t11 (by omega) hs10.size
  replace Mg3 := Lib.hid (Mg3.out.turned t11 (by omega))
  replace BQ0 := Lib.hid (BQ0.out.turned t11 (by omega)); replace eBQ0 := BQ0.out.2.1; replace sBQ0 := BQ0.out.1
  replace Bx2 := Lib.hid (Bx2.out.turned t11 (by omega)); replace eBx2 := Bx2.out.2.1; replace sBx2 := Bx2.out.1
  have Mx2' := Lib.hid i11; clear Mx2 i11 t11
  have Mx2 := Mx2'; clear Mx2'
  clear Mx2
  go_wp2_with fail
  refine (eqInt64S_c vg3 vw (easyL q0) (easyL q0) W11 Mg3.out.at (SW.out.below hs11)).mono ?_
  rw [(same2_iff eqI eqI_iff ((easyL q0)) ((easyL q0))).2 rfl]
  rintro e W12 ⟨rfl, b12⟩
  have hb12 := bthen hb11 b12
  have sz12 := b12.size
  have hs12 := bthen hs11 b12
  replace Mg3 := Lib.hid (Mg3.out.below b12)
  replace BQ0 := Lib.hid (BQ0.out.below b12); replace eBQ0 := BQ0.out.2.1; replace sBQ0 := BQ0.out.1
  replace Bx2 := Lib.hid (Bx2.out.below b12); replace eBx2 := Bx2.out.2.1; replace sBx2 := Bx2.out.1
  clear b12
  go_wp2_with fail
  refine (markInt64S_c vg3 _ 1 _ _ _ Mg3.out (by exact easyL_len q0) (by omega) (by omega) (by omega)).mono ?_
  rintro e W13 ⟨mq, rfl, hemq, hxmq, i13, t13⟩
  have hymq : 1 ≤ mq := by rw [hemq]; omega
  have HEmq := Lib.hid hemq; clear hemq
  have sz13 := t13.size
  have hb13 := mark_then hb12 t13 (by exact hb6.size) hb12.size
  have hs13 := mark_then hs12 t13 (by omega) hs12.size
  replace BQ0 := Lib.hid (BQ0.out.turned t13 (by omega)); replace eBQ0 := BQ0.out.2.1; replace sBQ0 := BQ0.out.1
  replace Bx2 := Lib.hid (Bx2.out.turned t13 (by omega)); replace eBx2 := Bx2.out.2.1; replace sBx2 := Bx2.out.1
  have Mg3' := Lib.hid i13; clear Mg3 i13 t13
  have Mg3 := Mg3'; clear Mg3'
  have HH := Lib.hid (fun (W : World) h => heldInt64S_c vg3 ((easyL q0)) W h (by exact easyL_len q0) mq HEmq.out)
  go_wp2_with fail
  refine (HH.out W13 Mg3.out.at).mono ?_
  rintro e W14 ⟨rfl, b14⟩
  have hb14 := bthen hb13 b14
  have sz14 := b14.size
  have hs14 := bthen hs13 b14
  replace Mg3 := Lib.hid (Mg3.out.below b14)
  replace BQ0 := Lib.hid (BQ0.out.below b14); replace eBQ0 := BQ0.out.2.1; replace sBQ0 := BQ0.out.1
  replace Bx2 := Lib.hid (Bx2.out.below b14); replace eBx2 := Bx2.out.2.1; replace sBx2 := Bx2.out.1
  clear b14
  go_wp2_with fail
  refine (toQueryO_c q0 y0 z0 W14 (A0.out.below hb14) (by omega) (by omega)).mono ?_
  rintro e W15 ⟨ax6, nx6, cx6, dx6, mx6, kx6, rfl, ox6, b15⟩
  have hb15 := bthen hb14 b15
  have sz15 := b15.size
  have hs15 := bthen hs14 b15
  replace Mg3 := Lib.hid (Mg3.out.below b15)
  replace BQ0 := Lib.hid (BQ0.out.below b15); replace eBQ0 := BQ0.out.2.1; replace sBQ0 := BQ0.out.1
  replace Bx2 := Lib.hid (Bx2.out.below b15); replace eBx2 := Bx2.out.2.1; replace sBx2 := Bx2.out.1
  clear b15
  generalize Value.slice ax6 nx6 cx6 = yx6 at *
  generalize Value.slice dx6 mx6 kx6 = zx6 at *
  have Mx6 := Lib.hid ox6; clear ox6
  go_wp2_with fail
  refine (iEasiestFound_c q0 yx6 zx6 W15 Mx6.out.at).mono ?_
  rintro e W16 ⟨ag7, ng7, cg7, rfl, og7, b16⟩
  have hb16 := bthen hb15 b16
  have sz16 := b16.size
  have hs16 := bthen hs15 b16
  replace Mg3 := Lib.hid (Mg3.out.below b16)
  replace Mx6 := Lib.hid (Mx6.out.below b16)
  replace BQ0 := Lib.hid (BQ0.out.below b16); replace eBQ0 := BQ0.out.2.1; replace sBQ0 := BQ0.out.1
  replace Bx2 := Lib.hid (Bx2.out.below b16); replace eBx2 := Bx2.out.2.1; replace sBx2 := Bx2.out.1
  clear b16
  generalize Value.slice ag7 ng7 cg7 = vg7 at *
  have Mg7 : Hid (InInts W16 W15.heap.size W16.heap.size vg7 ((easyL q0))) := Lib.hid (InInts.of og7); clear og7
  clear Mx6
  go_wp2_with fail
  refine (eqInt64S_c vg7 vw (easyL q0) (easyL q0) W16 Mg7.out.at (SW.out.below hs16)).mono ?_
  rw [(same2_iff eqI eqI_iff ((easyL q0)) ((easyL q0))).2 rfl]
  rintro e W17 ⟨rfl, b17⟩
  have hb17 := bthen hb16 b17
  have sz17 := b17.size
  have hs17 := bthen hs16 b17
  replace Mg3 := Lib.hid (Mg3.out.below b17)
  replace Mg7 := Lib.hid (Mg7.out.below b17)
  replace BQ0 := Lib.hid (BQ0.out.below b17); replace eBQ0 := BQ0.out.2.1; replace sBQ0 := BQ0.out.1
  replace Bx2 := Lib.hid (Bx2.out.below b17); replace eBx2 := Bx2.out.2.1; replace sBx2 := Bx2.out.1
  clear b17
  go_wp2_with fail
  refine (HH.out W17 Mg3.out.at).mono ?_
  rintro e W18 ⟨rfl, b18⟩
  have hb18 := bthen hb17 b18
  have sz18 := b18.size
  have hs18 := bthen hs17 b18
  replace Mg3 := Lib.hid (Mg3.out.below b18)
  replace Mg7 := Lib.hid (Mg7.out.below b18)
  replace BQ0 := Lib.hid (BQ0.out.below b18); replace eBQ0 := BQ0.out.2.1; replace sBQ0 := BQ0.out.1
  replace Bx2 := Lib.hid (Bx2.out.below b18); replace eBx2 := Bx2.out.2.1; replace sBx2 := Bx2.out.1
  clear b18
  go_wp2
  go_ret
  exact Gives.bool rfl hb18
set_option maxRecDepth 100000 in
set_option linter.unusedVariables false in
theorem fnExactEasiestFound_lifted (os : Os) (started : os.Started) (H : Type) (enc : TypeId × Value → H) :
    ReturnsInHanded {} Try.checked os 3 .any (Rows.fnExactEasiestFoundSpec.pre6 enc Try.prog Try.f3 Rows.fnExactEasiestFoundRow.domain false) (Rows.fnExactEasiestFoundSpec.post enc Try.prog Try.f3 false true false false) := by
  refine returnsInHanded_of_change (C := Try.checked) own started (by kernel_rfl) Try.func3
    (ChangeSpec.witness6 (enc := enc) (C := Try.checked) false ⟨#[], #[.agg #[.int .i64 0, .int .i64 0, .int .i64 0, .slice none 0 0, .slice none 0 0, .bool false]], []⟩ 8 (by kernel_rfl) (by kernel_rfl) (by kernel_rfl) (by kernel_rfl)) ?_
  intro W base args ds gs before hval0 hW hcnd _
  have hval : ∀ (j : Nat) t v, Try.f3.params[j]? = some t → args[j]? = some v → Value.okWide Try.prog W .any base t v := hval0
  have hW' := hW
  obtain ⟨p, q, hA0, hV, rfl, hfz, hnd⟩ := hW
  have hA : DataW.TrodAll enc Try.prog W 0 (fun _ => true) true Try.f3.params.toList args.toList ds p := hA0
  rw [Try.params3] at hA hval
  obtain ⟨v0, vs0, d0, ds0, p0, q0, hargs, rfl, rfl, h0, r0⟩ := trodAll_cons hA
  obtain ⟨rfl, rfl, rfl⟩ := trodAll_nil r0
  obtain rfl : args = #[v0] := by cases args; simp_all
  obtain ⟨rfl, rfl⟩ := trodVars_none hV
  have k0 := h0
  have lt0 : ∀ x ∈ p0, x.block < W.heap.size := by obtain ⟨m, hm⟩ := k0; exact DataW.trod_lt m _ _ _ hm
  obtain ⟨q0, y0, z0, rfl, c0, w0⟩ := query_of_trod (v := v0) Try.underlying24 (by kernel_rfl) (by kernel_rfl) Try.underlying2 Try.underlying2 Try.underlying2 Try.underlying22 Try.underlying22 Try.underlying4 Try.underlying2 (by kernel_rfl) (hval 0 24 v0 rfl rfl) h0
  clear hA0 hval0
  refine (fnExactEasiestFound_walk q0 y0 z0 W c0).mono fun e W' ⟨he, bel⟩ => ?_
  subst he
  exact ⟨_, rfl, _, _, _, [], _, [], hW', trodAll_mk1 (shut_bool Try.underlying4 _), (trodAll_cons_mk (Below.trod laidOut (by kernel_rfl) (of_decide_eq_true (by kernel_rfl)) k0 bel lt0) trodAll_mk0), rfl, bel.frame _, fun h => by cases h⟩
theorem fnExactEasiestFound_over : Rows.fnExactEasiestFoundRow.holds Try.pinned (OpenSpec.ofChange Rows.fnExactEasiestFoundSpec) :=
  OpenClaim.holds_of_wide 3 Try.f3 rfl rfl rfl rfl rfl rfl rfl ⟨rfl, rfl, rfl, rfl, rfl⟩ rfl rfl rfl rfl rfl (by kernel_rfl) Try.func3 (by kernel_rfl)
    (of_decide_eq_true (by kernel_rfl)) (by unfold Func.isWrapper; first | (rw [if_pos (by decide +kernel)]; kernel_rfl) | (rw [if_neg (by decide +kernel)]; exact ⟨rfl, rfl⟩))
    (fun os started H enc _ => fnExactEasiestFound_lifted os started H enc)
theorem fnExactEasiestFound_holds : Rows.FnExactEasiestFoundSaid := fnExactEasiestFound_over
#print axioms fnExactEasiestFound_holds
end Go.Proofs.Ythpkppafndlclaa
