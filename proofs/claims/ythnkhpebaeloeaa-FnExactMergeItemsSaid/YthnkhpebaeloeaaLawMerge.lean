/- LawMerge: the walk of the law FnExactMergeItems, and its row. -/
import Derived.Test.YthnkhpebaeloeaaMerge
import Derived.Test.YthnkhpebaeloeaaItems2
import Derived.Test.YthnkhpebaeloeaaMarkJ
import Derived.Test.YthnkhpebaeloeaaOpenItems
namespace Go.Proofs.Ythnkhpebaeloeaa
open Go.ChangeShapes Go.WideShapes Go.ChangeAt Go.RowKit

set_option maxHeartbeats 2000000 in
set_option linter.unusedVariables false in
theorem fnExactMergeItems_walk (v0 : Value) (l0 : List Item) (v1 : Value) (l1 : List Item) (w : World) (c0 : ItemsAt w v0 l0) (c1 : ItemsAt w v1 l1) :
    Calls Try.prog 9 #[v0, v1] w (Gives (.bool true) w) := by
  have A0 := Lib.hid c0; clear c0
  have A1 := Lib.hid c1; clear c1
  have qs0 := szItemsT_le l0 1048576 (by omega)
  have QS0 := Lib.hid qs0.2.2; have qt0 := qs0.2.1; clear qs0
  go_enter Try.func9, Try.ntmps9
  go_wp2_with fail
  refine (szItemS_c v0 l0 1048576 w A0.out (by omega) (by omega)).mono ?_
  rintro e W1 ⟨rfl, b1⟩
  have hb1 := b1
  have sz1 := b1.size
  clear b1
  generalize szItemsT l0 1048576 = r0 at *
  by_cases hs0' : r0 < 0
  · go_wp2
    go_ret
    exact Gives.bool rfl hb1
  have S0 := Lib.hid (QS0.out (by omega))
  have hl0 := (QS0.out (by omega)).1
  have qs1 := szItemsT_le l1 r0 (by omega)
  have QS1 := Lib.hid qs1.2.2; have qt1 := qs1.2.1; clear qs1
  go_wp2_with fail
  refine (szItemS_c v1 l1 r0 W1 (A1.out.below hb1) (by omega) (by omega)).mono ?_
  rintro e W2 ⟨rfl, b2⟩
  have hb2 := bthen hb1 b2
  have sz2 := b2.size
  clear b2
  generalize szItemsT l1 r0 = r1 at *
  by_cases hs1' : r1 < 0
  · go_wp2
    go_ret
    exact Gives.bool rfl hb2
  have S1 := Lib.hid (QS1.out (by omega))
  have hl1 := (QS1.out (by omega)).1
  go_wp2_with fail
  refine (toItemS_c v0 l0 W2 (A0.out.below hb2) (by omega) (fun x hx => by have := (S0.out.2 x hx).2; omega)).mono ?_
  rintro e W3 ⟨ax1, nx1, cx1, rfl, ox1, b3⟩
  have hb3 := bthen hb2 b3
  have sz3 := b3.size
  clear b3
  generalize Value.slice ax1 nx1 cx1 = vx1 at *
  have Mx1 : Hid (InItems W3 W2.heap.size W3.heap.size vx1 l0) := Lib.hid (InItems.of ox1); clear ox1
  go_wp2_with fail
  refine (toItemS_c v1 l1 W3 (A1.out.below hb3) (by omega) (fun x hx => by have := (S1.out.2 x hx).2; omega)).mono ?_
  rintro e W4 ⟨ax2, nx2, cx2, rfl, ox2, b4⟩
  have hb4 := bthen hb3 b4
  have sz4 := b4.size
  replace Mx1 := Lib.hid (Mx1.out.below b4)
  clear b4
  generalize Value.slice ax2 nx2 cx2 = vx2 at *
  have Mx2 : Hid (InItems W4 W3.heap.size W4.heap.size vx2 l1) := Lib.hid (InItems.of ox2); clear ox2
  go_wp2_with fail
  refine (sMergeItems_c vx1 vx2 l0 l1 W4 Mx1.out.at Mx2.out.at).mono ?_
  rintro e W5 ⟨aw, nw, cw, rfl, ow, b5⟩
  have hb5 := bthen hb4 b5
  have sz5 := b5.size
  replace Mx1 := Lib.hid (Mx1.out.below b5)
  replace Mx2 := Lib.hid (Mx2.out.below b5)
  clear b5
  generalize Value.slice aw nw cw = vw at *
  have SW := Lib.hid ow.at; clear ow
  have hs5 : Below W5.heap.size W5 W5 := Below.refl _ _
  clear Mx1
  clear Mx2
  go_wp2_with fail
  refine (toItemS_c v0 l0 W5 (A0.out.below hb5) (by omega) (fun x hx => by have := (S0.out.2 x hx).2; omega)).mono ?_
  rintro e W6 ⟨ax3, nx3, cx3, rfl, ox3, b6⟩
  have hb6 := bthen hb5 b6
  have sz6 := b6.size
  have hs6 := bthen hs5 b6
  clear b6
  generalize Value.slice ax3 nx3 cx3 = vx3 at *
  have Mx3 : Hid (InItems W6 W5.heap.size W6.heap.size vx3 l0) := Lib.hid (InItems.of ox3); clear ox3
  go_wp2_with fail
  refine (toItemS_c v1 l1 W6 (A1.out.below hb6) (by omega) (fun x hx => by have := (S1.out.2 x hx).2; omega)).mono ?_
  rintro e W7 ⟨ax4, nx4, cx4, rfl, ox4, b7⟩
  have hb7 := bthen hb6 b7
  have sz7 := b7.size
  have hs7 := bthen hs6 b7
  replace Mx3 := Lib.hid (Mx3.out.below b7)
  clear b7
  generalize Value.slice ax4 nx4 cx4 = vx4 at *
  have Mx4 : Hid (InItems W7 W6.heap.size W7.heap.size vx4 l1) := Lib.hid (InItems.of ox4); clear ox4
  go_wp2_with fail
  refine (iMergeItems_c vx3 vx4 l0 l1 W7 Mx3.out.at Mx4.out.at).mono ?_
  rintro e W8 ⟨ag5, ng5, cg5, rfl, og5, b8⟩
  have hb8 := bthen hb7 b8
  have sz8 := b8.size
  have hs8 := bthen hs7 b8
  replace Mx3 := Lib.hid (Mx3.out.below b8)
  replace Mx4 := Lib.hid (Mx4.out.below b8)
  clear b8
  generalize Value.slice ag5 ng5 cg5 = vg5 at *
  have Mg5 : Hid (InItems W8 W7.heap.size W8.heap.size vg5 ((mergeL l0 l1))) := Lib.hid (InItems.of og5); clear og5
  go_wp2_with fail
  refine (eqItemS_c vg5 vw (mergeL l0 l1) (mergeL l0 l1) W8 Mg5.out.at (SW.out.below hs8)).mono ?_
  rw [(same2_iff eqItemB eqItemB_iff ((mergeL l0 l1)) ((mergeL l0 l1))).2 rfl]
  rintro e W9 ⟨rfl, b9⟩
  have hb9 := bthen hb8 b9
  have sz9 := b9.size
  have hs9 := bthen hs8 b9
  replace Mx3 := Lib.hid (Mx3.out.below b9)
  replace Mx4 := Lib.hid (Mx4.out.below b9)
  replace Mg5 := Lib.hid (Mg5.out.below b9)
  clear b9
  go_wp2_with fail
  refine (toItemS_c v0 l0 W9 (A0.out.below hb9) (by omega) (fun x hx => by have := (S0.out.2 x hx).2; omega)).mono ?_
  rintro e W10 ⟨ax6, nx6, cx6, rfl, ox6, b10⟩
  have hb10 := bthen hb9 b10
  have sz10 := b10.size
  have hs10 := bthen hs9 b10
  replace Mx3 := Lib.hid (Mx3.out.below b10)
  replace Mx4 := Lib.hid (Mx4.out.below b10)
  replace Mg5 := Lib.hid (Mg5.out.below b10)
  clear b10
  generalize Value.slice ax6 nx6 cx6 = vx6 at *
  have Mx6 : Hid (InItems W10 W9.heap.size W10.heap.size vx6 l0) := Lib.hid (InItems.of ox6); clear ox6
  go_wp2_with fail
  refine (eqItemS_c vx3 vx6 l0 l0 W10 Mx3.out.at Mx6.out.at).mono ?_
  rw [(same2_iff eqItemB eqItemB_iff l0 l0).2 rfl]
  rintro e W11 ⟨rfl, b11⟩
  have hb11 := bthen hb10 b11
  have sz11 := b11.size
  have hs11 := bthen hs10 b11
  replace Mx3 := Lib.hid (Mx3.out.below b11)
  replace Mx4 := Lib.hid (Mx4.out.below b11)
  replace Mg5 := Lib.hid (Mg5.out.below b11)
  replace Mx6 := Lib.hid (Mx6.out.below b11)
  clear b11
  clear Mx6
  go_wp2_with fail
  refine (toItemS_c v1 l1 W11 (A1.out.below hb11) (by omega) (fun x hx => by have := (S1.out.2 x hx).2; omega)).mono ?_
  rintro e W12 ⟨ax7, nx7, cx7, rfl, ox7, b12⟩
  have hb12 := bthen hb11 b12
  have sz12 := b12.size
  have hs12 := bthen hs11 b12
  replace Mx3 := Lib.hid (Mx3.out.below b12)
  replace Mx4 := Lib.hid (Mx4.out.below b12)
  replace Mg5 := Lib.hid (Mg5.out.below b12)
  clear b12
  generalize Value.slice ax7 nx7 cx7 = vx7 at *
  have Mx7 : Hid (InItems W12 W11.heap.size W12.heap.size vx7 l1) := Lib.hid (InItems.of ox7); clear ox7
  go_wp2_with fail
  refine (eqItemS_c vx4 vx7 l1 l1 W12 Mx4.out.at Mx7.out.at).mono ?_
  rw [(same2_iff eqItemB eqItemB_iff l1 l1).2 rfl]
  rintro e W13 ⟨rfl, b13⟩
  have hb13 := bthen hb12 b13
  have sz13 := b13.size
  have hs13 := bthen hs12 b13
  replace Mx3 := Lib.hid (Mx3.out.below b13)
  replace Mx4 := Lib.hid (Mx4.out.below b13)
  replace Mg5 := Lib.hid (Mg5.out.below b13)
  replace Mx7 := Lib.hid (Mx7.out.below b13)
  clear b13
  clear Mx7
  go_wp2_with fail
  refine (markItemS_c vx3 _ 1 _ _ _ Mx3.out (by omega) (fun x hx => by have := (S0.out.2 x hx).2; omega) (by omega) (by omega) (by omega)).mono ?_
  rintro e W14 ⟨k8, rfl, hek8, hxk8, i14, t14⟩
  have hyk8 : 1 ≤ k8 := by rw [hek8]; omega
  have HEk8 := Lib.hid hek8; clear hek8
  have sz14 := t14.size
  have hb14 := mark_then hb13 t14 (by exact hb5.size) hb13.size
  have hs14 := mark_then hs13 t14 (by omega) hs13.size
  replace Mx4 := Lib.hid (Mx4.out.turned t14 (by omega))
  replace Mg5 := Lib.hid (Mg5.out.turned t14 (by omega))
  have Mx3' := Lib.hid i14; clear Mx3 i14 t14
  have Mx3 := Mx3'; clear Mx3'
  clear Mx3
  go_wp2_with fail
  refine (markItemS_c vx4 _ k8 _ _ _ Mx4.out (by omega) (fun x hx => by have := (S1.out.2 x hx).2; omega) (by omega) (by omega) (by omega)).mono ?_
  rintro e W15 ⟨k9, rfl, hek9, hxk9, i15, t15⟩
  have hyk9 : 1 ≤ k9 := by rw [hek9]; omega
  have HEk9 := Lib.hid hek9; clear hek9
  have sz15 := t15.size
  have hb15 := mark_then hb14 t15 (by exact hb6.size) hb14.size
  have hs15 := mark_then hs14 t15 (by omega) hs14.size
  replace Mg5 := Lib.hid (Mg5.out.turned t15 (by omega))
  have Mx4' := Lib.hid i15; clear Mx4 i15 t15
  have Mx4 := Mx4'; clear Mx4'
  clear Mx4
  go_wp2_with fail
  refine (eqItemS_c vg5 vw (mergeL l0 l1) (mergeL l0 l1) W15 Mg5.out.at (SW.out.below hs15)).mono ?_
  rw [(same2_iff eqItemB eqItemB_iff ((mergeL l0 l1)) ((mergeL l0 l1))).2 rfl]
  rintro e W16 ⟨rfl, b16⟩
  have hb16 := bthen hb15 b16
  have sz16 := b16.size
  have hs16 := bthen hs15 b16
  replace Mg5 := Lib.hid (Mg5.out.below b16)
  clear b16
  go_wp2_with fail
  refine (markItemS_c vg5 _ 1 _ _ _ Mg5.out (by exact (mergeL_ok l0 l1).1) (mergeL_ok l0 l1).2 (by omega) (by omega) (by omega)).mono ?_
  rintro e W17 ⟨mq, rfl, hemq, hxmq, i17, t17⟩
  have hymq : 1 ≤ mq := by rw [hemq]; omega
  have HEmq := Lib.hid hemq; clear hemq
  have sz17 := t17.size
  have hb17 := mark_then hb16 t17 (by exact hb7.size) hb16.size
  have hs17 := mark_then hs16 t17 (by omega) hs16.size
  have Mg5' := Lib.hid i17; clear Mg5 i17 t17
  have Mg5 := Mg5'; clear Mg5'
  have HH := Lib.hid (fun (W : World) h => heldItemS_c vg5 ((mergeL l0 l1)) W h (by exact (mergeL_ok l0 l1).1) (mergeL_ok l0 l1).2 mq HEmq.out)
  go_wp2_with fail
  refine (HH.out W17 Mg5.out.at).mono ?_
  rintro e W18 ⟨rfl, b18⟩
  have hb18 := bthen hb17 b18
  have sz18 := b18.size
  have hs18 := bthen hs17 b18
  replace Mg5 := Lib.hid (Mg5.out.below b18)
  clear b18
  go_wp2_with fail
  refine (toItemS_c v0 l0 W18 (A0.out.below hb18) (by omega) (fun x hx => by have := (S0.out.2 x hx).2; omega)).mono ?_
  rintro e W19 ⟨ax10, nx10, cx10, rfl, ox10, b19⟩
  have hb19 := bthen hb18 b19
  have sz19 := b19.size
  have hs19 := bthen hs18 b19
  replace Mg5 := Lib.hid (Mg5.out.below b19)
  clear b19
  generalize Value.slice ax10 nx10 cx10 = vx10 at *
  have Mx10 : Hid (InItems W19 W18.heap.size W19.heap.size vx10 l0) := Lib.hid (InItems.of ox10); clear ox10
  go_wp2_with fail
  refine (toItemS_c v1 l1 W19 (A1.out.below hb19) (by omega) (fun x hx => by have := (S1.out.2 x hx).2; omega)).mono ?_
  rintro e W20 ⟨ax11, nx11, cx11, rfl, ox11, b20⟩
  have hb20 := bthen hb19 b20
  have sz20 := b20.size
  have hs20 := bthen hs19 b20
  replace Mg5 := Lib.hid (Mg5.out.below b20)
  replace Mx10 := Lib.hid (Mx10.out.below b20)
  clear b20
  generalize Value.slice ax11 nx11 cx11 = vx11 at *
  have Mx11 : Hid (InItems W20 W19.heap.size W20.heap.size vx11 l1) := Lib.hid (InItems.of ox11); clear ox11
  go_wp2_with fail
  refine (iMergeItems_c vx10 vx11 l0 l1 W20 Mx10.out.at Mx11.out.at).mono ?_
  rintro e W21 ⟨ag12, ng12, cg12, rfl, og12, b21⟩
  have hb21 := bthen hb20 b21
  have sz21 := b21.size
  have hs21 := bthen hs20 b21
  replace Mg5 := Lib.hid (Mg5.out.below b21)
  replace Mx10 := Lib.hid (Mx10.out.below b21)
  replace Mx11 := Lib.hid (Mx11.out.below b21)
  clear b21
  generalize Value.slice ag12 ng12 cg12 = vg12 at *
  have Mg12 : Hid (InItems W21 W20.heap.size W21.heap.size vg12 ((mergeL l0 l1))) := Lib.hid (InItems.of og12); clear og12
  clear Mx10
  clear Mx11
  go_wp2_with fail
  refine (eqItemS_c vg12 vw (mergeL l0 l1) (mergeL l0 l1) W21 Mg12.out.at (SW.out.below hs21)).mono ?_
  rw [(same2_iff eqItemB eqItemB_iff ((mergeL l0 l1)) ((mergeL l0 l1))).2 rfl]
  rintro e W22 ⟨rfl, b22⟩
  have hb22 := bthen hb21 b22
  have sz22 := b22.size
  have hs22 := bthen hs21 b22
  replace Mg5 := Lib.hid (Mg5.out.below b22)
  replace Mg12 := Lib.hid (Mg12.out.below b22)
  clear b22
  go_wp2_with fail
  refine (HH.out W22 Mg5.out.at).mono ?_
  rintro e W23 ⟨rfl, b23⟩
  have hb23 := bthen hb22 b23
  have sz23 := b23.size
  have hs23 := bthen hs22 b23
  replace Mg5 := Lib.hid (Mg5.out.below b23)
  replace Mg12 := Lib.hid (Mg12.out.below b23)
  clear b23
  go_wp2
  go_ret
  exact Gives.bool rfl hb23
set_option maxRecDepth 100000 in
set_option linter.unusedVariables false in
theorem fnExactMergeItems_lifted (os : Os) (started : os.Started) (H : Type) (enc : TypeId × Value → H) :
    ReturnsInHanded {} Try.checked os 9 .any (Rows.fnExactMergeItemsSpec.pre6 enc Try.prog Try.f9 Rows.fnExactMergeItemsRow.domain false) (Rows.fnExactMergeItemsSpec.post enc Try.prog Try.f9 false true false false) := by
  refine returnsInHanded_of_change (C := Try.checked) own started (by kernel_rfl) Try.func9
    (ChangeSpec.witness6 (enc := enc) (C := Try.checked) false ⟨#[], #[.slice none 0 0, .slice none 0 0], []⟩ 8 (by kernel_rfl) (by kernel_rfl) (by kernel_rfl) (by kernel_rfl)) ?_
  intro W base args ds gs before hval0 hW hcnd _
  have hval : ∀ (j : Nat) t v, Try.f9.params[j]? = some t → args[j]? = some v → Value.okWide Try.prog W .any base t v := hval0
  have hW' := hW
  obtain ⟨p, q, hA0, hV, rfl, hfz, hnd⟩ := hW
  have hA : DataW.TrodAll enc Try.prog W 0 (fun _ => true) true Try.f9.params.toList args.toList ds p := hA0
  rw [Try.params9] at hA hval
  obtain ⟨v0, vs0, d0, ds0, p0, q0, hargs, rfl, rfl, h0, r0⟩ := trodAll_cons hA
  obtain ⟨v1, vs1, d1, ds1, p1, q1, rfl, rfl, rfl, h1, r1⟩ := trodAll_cons r0
  obtain ⟨rfl, rfl, rfl⟩ := trodAll_nil r1
  obtain rfl : args = #[v0, v1] := by cases args; simp_all
  obtain ⟨rfl, rfl⟩ := trodVars_none hV
  have k0 := h0
  have lt0 : ∀ x ∈ p0, x.block < W.heap.size := by obtain ⟨m, hm⟩ := k0; exact DataW.trod_lt m _ _ _ hm
  obtain ⟨l0, c0, w0⟩ := items_of_trod (v := v0) Try.underlying42 Try.underlying91 (by kernel_rfl) (by kernel_rfl) Try.underlying9 Try.underlying23 Try.underlying2 (by kernel_rfl) (hval 0 42 v0 rfl rfl) h0
  have k1 := h1
  have lt1 : ∀ x ∈ p1, x.block < W.heap.size := by obtain ⟨m, hm⟩ := k1; exact DataW.trod_lt m _ _ _ hm
  obtain ⟨l1, c1, w1⟩ := items_of_trod (v := v1) Try.underlying42 Try.underlying91 (by kernel_rfl) (by kernel_rfl) Try.underlying9 Try.underlying23 Try.underlying2 (by kernel_rfl) (hval 1 42 v1 rfl rfl) h1
  clear hA0 hval0
  refine (fnExactMergeItems_walk v0 l0 v1 l1 W c0 c1).mono fun e W' ⟨he, bel⟩ => ?_
  subst he
  exact ⟨_, rfl, _, _, _, [], _, [], hW', trodAll_mk1 (shut_bool Try.underlying4 _), (trodAll_cons_mk (Below.trod laidOut (by kernel_rfl) (of_decide_eq_true (by kernel_rfl)) k0 bel lt0) (trodAll_cons_mk (Below.trod laidOut (by kernel_rfl) (of_decide_eq_true (by kernel_rfl)) k1 bel lt1) trodAll_mk0)), rfl, bel.frame _, fun h => by cases h⟩
theorem fnExactMergeItems_over : Rows.fnExactMergeItemsRow.holds Try.pinned (OpenSpec.ofChange Rows.fnExactMergeItemsSpec) :=
  OpenClaim.holds_of_wide 9 Try.f9 rfl rfl rfl rfl rfl rfl rfl ⟨rfl, rfl, rfl, rfl, rfl⟩ rfl rfl rfl rfl rfl (by kernel_rfl) Try.func9 (by kernel_rfl)
    (of_decide_eq_true (by kernel_rfl)) (by unfold Func.isWrapper; first | (rw [if_pos (by decide +kernel)]; kernel_rfl) | (rw [if_neg (by decide +kernel)]; exact ⟨rfl, rfl⟩))
    (fun os started H enc _ => fnExactMergeItems_lifted os started H enc)
theorem fnExactMergeItems_holds : Rows.FnExactMergeItemsSaid := fnExactMergeItems_over
#print axioms fnExactMergeItems_holds
end Go.Proofs.Ythnkhpebaeloeaa
