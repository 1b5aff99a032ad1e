/- LawAddItem: the walk of the law FnExactAddItem, and its row. -/
import Derived.Test.YthnkhpebaeloeaaItemAdd2
import Derived.Test.YthnkhpebaeloeaaItems2
import Derived.Test.YthnkhpebaeloeaaMarkJ
import Derived.Test.YthnkhpebaeloeaaOpenItems
namespace Go.Proofs.Ythnkhpebaeloeaa
open Go.ChangeShapes Go.WideShapes Go.ChangeAt Go.RowKit

set_option maxHeartbeats 2000000 in
set_option linter.unusedVariables false in
theorem fnExactAddItem_walk (v0 : Value) (l0 : List Item) (a1 : ByteArray) (v2 : Value) (l2 : List Int) (w : World) (c0 : ItemsAt w v0 l0) (w1 : a1.size ≤ 9223372036854775807) (c2 : IntsAt w v2 l2) :
    Calls Try.prog 8 #[v0, .string a1, v2] w (Gives (.bool true) w) := by
  have A0 := Lib.hid c0; clear c0
  have A2 := Lib.hid c2; clear c2
  by_cases hg1 : 1048576 < a1.size
  · go_enter Try.func8, Try.ntmps8
    go_wp2
    go_ret
    exact Gives.bool rfl (by go_grown)
  obtain ⟨pa2, pn2, pc2, rfl, hpn2, hpr2⟩ := A2.out
  have Hpn2 := Lib.hid hpn2; clear hpn2 hpr2
  by_cases hg2 : 1048576 < pn2
  · go_enter Try.func8, Try.ntmps8
    go_wp2
    go_ret
    exact Gives.bool rfl (by go_grown)
  have hl2 : l2.length ≤ 1048576 := by rw [← Hpn2.out]; omega
  have qs0 := szItemsT_le l0 1048576 (by omega)
  have QS0 := Lib.hid qs0.2.2; have qt0 := qs0.2.1; clear qs0
  go_enter Try.func8, Try.ntmps8
  go_wp2_with fail
  generalize Value.slice pa2 pn2 pc2 = v2 at *
  refine (szItemS_c v0 l0 1048576 w A0.out (by omega) (by omega)).mono ?_
  rintro e W1 ⟨rfl, b1⟩
  have hb1 := b1
  have sz1 := b1.size
  clear b1
  generalize szItemsT l0 1048576 = r0 at *
  by_cases hs0' : r0 < 0
  · go_wp2
    go_ret
    exact Gives.bool rfl hb1
  have S0 := Lib.hid (QS0.out (by omega))
  have hl0 := (QS0.out (by omega)).1
  go_wp2_with fail
  refine (toItemS_c v0 l0 W1 (A0.out.below hb1) (by omega) (fun x hx => by have := (S0.out.2 x hx).2; omega)).mono ?_
  rintro e W2 ⟨ax1, nx1, cx1, rfl, ox1, b2⟩
  have hb2 := bthen hb1 b2
  have sz2 := b2.size
  clear b2
  generalize Value.slice ax1 nx1 cx1 = vx1 at *
  have Mx1 : Hid (InItems W2 W1.heap.size W2.heap.size vx1 l0) := Lib.hid (InItems.of ox1); clear ox1
  go_wp2_with fail
  refine (toInt64S_c v2 l2 W2 (A2.out.below hb2) (by omega)).mono ?_
  rintro e W3 ⟨ax2, nx2, cx2, rfl, ox2, b3⟩
  have hb3 := bthen hb2 b3
  have sz3 := b3.size
  replace Mx1 := Lib.hid (Mx1.out.below b3)
  clear b3
  generalize Value.slice ax2 nx2 cx2 = vx2 at *
  have Mx2 : Hid (InInts W3 W2.heap.size W3.heap.size vx2 l2) := Lib.hid (InInts.of ox2); clear ox2
  go_wp2_with fail
  refine (sAddItem_c vx1 vx2 l0 a1 l2 W3 Mx1.out.at Mx2.out.at w1).mono ?_
  rintro e W4 ⟨aw, nw, cw, rfl, ow, b4⟩
  have hb4 := bthen hb3 b4
  have sz4 := b4.size
  replace Mx1 := Lib.hid (Mx1.out.below b4)
  replace Mx2 := Lib.hid (Mx2.out.below b4)
  clear b4
  generalize Value.slice aw nw cw = vw at *
  have SW := Lib.hid ow.at; clear ow
  have hs4 : Below W4.heap.size W4 W4 := Below.refl _ _
  clear Mx1
  clear Mx2
  go_wp2_with fail
  refine (toItemS_c v0 l0 W4 (A0.out.below hb4) (by omega) (fun x hx => by have := (S0.out.2 x hx).2; omega)).mono ?_
  rintro e W5 ⟨ax3, nx3, cx3, rfl, ox3, b5⟩
  have hb5 := bthen hb4 b5
  have sz5 := b5.size
  have hs5 := bthen hs4 b5
  clear b5
  generalize Value.slice ax3 nx3 cx3 = vx3 at *
  have Mx3 : Hid (InItems W5 W4.heap.size W5.heap.size vx3 l0) := Lib.hid (InItems.of ox3); clear ox3
  go_wp2_with fail
  refine (toInt64S_c v2 l2 W5 (A2.out.below hb5) (by omega)).mono ?_
  rintro e W6 ⟨ax4, nx4, cx4, rfl, ox4, b6⟩
  have hb6 := bthen hb5 b6
  have sz6 := b6.size
  have hs6 := bthen hs5 b6
  replace Mx3 := Lib.hid (Mx3.out.below b6)
  clear b6
  generalize Value.slice ax4 nx4 cx4 = vx4 at *
  have Mx4 : Hid (InInts W6 W5.heap.size W6.heap.size vx4 l2) := Lib.hid (InInts.of ox4); clear ox4
  go_wp2_with fail
  refine (iAddItem_c vx3 vx4 l0 a1 l2 W6 Mx3.out.at Mx4.out.at w1).mono ?_
  rintro e W7 ⟨ag5, ng5, cg5, rfl, og5, b7⟩
  have hb7 := bthen hb6 b7
  have sz7 := b7.size
  have hs7 := bthen hs6 b7
  replace Mx3 := Lib.hid (Mx3.out.below b7)
  replace Mx4 := Lib.hid (Mx4.out.below b7)
  clear b7
  generalize Value.slice ag5 ng5 cg5 = vg5 at *
  have Mg5 : Hid (InItems W7 W6.heap.size W7.heap.size vg5 ((addItL l0 a1 l2))) := Lib.hid (InItems.of og5); clear og5
  go_wp2_with fail
  refine (eqItemS_c vg5 vw (addItL l0 a1 l2) (addItL l0 a1 l2) W7 Mg5.out.at (SW.out.below hs7)).mono ?_
  rw [(same2_iff eqItemB eqItemB_iff ((addItL l0 a1 l2)) ((addItL l0 a1 l2))).2 rfl]
  rintro e W8 ⟨rfl, b8⟩
  have hb8 := bthen hb7 b8
  have sz8 := b8.size
  have hs8 := bthen hs7 b8
  replace Mx3 := Lib.hid (Mx3.out.below b8)
  replace Mx4 := Lib.hid (Mx4.out.below b8)
  replace Mg5 := Lib.hid (Mg5.out.below b8)
  clear b8
  go_wp2_with fail
  refine (toItemS_c v0 l0 W8 (A0.out.below hb8) (by omega) (fun x hx => by have := (S0.out.2 x hx).2; omega)).mono ?_
  rintro e W9 ⟨ax6, nx6, cx6, rfl, ox6, b9⟩
  have hb9 := bthen hb8 b9
  have sz9 := b9.size
  have hs9 := bthen hs8 b9
  replace Mx3 := Lib.hid (Mx3.out.below b9)
  replace Mx4 := Lib.hid (Mx4.out.below b9)
  replace Mg5 := Lib.hid (Mg5.out.below b9)
  clear b9
  generalize Value.slice ax6 nx6 cx6 = vx6 at *
  have Mx6 : Hid (InItems W9 W8.heap.size W9.heap.size vx6 l0) := Lib.hid (InItems.of ox6); clear ox6
  go_wp2_with fail
  refine (eqItemS_c vx3 vx6 l0 l0 W9 Mx3.out.at Mx6.out.at).mono ?_
  rw [(same2_iff eqItemB eqItemB_iff l0 l0).2 rfl]
  rintro e W10 ⟨rfl, b10⟩
  have hb10 := bthen hb9 b10
  have sz10 := b10.size
  have hs10 := bthen hs9 b10
  replace Mx3 := Lib.hid (Mx3.out.below b10)
  replace Mx4 := Lib.hid (Mx4.out.below b10)
  replace Mg5 := Lib.hid (Mg5.out.below b10)
  replace Mx6 := Lib.hid (Mx6.out.below b10)
  clear b10
  clear Mx6
  go_wp2_with fail
  refine (toInt64S_c v2 l2 W10 (A2.out.below hb10) (by omega)).mono ?_
  rintro e W11 ⟨ax7, nx7, cx7, rfl, ox7, b11⟩
  have hb11 := bthen hb10 b11
  have sz11 := b11.size
  have hs11 := bthen hs10 b11
  replace Mx3 := Lib.hid (Mx3.out.below b11)
  replace Mx4 := Lib.hid (Mx4.out.below b11)
  replace Mg5 := Lib.hid (Mg5.out.below b11)
  clear b11
  generalize Value.slice ax7 nx7 cx7 = vx7 at *
  have Mx7 : Hid (InInts W11 W10.heap.size W11.heap.size vx7 l2) := Lib.hid (InInts.of ox7); clear ox7
  go_wp2_with fail
  refine (eqInt64S_c vx4 vx7 l2 l2 W11 Mx4.out.at Mx7.out.at).mono ?_
  rw [(same2_iff eqI eqI_iff l2 l2).2 rfl]
  rintro e W12 ⟨rfl, b12⟩
  have hb12 := bthen hb11 b12
  have sz12 := b12.size
  have hs12 := bthen hs11 b12
  replace Mx3 := Lib.hid (Mx3.out.below b12)
  replace Mx4 := Lib.hid (Mx4.out.below b12)
  replace Mg5 := Lib.hid (Mg5.out.below b12)
  replace Mx7 := Lib.hid (Mx7.out.below b12)
  clear b12
  clear Mx7
  go_wp2_with fail
  refine (markItemS_c vx3 _ 1 _ _ _ Mx3.out (by omega) (fun x hx => by have := (S0.out.2 x hx).2; omega) (by omega) (by omega) (by omega)).mono ?_
  rintro e W13 ⟨k8, rfl, hek8, hxk8, i13, t13⟩
  have hyk8 : 1 ≤ k8 := by rw [hek8]; omega
  have HEk8 := Lib.hid hek8; clear hek8
  have sz13 := t13.size
  have hb13 := mark_then hb12 t13 (by exact hb4.size) hb12.size
  have hs13 := mark_then hs12 t13 (by omega) hs12.size
  replace Mx4 := Lib.hid (Mx4.out.turned t13 (by omega))
  replace Mg5 := Lib.hid (Mg5.out.turned t13 (by omega))
  have Mx3' := Lib.hid i13; clear Mx3 i13 t13
  have Mx3 := Mx3'; clear Mx3'
  clear Mx3
  go_wp2_with fail
  refine (markInt64S_c vx4 _ k8 _ _ _ Mx4.out (by omega) (by omega) (by omega) (by omega)).mono ?_
  rintro e W14 ⟨k9, rfl, hek9, hxk9, i14, t14⟩
  have hyk9 : 1 ≤ k9 := by rw [hek9]; omega
  have HEk9 := Lib.hid hek9; clear hek9
  have sz14 := t14.size
  have hb14 := mark_then hb13 t14 (by exact hb5.size) hb13.size
  have hs14 := mark_then hs13 t14 (by omega) hs13.size
  replace Mg5 := Lib.hid (Mg5.out.turned t14 (by omega))
  have Mx4' := Lib.hid i14; clear Mx4 i14 t14
  have Mx4 := Mx4'; clear Mx4'
  clear Mx4
  go_wp2_with fail
  refine (eqItemS_c vg5 vw (addItL l0 a1 l2) (addItL l0 a1 l2) W14 Mg5.out.at (SW.out.below hs14)).mono ?_
  rw [(same2_iff eqItemB eqItemB_iff ((addItL l0 a1 l2)) ((addItL l0 a1 l2))).2 rfl]
  rintro e W15 ⟨rfl, b15⟩
  have hb15 := bthen hb14 b15
  have sz15 := b15.size
  have hs15 := bthen hs14 b15
  replace Mg5 := Lib.hid (Mg5.out.below b15)
  clear b15
  go_wp2_with fail
  refine (markItemS_c vg5 _ 1 _ _ _ Mg5.out (by exact (addItL_ok l0 a1 l2).1) (addItL_ok l0 a1 l2).2 (by omega) (by omega) (by omega)).mono ?_
  rintro e W16 ⟨mq, rfl, hemq, hxmq, i16, t16⟩
  have hymq : 1 ≤ mq := by rw [hemq]; omega
  have HEmq := Lib.hid hemq; clear hemq
  have sz16 := t16.size
  have hb16 := mark_then hb15 t16 (by exact hb6.size) hb15.size
  have hs16 := mark_then hs15 t16 (by omega) hs15.size
  have Mg5' := Lib.hid i16; clear Mg5 i16 t16
  have Mg5 := Mg5'; clear Mg5'
  have HH := Lib.hid (fun (W : World) h => heldItemS_c vg5 ((addItL l0 a1 l2)) W h (by exact (addItL_ok l0 a1 l2).1) (addItL_ok l0 a1 l2).2 mq HEmq.out)
  go_wp2_with fail
  refine (HH.out W16 Mg5.out.at).mono ?_
  rintro e W17 ⟨rfl, b17⟩
  have hb17 := bthen hb16 b17
  have sz17 := b17.size
  have hs17 := bthen hs16 b17
  replace Mg5 := Lib.hid (Mg5.out.below b17)
  clear b17
  go_wp2_with fail
  refine (toItemS_c v0 l0 W17 (A0.out.below hb17) (by omega) (fun x hx => by have := (S0.out.2 x hx).2; omega)).mono ?_
  rintro e W18 ⟨ax10, nx10, cx10, rfl, ox10, b18⟩
  have hb18 := bthen hb17 b18
  have sz18 := b18.size
  have hs18 := bthen hs17 b18
  replace Mg5 := Lib.hid (Mg5.out.below b18)
  clear b18
  generalize Value.slice ax10 nx10 cx10 = vx10 at *
  have Mx10 : Hid (InItems W18 W17.heap.size W18.heap.size vx10 l0) := Lib.hid (InItems.of ox10); clear ox10
  go_wp2_with fail
  refine (toInt64S_c v2 l2 W18 (A2.out.below hb18) (by omega)).mono ?_
  rintro e W19 ⟨ax11, nx11, cx11, rfl, ox11, b19⟩
  have hb19 := bthen hb18 b19
  have sz19 := b19.size
  have hs19 := bthen hs18 b19
  replace Mg5 := Lib.hid (Mg5.out.below b19)
  replace Mx10 := Lib.hid (Mx10.out.below b19)
  clear b19
  generalize Value.slice ax11 nx11 cx11 = vx11 at *
  have Mx11 : Hid (InInts W19 W18.heap.size W19.heap.size vx11 l2) := Lib.hid (InInts.of ox11); clear ox11
  go_wp2_with fail
  refine (iAddItem_c vx10 vx11 l0 a1 l2 W19 Mx10.out.at Mx11.out.at w1).mono ?_
  rintro e W20 ⟨ag12, ng12, cg12, rfl, og12, b20⟩
  have hb20 := bthen hb19 b20
  have sz20 := b20.size
  have hs20 := bthen hs19 b20
  replace Mg5 := Lib.hid (Mg5.out.below b20)
  replace Mx10 := Lib.hid (Mx10.out.below b20)
  replace Mx11 := Lib.hid (Mx11.out.below b20)
  clear b20
  generalize Value.slice ag12 ng12 cg12 = vg12 at *
  have Mg12 : Hid (InItems W20 W19.heap.size W20.heap.size vg12 ((addItL l0 a1 l2))) := Lib.hid (InItems.of og12); clear og12
  clear Mx10
  clear Mx11
  go_wp2_with fail
  refine (eqItemS_c vg12 vw (addItL l0 a1 l2) (addItL l0 a1 l2) W20 Mg12.out.at (SW.out.below hs20)).mono ?_
  rw [(same2_iff eqItemB eqItemB_iff ((addItL l0 a1 l2)) ((addItL l0 a1 l2))).2 rfl]
  rintro e W21 ⟨rfl, b21⟩
  have hb21 := bthen hb20 b21
  have sz21 := b21.size
  have hs21 := bthen hs20 b21
  replace Mg5 := Lib.hid (Mg5.out.below b21)
  replace Mg12 := Lib.hid (Mg12.out.below b21)
  clear b21
  go_wp2_with fail
  refine (HH.out W21 Mg5.out.at).mono ?_
  rintro e W22 ⟨rfl, b22⟩
  have hb22 := bthen hb21 b22
  have sz22 := b22.size
  have hs22 := bthen hs21 b22
  replace Mg5 := Lib.hid (Mg5.out.below b22)
  replace Mg12 := Lib.hid (Mg12.out.below b22)
  clear b22
  go_wp2
  go_ret
  exact Gives.bool rfl hb22
set_option maxRecDepth 100000 in
set_option linter.unusedVariables false in
theorem fnExactAddItem_lifted (os : Os) (started : os.Started) (H : Type) (enc : TypeId × Value → H) :
    ReturnsInHanded {} Try.checked os 8 .any (Rows.fnExactAddItemSpec.pre6 enc Try.prog Try.f8 Rows.fnExactAddItemRow.domain false) (Rows.fnExactAddItemSpec.post enc Try.prog Try.f8 false true false false) := by
  refine returnsInHanded_of_change (C := Try.checked) own started (by kernel_rfl) Try.func8
    (ChangeSpec.witness6 (enc := enc) (C := Try.checked) false ⟨#[], #[.slice none 0 0, .string ByteArray.empty, .slice none 0 0], []⟩ 8 (by kernel_rfl) (by kernel_rfl) (by kernel_rfl) (by kernel_rfl)) ?_
  intro W base args ds gs before hval0 hW hcnd _
  have hval : ∀ (j : Nat) t v, Try.f8.params[j]? = some t → args[j]? = some v → Value.okWide Try.prog W .any base t v := hval0
  have hW' := hW
  obtain ⟨p, q, hA0, hV, rfl, hfz, hnd⟩ := hW
  have hA : DataW.TrodAll enc Try.prog W 0 (fun _ => true) true Try.f8.params.toList args.toList ds p := hA0
  rw [Try.params8] at hA hval
  obtain ⟨v0, vs0, d0, ds0, p0, q0, hargs, rfl, rfl, h0, r0⟩ := trodAll_cons hA
  obtain ⟨v1, vs1, d1, ds1, p1, q1, rfl, rfl, rfl, h1, r1⟩ := trodAll_cons r0
  obtain ⟨v2, vs2, d2, ds2, p2, q2, rfl, rfl, rfl, h2, r2⟩ := trodAll_cons r1
  obtain ⟨rfl, rfl, rfl⟩ := trodAll_nil r2
  obtain rfl : args = #[v0, v1, v2] := by cases args; simp_all
  obtain ⟨rfl, rfl⟩ := trodVars_none hV
  have k0 := h0
  have lt0 : ∀ x ∈ p0, x.block < W.heap.size := by obtain ⟨m, hm⟩ := k0; exact DataW.trod_lt m _ _ _ hm
  obtain ⟨l0, c0, w0⟩ := items_of_trod (v := v0) Try.underlying42 Try.underlying91 (by kernel_rfl) (by kernel_rfl) Try.underlying9 Try.underlying23 Try.underlying2 (by kernel_rfl) (hval 0 42 v0 rfl rfl) h0
  have k1 := h1
  have lt1 : ∀ x ∈ p1, x.block < W.heap.size := by obtain ⟨m, hm⟩ := k1; exact DataW.trod_lt m _ _ _ hm
  obtain ⟨a1, rfl, w1⟩ := string_of_trod Try.underlying9 (hval 1 9 v1 rfl rfl) h1
  have k2 := h2
  have lt2 : ∀ x ∈ p2, x.block < W.heap.size := by obtain ⟨m, hm⟩ := k2; exact DataW.trod_lt m _ _ _ hm
  obtain ⟨l2, c2, w2⟩ := ints_of_trod (v := v2) Try.underlying23 Try.underlying2 (by kernel_rfl) (hval 2 23 v2 rfl rfl) h2
  clear hA0 hval0
  refine (fnExactAddItem_walk v0 l0 a1 v2 l2 W c0 w1 c2).mono fun e W' ⟨he, bel⟩ => ?_
  subst he
  exact ⟨_, rfl, _, _, _, [], _, [], hW', trodAll_mk1 (shut_bool Try.underlying4 _), (trodAll_cons_mk (Below.trod laidOut (by kernel_rfl) (of_decide_eq_true (by kernel_rfl)) k0 bel lt0) (trodAll_cons_mk (Below.trod laidOut (by kernel_rfl) (of_decide_eq_true (by kernel_rfl)) k1 bel lt1) (trodAll_cons_mk (Below.trod laidOut (by kernel_rfl) (of_decide_eq_true (by kernel_rfl)) k2 bel lt2) trodAll_mk0))), rfl, bel.frame _, fun h => by cases h⟩
theorem fnExactAddItem_over : Rows.fnExactAddItemRow.holds Try.pinned (OpenSpec.ofChange Rows.fnExactAddItemSpec) :=
  OpenClaim.holds_of_wide 8 Try.f8 rfl rfl rfl rfl rfl rfl rfl ⟨rfl, rfl, rfl, rfl, rfl⟩ rfl rfl rfl rfl rfl (by kernel_rfl) Try.func8 (by kernel_rfl)
    (of_decide_eq_true (by kernel_rfl)) (by unfold Func.isWrapper; first | (rw [if_pos (by decide +kernel)]; kernel_rfl) | (rw [if_neg (by decide +kernel)]; exact ⟨rfl, rfl⟩))
    (fun os started H enc _ => fnExactAddItem_lifted os started H enc)
theorem fnExactAddItem_holds : Rows.FnExactAddItemSaid := fnExactAddItem_over
#print axioms fnExactAddItem_holds
end Go.Proofs.Ythnkhpebaeloeaa
