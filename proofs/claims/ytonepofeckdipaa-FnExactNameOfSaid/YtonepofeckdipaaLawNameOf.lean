/- LawNameOf: the walk of the law FnExactNameOf, and its row. -/
import Derived.Test.YtonepofeckdipaaItemAsk
import Derived.Test.YtonepofeckdipaaItems2
import Derived.Test.YtonepofeckdipaaOpenItems
namespace Go.Proofs.Ytonepofeckdipaa
open Go.ChangeShapes Go.WideShapes Go.ChangeAt Go.RowKit

set_option maxHeartbeats 1000000 in
set_option linter.unusedVariables false in
theorem fnExactNameOf_walk (v0 : Value) (l0 : List Item) (v1 : Value) (l1 : List Int) (w : World) (c0 : ItemsAt w v0 l0) (c1 : IntsAt w v1 l1) :
    Calls Try.prog 4 #[v0, v1] w (Gives (.bool true) w) := by
  have A0 := Lib.hid c0; clear c0
  have A1 := Lib.hid c1; clear c1
  obtain ⟨pa1, pn1, pc1, rfl, hpn1, hpr1⟩ := A1.out
  have Hpn1 := Lib.hid hpn1; have Hpr1 := Lib.hid hpr1; clear hpn1 hpr1
  by_cases hg1 : 1048576 < pn1
  · go_enter Try.func4, Try.ntmps4
    go_wp2
    go_ret
    exact Gives.bool rfl (by go_grown)
  have hl1 : l1.length ≤ 1048576 := by rw [← Hpn1.out]; omega
  have qs0 := szItemsT_le l0 1048576 (by omega)
  have QS0 := Lib.hid qs0.2.2; have qt0 := qs0.2.1; clear qs0
  go_enter Try.func4, Try.ntmps4
  go_wp2_with fail
  generalize Value.slice pa1 pn1 pc1 = v1 at *
  refine (szItemS_c v0 l0 1048576 w A0.out (by omega) (by omega)).mono ?_
  rintro e W1 ⟨rfl, b1⟩
  have hb1 := b1
  generalize szItemsT l0 1048576 = r0 at *
  by_cases hs0 : r0 < 0
  · go_wp2
    go_ret
    exact Gives.bool rfl hb1
  have S0 := Lib.hid (QS0.out (by omega))
  have hl0 := (QS0.out (by omega)).1
  go_wp2_with fail
  refine (toItemS_c v0 l0 W1 (A0.out.below b1) (by omega) (fun x hx => by have := (S0.out.2 x hx).2; omega)).mono ?_
  rintro e W2 ⟨ax0, nx0, cx0, rfl, ox0, b2⟩
  generalize Value.slice ax0 nx0 cx0 = vx0 at *
  have Ox0 := Lib.hid ox0.at; clear ox0
  have hb2 := bthen hb1 b2
  go_wp2_with fail
  refine (toInt64S_c v1 l1 W2 ((A1.out.below b1).below b2) (by omega)).mono ?_
  rintro e W3 ⟨ax1, nx1, cx1, rfl, ox1, b3⟩
  generalize Value.slice ax1 nx1 cx1 = vx1 at *
  have Ox1 := Lib.hid ox1.at; clear ox1
  have hb3 := bthen hb2 b3
  go_wp2_with fail
  refine (sNameOf_c vx0 vx1 l0 l1 W3 (Ox0.out.below b3) Ox1.out).mono ?_
  rintro e W4 ⟨rfl, b4⟩
  have hb4 := bthen hb3 b4
  go_wp2_with fail
  refine (toItemS_c v0 l0 W4 ((((A0.out.below b1).below b2).below b3).below b4) (by omega) (fun x hx => by have := (S0.out.2 x hx).2; omega)).mono ?_
  rintro e W5 ⟨ax2, nx2, cx2, rfl, ox2, b5⟩
  generalize Value.slice ax2 nx2 cx2 = vx2 at *
  have Ox2 := Lib.hid ox2.at; clear ox2
  have hb5 := bthen hb4 b5
  go_wp2_with fail
  refine (toInt64S_c v1 l1 W5 (((((A1.out.below b1).below b2).below b3).below b4).below b5) (by omega)).mono ?_
  rintro e W6 ⟨ax3, nx3, cx3, rfl, ox3, b6⟩
  generalize Value.slice ax3 nx3 cx3 = vx3 at *
  have Ox3 := Lib.hid ox3.at; clear ox3
  have hb6 := bthen hb5 b6
  go_wp2_with fail
  refine (iNameOf_c vx2 vx3 l0 l1 W6 (Ox2.out.below b6) Ox3.out).mono ?_
  rintro e W7 ⟨rfl, b7⟩
  have hb7 := bthen hb6 b7
  go_wp2_with fail
  refine (toItemS_c v0 l0 W7 (((((((A0.out.below b1).below b2).below b3).below b4).below b5).below b6).below b7) (by omega) (fun x hx => by have := (S0.out.2 x hx).2; omega)).mono ?_
  rintro e W8 ⟨ax4, nx4, cx4, rfl, ox4, b8⟩
  generalize Value.slice ax4 nx4 cx4 = vx4 at *
  have Ox4 := Lib.hid ox4.at; clear ox4
  have hb8 := bthen hb7 b8
  go_wp2_with fail
  refine (eqItemS_c vx2 vx4 l0 l0 W8 (((Ox2.out.below b6).below b7).below b8) Ox4.out).mono ?_
  rw [(same2_iff eqItemB eqItemB_iff l0 l0).2 rfl]
  rintro e W9 ⟨rfl, b9⟩
  have hb9 := bthen hb8 b9
  go_wp2_with fail
  refine (toInt64S_c v1 l1 W9 (((((((((A1.out.below b1).below b2).below b3).below b4).below b5).below b6).below b7).below b8).below b9) (by omega)).mono ?_
  rintro e W10 ⟨ax5, nx5, cx5, rfl, ox5, b10⟩
  generalize Value.slice ax5 nx5 cx5 = vx5 at *
  have Ox5 := Lib.hid ox5.at; clear ox5
  have hb10 := bthen hb9 b10
  go_wp2_with fail
  refine (eqInt64S_c vx3 vx5 l1 l1 W10 ((((Ox3.out.below b7).below b8).below b9).below b10) Ox5.out).mono ?_
  rw [(same2_iff eqI eqI_iff l1 l1).2 rfl]
  rintro e W11 ⟨rfl, b11⟩
  have hb11 := bthen hb10 b11
  go_wp2
  go_ret
  exact Gives.bool rfl hb11
set_option maxRecDepth 100000 in
set_option linter.unusedVariables false in
theorem fnExactNameOf_lifted (os : Os) (started : os.Started) (H : Type) (enc : TypeId × Value → H) :
    ReturnsInHanded {} Try.checked os 4 .any (Rows.fnExactNameOfSpec.pre6 enc Try.prog Try.f4 Rows.fnExactNameOfRow.domain false) (Rows.fnExactNameOfSpec.post enc Try.prog Try.f4 false true false false) := by
  refine returnsInHanded_of_change (C := Try.checked) own started (by kernel_rfl) Try.func4
    (ChangeSpec.witness6 (enc := enc) (C := Try.checked) false ⟨#[], #[.slice none 0 0, .slice none 0 0], []⟩ 8 (by kernel_rfl) (by kernel_rfl) (by kernel_rfl) (by kernel_rfl)) ?_
  intro W base args ds gs before hval0 hW hcnd _
  have hval : ∀ (j : Nat) t v, Try.f4.params[j]? = some t → args[j]? = some v → Value.okWide Try.prog W .any base t v := hval0
  have hW' := hW
  obtain ⟨p, q, hA0, hV, rfl, hfz, hnd⟩ := hW
  have hA : DataW.TrodAll enc Try.prog W 0 (fun _ => true) true Try.f4.params.toList args.toList ds p := hA0
  rw [Try.params4] at hA hval
  obtain ⟨v0, vs0, d0, ds0, p0, q0, hargs, rfl, rfl, h0, r0⟩ := trodAll_cons hA
  obtain ⟨v1, vs1, d1, ds1, p1, q1, rfl, rfl, rfl, h1, r1⟩ := trodAll_cons r0
  obtain ⟨rfl, rfl, rfl⟩ := trodAll_nil r1
  obtain rfl : args = #[v0, v1] := by cases args; simp_all
  obtain ⟨rfl, rfl⟩ := trodVars_none hV
  have k0 := h0
  have lt0 : ∀ x ∈ p0, x.block < W.heap.size := by obtain ⟨m, hm⟩ := k0; exact DataW.trod_lt m _ _ _ hm
  obtain ⟨l0, c0, w0⟩ := items_of_trod (v := v0) Try.underlying22 Try.underlying50 (by kernel_rfl) (by kernel_rfl) Try.underlying9 Try.underlying29 Try.underlying2 (by kernel_rfl) (hval 0 22 v0 rfl rfl) h0
  have k1 := h1
  have lt1 : ∀ x ∈ p1, x.block < W.heap.size := by obtain ⟨m, hm⟩ := k1; exact DataW.trod_lt m _ _ _ hm
  obtain ⟨l1, c1, w1⟩ := ints_of_trod (v := v1) Try.underlying29 Try.underlying2 (by kernel_rfl) (hval 1 29 v1 rfl rfl) h1
  clear hA0 hval0
  refine (fnExactNameOf_walk v0 l0 v1 l1 W c0 c1).mono fun e W' ⟨he, bel⟩ => ?_
  subst he
  exact ⟨_, rfl, _, _, _, [], _, [], hW', trodAll_mk1 (shut_bool Try.underlying4 _), (trodAll_cons_mk (Below.trod laidOut (by kernel_rfl) (of_decide_eq_true (by kernel_rfl)) k0 bel lt0) (trodAll_cons_mk (Below.trod laidOut (by kernel_rfl) (of_decide_eq_true (by kernel_rfl)) k1 bel lt1) trodAll_mk0)), rfl, bel.frame _, fun h => by cases h⟩
theorem fnExactNameOf_over : Rows.fnExactNameOfRow.holds Try.pinned (OpenSpec.ofChange Rows.fnExactNameOfSpec) :=
  OpenClaim.holds_of_wide 4 Try.f4 rfl rfl rfl rfl rfl rfl rfl ⟨rfl, rfl, rfl, rfl, rfl⟩ rfl rfl rfl rfl rfl (by kernel_rfl) Try.func4 (by kernel_rfl)
    (of_decide_eq_true (by kernel_rfl)) (by unfold Func.isWrapper; first | (rw [if_pos (by decide +kernel)]; kernel_rfl) | (rw [if_neg (by decide +kernel)]; exact ⟨rfl, rfl⟩))
    (fun os started H enc _ => fnExactNameOf_lifted os started H enc)
theorem fnExactNameOf_holds : Rows.FnExactNameOfSaid := fnExactNameOf_over
#print axioms fnExactNameOf_holds
end Go.Proofs.Ytonepofeckdipaa
