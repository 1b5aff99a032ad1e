/- LawItemsText: the law FnExactItemsText. -/
import Derived.Test.YtmfoclokpmbpfaaItemsTx
import Derived.Test.YtmfoclokpmbpfaaItems2
import Derived.Test.YtmfoclokpmbpfaaOpenItems
namespace Go.Proofs.Ytmfoclokpmbpfaa
open Go.ChangeShapes Go.WideShapes Go.ChangeAt Go.RowKit

set_option maxHeartbeats 1000000 in
set_option linter.unusedVariables false in
theorem fnExactItemsText_walk (v0 : Value) (l0 : List Item) (w : World) (c0 : ItemsAt w v0 l0) :
    Calls Try.prog 3 #[v0] w (Gives (.bool true) w) := by
  have A0 := Lib.hid c0; clear c0
  have qs0 := szItemsT_le l0 1048576 (by omega)
  have QS0 := Lib.hid qs0.2.2; have qt0 := qs0.2.1; clear qs0
  go_enter Try.func3, Try.ntmps3
  go_wp2_with fail
  refine (szItemS_c v0 l0 1048576 w A0.out (by omega) (by omega)).mono ?_
  rintro e W1 ⟨rfl, b1⟩
  have hb1 := b1
  generalize szItemsT l0 1048576 = r0 at *
  by_cases hs0 : r0 < 0
  · go_wp2
    go_ret
    exact Gives.bool rfl hb1
  have S0 := Lib.hid (QS0.out (by omega))
  have hl0 := (QS0.out (by omega)).1
  go_wp2_with fail
  refine (toItemS_c v0 l0 W1 (A0.out.below b1) (by omega) (fun x hx => by have := (S0.out.2 x hx).2; omega)).mono ?_
  rintro e W2 ⟨ax0, nx0, cx0, rfl, ox0, b2⟩
  generalize Value.slice ax0 nx0 cx0 = vx0 at *
  have Ox0 := Lib.hid ox0.at; clear ox0
  have hb2 := bthen hb1 b2
  go_wp2_with fail
  refine (sItemsText_c vx0 l0 W2 Ox0.out).mono ?_
  rintro e W3 ⟨rfl, b3⟩
  have hb3 := bthen hb2 b3
  go_wp2_with fail
  refine (toItemS_c v0 l0 W3 (((A0.out.below b1).below b2).below b3) (by omega) (fun x hx => by have := (S0.out.2 x hx).2; omega)).mono ?_
  rintro e W4 ⟨ax1, nx1, cx1, rfl, ox1, b4⟩
  generalize Value.slice ax1 nx1 cx1 = vx1 at *
  have Ox1 := Lib.hid ox1.at; clear ox1
  have hb4 := bthen hb3 b4
  go_wp2_with fail
  refine (iItemsText_c vx1 l0 W4 Ox1.out).mono ?_
  rintro e W5 ⟨rfl, b5⟩
  have hb5 := bthen hb4 b5
  go_wp2_with fail
  refine (toItemS_c v0 l0 W5 (((((A0.out.below b1).below b2).below b3).below b4).below b5) (by omega) (fun x hx => by have := (S0.out.2 x hx).2; omega)).mono ?_
  rintro e W6 ⟨ax2, nx2, cx2, rfl, ox2, b6⟩
  generalize Value.slice ax2 nx2 cx2 = vx2 at *
  have Ox2 := Lib.hid ox2.at; clear ox2
  have hb6 := bthen hb5 b6
  go_wp2_with fail
  refine (eqItemS_c vx1 vx2 l0 l0 W6 ((Ox1.out.below b5).below b6) Ox2.out).mono ?_
  rw [(same2_iff eqItemB eqItemB_iff l0 l0).2 rfl]
  rintro e W7 ⟨rfl, b7⟩
  have hb7 := bthen hb6 b7
  go_wp2
  go_ret
  exact Gives.bool rfl hb7
set_option maxRecDepth 100000 in
set_option linter.unusedVariables false in
theorem fnExactItemsText_lifted (os : Os) (started : os.Started) (H : Type) (enc : TypeId × Value → H) :
    ReturnsInHanded {} Try.checked os 3 .any (Rows.fnExactItemsTextSpec.pre6 enc Try.prog Try.f3 Rows.fnExactItemsTextRow.domain false) (Rows.fnExactItemsTextSpec.post enc Try.prog Try.f3 false true false false) := by
  refine returnsInHanded_of_change (C := Try.checked) own started (by kernel_rfl) Try.func3
    (ChangeSpec.witness6 (enc := enc) (C := Try.checked) false ⟨#[], #[.slice none 0 0], []⟩ 8 (by kernel_rfl) (by kernel_rfl) (by kernel_rfl) (by kernel_rfl)) ?_
  intro W base args ds gs before hval0 hW hcnd _
  have hval : ∀ (j : Nat) t v, Try.f3.params[j]? = some t → args[j]? = some v → Value.okWide Try.prog W .any base t v := hval0
  have hW' := hW
  obtain ⟨p, q, hA0, hV, rfl, hfz, hnd⟩ := hW
  have hA : DataW.TrodAll enc Try.prog W 0 (fun _ => true) true Try.f3.params.toList args.toList ds p := hA0
  rw [Try.params3] at hA hval
  obtain ⟨v0, vs0, d0, ds0, p0, q0, hargs, rfl, rfl, h0, r0⟩ := trodAll_cons hA
  obtain ⟨rfl, rfl, rfl⟩ := trodAll_nil r0
  obtain rfl : args = #[v0] := by cases args; simp_all
  obtain ⟨rfl, rfl⟩ := trodVars_none hV
  have k0 := h0
  have lt0 : ∀ x ∈ p0, x.block < W.heap.size := by obtain ⟨m, hm⟩ := k0; exact DataW.trod_lt m _ _ _ hm
  obtain ⟨l0, c0, w0⟩ := items_of_trod (v := v0) Try.underlying22 Try.underlying38 (by kernel_rfl) (by kernel_rfl) Try.underlying9 Try.underlying36 Try.underlying2 (by kernel_rfl) (hval 0 22 v0 rfl rfl) h0
  clear hA0 hval0
  refine (fnExactItemsText_walk v0 l0 W c0).mono fun e W' ⟨he, bel⟩ => ?_
  subst he
  exact ⟨_, rfl, _, _, _, [], _, [], hW', trodAll_mk1 (shut_bool Try.underlying4 _), (trodAll_cons_mk (Below.trod laidOut (by kernel_rfl) (of_decide_eq_true (by kernel_rfl)) k0 bel lt0) trodAll_mk0), rfl, bel.frame _, fun h => by cases h⟩
theorem fnExactItemsText_over : Rows.fnExactItemsTextRow.holds Try.pinned (OpenSpec.ofChange Rows.fnExactItemsTextSpec) :=
  OpenClaim.holds_of_wide 3 Try.f3 rfl rfl rfl rfl rfl rfl rfl ⟨rfl, rfl, rfl, rfl, rfl⟩ rfl rfl rfl rfl rfl (by kernel_rfl) Try.func3 (by kernel_rfl)
    (of_decide_eq_true (by kernel_rfl)) (by unfold Func.isWrapper; first | (rw [if_pos (by decide +kernel)]; kernel_rfl) | (rw [if_neg (by decide +kernel)]; exact ⟨rfl, rfl⟩))
    (fun os started H enc _ => fnExactItemsText_lifted os started H enc)
theorem fnExactItemsText_holds : Rows.FnExactItemsTextSaid := fnExactItemsText_over
#print axioms fnExactItemsText_holds
end Go.Proofs.Ytmfoclokpmbpfaa
