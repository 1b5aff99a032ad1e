/- LawAttsText: the law FnExactAttemptsText. -/
import Derived.Test.YtnhdoppabfmonaaDoorAttTx
import Derived.Test.YtnhdoppabfmonaaDoorTab
import Derived.Test.YtnhdoppabfmonaaDoorAtts2
import Derived.Test.YtnhdoppabfmonaaDoorOpenAtts
namespace Go.Proofs.YtnhdoppabfmonaaDoor
open Go.ChangeShapes Go.WideShapes Go.ChangeAt Go.RowKit

set_option maxHeartbeats 1000000 in
set_option linter.unusedVariables false in
theorem fnExactAttemptsText_walk (v0 : Value) (l0 : List Att) (w : World) (c0 : AttsAt w v0 l0) (ht : TabW w) :
    Calls Tryd.prog 5 #[v0] w (Gives (.bool true) w) := by
  have A0 := Lib.hid c0; clear c0
  have HTab := Lib.hid ht; clear ht
  have qs0 := szAttsT_le l0 1048576 (by omega)
  have QS0 := Lib.hid qs0.2.2; have qt0 := qs0.2.1; clear qs0
  go_enter Tryd.func5, Tryd.ntmps5
  go_wp2_with fail
  refine (szAttemptS_c v0 l0 1048576 w A0.out (by omega) (by omega)).mono ?_
  rintro e W1 ⟨rfl, b1⟩
  have hb1 := b1
  generalize szAttsT l0 1048576 = r0 at *
  by_cases hs0 : r0 < 0
  · go_wp2
    go_ret
    exact Gives.bool rfl hb1
  have S0 := Lib.hid (QS0.out (by omega))
  have hl0 := (QS0.out (by omega)).1
  go_wp2_with fail
  refine (toAttemptS_c v0 l0 W1 (A0.out.below b1) (by omega) (fun x hx => by have := S0.out.2 x hx; omega)).mono ?_
  rintro e W2 ⟨ax0, nx0, cx0, rfl, ox0, b2⟩
  generalize Value.slice ax0 nx0 cx0 = vx0 at *
  have Ox0 := Lib.hid ox0.at; clear ox0
  have hb2 := bthen hb1 b2
  go_wp2_with fail
  refine (sAttemptsText_c vx0 l0 W2 Ox0.out).mono ?_
  rintro e W3 ⟨rfl, b3⟩
  have hb3 := bthen hb2 b3
  go_wp2_with fail
  refine (toAttemptS_c v0 l0 W3 (((A0.out.below b1).below b2).below b3) (by omega) (fun x hx => by have := S0.out.2 x hx; omega)).mono ?_
  rintro e W4 ⟨ax1, nx1, cx1, rfl, ox1, b4⟩
  generalize Value.slice ax1 nx1 cx1 = vx1 at *
  have Ox1 := Lib.hid ox1.at; clear ox1
  have hb4 := bthen hb3 b4
  go_wp2_with fail
  refine (iAttemptsText_c vx1 l0 W4 Ox1.out (HTab.out.below (by first | assumption | exact Below.refl _ _))).mono ?_
  rintro e W5 ⟨rfl, b5⟩
  have hb5 := bthen hb4 b5
  go_wp2_with fail
  refine (toAttemptS_c v0 l0 W5 (((((A0.out.below b1).below b2).below b3).below b4).below b5) (by omega) (fun x hx => by have := S0.out.2 x hx; omega)).mono ?_
  rintro e W6 ⟨ax2, nx2, cx2, rfl, ox2, b6⟩
  generalize Value.slice ax2 nx2 cx2 = vx2 at *
  have Ox2 := Lib.hid ox2.at; clear ox2
  have hb6 := bthen hb5 b6
  go_wp2_with fail
  refine (eqAttemptS_c vx1 vx2 l0 l0 W6 ((Ox1.out.below b5).below b6) Ox2.out).mono ?_
  rw [(same2_iff eqAttB eqAttB_iff l0 l0).2 rfl]
  rintro e W7 ⟨rfl, b7⟩
  have hb7 := bthen hb6 b7
  go_wp2
  go_ret
  exact Gives.bool rfl hb7
set_option maxRecDepth 100000 in
set_option linter.unusedVariables false in
theorem fnExactAttemptsText_lifted (os : Os) (started : os.Started) (H : Type) (enc : TypeId × Value → H) :
    ReturnsInHanded {} Tryd.checked os 5 .any (fun w args => (Rows.fnExactAttemptsTextSpec.pre enc Tryd.prog Tryd.f5 Rows.fnExactAttemptsTextRow.domain false w args ∧ laidMetH Tryd.prog dLaid w) ∧ sizedMet enc Tryd.prog Tryd.f5 (OpenSpec.ofChange Rows.fnExactAttemptsTextSpec) false w args) (Rows.fnExactAttemptsTextSpec.post enc Tryd.prog Tryd.f5 false true false false) := by
  refine returnsInHanded_of_change_and (C := Tryd.checked) (X := fun w _ => laidMetH Tryd.prog dLaid w) (fun _ _ _ hh h => h.of_heap hh) own started (by kernel_rfl) Tryd.func5
    (ChangeSpec.witness_shaped (enc := enc) (C := Tryd.checked) (os := os) (X := fun w _ => laidMetH Tryd.prog dLaid w) false (World.doorLaid Tryd.prog doorSteps os) #[.slice none 0 0] 8 rfl (World.shaped_of_RefB (by kernel_rfl) (by kernel_rfl)) (by kernel_rfl) (by kernel_rfl) (by kernel_rfl) (door_met os _)) ?_
  intro W base args ds gs before hval0 hW _ _ hL _
  have hval : ∀ (j : Nat) t v, Tryd.f5.params[j]? = some t → args[j]? = some v → Value.okWide Tryd.prog W .any base t v := hval0
  have hW' := hW
  obtain ⟨p, q, hA0, hV, rfl, hfz, hnd⟩ := hW
  have hA : DataW.TrodAll enc Tryd.prog W 0 (fun _ => true) true Tryd.f5.params.toList args.toList ds p := hA0
  rw [Tryd.params5] at hA hval
  obtain ⟨v0, vs0, d0, ds0, p0, q0, hargs, rfl, rfl, h0, r0⟩ := trodAll_cons hA
  obtain ⟨rfl, rfl, rfl⟩ := trodAll_nil r0
  obtain rfl : args = #[v0] := by cases args; simp_all
  obtain ⟨rfl, rfl⟩ := trodVars_none hV
  have k0 := h0
  have lt0 : ∀ x ∈ p0, x.block < W.heap.size := by obtain ⟨m, hm⟩ := k0; exact DataW.trod_lt m _ _ _ hm
  obtain ⟨l0, c0, w0⟩ := attempts_of_trod (v := v0) Tryd.underlying33 Tryd.underlying73 (by kernel_rfl) (by kernel_rfl) Tryd.underlying43 Tryd.underlying2 (by kernel_rfl) Tryd.underlying2 Tryd.underlying4 (hval 0 33 v0 rfl rfl) h0
  have hTab := tab_of_laid hL
  clear hA0 hval0
  refine (fnExactAttemptsText_walk v0 l0 W c0 hTab).mono fun e W' ⟨he, bel⟩ => ?_
  subst he
  exact ⟨_, rfl, _, _, _, [], _, [], hW', trodAll_mk1 (shut_bool Tryd.underlying4 _), (trodAll_cons_mk (Below.trod laidOut (by kernel_rfl) (of_decide_eq_true (by kernel_rfl)) k0 bel lt0) trodAll_mk0), rfl, bel.frame _, fun h => by cases h⟩
theorem fnExactAttemptsText_over : Rows.fnExactAttemptsTextRow.holds Tryd.pinned (OpenSpec.ofChange Rows.fnExactAttemptsTextSpec) :=
  OpenClaim.holds_of_wide 5 Tryd.f5 rfl rfl rfl rfl rfl rfl rfl ⟨rfl, rfl, rfl, rfl, rfl⟩ rfl rfl rfl rfl rfl (by kernel_rfl) Tryd.func5 (by kernel_rfl)
    (of_decide_eq_true (by kernel_rfl)) (by unfold Func.isWrapper; first | (rw [if_pos (by decide +kernel)]; kernel_rfl) | (rw [if_neg (by decide +kernel)]; exact ⟨rfl, rfl⟩))
    (fun os started H enc _ => fnExactAttemptsText_lifted os started H enc)
theorem fnExactAttemptsText_holds : Rows.FnExactAttemptsTextCardSaid :=
  Claim7.holds_tied_plain_at .later [] [.data, .data, .data] true Rows.fnExactAttemptsTextCard.stood.harness false
    fnExactAttemptsText_over (fun _ h => by cases h) (by kernel_rfl) (fun _ h => by cases h) fnExactAttemptsText_row_tie rfl ⟨rfl, rfl⟩ (by kernel_rfl) rfl
    (fun f fn hf hfn => by
      obtain rfl : f = 5 := Option.some.inj ((show Tryd.prog.funcNamed "loop.example/g00927/laws.FnExactAttemptsText" = some 5 by kernel_rfl).symm.trans hf) |>.symm
      obtain rfl : fn = Tryd.f5 := (Option.some.inj (Tryd.func5.symm.trans hfn)).symm
      exact ⟨by kernel_rfl, fun j t ht => by
        rw [Tryd.params5] at ht
        have hm : t ∈ [33] := by simpa using Array.mem_of_getElem? ht
        have hall : ([33].all fun u => !Tryd.prog.wantsStandIn u) = true := by kernel_rfl
        exact (show Tryd.prog.wantsStandIn t = false by simpa using List.all_eq_true.1 hall t hm)⟩)
    (by kernel_rfl)
#print axioms fnExactAttemptsText_holds
end Go.Proofs.YtnhdoppabfmonaaDoor
