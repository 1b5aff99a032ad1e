/- LawReadAtts: the law FnExactReadAttempts. -/
import Derived.Test.YtnhdoppabfmonaaDoorReadAt
import Derived.Test.YtnhdoppabfmonaaDoorTab
import Derived.Test.YtnhdoppabfmonaaDoorMarkA
import Derived.Test.YtnhdoppabfmonaaDoorMarkAH
import Derived.Test.YtnhdoppabfmonaaDoorAtts2
import Derived.Test.YtnhdoppabfmonaaDoorOpenAtts
namespace Go.Proofs.YtnhdoppabfmonaaDoor
open Go.ChangeShapes Go.WideShapes Go.ChangeAt Go.RowKit

set_option maxHeartbeats 2000000 in
set_option linter.unusedVariables false in
theorem fnExactReadAttempts_walk (a0 : ByteArray) (w : World) (w0 : a0.size ≤ 9223372036854775807) (ht : TabW w) :
    Calls Tryd.prog 6 #[.string a0] w (Gives (.bool true) w) := by
  have HTab := Lib.hid ht; clear ht
  by_cases hg0 : 1048576 < a0.size
  · go_enter Tryd.func6, Tryd.ntmps6
    go_wp2
    go_ret
    exact Gives.bool rfl (by go_grown)
  go_enter Tryd.func6, Tryd.ntmps6
  go_wp2_with fail
  refine (sReadAttempts_c a0 w (by omega)).mono ?_
  rintro e W1 ⟨aw, nw, cw, rfl, ow, b1⟩
  have hb1 := b1
  have sz1 := b1.size
  clear b1
  generalize Value.slice aw nw cw = vw at *
  have SW := Lib.hid ow.at; clear ow
  have hs1 : Below W1.heap.size W1 W1 := Below.refl _ _
  go_wp2_with fail
  refine (iReadAttempts_c a0 W1 (by omega) (HTab.out.below (by first | assumption | exact Below.refl _ _))).mono ?_
  rintro e W2 ⟨ag1, ng1, cg1, rfl, og1, b2⟩
  have hb2 := bthen hb1 b2
  have sz2 := b2.size
  have hs2 := bthen hs1 b2
  clear b2
  generalize Value.slice ag1 ng1 cg1 = vg1 at *
  have Mg1 : Hid (InAtts W2 W1.heap.size W2.heap.size vg1 ((raL (chars a0)))) := Lib.hid (InAtts.of og1); clear og1
  go_wp2_with fail
  refine (eqAttemptS_c vg1 vw (raL (chars a0)) (raL (chars a0)) W2 Mg1.out.at (SW.out.below hs2)).mono ?_
  rw [(same2_iff eqAttB eqAttB_iff ((raL (chars a0))) ((raL (chars a0)))).2 rfl]
  rintro e W3 ⟨rfl, b3⟩
  have hb3 := bthen hb2 b3
  have sz3 := b3.size
  have hs3 := bthen hs2 b3
  replace Mg1 := Lib.hid (Mg1.out.below b3)
  clear b3
  go_wp2_with fail
  refine (markAttemptS_c vg1 _ 1 _ _ _ Mg1.out (by exact raL_len (chars a0)) (by exact raL_pat (chars a0)) (by omega) (by omega) (by omega)).mono ?_
  rintro e W4 ⟨mq, rfl, hemq, hxmq, i4, t4⟩
  have hymq : 1 ≤ mq := by rw [hemq]; omega
  have HEmq := Lib.hid hemq; clear hemq
  have sz4 := t4.size
  have hb4 := mark_then hb3 t4 (by exact hb1.size) hb3.size
  have hs4 := mark_then hs3 t4 (by omega) hs3.size
  have Mg1' := Lib.hid i4; clear Mg1 i4 t4
  have Mg1 := Mg1'; clear Mg1'
  have HH := Lib.hid (fun (W : World) h => heldAttemptS_c vg1 ((raL (chars a0))) W h (by exact raL_len (chars a0)) (by exact raL_pat (chars a0)) mq HEmq.out)
  go_wp2_with fail
  refine (HH.out W4 Mg1.out.at).mono ?_
  rintro e W5 ⟨rfl, b5⟩
  have hb5 := bthen hb4 b5
  have sz5 := b5.size
  have hs5 := bthen hs4 b5
  replace Mg1 := Lib.hid (Mg1.out.below b5)
  clear b5
  go_wp2_with fail
  refine (iReadAttempts_c a0 W5 (by omega) (HTab.out.below (by first | assumption | exact Below.refl _ _))).mono ?_
  rintro e W6 ⟨ag2, ng2, cg2, rfl, og2, b6⟩
  have hb6 := bthen hb5 b6
  have sz6 := b6.size
  have hs6 := bthen hs5 b6
  replace Mg1 := Lib.hid (Mg1.out.below b6)
  clear b6
  generalize Value.slice ag2 ng2 cg2 = vg2 at *
  have Mg2 : Hid (InAtts W6 W5.heap.size W6.heap.size vg2 ((raL (chars a0)))) := Lib.hid (InAtts.of og2); clear og2
  go_wp2_with fail
  refine (eqAttemptS_c vg2 vw (raL (chars a0)) (raL (chars a0)) W6 Mg2.out.at (SW.out.below hs6)).mono ?_
  rw [(same2_iff eqAttB eqAttB_iff ((raL (chars a0))) ((raL (chars a0)))).2 rfl]
  rintro e W7 ⟨rfl, b7⟩
  have hb7 := bthen hb6 b7
  have sz7 := b7.size
  have hs7 := bthen hs6 b7
  replace Mg1 := Lib.hid (Mg1.out.below b7)
  replace Mg2 := Lib.hid (Mg2.out.below b7)
  clear b7
  go_wp2_with fail
  refine (HH.out W7 Mg1.out.at).mono ?_
  rintro e W8 ⟨rfl, b8⟩
  have hb8 := bthen hb7 b8
  have sz8 := b8.size
  have hs8 := bthen hs7 b8
  replace Mg1 := Lib.hid (Mg1.out.below b8)
  replace Mg2 := Lib.hid (Mg2.out.below b8)
  clear b8
  go_wp2
  go_ret
  exact Gives.bool rfl hb8
set_option maxRecDepth 100000 in
set_option linter.unusedVariables false in
theorem fnExactReadAttempts_lifted (os : Os) (started : os.Started) (H : Type) (enc : TypeId × Value → H) :
    ReturnsInHanded {} Tryd.checked os 6 .any (fun w args => (Rows.fnExactReadAttemptsSpec.pre enc Tryd.prog Tryd.f6 Rows.fnExactReadAttemptsRow.domain false w args ∧ laidMetH Tryd.prog dLaid w) ∧ sizedMet enc Tryd.prog Tryd.f6 (OpenSpec.ofChange Rows.fnExactReadAttemptsSpec) false w args) (Rows.fnExactReadAttemptsSpec.post enc Tryd.prog Tryd.f6 false true false false) := by
  refine returnsInHanded_of_change_and (C := Tryd.checked) (X := fun w _ => laidMetH Tryd.prog dLaid w) (fun _ _ _ hh h => h.of_heap hh) own started (by kernel_rfl) Tryd.func6
    (ChangeSpec.witness_shaped (enc := enc) (C := Tryd.checked) (os := os) (X := fun w _ => laidMetH Tryd.prog dLaid w) false (World.doorLaid Tryd.prog doorSteps os) #[.string ByteArray.empty] 8 rfl (World.shaped_of_RefB (by kernel_rfl) (by kernel_rfl)) (by kernel_rfl) (by kernel_rfl) (by kernel_rfl) (door_met os _)) ?_
  intro W base args ds gs before hval0 hW _ _ hL _
  have hval : ∀ (j : Nat) t v, Tryd.f6.params[j]? = some t → args[j]? = some v → Value.okWide Tryd.prog W .any base t v := hval0
  have hW' := hW
  obtain ⟨p, q, hA0, hV, rfl, hfz, hnd⟩ := hW
  have hA : DataW.TrodAll enc Tryd.prog W 0 (fun _ => true) true Tryd.f6.params.toList args.toList ds p := hA0
  rw [Tryd.params6] at hA hval
  obtain ⟨v0, vs0, d0, ds0, p0, q0, hargs, rfl, rfl, h0, r0⟩ := trodAll_cons hA
  obtain ⟨rfl, rfl, rfl⟩ := trodAll_nil r0
  obtain rfl : args = #[v0] := by cases args; simp_all
  obtain ⟨rfl, rfl⟩ := trodVars_none hV
  have k0 := h0
  have lt0 : ∀ x ∈ p0, x.block < W.heap.size := by obtain ⟨m, hm⟩ := k0; exact DataW.trod_lt m _ _ _ hm
  obtain ⟨a0, rfl, w0⟩ := string_of_trod Tryd.underlying9 (hval 0 9 v0 rfl rfl) h0
  have hTab := tab_of_laid hL
  clear hA0 hval0
  refine (fnExactReadAttempts_walk a0 W w0 hTab).mono fun e W' ⟨he, bel⟩ => ?_
  subst he
  exact ⟨_, rfl, _, _, _, [], _, [], hW', trodAll_mk1 (shut_bool Tryd.underlying4 _), (trodAll_cons_mk (Below.trod laidOut (by kernel_rfl) (of_decide_eq_true (by kernel_rfl)) k0 bel lt0) trodAll_mk0), rfl, bel.frame _, fun h => by cases h⟩
theorem fnExactReadAttempts_over : Rows.fnExactReadAttemptsRow.holds Tryd.pinned (OpenSpec.ofChange Rows.fnExactReadAttemptsSpec) :=
  OpenClaim.holds_of_wide 6 Tryd.f6 rfl rfl rfl rfl rfl rfl rfl ⟨rfl, rfl, rfl, rfl, rfl⟩ rfl rfl rfl rfl rfl (by kernel_rfl) Tryd.func6 (by kernel_rfl)
    (of_decide_eq_true (by kernel_rfl)) (by unfold Func.isWrapper; first | (rw [if_pos (by decide +kernel)]; kernel_rfl) | (rw [if_neg (by decide +kernel)]; exact ⟨rfl, rfl⟩))
    (fun os started H enc _ => fnExactReadAttempts_lifted os started H enc)
theorem fnExactReadAttempts_holds : Rows.FnExactReadAttemptsCardSaid :=
  Claim7.holds_tied_plain_at .later [] [.data, .data, .data] true Rows.fnExactReadAttemptsCard.stood.harness false
    fnExactReadAttempts_over (fun _ h => by cases h) (by kernel_rfl) (fun _ h => by cases h) fnExactReadAttempts_row_tie rfl ⟨rfl, rfl⟩ (by kernel_rfl) rfl
    (fun f fn hf hfn => by
      obtain rfl : f = 6 := Option.some.inj ((show Tryd.prog.funcNamed "loop.example/g00927/laws.FnExactReadAttempts" = some 6 by kernel_rfl).symm.trans hf) |>.symm
      obtain rfl : fn = Tryd.f6 := (Option.some.inj (Tryd.func6.symm.trans hfn)).symm
      exact ⟨by kernel_rfl, fun j t ht => by
        rw [Tryd.params6] at ht
        have hm : t ∈ [9] := by simpa using Array.mem_of_getElem? ht
        have hall : ([9].all fun u => !Tryd.prog.wantsStandIn u) = true := by kernel_rfl
        exact (show Tryd.prog.wantsStandIn t = false by simpa using List.all_eq_true.1 hall t hm)⟩)
    (by kernel_rfl)
#print axioms fnExactReadAttempts_holds
end Go.Proofs.YtnhdoppabfmonaaDoor
