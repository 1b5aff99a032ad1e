import Derived.Test.YthdejhningghcaaMg51
import Derived.Test.YthdejhningghcaaMg52
import Derived.Test.YthdejhningghcaaMg31
/- LawPo: the walk of the law FnExactPrimesOf, and its row. -/
namespace Go.Proofs.Ythdejhningghcaa
open Go.ChangeShapes Go.WideShapes Go.ChangeAt Go.RowKit

set_option maxHeartbeats 2000000 in
set_option linter.unusedVariables false in
theorem fnExactPrimesOf_walk (a0 : Int) (a1 : Int) (a2 : Int) (w : World) (w0 : -9223372036854775808 ≤ a0 ∧ a0 ≤ 9223372036854775807) (w1 : -9223372036854775808 ≤ a1 ∧ a1 ≤ 9223372036854775807) (w2 : -9223372036854775808 ≤ a2 ∧ a2 ≤ 9223372036854775807) :
    Calls Try.prog 3 #[.int .i64 a0, .int .i64 a1, .int .i64 a2] w (Gives (.bool true) w) := by
  have B0 := Lib.hid w0; clear w0
  have B1 := Lib.hid w1; clear w1
  have B2 := Lib.hid w2; clear w2
  go_enter Try.func3, Try.ntmps3
  go_wp2_with fail
  refine (sPrimesOf_c a0 a1 a2 w).mono ?_
  rintro e W1 ⟨aw, nw, cw, rfl, ow, b1⟩
  have hb1 := b1
  have sz1 := b1.size
  clear b1
  generalize Value.slice aw nw cw = vw at *
  have SW := Lib.hid ow.at; clear ow
  have hs1 : Below W1.heap.size W1 W1 := Below.refl _ _
  go_wp2_with fail
  refine (iPrimesOf_c a0 a1 a2 W1).mono ?_
  rintro e W2 ⟨ag1, ng1, cg1, rfl, og1, b2⟩
  have hb2 := bthen hb1 b2
  have sz2 := b2.size
  have hs2 := bthen hs1 b2
  clear b2
  generalize Value.slice ag1 ng1 cg1 = vg1 at *
  have Mg1 : Hid (InIntss W2 W1.heap.size W2.heap.size vg1 ((prL a0 a1 a2))) := Lib.hid (InIntss.of og1); clear og1
  go_wp2_with fail
  refine (eqInt64SS_c vg1 vw (prL a0 a1 a2) (prL a0 a1 a2) W2 Mg1.out.at (SW.out.below hs2)).mono ?_
  rw [(same2_iff (same2 eqI) eqIs_iff ((prL a0 a1 a2)) ((prL a0 a1 a2))).2 rfl]
  rintro e W3 ⟨rfl, b3⟩
  have hb3 := bthen hb2 b3
  have sz3 := b3.size
  have hs3 := bthen hs2 b3
  replace Mg1 := Lib.hid (Mg1.out.below b3)
  clear b3
  go_wp2_with fail
  refine (markInt64SS_c vg1 _ 1 _ _ _ Mg1.out (by exact prL_len a0 a1 a2) (prL_in a0 a1 a2) (by omega) (by omega) (by omega)).mono ?_
  rintro e W4 ⟨mq, rfl, hemq, hxmq, i4, t4⟩
  have hymq : 1 ≤ mq := by rw [hemq]; omega
  have HEmq := Lib.hid hemq; clear hemq
  have sz4 := t4.size
  have hb4 := mark_then hb3 t4 (by exact hb1.size) hb3.size
  have hs4 := mark_then hs3 t4 (by omega) hs3.size
  have Mg1' := Lib.hid i4; clear Mg1 i4 t4
  have Mg1 := Mg1'; clear Mg1'
  have HH := Lib.hid (fun (W : World) h => heldInt64SS_c vg1 ((prL a0 a1 a2)) W h (by exact prL_len a0 a1 a2) (prL_in a0 a1 a2) mq HEmq.out)
  go_wp2_with fail
  refine (HH.out W4 Mg1.out.at).mono ?_
  rintro e W5 ⟨rfl, b5⟩
  have hb5 := bthen hb4 b5
  have sz5 := b5.size
  have hs5 := bthen hs4 b5
  replace Mg1 := Lib.hid (Mg1.out.below b5)
  clear b5
  go_wp2_with fail
  refine (iPrimesOf_c a0 a1 a2 W5).mono ?_
  rintro e W6 ⟨ag2, ng2, cg2, rfl, og2, b6⟩
  have hb6 := bthen hb5 b6
  have sz6 := b6.size
  have hs6 := bthen hs5 b6
  replace Mg1 := Lib.hid (Mg1.out.below b6)
  clear b6
  generalize Value.slice ag2 ng2 cg2 = vg2 at *
  have Mg2 : Hid (InIntss W6 W5.heap.size W6.heap.size vg2 ((prL a0 a1 a2))) := Lib.hid (InIntss.of og2); clear og2
  go_wp2_with fail
  refine (eqInt64SS_c vg2 vw (prL a0 a1 a2) (prL a0 a1 a2) W6 Mg2.out.at (SW.out.below hs6)).mono ?_
  rw [(same2_iff (same2 eqI) eqIs_iff ((prL a0 a1 a2)) ((prL a0 a1 a2))).2 rfl]
  rintro e W7 ⟨rfl, b7⟩
  have hb7 := bthen hb6 b7
  have sz7 := b7.size
  have hs7 := bthen hs6 b7
  replace Mg1 := Lib.hid (Mg1.out.below b7)
  replace Mg2 := Lib.hid (Mg2.out.below b7)
  clear b7
  go_wp2_with fail
  refine (HH.out W7 Mg1.out.at).mono ?_
  rintro e W8 ⟨rfl, b8⟩
  have hb8 := bthen hb7 b8
  have sz8 := b8.size
  have hs8 := bthen hs7 b8
  replace Mg1 := Lib.hid (Mg1.out.below b8)
  replace Mg2 := Lib.hid (Mg2.out.below b8)
  clear b8
  go_wp2
  go_ret
  exact Gives.bool rfl hb8
set_option maxRecDepth 100000 in
set_option linter.unusedVariables false in
theorem fnExactPrimesOf_lifted (os : Os) (started : os.Started) (H : Type) (enc : TypeId × Value → H) :
    ReturnsInHanded {} Try.checked os 3 .any (Rows.fnExactPrimesOfSpec.pre6 enc Try.prog Try.f3 Rows.fnExactPrimesOfRow.domain false) (Rows.fnExactPrimesOfSpec.post enc Try.prog Try.f3 false true false false) := by
  refine returnsInHanded_of_change (C := Try.checked) own started (by kernel_rfl) Try.func3
    (ChangeSpec.witness6 (enc := enc) (C := Try.checked) false ⟨#[], #[.int .i64 0, .int .i64 0, .int .i64 0], []⟩ 8 (by kernel_rfl) (by kernel_rfl) (by kernel_rfl) (by kernel_rfl)) ?_
  intro W base args ds gs before hval0 hW hcnd _
  have hval : ∀ (j : Nat) t v, Try.f3.params[j]? = some t → args[j]? = some v → Value.okWide Try.prog W .any base t v := hval0
  have hW' := hW
  obtain ⟨p, q, hA0, hV, rfl, hfz, hnd⟩ := hW
  have hA : DataW.TrodAll enc Try.prog W 0 (fun _ => true) true Try.f3.params.toList args.toList ds p := hA0
  rw [Try.params3] at hA hval
  obtain ⟨v0, vs0, d0, ds0, p0, q0, hargs, rfl, rfl, h0, r0⟩ := trodAll_cons hA
  obtain ⟨v1, vs1, d1, ds1, p1, q1, rfl, rfl, rfl, h1, r1⟩ := trodAll_cons r0
  obtain ⟨v2, vs2, d2, ds2, p2, q2, rfl, rfl, rfl, h2, r2⟩ := trodAll_cons r1
  obtain ⟨rfl, rfl, rfl⟩ := trodAll_nil r2
  obtain rfl : args = #[v0, v1, v2] := by cases args; simp_all
  obtain ⟨rfl, rfl⟩ := trodVars_none hV
  have k0 := h0
  have lt0 : ∀ x ∈ p0, x.block < W.heap.size := by obtain ⟨m, hm⟩ := k0; exact DataW.trod_lt m _ _ _ hm
  obtain ⟨a0, rfl, w0⟩ := int_of_trod Try.underlying2 (hval 0 2 v0 rfl rfl) h0
  have k1 := h1
  have lt1 : ∀ x ∈ p1, x.block < W.heap.size := by obtain ⟨m, hm⟩ := k1; exact DataW.trod_lt m _ _ _ hm
  obtain ⟨a1, rfl, w1⟩ := int_of_trod Try.underlying2 (hval 1 2 v1 rfl rfl) h1
  have k2 := h2
  have lt2 : ∀ x ∈ p2, x.block < W.heap.size := by obtain ⟨m, hm⟩ := k2; exact DataW.trod_lt m _ _ _ hm
  obtain ⟨a2, rfl, w2⟩ := int_of_trod Try.underlying2 (hval 2 2 v2 rfl rfl) h2
  clear hA0 hval0
  refine (fnExactPrimesOf_walk a0 a1 a2 W w0 w1 w2).mono fun e W' ⟨he, bel⟩ => ?_
  subst he
  exact ⟨_, rfl, _, _, _, [], _, [], hW', trodAll_mk1 (shut_bool Try.underlying4 _), (trodAll_cons_mk (Below.trod laidOut (by kernel_rfl) (of_decide_eq_true (by kernel_rfl)) k0 bel lt0) (trodAll_cons_mk (Below.trod laidOut (by kernel_rfl) (of_decide_eq_true (by kernel_rfl)) k1 bel lt1) (trodAll_cons_mk (Below.trod laidOut (by kernel_rfl) (of_decide_eq_true (by kernel_rfl)) k2 bel lt2) trodAll_mk0))), rfl, bel.frame _, fun h => by cases h⟩
theorem fnExactPrimesOf_over : Rows.fnExactPrimesOfRow.holds Try.pinned (OpenSpec.ofChange Rows.fnExactPrimesOfSpec) :=
  OpenClaim.holds_of_wide 3 Try.f3 rfl rfl rfl rfl rfl rfl rfl ⟨rfl, rfl, rfl, rfl, rfl⟩ rfl rfl rfl rfl rfl (by kernel_rfl) Try.func3 (by kernel_rfl)
    (of_decide_eq_true (by kernel_rfl)) (by unfold Func.isWrapper; first | (rw [if_pos (by decide +kernel)]; kernel_rfl) | (rw [if_neg (by decide +kernel)]; exact ⟨rfl, rfl⟩))
    (fun os started H enc _ => fnExactPrimesOf_lifted os started H enc)
theorem fnExactPrimesOf_holds : Rows.FnExactPrimesOfSaid := fnExactPrimesOf_over
#print axioms fnExactPrimesOf_holds
end Go.Proofs.Ythdejhningghcaa
