import Derived.Test.YthkmgahbahaabaaMg47
import Derived.Test.YthkmgahbahaabaaMg49
import Derived.Test.YthkmgahbahaabaaMg27
import Derived.Test.YthkmgahbahaabaaMg28
import Derived.Test.YthkmgahbahaabaaMg29
import Derived.Test.YthkmgahbahaabaaMg6
import Derived.Test.YthkmgahbahaabaaMg9
/- LawPr: the walk of the law FnExactPracticedOf, and its row. -/
namespace Go.Proofs.Ythkmgahbahaabaa
open Go.ChangeShapes Go.WideShapes Go.ChangeAt Go.RowKit

theorem pracL_len (l : List Att) : (pracL l).length ≤ 1048576 := by
  unfold pracL
  split
  · rename_i h
    have := pracS_len (canAll l) l.length
    have := (okAtts_nth h).2
    omega
  · simp
theorem pracL_in (l : List Att) : ∀ x ∈ pracL l, x.length ≤ 1048576 := by
  unfold pracL
  split
  · rename_i h
    intro x hx
    have h1 := ((pracS_spec (canAll l) l.length).2.2 x).1 hx
    have h2 := List.mem_of_mem_take h1
    unfold canAll at h2
    obtain ⟨y, hy, rfl⟩ := List.mem_map.1 h2
    obtain ⟨i, hi, rfl⟩ := List.getElem_of_mem hy
    have := ((okAtts_nth h).1 i hi).1
    rw [nth_eq l i hi] at this
    have := (okPat_len (okPat_can this)).2
    omega
  · intro x hx; exact absurd hx List.not_mem_nil
set_option maxHeartbeats 2000000 in
set_option linter.unusedVariables false in
theorem fnExactPracticedOf_walk (v0 : Value) (l0 : List Att) (w : World) (c0 : AttsAt w v0 l0) :
    Calls Try.prog 3 #[v0] w (Gives (.bool true) w) := by
  have A0 := Lib.hid c0; clear c0
  have qs0 := szAttsT_le l0 1048576 (by omega)
  have QS0 := Lib.hid qs0.2.2; have qt0 := qs0.2.1; clear qs0
  go_enter Try.func3, Try.ntmps3
  go_wp2_with fail
  refine (szAttemptS_c v0 l0 1048576 w A0.out (by omega) (by omega)).mono ?_
  rintro e W1 ⟨rfl, b1⟩
  have hb1 := b1
  have sz1 := b1.size
  clear b1
  generalize szAttsT l0 1048576 = r0 at *
  by_cases hs0' : r0 < 0
  · go_wp2
    go_ret
    exact Gives.bool rfl hb1
  have S0 := Lib.hid (QS0.out (by omega))
  have hl0 := (QS0.out (by omega)).1
  go_wp2_with fail
  refine (toAttemptS_c v0 l0 W1 (A0.out.below hb1) (by omega) (fun x hx => by have := S0.out.2 x hx; omega)).mono ?_
  rintro e W2 ⟨ax1, nx1, cx1, rfl, ox1, b2⟩
  have hb2 := bthen hb1 b2
  have sz2 := b2.size
  clear b2
  generalize Value.slice ax1 nx1 cx1 = vx1 at *
  have Mx1 : Hid (InAtts W2 W1.heap.size W2.heap.size vx1 l0) := Lib.hid (InAtts.of ox1); clear ox1
  go_wp2_with fail
  refine (sPracticedOf_c vx1 l0 W2 Mx1.out.at).mono ?_
  rintro e W3 ⟨aw, nw, cw, rfl, ow, b3⟩
  have hb3 := bthen hb2 b3
  have sz3 := b3.size
  replace Mx1 := Lib.hid (Mx1.out.below b3)
  clear b3
  generalize Value.slice aw nw cw = vw at *
  have SW := Lib.hid ow.at; clear ow
  have hs3 : Below W3.heap.size W3 W3 := Below.refl _ _
  clear Mx1
  go_wp2_with fail
  refine (toAttemptS_c v0 l0 W3 (A0.out.below hb3) (by omega) (fun x hx => by have := S0.out.2 x hx; omega)).mono ?_
  rintro e W4 ⟨ax2, nx2, cx2, rfl, ox2, b4⟩
  have hb4 := bthen hb3 b4
  have sz4 := b4.size
  have hs4 := bthen hs3 b4
  clear b4
  generalize Value.slice ax2 nx2 cx2 = vx2 at *
  have Mx2 : Hid (InAtts W4 W3.heap.size W4.heap.size vx2 l0) := Lib.hid (InAtts.of ox2); clear ox2
  go_wp2_with fail
  refine (iPracticedOf_c vx2 l0 W4 Mx2.out.at).mono ?_
  rintro e W5 ⟨ag3, ng3, cg3, rfl, og3, b5⟩
  have hb5 := bthen hb4 b5
  have sz5 := b5.size
  have hs5 := bthen hs4 b5
  replace Mx2 := Lib.hid (Mx2.out.below b5)
  clear b5
  generalize Value.slice ag3 ng3 cg3 = vg3 at *
  have Mg3 : Hid (InIntss W5 W4.heap.size W5.heap.size vg3 ((pracL l0))) := Lib.hid (InIntss.of og3); clear og3
  go_wp2_with fail
  refine (eqInt64SS_c vg3 vw (pracL l0) (pracL l0) W5 Mg3.out.at (SW.out.below hs5)).mono ?_
  rw [(same2_iff (same2 eqI) eqIs_iff ((pracL l0)) ((pracL l0))).2 rfl]
  rintro e W6 ⟨rfl, b6⟩
  have hb6 := bthen hb5 b6
  have sz6 := b6.size
  have hs6 := bthen hs5 b6
  replace Mx2 := Lib.hid (Mx2.out.below b6)
  replace Mg3 := Lib.hid (Mg3.out.below b6)
  clear b6
  go_wp2_with fail
  refine (toAttemptS_c v0 l0 W6 (A0.out.below hb6) (by omega) (fun x hx => by have := S0.out.2 x hx; omega)).mono ?_
  rintro e W7 ⟨ax4, nx4, cx4, rfl, ox4, b7⟩
  have hb7 := bthen hb6 b7
  have sz7 := b7.size
  have hs7 := bthen hs6 b7
  replace Mx2 := Lib.hid (Mx2.out.below b7)
  replace Mg3 := Lib.hid (Mg3.out.below b7)
  clear b7
  generalize Value.slice ax4 nx4 cx4 = vx4 at *
  have Mx4 : Hid (InAtts W7 W6.heap.size W7.heap.size vx4 l0) := Lib.hid (InAtts.of ox4); clear ox4
  go_wp2_with fail
  refine (eqAttemptS_c vx2 vx4 l0 l0 W7 Mx2.out.at Mx4.out.at).mono ?_
  rw [(same2_iff eqAttB eqAttB_iff l0 l0).2 rfl]
  rintro e W8 ⟨rfl, b8⟩
  have hb8 := bthen hb7 b8
  have sz8 := b8.size
  have hs8 := bthen hs7 b8
  replace Mx2 := Lib.hid (Mx2.out.below b8)
  replace Mg3 := Lib.hid (Mg3.out.below b8)
  replace Mx4 := Lib.hid (Mx4.out.below b8)
  clear b8
  clear Mx4
  go_wp2_with fail
  refine (markAttemptS_c vx2 _ 1 _ _ _ Mx2.out (by omega) (fun x hx => by have := S0.out.2 x hx; omega) (by omega) (by omega) (by omega)).mono ?_
  rintro e W9 ⟨k5, rfl, hek5, hxk5, i9, t9⟩
  have hyk5 : 1 ≤ k5 := by rw [hek5]; omega
  have HEk5 := Lib.hid hek5; clear hek5
  have sz9 := t9.size
  have hb9 := mark_then hb8 t9 (by exact hb3.size) hb8.size
  have hs9 := mark_then hs8 t9 (by omega) hs8.size
  replace Mg3 := Lib.hid (Mg3.out.turned t9 (by omega))
  have Mx2' := Lib.hid i9; clear Mx2 i9 t9
  have Mx2 := Mx2'; clear Mx2'
  clear Mx2
  go_wp2_with fail
  refine (eqInt64SS_c vg3 vw (pracL l0) (pracL l0) W9 Mg3.out.at (SW.out.below hs9)).mono ?_
  rw [(same2_iff (same2 eqI) eqIs_iff ((pracL l0)) ((pracL l0))).2 rfl]
  rintro e W10 ⟨rfl, b10⟩
  have hb10 := bthen hb9 b10
  have sz10 := b10.size
  have hs10 := bthen hs9 b10
  replace Mg3 := Lib.hid (Mg3.out.below b10)
  clear b10
  go_wp2_with fail
  refine (markInt64SS_c vg3 _ 1 _ _ _ Mg3.out (by exact pracL_len l0) (pracL_in l0) (by omega) (by omega) (by omega)).mono ?_
  rintro e W11 ⟨mq, rfl, hemq, hxmq, i11, t11⟩
  have hymq : 1 ≤ mq := by rw [hemq]; omega
  have HEmq := Lib.hid hemq; clear hemq
  have sz11 := t11.size
  have hb11 := mark_then hb10 t11 (by exact hb4.size) hb10.size
  have hs11 := mark_then hs10 t11 (by omega) hs10.size
  have Mg3' := Lib.hid i11; clear Mg3 i11 t11
  have Mg3 := Mg3'; clear Mg3'
  have HH := Lib.hid (fun (W : World) h => heldInt64SS_c vg3 ((pracL l0)) W h (by exact pracL_len l0) (pracL_in l0) mq HEmq.out)
  go_wp2_with fail
  refine (HH.out W11 Mg3.out.at).mono ?_
  rintro e W12 ⟨rfl, b12⟩
  have hb12 := bthen hb11 b12
  have sz12 := b12.size
  have hs12 := bthen hs11 b12
  replace Mg3 := Lib.hid (Mg3.out.below b12)
  clear b12
  go_wp2_with fail
  refine (toAttemptS_c v0 l0 W12 (A0.out.below hb12) (by omega) (fun x hx => by have := S0.out.2 x hx; omega)).mono ?_
  rintro e W13 ⟨ax6, nx6, cx6, rfl, ox6, b13⟩
  have hb13 := bthen hb12 b13
  have sz13 := b13.size
  have hs13 := bthen hs12 b13
  replace Mg3 := Lib.hid (Mg3.out.below b13)
  clear b13
  generalize Value.slice ax6 nx6 cx6 = vx6 at *
  have Mx6 : Hid (InAtts W13 W12.heap.size W13.heap.size vx6 l0) := Lib.hid (InAtts.of ox6); clear ox6
  go_wp2_with fail
  refine (iPracticedOf_c vx6 l0 W13 Mx6.out.at).mono ?_
  rintro e W14 ⟨ag7, ng7, cg7, rfl, og7, b14⟩
  have hb14 := bthen hb13 b14
  have sz14 := b14.size
  have hs14 := bthen hs13 b14
  replace Mg3 := Lib.hid (Mg3.out.below b14)
  replace Mx6 := Lib.hid (Mx6.out.below b14)
  clear b14
  generalize Value.slice ag7 ng7 cg7 = vg7 at *
  have Mg7 : Hid (InIntss W14 W13.heap.size W14.heap.size vg7 ((pracL l0))) := Lib.hid (InIntss.of og7); clear og7
  clear Mx6
  go_wp2_with fail
  refine (eqInt64SS_c vg7 vw (pracL l0) (pracL l0) W14 Mg7.out.at (SW.out.below hs14)).mono ?_
  rw [(same2_iff (same2 eqI) eqIs_iff ((pracL l0)) ((pracL l0))).2 rfl]
  rintro e W15 ⟨rfl, b15⟩
  have hb15 := bthen hb14 b15
  have sz15 := b15.size
  have hs15 := bthen hs14 b15
  replace Mg3 := Lib.hid (Mg3.out.below b15)
  replace Mg7 := Lib.hid (Mg7.out.below b15)
  clear b15
  go_wp2_with fail
  refine (HH.out W15 Mg3.out.at).mono ?_
  rintro e W16 ⟨rfl, b16⟩
  have hb16 := bthen hb15 b16
  have sz16 := b16.size
  have hs16 := bthen hs15 b16
  replace Mg3 := Lib.hid (Mg3.out.below b16)
  replace Mg7 := Lib.hid (Mg7.out.below b16)
  clear b16
  go_wp2
  go_ret
  exact Gives.bool rfl hb16
set_option maxRecDepth 100000 in
set_option linter.unusedVariables false in
theorem fnExactPracticedOf_lifted (os : Os) (started : os.Started) (H : Type) (enc : TypeId × Value → H) :
    ReturnsInHanded {} Try.checked os 3 .any (Rows.fnExactPracticedOfSpec.pre6 enc Try.prog Try.f3 Rows.fnExactPracticedOfRow.domain false) (Rows.fnExactPracticedOfSpec.post enc Try.prog Try.f3 false true false false) := by
  refine returnsInHanded_of_change (C := Try.checked) own started (by kernel_rfl) Try.func3
    (ChangeSpec.witness6 (enc := enc) (C := Try.checked) false ⟨#[], #[.slice none 0 0], []⟩ 8 (by kernel_rfl) (by kernel_rfl) (by kernel_rfl) (by kernel_rfl)) ?_
  intro W base args ds gs before hval0 hW hcnd _
  have hval : ∀ (j : Nat) t v, Try.f3.params[j]? = some t → args[j]? = some v → Value.okWide Try.prog W .any base t v := hval0
  have hW' := hW
  obtain ⟨p, q, hA0, hV, rfl, hfz, hnd⟩ := hW
  have hA : DataW.TrodAll enc Try.prog W 0 (fun _ => true) true Try.f3.params.toList args.toList ds p := hA0
  rw [Try.params3] at hA hval
  obtain ⟨v0, vs0, d0, ds0, p0, q0, hargs, rfl, rfl, h0, r0⟩ := trodAll_cons hA
  obtain ⟨rfl, rfl, rfl⟩ := trodAll_nil r0
  obtain rfl : args = #[v0] := by cases args; simp_all
  obtain ⟨rfl, rfl⟩ := trodVars_none hV
  have k0 := h0
  have lt0 : ∀ x ∈ p0, x.block < W.heap.size := by obtain ⟨m, hm⟩ := k0; exact DataW.trod_lt m _ _ _ hm
  obtain ⟨l0, c0, w0⟩ := attempts_of_trod (v := v0) Try.underlying22 Try.underlying37 (by kernel_rfl) (by kernel_rfl) Try.underlying35 Try.underlying2 (by kernel_rfl) Try.underlying2 Try.underlying4 (hval 0 22 v0 rfl rfl) h0
  clear hA0 hval0
  refine (fnExactPracticedOf_walk v0 l0 W c0).mono fun e W' ⟨he, bel⟩ => ?_
  subst he
  exact ⟨_, rfl, _, _, _, [], _, [], hW', trodAll_mk1 (shut_bool Try.underlying4 _), (trodAll_cons_mk (Below.trod laidOut (by kernel_rfl) (of_decide_eq_true (by kernel_rfl)) k0 bel lt0) trodAll_mk0), rfl, bel.frame _, fun h => by cases h⟩
theorem fnExactPracticedOf_over : Rows.fnExactPracticedOfRow.holds Try.pinned (OpenSpec.ofChange Rows.fnExactPracticedOfSpec) :=
  OpenClaim.holds_of_wide 3 Try.f3 rfl rfl rfl rfl rfl rfl rfl ⟨rfl, rfl, rfl, rfl, rfl⟩ rfl rfl rfl rfl rfl (by kernel_rfl) Try.func3 (by kernel_rfl)
    (of_decide_eq_true (by kernel_rfl)) (by unfold Func.isWrapper; first | (rw [if_pos (by decide +kernel)]; kernel_rfl) | (rw [if_neg (by decide +kernel)]; exact ⟨rfl, rfl⟩))
    (fun os started H enc _ => fnExactPracticedOf_lifted os started H enc)
theorem fnExactPracticedOf_holds : Rows.FnExactPracticedOfSaid := fnExactPracticedOf_over
#print axioms fnExactPracticedOf_holds
end Go.Proofs.Ythkmgahbahaabaa
