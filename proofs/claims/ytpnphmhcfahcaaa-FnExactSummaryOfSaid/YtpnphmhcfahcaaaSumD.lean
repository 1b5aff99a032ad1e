/- SumD: the law FnExactSummaryOf. -/
import Derived.Test.YtpnphmhcfahcaaaSumB
import Derived.Test.YtpnphmhcfahcaaaOpenAtts
namespace Go.Proofs.Ytpnphmhcfahcaaa
open Go.ChangeShapes Go.WideShapes Go.ChangeAt Go.RowKit

theorem eqSummary_c (a b c d f r : Int) (w : World) : Calls Try.prog 31 #[.agg #[.int .i64 a, .int .i64 b, .int .i64 c, .int .i64 d, .int .i64 f, .int .i64 r], .agg #[.int .i64 a, .int .i64 b, .int .i64 c, .int .i64 d, .int .i64 f, .int .i64 r]] w (Gives (.bool true) w) := by
  go_enter Try.func31, Try.ntmps31
  go_wp2
  go_ret
  exact Gives.bool rfl (by go_grown)
theorem sSummaryOf_k (v u : Value) (l : List Att) (p : List Int) (w : World) (hv : AttsAt w v l) (hu : IntsAt w u p) (a b c d f r : Int) (hs : sumL l p = ⟨a, b, c, d, f, r⟩) :
    Calls Try.prog 29 #[v, u] w (Gives (.tuple #[.agg #[.int .i64 a, .int .i64 b, .int .i64 c, .int .i64 d, .int .i64 f, .int .i64 r], .int .i64 (askCode l p)]) w) := by
  have h := sSummaryOf_c v u l p w hv hu
  rw [hs] at h
  exact h
theorem iSummaryOf_k (v u : Value) (l : List Att) (p : List Int) (w : World) (hv : AttsAt w v l) (hu : IntsAt w u p) (a b c d f r : Int) (hs : sumL l p = ⟨a, b, c, d, f, r⟩) :
    Calls Try.prog 30 #[v, u] w (Gives (.tuple #[.agg #[.int .i64 a, .int .i64 b, .int .i64 c, .int .i64 d, .int .i64 f, .int .i64 r], .int .i64 (askCode l p)]) w) := by
  have h := iSummaryOf_c v u l p w hv hu
  rw [hs] at h
  exact h
set_option maxHeartbeats 1000000 in
set_option linter.unusedVariables false in
theorem fnExactSummaryOf_walk (v0 : Value) (l0 : List Att) (v1 : Value) (l1 : List Int) (w : World) (c0 : AttsAt w v0 l0) (c1 : IntsAt w v1 l1) :
    Calls Try.prog 8 #[v0, v1] w (Gives (.bool true) w) := by
  have A0 := Lib.hid c0; clear c0
  have A1 := Lib.hid c1; clear c1
  obtain ⟨⟨s1, s2, s3, s4, s5, s6⟩, hsum⟩ : ∃ s, sumL l0 l1 = s := ⟨_, rfl⟩
  have HSU := Lib.hid hsum
  clear hsum
  obtain ⟨pa1, pn1, pc1, rfl, hpn1, hpr1⟩ := A1.out
  have Hpn1 := Lib.hid hpn1; have Hpr1 := Lib.hid hpr1; clear hpn1 hpr1
  by_cases hg1 : 1048576 < pn1
  · go_enter Try.func8, Try.ntmps8
    go_wp2
    go_ret
    exact Gives.bool rfl (by go_grown)
  have hl1 : l1.length ≤ 1048576 := by rw [← Hpn1.out]; omega
  have qs0 := szAttsT_le l0 1048576 (by omega)
  have QS0 := Lib.hid qs0.2.2; have qt0 := qs0.2.1; clear qs0
  go_enter Try.func8, Try.ntmps8
  go_wp2_with fail
  generalize Value.slice pa1 pn1 pc1 = v1 at *
  refine (szAttemptS_c v0 l0 1048576 w A0.out (by omega) (by omega)).mono ?_
  rintro e W1 ⟨rfl, b1⟩
  have hb1 := b1
  generalize szAttsT l0 1048576 = r0 at *
  by_cases hs0 : r0 < 0
  · go_wp2
    go_ret
    exact Gives.bool rfl hb1
  have S0 := Lib.hid (QS0.out (by omega))
  have hl0 := (QS0.out (by omega)).1
  go_wp2_with fail
  refine (toAttemptS_c v0 l0 W1 (A0.out.below b1) (by omega) (fun x hx => by have := S0.out.2 x hx; omega)).mono ?_
  rintro e W2 ⟨ax0, nx0, cx0, rfl, ox0, b2⟩
  generalize Value.slice ax0 nx0 cx0 = vx0 at *
  have Ox0 := Lib.hid ox0.at; clear ox0
  have hb2 := bthen hb1 b2
  go_wp2_with fail
  refine (toInt64S_c v1 l1 W2 ((A1.out.below b1).below b2) (by omega)).mono ?_
  rintro e W3 ⟨ax1, nx1, cx1, rfl, ox1, b3⟩
  generalize Value.slice ax1 nx1 cx1 = vx1 at *
  have Ox1 := Lib.hid ox1.at; clear ox1
  have hb3 := bthen hb2 b3
  go_wp2_with fail
  refine (sSummaryOf_k vx0 vx1 l0 l1 W3 (Ox0.out.below b3) Ox1.out s1 s2 s3 s4 s5 s6 HSU.out).mono ?_
  rintro e W4 ⟨rfl, b4⟩
  have hb4 := bthen hb3 b4
  go_wp2_with fail
  generalize hG : World.alloc W4 (.cells #[.int .i64 s1, .int .i64 s2, .int .i64 s3, .int .i64 s4, .int .i64 s5, .int .i64 s6] 41) = W5 at *
  have b5 : Below W4.heap.size W4 W5 := by rw [← hG]; go_grown
  have Bw : Hid (BoxIs W5 (W4.heap.size) [.int .i64 s1, .int .i64 s2, .int .i64 s3, .int .i64 s4, .int .i64 s5, .int .i64 s6]) := Lib.hid (by rw [← hG]; exact BoxIs.new _ _ _)
  clear hG
  have hb5 := bthen hb4 b5
  have eBw := Bw.out.2.1; have sBw := Bw.out.1
  refine (toAttemptS_c v0 l0 W5 (((((A0.out.below b1).below b2).below b3).below b4).below b5) (by omega) (fun x hx => by have := S0.out.2 x hx; omega)).mono ?_
  rintro e W6 ⟨ax2, nx2, cx2, rfl, ox2, b6⟩
  generalize Value.slice ax2 nx2 cx2 = vx2 at *
  have Ox2 := Lib.hid ox2.at; clear ox2
  have hb6 := bthen hb5 b6
  replace Bw := Lib.hid (Bw.out.below b6); replace eBw := Bw.out.2.1; replace sBw := Bw.out.1
  go_wp2_with fail
  refine (toInt64S_c v1 l1 W6 ((((((A1.out.below b1).below b2).below b3).below b4).below b5).below b6) (by omega)).mono ?_
  rintro e W7 ⟨ax3, nx3, cx3, rfl, ox3, b7⟩
  generalize Value.slice ax3 nx3 cx3 = vx3 at *
  have Ox3 := Lib.hid ox3.at; clear ox3
  have hb7 := bthen hb6 b7
  replace Bw := Lib.hid (Bw.out.below b7); replace eBw := Bw.out.2.1; replace sBw := Bw.out.1
  go_wp2_with fail
  refine (iSummaryOf_k vx2 vx3 l0 l1 W7 (Ox2.out.below b7) Ox3.out s1 s2 s3 s4 s5 s6 HSU.out).mono ?_
  rintro e W8 ⟨rfl, b8⟩
  have hb8 := bthen hb7 b8
  replace Bw := Lib.hid (Bw.out.below b8); replace eBw := Bw.out.2.1; replace sBw := Bw.out.1
  go_wp2_with fail
  generalize hG : World.alloc W8 (.cells #[.int .i64 s1, .int .i64 s2, .int .i64 s3, .int .i64 s4, .int .i64 s5, .int .i64 s6] 41) = W9 at *
  have b9 : Below W8.heap.size W8 W9 := by rw [← hG]; go_grown
  have Bg : Hid (BoxIs W9 (W8.heap.size) [.int .i64 s1, .int .i64 s2, .int .i64 s3, .int .i64 s4, .int .i64 s5, .int .i64 s6]) := Lib.hid (by rw [← hG]; exact BoxIs.new _ _ _)
  clear hG
  have hb9 := bthen hb8 b9
  replace Bw := Lib.hid (Bw.out.below b9); replace eBw := Bw.out.2.1; replace sBw := Bw.out.1
  have eBg := Bg.out.2.1; have sBg := Bg.out.1
  refine (eqSummary_c s1 s2 s3 s4 s5 s6 W9).mono ?_
  rintro e W10 ⟨rfl, b10⟩
  have hb10 := bthen hb9 b10
  replace Bw := Lib.hid (Bw.out.below b10); replace eBw := Bw.out.2.1; replace sBw := Bw.out.1
  replace Bg := Lib.hid (Bg.out.below b10); replace eBg := Bg.out.2.1; replace sBg := Bg.out.1
  go_wp2_with fail
  refine (toAttemptS_c v0 l0 W10 ((((((((((A0.out.below b1).below b2).below b3).below b4).below b5).below b6).below b7).below b8).below b9).below b10) (by omega) (fun x hx => by have := S0.out.2 x hx; omega)).mono ?_
  rintro e W11 ⟨ax4, nx4, cx4, rfl, ox4, b11⟩
  generalize Value.slice ax4 nx4 cx4 = vx4 at *
  have Ox4 := Lib.hid ox4.at; clear ox4
  have hb11 := bthen hb10 b11
  replace Bw := Lib.hid (Bw.out.below b11); replace eBw := Bw.out.2.1; replace sBw := Bw.out.1
  replace Bg := Lib.hid (Bg.out.below b11); replace eBg := Bg.out.2.1; replace sBg := Bg.out.1
  go_wp2_with fail
  refine (eqAttemptS_c vx2 vx4 l0 l0 W11 (((((Ox2.out.below b7).below b8).below b9).below b10).below b11) Ox4.out).mono ?_
  rw [(same2_iff eqAttB eqAttB_iff l0 l0).2 rfl]
  rintro e W12 ⟨rfl, b12⟩
  have hb12 := bthen hb11 b12
  replace Bw := Lib.hid (Bw.out.below b12); replace eBw := Bw.out.2.1; replace sBw := Bw.out.1
  replace Bg := Lib.hid (Bg.out.below b12); replace eBg := Bg.out.2.1; replace sBg := Bg.out.1
  go_wp2_with fail
  refine (toInt64S_c v1 l1 W12 ((((((((((((A1.out.below b1).below b2).below b3).below b4).below b5).below b6).below b7).below b8).below b9).below b10).below b11).below b12) (by omega)).mono ?_
  rintro e W13 ⟨ax5, nx5, cx5, rfl, ox5, b13⟩
  generalize Value.slice ax5 nx5 cx5 = vx5 at *
  have Ox5 := Lib.hid ox5.at; clear ox5
  have hb13 := bthen hb12 b13
  replace Bw := Lib.hid (Bw.out.below b13); replace eBw := Bw.out.2.1; replace sBw := Bw.out.1
  replace Bg := Lib.hid (Bg.out.below b13); replace eBg := Bg.out.2.1; replace sBg := Bg.out.1
  go_wp2_with fail
  refine (eqInt64S_c vx3 vx5 l1 l1 W13 ((((((Ox3.out.below b8).below b9).below b10).below b11).below b12).below b13) Ox5.out).mono ?_
  rw [(same2_iff eqI eqI_iff l1 l1).2 rfl]
  rintro e W14 ⟨rfl, b14⟩
  have hb14 := bthen hb13 b14
  replace Bw := Lib.hid (Bw.out.below b14); replace eBw := Bw.out.2.1; replace sBw := Bw.out.1
  replace Bg := Lib.hid (Bg.out.below b14); replace eBg := Bg.out.2.1; replace sBg := Bg.out.1
  go_wp2
  go_ret
  exact Gives.bool rfl hb14
set_option maxRecDepth 100000 in
set_option linter.unusedVariables false in
theorem fnExactSummaryOf_lifted (os : Os) (started : os.Started) (H : Type) (enc : TypeId × Value → H) :
    ReturnsInHanded {} Try.checked os 8 .any (Rows.fnExactSummaryOfSpec.pre6 enc Try.prog Try.f8 Rows.fnExactSummaryOfRow.domain false) (Rows.fnExactSummaryOfSpec.post enc Try.prog Try.f8 false true false false) := by
  refine returnsInHanded_of_change (C := Try.checked) own started (by kernel_rfl) Try.func8
    (ChangeSpec.witness6 (enc := enc) (C := Try.checked) false ⟨#[], #[.slice none 0 0, .slice none 0 0], []⟩ 8 (by kernel_rfl) (by kernel_rfl) (by kernel_rfl) (by kernel_rfl)) ?_
  intro W base args ds gs before hval0 hW hcnd _
  have hval : ∀ (j : Nat) t v, Try.f8.params[j]? = some t → args[j]? = some v → Value.okWide Try.prog W .any base t v := hval0
  have hW' := hW
  obtain ⟨p, q, hA0, hV, rfl, hfz, hnd⟩ := hW
  have hA : DataW.TrodAll enc Try.prog W 0 (fun _ => true) true Try.f8.params.toList args.toList ds p := hA0
  rw [Try.params8] at hA hval
  obtain ⟨v0, vs0, d0, ds0, p0, q0, hargs, rfl, rfl, h0, r0⟩ := trodAll_cons hA
  obtain ⟨v1, vs1, d1, ds1, p1, q1, rfl, rfl, rfl, h1, r1⟩ := trodAll_cons r0
  obtain ⟨rfl, rfl, rfl⟩ := trodAll_nil r1
  obtain rfl : args = #[v0, v1] := by cases args; simp_all
  obtain ⟨rfl, rfl⟩ := trodVars_none hV
  have k0 := h0
  have lt0 : ∀ x ∈ p0, x.block < W.heap.size := by obtain ⟨m, hm⟩ := k0; exact DataW.trod_lt m _ _ _ hm
  obtain ⟨l0, c0, w0⟩ := attempts_of_trod (v := v0) Try.underlying22 Try.underlying52 (by kernel_rfl) (by kernel_rfl) Try.underlying31 Try.underlying2 (by kernel_rfl) Try.underlying2 Try.underlying4 (hval 0 22 v0 rfl rfl) h0
  have k1 := h1
  have lt1 : ∀ x ∈ p1, x.block < W.heap.size := by obtain ⟨m, hm⟩ := k1; exact DataW.trod_lt m _ _ _ hm
  obtain ⟨l1, c1, w1⟩ := ints_of_trod (v := v1) Try.underlying31 Try.underlying2 (by kernel_rfl) (hval 1 31 v1 rfl rfl) h1
  clear hA0 hval0
  refine (fnExactSummaryOf_walk v0 l0 v1 l1 W c0 c1).mono fun e W' ⟨he, bel⟩ => ?_
  subst he
  exact ⟨_, rfl, _, _, _, [], _, [], hW', trodAll_mk1 (shut_bool Try.underlying4 _), (trodAll_cons_mk (Below.trod laidOut (by kernel_rfl) (of_decide_eq_true (by kernel_rfl)) k0 bel lt0) (trodAll_cons_mk (Below.trod laidOut (by kernel_rfl) (of_decide_eq_true (by kernel_rfl)) k1 bel lt1) trodAll_mk0)), rfl, bel.frame _, fun h => by cases h⟩
theorem fnExactSummaryOf_over : Rows.fnExactSummaryOfRow.holds Try.pinned (OpenSpec.ofChange Rows.fnExactSummaryOfSpec) :=
  OpenClaim.holds_of_wide 8 Try.f8 rfl rfl rfl rfl rfl rfl rfl ⟨rfl, rfl, rfl, rfl, rfl⟩ rfl rfl rfl rfl rfl (by kernel_rfl) Try.func8 (by kernel_rfl)
    (of_decide_eq_true (by kernel_rfl)) (by unfold Func.isWrapper; first | (rw [if_pos (by decide +kernel)]; kernel_rfl) | (rw [if_neg (by decide +kernel)]; exact ⟨rfl, rfl⟩))
    (fun os started H enc _ => fnExactSummaryOf_lifted os started H enc)
theorem fnExactSummaryOf_holds : Rows.FnExactSummaryOfSaid := fnExactSummaryOf_over
#print axioms fnExactSummaryOf_holds
end Go.Proofs.Ytpnphmhcfahcaaa
