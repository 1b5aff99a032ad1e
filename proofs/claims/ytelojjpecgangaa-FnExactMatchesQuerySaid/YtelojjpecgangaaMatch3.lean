/- Match3: the law FnExactMatchesQuery. -/
import Derived.Test.YtelojjpecgangaaMatch2
namespace Go.Proofs.Ytelojjpecgangaa
open Go.ChangeShapes Go.WideShapes Go.ChangeAt Go.RowKit

set_option maxHeartbeats 2000000 in
theorem sMatchesQuery_c (q : Query) (y z v : Value) (p : List Int) (w : World) (hQ : QAt w q y z) (hv : IntsAt w v p) :
    Calls Try.prog 5 #[.agg #[.int .i64 q.period, .int .i64 q.props, .int .i64 q.high, y, z, .bool q.canonical], v] w (Gives (.bool (mqB q p)) w) := by
  have HK1 := Lib.hid (fun b W x y' => l21Ok_c q y z b W x y')
  have HK2 := Lib.hid (fun W x => l02Ok_c v p W x)
  have HK3 := Lib.hid (fun b W x y' h ho => l21Match_c q y z v p b W x y' h ho)
  have HQ := Lib.hid hQ
  have HP := Lib.hid hv
  have HM := Lib.hid (show mqB q p = (okQueryB q && (okPat p && matchB q p)) from rfl)
  clear hQ hv
  generalize matchB q p = m3 at *
  generalize okQueryB q = m1 at *
  generalize hm2 : okPat p = m2 at *
  cases m1
  · have HR : Hid (mqB q p = false) := Lib.hid HM.out
    go_enter Try.func5, Try.ntmps5
    go_wp2_with fail
    refine (HK1.out _ _ (BoxIs.new w _ _) (HQ.out.below (by go_grown))).mono ?_
    rintro e w1 ⟨rfl, hb1⟩
    go_wp2
    go_ret
    exact Gives.bool HR.out (bthen (by go_grown : Below w.heap.size w _) hb1)
  · cases m2
    · have HR : Hid (mqB q p = false) := Lib.hid HM.out
      clear hm2
      go_enter Try.func5, Try.ntmps5
      go_wp2_with fail
      refine (HK1.out _ _ (BoxIs.new w _ _) (HQ.out.below (by go_grown))).mono ?_
      rintro e w1 ⟨rfl, hb1⟩
      have hb := bthen (by go_grown : Below w.heap.size w _) hb1
      go_wp2_with fail
      refine (HK2.out _ (HP.out.below hb)).mono ?_
      rintro e w2 ⟨rfl, hb2⟩
      go_wp2
      go_ret
      exact Gives.bool HR.out (bthen hb hb2)
    · have HR : Hid (mqB q p = m3) := Lib.hid HM.out
      have HO := Lib.hid hm2
      clear hm2
      go_enter Try.func5, Try.ntmps5
      go_wp2_with fail
      refine (HK1.out _ _ (BoxIs.new w _ _) (HQ.out.below (by go_grown))).mono ?_
      rintro e w1 ⟨rfl, hb1⟩
      have hb := bthen (by go_grown : Below w.heap.size w _) hb1
      have HB := Lib.hid ((BoxIs.new w _ _).below hb1)
      go_wp2_with fail
      refine (HK2.out _ (HP.out.below hb)).mono ?_
      rintro e w2 ⟨rfl, hb2⟩
      have hb' := bthen hb hb2
      go_wp2_with fail
      refine (HK3.out _ _ (HB.out.below hb2) (HQ.out.below hb') (HP.out.below hb') trivial).mono ?_
      rintro e w3 ⟨rfl, hb3⟩
      go_wp2
      go_ret
      exact Gives.bool HR.out (bthen hb' hb3)
set_option maxHeartbeats 2000000 in
theorem iMatchesQuery_c (q : Query) (y z v : Value) (p : List Int) (w : World) (hQ : QAt w q y z) (hv : IntsAt w v p) :
    Calls Try.prog 8 #[.agg #[.int .i64 q.period, .int .i64 q.props, .int .i64 q.high, y, z, .bool q.canonical], v] w (Gives (.bool (mqB q p)) w) := by
  have HK1 := Lib.hid (fun W x => iValidQuery_c q y z W x)
  have HK2 := Lib.hid (fun W x => validPattern_c v p W x)
  have HK3 := Lib.hid (fun W x h ho => matches_c q y z v p W x h ho)
  have HQ := Lib.hid hQ
  have HP := Lib.hid hv
  have HM := Lib.hid (show mqB q p = (okQueryB q && (okPat p && matchB q p)) from rfl)
  clear hQ hv
  generalize matchB q p = m3 at *
  generalize okQueryB q = m1 at *
  generalize hm2 : okPat p = m2 at *
  cases m1
  · have HR : Hid (mqB q p = false) := Lib.hid HM.out
    go_enter Try.func8, Try.ntmps8
    go_wp2_with fail
    refine (HK1.out _ (HQ.out.below (by go_grown))).mono ?_
    rintro e w1 ⟨rfl, hb1⟩
    go_wp2
    go_ret
    exact Gives.bool HR.out (bthen (by go_grown : Below w.heap.size w _) hb1)
  · cases m2
    · have HR : Hid (mqB q p = false) := Lib.hid HM.out
      clear hm2
      go_enter Try.func8, Try.ntmps8
      go_wp2_with fail
      refine (HK1.out _ (HQ.out.below (by go_grown))).mono ?_
      rintro e w1 ⟨rfl, hb1⟩
      have hb := bthen (by go_grown : Below w.heap.size w _) hb1
      go_wp2_with fail
      refine (HK2.out _ (HP.out.below hb)).mono ?_
      rintro e w2 ⟨rfl, hb2⟩
      go_wp2
      go_ret
      exact Gives.bool HR.out (bthen hb hb2)
    · have HR : Hid (mqB q p = m3) := Lib.hid HM.out
      have HO := Lib.hid hm2
      clear hm2
      go_enter Try.func8, Try.ntmps8
      go_wp2_with fail
      refine (HK1.out _ (HQ.out.below (by go_grown))).mono ?_
      rintro e w1 ⟨rfl, hb1⟩
      have hb := bthen (by go_grown : Below w.heap.size w _) hb1
      have HB := Lib.hid ((BoxIs.new w [.int .i64 q.period, .int .i64 q.props, .int .i64 q.high, y, z, .bool q.canonical] 27).below hb1)
      go_wp2_with fail
      refine (HK2.out _ (HP.out.below hb)).mono ?_
      rintro e w2 ⟨rfl, hb2⟩
      have hb' := bthen hb hb2
      obtain ⟨e0, f0⟩ := (HB.out.below hb2).cells
      go_wp2_with fail
      refine (HK3.out _ (HQ.out.below hb') (HP.out.below hb') trivial).mono ?_
      rintro e w3 ⟨rfl, hb3⟩
      go_wp2
      go_ret
      exact Gives.bool HR.out (bthen hb' hb3)
set_option maxHeartbeats 1000000 in
set_option linter.unusedVariables false in
theorem fnExactMatchesQuery_walk (q0 : Query) (y0 z0 : Value) (v1 : Value) (l1 : List Int) (w : World) (c0 : QAt w q0 y0 z0) (c1 : IntsAt w v1 l1) :
    Calls Try.prog 3 #[.agg #[.int .i64 q0.period, .int .i64 q0.props, .int .i64 q0.high, y0, z0, .bool q0.canonical], v1] w (Gives (.bool true) w) := by
  have A0 := Lib.hid c0; clear c0
  have A1 := Lib.hid c1; clear c1
  obtain ⟨pa1, pn1, pc1, rfl, hpn1, hpr1⟩ := A1.out
  have Hpn1 := Lib.hid hpn1; have Hpr1 := Lib.hid hpr1; clear hpn1 hpr1
  by_cases hg1 : 1048576 < pn1
  · go_enter Try.func3, Try.ntmps3
    go_wp2
    go_ret
    exact Gives.bool rfl (by go_grown)
  have hl1 : l1.length ≤ 1048576 := by rw [← Hpn1.out]; omega
  have qs0 := szQueryT_le q0 1048576 (by omega)
  have QS0 := Lib.hid qs0.2.2; have qt0 := qs0.2.1; clear qs0
  go_enter Try.func3, Try.ntmps3
  go_wp2_with fail
  generalize Value.slice pa1 pn1 pc1 = v1 at *
  generalize hW1 : (World.alloc w (.cells #[.int .i64 q0.period, .int .i64 q0.props, .int .i64 q0.high, y0, z0, .bool q0.canonical] 24)) = W1 at *
  have b1 : Below w.heap.size w W1 := by rw [← hW1]; go_grown
  have BQ0 : Hid (BoxIs W1 (w.heap.size) [.int .i64 q0.period, .int .i64 q0.props, .int .i64 q0.high, y0, z0, .bool q0.canonical]) := Lib.hid (by rw [← hW1]; exact (BoxIs.new' (b := w.heap.size) (by rfl) _ _))
  have eBQ0 := BQ0.out.2.1; have sBQ0 := BQ0.out.1
  clear hW1
  have hb1 := b1
  refine (szQuery_c q0 y0 z0 1048576 W1 (A0.out.below b1) (by omega) (by omega)).mono ?_
  rintro e W2 ⟨rfl, b2⟩
  have hb2 := bthen hb1 b2
  replace BQ0 := Lib.hid (BQ0.out.below b2); replace eBQ0 := BQ0.out.2.1; replace sBQ0 := BQ0.out.1
  generalize szQueryT q0 1048576 = r0 at *
  by_cases hs0 : r0 < 0
  · go_wp2
    go_ret
    exact Gives.bool rfl hb2
  obtain ⟨hl0, hm0⟩ := QS0.out (by omega)
  go_wp2_with fail
  refine (toQuery_c q0 y0 z0 W2 ((A0.out.below b1).below b2) (by omega) (by omega)).mono ?_
  rintro e W3 ⟨ax0, nx0, cx0, dx0, mx0, kx0, rfl, ox0, b3⟩
  generalize Value.slice ax0 nx0 cx0 = yx0 at *
  generalize Value.slice dx0 mx0 kx0 = zx0 at *
  have Ox0 := Lib.hid ox0; clear ox0
  have hb3 := bthen hb2 b3
  replace BQ0 := Lib.hid (BQ0.out.below b3); replace eBQ0 := BQ0.out.2.1; replace sBQ0 := BQ0.out.1
  go_wp2_with fail
  refine (toInt64S_c v1 l1 W3 (((A1.out.below b1).below b2).below b3) (by omega)).mono ?_
  rintro e W4 ⟨ax1, nx1, cx1, rfl, ox1, b4⟩
  generalize Value.slice ax1 nx1 cx1 = vx1 at *
  have Ox1 := Lib.hid ox1.at; clear ox1
  have hb4 := bthen hb3 b4
  replace BQ0 := Lib.hid (BQ0.out.below b4); replace eBQ0 := BQ0.out.2.1; replace sBQ0 := BQ0.out.1
  go_wp2_with fail
  refine (sMatchesQuery_c q0 yx0 zx0 vx1 l1 W4 (Ox0.out.below b4) Ox1.out).mono ?_
  rintro e W5 ⟨rfl, b5⟩
  have hb5 := bthen hb4 b5
  replace BQ0 := Lib.hid (BQ0.out.below b5); replace eBQ0 := BQ0.out.2.1; replace sBQ0 := BQ0.out.1
  go_wp2_with fail
  refine (toQuery_c q0 y0 z0 W5 (((((A0.out.below b1).below b2).below b3).below b4).below b5) (by omega) (by omega)).mono ?_
  rintro e W6 ⟨ax2, nx2, cx2, dx2, mx2, kx2, rfl, ox2, b6⟩
  have Ox2 := Lib.hid ox2; clear ox2
  have hb6 := bthen hb5 b6
  replace BQ0 := Lib.hid (BQ0.out.below b6); replace eBQ0 := BQ0.out.2.1; replace sBQ0 := BQ0.out.1
  go_wp2_with fail
  generalize hG : World.alloc W6 (.cells #[.int .i64 q0.period, .int .i64 q0.props, .int .i64 q0.high, .slice ax2 nx2 cx2, .slice dx2 mx2 kx2, .bool q0.canonical] 27) = W7 at *
  have b7 : Below W6.heap.size W6 W7 := by rw [← hG]; go_grown
  have Bx2 : Hid (BoxIs W7 (W6.heap.size) [.int .i64 q0.period, .int .i64 q0.props, .int .i64 q0.high, .slice ax2 nx2 cx2, .slice dx2 mx2 kx2, .bool q0.canonical]) := Lib.hid (by rw [← hG]; exact BoxIs.new _ _ _)
  clear hG
  generalize Value.slice ax2 nx2 cx2 = yx2 at *
  generalize Value.slice dx2 mx2 kx2 = zx2 at *
  have hb7 := bthen hb6 b7
  replace BQ0 := Lib.hid (BQ0.out.below b7); replace eBQ0 := BQ0.out.2.1; replace sBQ0 := BQ0.out.1
  have eBx2 := Bx2.out.2.1; have sBx2 := Bx2.out.1
  refine (toInt64S_c v1 l1 W7 (((((((A1.out.below b1).below b2).below b3).below b4).below b5).below b6).below b7) (by omega)).mono ?_
  rintro e W8 ⟨ax3, nx3, cx3, rfl, ox3, b8⟩
  generalize Value.slice ax3 nx3 cx3 = vx3 at *
  have Ox3 := Lib.hid ox3.at; clear ox3
  have hb8 := bthen hb7 b8
  replace BQ0 := Lib.hid (BQ0.out.below b8); replace eBQ0 := BQ0.out.2.1; replace sBQ0 := BQ0.out.1
  replace Bx2 := Lib.hid (Bx2.out.below b8); replace eBx2 := Bx2.out.2.1; replace sBx2 := Bx2.out.1
  go_wp2_with fail
  refine (iMatchesQuery_c q0 yx2 zx2 vx3 l1 W8 ((Ox2.out.below b7).below b8) Ox3.out).mono ?_
  rintro e W9 ⟨rfl, b9⟩
  have hb9 := bthen hb8 b9
  replace BQ0 := Lib.hid (BQ0.out.below b9); replace eBQ0 := BQ0.out.2.1; replace sBQ0 := BQ0.out.1
  replace Bx2 := Lib.hid (Bx2.out.below b9); replace eBx2 := Bx2.out.2.1; replace sBx2 := Bx2.out.1
  cases mqB q0 l1
  all_goals
    go_wp2_with fail
    go_region_held3 (fun w' => (∀ j, w'.cell? ⟨w.heap.size, j, none⟩ = ([.int .i64 q0.period, .int .i64 q0.props, .int .i64 q0.high, y0, z0, .bool q0.canonical] : List Value)[j]?) ∧ (∀ j, w'.cell? ⟨W6.heap.size, j, none⟩ = ([.int .i64 q0.period, .int .i64 q0.props, .int .i64 q0.high, yx2, zx2, .bool q0.canonical] : List Value)[j]?)) (exact ⟨eBQ0, eBx2⟩)
      (first | (go_at_call 6; (with_reducible refine (toQuery_c q0 y0 z0 _ (by exact ((((((((((A0.out.below b1).below b2).below b3).below b4).below b5).below b6).below b7).below b8).below b9)).drewn) (by omega) (by omega)).mono ?_); rintro e W10 ⟨ax4, nx4, cx4, dx4, mx4, kx4, rfl, ox4, b10⟩; replace b10 := ((Below.refl W9.heap.size W9).drew).trans b10; generalize Value.slice ax4 nx4 cx4 = yx4 at *; generalize Value.slice dx4 mx4 kx4 = zx4 at *; have Ox4 := Lib.hid ox4; clear ox4; have hb10 := bthen hb9 b10; replace BQ0 := Lib.hid (BQ0.out.below b10); replace eBQ0 := BQ0.out.2.1; replace sBQ0 := BQ0.out.1; replace Bx2 := Lib.hid (Bx2.out.below b10); replace eBx2 := Bx2.out.2.1; replace sBx2 := Bx2.out.1) | (go_at_call 9; (with_reducible refine (eqQuery_c q0 q0 yx2 zx2 yx4 zx4 _ (by exact ((((Ox2.out.below b7).below b8).below b9).below b10)) (by exact Ox4.out)).mono ?_); rw [(eqQueryB_iff q0 q0).2 rfl]; rintro e W11 ⟨rfl, b11⟩; have hb11 := bthen hb10 b11; replace BQ0 := Lib.hid (BQ0.out.below b11); replace eBQ0 := BQ0.out.2.1; replace sBQ0 := BQ0.out.1; replace Bx2 := Lib.hid (Bx2.out.below b11); replace eBx2 := Bx2.out.2.1; replace sBx2 := Bx2.out.1))
    go_wp2_with fail
    refine (toInt64S_c v1 l1 W11 (((((((((((A1.out.below b1).below b2).below b3).below b4).below b5).below b6).below b7).below b8).below b9).below b10).below b11) (by omega)).mono ?_
    rintro e W12 ⟨ax5, nx5, cx5, rfl, ox5, b12⟩
    generalize Value.slice ax5 nx5 cx5 = vx5 at *
    have Ox5 := Lib.hid ox5.at; clear ox5
    have hb12 := bthen hb11 b12
    replace BQ0 := Lib.hid (BQ0.out.below b12); replace eBQ0 := BQ0.out.2.1; replace sBQ0 := BQ0.out.1
    replace Bx2 := Lib.hid (Bx2.out.below b12); replace eBx2 := Bx2.out.2.1; replace sBx2 := Bx2.out.1
    go_wp2_with fail
    refine (eqInt64S_c vx3 vx5 l1 l1 W12 ((((Ox3.out.below b9).below b10).below b11).below b12) Ox5.out).mono ?_
    rw [(same2_iff eqI eqI_iff l1 l1).2 rfl]
    rintro e W13 ⟨rfl, b13⟩
    have hb13 := bthen hb12 b13
    replace BQ0 := Lib.hid (BQ0.out.below b13); replace eBQ0 := BQ0.out.2.1; replace sBQ0 := BQ0.out.1
    replace Bx2 := Lib.hid (Bx2.out.below b13); replace eBx2 := Bx2.out.2.1; replace sBx2 := Bx2.out.1
    go_wp2
    go_ret
    exact Gives.bool rfl hb13
set_option maxRecDepth 100000 in
set_option linter.unusedVariables false in
theorem fnExactMatchesQuery_lifted (os : Os) (started : os.Started) (H : Type) (enc : TypeId × Value → H) :
    ReturnsInHanded {} Try.checked os 3 .any (Rows.fnExactMatchesQuerySpec.pre6 enc Try.prog Try.f3 Rows.fnExactMatchesQueryRow.domain false) (Rows.fnExactMatchesQuerySpec.post enc Try.prog Try.f3 false true false false) := by
  refine returnsInHanded_of_change (C := Try.checked) own started (by kernel_rfl) Try.func3
    (ChangeSpec.witness6 (enc := enc) (C := Try.checked) false ⟨#[], #[.agg #[.int .i64 0, .int .i64 0, .int .i64 0, .slice none 0 0, .slice none 0 0, .bool false], .slice none 0 0], []⟩ 8 (by kernel_rfl) (by kernel_rfl) (by kernel_rfl) (by kernel_rfl)) ?_
  intro W base args ds gs before hval0 hW hcnd _
  have hval : ∀ (j : Nat) t v, Try.f3.params[j]? = some t → args[j]? = some v → Value.okWide Try.prog W .any base t v := hval0
  have hW' := hW
  obtain ⟨p, q, hA0, hV, rfl, hfz, hnd⟩ := hW
  have hA : DataW.TrodAll enc Try.prog W 0 (fun _ => true) true Try.f3.params.toList args.toList ds p := hA0
  rw [Try.params3] at hA hval
  obtain ⟨v0, vs0, d0, ds0, p0, q0, hargs, rfl, rfl, h0, r0⟩ := trodAll_cons hA
  obtain ⟨v1, vs1, d1, ds1, p1, q1, rfl, rfl, rfl, h1, r1⟩ := trodAll_cons r0
  obtain ⟨rfl, rfl, rfl⟩ := trodAll_nil r1
  obtain rfl : args = #[v0, v1] := by cases args; simp_all
  obtain ⟨rfl, rfl⟩ := trodVars_none hV
  have k0 := h0
  have lt0 : ∀ x ∈ p0, x.block < W.heap.size := by obtain ⟨m, hm⟩ := k0; exact DataW.trod_lt m _ _ _ hm
  obtain ⟨q0, y0, z0, rfl, c0, w0⟩ := query_of_trod (v := v0) Try.underlying24 (by kernel_rfl) (by kernel_rfl) Try.underlying2 Try.underlying2 Try.underlying2 Try.underlying22 Try.underlying22 Try.underlying4 Try.underlying2 (by kernel_rfl) (hval 0 24 v0 rfl rfl) h0
  have k1 := h1
  have lt1 : ∀ x ∈ p1, x.block < W.heap.size := by obtain ⟨m, hm⟩ := k1; exact DataW.trod_lt m _ _ _ hm
  obtain ⟨l1, c1, w1⟩ := ints_of_trod (v := v1) Try.underlying22 Try.underlying2 (by kernel_rfl) (hval 1 22 v1 rfl rfl) h1
  clear hA0 hval0
  refine (fnExactMatchesQuery_walk q0 y0 z0 v1 l1 W c0 c1).mono fun e W' ⟨he, bel⟩ => ?_
  subst he
  exact ⟨_, rfl, _, _, _, [], _, [], hW', trodAll_mk1 (shut_bool Try.underlying4 _), (trodAll_cons_mk (Below.trod laidOut (by kernel_rfl) (of_decide_eq_true (by kernel_rfl)) k0 bel lt0) (trodAll_cons_mk (Below.trod laidOut (by kernel_rfl) (of_decide_eq_true (by kernel_rfl)) k1 bel lt1) trodAll_mk0)), rfl, bel.frame _, fun h => by cases h⟩
theorem fnExactMatchesQuery_over : Rows.fnExactMatchesQueryRow.holds Try.pinned (OpenSpec.ofChange Rows.fnExactMatchesQuerySpec) :=
  OpenClaim.holds_of_wide 3 Try.f3 rfl rfl rfl rfl rfl rfl rfl ⟨rfl, rfl, rfl, rfl, rfl⟩ rfl rfl rfl rfl rfl (by kernel_rfl) Try.func3 (by kernel_rfl)
    (of_decide_eq_true (by kernel_rfl)) (by unfold Func.isWrapper; first | (rw [if_pos (by decide +kernel)]; kernel_rfl) | (rw [if_neg (by decide +kernel)]; exact ⟨rfl, rfl⟩))
    (fun os started H enc _ => fnExactMatchesQuery_lifted os started H enc)
theorem fnExactMatchesQuery_holds : Rows.FnExactMatchesQuerySaid := fnExactMatchesQuery_over
#print axioms fnExactMatchesQuery_holds
end Go.Proofs.Ytelojjpecgangaa
