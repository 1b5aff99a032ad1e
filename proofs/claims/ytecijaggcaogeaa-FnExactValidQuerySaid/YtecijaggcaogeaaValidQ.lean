/- ValidQ: valid queries. -/
import Derived.Test.YtecijaggcaogeaaValid
import Derived.Test.YtecijaggcaogeaaQuery2
import Derived.Test.YtecijaggcaogeaaOpen
import Derived.Deep.RegionHeld3
namespace Go.Proofs.Ytecijaggcaogeaa
open Go.ChangeShapes Go.WideShapes Go.ChangeAt Go.RowKit

def okQueryB (q : Query) : Bool := inB q.period 1 12 && (inB q.props 0 15 && (inB q.high 0 15 && (risesF (-1) q.need && (risesF (-1) q.avoid))))
theorem chain5 (b1 b2 b3 b4 b5 : Bool) : (b1 = false) ∨ (b1 = true ∧ b2 = false) ∨ (b1 = true ∧ b2 = true ∧ b3 = false) ∨ (b1 = true ∧ b2 = true ∧ b3 = true ∧ b4 = false) ∨ (b1 = true ∧ b2 = true ∧ b3 = true ∧ b4 = true ∧ b5 = b5) := by
  cases b1 <;> cases b2 <;> cases b3 <;> cases b4 <;> simp

set_option maxHeartbeats 1000000 in
theorem l21Ok_c (q : Query) (y z : Value) (b : Nat) (w : World) (hB : BoxIs w b [.int .i64 q.period, .int .i64 q.props, .int .i64 q.high, y, z, .bool q.canonical]) (hQ : QAt w q y z) :
    Calls Try.prog 48 #[.pointer (some ⟨b, 0, none⟩)] w (Gives (.bool (okQueryB q)) w) := by
  obtain ⟨pe, pr, hi, ne, av, ca⟩ := q
  obtain ⟨hy, hz⟩ := hQ
  dsimp only at hB hy hz ⊢
  have HY := Lib.hid hy; clear hy
  have HZ := Lib.hid hz; clear hz
  have HB := Lib.hid hB
  have e0 := hB.2.1; clear hB
  have k1 := l00In_c pe 1 12
  have k2 := l00In_c pr 0 15
  have k3 := l00In_c hi 0 15
  have k4 := fun W a => sRises_c y ne W a
  have k5 := fun W a => sRises_c z av W a
  generalize hR : okQueryB ⟨pe, pr, hi, ne, av, ca⟩ = R
  have HR := Lib.hid hR; clear hR
  unfold okQueryB at HR
  dsimp only at HR
  generalize inB pe 1 12 = b1 at *
  generalize inB pr 0 15 = b2 at *
  generalize inB hi 0 15 = b3 at *
  generalize risesF (-1) ne = b4 at *
  generalize risesF (-1) av = b5 at *
  have K1 := Lib.hid k1; clear k1
  have K2 := Lib.hid k2; clear k2
  have K3 := Lib.hid k3; clear k3
  have K4 := Lib.hid k4; clear k4
  have K5 := Lib.hid k5; clear k5
  rcases chain5 b1 b2 b3 b4 b5 with rfl | ⟨rfl, rfl⟩ | ⟨rfl, rfl, rfl⟩ | ⟨rfl, rfl, rfl, rfl⟩ | ⟨rfl, rfl, rfl, rfl, -⟩
  all_goals
    go_enter Try.func48, Try.ntmps48
    go_wp2_with fail
    refine (K1.out _).mono ?_
    rintro e w1 ⟨rfl, hb1⟩
    have B1 := Lib.hid (HB.out.below hb1)
    replace e0 := B1.out.2.1
  · go_wp2
    go_ret
    exact Gives.bool HR.out.symm hb1
  all_goals
    go_wp2_with fail
    refine (K2.out _).mono ?_
    rintro e w2 ⟨rfl, hb2⟩
    have B2 := Lib.hid (B1.out.below hb2)
    replace e0 := B2.out.2.1
    have hc2 := bthen hb1 hb2
  · go_wp2
    go_ret
    exact Gives.bool HR.out.symm hc2
  all_goals
    go_wp2_with fail
    refine (K3.out _).mono ?_
    rintro e w3 ⟨rfl, hb3⟩
    have B3 := Lib.hid (B2.out.below hb3)
    replace e0 := B3.out.2.1
    have hc3 := bthen hc2 hb3
  · go_wp2
    go_ret
    exact Gives.bool HR.out.symm hc3
  all_goals
    go_wp2_with fail
    refine (K4.out _ (HY.out.below hc3)).mono ?_
    rintro e w4 ⟨rfl, hb4⟩
    have B4 := Lib.hid (B3.out.below hb4)
    replace e0 := B4.out.2.1
    have hc4 := bthen hc3 hb4
  · go_wp2
    go_ret
    exact Gives.bool HR.out.symm hc4
  · go_wp2_with fail
    refine (K5.out _ (HZ.out.below hc4)).mono ?_
    rintro e w5 ⟨rfl, hb5⟩
    have hc5 := bthen hc4 hb5
    clear e0
    go_wp2
    go_ret
    exact Gives.bool HR.out.symm hc5

theorem sValidQuery_c (q : Query) (y z : Value) (w : World) (hQ : QAt w q y z) :
    Calls Try.prog 22 #[.agg #[.int .i64 q.period, .int .i64 q.props, .int .i64 q.high, y, z, .bool q.canonical]] w (Gives (.bool (okQueryB q)) w) := by
  have HQ := Lib.hid hQ; clear hQ
  go_enter Try.func22, Try.ntmps22
  go_wp2_with fail
  refine (l21Ok_c q y z w.heap.size _ (BoxIs.new w _ _) (HQ.out.below (by go_grown))).mono ?_
  rintro e w1 ⟨rfl, hb1⟩
  have hbx := bthen (by go_grown : Below w.heap.size w _) hb1
  go_wp2
  go_ret
  exact Gives.bool rfl hbx

set_option maxHeartbeats 1000000 in
theorem iValidQuery_c (q : Query) (y z : Value) (w : World) (hQ : QAt w q y z) :
    Calls Try.prog 23 #[.agg #[.int .i64 q.period, .int .i64 q.props, .int .i64 q.high, y, z, .bool q.canonical]] w (Gives (.bool (okQueryB q)) w) := by
  obtain ⟨pe, pr, hi, ne, av, ca⟩ := q
  obtain ⟨hy, hz⟩ := hQ
  dsimp only at hy hz ⊢
  have HY := Lib.hid hy; clear hy
  have HZ := Lib.hid hz; clear hz
  have k1 := between_c pe 1 12
  have k2 := between_c pr 0 15
  have k3 := between_c hi 0 15
  have k4 := fun W a => iRises_c y ne W a
  have k5 := fun W a => iRises_c z av W a
  generalize hR : okQueryB ⟨pe, pr, hi, ne, av, ca⟩ = R
  have HR := Lib.hid hR; clear hR
  unfold okQueryB at HR
  dsimp only at HR
  generalize inB pe 1 12 = b1 at *
  generalize inB pr 0 15 = b2 at *
  generalize inB hi 0 15 = b3 at *
  generalize risesF (-1) ne = b4 at *
  generalize risesF (-1) av = b5 at *
  have K1 := Lib.hid k1; clear k1
  have K2 := Lib.hid k2; clear k2
  have K3 := Lib.hid k3; clear k3
  have K4 := Lib.hid k4; clear k4
  have K5 := Lib.hid k5; clear k5
  rcases chain5 b1 b2 b3 b4 b5 with rfl | ⟨rfl, rfl⟩ | ⟨rfl, rfl, rfl⟩ | ⟨rfl, rfl, rfl, rfl⟩ | ⟨rfl, rfl, rfl, rfl, -⟩
  all_goals
    go_enter Try.func23, Try.ntmps23
    go_wp2_with fail
    refine (K1.out _).mono ?_
    rintro e w1 ⟨rfl, hb1⟩
    have B1 := Lib.hid ((BoxIs.new w _ _).below hb1)
    have e0 := B1.out.2.1
    have hc1 := bthen (by go_grown : Below w.heap.size w _) hb1
    clear hb1
  · go_wp2
    go_ret
    exact Gives.bool HR.out.symm hc1
  all_goals
    go_wp2_with fail
    refine (K2.out _).mono ?_
    rintro e w2 ⟨rfl, hb2⟩
    have B2 := Lib.hid (B1.out.below hb2)
    replace e0 := B2.out.2.1
    have hc2 := bthen hc1 hb2
  · go_wp2
    go_ret
    exact Gives.bool HR.out.symm hc2
  all_goals
    go_wp2_with fail
    refine (K3.out _).mono ?_
    rintro e w3 ⟨rfl, hb3⟩
    have B3 := Lib.hid (B2.out.below hb3)
    replace e0 := B3.out.2.1
    have hc3 := bthen hc2 hb3
  · go_wp2
    go_ret
    exact Gives.bool HR.out.symm hc3
  all_goals
    go_wp2_with fail
    refine (K4.out _ (HY.out.below hc3)).mono ?_
    rintro e w4 ⟨rfl, hb4⟩
    have B4 := Lib.hid (B3.out.below hb4)
    replace e0 := B4.out.2.1
    have hc4 := bthen hc3 hb4
  · go_wp2
    go_ret
    exact Gives.bool HR.out.symm hc4
  · go_wp2_with fail
    refine (K5.out _ (HZ.out.below hc4)).mono ?_
    rintro e w5 ⟨rfl, hb5⟩
    have hc5 := bthen hc4 hb5
    clear e0
    go_wp2
    go_ret
    exact Gives.bool HR.out.symm hc5

set_option maxHeartbeats 1000000 in
set_option linter.unusedVariables false in
theorem fnExactValidQuery_walk (q0 : Query) (y0 z0 : Value) (w : World) (c0 : QAt w q0 y0 z0) :
    Calls Try.prog 6 #[.agg #[.int .i64 q0.period, .int .i64 q0.props, .int .i64 q0.high, y0, z0, .bool q0.canonical]] w (Gives (.bool true) w) := by
  have A0 := Lib.hid c0; clear c0
  have qs0 := szQueryT_le q0 1048576 (by omega)
  have QS0 := Lib.hid qs0.2.2; have qt0 := qs0.2.1; clear qs0
  go_enter Try.func6, Try.ntmps6
  go_wp2_with fail
  generalize hW1 : (World.alloc w (.cells #[.int .i64 q0.period, .int .i64 q0.props, .int .i64 q0.high, y0, z0, .bool q0.canonical] 33)) = W1 at *
  have b1 : Below w.heap.size w W1 := by rw [← hW1]; go_grown
  have BQ0 : Hid (BoxIs W1 (w.heap.size) [.int .i64 q0.period, .int .i64 q0.props, .int .i64 q0.high, y0, z0, .bool q0.canonical]) := Lib.hid (by rw [← hW1]; exact (BoxIs.new' (b := w.heap.size) (by rfl) _ _))
  have eBQ0 := BQ0.out.2.1; have sBQ0 := BQ0.out.1
  clear hW1
  have hb1 := b1
  refine (szQuery_c q0 y0 z0 1048576 W1 (A0.out.below b1) (by omega) (by omega)).mono ?_
  rintro e W2 ⟨rfl, b2⟩
  have hb2 := bthen hb1 b2
  replace BQ0 := Lib.hid (BQ0.out.below b2); replace eBQ0 := BQ0.out.2.1; replace sBQ0 := BQ0.out.1
  generalize szQueryT q0 1048576 = r0 at *
  by_cases hs0 : r0 < 0
  · go_wp2
    go_ret
    exact Gives.bool rfl hb2
  obtain ⟨hl0, hm0⟩ := QS0.out (by omega)
  go_wp2_with fail
  refine (toQuery_c q0 y0 z0 W2 ((A0.out.below b1).below b2) (by omega) (by omega)).mono ?_
  rintro e W3 ⟨ax0, nx0, cx0, dx0, mx0, kx0, rfl, ox0, b3⟩
  generalize Value.slice ax0 nx0 cx0 = yx0 at *
  generalize Value.slice dx0 mx0 kx0 = zx0 at *
  have Ox0 := Lib.hid ox0; clear ox0
  have hb3 := bthen hb2 b3
  replace BQ0 := Lib.hid (BQ0.out.below b3); replace eBQ0 := BQ0.out.2.1; replace sBQ0 := BQ0.out.1
  go_wp2_with fail
  refine (sValidQuery_c q0 yx0 zx0 W3 Ox0.out).mono ?_
  rintro e W4 ⟨rfl, b4⟩
  have hb4 := bthen hb3 b4
  replace BQ0 := Lib.hid (BQ0.out.below b4); replace eBQ0 := BQ0.out.2.1; replace sBQ0 := BQ0.out.1
  go_wp2_with fail
  refine (toQuery_c q0 y0 z0 W4 ((((A0.out.below b1).below b2).below b3).below b4) (by omega) (by omega)).mono ?_
  rintro e W5 ⟨ax1, nx1, cx1, dx1, mx1, kx1, rfl, ox1, b5⟩
  have Ox1 := Lib.hid ox1; clear ox1
  have hb5 := bthen hb4 b5
  replace BQ0 := Lib.hid (BQ0.out.below b5); replace eBQ0 := BQ0.out.2.1; replace sBQ0 := BQ0.out.1
  go_wp2_with fail
  generalize hG : World.alloc W5 (.cells #[.int .i64 q0.period, .int .i64 q0.props, .int .i64 q0.high, .slice ax1 nx1 cx1, .slice dx1 mx1 kx1, .bool q0.canonical] 36) = W6 at *
  have b6 : Below W5.heap.size W5 W6 := by rw [← hG]; go_grown
  have Bx1 : Hid (BoxIs W6 (W5.heap.size) [.int .i64 q0.period, .int .i64 q0.props, .int .i64 q0.high, .slice ax1 nx1 cx1, .slice dx1 mx1 kx1, .bool q0.canonical]) := Lib.hid (by rw [← hG]; exact BoxIs.new _ _ _)
  clear hG
  generalize Value.slice ax1 nx1 cx1 = yx1 at *
  generalize Value.slice dx1 mx1 kx1 = zx1 at *
  have hb6 := bthen hb5 b6
  replace BQ0 := Lib.hid (BQ0.out.below b6); replace eBQ0 := BQ0.out.2.1; replace sBQ0 := BQ0.out.1
  have eBx1 := Bx1.out.2.1; have sBx1 := Bx1.out.1
  refine (iValidQuery_c q0 yx1 zx1 W6 (Ox1.out.below b6)).mono ?_
  rintro e W7 ⟨rfl, b7⟩
  have hb7 := bthen hb6 b7
  replace BQ0 := Lib.hid (BQ0.out.below b7); replace eBQ0 := BQ0.out.2.1; replace sBQ0 := BQ0.out.1
  replace Bx1 := Lib.hid (Bx1.out.below b7); replace eBx1 := Bx1.out.2.1; replace sBx1 := Bx1.out.1
  cases okQueryB q0
  all_goals
    go_wp2_with fail
    go_region_held3 (fun w' => (∀ j, w'.cell? ⟨w.heap.size, j, none⟩ = ([.int .i64 q0.period, .int .i64 q0.props, .int .i64 q0.high, y0, z0, .bool q0.canonical] : List Value)[j]?) ∧ (∀ j, w'.cell? ⟨W5.heap.size, j, none⟩ = ([.int .i64 q0.period, .int .i64 q0.props, .int .i64 q0.high, yx1, zx1, .bool q0.canonical] : List Value)[j]?)) (exact ⟨eBQ0, eBx1⟩)
      (first | (go_at_call 19; (with_reducible refine (toQuery_c q0 y0 z0 _ (by exact ((((((((A0.out.below b1).below b2).below b3).below b4).below b5).below b6).below b7)).drewn) (by omega) (by omega)).mono ?_); rintro e W8 ⟨ax2, nx2, cx2, dx2, mx2, kx2, rfl, ox2, b8⟩; replace b8 := ((Below.refl W7.heap.size W7).drew).trans b8; generalize Value.slice ax2 nx2 cx2 = yx2 at *; generalize Value.slice dx2 mx2 kx2 = zx2 at *; have Ox2 := Lib.hid ox2; clear ox2; have hb8 := bthen hb7 b8; replace BQ0 := Lib.hid (BQ0.out.below b8); replace eBQ0 := BQ0.out.2.1; replace sBQ0 := BQ0.out.1; replace Bx1 := Lib.hid (Bx1.out.below b8); replace eBx1 := Bx1.out.2.1; replace sBx1 := Bx1.out.1) | (go_at_call 21; (with_reducible refine (eqQuery_c q0 q0 yx1 zx1 yx2 zx2 _ (by exact (((Ox1.out.below b6).below b7).below b8)) (by exact Ox2.out)).mono ?_); rw [(eqQueryB_iff q0 q0).2 rfl]; rintro e W9 ⟨rfl, b9⟩; have hb9 := bthen hb8 b9; replace BQ0 := Lib.hid (BQ0.out.below b9); replace eBQ0 := BQ0.out.2.1; replace sBQ0 := BQ0.out.1; replace Bx1 := Lib.hid (Bx1.out.below b9); replace eBx1 := Bx1.out.2.1; replace sBx1 := Bx1.out.1))
    go_wp2
    go_ret
    exact Gives.bool rfl hb9
set_option maxRecDepth 100000 in
set_option linter.unusedVariables false in
theorem fnExactValidQuery_lifted (os : Os) (started : os.Started) (H : Type) (enc : TypeId × Value → H) :
    ReturnsInHanded {} Try.checked os 6 .any (Rows.fnExactValidQuerySpec.pre6 enc Try.prog Try.f6 Rows.fnExactValidQueryRow.domain false) (Rows.fnExactValidQuerySpec.post enc Try.prog Try.f6 false true false false) := by
  refine returnsInHanded_of_change (C := Try.checked) own started (by kernel_rfl) Try.func6
    (ChangeSpec.witness6 (enc := enc) (C := Try.checked) false ⟨#[], #[.agg #[.int .i64 0, .int .i64 0, .int .i64 0, .slice none 0 0, .slice none 0 0, .bool false]], []⟩ 8 (by kernel_rfl) (by kernel_rfl) (by kernel_rfl) (by kernel_rfl)) ?_
  intro W base args ds gs before hval0 hW hcnd _
  have hval : ∀ (j : Nat) t v, Try.f6.params[j]? = some t → args[j]? = some v → Value.okWide Try.prog W .any base t v := hval0
  have hW' := hW
  obtain ⟨p, q, hA0, hV, rfl, hfz, hnd⟩ := hW
  have hA : DataW.TrodAll enc Try.prog W 0 (fun _ => true) true Try.f6.params.toList args.toList ds p := hA0
  rw [Try.params6] at hA hval
  obtain ⟨v0, vs0, d0, ds0, p0, q0, hargs, rfl, rfl, h0, r0⟩ := trodAll_cons hA
  obtain ⟨rfl, rfl, rfl⟩ := trodAll_nil r0
  obtain rfl : args = #[v0] := by cases args; simp_all
  obtain ⟨rfl, rfl⟩ := trodVars_none hV
  have k0 := h0
  have lt0 : ∀ x ∈ p0, x.block < W.heap.size := by obtain ⟨m, hm⟩ := k0; exact DataW.trod_lt m _ _ _ hm
  obtain ⟨q0, y0, z0, rfl, c0, w0⟩ := query_of_trod (v := v0) Try.underlying33 (by kernel_rfl) (by kernel_rfl) Try.underlying2 Try.underlying2 Try.underlying2 Try.underlying31 Try.underlying31 Try.underlying4 Try.underlying2 (by kernel_rfl) (hval 0 33 v0 rfl rfl) h0
  clear hA0 hval0
  refine (fnExactValidQuery_walk q0 y0 z0 W c0).mono fun e W' ⟨he, bel⟩ => ?_
  subst he
  exact ⟨_, rfl, _, _, _, [], _, [], hW', trodAll_mk1 (shut_bool Try.underlying4 _), (trodAll_cons_mk (Below.trod laidOut (by kernel_rfl) (of_decide_eq_true (by kernel_rfl)) k0 bel lt0) trodAll_mk0), rfl, bel.frame _, fun h => by cases h⟩
theorem fnExactValidQuery_over : Rows.fnExactValidQueryRow.holds Try.pinned (OpenSpec.ofChange Rows.fnExactValidQuerySpec) :=
  OpenClaim.holds_of_wide 6 Try.f6 rfl rfl rfl rfl rfl rfl rfl ⟨rfl, rfl, rfl, rfl, rfl⟩ rfl rfl rfl rfl rfl (by kernel_rfl) Try.func6 (by kernel_rfl)
    (of_decide_eq_true (by kernel_rfl)) (by unfold Func.isWrapper; first | (rw [if_pos (by decide +kernel)]; kernel_rfl) | (rw [if_neg (by decide +kernel)]; exact ⟨rfl, rfl⟩))
    (fun os started H enc _ => fnExactValidQuery_lifted os started H enc)
theorem fnExactValidQuery_holds : Rows.FnExactValidQuerySaid := fnExactValidQuery_over
#print axioms fnExactValidQuery_holds
end Go.Proofs.Ytecijaggcaogeaa
