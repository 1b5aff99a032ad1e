/- LawSameQuery: the walk of the law FnExactSameQuery, and its row. -/
import Derived.Test.YtecijaggcaogeaaQuery2
import Derived.Test.YtecijaggcaogeaaOpen
import Derived.Deep.RegionHeld3
namespace Go.Proofs.Ytecijaggcaogeaa
open Go.ChangeShapes Go.WideShapes Go.ChangeAt Go.RowKit

set_option maxHeartbeats 1000000 in
set_option linter.unusedVariables false in
theorem fnExactSameQuery_walk (q0 : Query) (y0 z0 : Value) (q1 : Query) (y1 z1 : Value) (w : World) (c0 : QAt w q0 y0 z0) (c1 : QAt w q1 y1 z1) :
    Calls Try.prog 5 #[.agg #[.int .i64 q0.period, .int .i64 q0.props, .int .i64 q0.high, y0, z0, .bool q0.canonical], .agg #[.int .i64 q1.period, .int .i64 q1.props, .int .i64 q1.high, y1, z1, .bool q1.canonical]] w (Gives (.bool true) w) := by
  have A0 := Lib.hid c0; clear c0
  have A1 := Lib.hid c1; clear c1
  have qs0 := szQueryT_le q0 1048576 (by omega)
  have QS0 := Lib.hid qs0.2.2; have qt0 := qs0.2.1; clear qs0
  go_enter Try.func5, Try.ntmps5
  go_wp2_with fail
  generalize hW1 : (World.alloc (World.alloc w (.cells #[.int .i64 q0.period, .int .i64 q0.props, .int .i64 q0.high, y0, z0, .bool q0.canonical] 33)) (.cells #[.int .i64 q1.period, .int .i64 q1.props, .int .i64 q1.high, y1, z1, .bool q1.canonical] 33)) = W1 at *
  have b1 : Below w.heap.size w W1 := by rw [← hW1]; go_grown
  have BQ0 : Hid (BoxIs W1 (w.heap.size) [.int .i64 q0.period, .int .i64 q0.props, .int .i64 q0.high, y0, z0, .bool q0.canonical]) := Lib.hid (by rw [← hW1]; exact ((BoxIs.new' (b := w.heap.size) (by rfl) _ _).alloc _))
  have eBQ0 := BQ0.out.2.1; have sBQ0 := BQ0.out.1
  have BQ1 : Hid (BoxIs W1 (w.heap.size + 1) [.int .i64 q1.period, .int .i64 q1.props, .int .i64 q1.high, y1, z1, .bool q1.canonical]) := Lib.hid (by rw [← hW1]; exact (BoxIs.new' (b := w.heap.size + 1) (by simp only [World.size_alloc]) _ _))
  have eBQ1 := BQ1.out.2.1; have sBQ1 := BQ1.out.1
  clear hW1
  have hb1 := b1
  refine (szQuery_c q0 y0 z0 1048576 W1 (A0.out.below b1) (by omega) (by omega)).mono ?_
  rintro e W2 ⟨rfl, b2⟩
  have hb2 := bthen hb1 b2
  replace BQ0 := Lib.hid (BQ0.out.below b2); replace eBQ0 := BQ0.out.2.1; replace sBQ0 := BQ0.out.1
  replace BQ1 := Lib.hid (BQ1.out.below b2); replace eBQ1 := BQ1.out.2.1; replace sBQ1 := BQ1.out.1
  generalize szQueryT q0 1048576 = r0 at *
  by_cases hs0 : r0 < 0
  · go_wp2
    go_ret
    exact Gives.bool rfl hb2
  obtain ⟨hl0, hm0⟩ := QS0.out (by omega)
  have qs1 := szQueryT_le q1 r0 (by omega)
  have QS1 := Lib.hid qs1.2.2; have qt1 := qs1.2.1; clear qs1
  go_wp2_with fail
  refine (szQuery_c q1 y1 z1 r0 W2 ((A1.out.below b1).below b2) (by omega) (by omega)).mono ?_
  rintro e W3 ⟨rfl, b3⟩
  have hb3 := bthen hb2 b3
  replace BQ0 := Lib.hid (BQ0.out.below b3); replace eBQ0 := BQ0.out.2.1; replace sBQ0 := BQ0.out.1
  replace BQ1 := Lib.hid (BQ1.out.below b3); replace eBQ1 := BQ1.out.2.1; replace sBQ1 := BQ1.out.1
  generalize szQueryT q1 r0 = r1 at *
  by_cases hs1 : r1 < 0
  · go_wp2
    go_ret
    exact Gives.bool rfl hb3
  obtain ⟨hl1, hm1⟩ := QS1.out (by omega)
  go_wp2_with fail
  go_region_held3 (fun w' => (∀ j, w'.cell? ⟨w.heap.size, j, none⟩ = ([.int .i64 q0.period, .int .i64 q0.props, .int .i64 q0.high, y0, z0, .bool q0.canonical] : List Value)[j]?) ∧ (∀ j, w'.cell? ⟨w.heap.size + 1, j, none⟩ = ([.int .i64 q1.period, .int .i64 q1.props, .int .i64 q1.high, y1, z1, .bool q1.canonical] : List Value)[j]?)) (exact ⟨eBQ0, eBQ1⟩)
    (first | (go_at_call 19; (with_reducible refine (toQuery_c q0 y0 z0 _ (by exact ((((A0.out.below b1).below b2).below b3)).drewn) (by omega) (by omega)).mono ?_); rintro e W4 ⟨ax0, nx0, cx0, dx0, mx0, kx0, rfl, ox0, b4⟩; replace b4 := ((Below.refl W3.heap.size W3).drew).trans b4; generalize Value.slice ax0 nx0 cx0 = yx0 at *; generalize Value.slice dx0 mx0 kx0 = zx0 at *; have Ox0 := Lib.hid ox0; clear ox0; have hb4 := bthen hb3 b4; replace BQ0 := Lib.hid (BQ0.out.below b4); replace eBQ0 := BQ0.out.2.1; replace sBQ0 := BQ0.out.1; replace BQ1 := Lib.hid (BQ1.out.below b4); replace eBQ1 := BQ1.out.2.1; replace sBQ1 := BQ1.out.1) | (go_at_call 19; (with_reducible refine (toQuery_c q1 y1 z1 _ (by exact ((((A1.out.below b1).below b2).below b3).below b4)) (by omega) (by omega)).mono ?_); rintro e W5 ⟨ax1, nx1, cx1, dx1, mx1, kx1, rfl, ox1, b5⟩; generalize Value.slice ax1 nx1 cx1 = yx1 at *; generalize Value.slice dx1 mx1 kx1 = zx1 at *; have Ox1 := Lib.hid ox1; clear ox1; have hb5 := bthen hb4 b5; replace BQ0 := Lib.hid (BQ0.out.below b5); replace eBQ0 := BQ0.out.2.1; replace sBQ0 := BQ0.out.1; replace BQ1 := Lib.hid (BQ1.out.below b5); replace eBQ1 := BQ1.out.2.1; replace sBQ1 := BQ1.out.1) | (go_at_call 18; (with_reducible refine (sSameQuery_c q0 q1 yx0 zx0 yx1 zx1 _ (Ox0.out.below b5) Ox1.out).mono ?_); rintro e W6 ⟨rfl, b6⟩; have hb6 := bthen hb5 b6; replace BQ0 := Lib.hid (BQ0.out.below b6); replace eBQ0 := BQ0.out.2.1; replace sBQ0 := BQ0.out.1; replace BQ1 := Lib.hid (BQ1.out.below b6); replace eBQ1 := BQ1.out.2.1; replace sBQ1 := BQ1.out.1))
  go_wp2_with fail
  refine (toQuery_c q0 y0 z0 W6 ((((((A0.out.below b1).below b2).below b3).below b4).below b5).below b6) (by omega) (by omega)).mono ?_
  rintro e W7 ⟨ax2, nx2, cx2, dx2, mx2, kx2, rfl, ox2, b7⟩
  have Ox2 := Lib.hid ox2; clear ox2
  have hb7 := bthen hb6 b7
  replace BQ0 := Lib.hid (BQ0.out.below b7); replace eBQ0 := BQ0.out.2.1; replace sBQ0 := BQ0.out.1
  replace BQ1 := Lib.hid (BQ1.out.below b7); replace eBQ1 := BQ1.out.2.1; replace sBQ1 := BQ1.out.1
  go_wp2_with fail
  generalize hG : World.alloc W7 (.cells #[.int .i64 q0.period, .int .i64 q0.props, .int .i64 q0.high, .slice ax2 nx2 cx2, .slice dx2 mx2 kx2, .bool q0.canonical] 36) = W8 at *
  have b8 : Below W7.heap.size W7 W8 := by rw [← hG]; go_grown
  have Bx2 : Hid (BoxIs W8 (W7.heap.size) [.int .i64 q0.period, .int .i64 q0.props, .int .i64 q0.high, .slice ax2 nx2 cx2, .slice dx2 mx2 kx2, .bool q0.canonical]) := Lib.hid (by rw [← hG]; exact BoxIs.new _ _ _)
  clear hG
  generalize Value.slice ax2 nx2 cx2 = yx2 at *
  generalize Value.slice dx2 mx2 kx2 = zx2 at *
  have hb8 := bthen hb7 b8
  replace BQ0 := Lib.hid (BQ0.out.below b8); replace eBQ0 := BQ0.out.2.1; replace sBQ0 := BQ0.out.1
  replace BQ1 := Lib.hid (BQ1.out.below b8); replace eBQ1 := BQ1.out.2.1; replace sBQ1 := BQ1.out.1
  have eBx2 := Bx2.out.2.1; have sBx2 := Bx2.out.1
  refine (toQuery_c q1 y1 z1 W8 ((((((((A1.out.below b1).below b2).below b3).below b4).below b5).below b6).below b7).below b8) (by omega) (by omega)).mono ?_
  rintro e W9 ⟨ax3, nx3, cx3, dx3, mx3, kx3, rfl, ox3, b9⟩
  have Ox3 := Lib.hid ox3; clear ox3
  have hb9 := bthen hb8 b9
  replace BQ0 := Lib.hid (BQ0.out.below b9); replace eBQ0 := BQ0.out.2.1; replace sBQ0 := BQ0.out.1
  replace BQ1 := Lib.hid (BQ1.out.below b9); replace eBQ1 := BQ1.out.2.1; replace sBQ1 := BQ1.out.1
  replace Bx2 := Lib.hid (Bx2.out.below b9); replace eBx2 := Bx2.out.2.1; replace sBx2 := Bx2.out.1
  go_wp2_with fail
  generalize hG : World.alloc W9 (.cells #[.int .i64 q1.period, .int .i64 q1.props, .int .i64 q1.high, .slice ax3 nx3 cx3, .slice dx3 mx3 kx3, .bool q1.canonical] 36) = W10 at *
  have b10 : Below W9.heap.size W9 W10 := by rw [← hG]; go_grown
  have Bx3 : Hid (BoxIs W10 (W9.heap.size) [.int .i64 q1.period, .int .i64 q1.props, .int .i64 q1.high, .slice ax3 nx3 cx3, .slice dx3 mx3 kx3, .bool q1.canonical]) := Lib.hid (by rw [← hG]; exact BoxIs.new _ _ _)
  clear hG
  generalize Value.slice ax3 nx3 cx3 = yx3 at *
  generalize Value.slice dx3 mx3 kx3 = zx3 at *
  have hb10 := bthen hb9 b10
  replace BQ0 := Lib.hid (BQ0.out.below b10); replace eBQ0 := BQ0.out.2.1; replace sBQ0 := BQ0.out.1
  replace BQ1 := Lib.hid (BQ1.out.below b10); replace eBQ1 := BQ1.out.2.1; replace sBQ1 := BQ1.out.1
  replace Bx2 := Lib.hid (Bx2.out.below b10); replace eBx2 := Bx2.out.2.1; replace sBx2 := Bx2.out.1
  have eBx3 := Bx3.out.2.1; have sBx3 := Bx3.out.1
  refine (iSameQuery_c q0 q1 yx2 zx2 yx3 zx3 W10 (((Ox2.out.below b8).below b9).below b10) (Ox3.out.below b10)).mono ?_
  rintro e W11 ⟨rfl, b11⟩
  have hb11 := bthen hb10 b11
  replace BQ0 := Lib.hid (BQ0.out.below b11); replace eBQ0 := BQ0.out.2.1; replace sBQ0 := BQ0.out.1
  replace BQ1 := Lib.hid (BQ1.out.below b11); replace eBQ1 := BQ1.out.2.1; replace sBQ1 := BQ1.out.1
  replace Bx2 := Lib.hid (Bx2.out.below b11); replace eBx2 := Bx2.out.2.1; replace sBx2 := Bx2.out.1
  replace Bx3 := Lib.hid (Bx3.out.below b11); replace eBx3 := Bx3.out.2.1; replace sBx3 := Bx3.out.1
  cases eqQueryB q0 q1
  all_goals
    go_wp2_with fail
    go_region_held3 (fun w' => (∀ j, w'.cell? ⟨w.heap.size, j, none⟩ = ([.int .i64 q0.period, .int .i64 q0.props, .int .i64 q0.high, y0, z0, .bool q0.canonical] : List Value)[j]?) ∧ (∀ j, w'.cell? ⟨w.heap.size + 1, j, none⟩ = ([.int .i64 q1.period, .int .i64 q1.props, .int .i64 q1.high, y1, z1, .bool q1.canonical] : List Value)[j]?) ∧ (∀ j, w'.cell? ⟨W7.heap.size, j, none⟩ = ([.int .i64 q0.period, .int .i64 q0.props, .int .i64 q0.high, yx2, zx2, .bool q0.canonical] : List Value)[j]?) ∧ (∀ j, w'.cell? ⟨W9.heap.size, j, none⟩ = ([.int .i64 q1.period, .int .i64 q1.props, .int .i64 q1.high, yx3, zx3, .bool q1.canonical] : List Value)[j]?)) (exact ⟨eBQ0, eBQ1, eBx2, eBx3⟩)
      (first | (go_at_call 19; (with_reducible refine (toQuery_c q0 y0 z0 _ (by exact ((((((((((((A0.out.below b1).below b2).below b3).below b4).below b5).below b6).below b7).below b8).below b9).below b10).below b11)).drewn) (by omega) (by omega)).mono ?_); rintro e W12 ⟨ax4, nx4, cx4, dx4, mx4, kx4, rfl, ox4, b12⟩; replace b12 := ((Below.refl W11.heap.size W11).drew).trans b12; generalize Value.slice ax4 nx4 cx4 = yx4 at *; generalize Value.slice dx4 mx4 kx4 = zx4 at *; have Ox4 := Lib.hid ox4; clear ox4; have hb12 := bthen hb11 b12; replace BQ0 := Lib.hid (BQ0.out.below b12); replace eBQ0 := BQ0.out.2.1; replace sBQ0 := BQ0.out.1; replace BQ1 := Lib.hid (BQ1.out.below b12); replace eBQ1 := BQ1.out.2.1; replace sBQ1 := BQ1.out.1; replace Bx2 := Lib.hid (Bx2.out.below b12); replace eBx2 := Bx2.out.2.1; replace sBx2 := Bx2.out.1; replace Bx3 := Lib.hid (Bx3.out.below b12); replace eBx3 := Bx3.out.2.1; replace sBx3 := Bx3.out.1) | (go_at_call 21; (with_reducible refine (eqQuery_c q0 q0 yx2 zx2 yx4 zx4 _ (by exact (((((Ox2.out.below b8).below b9).below b10).below b11).below b12)) (by exact Ox4.out)).mono ?_); rw [(eqQueryB_iff q0 q0).2 rfl]; rintro e W13 ⟨rfl, b13⟩; have hb13 := bthen hb12 b13; replace BQ0 := Lib.hid (BQ0.out.below b13); replace eBQ0 := BQ0.out.2.1; replace sBQ0 := BQ0.out.1; replace BQ1 := Lib.hid (BQ1.out.below b13); replace eBQ1 := BQ1.out.2.1; replace sBQ1 := BQ1.out.1; replace Bx2 := Lib.hid (Bx2.out.below b13); replace eBx2 := Bx2.out.2.1; replace sBx2 := Bx2.out.1; replace Bx3 := Lib.hid (Bx3.out.below b13); replace eBx3 := Bx3.out.2.1; replace sBx3 := Bx3.out.1))
    go_wp2_with fail
    go_region_held3 (fun w' => (∀ j, w'.cell? ⟨w.heap.size, j, none⟩ = ([.int .i64 q0.period, .int .i64 q0.props, .int .i64 q0.high, y0, z0, .bool q0.canonical] : List Value)[j]?) ∧ (∀ j, w'.cell? ⟨w.heap.size + 1, j, none⟩ = ([.int .i64 q1.period, .int .i64 q1.props, .int .i64 q1.high, y1, z1, .bool q1.canonical] : List Value)[j]?) ∧ (∀ j, w'.cell? ⟨W7.heap.size, j, none⟩ = ([.int .i64 q0.period, .int .i64 q0.props, .int .i64 q0.high, yx2, zx2, .bool q0.canonical] : List Value)[j]?) ∧ (∀ j, w'.cell? ⟨W9.heap.size, j, none⟩ = ([.int .i64 q1.period, .int .i64 q1.props, .int .i64 q1.high, yx3, zx3, .bool q1.canonical] : List Value)[j]?)) (exact ⟨eBQ0, eBQ1, eBx2, eBx3⟩)
      (first | (go_at_call 19; (with_reducible refine (toQuery_c q1 y1 z1 _ (by exact ((((((((((((((A1.out.below b1).below b2).below b3).below b4).below b5).below b6).below b7).below b8).below b9).below b10).below b11).below b12).below b13)).drewn) (by omega) (by omega)).mono ?_); rintro e W14 ⟨ax5, nx5, cx5, dx5, mx5, kx5, rfl, ox5, b14⟩; replace b14 := ((Below.refl W13.heap.size W13).drew).trans b14; generalize Value.slice ax5 nx5 cx5 = yx5 at *; generalize Value.slice dx5 mx5 kx5 = zx5 at *; have Ox5 := Lib.hid ox5; clear ox5; have hb14 := bthen hb13 b14; replace BQ0 := Lib.hid (BQ0.out.below b14); replace eBQ0 := BQ0.out.2.1; replace sBQ0 := BQ0.out.1; replace BQ1 := Lib.hid (BQ1.out.below b14); replace eBQ1 := BQ1.out.2.1; replace sBQ1 := BQ1.out.1; replace Bx2 := Lib.hid (Bx2.out.below b14); replace eBx2 := Bx2.out.2.1; replace sBx2 := Bx2.out.1; replace Bx3 := Lib.hid (Bx3.out.below b14); replace eBx3 := Bx3.out.2.1; replace sBx3 := Bx3.out.1) | (go_at_call 21; (with_reducible refine (eqQuery_c q1 q1 yx3 zx3 yx5 zx5 _ (by exact (((((Ox3.out.below b10).below b11).below b12).below b13).below b14)) (by exact Ox5.out)).mono ?_); rw [(eqQueryB_iff q1 q1).2 rfl]; rintro e W15 ⟨rfl, b15⟩; have hb15 := bthen hb14 b15; replace BQ0 := Lib.hid (BQ0.out.below b15); replace eBQ0 := BQ0.out.2.1; replace sBQ0 := BQ0.out.1; replace BQ1 := Lib.hid (BQ1.out.below b15); replace eBQ1 := BQ1.out.2.1; replace sBQ1 := BQ1.out.1; replace Bx2 := Lib.hid (Bx2.out.below b15); replace eBx2 := Bx2.out.2.1; replace sBx2 := Bx2.out.1; replace Bx3 := Lib.hid (Bx3.out.below b15); replace eBx3 := Bx3.out.2.1; replace sBx3 := Bx3.out.1))
    go_wp2
    go_ret
    exact Gives.bool rfl hb15
set_option maxRecDepth 100000 in
set_option linter.unusedVariables false in
theorem fnExactSameQuery_lifted (os : Os) (started : os.Started) (H : Type) (enc : TypeId × Value → H) :
    ReturnsInHanded {} Try.checked os 5 .any (Rows.fnExactSameQuerySpec.pre6 enc Try.prog Try.f5 Rows.fnExactSameQueryRow.domain false) (Rows.fnExactSameQuerySpec.post enc Try.prog Try.f5 false true false false) := by
  refine returnsInHanded_of_change (C := Try.checked) own started (by kernel_rfl) Try.func5
    (ChangeSpec.witness6 (enc := enc) (C := Try.checked) false ⟨#[], #[.agg #[.int .i64 0, .int .i64 0, .int .i64 0, .slice none 0 0, .slice none 0 0, .bool false], .agg #[.int .i64 0, .int .i64 0, .int .i64 0, .slice none 0 0, .slice none 0 0, .bool false]], []⟩ 8 (by kernel_rfl) (by kernel_rfl) (by kernel_rfl) (by kernel_rfl)) ?_
  intro W base args ds gs before hval0 hW hcnd _
  have hval : ∀ (j : Nat) t v, Try.f5.params[j]? = some t → args[j]? = some v → Value.okWide Try.prog W .any base t v := hval0
  have hW' := hW
  obtain ⟨p, q, hA0, hV, rfl, hfz, hnd⟩ := hW
  have hA : DataW.TrodAll enc Try.prog W 0 (fun _ => true) true Try.f5.params.toList args.toList ds p := hA0
  rw [Try.params5] at hA hval
  obtain ⟨v0, vs0, d0, ds0, p0, q0, hargs, rfl, rfl, h0, r0⟩ := trodAll_cons hA
  obtain ⟨v1, vs1, d1, ds1, p1, q1, rfl, rfl, rfl, h1, r1⟩ := trodAll_cons r0
  obtain ⟨rfl, rfl, rfl⟩ := trodAll_nil r1
  obtain rfl : args = #[v0, v1] := by cases args; simp_all
  obtain ⟨rfl, rfl⟩ := trodVars_none hV
  have k0 := h0
  have lt0 : ∀ x ∈ p0, x.block < W.heap.size := by obtain ⟨m, hm⟩ := k0; exact DataW.trod_lt m _ _ _ hm
  obtain ⟨q0, y0, z0, rfl, c0, w0⟩ := query_of_trod (v := v0) Try.underlying33 (by kernel_rfl) (by kernel_rfl) Try.underlying2 Try.underlying2 Try.underlying2 Try.underlying31 Try.underlying31 Try.underlying4 Try.underlying2 (by kernel_rfl) (hval 0 33 v0 rfl rfl) h0
  have k1 := h1
  have lt1 : ∀ x ∈ p1, x.block < W.heap.size := by obtain ⟨m, hm⟩ := k1; exact DataW.trod_lt m _ _ _ hm
  obtain ⟨q1, y1, z1, rfl, c1, w1⟩ := query_of_trod (v := v1) Try.underlying33 (by kernel_rfl) (by kernel_rfl) Try.underlying2 Try.underlying2 Try.underlying2 Try.underlying31 Try.underlying31 Try.underlying4 Try.underlying2 (by kernel_rfl) (hval 1 33 v1 rfl rfl) h1
  clear hA0 hval0
  refine (fnExactSameQuery_walk q0 y0 z0 q1 y1 z1 W c0 c1).mono fun e W' ⟨he, bel⟩ => ?_
  subst he
  exact ⟨_, rfl, _, _, _, [], _, [], hW', trodAll_mk1 (shut_bool Try.underlying4 _), (trodAll_cons_mk (Below.trod laidOut (by kernel_rfl) (of_decide_eq_true (by kernel_rfl)) k0 bel lt0) (trodAll_cons_mk (Below.trod laidOut (by kernel_rfl) (of_decide_eq_true (by kernel_rfl)) k1 bel lt1) trodAll_mk0)), rfl, bel.frame _, fun h => by cases h⟩
theorem fnExactSameQuery_over : Rows.fnExactSameQueryRow.holds Try.pinned (OpenSpec.ofChange Rows.fnExactSameQuerySpec) :=
  OpenClaim.holds_of_wide 5 Try.f5 rfl rfl rfl rfl rfl rfl rfl ⟨rfl, rfl, rfl, rfl, rfl⟩ rfl rfl rfl rfl rfl (by kernel_rfl) Try.func5 (by kernel_rfl)
    (of_decide_eq_true (by kernel_rfl)) (by unfold Func.isWrapper; first | (rw [if_pos (by decide +kernel)]; kernel_rfl) | (rw [if_neg (by decide +kernel)]; exact ⟨rfl, rfl⟩))
    (fun os started H enc _ => fnExactSameQuery_lifted os started H enc)
theorem fnExactSameQuery_holds : Rows.FnExactSameQuerySaid := fnExactSameQuery_over
#print axioms fnExactSameQuery_holds
end Go.Proofs.Ytecijaggcaogeaa
