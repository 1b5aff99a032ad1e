/- LawQText: the law FnExactQueryText. -/
import Derived.Test.YtnhdoppabfmonaaDoorQTx
import Derived.Test.YtnhdoppabfmonaaDoorTab
import Derived.Test.YtnhdoppabfmonaaDoorQuery2
import Derived.Test.YtnhdoppabfmonaaDoorOpen
namespace Go.Proofs.YtnhdoppabfmonaaDoor
open Go.ChangeShapes Go.WideShapes Go.ChangeAt Go.RowKit

set_option maxHeartbeats 1000000 in
set_option linter.unusedVariables false in
theorem fnExactQueryText_walk (q0 : Query) (y0 z0 : Value) (w : World) (c0 : QAt w q0 y0 z0) (ht : TabW w) :
    Calls Tryd.prog 7 #[.agg #[.int .i64 q0.period, .int .i64 q0.props, .int .i64 q0.high, y0, z0, .bool q0.canonical]] w (Gives (.bool true) w) := by
  have A0 := Lib.hid c0; clear c0
  have HTab := Lib.hid ht; clear ht
  have qs0 := szQueryT_le q0 1048576 (by omega)
  have QS0 := Lib.hid qs0.2.2; have qt0 := qs0.2.1; clear qs0
  go_enter Tryd.func7, Tryd.ntmps7
  go_wp2_with fail
  generalize hW1 : (World.alloc w (.cells #[.int .i64 q0.period, .int .i64 q0.props, .int .i64 q0.high, y0, z0, .bool q0.canonical] 45)) = W1 at *
  have b1 : Below w.heap.size w W1 := by rw [← hW1]; go_grown
  have BQ0 : Hid (BoxIs W1 (w.heap.size) [.int .i64 q0.period, .int .i64 q0.props, .int .i64 q0.high, y0, z0, .bool q0.canonical]) := Lib.hid (by rw [← hW1]; exact (BoxIs.new' (b := w.heap.size) (by rfl) _ _))
  have eBQ0 := BQ0.out.2.1; have sBQ0 := BQ0.out.1
  clear hW1
  have hb1 := b1
  refine (szQuery_c q0 y0 z0 1048576 W1 (A0.out.below b1) (by omega) (by omega)).mono ?_
  rintro e W2 ⟨rfl, b2⟩
  have hb2 := bthen hb1 b2
  replace BQ0 := Lib.hid (BQ0.out.below b2); replace eBQ0 := BQ0.out.2.1; replace sBQ0 := BQ0.out.1
  generalize szQueryT q0 1048576 = r0 at *
  by_cases hs0 : r0 < 0
  · go_wp2
    go_ret
    exact Gives.bool rfl hb2
  obtain ⟨hl0, hm0⟩ := QS0.out (by omega)
  go_wp2_with fail
  refine (toQuery_c q0 y0 z0 W2 ((A0.out.below b1).below b2) (by omega) (by omega)).mono ?_
  rintro e W3 ⟨ax0, nx0, cx0, dx0, mx0, kx0, rfl, ox0, b3⟩
  generalize Value.slice ax0 nx0 cx0 = yx0 at *
  generalize Value.slice dx0 mx0 kx0 = zx0 at *
  have Ox0 := Lib.hid ox0; clear ox0
  have hb3 := bthen hb2 b3
  replace BQ0 := Lib.hid (BQ0.out.below b3); replace eBQ0 := BQ0.out.2.1; replace sBQ0 := BQ0.out.1
  go_wp2_with fail
  refine (sQueryText_c q0 yx0 zx0 W3 Ox0.out).mono ?_
  rintro e W4 ⟨rfl, b4⟩
  have hb4 := bthen hb3 b4
  replace BQ0 := Lib.hid (BQ0.out.below b4); replace eBQ0 := BQ0.out.2.1; replace sBQ0 := BQ0.out.1
  go_wp2_with fail
  refine (toQuery_c q0 y0 z0 W4 ((((A0.out.below b1).below b2).below b3).below b4) (by omega) (by omega)).mono ?_
  rintro e W5 ⟨ax1, nx1, cx1, dx1, mx1, kx1, rfl, ox1, b5⟩
  have Ox1 := Lib.hid ox1; clear ox1
  have hb5 := bthen hb4 b5
  replace BQ0 := Lib.hid (BQ0.out.below b5); replace eBQ0 := BQ0.out.2.1; replace sBQ0 := BQ0.out.1
  go_wp2_with fail
  generalize hG : World.alloc W5 (.cells #[.int .i64 q0.period, .int .i64 q0.props, .int .i64 q0.high, .slice ax1 nx1 cx1, .slice dx1 mx1 kx1, .bool q0.canonical] 48) = W6 at *
  have b6 : Below W5.heap.size W5 W6 := by rw [← hG]; go_grown
  have Bx1 : Hid (BoxIs W6 (W5.heap.size) [.int .i64 q0.period, .int .i64 q0.props, .int .i64 q0.high, .slice ax1 nx1 cx1, .slice dx1 mx1 kx1, .bool q0.canonical]) := Lib.hid (by rw [← hG]; exact BoxIs.new _ _ _)
  clear hG
  generalize Value.slice ax1 nx1 cx1 = yx1 at *
  generalize Value.slice dx1 mx1 kx1 = zx1 at *
  have hb6 := bthen hb5 b6
  replace BQ0 := Lib.hid (BQ0.out.below b6); replace eBQ0 := BQ0.out.2.1; replace sBQ0 := BQ0.out.1
  have eBx1 := Bx1.out.2.1; have sBx1 := Bx1.out.1
  refine (iQueryText_c q0 yx1 zx1 W6 (Ox1.out.below b6) (HTab.out.below (by first | assumption | exact Below.refl _ _))).mono ?_
  rintro e W7 ⟨rfl, b7⟩
  have hb7 := bthen hb6 b7
  replace BQ0 := Lib.hid (BQ0.out.below b7); replace eBQ0 := BQ0.out.2.1; replace sBQ0 := BQ0.out.1
  replace Bx1 := Lib.hid (Bx1.out.below b7); replace eBx1 := Bx1.out.2.1; replace sBx1 := Bx1.out.1
  go_wp2_with fail
  go_region_held3 (fun w' => (∀ j, w'.cell? ⟨w.heap.size, j, none⟩ = ([.int .i64 q0.period, .int .i64 q0.props, .int .i64 q0.high, y0, z0, .bool q0.canonical] : List Value)[j]?) ∧ (∀ j, w'.cell? ⟨W5.heap.size, j, none⟩ = ([.int .i64 q0.period, .int .i64 q0.props, .int .i64 q0.high, yx1, zx1, .bool q0.canonical] : List Value)[j]?)) (exact ⟨eBQ0, eBx1⟩)
    (first | (go_at_call 29; (with_reducible refine (toQuery_c q0 y0 z0 _ (by exact ((((((((A0.out.below b1).below b2).below b3).below b4).below b5).below b6).below b7)).drewn) (by omega) (by omega)).mono ?_); rintro e W8 ⟨ax2, nx2, cx2, dx2, mx2, kx2, rfl, ox2, b8⟩; replace b8 := ((Below.refl W7.heap.size W7).drew).trans b8; generalize Value.slice ax2 nx2 cx2 = yx2 at *; generalize Value.slice dx2 mx2 kx2 = zx2 at *; have Ox2 := Lib.hid ox2; clear ox2; have hb8 := bthen hb7 b8; replace BQ0 := Lib.hid (BQ0.out.below b8); replace eBQ0 := BQ0.out.2.1; replace sBQ0 := BQ0.out.1; replace Bx1 := Lib.hid (Bx1.out.below b8); replace eBx1 := Bx1.out.2.1; replace sBx1 := Bx1.out.1) | (go_at_call 31; (with_reducible refine (eqQuery_c q0 q0 yx1 zx1 yx2 zx2 _ (by exact (((Ox1.out.below b6).below b7).below b8)) (by exact Ox2.out)).mono ?_); rw [(eqQueryB_iff q0 q0).2 rfl]; rintro e W9 ⟨rfl, b9⟩; have hb9 := bthen hb8 b9; replace BQ0 := Lib.hid (BQ0.out.below b9); replace eBQ0 := BQ0.out.2.1; replace sBQ0 := BQ0.out.1; replace Bx1 := Lib.hid (Bx1.out.below b9); replace eBx1 := Bx1.out.2.1; replace sBx1 := Bx1.out.1))
  go_wp2
  go_ret
  exact Gives.bool rfl hb9
set_option maxRecDepth 100000 in
set_option linter.unusedVariables false in
theorem fnExactQueryText_lifted (os : Os) (started : os.Started) (H : Type) (enc : TypeId × Value → H) :
    ReturnsInHanded {} Tryd.checked os 7 .any (fun w args => (Rows.fnExactQueryTextSpec.pre enc Tryd.prog Tryd.f7 Rows.fnExactQueryTextRow.domain false w args ∧ laidMetH Tryd.prog dLaid w) ∧ sizedMet enc Tryd.prog Tryd.f7 (OpenSpec.ofChange Rows.fnExactQueryTextSpec) false w args) (Rows.fnExactQueryTextSpec.post enc Tryd.prog Tryd.f7 false true false false) := by
  refine returnsInHanded_of_change_and (C := Tryd.checked) (X := fun w _ => laidMetH Tryd.prog dLaid w) (fun _ _ _ hh h => h.of_heap hh) own started (by kernel_rfl) Tryd.func7
    (ChangeSpec.witness_shaped (enc := enc) (C := Tryd.checked) (os := os) (X := fun w _ => laidMetH Tryd.prog dLaid w) false (World.doorLaid Tryd.prog doorSteps os) #[.agg #[.int .i64 0, .int .i64 0, .int .i64 0, .slice none 0 0, .slice none 0 0, .bool false]] 8 rfl (World.shaped_of_RefB (by kernel_rfl) (by kernel_rfl)) (by kernel_rfl) (by kernel_rfl) (by kernel_rfl) (door_met os _)) ?_
  intro W base args ds gs before hval0 hW _ _ hL _
  have hval : ∀ (j : Nat) t v, Tryd.f7.params[j]? = some t → args[j]? = some v → Value.okWide Tryd.prog W .any base t v := hval0
  have hW' := hW
  obtain ⟨p, q, hA0, hV, rfl, hfz, hnd⟩ := hW
  have hA : DataW.TrodAll enc Tryd.prog W 0 (fun _ => true) true Tryd.f7.params.toList args.toList ds p := hA0
  rw [Tryd.params7] at hA hval
  obtain ⟨v0, vs0, d0, ds0, p0, q0, hargs, rfl, rfl, h0, r0⟩ := trodAll_cons hA
  obtain ⟨rfl, rfl, rfl⟩ := trodAll_nil r0
  obtain rfl : args = #[v0] := by cases args; simp_all
  obtain ⟨rfl, rfl⟩ := trodVars_none hV
  have k0 := h0
  have lt0 : ∀ x ∈ p0, x.block < W.heap.size := by obtain ⟨m, hm⟩ := k0; exact DataW.trod_lt m _ _ _ hm
  obtain ⟨q0, y0, z0, rfl, c0, w0⟩ := query_of_trod (v := v0) Tryd.underlying45 (by kernel_rfl) (by kernel_rfl) Tryd.underlying2 Tryd.underlying2 Tryd.underlying2 Tryd.underlying43 Tryd.underlying43 Tryd.underlying4 Tryd.underlying2 (by kernel_rfl) (hval 0 45 v0 rfl rfl) h0
  have hTab := tab_of_laid hL
  clear hA0 hval0
  refine (fnExactQueryText_walk q0 y0 z0 W c0 hTab).mono fun e W' ⟨he, bel⟩ => ?_
  subst he
  exact ⟨_, rfl, _, _, _, [], _, [], hW', trodAll_mk1 (shut_bool Tryd.underlying4 _), (trodAll_cons_mk (Below.trod laidOut (by kernel_rfl) (of_decide_eq_true (by kernel_rfl)) k0 bel lt0) trodAll_mk0), rfl, bel.frame _, fun h => by cases h⟩
theorem fnExactQueryText_over : Rows.fnExactQueryTextRow.holds Tryd.pinned (OpenSpec.ofChange Rows.fnExactQueryTextSpec) :=
  OpenClaim.holds_of_wide 7 Tryd.f7 rfl rfl rfl rfl rfl rfl rfl ⟨rfl, rfl, rfl, rfl, rfl⟩ rfl rfl rfl rfl rfl (by kernel_rfl) Tryd.func7 (by kernel_rfl)
    (of_decide_eq_true (by kernel_rfl)) (by unfold Func.isWrapper; first | (rw [if_pos (by decide +kernel)]; kernel_rfl) | (rw [if_neg (by decide +kernel)]; exact ⟨rfl, rfl⟩))
    (fun os started H enc _ => fnExactQueryText_lifted os started H enc)
theorem fnExactQueryText_holds : Rows.FnExactQueryTextCardSaid :=
  Claim7.holds_tied_plain_at .later [] [.data, .data, .data] true Rows.fnExactQueryTextCard.stood.harness false
    fnExactQueryText_over (fun _ h => by cases h) (by kernel_rfl) (fun _ h => by cases h) fnExactQueryText_row_tie rfl ⟨rfl, rfl⟩ (by kernel_rfl) rfl
    (fun f fn hf hfn => by
      obtain rfl : f = 7 := Option.some.inj ((show Tryd.prog.funcNamed "loop.example/g00927/laws.FnExactQueryText" = some 7 by kernel_rfl).symm.trans hf) |>.symm
      obtain rfl : fn = Tryd.f7 := (Option.some.inj (Tryd.func7.symm.trans hfn)).symm
      exact ⟨by kernel_rfl, fun j t ht => by
        rw [Tryd.params7] at ht
        have hm : t ∈ [45] := by simpa using Array.mem_of_getElem? ht
        have hall : ([45].all fun u => !Tryd.prog.wantsStandIn u) = true := by kernel_rfl
        exact (show Tryd.prog.wantsStandIn t = false by simpa using List.all_eq_true.1 hall t hm)⟩)
    (by kernel_rfl)
#print axioms fnExactQueryText_holds
end Go.Proofs.YtnhdoppabfmonaaDoor
