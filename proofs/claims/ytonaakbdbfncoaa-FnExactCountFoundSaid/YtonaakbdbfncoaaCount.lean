/- Count: CountFound and QueryVisits, walked in both packages; their laws' rows. -/
import Derived.Test.YtonaakbdbfncoaaSearchP
import Derived.Test.YtonaakbdbfncoaaOpen
import Derived.Deep.RegionHeld3
namespace Go.Proofs.Ytonaakbdbfncoaa
open Go.ChangeShapes Go.WideShapes Go.ChangeAt Go.RowKit

def countI (q : Query) : Int := if searchCode q = 0 then ((treeR q).2.length : Int) else 0
def visitsI (q : Query) : Int := if searchCode q = 0 then ((treeR q).1 : Int) else 0
set_option maxRecDepth 100000 in
set_option maxHeartbeats 2000000 in
theorem sCountFound_c (q : Query) (y z : Value) (w : World) (hQ : QAt w q y z) :
    Calls Try.prog 9 #[.agg #[.int .i64 q.period, .int .i64 q.props, .int .i64 q.high, y, z, .bool q.canonical]] w (Gives (.tuple #[.int .i64 (countI q), .int .i64 (searchCode q)]) w) := by
  have HQ := Lib.hid hQ; clear hQ
  go_enter Try.func9, Try.ntmps9
  go_wp2_with fail
  refine (l21All_c q y z w.heap.size _ (BoxIs.new w _ _) (HQ.out.below (by go_grown))).mono ?_
  rintro e w1 ⟨hb1, ⟨hm, p, rfl⟩ | ⟨hm, b, rfl, hc⟩⟩
  · have HC := Lib.hid (searchCode_1 hm)
    have hb := bthen (by go_grown : Below w.heap.size w _) hb1
    clear hm
    go_wp2
    go_ret2
    exact Gives.ii (by unfold countI; rw [HC.out]; rfl) HC.out hb
  · have hb := bthen (by go_grown : Below w.heap.size w _) hb1
    have HCC := Lib.hid hc
    clear hc
    by_cases h0 : searchCode q = 0
    · have HC := Lib.hid h0
      obtain ⟨c4, c8⟩ := HCC.out h0
      rw [h0]
      clear h0 hm
      go_wp2
      go_ret2
      exact Gives.ii (by unfold countI; rw [if_pos HC.out]) HC.out hb
    · have HC := Lib.hid h0
      have hne : (searchCode q == 0) = false := beq_eq_false_iff_ne.2 h0
      generalize hs : searchCode q = s at *
      clear h0 hm
      go_wp2
      go_ret2
      exact Gives.ii (by unfold countI; rw [hs, if_neg HC.out]) rfl hb
set_option maxRecDepth 100000 in
set_option maxHeartbeats 2000000 in
theorem iCountFound_c (q : Query) (y z : Value) (w : World) (hQ : QAt w q y z) :
    Calls Try.prog 11 #[.agg #[.int .i64 q.period, .int .i64 q.props, .int .i64 q.high, y, z, .bool q.canonical]] w (Gives (.tuple #[.int .i64 (countI q), .int .i64 (searchCode q)]) w) := by
  have HQ := Lib.hid hQ; clear hQ
  have HK1 := Lib.hid (fun W x => iValidQuery_c q y z W x)
  have HK2 := Lib.hid (fun W x h => searched_c q y z W x h)
  generalize hm : okQueryB q = m at *
  cases m
  · have HC := Lib.hid (searchCode_1 hm)
    clear hm HK2
    go_enter Try.func11, Try.ntmps11
    go_wp2_with fail
    refine (HK1.out _ (HQ.out.below (by go_grown))).mono ?_
    rintro e w1 ⟨rfl, hb1⟩
    have hb := bthen (by go_grown : Below w.heap.size w _) hb1
    go_wp2
    go_ret2
    exact Gives.ii (by unfold countI; rw [HC.out]; rfl) HC.out hb
  · have HO := Lib.hid hm
    clear hm
    go_enter Try.func11, Try.ntmps11
    go_wp2_with fail
    refine (HK1.out _ (HQ.out.below (by go_grown))).mono ?_
    rintro e w1 ⟨rfl, hb1⟩
    have hb := bthen (by go_grown : Below w.heap.size w _) hb1
    have HB := Lib.hid ((BoxIs.new w [.int .i64 q.period, .int .i64 q.props, .int .i64 q.high, y, z, .bool q.canonical] 28).below hb1)
    obtain ⟨e0, f0⟩ := HB.out.cells
    go_wp2_with fail
    refine (HK2.out _ (HQ.out.below hb) trivial).mono ?_
    rintro e w2 ⟨hb2, ⟨hv, rfl⟩ | ⟨hv, b, lv, fv, ps, rfl, hI, hF⟩⟩
    · have HC : Hid (searchCode q = 5) := Lib.hid (searchCode_5 HO.out (by
        rcases Nat.lt_or_ge 20000 (treeR q).1 with h | h
        · exact h
        · have := search_tree.1 h; rw [this] at hv; dsimp only at hv; omega))
      clear hv HK1 HK2 HB e0 f0
      go_wp2
      go_ret2
      exact Gives.ii (by unfold countI; rw [HC.out]; rfl) HC.out (bthen hb hb2)
    · have ht : (treeR q).1 ≤ 20000 := by
        rcases Nat.lt_or_ge 20000 (treeR q).1 with h | h
        · have := search_tree.2 h; omega
        · exact h
      have HC : Hid (searchCode q = 0) := Lib.hid (searchCode_0 HO.out ht)
      have hS := search_tree.1 ht
      have c20 := hI.box.c20; obtain ⟨fa, fn, fc, rfl⟩ := hI.fs; have hfn : fn = (treeR q).2.length := (by have h := congrArg List.length hF; rw [List.length_map, hS] at h; obtain ⟨_, _, e⟩ := slice_of_own hI.row; injection e with _ e2 _; exact e2.trans h); rw [hfn] at c20; clear hfn
      clear hv HK1 HK2 HB e0 f0 hI hF hS ht
      go_wp2
      go_ret2
      exact Gives.ii (by unfold countI; rw [if_pos HC.out]) HC.out (bthen hb hb2)
set_option maxRecDepth 100000 in
set_option maxHeartbeats 2000000 in
theorem sQueryVisits_c (q : Query) (y z : Value) (w : World) (hQ : QAt w q y z) :
    Calls Try.prog 13 #[.agg #[.int .i64 q.period, .int .i64 q.props, .int .i64 q.high, y, z, .bool q.canonical]] w (Gives (.tuple #[.int .i64 (visitsI q), .int .i64 (searchCode q)]) w) := by
  have HQ := Lib.hid hQ; clear hQ
  go_enter Try.func13, Try.ntmps13
  go_wp2_with fail
  refine (l21All_c q y z w.heap.size _ (BoxIs.new w _ _) (HQ.out.below (by go_grown))).mono ?_
  rintro e w1 ⟨hb1, ⟨hm, p, rfl⟩ | ⟨hm, b, rfl, hc⟩⟩
  · have HC := Lib.hid (searchCode_1 hm)
    have hb := bthen (by go_grown : Below w.heap.size w _) hb1
    clear hm
    go_wp2
    go_ret2
    exact Gives.ii (by unfold visitsI; rw [HC.out]; rfl) HC.out hb
  · have hb := bthen (by go_grown : Below w.heap.size w _) hb1
    have HCC := Lib.hid hc
    clear hc
    by_cases h0 : searchCode q = 0
    · have HC := Lib.hid h0
      obtain ⟨c4, c8⟩ := HCC.out h0
      rw [h0]
      clear h0 hm
      go_wp2
      go_ret2
      exact Gives.ii (by unfold visitsI; rw [if_pos HC.out]) HC.out hb
    · have HC := Lib.hid h0
      have hne : (searchCode q == 0) = false := beq_eq_false_iff_ne.2 h0
      generalize hs : searchCode q = s at *
      clear h0 hm
      go_wp2
      go_ret2
      exact Gives.ii (by unfold visitsI; rw [hs, if_neg HC.out]) rfl hb
set_option maxRecDepth 100000 in
set_option maxHeartbeats 2000000 in
theorem iQueryVisits_c (q : Query) (y z : Value) (w : World) (hQ : QAt w q y z) :
    Calls Try.prog 14 #[.agg #[.int .i64 q.period, .int .i64 q.props, .int .i64 q.high, y, z, .bool q.canonical]] w (Gives (.tuple #[.int .i64 (visitsI q), .int .i64 (searchCode q)]) w) := by
  have HQ := Lib.hid hQ; clear hQ
  have HK1 := Lib.hid (fun W x => iValidQuery_c q y z W x)
  have HK2 := Lib.hid (fun W x h => searched_c q y z W x h)
  generalize hm : okQueryB q = m at *
  cases m
  · have HC := Lib.hid (searchCode_1 hm)
    clear hm HK2
    go_enter Try.func14, Try.ntmps14
    go_wp2_with fail
    refine (HK1.out _ (HQ.out.below (by go_grown))).mono ?_
    rintro e w1 ⟨rfl, hb1⟩
    have hb := bthen (by go_grown : Below w.heap.size w _) hb1
    go_wp2
    go_ret2
    exact Gives.ii (by unfold visitsI; rw [HC.out]; rfl) HC.out hb
  · have HO := Lib.hid hm
    clear hm
    go_enter Try.func14, Try.ntmps14
    go_wp2_with fail
    refine (HK1.out _ (HQ.out.below (by go_grown))).mono ?_
    rintro e w1 ⟨rfl, hb1⟩
    have hb := bthen (by go_grown : Below w.heap.size w _) hb1
    have HB := Lib.hid ((BoxIs.new w [.int .i64 q.period, .int .i64 q.props, .int .i64 q.high, y, z, .bool q.canonical] 28).below hb1)
    obtain ⟨e0, f0⟩ := HB.out.cells
    go_wp2_with fail
    refine (HK2.out _ (HQ.out.below hb) trivial).mono ?_
    rintro e w2 ⟨hb2, ⟨hv, rfl⟩ | ⟨hv, b, lv, fv, ps, rfl, hI, hF⟩⟩
    · have HC : Hid (searchCode q = 5) := Lib.hid (searchCode_5 HO.out (by
        rcases Nat.lt_or_ge 20000 (treeR q).1 with h | h
        · exact h
        · have := search_tree.1 h; rw [this] at hv; dsimp only at hv; omega))
      clear hv HK1 HK2 HB e0 f0
      go_wp2
      go_ret2
      exact Gives.ii (by unfold visitsI; rw [HC.out]; rfl) HC.out (bthen hb hb2)
    · have ht : (treeR q).1 ≤ 20000 := by
        rcases Nat.lt_or_ge 20000 (treeR q).1 with h | h
        · have := search_tree.2 h; omega
        · exact h
      have HC : Hid (searchCode q = 0) := Lib.hid (searchCode_0 HO.out ht)
      have hS := search_tree.1 ht
      have c19 := hI.box.c19; rw [hS] at c19; dsimp only at c19
      clear hv HK1 HK2 HB e0 f0 hI hF hS ht
      go_wp2
      go_ret2
      exact Gives.ii (by unfold visitsI; rw [if_pos HC.out]) HC.out (bthen hb hb2)
set_option maxHeartbeats 1000000 in
set_option linter.unusedVariables false in
theorem fnExactCountFound_walk (q0 : Query) (y0 z0 : Value) (w : World) (c0 : QAt w q0 y0 z0) :
    Calls Try.prog 3 #[.agg #[.int .i64 q0.period, .int .i64 q0.props, .int .i64 q0.high, y0, z0, .bool q0.canonical]] w (Gives (.bool true) w) := by
  have A0 := Lib.hid c0; clear c0
  have qs0 := szQueryT_le q0 1048576 (by omega)
  have QS0 := Lib.hid qs0.2.2; have qt0 := qs0.2.1; clear qs0
  go_enter Try.func3, Try.ntmps3
  go_wp2_with fail
  generalize hW1 : (World.alloc w (.cells #[.int .i64 q0.period, .int .i64 q0.props, .int .i64 q0.high, y0, z0, .bool q0.canonical] 24)) = W1 at *
  have b1 : Below w.heap.size w W1 := by rw [← hW1]; go_grown
  have BQ0 : Hid (BoxIs W1 (w.heap.size) [.int .i64 q0.period, .int .i64 q0.props, .int .i64 q0.high, y0, z0, .bool q0.canonical]) := Lib.hid (by rw [← hW1]; exact (BoxIs.new' (b := w.heap.size) (by rfl) _ _))
  have eBQ0 := BQ0.out.2.1; have sBQ0 := BQ0.out.1
  clear hW1
  have hb1 := b1
  refine (szQuery_c q0 y0 z0 1048576 W1 (A0.out.below b1) (by omega) (by omega)).mono ?_
  rintro e W2 ⟨rfl, b2⟩
  have hb2 := bthen hb1 b2
  replace BQ0 := Lib.hid (BQ0.out.below b2); replace eBQ0 := BQ0.out.2.1; replace sBQ0 := BQ0.out.1
  generalize szQueryT q0 1048576 = r0 at *
  by_cases hs0 : r0 < 0
  · go_wp2
    go_ret
    exact Gives.bool rfl hb2
  obtain ⟨hl0, hm0⟩ := QS0.out (by omega)
  go_wp2_with fail
  refine (toQuery_c q0 y0 z0 W2 ((A0.out.below b1).below b2) (by omega) (by omega)).mono ?_
  rintro e W3 ⟨ax0, nx0, cx0, dx0, mx0, kx0, rfl, ox0, b3⟩
  generalize Value.slice ax0 nx0 cx0 = yx0 at *
  generalize Value.slice dx0 mx0 kx0 = zx0 at *
  have Ox0 := Lib.hid ox0; clear ox0
  have hb3 := bthen hb2 b3
  replace BQ0 := Lib.hid (BQ0.out.below b3); replace eBQ0 := BQ0.out.2.1; replace sBQ0 := BQ0.out.1
  go_wp2_with fail
  refine (sCountFound_c q0 yx0 zx0 W3 Ox0.out).mono ?_
  rintro e W4 ⟨rfl, b4⟩
  have hb4 := bthen hb3 b4
  replace BQ0 := Lib.hid (BQ0.out.below b4); replace eBQ0 := BQ0.out.2.1; replace sBQ0 := BQ0.out.1
  go_wp2_with fail
  refine (toQuery_c q0 y0 z0 W4 ((((A0.out.below b1).below b2).below b3).below b4) (by omega) (by omega)).mono ?_
  rintro e W5 ⟨ax1, nx1, cx1, dx1, mx1, kx1, rfl, ox1, b5⟩
  have Ox1 := Lib.hid ox1; clear ox1
  have hb5 := bthen hb4 b5
  replace BQ0 := Lib.hid (BQ0.out.below b5); replace eBQ0 := BQ0.out.2.1; replace sBQ0 := BQ0.out.1
  go_wp2_with fail
  generalize hG : World.alloc W5 (.cells #[.int .i64 q0.period, .int .i64 q0.props, .int .i64 q0.high, .slice ax1 nx1 cx1, .slice dx1 mx1 kx1, .bool q0.canonical] 28) = W6 at *
  have b6 : Below W5.heap.size W5 W6 := by rw [← hG]; go_grown
  have Bx1 : Hid (BoxIs W6 (W5.heap.size) [.int .i64 q0.period, .int .i64 q0.props, .int .i64 q0.high, .slice ax1 nx1 cx1, .slice dx1 mx1 kx1, .bool q0.canonical]) := Lib.hid (by rw [← hG]; exact BoxIs.new _ _ _)
  clear hG
  generalize Value.slice ax1 nx1 cx1 = yx1 at *
  generalize Value.slice dx1 mx1 kx1 = zx1 at *
  have hb6 := bthen hb5 b6
  replace BQ0 := Lib.hid (BQ0.out.below b6); replace eBQ0 := BQ0.out.2.1; replace sBQ0 := BQ0.out.1
  have eBx1 := Bx1.out.2.1; have sBx1 := Bx1.out.1
  refine (iCountFound_c q0 yx1 zx1 W6 (Ox1.out.below b6)).mono ?_
  rintro e W7 ⟨rfl, b7⟩
  have hb7 := bthen hb6 b7
  replace BQ0 := Lib.hid (BQ0.out.below b7); replace eBQ0 := BQ0.out.2.1; replace sBQ0 := BQ0.out.1
  replace Bx1 := Lib.hid (Bx1.out.below b7); replace eBx1 := Bx1.out.2.1; replace sBx1 := Bx1.out.1
  go_wp2_with fail
  go_region_held3 (fun w' => (∀ j, w'.cell? ⟨w.heap.size, j, none⟩ = ([.int .i64 q0.period, .int .i64 q0.props, .int .i64 q0.high, y0, z0, .bool q0.canonical] : List Value)[j]?) ∧ (∀ j, w'.cell? ⟨W5.heap.size, j, none⟩ = ([.int .i64 q0.period, .int .i64 q0.props, .int .i64 q0.high, yx1, zx1, .bool q0.canonical] : List Value)[j]?)) (exact ⟨eBQ0, eBx1⟩)
    (first | (go_at_call 10; (with_reducible refine (toQuery_c q0 y0 z0 _ (by exact ((((((((A0.out.below b1).below b2).below b3).below b4).below b5).below b6).below b7)).drewn) (by omega) (by omega)).mono ?_); rintro e W8 ⟨ax2, nx2, cx2, dx2, mx2, kx2, rfl, ox2, b8⟩; replace b8 := ((Below.refl W7.heap.size W7).drew).trans b8; generalize Value.slice ax2 nx2 cx2 = yx2 at *; generalize Value.slice dx2 mx2 kx2 = zx2 at *; have Ox2 := Lib.hid ox2; clear ox2; have hb8 := bthen hb7 b8; replace BQ0 := Lib.hid (BQ0.out.below b8); replace eBQ0 := BQ0.out.2.1; replace sBQ0 := BQ0.out.1; replace Bx1 := Lib.hid (Bx1.out.below b8); replace eBx1 := Bx1.out.2.1; replace sBx1 := Bx1.out.1) | (go_at_call 12; (with_reducible refine (eqQuery_c q0 q0 yx1 zx1 yx2 zx2 _ (by exact (((Ox1.out.below b6).below b7).below b8)) (by exact Ox2.out)).mono ?_); rw [(eqQueryB_iff q0 q0).2 rfl]; rintro e W9 ⟨rfl, b9⟩; have hb9 := bthen hb8 b9; replace BQ0 := Lib.hid (BQ0.out.below b9); replace eBQ0 := BQ0.out.2.1; replace sBQ0 := BQ0.out.1; replace Bx1 := Lib.hid (Bx1.out.below b9); replace eBx1 := Bx1.out.2.1; replace sBx1 := Bx1.out.1))
  go_wp2
  go_ret
  exact Gives.bool rfl hb9
set_option maxRecDepth 100000 in
set_option linter.unusedVariables false in
theorem fnExactCountFound_lifted (os : Os) (started : os.Started) (H : Type) (enc : TypeId × Value → H) :
    ReturnsInHanded {} Try.checked os 3 .any (Rows.fnExactCountFoundSpec.pre6 enc Try.prog Try.f3 Rows.fnExactCountFoundRow.domain false) (Rows.fnExactCountFoundSpec.post enc Try.prog Try.f3 false true false false) := by
  refine returnsInHanded_of_change (C := Try.checked) own started (by kernel_rfl) Try.func3
    (ChangeSpec.witness6 (enc := enc) (C := Try.checked) false ⟨#[], #[.agg #[.int .i64 0, .int .i64 0, .int .i64 0, .slice none 0 0, .slice none 0 0, .bool false]], []⟩ 8 (by kernel_rfl) (by kernel_rfl) (by kernel_rfl) (by kernel_rfl)) ?_
  intro W base args ds gs before hval0 hW hcnd _
  have hval : ∀ (j : Nat) t v, Try.f3.params[j]? = some t → args[j]? = some v → Value.okWide Try.prog W .any base t v := hval0
  have hW' := hW
  obtain ⟨p, q, hA0, hV, rfl, hfz, hnd⟩ := hW
  have hA : DataW.TrodAll enc Try.prog W 0 (fun _ => true) true Try.f3.params.toList args.toList ds p := hA0
  rw [Try.params3] at hA hval
  obtain ⟨v0, vs0, d0, ds0, p0, q0, hargs, rfl, rfl, h0, r0⟩ := trodAll_cons hA
  obtain ⟨rfl, rfl, rfl⟩ := trodAll_nil r0
  obtain rfl : args = #[v0] := by cases args; simp_all
  obtain ⟨rfl, rfl⟩ := trodVars_none hV
  have k0 := h0
  have lt0 : ∀ x ∈ p0, x.block < W.heap.size := by obtain ⟨m, hm⟩ := k0; exact DataW.trod_lt m _ _ _ hm
  obtain ⟨q0, y0, z0, rfl, c0, w0⟩ := query_of_trod (v := v0) Try.underlying24 (by kernel_rfl) (by kernel_rfl) Try.underlying2 Try.underlying2 Try.underlying2 Try.underlying22 Try.underlying22 Try.underlying4 Try.underlying2 (by kernel_rfl) (hval 0 24 v0 rfl rfl) h0
  clear hA0 hval0
  refine (fnExactCountFound_walk q0 y0 z0 W c0).mono fun e W' ⟨he, bel⟩ => ?_
  subst he
  exact ⟨_, rfl, _, _, _, [], _, [], hW', trodAll_mk1 (shut_bool Try.underlying4 _), (trodAll_cons_mk (Below.trod laidOut (by kernel_rfl) (of_decide_eq_true (by kernel_rfl)) k0 bel lt0) trodAll_mk0), rfl, bel.frame _, fun h => by cases h⟩
theorem fnExactCountFound_over : Rows.fnExactCountFoundRow.holds Try.pinned (OpenSpec.ofChange Rows.fnExactCountFoundSpec) :=
  OpenClaim.holds_of_wide 3 Try.f3 rfl rfl rfl rfl rfl rfl rfl ⟨rfl, rfl, rfl, rfl, rfl⟩ rfl rfl rfl rfl rfl (by kernel_rfl) Try.func3 (by kernel_rfl)
    (of_decide_eq_true (by kernel_rfl)) (by unfold Func.isWrapper; first | (rw [if_pos (by decide +kernel)]; kernel_rfl) | (rw [if_neg (by decide +kernel)]; exact ⟨rfl, rfl⟩))
    (fun os started H enc _ => fnExactCountFound_lifted os started H enc)
theorem fnExactCountFound_holds : Rows.FnExactCountFoundSaid := fnExactCountFound_over
#print axioms fnExactCountFound_holds
set_option maxHeartbeats 1000000 in
set_option linter.unusedVariables false in
theorem fnExactQueryVisits_walk (q0 : Query) (y0 z0 : Value) (w : World) (c0 : QAt w q0 y0 z0) :
    Calls Try.prog 4 #[.agg #[.int .i64 q0.period, .int .i64 q0.props, .int .i64 q0.high, y0, z0, .bool q0.canonical]] w (Gives (.bool true) w) := by
  have A0 := Lib.hid c0; clear c0
  have qs0 := szQueryT_le q0 1048576 (by omega)
  have QS0 := Lib.hid qs0.2.2; have qt0 := qs0.2.1; clear qs0
  go_enter Try.func4, Try.ntmps4
  go_wp2_with fail
  generalize hW1 : (World.alloc w (.cells #[.int .i64 q0.period, .int .i64 q0.props, .int .i64 q0.high, y0, z0, .bool q0.canonical] 24)) = W1 at *
  have b1 : Below w.heap.size w W1 := by rw [← hW1]; go_grown
  have BQ0 : Hid (BoxIs W1 (w.heap.size) [.int .i64 q0.period, .int .i64 q0.props, .int .i64 q0.high, y0, z0, .bool q0.canonical]) := Lib.hid (by rw [← hW1]; exact (BoxIs.new' (b := w.heap.size) (by rfl) _ _))
  have eBQ0 := BQ0.out.2.1; have sBQ0 := BQ0.out.1
  clear hW1
  have hb1 := b1
  refine (szQuery_c q0 y0 z0 1048576 W1 (A0.out.below b1) (by omega) (by omega)).mono ?_
  rintro e W2 ⟨rfl, b2⟩
  have hb2 := bthen hb1 b2
  replace BQ0 := Lib.hid (BQ0.out.below b2); replace eBQ0 := BQ0.out.2.1; replace sBQ0 := BQ0.out.1
  generalize szQueryT q0 1048576 = r0 at *
  by_cases hs0 : r0 < 0
  · go_wp2
    go_ret
    exact Gives.bool rfl hb2
  obtain ⟨hl0, hm0⟩ := QS0.out (by omega)
  go_wp2_with fail
  refine (toQuery_c q0 y0 z0 W2 ((A0.out.below b1).below b2) (by omega) (by omega)).mono ?_
  rintro e W3 ⟨ax0, nx0, cx0, dx0, mx0, kx0, rfl, ox0, b3⟩
  generalize Value.slice ax0 nx0 cx0 = yx0 at *
  generalize Value.slice dx0 mx0 kx0 = zx0 at *
  have Ox0 := Lib.hid ox0; clear ox0
  have hb3 := bthen hb2 b3
  replace BQ0 := Lib.hid (BQ0.out.below b3); replace eBQ0 := BQ0.out.2.1; replace sBQ0 := BQ0.out.1
  go_wp2_with fail
  refine (sQueryVisits_c q0 yx0 zx0 W3 Ox0.out).mono ?_
  rintro e W4 ⟨rfl, b4⟩
  have hb4 := bthen hb3 b4
  replace BQ0 := Lib.hid (BQ0.out.below b4); replace eBQ0 := BQ0.out.2.1; replace sBQ0 := BQ0.out.1
  go_wp2_with fail
  refine (toQuery_c q0 y0 z0 W4 ((((A0.out.below b1).below b2).below b3).below b4) (by omega) (by omega)).mono ?_
  rintro e W5 ⟨ax1, nx1, cx1, dx1, mx1, kx1, rfl, ox1, b5⟩
  have Ox1 := Lib.hid ox1; clear ox1
  have hb5 := bthen hb4 b5
  replace BQ0 := Lib.hid (BQ0.out.below b5); replace eBQ0 := BQ0.out.2.1; replace sBQ0 := BQ0.out.1
  go_wp2_with fail
  generalize hG : World.alloc W5 (.cells #[.int .i64 q0.period, .int .i64 q0.props, .int .i64 q0.high, .slice ax1 nx1 cx1, .slice dx1 mx1 kx1, .bool q0.canonical] 28) = W6 at *
  have b6 : Below W5.heap.size W5 W6 := by rw [← hG]; go_grown
  have Bx1 : Hid (BoxIs W6 (W5.heap.size) [.int .i64 q0.period, .int .i64 q0.props, .int .i64 q0.high, .slice ax1 nx1 cx1, .slice dx1 mx1 kx1, .bool q0.canonical]) := Lib.hid (by rw [← hG]; exact BoxIs.new _ _ _)
  clear hG
  generalize Value.slice ax1 nx1 cx1 = yx1 at *
  generalize Value.slice dx1 mx1 kx1 = zx1 at *
  have hb6 := bthen hb5 b6
  replace BQ0 := Lib.hid (BQ0.out.below b6); replace eBQ0 := BQ0.out.2.1; replace sBQ0 := BQ0.out.1
  have eBx1 := Bx1.out.2.1; have sBx1 := Bx1.out.1
  refine (iQueryVisits_c q0 yx1 zx1 W6 (Ox1.out.below b6)).mono ?_
  rintro e W7 ⟨rfl, b7⟩
  have hb7 := bthen hb6 b7
  replace BQ0 := Lib.hid (BQ0.out.below b7); replace eBQ0 := BQ0.out.2.1; replace sBQ0 := BQ0.out.1
  replace Bx1 := Lib.hid (Bx1.out.below b7); replace eBx1 := Bx1.out.2.1; replace sBx1 := Bx1.out.1
  go_wp2_with fail
  go_region_held3 (fun w' => (∀ j, w'.cell? ⟨w.heap.size, j, none⟩ = ([.int .i64 q0.period, .int .i64 q0.props, .int .i64 q0.high, y0, z0, .bool q0.canonical] : List Value)[j]?) ∧ (∀ j, w'.cell? ⟨W5.heap.size, j, none⟩ = ([.int .i64 q0.period, .int .i64 q0.props, .int .i64 q0.high, yx1, zx1, .bool q0.canonical] : List Value)[j]?)) (exact ⟨eBQ0, eBx1⟩)
    (first | (go_at_call 10; (with_reducible refine (toQuery_c q0 y0 z0 _ (by exact ((((((((A0.out.below b1).below b2).below b3).below b4).below b5).below b6).below b7)).drewn) (by omega) (by omega)).mono ?_); rintro e W8 ⟨ax2, nx2, cx2, dx2, mx2, kx2, rfl, ox2, b8⟩; replace b8 := ((Below.refl W7.heap.size W7).drew).trans b8; generalize Value.slice ax2 nx2 cx2 = yx2 at *; generalize Value.slice dx2 mx2 kx2 = zx2 at *; have Ox2 := Lib.hid ox2; clear ox2; have hb8 := bthen hb7 b8; replace BQ0 := Lib.hid (BQ0.out.below b8); replace eBQ0 := BQ0.out.2.1; replace sBQ0 := BQ0.out.1; replace Bx1 := Lib.hid (Bx1.out.below b8); replace eBx1 := Bx1.out.2.1; replace sBx1 := Bx1.out.1) | (go_at_call 12; (with_reducible refine (eqQuery_c q0 q0 yx1 zx1 yx2 zx2 _ (by exact (((Ox1.out.below b6).below b7).below b8)) (by exact Ox2.out)).mono ?_); rw [(eqQueryB_iff q0 q0).2 rfl]; rintro e W9 ⟨rfl, b9⟩; have hb9 := bthen hb8 b9; replace BQ0 := Lib.hid (BQ0.out.below b9); replace eBQ0 := BQ0.out.2.1; replace sBQ0 := BQ0.out.1; replace Bx1 := Lib.hid (Bx1.out.below b9); replace eBx1 := Bx1.out.2.1; replace sBx1 := Bx1.out.1))
  go_wp2
  go_ret
  exact Gives.bool rfl hb9
set_option maxRecDepth 100000 in
set_option linter.unusedVariables false in
theorem fnExactQueryVisits_lifted (os : Os) (started : os.Started) (H : Type) (enc : TypeId × Value → H) :
    ReturnsInHanded {} Try.checked os 4 .any (Rows.fnExactQueryVisitsSpec.pre6 enc Try.prog Try.f4 Rows.fnExactQueryVisitsRow.domain false) (Rows.fnExactQueryVisitsSpec.post enc Try.prog Try.f4 false true false false) := by
  refine returnsInHanded_of_change (C := Try.checked) own started (by kernel_rfl) Try.func4
    (ChangeSpec.witness6 (enc := enc) (C := Try.checked) false ⟨#[], #[.agg #[.int .i64 0, .int .i64 0, .int .i64 0, .slice none 0 0, .slice none 0 0, .bool false]], []⟩ 8 (by kernel_rfl) (by kernel_rfl) (by kernel_rfl) (by kernel_rfl)) ?_
  intro W base args ds gs before hval0 hW hcnd _
  have hval : ∀ (j : Nat) t v, Try.f4.params[j]? = some t → args[j]? = some v → Value.okWide Try.prog W .any base t v := hval0
  have hW' := hW
  obtain ⟨p, q, hA0, hV, rfl, hfz, hnd⟩ := hW
  have hA : DataW.TrodAll enc Try.prog W 0 (fun _ => true) true Try.f4.params.toList args.toList ds p := hA0
  rw [Try.params4] at hA hval
  obtain ⟨v0, vs0, d0, ds0, p0, q0, hargs, rfl, rfl, h0, r0⟩ := trodAll_cons hA
  obtain ⟨rfl, rfl, rfl⟩ := trodAll_nil r0
  obtain rfl : args = #[v0] := by cases args; simp_all
  obtain ⟨rfl, rfl⟩ := trodVars_none hV
  have k0 := h0
  have lt0 : ∀ x ∈ p0, x.block < W.heap.size := by obtain ⟨m, hm⟩ := k0; exact DataW.trod_lt m _ _ _ hm
  obtain ⟨q0, y0, z0, rfl, c0, w0⟩ := query_of_trod (v := v0) Try.underlying24 (by kernel_rfl) (by kernel_rfl) Try.underlying2 Try.underlying2 Try.underlying2 Try.underlying22 Try.underlying22 Try.underlying4 Try.underlying2 (by kernel_rfl) (hval 0 24 v0 rfl rfl) h0
  clear hA0 hval0
  refine (fnExactQueryVisits_walk q0 y0 z0 W c0).mono fun e W' ⟨he, bel⟩ => ?_
  subst he
  exact ⟨_, rfl, _, _, _, [], _, [], hW', trodAll_mk1 (shut_bool Try.underlying4 _), (trodAll_cons_mk (Below.trod laidOut (by kernel_rfl) (of_decide_eq_true (by kernel_rfl)) k0 bel lt0) trodAll_mk0), rfl, bel.frame _, fun h => by cases h⟩
theorem fnExactQueryVisits_over : Rows.fnExactQueryVisitsRow.holds Try.pinned (OpenSpec.ofChange Rows.fnExactQueryVisitsSpec) :=
  OpenClaim.holds_of_wide 4 Try.f4 rfl rfl rfl rfl rfl rfl rfl ⟨rfl, rfl, rfl, rfl, rfl⟩ rfl rfl rfl rfl rfl (by kernel_rfl) Try.func4 (by kernel_rfl)
    (of_decide_eq_true (by kernel_rfl)) (by unfold Func.isWrapper; first | (rw [if_pos (by decide +kernel)]; kernel_rfl) | (rw [if_neg (by decide +kernel)]; exact ⟨rfl, rfl⟩))
    (fun os started H enc _ => fnExactQueryVisits_lifted os started H enc)
theorem fnExactQueryVisits_holds : Rows.FnExactQueryVisitsSaid := fnExactQueryVisits_over
#print axioms fnExactQueryVisits_holds
end Go.Proofs.Ytonaakbdbfncoaa
