/- Diff3: the laws FnExactDifficultyOf and FnExactGradeOf. -/
import Derived.Test.YtdcocaplcfibdaaDiff2
import Derived.Test.YtdcocaplcfibdaaOpen
namespace Go.Proofs.Ytdcocaplcfibdaa
open Go.ChangeShapes Go.WideShapes Go.ChangeAt Go.RowKit

set_option maxHeartbeats 1000000 in
theorem grade_c (v : Value) (l : List Int) (w : World) (hv : IntsAt w v l) (ht : throwsB l = true) : Calls Try.prog 18 #[v] w (Gives (.int .i64 (gradeL l)) w) := by
  have HQ := Lib.hid (fun W x => difficulty_c v l W x ht)
  have HA := Lib.hid (show gradeL l = gradeF (hardL l) 9 1 10000 from rfl)
  have HV := Lib.hid hv
  have hbd := hardL_in ht
  generalize hardL l = d at *
  clear hv
  go_enter Try.func18, Try.ntmps18
  go_wp2
  go_loopw [3, 4] (fun k g wr => ∃ (f : Nat) (G lim : Int), g = .int .i64 G ∧ k = .int .i64 lim ∧ Hid (G = 10 - (f : Int)) ∧ 1 ≤ G ∧ G ≤ 10 ∧ 0 ≤ lim ∧ lim ≤ 100000 * G ∧ Hid (gradeL l = gradeF d f G lim) ∧ Below w.heap.size w wr) (fun _ g _ => 20 - (intOf g).toNat)
  case atStart => exact ⟨9, 1, 10000, rfl, rfl, Lib.hid rfl, by omega, by omega, by omega, by omega, HA, Below.refl _ _⟩
  case round =>
    obtain ⟨f, G, lim, rfl, rfl, HG, hG1, hG10, hl0, hl1, HS, hb⟩ := hrel
    by_cases hg : G < 10
    · obtain ⟨f', rfl⟩ : ∃ f', f = f' + 1 := ⟨f - 1, by have := HG.out; omega⟩
      by_cases hd : d ≤ lim
      · have HE : Hid (gradeL l = G) := Lib.hid (by rw [HS.out, gradeF_low _ _ _ _ hd])
        clear HS HA
        go_wp2_with fail
        refine (HQ.out _ (HV.out.below hb)).mono ?_
        rintro e w2 ⟨rfl, hb2⟩
        go_wp2
        go_ret
        exact Gives.int HE.out (bthen hb hb2)
      · have HE : Hid (gradeL l = gradeF d f' (G + 1) (lim + (10000 + 2000 * (G + 1)))) := Lib.hid (by rw [HS.out, gradeF_high _ _ _ _ hd])
        have hs1 : IntKind.i64.wrap (G + 1) = G + 1 := IntWalk.i64_in _ (by omega)
        have hs2 : IntKind.i64.wrap (2000 * (G + 1)) = 2000 * (G + 1) := IntWalk.i64_in _ (by omega)
        have hs3 : IntKind.i64.wrap (10000 + 2000 * (G + 1)) = 10000 + 2000 * (G + 1) := IntWalk.i64_in _ (by omega)
        have hs4 : IntKind.i64.wrap (lim + (10000 + 2000 * (G + 1))) = lim + (10000 + 2000 * (G + 1)) := IntWalk.i64_in _ (by omega)
        clear HS HA
        go_wp2_with fail
        refine (HQ.out _ (HV.out.below hb)).mono ?_
        rintro e w2 ⟨rfl, hb2⟩
        go_wp2
        exact ⟨⟨f', G + 1, _, rfl, rfl, Lib.hid (by have := HG.out; omega), by omega, by omega, by omega, by omega, HE, bthen hb hb2⟩, by simp [intOf]; omega⟩
    · have hf : f = 0 := by have := HG.out; omega
      have hf1 := hG10
      obtain rfl : G = 10 := by omega
      have HE : Hid (gradeL l = 10) := Lib.hid (by rw [HS.out, hf]; rfl)
      clear HS HA
      go_wp2
      go_ret
      exact Gives.int HE.out hb
set_option maxHeartbeats 1000000 in
theorem iDifficultyOf_c (v : Value) (l : List Int) (w : World) (hv : IntsAt w v l) : Calls Try.prog 8 #[v] w (Gives (.tuple #[.int .i64 (hardA l), .int .i64 (okB l)]) w) := by
  have hq := validPattern_c v l w hv
  cases hE : okPat l
  · rw [hE] at hq
    have HQ := Lib.hid hq
    have HA : Hid (hardA l = 0) := Lib.hid (by unfold hardA; rw [hE]; rfl)
    have HB : Hid (okB l = 1) := Lib.hid (okB_c hE)
    clear hE hv hq
    go_enter Try.func8, Try.ntmps8
    go_wp2_with (first | (go_at_call 20; refine HQ.out.mono ?_; rintro e w1 ⟨rfl, hb1⟩) | go_in)
    go_ret2
    exact Gives.ii HA.out HB.out hb1
  · rw [hE] at hq
    have HQ := Lib.hid hq
    have HM := Lib.hid (fun W x => difficulty_c v l W x (okPat_throws hE))
    have HA : Hid (hardA l = hardL l) := Lib.hid (by unfold hardA; rw [hE]; rfl)
    have HB : Hid (okB l = 0) := Lib.hid (okB_c hE)
    have HV := Lib.hid hv
    clear hE hv hq
    go_enter Try.func8, Try.ntmps8
    go_wp2_with (first | (go_at_call 20; refine HQ.out.mono ?_; rintro e w1 ⟨rfl, hb1⟩) | (go_at_call 17; refine (HM.out _ (HV.out.below hb1)).mono ?_; rintro e w2 ⟨rfl, hb2⟩) | go_in)
    go_ret2
    exact Gives.ii HA.out HB.out (bthen hb1 hb2)
set_option maxHeartbeats 1000000 in
theorem iGradeOf_c (v : Value) (l : List Int) (w : World) (hv : IntsAt w v l) : Calls Try.prog 11 #[v] w (Gives (.tuple #[.int .i64 (gradeA l), .int .i64 (okB l)]) w) := by
  have hq := validPattern_c v l w hv
  cases hE : okPat l
  · rw [hE] at hq
    have HQ := Lib.hid hq
    have HA : Hid (gradeA l = 0) := Lib.hid (by unfold gradeA; rw [hE]; rfl)
    have HB : Hid (okB l = 1) := Lib.hid (okB_c hE)
    clear hE hv hq
    go_enter Try.func11, Try.ntmps11
    go_wp2_with (first | (go_at_call 20; refine HQ.out.mono ?_; rintro e w1 ⟨rfl, hb1⟩) | go_in)
    go_ret2
    exact Gives.ii HA.out HB.out hb1
  · rw [hE] at hq
    have HQ := Lib.hid hq
    have HM := Lib.hid (fun W x => grade_c v l W x (okPat_throws hE))
    have HA : Hid (gradeA l = gradeL l) := Lib.hid (by unfold gradeA; rw [hE]; rfl)
    have HB : Hid (okB l = 0) := Lib.hid (okB_c hE)
    have HV := Lib.hid hv
    clear hE hv hq
    go_enter Try.func11, Try.ntmps11
    go_wp2_with (first | (go_at_call 20; refine HQ.out.mono ?_; rintro e w1 ⟨rfl, hb1⟩) | (go_at_call 18; refine (HM.out _ (HV.out.below hb1)).mono ?_; rintro e w2 ⟨rfl, hb2⟩) | go_in)
    go_ret2
    exact Gives.ii HA.out HB.out (bthen hb1 hb2)
set_option maxHeartbeats 1000000 in
set_option linter.unusedVariables false in
theorem fnExactDifficultyOf_walk (v0 : Value) (l0 : List Int) (w : World) (c0 : IntsAt w v0 l0) :
    Calls Try.prog 3 #[v0] w (Gives (.bool true) w) := by
  have A0 := Lib.hid c0; clear c0
  obtain ⟨pa0, pn0, pc0, rfl, hpn0, hpr0⟩ := A0.out
  have Hpn0 := Lib.hid hpn0; have Hpr0 := Lib.hid hpr0; clear hpn0 hpr0
  by_cases hg0 : 1048576 < pn0
  · go_enter Try.func3, Try.ntmps3
    go_wp2
    go_ret
    exact Gives.bool rfl (by go_grown)
  have hl0 : l0.length ≤ 1048576 := by rw [← Hpn0.out]; omega
  go_enter Try.func3, Try.ntmps3
  go_wp2_with fail
  generalize Value.slice pa0 pn0 pc0 = v0 at *
  refine (toInt64S_c v0 l0 w A0.out (by omega)).mono ?_
  rintro e W1 ⟨ax0, nx0, cx0, rfl, ox0, b1⟩
  generalize Value.slice ax0 nx0 cx0 = vx0 at *
  have Ox0 := Lib.hid ox0.at; clear ox0
  have hb1 := b1
  go_wp2_with fail
  refine (sDifficultyOf_c vx0 l0 W1 Ox0.out).mono ?_
  rintro e W2 ⟨rfl, b2⟩
  have hb2 := bthen hb1 b2
  go_wp2_with fail
  refine (toInt64S_c v0 l0 W2 ((A0.out.below b1).below b2) (by omega)).mono ?_
  rintro e W3 ⟨ax1, nx1, cx1, rfl, ox1, b3⟩
  generalize Value.slice ax1 nx1 cx1 = vx1 at *
  have Ox1 := Lib.hid ox1.at; clear ox1
  have hb3 := bthen hb2 b3
  go_wp2_with fail
  refine (iDifficultyOf_c vx1 l0 W3 Ox1.out).mono ?_
  rintro e W4 ⟨rfl, b4⟩
  have hb4 := bthen hb3 b4
  go_wp2_with fail
  refine (toInt64S_c v0 l0 W4 ((((A0.out.below b1).below b2).below b3).below b4) (by omega)).mono ?_
  rintro e W5 ⟨ax2, nx2, cx2, rfl, ox2, b5⟩
  generalize Value.slice ax2 nx2 cx2 = vx2 at *
  have Ox2 := Lib.hid ox2.at; clear ox2
  have hb5 := bthen hb4 b5
  go_wp2_with fail
  refine (eqInt64S_c vx1 vx2 l0 l0 W5 ((Ox1.out.below b4).below b5) Ox2.out).mono ?_
  rw [(same2_iff eqI eqI_iff l0 l0).2 rfl]
  rintro e W6 ⟨rfl, b6⟩
  have hb6 := bthen hb5 b6
  go_wp2
  go_ret
  exact Gives.bool rfl hb6
set_option maxRecDepth 100000 in
set_option linter.unusedVariables false in
theorem fnExactDifficultyOf_lifted (os : Os) (started : os.Started) (H : Type) (enc : TypeId × Value → H) :
    ReturnsInHanded {} Try.checked os 3 .any (Rows.fnExactDifficultyOfSpec.pre6 enc Try.prog Try.f3 Rows.fnExactDifficultyOfRow.domain false) (Rows.fnExactDifficultyOfSpec.post enc Try.prog Try.f3 false true false false) := by
  refine returnsInHanded_of_change (C := Try.checked) own started (by kernel_rfl) Try.func3
    (ChangeSpec.witness6 (enc := enc) (C := Try.checked) false ⟨#[], #[.slice none 0 0], []⟩ 8 (by kernel_rfl) (by kernel_rfl) (by kernel_rfl) (by kernel_rfl)) ?_
  intro W base args ds gs before hval0 hW hcnd _
  have hval : ∀ (j : Nat) t v, Try.f3.params[j]? = some t → args[j]? = some v → Value.okWide Try.prog W .any base t v := hval0
  have hW' := hW
  obtain ⟨p, q, hA0, hV, rfl, hfz, hnd⟩ := hW
  have hA : DataW.TrodAll enc Try.prog W 0 (fun _ => true) true Try.f3.params.toList args.toList ds p := hA0
  rw [Try.params3] at hA hval
  obtain ⟨v0, vs0, d0, ds0, p0, q0, hargs, rfl, rfl, h0, r0⟩ := trodAll_cons hA
  obtain ⟨rfl, rfl, rfl⟩ := trodAll_nil r0
  obtain rfl : args = #[v0] := by cases args; simp_all
  obtain ⟨rfl, rfl⟩ := trodVars_none hV
  have k0 := h0
  have lt0 : ∀ x ∈ p0, x.block < W.heap.size := by obtain ⟨m, hm⟩ := k0; exact DataW.trod_lt m _ _ _ hm
  obtain ⟨l0, c0, w0⟩ := ints_of_trod (v := v0) Try.underlying22 Try.underlying2 (by kernel_rfl) (hval 0 22 v0 rfl rfl) h0
  clear hA0 hval0
  refine (fnExactDifficultyOf_walk v0 l0 W c0).mono fun e W' ⟨he, bel⟩ => ?_
  subst he
  exact ⟨_, rfl, _, _, _, [], _, [], hW', trodAll_mk1 (shut_bool Try.underlying4 _), (trodAll_cons_mk (Below.trod laidOut (by kernel_rfl) (of_decide_eq_true (by kernel_rfl)) k0 bel lt0) trodAll_mk0), rfl, bel.frame _, fun h => by cases h⟩
theorem fnExactDifficultyOf_over : Rows.fnExactDifficultyOfRow.holds Try.pinned (OpenSpec.ofChange Rows.fnExactDifficultyOfSpec) :=
  OpenClaim.holds_of_wide 3 Try.f3 rfl rfl rfl rfl rfl rfl rfl ⟨rfl, rfl, rfl, rfl, rfl⟩ rfl rfl rfl rfl rfl (by kernel_rfl) Try.func3 (by kernel_rfl)
    (of_decide_eq_true (by kernel_rfl)) (by unfold Func.isWrapper; first | (rw [if_pos (by decide +kernel)]; kernel_rfl) | (rw [if_neg (by decide +kernel)]; exact ⟨rfl, rfl⟩))
    (fun os started H enc _ => fnExactDifficultyOf_lifted os started H enc)
theorem fnExactDifficultyOf_holds : Rows.FnExactDifficultyOfSaid := fnExactDifficultyOf_over
#print axioms fnExactDifficultyOf_holds
set_option maxHeartbeats 1000000 in
set_option linter.unusedVariables false in
theorem fnExactGradeOf_walk (v0 : Value) (l0 : List Int) (w : World) (c0 : IntsAt w v0 l0) :
    Calls Try.prog 4 #[v0] w (Gives (.bool true) w) := by
  have A0 := Lib.hid c0; clear c0
  obtain ⟨pa0, pn0, pc0, rfl, hpn0, hpr0⟩ := A0.out
  have Hpn0 := Lib.hid hpn0; have Hpr0 := Lib.hid hpr0; clear hpn0 hpr0
  by_cases hg0 : 1048576 < pn0
  · go_enter Try.func4, Try.ntmps4
    go_wp2
    go_ret
    exact Gives.bool rfl (by go_grown)
  have hl0 : l0.length ≤ 1048576 := by rw [← Hpn0.out]; omega
  go_enter Try.func4, Try.ntmps4
  go_wp2_with fail
  generalize Value.slice pa0 pn0 pc0 = v0 at *
  refine (toInt64S_c v0 l0 w A0.out (by omega)).mono ?_
  rintro e W1 ⟨ax0, nx0, cx0, rfl, ox0, b1⟩
  generalize Value.slice ax0 nx0 cx0 = vx0 at *
  have Ox0 := Lib.hid ox0.at; clear ox0
  have hb1 := b1
  go_wp2_with fail
  refine (sGradeOf_c vx0 l0 W1 Ox0.out).mono ?_
  rintro e W2 ⟨rfl, b2⟩
  have hb2 := bthen hb1 b2
  go_wp2_with fail
  refine (toInt64S_c v0 l0 W2 ((A0.out.below b1).below b2) (by omega)).mono ?_
  rintro e W3 ⟨ax1, nx1, cx1, rfl, ox1, b3⟩
  generalize Value.slice ax1 nx1 cx1 = vx1 at *
  have Ox1 := Lib.hid ox1.at; clear ox1
  have hb3 := bthen hb2 b3
  go_wp2_with fail
  refine (iGradeOf_c vx1 l0 W3 Ox1.out).mono ?_
  rintro e W4 ⟨rfl, b4⟩
  have hb4 := bthen hb3 b4
  go_wp2_with fail
  refine (toInt64S_c v0 l0 W4 ((((A0.out.below b1).below b2).below b3).below b4) (by omega)).mono ?_
  rintro e W5 ⟨ax2, nx2, cx2, rfl, ox2, b5⟩
  generalize Value.slice ax2 nx2 cx2 = vx2 at *
  have Ox2 := Lib.hid ox2.at; clear ox2
  have hb5 := bthen hb4 b5
  go_wp2_with fail
  refine (eqInt64S_c vx1 vx2 l0 l0 W5 ((Ox1.out.below b4).below b5) Ox2.out).mono ?_
  rw [(same2_iff eqI eqI_iff l0 l0).2 rfl]
  rintro e W6 ⟨rfl, b6⟩
  have hb6 := bthen hb5 b6
  go_wp2
  go_ret
  exact Gives.bool rfl hb6
set_option maxRecDepth 100000 in
set_option linter.unusedVariables false in
theorem fnExactGradeOf_lifted (os : Os) (started : os.Started) (H : Type) (enc : TypeId × Value → H) :
    ReturnsInHanded {} Try.checked os 4 .any (Rows.fnExactGradeOfSpec.pre6 enc Try.prog Try.f4 Rows.fnExactGradeOfRow.domain false) (Rows.fnExactGradeOfSpec.post enc Try.prog Try.f4 false true false false) := by
  refine returnsInHanded_of_change (C := Try.checked) own started (by kernel_rfl) Try.func4
    (ChangeSpec.witness6 (enc := enc) (C := Try.checked) false ⟨#[], #[.slice none 0 0], []⟩ 8 (by kernel_rfl) (by kernel_rfl) (by kernel_rfl) (by kernel_rfl)) ?_
  intro W base args ds gs before hval0 hW hcnd _
  have hval : ∀ (j : Nat) t v, Try.f4.params[j]? = some t → args[j]? = some v → Value.okWide Try.prog W .any base t v := hval0
  have hW' := hW
  obtain ⟨p, q, hA0, hV, rfl, hfz, hnd⟩ := hW
  have hA : DataW.TrodAll enc Try.prog W 0 (fun _ => true) true Try.f4.params.toList args.toList ds p := hA0
  rw [Try.params4] at hA hval
  obtain ⟨v0, vs0, d0, ds0, p0, q0, hargs, rfl, rfl, h0, r0⟩ := trodAll_cons hA
  obtain ⟨rfl, rfl, rfl⟩ := trodAll_nil r0
  obtain rfl : args = #[v0] := by cases args; simp_all
  obtain ⟨rfl, rfl⟩ := trodVars_none hV
  have k0 := h0
  have lt0 : ∀ x ∈ p0, x.block < W.heap.size := by obtain ⟨m, hm⟩ := k0; exact DataW.trod_lt m _ _ _ hm
  obtain ⟨l0, c0, w0⟩ := ints_of_trod (v := v0) Try.underlying22 Try.underlying2 (by kernel_rfl) (hval 0 22 v0 rfl rfl) h0
  clear hA0 hval0
  refine (fnExactGradeOf_walk v0 l0 W c0).mono fun e W' ⟨he, bel⟩ => ?_
  subst he
  exact ⟨_, rfl, _, _, _, [], _, [], hW', trodAll_mk1 (shut_bool Try.underlying4 _), (trodAll_cons_mk (Below.trod laidOut (by kernel_rfl) (of_decide_eq_true (by kernel_rfl)) k0 bel lt0) trodAll_mk0), rfl, bel.frame _, fun h => by cases h⟩
theorem fnExactGradeOf_over : Rows.fnExactGradeOfRow.holds Try.pinned (OpenSpec.ofChange Rows.fnExactGradeOfSpec) :=
  OpenClaim.holds_of_wide 4 Try.f4 rfl rfl rfl rfl rfl rfl rfl ⟨rfl, rfl, rfl, rfl, rfl⟩ rfl rfl rfl rfl rfl (by kernel_rfl) Try.func4 (by kernel_rfl)
    (of_decide_eq_true (by kernel_rfl)) (by unfold Func.isWrapper; first | (rw [if_pos (by decide +kernel)]; kernel_rfl) | (rw [if_neg (by decide +kernel)]; exact ⟨rfl, rfl⟩))
    (fun os started H enc _ => fnExactGradeOf_lifted os started H enc)
theorem fnExactGradeOf_holds : Rows.FnExactGradeOfSaid := fnExactGradeOf_over
#print axioms fnExactGradeOf_holds
end Go.Proofs.Ytdcocaplcfibdaa
