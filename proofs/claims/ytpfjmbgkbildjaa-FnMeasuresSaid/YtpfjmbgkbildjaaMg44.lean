import Derived.Test.YtpfjmbgkbildjaaMg12
import Derived.Test.YtpfjmbgkbildjaaMg18
import Derived.Test.YtpfjmbgkbildjaaMg31
import Derived.Test.YtpfjmbgkbildjaaMg32
import Derived.Test.YtpfjmbgkbildjaaMg43
/- LawMs: the walk of the law FnMeasures, and its row. -/
namespace Go.Proofs.Ytpfjmbgkbildjaa
open Go.ChangeShapes Go.WideShapes Go.ChangeAt Go.RowKit

theorem hardA_rot {p : List Int} (h : okPat p = true) (k : Nat) : hardA (rotL p k) = hardA p := by
  unfold hardA; rw [okPat_rot h k, h, hard_rot p k (ok_in h).1]
theorem hardA_root {p : List Int} (h : okPat p = true) : hardA (rootL p) = hardA p := by
  unfold hardA; rw [okPat_root h, h, hard_root p (ok_in h).1]
set_option maxRecDepth 100000 in
set_option maxHeartbeats 8000000 in
theorem fnMeasures_walk (v : Value) (cs : List Int) (w : World) (hv : BytesAt w v cs) (hin : ∀ x ∈ cs, 0 ≤ x ∧ x ≤ 255) : Calls Try.prog 3 #[v] w (Gives (.bool true) w) := by
  have HV := Lib.hid hv
  have Hin := Lib.hid hin
  have HFB := Lib.hid (f6big_c v cs w hv)
  clear hv hin
  by_cases hl : 4096 < cs.length
  · rw [decide_eq_true hl] at HFB
    clear hl
    go_enter Try.func3, Try.ntmps3
    go_wp2_with fail
    refine HFB.out.mono ?_
    rintro e w1 ⟨rfl, hb1⟩
    go_wp2
    go_ret
    exact Gives.bool rfl hb1
  rw [decide_eq_false hl] at HFB
  have Hcl : Hid (cs.length ≤ 4096) := Lib.hid (by omega)
  clear hl
  go_enter Try.func3, Try.ntmps3
  go_wp2_with fail
  refine HFB.out.mono ?_
  rintro e w1 ⟨rfl, hb0⟩
  clear HFB
  go_wp2_with fail
  refine (drawDifficultyOf_c v cs w1 (HV.out.below hb0) Hin.out Hcl.out).mono ?_
  rintro e w2 ⟨pa, pn, pc, p, rfl, -, ho, hb2⟩
  have HP := Lib.hid (OwnInts.at ho)
  replace hb0 := bthen hb0 hb2
  clear ho hb2
  go_wp2_with fail
  refine (iDifficultyOf_c _ p w2 HP.out).mono ?_
  rintro e w3 ⟨rfl, hb⟩
  have HPn := Lib.hid (HP.out.below hb)
  have hbn := bthen hb0 hb
  clear HP hb0 hb
  have HP := HPn
  have hb0 := hbn
  clear HPn hbn
  go_wp2_with fail
  refine (sDifficultyOf_c _ p w3 HP.out).mono ?_
  rintro e w4 ⟨rfl, hb⟩
  have HPn := Lib.hid (HP.out.below hb)
  have hbn := bthen hb0 hb
  clear HP hb0 hb
  have HP := HPn
  have hb0 := hbn
  clear HPn hbn
  go_wp2_with fail
  refine (iSwingOf_c _ p w4 HP.out).mono ?_
  rintro e w5 ⟨rfl, hb⟩
  have HPn := Lib.hid (HP.out.below hb)
  have hbn := bthen hb0 hb
  clear HP hb0 hb
  have HP := HPn
  have hb0 := hbn
  clear HPn hbn
  go_wp2_with fail
  refine (sSwingOf_c _ p w5 HP.out).mono ?_
  rintro e w6 ⟨rfl, hb⟩
  have HPn := Lib.hid (HP.out.below hb)
  have hbn := bthen hb0 hb
  clear HP hb0 hb
  have HP := HPn
  have hb0 := hbn
  clear HPn hbn
  go_wp2_with fail
  refine (iChangesOf_c _ p w6 HP.out).mono ?_
  rintro e w7 ⟨rfl, hb⟩
  have HPn := Lib.hid (HP.out.below hb)
  have hbn := bthen hb0 hb
  clear HP hb0 hb
  have HP := HPn
  have hb0 := hbn
  clear HPn hbn
  go_wp2_with fail
  refine (sChangesOf_c _ p w7 HP.out).mono ?_
  rintro e w8 ⟨rfl, hb⟩
  have HPn := Lib.hid (HP.out.below hb)
  have hbn := bthen hb0 hb
  clear HP hb0 hb
  have HP := HPn
  have hb0 := hbn
  clear HPn hbn
  go_wp2_with fail
  refine (iWorkOf_c _ p w8 HP.out).mono ?_
  rintro e w9 ⟨rfl, hb⟩
  have HPn := Lib.hid (HP.out.below hb)
  have hbn := bthen hb0 hb
  clear HP hb0 hb
  have HP := HPn
  have hb0 := hbn
  clear HPn hbn
  go_wp2_with fail
  refine (sWorkOf_c _ p w9 HP.out).mono ?_
  rintro e w10 ⟨rfl, hb⟩
  have HPn := Lib.hid (HP.out.below hb)
  have hbn := bthen hb0 hb
  clear HP hb0 hb
  have HP := HPn
  have hb0 := hbn
  clear HPn hbn
  go_wp2_with fail
  refine (iRangeOf_c _ p w10 HP.out).mono ?_
  rintro e w11 ⟨rfl, hb⟩
  have HPn := Lib.hid (HP.out.below hb)
  have hbn := bthen hb0 hb
  clear HP hb0 hb
  have HP := HPn
  have hb0 := hbn
  clear HPn hbn
  go_wp2_with fail
  refine (sRangeOf_c _ p w11 HP.out).mono ?_
  rintro e w12 ⟨rfl, hb⟩
  have HPn := Lib.hid (HP.out.below hb)
  have hbn := bthen hb0 hb
  clear HP hb0 hb
  have HP := HPn
  have hb0 := hbn
  clear HPn hbn
  go_wp2_with fail
  refine (iEmptyOf_c _ p w12 HP.out).mono ?_
  rintro e w13 ⟨rfl, hb⟩
  have HPn := Lib.hid (HP.out.below hb)
  have hbn := bthen hb0 hb
  clear HP hb0 hb
  have HP := HPn
  have hb0 := hbn
  clear HPn hbn
  go_wp2_with fail
  refine (sEmptyOf_c _ p w13 HP.out).mono ?_
  rintro e w14 ⟨rfl, hb⟩
  have HPn := Lib.hid (HP.out.below hb)
  have hbn := bthen hb0 hb
  clear HP hb0 hb
  have HP := HPn
  have hb0 := hbn
  clear HPn hbn
  go_wp2_with fail
  refine (iGradeOf_c _ p w14 HP.out).mono ?_
  rintro e w15 ⟨rfl, hb⟩
  have HPn := Lib.hid (HP.out.below hb)
  have hbn := bthen hb0 hb
  clear HP hb0 hb
  have HP := HPn
  have hb0 := hbn
  clear HPn hbn
  go_wp2_with fail
  refine (sGradeOf_c _ p w15 HP.out).mono ?_
  rintro e w16 ⟨rfl, hb⟩
  have HPn := Lib.hid (HP.out.below hb)
  have hbn := bthen hb0 hb
  clear HP hb0 hb
  have HP := HPn
  have hb0 := hbn
  clear HPn hbn
  go_wp2_with fail
  refine (drawGradeOf_c v cs w16 (HV.out.below hb0) Hin.out Hcl.out).mono ?_
  rintro e w17 ⟨qa, qn, qc, q, rfl, -, ho, hb⟩
  have HQ := Lib.hid (OwnInts.at ho)
  clear ho
  have HPn := Lib.hid (HP.out.below hb)
  have hbn := bthen hb0 hb
  clear HP hb0 hb
  have HP := HPn
  have hb0 := hbn
  clear HPn hbn
  go_wp2_with fail
  refine (iGradeOf_c _ q w17 HQ.out).mono ?_
  rintro e w18 ⟨rfl, hb⟩
  have HQ2 := Lib.hid (HQ.out.below hb)
  clear HQ
  have HPn := Lib.hid (HP.out.below hb)
  have hbn := bthen hb0 hb
  clear HP hb0 hb
  have HP := HPn
  have hb0 := hbn
  clear HPn hbn
  go_wp2_with fail
  refine (sGradeOf_c _ q w18 HQ2.out).mono ?_
  rintro e w19 ⟨rfl, hb⟩
  clear HQ2
  have HPn := Lib.hid (HP.out.below hb)
  have hbn := bthen hb0 hb
  clear HP hb0 hb
  have HP := HPn
  have hb0 := hbn
  clear HPn hbn
  cases hok : okPat p
  · have hk : okB p = 1 := okB_c hok
    clear hok
    go_wp2
    go_ret
    exact Gives.bool rfl hb0
  · have hk : okB p = 0 := okB_c hok
    have Hok := Lib.hid hok
    have hg1 : 1 ≤ gradeA p ∧ gradeA p ≤ 10 := by unfold gradeA; rw [hok]; exact gradeL_in p
    clear hok
    go_wp2_with fail
    refine (f6roll_c v cs 2001 w19 (HV.out.below hb0) Hin.out Hcl.out).mono ?_
    rintro e x1 ⟨rfl, hdice, hb⟩
    have HDi := Lib.hid hdice
    have hs1 := hb.size
    have HP1 := Lib.hid (HP.out.below hb)
    clear hdice
    go_wp2_with fail
    refine (below_c _ cs 12 x1 HDi.out (by omega) (by omega)).mono ?_
    rintro e x2 ⟨r, rfl, hr, hb2⟩
    have hb3 : Below w19.heap.size w19 x2 := hb.trans hb2
    clear hb hb2 HDi HP1 hs1
    have HPn := Lib.hid (HP.out.below hb3)
    have hbn := bthen hb0 hb3
    clear HP hb0 hb3
    have HP := HPn
    have hb0 := hbn
    clear HPn hbn
    go_wp2_with fail
    refine (rotatePattern_c _ p r x2 HP.out Hok.out (by omega)).mono ?_
    rintro e x3 ⟨ta, tn, tc, rfl, ho, hb⟩
    have HT := Lib.hid (OwnInts.at ho)
    clear ho
    have HPn := Lib.hid (HP.out.below hb)
    have hbn := bthen hb0 hb
    clear HP hb0 hb
    have HP := HPn
    have hb0 := hbn
    clear HPn hbn
    go_wp2_with fail
    refine (rootPattern_c _ p x3 HP.out Hok.out).mono ?_
    rintro e x4 ⟨ra, rn, rc, rfl, ho, hb⟩
    have HR := Lib.hid (OwnInts.at ho)
    have HT2 := Lib.hid (HT.out.below hb)
    clear ho HT
    have HPn := Lib.hid (HP.out.below hb)
    have hbn := bthen hb0 hb
    clear HP hb0 hb
    have HP := HPn
    have hb0 := hbn
    clear HPn hbn
    have h1 := hardA_rot Hok.out r
    have h2 := hardA_root Hok.out
    have h3 : okB (rotL p r) = 0 := okB_c (okPat_rot Hok.out r)
    have h4 : okB (rootL p) = 0 := okB_c (okPat_root Hok.out)
    go_wp2_with fail
    refine (iDifficultyOf_c _ (rotL p r) x4 HT2.out).mono ?_
    rintro e x5 ⟨rfl, hb⟩
    have HR2 := Lib.hid (HR.out.below hb)
    clear HR HT2
    have HPn := Lib.hid (HP.out.below hb)
    have hbn := bthen hb0 hb
    clear HP hb0 hb
    have HP := HPn
    have hb0 := hbn
    clear HPn hbn
    go_wp2_with fail
    refine (iDifficultyOf_c _ (rootL p) x5 HR2.out).mono ?_
    rintro e x6 ⟨rfl, hb⟩
    clear HR2
    have HPn := Lib.hid (HP.out.below hb)
    have hbn := bthen hb0 hb
    clear HP hb0 hb
    have HP := HPn
    have hb0 := hbn
    clear HPn hbn
    go_wp2
    go_ret
    exact Gives.bool rfl hb0
set_option maxRecDepth 100000 in
set_option linter.unusedVariables false in
theorem fnMeasures_lifted (os : Os) (started : os.Started) (H : Type) (enc : TypeId × Value → H) :
    ReturnsInHanded {} Try.checked os 3 .any (Rows.fnMeasuresSpec.pre6 enc Try.prog Try.f3 Rows.fnMeasuresRow.domain false) (Rows.fnMeasuresSpec.post enc Try.prog Try.f3 false true false false) := by
  refine returnsInHanded_of_change (C := Try.checked) own started (by kernel_rfl) Try.func3
    (ChangeSpec.witness6 (enc := enc) (C := Try.checked) false ⟨#[], #[.slice none 0 0], []⟩ 8 (by kernel_rfl) (by kernel_rfl) (by kernel_rfl) (by kernel_rfl)) ?_
  intro W base args ds gs before hval0 hW hcnd _
  have hval : ∀ (j : Nat) t v, Try.f3.params[j]? = some t → args[j]? = some v → Value.okWide Try.prog W .any base t v := hval0
  have hW' := hW
  obtain ⟨p, q, hA0, hV, rfl, hfz, hnd⟩ := hW
  have hA : DataW.TrodAll enc Try.prog W 0 (fun _ => true) true Try.f3.params.toList args.toList ds p := hA0
  rw [Try.params3] at hA hval
  obtain ⟨v0, vs0, d0, ds0, p0, q0, hargs, rfl, rfl, h0, r0⟩ := trodAll_cons hA
  obtain ⟨rfl, rfl, rfl⟩ := trodAll_nil r0
  obtain rfl : args = #[v0] := by cases args; simp_all
  obtain ⟨rfl, rfl⟩ := trodVars_none hV
  have k0 := h0
  have lt0 : ∀ x ∈ p0, x.block < W.heap.size := by obtain ⟨m, hm⟩ := k0; exact DataW.trod_lt m _ _ _ hm
  obtain ⟨l0, c0, w0⟩ := bytes_of_trod (v := v0) Try.underlying22 Try.underlying5 (by kernel_rfl) (hval 0 22 v0 rfl rfl) h0
  clear hA0 hval0
  refine (fnMeasures_walk v0 l0 W c0 w0).mono fun e W' ⟨he, bel⟩ => ?_
  subst he
  exact ⟨_, rfl, _, _, _, [], _, [], hW', trodAll_mk1 (shut_bool Try.underlying4 _), (trodAll_cons_mk (Below.trod laidOut (by kernel_rfl) (of_decide_eq_true (by kernel_rfl)) k0 bel lt0) trodAll_mk0), rfl, bel.frame _, fun h => by cases h⟩
theorem fnMeasures_over : Rows.fnMeasuresRow.holds Try.pinned (OpenSpec.ofChange Rows.fnMeasuresSpec) :=
  OpenClaim.holds_of_wide 3 Try.f3 rfl rfl rfl rfl rfl rfl rfl ⟨rfl, rfl, rfl, rfl, rfl⟩ rfl rfl rfl rfl rfl (by kernel_rfl) Try.func3 (by kernel_rfl)
    (of_decide_eq_true (by kernel_rfl)) (by unfold Func.isWrapper; first | (rw [if_pos (by decide +kernel)]; kernel_rfl) | (rw [if_neg (by decide +kernel)]; exact ⟨rfl, rfl⟩))
    (fun os started H enc _ => fnMeasures_lifted os started H enc)
theorem fnMeasures_holds : Rows.FnMeasuresSaid := fnMeasures_over
#print axioms fnMeasures_holds
end Go.Proofs.Ytpfjmbgkbildjaa
