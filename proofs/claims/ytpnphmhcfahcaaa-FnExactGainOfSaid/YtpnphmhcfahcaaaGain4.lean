/- Gain4: by how much the catches of a pattern have grown, by the package impl; the law FnExactGainOf. -/
import Derived.Test.YtpnphmhcfahcaaaGain3
import Derived.Test.YtpnphmhcfahcaaaOpenAtts
namespace Go.Proofs.Ytpnphmhcfahcaaa
open Go.ChangeShapes Go.WideShapes Go.ChangeAt Go.RowKit

theorem nth_in {l : List Int} {lo hi : Int} (h : ∀ x ∈ l, lo ≤ x ∧ x ≤ hi) : ∀ i, i < l.length → lo ≤ nth l i ∧ nth l i ≤ hi := fun _ hi => h _ (mem_nth hi)
set_option maxHeartbeats 1000000 in
theorem iGainOf_c (v u : Value) (l : List Att) (p : List Int) (w : World) (hv : AttsAt w v l) (hu : IntsAt w u p) :
    Calls Try.prog 20 #[v, u] w (Gives (.tuple #[.int .i64 (gainA l p), .int .i64 (gainB l p)]) w) := by
  have HQ := Lib.hid (catchesAt_c v u l p w hv hu)
  clear hv hu
  go_enter Try.func20, Try.ntmps20
  go_wp2_with fail
  refine HQ.out.mono ?_
  rintro e w1 ⟨a1, m, c1, rfl, ho, hb1⟩
  clear HQ
  by_cases h0 : askCode l p = 0
  · have HL : Hid (gainA l p = if (askL l p).length < 2 then 0 else meanL ((gainC l p).drop ((askL l p).length - (askL l p).length / 2)) - meanL ((gainC l p).take ((askL l p).length / 2))) := Lib.hid (by unfold gainA; rw [if_pos h0])
    have HB : Hid (gainB l p = if (askL l p).length < 2 then 6 else 0) := Lib.hid (by unfold gainB; rw [if_pos h0])
    rw [h0]
    obtain ⟨ax, mx, cx, he, hm, hmc, hcm, hcc⟩ := OwnInts.at ho
    cases he
    have Hcc := Lib.hid hcc; clear hcc ho
    rw [catL_len] at hm
    have Hm := Lib.hid hm; clear hm
    have Hl100 := Lib.hid (askL_len l p)
    have Hin := Lib.hid (catL_in (askL_nth l p) (fun i hi => ((okAtts_nth (askCode_ok h0)).1 i hi).2))
    by_cases h2 : m < 2
    · have HA : Hid (gainA l p = 0) := Lib.hid (by rw [HL.out, if_pos (by rw [← Hm.out]; exact h2)])
      have HB : Hid (gainB l p = 6) := Lib.hid (by rw [HB.out, if_pos (by rw [← Hm.out]; exact h2)])
      have hm01 : m = 0 ∨ m = 1 := by omega
      rcases hm01 with rfl | rfl
      all_goals
        go_wp2
        go_ret2
        exact Gives.ii HA.out HB.out hb1
    · have hd1 : (m : Int).tdiv 2 = ((m / 2 : Nat) : Int) := by rw [Int.tdiv_eq_ediv_of_nonneg (by omega)]; rfl
      have hd2 : (m : Int) / 2 = ((m / 2 : Nat) : Int) := rfl
      have hq : m / 2 ≤ m := Nat.div_le_self _ _
      have hq1 : 1 ≤ m / 2 := by omega
      have hq2 : m / 2 < m := by omega
      generalize hqq : m / 2 = q at *
      have Hq := Lib.hid hqq
      clear hqq
      have hwq : IntKind.i64.wrap (q : Int) = (q : Int) := IntWalk.i64_in _ (by omega)
      have hz : ((q : Int) == 0) = false := beq_eq_false_iff_ne.2 (by omega)
      have HM1 := Lib.hid (fun W (x : Below w1.heap.size w1 W) => mean_c (.slice (a1.map fun x => x.add (m - q)) (m - (m - q)) (c1 - (m - q))) ((gainC l p).drop (m - q)) W ((ints_from Hcc.out (by rw [catL_len]; exact Hm.out) (by omega) hmc hcm).below x) (by unfold gainC; rw [List.length_drop, catL_len, ← Hm.out]; omega) (by have := Hl100.out; unfold gainC; rw [List.length_drop, catL_len]; omega)
        (nth_in fun x hx => Hin.out x (List.mem_of_mem_drop hx)))
      have HM2 := Lib.hid (fun W (x : Below w1.heap.size w1 W) => mean_c (.slice a1 q c1) ((gainC l p).take q) W ((ints_cut Hcc.out (by rw [catL_len, ← Hm.out]; omega) (by rw [catL_len, ← Hm.out]; exact hmc) hcm).below x) (by unfold gainC; rw [List.length_take, catL_len, ← Hm.out]; omega) (by have := Hl100.out; unfold gainC; rw [List.length_take, catL_len]; omega)
        (nth_in fun x hx => Hin.out x (List.mem_of_mem_take hx)))
      have HG : Hid (gainA l p = meanL ((gainC l p).drop (m - q)) - meanL ((gainC l p).take q)) := Lib.hid (by rw [HL.out, if_neg (by rw [← Hm.out]; exact h2), ← Hm.out, Hq.out])
      have HB0 : Hid (gainB l p = 0) := Lib.hid (by rw [HB.out, if_neg (by rw [← Hm.out]; exact h2)])
      have hX := meanL_in ((gainC l p).drop (m - q)) (fun x hx => Hin.out x (List.mem_of_mem_drop hx)) (by have := Hl100.out; unfold gainC; rw [List.length_drop, catL_len]; omega)
      have hY := meanL_in ((gainC l p).take q) (fun x hx => Hin.out x (List.mem_of_mem_take hx)) (by have := Hl100.out; unfold gainC; rw [List.length_take, catL_len]; omega)
      generalize meanL ((gainC l p).drop (m - q)) = X at *
      generalize meanL ((gainC l p).take q) = Y at *
      have hwXY : IntKind.i64.wrap (X - Y) = X - Y := IntWalk.i64_in _ (by omega)
      clear hX hY Hin Hl100
      go_wp2
      refine wp_region_quiet_below (by kernel_rfl) (by kernel_rfl) ?_
      repeat (first | go_big_quiet_step (first | with_reducible exact Calls.regrown_of (HM1.out _ (below_regrown _ _ _)) | with_reducible exact Calls.regrown_of (HM2.out _ (below_regrown _ _ _))) | quiet_step (first | with_reducible exact Calls.regrown_of (HM1.out _ (below_regrown _ _ _)) | with_reducible exact Calls.regrown_of (HM2.out _ (below_regrown _ _ _))))
      refine wpQuiet_nil ?_
      intro _ hw'
      obtain ⟨⟨dq, osq⟩, hw''⟩ := hw'
      subst hw''
      have hbq := below_regrown w1 dq osq
      generalize Go.Sort.grow (redrawn w1 dq) osq = wq at *
      go_wp2
      go_ret2
      exact Gives.ii HG.out HB0.out (bthen hb1 hbq)
  · have HA : Hid (gainA l p = 0) := Lib.hid (by unfold gainA; rw [if_neg h0])
    have HB : Hid (gainB l p = askCode l p) := Lib.hid (by unfold gainB; rw [if_neg h0])
    have hne : (askCode l p != 0) = true := by simpa using h0
    clear ho
    generalize askCode l p = code at *
    go_wp2
    go_ret2
    exact Gives.ii HA.out HB.out hb1

set_option maxHeartbeats 1000000 in
set_option linter.unusedVariables false in
theorem fnExactGainOf_walk (v0 : Value) (l0 : List Att) (v1 : Value) (l1 : List Int) (w : World) (c0 : AttsAt w v0 l0) (c1 : IntsAt w v1 l1) :
    Calls Try.prog 5 #[v0, v1] w (Gives (.bool true) w) := by
  have A0 := Lib.hid c0; clear c0
  have A1 := Lib.hid c1; clear c1
  obtain ⟨pa1, pn1, pc1, rfl, hpn1, hpr1⟩ := A1.out
  have Hpn1 := Lib.hid hpn1; have Hpr1 := Lib.hid hpr1; clear hpn1 hpr1
  by_cases hg1 : 1048576 < pn1
  · go_enter Try.func5, Try.ntmps5
    go_wp2
    go_ret
    exact Gives.bool rfl (by go_grown)
  have hl1 : l1.length ≤ 1048576 := by rw [← Hpn1.out]; omega
  have qs0 := szAttsT_le l0 1048576 (by omega)
  have QS0 := Lib.hid qs0.2.2; have qt0 := qs0.2.1; clear qs0
  go_enter Try.func5, Try.ntmps5
  go_wp2_with fail
  generalize Value.slice pa1 pn1 pc1 = v1 at *
  refine (szAttemptS_c v0 l0 1048576 w A0.out (by omega) (by omega)).mono ?_
  rintro e W1 ⟨rfl, b1⟩
  have hb1 := b1
  generalize szAttsT l0 1048576 = r0 at *
  by_cases hs0 : r0 < 0
  · go_wp2
    go_ret
    exact Gives.bool rfl hb1
  have S0 := Lib.hid (QS0.out (by omega))
  have hl0 := (QS0.out (by omega)).1
  go_wp2_with fail
  refine (toAttemptS_c v0 l0 W1 (A0.out.below b1) (by omega) (fun x hx => by have := S0.out.2 x hx; omega)).mono ?_
  rintro e W2 ⟨ax0, nx0, cx0, rfl, ox0, b2⟩
  generalize Value.slice ax0 nx0 cx0 = vx0 at *
  have Ox0 := Lib.hid ox0.at; clear ox0
  have hb2 := bthen hb1 b2
  go_wp2_with fail
  refine (toInt64S_c v1 l1 W2 ((A1.out.below b1).below b2) (by omega)).mono ?_
  rintro e W3 ⟨ax1, nx1, cx1, rfl, ox1, b3⟩
  generalize Value.slice ax1 nx1 cx1 = vx1 at *
  have Ox1 := Lib.hid ox1.at; clear ox1
  have hb3 := bthen hb2 b3
  go_wp2_with fail
  refine (sGainOf_c vx0 vx1 l0 l1 W3 (Ox0.out.below b3) Ox1.out).mono ?_
  rintro e W4 ⟨rfl, b4⟩
  have hb4 := bthen hb3 b4
  go_wp2_with fail
  refine (toAttemptS_c v0 l0 W4 ((((A0.out.below b1).below b2).below b3).below b4) (by omega) (fun x hx => by have := S0.out.2 x hx; omega)).mono ?_
  rintro e W5 ⟨ax2, nx2, cx2, rfl, ox2, b5⟩
  generalize Value.slice ax2 nx2 cx2 = vx2 at *
  have Ox2 := Lib.hid ox2.at; clear ox2
  have hb5 := bthen hb4 b5
  go_wp2_with fail
  refine (toInt64S_c v1 l1 W5 (((((A1.out.below b1).below b2).below b3).below b4).below b5) (by omega)).mono ?_
  rintro e W6 ⟨ax3, nx3, cx3, rfl, ox3, b6⟩
  generalize Value.slice ax3 nx3 cx3 = vx3 at *
  have Ox3 := Lib.hid ox3.at; clear ox3
  have hb6 := bthen hb5 b6
  go_wp2_with fail
  refine (iGainOf_c vx2 vx3 l0 l1 W6 (Ox2.out.below b6) Ox3.out).mono ?_
  rintro e W7 ⟨rfl, b7⟩
  have hb7 := bthen hb6 b7
  go_wp2_with fail
  refine (toAttemptS_c v0 l0 W7 (((((((A0.out.below b1).below b2).below b3).below b4).below b5).below b6).below b7) (by omega) (fun x hx => by have := S0.out.2 x hx; omega)).mono ?_
  rintro e W8 ⟨ax4, nx4, cx4, rfl, ox4, b8⟩
  generalize Value.slice ax4 nx4 cx4 = vx4 at *
  have Ox4 := Lib.hid ox4.at; clear ox4
  have hb8 := bthen hb7 b8
  go_wp2_with fail
  refine (eqAttemptS_c vx2 vx4 l0 l0 W8 (((Ox2.out.below b6).below b7).below b8) Ox4.out).mono ?_
  rw [(same2_iff eqAttB eqAttB_iff l0 l0).2 rfl]
  rintro e W9 ⟨rfl, b9⟩
  have hb9 := bthen hb8 b9
  go_wp2_with fail
  refine (toInt64S_c v1 l1 W9 (((((((((A1.out.below b1).below b2).below b3).below b4).below b5).below b6).below b7).below b8).below b9) (by omega)).mono ?_
  rintro e W10 ⟨ax5, nx5, cx5, rfl, ox5, b10⟩
  generalize Value.slice ax5 nx5 cx5 = vx5 at *
  have Ox5 := Lib.hid ox5.at; clear ox5
  have hb10 := bthen hb9 b10
  go_wp2_with fail
  refine (eqInt64S_c vx3 vx5 l1 l1 W10 ((((Ox3.out.below b7).below b8).below b9).below b10) Ox5.out).mono ?_
  rw [(same2_iff eqI eqI_iff l1 l1).2 rfl]
  rintro e W11 ⟨rfl, b11⟩
  have hb11 := bthen hb10 b11
  go_wp2
  go_ret
  exact Gives.bool rfl hb11
set_option maxRecDepth 100000 in
set_option linter.unusedVariables false in
theorem fnExactGainOf_lifted (os : Os) (started : os.Started) (H : Type) (enc : TypeId × Value → H) :
    ReturnsInHanded {} Try.checked os 5 .any (Rows.fnExactGainOfSpec.pre6 enc Try.prog Try.f5 Rows.fnExactGainOfRow.domain false) (Rows.fnExactGainOfSpec.post enc Try.prog Try.f5 false true false false) := by
  refine returnsInHanded_of_change (C := Try.checked) own started (by kernel_rfl) Try.func5
    (ChangeSpec.witness6 (enc := enc) (C := Try.checked) false ⟨#[], #[.slice none 0 0, .slice none 0 0], []⟩ 8 (by kernel_rfl) (by kernel_rfl) (by kernel_rfl) (by kernel_rfl)) ?_
  intro W base args ds gs before hval0 hW hcnd _
  have hval : ∀ (j : Nat) t v, Try.f5.params[j]? = some t → args[j]? = some v → Value.okWide Try.prog W .any base t v := hval0
  have hW' := hW
  obtain ⟨p, q, hA0, hV, rfl, hfz, hnd⟩ := hW
  have hA : DataW.TrodAll enc Try.prog W 0 (fun _ => true) true Try.f5.params.toList args.toList ds p := hA0
  rw [Try.params5] at hA hval
  obtain ⟨v0, vs0, d0, ds0, p0, q0, hargs, rfl, rfl, h0, r0⟩ := trodAll_cons hA
  obtain ⟨v1, vs1, d1, ds1, p1, q1, rfl, rfl, rfl, h1, r1⟩ := trodAll_cons r0
  obtain ⟨rfl, rfl, rfl⟩ := trodAll_nil r1
  obtain rfl : args = #[v0, v1] := by cases args; simp_all
  obtain ⟨rfl, rfl⟩ := trodVars_none hV
  have k0 := h0
  have lt0 : ∀ x ∈ p0, x.block < W.heap.size := by obtain ⟨m, hm⟩ := k0; exact DataW.trod_lt m _ _ _ hm
  obtain ⟨l0, c0, w0⟩ := attempts_of_trod (v := v0) Try.underlying22 Try.underlying52 (by kernel_rfl) (by kernel_rfl) Try.underlying31 Try.underlying2 (by kernel_rfl) Try.underlying2 Try.underlying4 (hval 0 22 v0 rfl rfl) h0
  have k1 := h1
  have lt1 : ∀ x ∈ p1, x.block < W.heap.size := by obtain ⟨m, hm⟩ := k1; exact DataW.trod_lt m _ _ _ hm
  obtain ⟨l1, c1, w1⟩ := ints_of_trod (v := v1) Try.underlying31 Try.underlying2 (by kernel_rfl) (hval 1 31 v1 rfl rfl) h1
  clear hA0 hval0
  refine (fnExactGainOf_walk v0 l0 v1 l1 W c0 c1).mono fun e W' ⟨he, bel⟩ => ?_
  subst he
  exact ⟨_, rfl, _, _, _, [], _, [], hW', trodAll_mk1 (shut_bool Try.underlying4 _), (trodAll_cons_mk (Below.trod laidOut (by kernel_rfl) (of_decide_eq_true (by kernel_rfl)) k0 bel lt0) (trodAll_cons_mk (Below.trod laidOut (by kernel_rfl) (of_decide_eq_true (by kernel_rfl)) k1 bel lt1) trodAll_mk0)), rfl, bel.frame _, fun h => by cases h⟩
theorem fnExactGainOf_over : Rows.fnExactGainOfRow.holds Try.pinned (OpenSpec.ofChange Rows.fnExactGainOfSpec) :=
  OpenClaim.holds_of_wide 5 Try.f5 rfl rfl rfl rfl rfl rfl rfl ⟨rfl, rfl, rfl, rfl, rfl⟩ rfl rfl rfl rfl rfl (by kernel_rfl) Try.func5 (by kernel_rfl)
    (of_decide_eq_true (by kernel_rfl)) (by unfold Func.isWrapper; first | (rw [if_pos (by decide +kernel)]; kernel_rfl) | (rw [if_neg (by decide +kernel)]; exact ⟨rfl, rfl⟩))
    (fun os started H enc _ => fnExactGainOf_lifted os started H enc)
theorem fnExactGainOf_holds : Rows.FnExactGainOfSaid := fnExactGainOf_over
#print axioms fnExactGainOf_holds
end Go.Proofs.Ytpnphmhcfahcaaa
