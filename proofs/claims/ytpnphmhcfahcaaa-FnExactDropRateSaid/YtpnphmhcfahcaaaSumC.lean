/- SumC: the laws FnExactSummaryOf and FnExactDropRate. -/
import Derived.Test.YtpnphmhcfahcaaaSumB
import Derived.Test.YtpnphmhcfahcaaaOpenAtts
namespace Go.Proofs.Ytpnphmhcfahcaaa
open Go.ChangeShapes Go.WideShapes Go.ChangeAt Go.RowKit

theorem smF_in (l : List Att) (P : Int) : ∀ (own : List Int) (s : Sm), (∀ i ∈ own, 0 ≤ (nth l i.toNat).catches ∧ (nth l i.toNat).catches ≤ 100000) →
    (s.cat ≤ (smF l P own s).cat ∧ (smF l P own s).cat ≤ s.cat + 100000 * own.length) ∧ s.drops ≤ (smF l P own s).drops
  | [], s, _ => by simp [smF]
  | i :: own, s, h => by
    have h1 := h i (List.mem_cons_self ..)
    have h2 := smF_in l P own (smStep P s (nth l i.toNat)) (fun j hj => h j (List.mem_cons_of_mem _ hj))
    have h3 : (smStep P s (nth l i.toNat)).cat = s.cat + (nth l i.toNat).catches := rfl
    have h4 : s.drops ≤ (smStep P s (nth l i.toNat)).drops := by unfold smStep; dsimp only; split <;> omega
    simp only [smF, List.length_cons, Int.natCast_add, Int.mul_add, Int.natCast_one, Int.mul_one]
    omega
theorem sumL_in (l : List Att) (p : List Int) : 0 ≤ (sumL l p).cat ∧ (sumL l p).cat ≤ 10000000 ∧ 0 ≤ (sumL l p).drops := by
  unfold sumL
  split
  · rename_i h
    have hx := (okAtts_nth (askCode_ok h)).1
    have hm : ∀ i ∈ askL l p, 0 ≤ (nth l i.toNat).catches ∧ (nth l i.toNat).catches ≤ 100000 := by
      intro i hi
      obtain ⟨k, hk, rfl⟩ := List.getElem_of_mem hi
      obtain ⟨j, hj, hjl⟩ := askL_nth l p k hk
      rw [nth_eq _ _ hk] at hj
      rw [hj, Int.toNat_natCast]
      exact (hx j hjl).2
    have h2 := smF_in l (propsL p) (askL l p) sumZ hm
    have h3 := askL_len l p
    have h4 : sumZ.cat = 0 := rfl
    have h5 : sumZ.drops = 0 := rfl
    omega
  · exact ⟨Int.le_refl _, by decide, Int.le_refl _⟩
def rateA (l : List Att) (p : List Int) : Int := if askCode l p = 0 then (if (sumL l p).drops = 0 then 0 else (sumL l p).cat / (sumL l p).drops) else 0
def rateB (l : List Att) (p : List Int) : Int := if askCode l p = 0 then (if (sumL l p).drops = 0 then 6 else 0) else askCode l p
theorem div_facts2 {t : Int} {k : Nat} (h0 : 0 ≤ t) (h1 : t ≤ 10000000) (hk : 1 ≤ k) : ((k : Int) == 0) = false ∧ t.tdiv (k : Int) = t / (k : Int) ∧ IntKind.i64.wrap (t / (k : Int)) = t / (k : Int) :=
  ⟨beq_eq_false_iff_ne.2 (by omega), Int.tdiv_eq_ediv_of_nonneg h0, IntWalk.i64_in _ (by have := Int.ediv_nonneg h0 (show (0 : Int) ≤ k by omega); have := Int.ediv_le_self (k : Int) h0; omega)⟩
set_option maxHeartbeats 1000000 in
theorem sDropRate_c (v u : Value) (l : List Att) (p : List Int) (w : World) (hv : AttsAt w v l) (hu : IntsAt w u p) :
    Calls Try.prog 27 #[v, u] w (Gives (.tuple #[.int .i64 (rateA l p), .int .i64 (rateB l p)]) w) := by
  have HQ := Lib.hid (sSummaryOf_c v u l p w hv hu)
  have hin := sumL_in l p
  have HA := Lib.hid (show rateA l p = if askCode l p = 0 then (if (sumL l p).drops = 0 then 0 else (sumL l p).cat / (sumL l p).drops) else 0 from rfl)
  have HB := Lib.hid (show rateB l p = if askCode l p = 0 then (if (sumL l p).drops = 0 then 6 else 0) else askCode l p from rfl)
  clear hv hu
  generalize sumL l p = s at *
  obtain ⟨at', c, b, d, f, r⟩ := s
  dsimp only at hin
  by_cases h0 : askCode l p = 0
  · have HQ2 : Hid (Calls Try.prog 27 #[v, u] w (Gives (.tuple #[.int .i64 (rateA l p), .int .i64 (rateB l p)]) w) → True) := Lib.hid (fun _ => trivial)
    clear HQ2
    by_cases hd : d = 0
    · have HA2 : Hid (rateA l p = 0) := Lib.hid (by rw [HA.out, if_pos h0, if_pos hd])
      have HB2 : Hid (rateB l p = 6) := Lib.hid (by rw [HB.out, if_pos h0, if_pos hd])
      subst hd
      clear HA HB
      have HQ3 := HQ.out
      rw [h0] at HQ3
      clear HQ h0
      go_enter Try.func27, Try.ntmps27
      go_wp2_with fail
      refine HQ3.mono ?_
      rintro e w1 ⟨rfl, hb1⟩
      clear HQ3
      have hsz := hb1.size
      go_wp2
      go_ret2
      exact Gives.ii HA2.out HB2.out (hb1.alloc hsz _)
    · have HA2 : Hid (rateA l p = c / d) := Lib.hid (by rw [HA.out, if_pos h0, if_neg hd])
      have HB2 : Hid (rateB l p = 0) := Lib.hid (by rw [HB.out, if_pos h0, if_neg hd])
      have HQ3 := HQ.out
      rw [h0] at HQ3
      obtain ⟨D, rfl⟩ : ∃ D : Nat, d = (D : Int) := ⟨d.toNat, by omega⟩
      obtain ⟨hk0, hdv, hw⟩ := div_facts2 (t := c) (k := D) (by omega) (by omega) (by omega)
      clear HA HB HQ h0
      go_enter Try.func27, Try.ntmps27
      go_wp2_with fail
      refine HQ3.mono ?_
      rintro e w1 ⟨rfl, hb1⟩
      clear HQ3
      have hsz := hb1.size
      go_wp2
      go_ret2
      exact Gives.ii HA2.out HB2.out (hb1.alloc hsz _)
  · have HA2 : Hid (rateA l p = 0) := Lib.hid (by rw [HA.out, if_neg h0])
    have HB2 : Hid (rateB l p = askCode l p) := Lib.hid (by rw [HB.out, if_neg h0])
    have hne : (askCode l p != 0) = true := by simpa using h0
    clear HA HB h0
    generalize askCode l p = code at *
    go_enter Try.func27, Try.ntmps27
    go_wp2_with fail
    refine HQ.out.mono ?_
    rintro e w1 ⟨rfl, hb1⟩
    have hsz := hb1.size
    go_wp2
    go_ret2
    exact Gives.ii HA2.out HB2.out (hb1.alloc hsz _)
set_option maxHeartbeats 1000000 in
theorem iDropRate_c (v u : Value) (l : List Att) (p : List Int) (w : World) (hv : AttsAt w v l) (hu : IntsAt w u p) :
    Calls Try.prog 28 #[v, u] w (Gives (.tuple #[.int .i64 (rateA l p), .int .i64 (rateB l p)]) w) := by
  have HQ := Lib.hid (iSummaryOf_c v u l p w hv hu)
  have hin := sumL_in l p
  have HA := Lib.hid (show rateA l p = if askCode l p = 0 then (if (sumL l p).drops = 0 then 0 else (sumL l p).cat / (sumL l p).drops) else 0 from rfl)
  have HB := Lib.hid (show rateB l p = if askCode l p = 0 then (if (sumL l p).drops = 0 then 6 else 0) else askCode l p from rfl)
  clear hv hu
  generalize sumL l p = s at *
  obtain ⟨at', c, b, d, f, r⟩ := s
  dsimp only at hin
  by_cases h0 : askCode l p = 0
  · have HQ2 : Hid (Calls Try.prog 28 #[v, u] w (Gives (.tuple #[.int .i64 (rateA l p), .int .i64 (rateB l p)]) w) → True) := Lib.hid (fun _ => trivial)
    clear HQ2
    by_cases hd : d = 0
    · have HA2 : Hid (rateA l p = 0) := Lib.hid (by rw [HA.out, if_pos h0, if_pos hd])
      have HB2 : Hid (rateB l p = 6) := Lib.hid (by rw [HB.out, if_pos h0, if_pos hd])
      subst hd
      clear HA HB
      have HQ3 := HQ.out
      rw [h0] at HQ3
      clear HQ h0
      go_enter Try.func28, Try.ntmps28
      go_wp2_with fail
      refine HQ3.mono ?_
      rintro e w1 ⟨rfl, hb1⟩
      clear HQ3
      have hsz := hb1.size
      go_wp2
      go_ret2
      exact Gives.ii HA2.out HB2.out (hb1.alloc hsz _)
    · have HA2 : Hid (rateA l p = c / d) := Lib.hid (by rw [HA.out, if_pos h0, if_neg hd])
      have HB2 : Hid (rateB l p = 0) := Lib.hid (by rw [HB.out, if_pos h0, if_neg hd])
      have HQ3 := HQ.out
      rw [h0] at HQ3
      obtain ⟨D, rfl⟩ : ∃ D : Nat, d = (D : Int) := ⟨d.toNat, by omega⟩
      obtain ⟨hk0, hdv, hw⟩ := div_facts2 (t := c) (k := D) (by omega) (by omega) (by omega)
      clear HA HB HQ h0
      go_enter Try.func28, Try.ntmps28
      go_wp2_with fail
      refine HQ3.mono ?_
      rintro e w1 ⟨rfl, hb1⟩
      clear HQ3
      have hsz := hb1.size
      go_wp2
      go_ret2
      exact Gives.ii HA2.out HB2.out (hb1.alloc hsz _)
  · have HA2 : Hid (rateA l p = 0) := Lib.hid (by rw [HA.out, if_neg h0])
    have HB2 : Hid (rateB l p = askCode l p) := Lib.hid (by rw [HB.out, if_neg h0])
    have hne : (askCode l p != 0) = true := by simpa using h0
    clear HA HB h0
    generalize askCode l p = code at *
    go_enter Try.func28, Try.ntmps28
    go_wp2_with fail
    refine HQ.out.mono ?_
    rintro e w1 ⟨rfl, hb1⟩
    have hsz := hb1.size
    go_wp2
    go_ret2
    exact Gives.ii HA2.out HB2.out (hb1.alloc hsz _)
set_option maxHeartbeats 1000000 in
set_option linter.unusedVariables false in
theorem fnExactDropRate_walk (v0 : Value) (l0 : List Att) (v1 : Value) (l1 : List Int) (w : World) (c0 : AttsAt w v0 l0) (c1 : IntsAt w v1 l1) :
    Calls Try.prog 7 #[v0, v1] w (Gives (.bool true) w) := by
  have A0 := Lib.hid c0; clear c0
  have A1 := Lib.hid c1; clear c1
  obtain ⟨pa1, pn1, pc1, rfl, hpn1, hpr1⟩ := A1.out
  have Hpn1 := Lib.hid hpn1; have Hpr1 := Lib.hid hpr1; clear hpn1 hpr1
  by_cases hg1 : 1048576 < pn1
  · go_enter Try.func7, Try.ntmps7
    go_wp2
    go_ret
    exact Gives.bool rfl (by go_grown)
  have hl1 : l1.length ≤ 1048576 := by rw [← Hpn1.out]; omega
  have qs0 := szAttsT_le l0 1048576 (by omega)
  have QS0 := Lib.hid qs0.2.2; have qt0 := qs0.2.1; clear qs0
  go_enter Try.func7, Try.ntmps7
  go_wp2_with fail
  generalize Value.slice pa1 pn1 pc1 = v1 at *
  refine (szAttemptS_c v0 l0 1048576 w A0.out (by omega) (by omega)).mono ?_
  rintro e W1 ⟨rfl, b1⟩
  have hb1 := b1
  generalize szAttsT l0 1048576 = r0 at *
  by_cases hs0 : r0 < 0
  · go_wp2
    go_ret
    exact Gives.bool rfl hb1
  have S0 := Lib.hid (QS0.out (by omega))
  have hl0 := (QS0.out (by omega)).1
  go_wp2_with fail
  refine (toAttemptS_c v0 l0 W1 (A0.out.below b1) (by omega) (fun x hx => by have := S0.out.2 x hx; omega)).mono ?_
  rintro e W2 ⟨ax0, nx0, cx0, rfl, ox0, b2⟩
  generalize Value.slice ax0 nx0 cx0 = vx0 at *
  have Ox0 := Lib.hid ox0.at; clear ox0
  have hb2 := bthen hb1 b2
  go_wp2_with fail
  refine (toInt64S_c v1 l1 W2 ((A1.out.below b1).below b2) (by omega)).mono ?_
  rintro e W3 ⟨ax1, nx1, cx1, rfl, ox1, b3⟩
  generalize Value.slice ax1 nx1 cx1 = vx1 at *
  have Ox1 := Lib.hid ox1.at; clear ox1
  have hb3 := bthen hb2 b3
  go_wp2_with fail
  refine (sDropRate_c vx0 vx1 l0 l1 W3 (Ox0.out.below b3) Ox1.out).mono ?_
  rintro e W4 ⟨rfl, b4⟩
  have hb4 := bthen hb3 b4
  go_wp2_with fail
  refine (toAttemptS_c v0 l0 W4 ((((A0.out.below b1).below b2).below b3).below b4) (by omega) (fun x hx => by have := S0.out.2 x hx; omega)).mono ?_
  rintro e W5 ⟨ax2, nx2, cx2, rfl, ox2, b5⟩
  generalize Value.slice ax2 nx2 cx2 = vx2 at *
  have Ox2 := Lib.hid ox2.at; clear ox2
  have hb5 := bthen hb4 b5
  go_wp2_with fail
  refine (toInt64S_c v1 l1 W5 (((((A1.out.below b1).below b2).below b3).below b4).below b5) (by omega)).mono ?_
  rintro e W6 ⟨ax3, nx3, cx3, rfl, ox3, b6⟩
  generalize Value.slice ax3 nx3 cx3 = vx3 at *
  have Ox3 := Lib.hid ox3.at; clear ox3
  have hb6 := bthen hb5 b6
  go_wp2_with fail
  refine (iDropRate_c vx2 vx3 l0 l1 W6 (Ox2.out.below b6) Ox3.out).mono ?_
  rintro e W7 ⟨rfl, b7⟩
  have hb7 := bthen hb6 b7
  go_wp2_with fail
  refine (toAttemptS_c v0 l0 W7 (((((((A0.out.below b1).below b2).below b3).below b4).below b5).below b6).below b7) (by omega) (fun x hx => by have := S0.out.2 x hx; omega)).mono ?_
  rintro e W8 ⟨ax4, nx4, cx4, rfl, ox4, b8⟩
  generalize Value.slice ax4 nx4 cx4 = vx4 at *
  have Ox4 := Lib.hid ox4.at; clear ox4
  have hb8 := bthen hb7 b8
  go_wp2_with fail
  refine (eqAttemptS_c vx2 vx4 l0 l0 W8 (((Ox2.out.below b6).below b7).below b8) Ox4.out).mono ?_
  rw [(same2_iff eqAttB eqAttB_iff l0 l0).2 rfl]
  rintro e W9 ⟨rfl, b9⟩
  have hb9 := bthen hb8 b9
  go_wp2_with fail
  refine (toInt64S_c v1 l1 W9 (((((((((A1.out.below b1).below b2).below b3).below b4).below b5).below b6).below b7).below b8).below b9) (by omega)).mono ?_
  rintro e W10 ⟨ax5, nx5, cx5, rfl, ox5, b10⟩
  generalize Value.slice ax5 nx5 cx5 = vx5 at *
  have Ox5 := Lib.hid ox5.at; clear ox5
  have hb10 := bthen hb9 b10
  go_wp2_with fail
  refine (eqInt64S_c vx3 vx5 l1 l1 W10 ((((Ox3.out.below b7).below b8).below b9).below b10) Ox5.out).mono ?_
  rw [(same2_iff eqI eqI_iff l1 l1).2 rfl]
  rintro e W11 ⟨rfl, b11⟩
  have hb11 := bthen hb10 b11
  go_wp2
  go_ret
  exact Gives.bool rfl hb11
set_option maxRecDepth 100000 in
set_option linter.unusedVariables false in
theorem fnExactDropRate_lifted (os : Os) (started : os.Started) (H : Type) (enc : TypeId × Value → H) :
    ReturnsInHanded {} Try.checked os 7 .any (Rows.fnExactDropRateSpec.pre6 enc Try.prog Try.f7 Rows.fnExactDropRateRow.domain false) (Rows.fnExactDropRateSpec.post enc Try.prog Try.f7 false true false false) := by
  refine returnsInHanded_of_change (C := Try.checked) own started (by kernel_rfl) Try.func7
    (ChangeSpec.witness6 (enc := enc) (C := Try.checked) false ⟨#[], #[.slice none 0 0, .slice none 0 0], []⟩ 8 (by kernel_rfl) (by kernel_rfl) (by kernel_rfl) (by kernel_rfl)) ?_
  intro W base args ds gs before hval0 hW hcnd _
  have hval : ∀ (j : Nat) t v, Try.f7.params[j]? = some t → args[j]? = some v → Value.okWide Try.prog W .any base t v := hval0
  have hW' := hW
  obtain ⟨p, q, hA0, hV, rfl, hfz, hnd⟩ := hW
  have hA : DataW.TrodAll enc Try.prog W 0 (fun _ => true) true Try.f7.params.toList args.toList ds p := hA0
  rw [Try.params7] at hA hval
  obtain ⟨v0, vs0, d0, ds0, p0, q0, hargs, rfl, rfl, h0, r0⟩ := trodAll_cons hA
  obtain ⟨v1, vs1, d1, ds1, p1, q1, rfl, rfl, rfl, h1, r1⟩ := trodAll_cons r0
  obtain ⟨rfl, rfl, rfl⟩ := trodAll_nil r1
  obtain rfl : args = #[v0, v1] := by cases args; simp_all
  obtain ⟨rfl, rfl⟩ := trodVars_none hV
  have k0 := h0
  have lt0 : ∀ x ∈ p0, x.block < W.heap.size := by obtain ⟨m, hm⟩ := k0; exact DataW.trod_lt m _ _ _ hm
  obtain ⟨l0, c0, w0⟩ := attempts_of_trod (v := v0) Try.underlying22 Try.underlying52 (by kernel_rfl) (by kernel_rfl) Try.underlying31 Try.underlying2 (by kernel_rfl) Try.underlying2 Try.underlying4 (hval 0 22 v0 rfl rfl) h0
  have k1 := h1
  have lt1 : ∀ x ∈ p1, x.block < W.heap.size := by obtain ⟨m, hm⟩ := k1; exact DataW.trod_lt m _ _ _ hm
  obtain ⟨l1, c1, w1⟩ := ints_of_trod (v := v1) Try.underlying31 Try.underlying2 (by kernel_rfl) (hval 1 31 v1 rfl rfl) h1
  clear hA0 hval0
  refine (fnExactDropRate_walk v0 l0 v1 l1 W c0 c1).mono fun e W' ⟨he, bel⟩ => ?_
  subst he
  exact ⟨_, rfl, _, _, _, [], _, [], hW', trodAll_mk1 (shut_bool Try.underlying4 _), (trodAll_cons_mk (Below.trod laidOut (by kernel_rfl) (of_decide_eq_true (by kernel_rfl)) k0 bel lt0) (trodAll_cons_mk (Below.trod laidOut (by kernel_rfl) (of_decide_eq_true (by kernel_rfl)) k1 bel lt1) trodAll_mk0)), rfl, bel.frame _, fun h => by cases h⟩
theorem fnExactDropRate_over : Rows.fnExactDropRateRow.holds Try.pinned (OpenSpec.ofChange Rows.fnExactDropRateSpec) :=
  OpenClaim.holds_of_wide 7 Try.f7 rfl rfl rfl rfl rfl rfl rfl ⟨rfl, rfl, rfl, rfl, rfl⟩ rfl rfl rfl rfl rfl (by kernel_rfl) Try.func7 (by kernel_rfl)
    (of_decide_eq_true (by kernel_rfl)) (by unfold Func.isWrapper; first | (rw [if_pos (by decide +kernel)]; kernel_rfl) | (rw [if_neg (by decide +kernel)]; exact ⟨rfl, rfl⟩))
    (fun os started H enc _ => fnExactDropRate_lifted os started H enc)
theorem fnExactDropRate_holds : Rows.FnExactDropRateSaid := fnExactDropRate_over
#print axioms fnExactDropRate_holds
end Go.Proofs.Ytpnphmhcfahcaaa
