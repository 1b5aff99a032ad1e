/- Med: the median of the catches of a pattern, by both packages; the law FnExactMedianCatches. -/
import Derived.Test.YthnkhpebaeloeaaMedS
import Derived.Test.YthnkhpebaeloeaaSortI
import Derived.Test.YthnkhpebaeloeaaOpenAtts
namespace Go.Proofs.Ythnkhpebaeloeaa
open Go.ChangeShapes Go.WideShapes Go.ChangeAt Go.RowKit

theorem insAll_len {α : Type} [Inhabited α] (lt : α → α → Bool) (l : List α) : (insAll lt l []).length = l.length := by
  have := (insAll_perm lt l []).length_eq; simpa using this
theorem ints_sorted {l l' : List Int} (hp : l'.Perm l) (ha : Asc Go.Sort.ltInt l') : l' = insAll Go.Sort.ltInt l [] := by
  refine asc_unique ha (insAll_asc Go.Sort.swo_ltInt l [] List.Pairwise.nil) (hp.trans (by have := (insAll_perm Go.Sort.ltInt l []).symm; simpa using this)) ?_
  intro a _ b _ h1 h2
  simp only [Go.Sort.ltInt, decide_eq_false_iff_not] at h1 h2
  omega
def medL (l : List Att) (p : List Int) : Int := if askCode l p = 0 then nth (insAll Go.Sort.ltInt (catL l (askL l p)) []) (((askL l p).length - 1) / 2) else 0
theorem askL_pos {l : List Att} {p : List Int} (h : askCode l p = 0) : 0 < (askL l p).length := by
  unfold askL; rw [if_pos h]
  unfold askCode at h
  split at h
  · split at h
    · exact absurd h (by decide)
    · rename_i h2; exact List.length_pos_iff.2 (by simpa using h2)
  · exact absurd h (by decide)

set_option maxHeartbeats 1000000 in
theorem sMedianCatches_c (v u : Value) (l : List Att) (p : List Int) (w : World) (hv : AttsAt w v l) (hu : IntsAt w u p) :
    Calls Try.prog 12 #[v, u] w (Gives (.tuple #[.int .i64 (medL l p), .int .i64 (askCode l p)]) w) := by
  have HV := Lib.hid hv
  have HQ := Lib.hid (l24Ask_c v u l p w hv hu)
  clear hv hu
  go_enter Try.func12, Try.ntmps12
  go_wp2_with fail
  refine HQ.out.mono ?_
  intro e w1 hp
  obtain ⟨a1, m, c1, rfl, ho, hb1⟩ := ask_gen hp
  clear hp HQ
  by_cases h0 : askCode l p = 0
  · have HK := Lib.hid (fun W h1 h2 => l24Catches_c v (.slice a1 m c1) l (askL l p) W h1 h2 (askL_len l p) (askL_nth l p))
    have HC0 := Lib.hid h0
    have HR : Hid (medL l p = nth (insAll Go.Sort.ltInt (catL l (askL l p)) []) (((askL l p).length - 1) / 2)) := Lib.hid (by unfold medL; rw [if_pos h0])
    have hpos := askL_pos h0
    have hlen := askL_len l p
    rw [h0]
    have HO := Lib.hid ho
    obtain ⟨ax, mx, cx, he, hm, hmc, hcm, hcc⟩ := ho
    cases he
    rw [← hm] at hpos hlen HR
    have Hm : Hid (m = (insAll Go.Sort.ltInt (catL l (askL l p)) []).length) := Lib.hid (by rw [insAll_len, catL_len]; exact hm)
    clear hm hcc h0 hmc hcm
    go_wp2_with fail
    refine (HK.out _ (HV.out.below hb1) HO.out).mono ?_
    rintro e w2 ⟨a2, m2, c2, rfl, ho2, hb2⟩
    clear HK HO
    obtain ⟨ax, mx, cx, he, hm2, hmc2, hcm2, hcc2⟩ := OwnInts.at ho2
    cases he
    obtain rfl : m2 = m := by rw [hm2, Hm.out]
    clear ho2 hm2
    generalize insAll Go.Sort.ltInt (catL l (askL l p)) [] = L at *
    have hml : m2 = L.length := Hm.out
    have hd1 : ((m2 : Int) - 1).tdiv 2 = (((m2 - 1) / 2 : Nat) : Int) := by rw [Int.tdiv_eq_ediv_of_nonneg (by omega)]; omega
    have hd2 : ((m2 : Int) - 1) / 2 = (((m2 - 1) / 2 : Nat) : Int) := by omega
    have hq2 : (m2 - 1) / 2 < m2 := by omega
    generalize hqq : (m2 - 1) / 2 = q at *
    have hwq : IntKind.i64.wrap (q : Int) = (q : Int) := IntWalk.i64_in _ (by omega)
    have hw1 : IntKind.i64.wrap ((m2 : Int) - 1) = (m2 : Int) - 1 := IntWalk.i64_in _ (by omega)
    clear hqq
    obtain ⟨b', o', rfl, hbs', d0⟩ := hcc2 q (by rw [← hml]; exact hq2)
    clear hml
    generalize nth L q = r at *
    have hb := bthen hb1 hb2
    go_wp2
    go_ret2
    exact Gives.ii HR.out HC0.out hb
  · have HA : Hid (medL l p = 0) := Lib.hid (by unfold medL; rw [if_neg h0])
    have hne : (askCode l p != 0) = true := by simpa using h0
    clear ho
    generalize askCode l p = code at *
    go_wp2
    go_ret2
    exact Gives.ii HA.out rfl hb1
set_option maxHeartbeats 1000000 in
theorem medLess : LessI 53 := by
  intro blk c B size W G hs hc i j hi hj
  have ci := hc i hi
  have cj := hc j hj
  clear hc
  go_enter Try.func53, Try.ntmps53
  go_wp2
  go_quiet (fail)
  go_wp2
  go_ret
  exact ⟨rfl, nq, rfl⟩
set_option maxHeartbeats 1000000 in
theorem iMedianCatches_c (v u : Value) (l : List Att) (p : List Int) (w : World) (hv : AttsAt w v l) (hu : IntsAt w u p) :
    Calls Try.prog 15 #[v, u] w (Gives (.tuple #[.int .i64 (medL l p), .int .i64 (askCode l p)]) w) := by
  have HQ := Lib.hid (catchesAt_c v u l p w hv hu)
  clear hv hu
  by_cases h0 : askCode l p = 0
  · have HC0 := Lib.hid h0
    have HR : Hid (medL l p = nth (insAll Go.Sort.ltInt (catL l (askL l p)) []) (((askL l p).length - 1) / 2)) := Lib.hid (by unfold medL; rw [if_pos h0])
    have hpos := askL_pos h0
    have hlen := askL_len l p
    rw [h0] at HQ
    go_enter Try.func15, Try.ntmps15
    go_wp2_with fail
    refine HQ.out.mono ?_
    rintro e w1 ⟨a1, m, c1, rfl, ho, hb1⟩
    have hm : m = (askL l p).length := by
      obtain ⟨_, _, e⟩ := slice_of_own ho
      injection e with _ e2; rw [e2, catL_len]
    rw [← hm] at hpos hlen HR
    have hB : BoxIs (w1.alloc (.cells #[.slice a1 m c1] 23)) w1.heap.size [.slice a1 m c1] := BoxIs.new w1 [.slice a1 m c1] 23
    have HS := Lib.hid (sortInts_c 53 (enters_of Try.func53 (by kernel_rfl) rfl) medLess a1 m c1 w1.heap.size w.heap.size _ _ (ho.alloc _) hB (fun x hx => by
      subst hx; have := (World.ownsRow.lt ho x.block rfl).2; omega) (by rw [catL_len, ← hm]; omega))
    clear HQ h0 hB hm ho
    go_wp2_with fail
    refine HS.out.mono ?_
    rintro e w2 ⟨rfl, l', p1, p2, o2, hB2, hb2⟩
    have hb : Below w.heap.size w w2 := (hb1.alloc hb1.size _).trans (hb2 _ (Nat.le_refl _) (by have := hb1.size; simp; omega))
    have hl' := ints_sorted p1 p2
    rw [← hl'] at HR
    obtain ⟨ax, mx, cx, he, hm2, hmc2, hcm2, hcc2⟩ := OwnInts.at o2
    cases he
    clear p1 p2 o2 hb2 hl' HS
    have hbx := hB2.2.1 0
    clear hB2
    have hml : m = l'.length := hm2
    have hd1 : ((m : Int) - 1).tdiv 2 = (((m - 1) / 2 : Nat) : Int) := by rw [Int.tdiv_eq_ediv_of_nonneg (by omega)]; omega
    have hd2 : ((m : Int) - 1) / 2 = (((m - 1) / 2 : Nat) : Int) := by omega
    have hq2 : (m - 1) / 2 < m := by omega
    generalize hqq : (m - 1) / 2 = q at *
    have hwq : IntKind.i64.wrap (q : Int) = (q : Int) := IntWalk.i64_in _ (by omega)
    have hw1 : IntKind.i64.wrap ((m : Int) - 1) = (m : Int) - 1 := IntWalk.i64_in _ (by omega)
    clear hqq
    obtain ⟨b', o', rfl, hbs', d0⟩ := hcc2 q (by rw [← hml]; exact hq2)
    clear hml hm2 hcc2
    generalize nth l' q = r at *
    go_wp2
    go_ret2
    exact Gives.ii HR.out HC0.out hb
  · have HA : Hid (medL l p = 0) := Lib.hid (by unfold medL; rw [if_neg h0])
    have hne : (askCode l p != 0) = true := by simpa using h0
    generalize askCode l p = code at *
    go_enter Try.func15, Try.ntmps15
    go_wp2_with fail
    refine HQ.out.mono ?_
    rintro e w1 ⟨a1, m, c1, rfl, ho, hb1⟩
    clear HQ ho
    have hb := hb1.alloc hb1.size (.cells #[.slice a1 m c1] 23)
    go_wp2
    go_ret2
    exact Gives.ii HA.out rfl hb
set_option maxHeartbeats 1000000 in
set_option linter.unusedVariables false in
theorem fnExactMedianCatches_walk (v0 : Value) (l0 : List Att) (v1 : Value) (l1 : List Int) (w : World) (c0 : AttsAt w v0 l0) (c1 : IntsAt w v1 l1) :
    Calls Try.prog 3 #[v0, v1] w (Gives (.bool true) w) := by
  have A0 := Lib.hid c0; clear c0
  have A1 := Lib.hid c1; clear c1
  obtain ⟨pa1, pn1, pc1, rfl, hpn1, hpr1⟩ := A1.out
  have Hpn1 := Lib.hid hpn1; have Hpr1 := Lib.hid hpr1; clear hpn1 hpr1
  by_cases hg1 : 1048576 < pn1
  · go_enter Try.func3, Try.ntmps3
    go_wp2
    go_ret
    exact Gives.bool rfl (by go_grown)
  have hl1 : l1.length ≤ 1048576 := by rw [← Hpn1.out]; omega
  have qs0 := szAttsT_le l0 1048576 (by omega)
  have QS0 := Lib.hid qs0.2.2; have qt0 := qs0.2.1; clear qs0
  go_enter Try.func3, Try.ntmps3
  go_wp2_with fail
  generalize Value.slice pa1 pn1 pc1 = v1 at *
  refine (szAttemptS_c v0 l0 1048576 w A0.out (by omega) (by omega)).mono ?_
  rintro e W1 ⟨rfl, b1⟩
  have hb1 := b1
  generalize szAttsT l0 1048576 = r0 at *
  by_cases hs0 : r0 < 0
  · go_wp2
    go_ret
    exact Gives.bool rfl hb1
  have S0 := Lib.hid (QS0.out (by omega))
  have hl0 := (QS0.out (by omega)).1
  go_wp2_with fail
  refine (toAttemptS_c v0 l0 W1 (A0.out.below b1) (by omega) (fun x hx => by have := S0.out.2 x hx; omega)).mono ?_
  rintro e W2 ⟨ax0, nx0, cx0, rfl, ox0, b2⟩
  generalize Value.slice ax0 nx0 cx0 = vx0 at *
  have Ox0 := Lib.hid ox0.at; clear ox0
  have hb2 := bthen hb1 b2
  go_wp2_with fail
  refine (toInt64S_c v1 l1 W2 ((A1.out.below b1).below b2) (by omega)).mono ?_
  rintro e W3 ⟨ax1, nx1, cx1, rfl, ox1, b3⟩
  generalize Value.slice ax1 nx1 cx1 = vx1 at *
  have Ox1 := Lib.hid ox1.at; clear ox1
  have hb3 := bthen hb2 b3
  go_wp2_with fail
  refine (sMedianCatches_c vx0 vx1 l0 l1 W3 (Ox0.out.below b3) Ox1.out).mono ?_
  rintro e W4 ⟨rfl, b4⟩
  have hb4 := bthen hb3 b4
  go_wp2_with fail
  refine (toAttemptS_c v0 l0 W4 ((((A0.out.below b1).below b2).below b3).below b4) (by omega) (fun x hx => by have := S0.out.2 x hx; omega)).mono ?_
  rintro e W5 ⟨ax2, nx2, cx2, rfl, ox2, b5⟩
  generalize Value.slice ax2 nx2 cx2 = vx2 at *
  have Ox2 := Lib.hid ox2.at; clear ox2
  have hb5 := bthen hb4 b5
  go_wp2_with fail
  refine (toInt64S_c v1 l1 W5 (((((A1.out.below b1).below b2).below b3).below b4).below b5) (by omega)).mono ?_
  rintro e W6 ⟨ax3, nx3, cx3, rfl, ox3, b6⟩
  generalize Value.slice ax3 nx3 cx3 = vx3 at *
  have Ox3 := Lib.hid ox3.at; clear ox3
  have hb6 := bthen hb5 b6
  go_wp2_with fail
  refine (iMedianCatches_c vx2 vx3 l0 l1 W6 (Ox2.out.below b6) Ox3.out).mono ?_
  rintro e W7 ⟨rfl, b7⟩
  have hb7 := bthen hb6 b7
  go_wp2_with fail
  refine (toAttemptS_c v0 l0 W7 (((((((A0.out.below b1).below b2).below b3).below b4).below b5).below b6).below b7) (by omega) (fun x hx => by have := S0.out.2 x hx; omega)).mono ?_
  rintro e W8 ⟨ax4, nx4, cx4, rfl, ox4, b8⟩
  generalize Value.slice ax4 nx4 cx4 = vx4 at *
  have Ox4 := Lib.hid ox4.at; clear ox4
  have hb8 := bthen hb7 b8
  go_wp2_with fail
  refine (eqAttemptS_c vx2 vx4 l0 l0 W8 (((Ox2.out.below b6).below b7).below b8) Ox4.out).mono ?_
  rw [(same2_iff eqAttB eqAttB_iff l0 l0).2 rfl]
  rintro e W9 ⟨rfl, b9⟩
  have hb9 := bthen hb8 b9
  go_wp2_with fail
  refine (toInt64S_c v1 l1 W9 (((((((((A1.out.below b1).below b2).below b3).below b4).below b5).below b6).below b7).below b8).below b9) (by omega)).mono ?_
  rintro e W10 ⟨ax5, nx5, cx5, rfl, ox5, b10⟩
  generalize Value.slice ax5 nx5 cx5 = vx5 at *
  have Ox5 := Lib.hid ox5.at; clear ox5
  have hb10 := bthen hb9 b10
  go_wp2_with fail
  refine (eqInt64S_c vx3 vx5 l1 l1 W10 ((((Ox3.out.below b7).below b8).below b9).below b10) Ox5.out).mono ?_
  rw [(same2_iff eqI eqI_iff l1 l1).2 rfl]
  rintro e W11 ⟨rfl, b11⟩
  have hb11 := bthen hb10 b11
  go_wp2
  go_ret
  exact Gives.bool rfl hb11
set_option maxRecDepth 100000 in
set_option linter.unusedVariables false in
theorem fnExactMedianCatches_lifted (os : Os) (started : os.Started) (H : Type) (enc : TypeId × Value → H) :
    ReturnsInHanded {} Try.checked os 3 .any (Rows.fnExactMedianCatchesSpec.pre6 enc Try.prog Try.f3 Rows.fnExactMedianCatchesRow.domain false) (Rows.fnExactMedianCatchesSpec.post enc Try.prog Try.f3 false true false false) := by
  refine returnsInHanded_of_change (C := Try.checked) own started (by kernel_rfl) Try.func3
    (ChangeSpec.witness6 (enc := enc) (C := Try.checked) false ⟨#[], #[.slice none 0 0, .slice none 0 0], []⟩ 8 (by kernel_rfl) (by kernel_rfl) (by kernel_rfl) (by kernel_rfl)) ?_
  intro W base args ds gs before hval0 hW hcnd _
  have hval : ∀ (j : Nat) t v, Try.f3.params[j]? = some t → args[j]? = some v → Value.okWide Try.prog W .any base t v := hval0
  have hW' := hW
  obtain ⟨p, q, hA0, hV, rfl, hfz, hnd⟩ := hW
  have hA : DataW.TrodAll enc Try.prog W 0 (fun _ => true) true Try.f3.params.toList args.toList ds p := hA0
  rw [Try.params3] at hA hval
  obtain ⟨v0, vs0, d0, ds0, p0, q0, hargs, rfl, rfl, h0, r0⟩ := trodAll_cons hA
  obtain ⟨v1, vs1, d1, ds1, p1, q1, rfl, rfl, rfl, h1, r1⟩ := trodAll_cons r0
  obtain ⟨rfl, rfl, rfl⟩ := trodAll_nil r1
  obtain rfl : args = #[v0, v1] := by cases args; simp_all
  obtain ⟨rfl, rfl⟩ := trodVars_none hV
  have k0 := h0
  have lt0 : ∀ x ∈ p0, x.block < W.heap.size := by obtain ⟨m, hm⟩ := k0; exact DataW.trod_lt m _ _ _ hm
  obtain ⟨l0, c0, w0⟩ := attempts_of_trod (v := v0) Try.underlying22 Try.underlying70 (by kernel_rfl) (by kernel_rfl) Try.underlying23 Try.underlying2 (by kernel_rfl) Try.underlying2 Try.underlying4 (hval 0 22 v0 rfl rfl) h0
  have k1 := h1
  have lt1 : ∀ x ∈ p1, x.block < W.heap.size := by obtain ⟨m, hm⟩ := k1; exact DataW.trod_lt m _ _ _ hm
  obtain ⟨l1, c1, w1⟩ := ints_of_trod (v := v1) Try.underlying23 Try.underlying2 (by kernel_rfl) (hval 1 23 v1 rfl rfl) h1
  clear hA0 hval0
  refine (fnExactMedianCatches_walk v0 l0 v1 l1 W c0 c1).mono fun e W' ⟨he, bel⟩ => ?_
  subst he
  exact ⟨_, rfl, _, _, _, [], _, [], hW', trodAll_mk1 (shut_bool Try.underlying4 _), (trodAll_cons_mk (Below.trod laidOut (by kernel_rfl) (of_decide_eq_true (by kernel_rfl)) k0 bel lt0) (trodAll_cons_mk (Below.trod laidOut (by kernel_rfl) (of_decide_eq_true (by kernel_rfl)) k1 bel lt1) trodAll_mk0)), rfl, bel.frame _, fun h => by cases h⟩
theorem fnExactMedianCatches_over : Rows.fnExactMedianCatchesRow.holds Try.pinned (OpenSpec.ofChange Rows.fnExactMedianCatchesSpec) :=
  OpenClaim.holds_of_wide 3 Try.f3 rfl rfl rfl rfl rfl rfl rfl ⟨rfl, rfl, rfl, rfl, rfl⟩ rfl rfl rfl rfl rfl (by kernel_rfl) Try.func3 (by kernel_rfl)
    (of_decide_eq_true (by kernel_rfl)) (by unfold Func.isWrapper; first | (rw [if_pos (by decide +kernel)]; kernel_rfl) | (rw [if_neg (by decide +kernel)]; exact ⟨rfl, rfl⟩))
    (fun os started H enc _ => fnExactMedianCatches_lifted os started H enc)
theorem fnExactMedianCatches_holds : Rows.FnExactMedianCatchesSaid := fnExactMedianCatches_over
#print axioms fnExactMedianCatches_holds
end Go.Proofs.Ythnkhpebaeloeaa
