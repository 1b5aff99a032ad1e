import Derived.Test.YthdejhningghcaaMg50
import Derived.Test.YthdejhningghcaaMg51
/- LawCp: how many prime patterns there are: both packages, the law, its row. -/
namespace Go.Proofs.Ythdejhningghcaa
open Go.ChangeShapes Go.WideShapes Go.ChangeAt Go.RowKit

def cpL (n h p : Int) : Int := ((prL n h p).length : Nat)
theorem cpL_no {n h p : Int} (hc : prC n h p ≠ 0) : cpL n h p = 0 := by
  unfold cpL prL
  by_cases h0 : prCode n h p = 0
  · rw [if_pos h0]
    unfold prC at hc
    rw [if_pos h0] at hc
    by_cases h1 : 30 < (prList n h p).length
    · rw [if_pos h1]; rfl
    · rw [if_neg h1] at hc; exact absurd rfl hc
  · rw [if_neg h0]; rfl
theorem sCountPrimes_c (n h p : Int) (w : World) : Calls Try.prog 11 #[.int .i64 n, .int .i64 h, .int .i64 p] w (Gives (.tuple #[.int .i64 (cpL n h p), .int .i64 (prC n h p)]) w) := by
  have q := Lib.hid (fun W => l11Found_c n h p W)
  have HL : Hid (cpL n h p = ((prL n h p).length : Nat)) := Lib.hid rfl
  generalize cpL n h p = cl at *
  generalize prL n h p = rl at *
  generalize prC n h p = rc at *
  go_enter Try.func11, Try.ntmps11
  go_wp2_with fail
  refine (q.out _).mono ?_
  rintro e w1 ⟨a, m, c, rfl, ho, hb⟩
  have hm := intss_len ho
  rw [← hm] at HL
  clear hm ho
  go_wp2
  go_ret2
  exact Gives.ii HL.out rfl hb
theorem iCountPrimes_c (n h p : Int) (w : World) : Calls Try.prog 12 #[.int .i64 n, .int .i64 h, .int .i64 p] w (Gives (.tuple #[.int .i64 (cpL n h p), .int .i64 (prC n h p)]) w) := by
  have q := Lib.hid (fun W => iPrimesOf_c n h p W)
  have HL : Hid (cpL n h p = ((prL n h p).length : Nat)) := Lib.hid rfl
  have HN : Hid (prC n h p ≠ 0 → cpL n h p = 0) := Lib.hid cpL_no
  generalize cpL n h p = cl at *
  generalize prL n h p = rl at *
  generalize prC n h p = rc at *
  go_enter Try.func12, Try.ntmps12
  go_wp2_with fail
  refine (q.out _).mono ?_
  rintro e w1 ⟨a, m, c, rfl, ho, hb⟩
  have hm := intss_len ho
  rw [← hm] at HL
  clear hm ho
  by_cases hc : rc = 0
  · have hcb : (rc != 0) = false := by simp [hc]
    have HC := Lib.hid hc
    clear hc
    go_wp2
    go_ret2
    exact Gives.ii HL.out HC.out hb
  · have hcb : (rc != 0) = true := bne_iff_ne.2 hc
    have H0 : Hid (cl = 0) := Lib.hid (HN.out hc)
    clear hc
    go_wp2
    go_ret2
    exact Gives.ii H0.out rfl hb
set_option maxHeartbeats 1000000 in
set_option linter.unusedVariables false in
theorem fnExactCountPrimes_walk (a0 : Int) (a1 : Int) (a2 : Int) (w : World) (w0 : -9223372036854775808 ≤ a0 ∧ a0 ≤ 9223372036854775807) (w1 : -9223372036854775808 ≤ a1 ∧ a1 ≤ 9223372036854775807) (w2 : -9223372036854775808 ≤ a2 ∧ a2 ≤ 9223372036854775807) :
    Calls Try.prog 4 #[.int .i64 a0, .int .i64 a1, .int .i64 a2] w (Gives (.bool true) w) := by
  have B0 := Lib.hid w0; clear w0
  have B1 := Lib.hid w1; clear w1
  have B2 := Lib.hid w2; clear w2
  go_enter Try.func4, Try.ntmps4
  go_wp2_with fail
  refine (sCountPrimes_c a0 a1 a2 w).mono ?_
  rintro e W1 ⟨rfl, b1⟩
  have hb1 := b1
  go_wp2_with fail
  refine (iCountPrimes_c a0 a1 a2 W1).mono ?_
  rintro e W2 ⟨rfl, b2⟩
  have hb2 := bthen hb1 b2
  go_wp2
  go_ret
  exact Gives.bool rfl hb2
set_option maxRecDepth 100000 in
set_option linter.unusedVariables false in
theorem fnExactCountPrimes_lifted (os : Os) (started : os.Started) (H : Type) (enc : TypeId × Value → H) :
    ReturnsInHanded {} Try.checked os 4 .any (Rows.fnExactCountPrimesSpec.pre6 enc Try.prog Try.f4 Rows.fnExactCountPrimesRow.domain false) (Rows.fnExactCountPrimesSpec.post enc Try.prog Try.f4 false true false false) := by
  refine returnsInHanded_of_change (C := Try.checked) own started (by kernel_rfl) Try.func4
    (ChangeSpec.witness6 (enc := enc) (C := Try.checked) false ⟨#[], #[.int .i64 0, .int .i64 0, .int .i64 0], []⟩ 8 (by kernel_rfl) (by kernel_rfl) (by kernel_rfl) (by kernel_rfl)) ?_
  intro W base args ds gs before hval0 hW hcnd _
  have hval : ∀ (j : Nat) t v, Try.f4.params[j]? = some t → args[j]? = some v → Value.okWide Try.prog W .any base t v := hval0
  have hW' := hW
  obtain ⟨p, q, hA0, hV, rfl, hfz, hnd⟩ := hW
  have hA : DataW.TrodAll enc Try.prog W 0 (fun _ => true) true Try.f4.params.toList args.toList ds p := hA0
  rw [Try.params4] at hA hval
  obtain ⟨v0, vs0, d0, ds0, p0, q0, hargs, rfl, rfl, h0, r0⟩ := trodAll_cons hA
  obtain ⟨v1, vs1, d1, ds1, p1, q1, rfl, rfl, rfl, h1, r1⟩ := trodAll_cons r0
  obtain ⟨v2, vs2, d2, ds2, p2, q2, rfl, rfl, rfl, h2, r2⟩ := trodAll_cons r1
  obtain ⟨rfl, rfl, rfl⟩ := trodAll_nil r2
  obtain rfl : args = #[v0, v1, v2] := by cases args; simp_all
  obtain ⟨rfl, rfl⟩ := trodVars_none hV
  have k0 := h0
  have lt0 : ∀ x ∈ p0, x.block < W.heap.size := by obtain ⟨m, hm⟩ := k0; exact DataW.trod_lt m _ _ _ hm
  obtain ⟨a0, rfl, w0⟩ := int_of_trod Try.underlying2 (hval 0 2 v0 rfl rfl) h0
  have k1 := h1
  have lt1 : ∀ x ∈ p1, x.block < W.heap.size := by obtain ⟨m, hm⟩ := k1; exact DataW.trod_lt m _ _ _ hm
  obtain ⟨a1, rfl, w1⟩ := int_of_trod Try.underlying2 (hval 1 2 v1 rfl rfl) h1
  have k2 := h2
  have lt2 : ∀ x ∈ p2, x.block < W.heap.size := by obtain ⟨m, hm⟩ := k2; exact DataW.trod_lt m _ _ _ hm
  obtain ⟨a2, rfl, w2⟩ := int_of_trod Try.underlying2 (hval 2 2 v2 rfl rfl) h2
  clear hA0 hval0
  refine (fnExactCountPrimes_walk a0 a1 a2 W w0 w1 w2).mono fun e W' ⟨he, bel⟩ => ?_
  subst he
  exact ⟨_, rfl, _, _, _, [], _, [], hW', trodAll_mk1 (shut_bool Try.underlying4 _), (trodAll_cons_mk (Below.trod laidOut (by kernel_rfl) (of_decide_eq_true (by kernel_rfl)) k0 bel lt0) (trodAll_cons_mk (Below.trod laidOut (by kernel_rfl) (of_decide_eq_true (by kernel_rfl)) k1 bel lt1) (trodAll_cons_mk (Below.trod laidOut (by kernel_rfl) (of_decide_eq_true (by kernel_rfl)) k2 bel lt2) trodAll_mk0))), rfl, bel.frame _, fun h => by cases h⟩
theorem fnExactCountPrimes_over : Rows.fnExactCountPrimesRow.holds Try.pinned (OpenSpec.ofChange Rows.fnExactCountPrimesSpec) :=
  OpenClaim.holds_of_wide 4 Try.f4 rfl rfl rfl rfl rfl rfl rfl ⟨rfl, rfl, rfl, rfl, rfl⟩ rfl rfl rfl rfl rfl (by kernel_rfl) Try.func4 (by kernel_rfl)
    (of_decide_eq_true (by kernel_rfl)) (by unfold Func.isWrapper; first | (rw [if_pos (by decide +kernel)]; kernel_rfl) | (rw [if_neg (by decide +kernel)]; exact ⟨rfl, rfl⟩))
    (fun os started H enc _ => fnExactCountPrimes_lifted os started H enc)
theorem fnExactCountPrimes_holds : Rows.FnExactCountPrimesSaid := fnExactCountPrimes_over
#print axioms fnExactCountPrimes_holds
end Go.Proofs.Ythdejhningghcaa
