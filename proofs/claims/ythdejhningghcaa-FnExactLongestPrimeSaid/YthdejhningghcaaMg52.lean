import Derived.Test.YthdejhningghcaaMg50
import Derived.Test.YthdejhningghcaaMg51
/- LawLp: the longest period of a prime pattern: both packages, the law, its row. -/
namespace Go.Proofs.Ythdejhningghcaa
open Go.ChangeShapes Go.WideShapes Go.ChangeAt Go.RowKit

def lngP (N H : Nat) : Nat → Nat
  | 0 => 1
  | 1 => 1
  | p + 2 => if implL N H (p + 2) = [] then lngP N H (p + 1) else p + 2
def lpL (n h : Int) : Int := if prCode n h 1 = 0 then (lngP n.toNat h.toNat 6 : Nat) else 0
theorem lpL_at {N H : Nat} (hc : prCode N H 1 = 0) : lpL N H = (lngP N H 6 : Nat) := by unfold lpL; rw [if_pos hc]; rfl
theorem lpL_no {n h : Int} (hc : prCode n h 1 ≠ 0) : lpL n h = 0 := by unfold lpL; rw [if_neg hc]
theorem lngP_hit {N H p : Nat} (h1 : 1 < p) (h : implL N H p ≠ []) : lngP N H p = p := by
  obtain ⟨q, rfl⟩ : ∃ q, p = q + 2 := ⟨p - 2, by omega⟩
  show (if implL N H (q + 2) = [] then _ else _) = _
  rw [if_neg h]
theorem lngP_miss {N H p : Nat} (h1 : 1 < p) (h : implL N H p = []) : lngP N H p = lngP N H (p - 1) := by
  obtain ⟨q, rfl⟩ : ∃ q, p = q + 2 := ⟨p - 2, by omega⟩
  show (if implL N H (q + 2) = [] then _ else _) = _
  rw [if_pos h]
  rfl
theorem sLongestPrime_c (n h : Int) (w : World) : Calls Try.prog 13 #[.int .i64 n, .int .i64 h] w (Gives (.tuple #[.int .i64 (lpL n h), .int .i64 (prCode n h 1)]) w) := by
  have qc := Lib.hid (fun W => l11Ask_c n h 1 W)
  by_cases hc : prCode n h 1 = 0
  · obtain ⟨N, H, P, rfl, rfl, -, -, -, h3, h4⟩ := prCode_0 hc
    have HL := Lib.hid (lpL_at hc)
    simp only [hc] at qc
    rw [hc]
    clear hc
    generalize lpL N H = R at *
    go_enter Try.func13, Try.ntmps13
    go_wp2_with fail
    refine (qc.out _).mono ?_
    rintro e w1 ⟨rfl, hb1⟩
    clear qc
    go_wp2
    go_loopw [7] (fun vi wr => ∃ p : Nat, vi = .int .i64 p ∧ 1 ≤ p ∧ p ≤ 6 ∧ Hid (R = (lngP N H p : Nat)) ∧ Below w.heap.size w wr) (fun vi _ => (intOf vi).toNat)
    case atStart => exact ⟨6, rfl, by omega, by omega, HL, hb1⟩
    case round =>
      clear HL hb1
      obtain ⟨p, rfl, hp1, hp6, HR, hb⟩ := hrel
      by_cases hlt : 1 < p
      · have hI : (1 : Int) < (p : Int) := by omega
        have QA := Lib.hid (fun W => l11All_c N H p W hp1 hp6 h3 h4)
        have LAW := Lib.hid (primes_law (N := N) (P := p) ⟨hp1, by omega⟩ h3).2.2
        generalize specS N H p = RS at *
        go_wp2_with fail
        refine (QA.out _).mono ?_
        rintro e w2 ⟨a, m, c, rfl, ho, hb2⟩
        have hm := intss_len ho
        have HNe : Hid (implL N H p = [] → m = 0) := Lib.hid (fun e => by rw [hm, LAW.2 e]; rfl)
        have HYe : Hid (m = 0 → implL N H p = []) := Lib.hid (fun e => LAW.1 (List.eq_nil_of_length_eq_zero (by rw [← hm]; exact e)))
        have HB := Lib.hid (bthen hb hb2)
        clear ho hm LAW QA hb hb2
        by_cases hm0 : 0 < m
        · have HE : Hid (R = (p : Int)) := Lib.hid (by
            rw [HR.out, lngP_hit hlt (fun e => by rw [HNe.out e] at hm0; omega)])
          have hmI : (0 : Int) < (m : Int) := by omega
          clear HR HNe HYe
          go_wp2
          go_ret2
          exact Gives.ii HE.out rfl HB.out
        · have HR2 : Hid (R = (lngP N H (p - 1) : Nat)) := Lib.hid (by
            rw [HR.out, lngP_miss hlt (HYe.out (by omega))])
          have hmI : ¬ (0 : Int) < (m : Int) := by omega
          have hsub : ((p : Int) - 1) = ((p - 1 : Nat) : Int) := by omega
          have hwr : IntKind.i64.wrap ((p : Int) - 1) = ((p - 1 : Nat) : Int) := by rw [hsub, IntWalk.i64_in _ (by omega)]
          clear HR HNe HYe hsub
          go_wp2
          exact ⟨⟨p - 1, by first | rfl | go_num, by omega, by omega, HR2, HB.out⟩, by simp [intOf]; omega⟩
      · obtain rfl : p = 1 := by omega
        have HE : Hid (R = 1) := Lib.hid HR.out
        clear HR
        go_wp2
        go_ret2
        exact Gives.ii HE.out rfl hb
  · have HL := Lib.hid (lpL_no hc)
    generalize lpL n h = R at *
    generalize prCode n h 1 = r at *
    have hcb : (r != 0) = true := bne_iff_ne.2 hc
    go_enter Try.func13, Try.ntmps13
    go_wp2_with fail
    refine (qc.out _).mono ?_
    rintro e w1 ⟨rfl, hb1⟩
    have HB := Lib.hid hb1
    clear hb1 qc
    go_wp2
    go_ret2
    exact Gives.ii HL.out rfl HB.out
theorem iLongestPrime_c (n h : Int) (w : World) : Calls Try.prog 14 #[.int .i64 n, .int .i64 h] w (Gives (.tuple #[.int .i64 (lpL n h), .int .i64 (prCode n h 1)]) w) := by
  have qc := Lib.hid (fun W => primesCode_c n h 1 W)
  by_cases hc : prCode n h 1 = 0
  · obtain ⟨N, H, P, rfl, rfl, -, -, -, h3, h4⟩ := prCode_0 hc
    have HL := Lib.hid (lpL_at hc)
    simp only [hc] at qc
    rw [hc]
    clear hc
    generalize lpL N H = R at *
    go_enter Try.func14, Try.ntmps14
    go_wp2_with fail
    refine (qc.out _).mono ?_
    rintro e w1 ⟨rfl, hb1⟩
    clear qc
    go_wp2
    go_loopw [7] (fun vi wr => ∃ p : Nat, vi = .int .i64 p ∧ 1 ≤ p ∧ p ≤ 6 ∧ Hid (R = (lngP N H p : Nat)) ∧ Below w.heap.size w wr) (fun vi _ => (intOf vi).toNat)
    case atStart => exact ⟨6, rfl, by omega, by omega, HL, hb1⟩
    case round =>
      clear HL hb1
      obtain ⟨p, rfl, hp1, hp6, HR, hb⟩ := hrel
      by_cases hlt : 1 < p
      · have hI : (1 : Int) < (p : Int) := by omega
        have QA := Lib.hid (fun W => primesOf_c N p H W hp1 hp6 h3 h4)
        go_wp2_with fail
        refine (QA.out _).mono ?_
        rintro e w2 ⟨a, m, c, rfl, ho, hb2⟩
        have hm := intss_len ho
        have HNe : Hid (implL N H p = [] → m = 0) := Lib.hid (fun e => by rw [hm, e]; rfl)
        have HYe : Hid (m = 0 → implL N H p = []) := Lib.hid (fun e => List.eq_nil_of_length_eq_zero (by rw [← hm]; exact e))
        have HB := Lib.hid (bthen hb hb2)
        clear ho hm QA hb hb2
        by_cases hm0 : 0 < m
        · have HE : Hid (R = (p : Int)) := Lib.hid (by
            rw [HR.out, lngP_hit hlt (fun e => by rw [HNe.out e] at hm0; omega)])
          have hmI : (0 : Int) < (m : Int) := by omega
          clear HR HNe HYe
          go_wp2
          go_ret2
          exact Gives.ii HE.out rfl HB.out
        · have HR2 : Hid (R = (lngP N H (p - 1) : Nat)) := Lib.hid (by
            rw [HR.out, lngP_miss hlt (HYe.out (by omega))])
          have hmI : ¬ (0 : Int) < (m : Int) := by omega
          have hsub : ((p : Int) - 1) = ((p - 1 : Nat) : Int) := by omega
          have hwr : IntKind.i64.wrap ((p : Int) - 1) = ((p - 1 : Nat) : Int) := by rw [hsub, IntWalk.i64_in _ (by omega)]
          clear HR HNe HYe hsub
          go_wp2
          exact ⟨⟨p - 1, by first | rfl | go_num, by omega, by omega, HR2, HB.out⟩, by simp [intOf]; omega⟩
      · obtain rfl : p = 1 := by omega
        have HE : Hid (R = 1) := Lib.hid HR.out
        clear HR
        go_wp2
        go_ret2
        exact Gives.ii HE.out rfl hb
  · have HL := Lib.hid (lpL_no hc)
    generalize lpL n h = R at *
    generalize prCode n h 1 = r at *
    have hcb : (r != 0) = true := bne_iff_ne.2 hc
    go_enter Try.func14, Try.ntmps14
    go_wp2_with fail
    refine (qc.out _).mono ?_
    rintro e w1 ⟨rfl, hb1⟩
    have HB := Lib.hid hb1
    clear hb1 qc
    go_wp2
    go_ret2
    exact Gives.ii HL.out rfl HB.out
set_option maxHeartbeats 1000000 in
set_option linter.unusedVariables false in
theorem fnExactLongestPrime_walk (a0 : Int) (a1 : Int) (w : World) (w0 : -9223372036854775808 ≤ a0 ∧ a0 ≤ 9223372036854775807) (w1 : -9223372036854775808 ≤ a1 ∧ a1 ≤ 9223372036854775807) :
    Calls Try.prog 5 #[.int .i64 a0, .int .i64 a1] w (Gives (.bool true) w) := by
  have B0 := Lib.hid w0; clear w0
  have B1 := Lib.hid w1; clear w1
  go_enter Try.func5, Try.ntmps5
  go_wp2_with fail
  refine (sLongestPrime_c a0 a1 w).mono ?_
  rintro e W1 ⟨rfl, b1⟩
  have hb1 := b1
  go_wp2_with fail
  refine (iLongestPrime_c a0 a1 W1).mono ?_
  rintro e W2 ⟨rfl, b2⟩
  have hb2 := bthen hb1 b2
  go_wp2
  go_ret
  exact Gives.bool rfl hb2
set_option maxRecDepth 100000 in
set_option linter.unusedVariables false in
theorem fnExactLongestPrime_lifted (os : Os) (started : os.Started) (H : Type) (enc : TypeId × Value → H) :
    ReturnsInHanded {} Try.checked os 5 .any (Rows.fnExactLongestPrimeSpec.pre6 enc Try.prog Try.f5 Rows.fnExactLongestPrimeRow.domain false) (Rows.fnExactLongestPrimeSpec.post enc Try.prog Try.f5 false true false false) := by
  refine returnsInHanded_of_change (C := Try.checked) own started (by kernel_rfl) Try.func5
    (ChangeSpec.witness6 (enc := enc) (C := Try.checked) false ⟨#[], #[.int .i64 0, .int .i64 0], []⟩ 8 (by kernel_rfl) (by kernel_rfl) (by kernel_rfl) (by kernel_rfl)) ?_
  intro W base args ds gs before hval0 hW hcnd _
  have hval : ∀ (j : Nat) t v, Try.f5.params[j]? = some t → args[j]? = some v → Value.okWide Try.prog W .any base t v := hval0
  have hW' := hW
  obtain ⟨p, q, hA0, hV, rfl, hfz, hnd⟩ := hW
  have hA : DataW.TrodAll enc Try.prog W 0 (fun _ => true) true Try.f5.params.toList args.toList ds p := hA0
  rw [Try.params5] at hA hval
  obtain ⟨v0, vs0, d0, ds0, p0, q0, hargs, rfl, rfl, h0, r0⟩ := trodAll_cons hA
  obtain ⟨v1, vs1, d1, ds1, p1, q1, rfl, rfl, rfl, h1, r1⟩ := trodAll_cons r0
  obtain ⟨rfl, rfl, rfl⟩ := trodAll_nil r1
  obtain rfl : args = #[v0, v1] := by cases args; simp_all
  obtain ⟨rfl, rfl⟩ := trodVars_none hV
  have k0 := h0
  have lt0 : ∀ x ∈ p0, x.block < W.heap.size := by obtain ⟨m, hm⟩ := k0; exact DataW.trod_lt m _ _ _ hm
  obtain ⟨a0, rfl, w0⟩ := int_of_trod Try.underlying2 (hval 0 2 v0 rfl rfl) h0
  have k1 := h1
  have lt1 : ∀ x ∈ p1, x.block < W.heap.size := by obtain ⟨m, hm⟩ := k1; exact DataW.trod_lt m _ _ _ hm
  obtain ⟨a1, rfl, w1⟩ := int_of_trod Try.underlying2 (hval 1 2 v1 rfl rfl) h1
  clear hA0 hval0
  refine (fnExactLongestPrime_walk a0 a1 W w0 w1).mono fun e W' ⟨he, bel⟩ => ?_
  subst he
  exact ⟨_, rfl, _, _, _, [], _, [], hW', trodAll_mk1 (shut_bool Try.underlying4 _), (trodAll_cons_mk (Below.trod laidOut (by kernel_rfl) (of_decide_eq_true (by kernel_rfl)) k0 bel lt0) (trodAll_cons_mk (Below.trod laidOut (by kernel_rfl) (of_decide_eq_true (by kernel_rfl)) k1 bel lt1) trodAll_mk0)), rfl, bel.frame _, fun h => by cases h⟩
theorem fnExactLongestPrime_over : Rows.fnExactLongestPrimeRow.holds Try.pinned (OpenSpec.ofChange Rows.fnExactLongestPrimeSpec) :=
  OpenClaim.holds_of_wide 5 Try.f5 rfl rfl rfl rfl rfl rfl rfl ⟨rfl, rfl, rfl, rfl, rfl⟩ rfl rfl rfl rfl rfl (by kernel_rfl) Try.func5 (by kernel_rfl)
    (of_decide_eq_true (by kernel_rfl)) (by unfold Func.isWrapper; first | (rw [if_pos (by decide +kernel)]; kernel_rfl) | (rw [if_neg (by decide +kernel)]; exact ⟨rfl, rfl⟩))
    (fun os started H enc _ => fnExactLongestPrime_lifted os started H enc)
theorem fnExactLongestPrime_holds : Rows.FnExactLongestPrimeSaid := fnExactLongestPrime_over
#print axioms fnExactLongestPrime_holds
end Go.Proofs.Ythdejhningghcaa
