/- LawSameCards: the walk of the law FnExactSameCards, and its row. -/
import Derived.Test.YtecijaggcaogeaaLawCards
import Derived.Test.YtecijaggcaogeaaOpen
namespace Go.Proofs.Ytecijaggcaogeaa
open Go.ChangeShapes Go.WideShapes Go.ChangeAt Go.RowKit

theorem fnExactSameCards_walk (v u : Value) (l m : List Card) (w : World) (hv : CardsAt w v l) (hu : CardsAt w u m) :
    Calls Try.prog 4 #[v, u] w (Gives (.bool true) w) := by
  have HV := Lib.hid hv; clear hv
  have HU := Lib.hid hu; clear hu
  have q0 := szCardsT_le l 1048576 (by omega)
  have Q0 := Lib.hid q0.2.2
  have q0' := q0.2.1
  clear q0
  go_enter Try.func4, Try.ntmps4
  go_wp2_with fail
  refine (szCardS_c v l 1048576 w HV.out (by omega) (by omega)).mono ?_
  rintro e w1 ⟨rfl, hb1⟩
  generalize szCardsT l 1048576 = r0 at *
  by_cases h0 : r0 < 0
  · go_wp2
    go_ret
    exact Gives.bool rfl hb1
  have q1 := szCardsT_le m r0 (by omega)
  have Q1 := Lib.hid q1.2.2
  clear q1
  have hl := (Q0.out (by omega)).1
  go_wp2_with fail
  refine (szCardS_c u m r0 w1 (HU.out.below hb1) (by omega) (by omega)).mono ?_
  rintro e w2 ⟨rfl, hb2'⟩
  generalize szCardsT m r0 = r1 at *
  have hb2 := bthen hb1 hb2'
  clear hb2'
  by_cases h1 : r1 < 0
  · go_wp2
    go_ret
    exact Gives.bool rfl hb2
  have hm := (Q1.out (by omega)).1
  go_wp2_with fail
  refine (toCardS_c v l w2 (HV.out.below hb2) (by omega)).mono ?_
  rintro e w3 ⟨v3, rfl, o3, b3⟩
  have O3 := Lib.hid o3.at; clear o3
  have hb3 := bthen hb2 b3
  go_wp2_with fail
  refine (toCardS_c u m w3 (HU.out.below hb3) (by omega)).mono ?_
  rintro e w4 ⟨v4, rfl, o4, b4⟩
  have O4 := Lib.hid o4.at; clear o4
  have hb4 := bthen hb3 b4
  go_wp2_with fail
  refine (sSameCards_c v3 v4 l m w4 (O3.out.below b4) O4.out).mono ?_
  rintro e w5 ⟨rfl, b5⟩
  have hb5 := bthen hb4 b5
  clear O3 O4
  go_wp2_with fail
  refine (toCardS_c v l w5 (HV.out.below hb5) (by omega)).mono ?_
  rintro e w6 ⟨x0, rfl, o6, b6⟩
  have O6 := Lib.hid o6.at; clear o6
  have hb6 := bthen hb5 b6
  go_wp2_with fail
  refine (toCardS_c u m w6 (HU.out.below hb6) (by omega)).mono ?_
  rintro e w7 ⟨x1, rfl, o7, b7⟩
  have O7 := Lib.hid o7.at; clear o7
  have hb7 := bthen hb6 b7
  go_wp2_with fail
  refine (iSameCards_c x0 x1 l m w7 (O6.out.below b7) O7.out).mono ?_
  rintro e w8 ⟨rfl, b8⟩
  have hb8 := bthen hb7 b8
  cases same2 eqCardB l m
  all_goals
    go_wp2_with fail
    refine (toCardS_c v l w8 (HV.out.below hb8) (by omega)).mono ?_
    rintro e w9 ⟨y0, rfl, o9, b9⟩
    have O9 := Lib.hid o9.at; clear o9
    have hb9 := bthen hb8 b9
    have P6 := Lib.hid (((O6.out.below b7).below b8).below b9)
    have P7 := Lib.hid ((O7.out.below b8).below b9)
    go_wp2_with fail
    refine (eqCardS_c x0 y0 l l w9 P6.out O9.out).mono ?_
    rw [(same2_iff eqCardB eqCardB_iff l l).2 rfl]
    rintro e w10 ⟨rfl, b10⟩
    have hb10 := bthen hb9 b10
    go_wp2_with fail
    refine (toCardS_c u m w10 (HU.out.below hb10) (by omega)).mono ?_
    rintro e w11 ⟨y1, rfl, o11, b11⟩
    have O11 := Lib.hid o11.at; clear o11
    have hb11 := bthen hb10 b11
    go_wp2_with fail
    refine (eqCardS_c x1 y1 m m w11 ((P7.out.below b10).below b11) O11.out).mono ?_
    rw [(same2_iff eqCardB eqCardB_iff m m).2 rfl]
    rintro e w12 ⟨rfl, b12⟩
    have hb12 := bthen hb11 b12
    go_wp2
    go_ret
    exact Gives.bool rfl hb12

set_option maxRecDepth 100000 in
set_option linter.unusedVariables false in
theorem fnExactSameCards_lifted (os : Os) (started : os.Started) (H : Type) (enc : TypeId × Value → H) :
    ReturnsInHanded {} Try.checked os 4 .any (Rows.fnExactSameCardsSpec.pre6 enc Try.prog Try.f4 Rows.fnExactSameCardsRow.domain false) (Rows.fnExactSameCardsSpec.post enc Try.prog Try.f4 false true false false) := by
  refine returnsInHanded_of_change (C := Try.checked) own started (by kernel_rfl) Try.func4
    (ChangeSpec.witness6 (enc := enc) (C := Try.checked) false ⟨#[], #[.slice none 0 0, .slice none 0 0], []⟩ 8 (by kernel_rfl) (by kernel_rfl) (by kernel_rfl) (by kernel_rfl)) ?_
  intro W base args ds gs before hval0 hW hcnd _
  have hval : ∀ (j : Nat) t v, Try.f4.params[j]? = some t → args[j]? = some v → Value.okWide Try.prog W .any base t v := hval0
  have hW' := hW
  obtain ⟨p, q, hA0, hV, rfl, hfz, hnd⟩ := hW
  have hA : DataW.TrodAll enc Try.prog W 0 (fun _ => true) true Try.f4.params.toList args.toList ds p := hA0
  rw [Try.params4] at hA hval
  obtain ⟨v0, vs0, d0, ds0, p0, q0, hargs, rfl, rfl, h0, r0⟩ := trodAll_cons hA
  obtain ⟨v1, vs1, d1, ds1, p1, q1, rfl, rfl, rfl, h1, r1⟩ := trodAll_cons r0
  obtain ⟨rfl, rfl, rfl⟩ := trodAll_nil r1
  obtain rfl : args = #[v0, v1] := by cases args; simp_all
  obtain ⟨rfl, rfl⟩ := trodVars_none hV
  have k0 := h0
  have lt0 : ∀ x ∈ p0, x.block < W.heap.size := by obtain ⟨m, hm⟩ := k0; exact DataW.trod_lt m _ _ _ hm
  obtain ⟨l0, c0, w0⟩ := cards_of_trod (v := v0) Try.underlying25 Try.underlying59 (by kernel_rfl) (by kernel_rfl) Try.underlying9 Try.underlying2 (hval 0 25 v0 rfl rfl) h0
  have k1 := h1
  have lt1 : ∀ x ∈ p1, x.block < W.heap.size := by obtain ⟨m, hm⟩ := k1; exact DataW.trod_lt m _ _ _ hm
  obtain ⟨l1, c1, w1⟩ := cards_of_trod (v := v1) Try.underlying25 Try.underlying59 (by kernel_rfl) (by kernel_rfl) Try.underlying9 Try.underlying2 (hval 1 25 v1 rfl rfl) h1
  clear hA0 hval0
  refine (fnExactSameCards_walk v0 v1 l0 l1 W c0 c1).mono fun e W' ⟨he, bel⟩ => ?_
  subst he
  exact ⟨_, rfl, _, _, _, [], _, [], hW', trodAll_mk1 (shut_bool Try.underlying4 _), (trodAll_cons_mk (Below.trod laidOut (by kernel_rfl) (of_decide_eq_true (by kernel_rfl)) k0 bel lt0) (trodAll_cons_mk (Below.trod laidOut (by kernel_rfl) (of_decide_eq_true (by kernel_rfl)) k1 bel lt1) trodAll_mk0)), rfl, bel.frame _, fun h => by cases h⟩
theorem fnExactSameCards_over : Rows.fnExactSameCardsRow.holds Try.pinned (OpenSpec.ofChange Rows.fnExactSameCardsSpec) :=
  OpenClaim.holds_of_wide 4 Try.f4 rfl rfl rfl rfl rfl rfl rfl ⟨rfl, rfl, rfl, rfl, rfl⟩ rfl rfl rfl rfl rfl (by kernel_rfl) Try.func4 (by kernel_rfl)
    (of_decide_eq_true (by kernel_rfl)) (by unfold Func.isWrapper; first | (rw [if_pos (by decide +kernel)]; kernel_rfl) | (rw [if_neg (by decide +kernel)]; exact ⟨rfl, rfl⟩))
    (fun os started H enc _ => fnExactSameCards_lifted os started H enc)
theorem fnExactSameCards_holds : Rows.FnExactSameCardsSaid := fnExactSameCards_over
#print axioms fnExactSameCards_holds
end Go.Proofs.Ytecijaggcaogeaa
