/- LawIntervalOf: the program's IntervalOf and the reference's hand back the same; the row of the law. -/
import Derived.Test.YtecijaggcaogeaaOpen
import Derived.Test.YtecijaggcaogeaaSmall
namespace Go.Proofs.Ytecijaggcaogeaa
open Go.ChangeShapes Go.WideShapes Go.ChangeAt Go.RowKit

def ivl (n : Int) : Int := if n = 0 then 1 else if n = 1 then 2 else if n = 2 then 4 else if n = 3 then 7 else if n = 4 then 14 else if n = 5 then 30 else 60
theorem sivl_c (n : Int) (w : World) (h0 : 0 ≤ n) (h6 : n ≤ 6) : Calls Try.prog 37 #[.int .i64 n] w (Gives (.int .i64 (ivl n)) w) := by
  have : n = 0 ∨ n = 1 ∨ n = 2 ∨ n = 3 ∨ n = 4 ∨ n = 5 ∨ n = 6 := by omega
  rcases this with rfl | rfl | rfl | rfl | rfl | rfl | rfl
  all_goals
    go_enter Try.func37, Try.ntmps37
    go_wp2
    go_ret
    exact Gives.int rfl (by go_grown)
theorem iivl_c (n : Int) (w : World) (h0 : 0 ≤ n) (h6 : n ≤ 6) : Calls Try.prog 39 #[.int .i64 n] w (Gives (.int .i64 (ivl n)) w) := by
  have hi : ∃ m : Nat, n = (m : Int) ∧ m ≤ 6 := ⟨n.toNat, by omega, by omega⟩
  obtain ⟨m, rfl, hm⟩ := hi
  have hx : ∀ w, (Instr.index 82 (.agg #[.int .i64 1, .int .i64 2, .int .i64 4, .int .i64 7, .int .i64 14, .int .i64 30, .int .i64 60]) (.int .i64 m)).run Try.prog w = .ok (.int .i64 (ivl m)) w := by
    have : m = 0 ∨ m = 1 ∨ m = 2 ∨ m = 3 ∨ m = 4 ∨ m = 5 ∨ m = 6 := by omega
    rcases this with rfl | rfl | rfl | rfl | rfl | rfl | rfl
    all_goals exact fun _ => by kernel_rfl
  go_enter Try.func39, Try.ntmps39
  go_wp2
  go_ret
  exact Gives.int rfl (Below.refl _ _)

def ivlA (n : Int) : Int := if inB n 0 6 then ivl n else 0
def ivlB (n : Int) : Int := if inB n 0 6 then 0 else 2
theorem sIntervalOf_c (n : Int) (w : World) : Calls Try.prog 10 #[.int .i64 n] w (Gives (.tuple #[.int .i64 (ivlA n), .int .i64 (ivlB n)]) w) := by
  have hq := l00In_c n 0 6
  cases hE : inB n 0 6
  · rw [hE] at hq
    have HA : Hid (ivlA n = 0) := Lib.hid (by unfold ivlA; rw [hE]; rfl)
    have HB : Hid (ivlB n = 2) := Lib.hid (by unfold ivlB; rw [hE]; rfl)
    clear hE
    go_enter Try.func10, Try.ntmps10
    go_wp2_with (go_at_call 36; refine (hq _).mono ?_; rintro e w1 ⟨rfl, hb1⟩)
    go_ret2
    exact Gives.ii HA.out HB.out hb1
  · rw [hE] at hq
    obtain ⟨h0, h6⟩ := inB_true hE
    have HA : Hid (ivlA n = ivl n) := Lib.hid (by unfold ivlA; rw [hE]; rfl)
    have HB : Hid (ivlB n = 0) := Lib.hid (by unfold ivlB; rw [hE]; rfl)
    clear hE
    go_enter Try.func10, Try.ntmps10
    go_wp2_with (first | (go_at_call 36; refine (hq _).mono ?_; rintro e w1 ⟨rfl, hb1⟩) | (go_at_call 37; refine (sivl_c n _ h0 h6).mono ?_; rintro e w2 ⟨rfl, hb2⟩))
    go_ret2
    exact Gives.ii HA.out HB.out (bthen hb1 hb2)
theorem iIntervalOf_c (n : Int) (w : World) : Calls Try.prog 11 #[.int .i64 n] w (Gives (.tuple #[.int .i64 (ivlA n), .int .i64 (ivlB n)]) w) := by
  have hq := between_c n 0 6
  cases hE : inB n 0 6
  · rw [hE] at hq
    have HA : Hid (ivlA n = 0) := Lib.hid (by unfold ivlA; rw [hE]; rfl)
    have HB : Hid (ivlB n = 2) := Lib.hid (by unfold ivlB; rw [hE]; rfl)
    clear hE
    go_enter Try.func11, Try.ntmps11
    go_wp2_with (go_at_call 38; refine (hq _).mono ?_; rintro e w1 ⟨rfl, hb1⟩)
    go_ret2
    exact Gives.ii HA.out HB.out hb1
  · rw [hE] at hq
    obtain ⟨h0, h6⟩ := inB_true hE
    have HA : Hid (ivlA n = ivl n) := Lib.hid (by unfold ivlA; rw [hE]; rfl)
    have HB : Hid (ivlB n = 0) := Lib.hid (by unfold ivlB; rw [hE]; rfl)
    clear hE
    go_enter Try.func11, Try.ntmps11
    go_wp2_with (first | (go_at_call 38; refine (hq _).mono ?_; rintro e w1 ⟨rfl, hb1⟩) | (go_at_call 39; refine (iivl_c n _ h0 h6).mono ?_; rintro e w2 ⟨rfl, hb2⟩))
    go_ret2
    exact Gives.ii HA.out HB.out (bthen hb1 hb2)

theorem fnExactIntervalOf_walk (n : Int) (w : World) : Calls Try.prog 3 #[.int .i64 n] w (Gives (.bool true) w) := by
  go_enter Try.func3, Try.ntmps3
  go_wp2_with (first | (go_at_call 10; refine (sIntervalOf_c n _).mono ?_; rintro e w1 ⟨rfl, hb1⟩) | (go_at_call 11; refine (iIntervalOf_c n _).mono ?_; rintro e w2 ⟨rfl, hb2⟩))
  go_ret
  exact Gives.bool rfl (bthen hb1 hb2)

set_option maxRecDepth 100000 in
set_option linter.unusedVariables false in
theorem fnExactIntervalOf_lifted (os : Os) (started : os.Started) (H : Type) (enc : TypeId × Value → H) :
    ReturnsInHanded {} Try.checked os 3 .any (Rows.fnExactIntervalOfSpec.pre6 enc Try.prog Try.f3 Rows.fnExactIntervalOfRow.domain false) (Rows.fnExactIntervalOfSpec.post enc Try.prog Try.f3 false true false false) := by
  refine returnsInHanded_of_change (C := Try.checked) own started (by kernel_rfl) Try.func3
    (ChangeSpec.witness6 (enc := enc) (C := Try.checked) false ⟨#[], #[.int .i64 0], []⟩ 8 (by kernel_rfl) (by kernel_rfl) (by kernel_rfl) (by kernel_rfl)) ?_
  intro W base args ds gs before hval0 hW hcnd _
  have hval : ∀ (j : Nat) t v, Try.f3.params[j]? = some t → args[j]? = some v → Value.okWide Try.prog W .any base t v := hval0
  have hW' := hW
  obtain ⟨p, q, hA0, hV, rfl, hfz, hnd⟩ := hW
  have hA : DataW.TrodAll enc Try.prog W 0 (fun _ => true) true Try.f3.params.toList args.toList ds p := hA0
  rw [Try.params3] at hA hval
  obtain ⟨v0, vs0, d0, ds0, p0, q0, hargs, rfl, rfl, h0, r0⟩ := trodAll_cons hA
  obtain ⟨rfl, rfl, rfl⟩ := trodAll_nil r0
  obtain rfl : args = #[v0] := by cases args; simp_all
  obtain ⟨rfl, rfl⟩ := trodVars_none hV
  have k0 := h0
  have lt0 : ∀ x ∈ p0, x.block < W.heap.size := by obtain ⟨m, hm⟩ := k0; exact DataW.trod_lt m _ _ _ hm
  obtain ⟨a0, rfl, w0⟩ := int_of_trod Try.underlying2 (hval 0 2 v0 rfl rfl) h0
  clear hA0 hval0
  refine (fnExactIntervalOf_walk a0 W).mono fun e W' ⟨he, bel⟩ => ?_
  subst he
  exact ⟨_, rfl, _, _, _, [], _, [], hW', trodAll_mk1 (shut_bool Try.underlying4 _), (trodAll_cons_mk (Below.trod laidOut (by kernel_rfl) (of_decide_eq_true (by kernel_rfl)) k0 bel lt0) trodAll_mk0), rfl, bel.frame _, fun h => by cases h⟩
theorem fnExactIntervalOf_over : Rows.fnExactIntervalOfRow.holds Try.pinned (OpenSpec.ofChange Rows.fnExactIntervalOfSpec) :=
  OpenClaim.holds_of_wide 3 Try.f3 rfl rfl rfl rfl rfl rfl rfl ⟨rfl, rfl, rfl, rfl, rfl⟩ rfl rfl rfl rfl rfl (by kernel_rfl) Try.func3 (by kernel_rfl)
    (of_decide_eq_true (by kernel_rfl)) (by unfold Func.isWrapper; first | (rw [if_pos (by decide +kernel)]; kernel_rfl) | (rw [if_neg (by decide +kernel)]; exact ⟨rfl, rfl⟩))
    (fun os started H enc _ => fnExactIntervalOf_lifted os started H enc)
theorem fnExactIntervalOf_holds : Rows.FnExactIntervalOfSaid := fnExactIntervalOf_over
#print axioms fnExactIntervalOf_holds
end Go.Proofs.Ytecijaggcaogeaa
