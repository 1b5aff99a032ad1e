import Derived.Test.YtkggjejcajcppaaGreatMg16
import Derived.Test.YtkggjejcajcppaaGreatMg14
/- Gain4: by how much the catches of a pattern have grown, by the package impl; the law FnExactGainOf. -/
namespace Go.Proofs.YtkggjejcajcppaaGreat
open Go.ChangeShapes Go.WideShapes Go.ChangeAt Go.RowKit

theorem nth_in {l : List Int} {lo hi : Int} (h : ∀ x ∈ l, lo ≤ x ∧ x ≤ hi) : ∀ i, i < l.length → lo ≤ nth l i ∧ nth l i ≤ hi := fun _ hi => h _ (mem_nth hi)
set_option maxHeartbeats 1000000 in
theorem iGainOf_c (v u : Value) (l : List Att) (p : List Int) (w : World) (hv : AttsAt w v l) (hu : IntsAt w u p) :
    Calls Tryz.prog 12 #[v, u] w (Gives (.tuple #[.int .i64 (gainA l p), .int .i64 (gainB l p)]) w) := by
  have HQ := Lib.hid (catchesAt_c v u l p w hv hu)
  clear hv hu
  go_enter Tryz.func12, Tryz.ntmps12
  go_wp2_with fail
  refine HQ.out.mono ?_
  rintro e w1 ⟨a1, m, c1, rfl, ho, hb1⟩
  clear HQ
  by_cases h0 : askCode l p = 0
  · have HL : Hid (gainA l p = if (askL l p).length < 2 then 0 else meanL ((gainC l p).drop ((askL l p).length - (askL l p).length / 2)) - meanL ((gainC l p).take ((askL l p).length / 2))) := Lib.hid (by unfold gainA; rw [if_pos h0])
    have HB : Hid (gainB l p = if (askL l p).length < 2 then 6 else 0) := Lib.hid (by unfold gainB; rw [if_pos h0])
    rw [h0]
    obtain ⟨ax, mx, cx, he, hm, hmc, hcm, hcc⟩ := OwnInts.at ho
    cases he
    have Hcc := Lib.hid hcc; clear hcc ho
    rw [catL_len] at hm
    have Hm := Lib.hid hm; clear hm
    have Hl100 := Lib.hid (askL_len l p)
    have Hin := Lib.hid (catL_in (askL_nth l p) (fun i hi => ((okAtts_nth (askCode_ok h0)).1 i hi).2))
    by_cases h2 : m < 2
    · have HA : Hid (gainA l p = 0) := Lib.hid (by rw [HL.out, if_pos (by rw [← Hm.out]; exact h2)])
      have HB : Hid (gainB l p = 6) := Lib.hid (by rw [HB.out, if_pos (by rw [← Hm.out]; exact h2)])
      have hm01 : m = 0 ∨ m = 1 := by omega
      rcases hm01 with rfl | rfl
      all_goals
        go_wp2
        go_ret2
        exact Gives.ii HA.out HB.out hb1
    · have hd1 : (m : Int).tdiv 2 = ((m / 2 : Nat) : Int) := by rw [Int.tdiv_eq_ediv_of_nonneg (by omega)]; rfl
      have hd2 : (m : Int) / 2 = ((m / 2 : Nat) : Int) := rfl
      have hq : m / 2 ≤ m := Nat.div_le_self _ _
      have hq1 : 1 ≤ m / 2 := by omega
      have hq2 : m / 2 < m := by omega
      generalize hqq : m / 2 = q at *
      have Hq := Lib.hid hqq
      clear hqq
      have hwq : IntKind.i64.wrap (q : Int) = (q : Int) := IntWalk.i64_in _ (by omega)
      have hz : ((q : Int) == 0) = false := beq_eq_false_iff_ne.2 (by omega)
      have HM1 := Lib.hid (fun W (x : Below w1.heap.size w1 W) => mean_c (.slice (a1.map fun x => x.add (m - q)) (m - (m - q)) (c1 - (m - q))) ((gainC l p).drop (m - q)) W ((ints_from Hcc.out (by rw [catL_len]; exact Hm.out) (by omega) hmc hcm).below x) (by unfold gainC; rw [List.length_drop, catL_len, ← Hm.out]; omega) (by have := Hl100.out; unfold gainC; rw [List.length_drop, catL_len]; omega)
        (nth_in fun x hx => Hin.out x (List.mem_of_mem_drop hx)))
      have HM2 := Lib.hid (fun W (x : Below w1.heap.size w1 W) => mean_c (.slice a1 q c1) ((gainC l p).take q) W ((ints_cut Hcc.out (by rw [catL_len, ← Hm.out]; omega) (by rw [catL_len, ← Hm.out]; exact hmc) hcm).below x) (by unfold gainC; rw [List.length_take, catL_len, ← Hm.out]; omega) (by have := Hl100.out; unfold gainC; rw [List.length_take, catL_len]; omega)
        (nth_in fun x hx => Hin.out x (List.mem_of_mem_take hx)))
      have HG : Hid (gainA l p = meanL ((gainC l p).drop (m - q)) - meanL ((gainC l p).take q)) := Lib.hid (by rw [HL.out, if_neg (by rw [← Hm.out]; exact h2), ← Hm.out, Hq.out])
      have HB0 : Hid (gainB l p = 0) := Lib.hid (by rw [HB.out, if_neg (by rw [← Hm.out]; exact h2)])
      have hX := meanL_in ((gainC l p).drop (m - q)) (fun x hx => Hin.out x (List.mem_of_mem_drop hx)) (by have := Hl100.out; unfold gainC; rw [List.length_drop, catL_len]; omega)
      have hY := meanL_in ((gainC l p).take q) (fun x hx => Hin.out x (List.mem_of_mem_take hx)) (by have := Hl100.out; unfold gainC; rw [List.length_take, catL_len]; omega)
      generalize meanL ((gainC l p).drop (m - q)) = X at *
      generalize meanL ((gainC l p).take q) = Y at *
      have hwXY : IntKind.i64.wrap (X - Y) = X - Y := IntWalk.i64_in _ (by omega)
      clear hX hY Hin Hl100
      go_wp2
      refine wp_region_quiet_below (by kernel_rfl) (by kernel_rfl) ?_
      repeat (first | go_big_quiet_step (first | with_reducible exact Calls.regrown_of (HM1.out _ (below_regrown _ _ _)) | with_reducible exact Calls.regrown_of (HM2.out _ (below_regrown _ _ _))) | quiet_step (first | with_reducible exact Calls.regrown_of (HM1.out _ (below_regrown _ _ _)) | with_reducible exact Calls.regrown_of (HM2.out _ (below_regrown _ _ _))))
      refine wpQuiet_nil ?_
      intro _ hw'
      obtain ⟨⟨dq, osq⟩, hw''⟩ := hw'
      subst hw''
      have hbq := below_regrown w1 dq osq
      generalize Go.Sort.grow (redrawn w1 dq) osq = wq at *
      go_wp2
      go_ret2
      exact Gives.ii HG.out HB0.out (bthen hb1 hbq)
  · have HA : Hid (gainA l p = 0) := Lib.hid (by unfold gainA; rw [if_neg h0])
    have HB : Hid (gainB l p = askCode l p) := Lib.hid (by unfold gainB; rw [if_neg h0])
    have hne : (askCode l p != 0) = true := by simpa using h0
    clear ho
    generalize askCode l p = code at *
    go_wp2
    go_ret2
    exact Gives.ii HA.out HB.out hb1

end Go.Proofs.YtkggjejcajcppaaGreat
