/- Gain3: by how much the catches of a pattern have grown, by both packages; the law FnExactGainOf. -/
import Derived.Test.YtpnphmhcfahcaaaGain2
namespace Go.Proofs.Ytpnphmhcfahcaaa
open Go.ChangeShapes Go.WideShapes Go.ChangeAt Go.RowKit

theorem catL_in {l : List Att} {own : List Int} (ho : ∀ k, k < own.length → ∃ j : Nat, nth own k = (j : Int) ∧ j < l.length) (hx : ∀ i, i < l.length → 0 ≤ (nth l i).catches ∧ (nth l i).catches ≤ 100000) : ∀ x ∈ catL l own, 0 ≤ x ∧ x ≤ 100000 := by
  intro x hxm
  obtain ⟨k, hk, rfl⟩ := List.getElem_of_mem hxm
  rw [catL_len] at hk
  obtain ⟨j, hj, hjl⟩ := ho k hk
  have := hx j hjl
  rw [← nth_eq _ _ (by rw [catL_len]; exact hk)]
  unfold catL; rw [nth_map' _ own k hk, hj, Int.toNat_natCast]; exact this
theorem addr_add_none (b o j : Nat) : (⟨b, o, none⟩ : Addr).add j = ⟨b, o + j, none⟩ := by
  unfold Addr.add
  split
  · rename_i h; subst h; rfl
  · rfl
theorem nth_drop {α : Type} [Inhabited α] (l : List α) (k i : Nat) : nth (l.drop k) i = nth l (k + i) := by
  unfold nth; simp [List.getD, List.getElem?_drop]
theorem nth_take {α : Type} [Inhabited α] (l : List α) (k i : Nat) (h : i < k) : nth (l.take k) i = nth l i := by
  unfold nth; simp [List.getD, h]
theorem ints_from {w : World} {a : Option Addr} {l : List Int} {n cap k : Nat} (h : IntsC w a l) (hn : n = l.length) (hk : k ≤ n) (hc : n ≤ cap) (hm : cap ≤ 9223372036854775807) : IntsAt w (.slice (a.map fun x => x.add k) (n - k) (cap - k)) (l.drop k) := by
  refine ⟨_, _, _, rfl, by rw [List.length_drop]; omega, by omega, by omega, fun i hi => ?_⟩
  rw [List.length_drop] at hi
  obtain ⟨b, o, rfl, hb, hx⟩ := h (k + i) (by omega)
  exact ⟨b, o + k, by rw [Option.map_some, addr_add_none], hb, by rw [nth_drop, ← hx, Nat.add_assoc]⟩
def gainC (l : List Att) (p : List Int) : List Int := catL l (askL l p)
def gainA (l : List Att) (p : List Int) : Int := if askCode l p = 0 then (if (askL l p).length < 2 then 0 else meanL ((gainC l p).drop ((askL l p).length - (askL l p).length / 2)) - meanL ((gainC l p).take ((askL l p).length / 2))) else 0
def gainB (l : List Att) (p : List Int) : Int := if askCode l p = 0 then (if (askL l p).length < 2 then 6 else 0) else askCode l p

set_option maxHeartbeats 1000000 in
theorem sGainOf_c (v u : Value) (l : List Att) (p : List Int) (w : World) (hv : AttsAt w v l) (hu : IntsAt w u p) :
    Calls Try.prog 18 #[v, u] w (Gives (.tuple #[.int .i64 (gainA l p), .int .i64 (gainB l p)]) w) := by
  have HV := Lib.hid hv
  have HQ := Lib.hid (l24Ask_c v u l p w hv hu)
  clear hv hu
  go_enter Try.func18, Try.ntmps18
  go_wp2_with fail
  refine HQ.out.mono ?_
  intro e w1 hp
  obtain ⟨a1, m, c1, rfl, ho, hb1⟩ := ask_gen hp
  clear hp HQ
  by_cases h0 : askCode l p = 0
  · have HL : Hid (gainA l p = if (askL l p).length < 2 then 0 else meanL ((gainC l p).drop ((askL l p).length - (askL l p).length / 2)) - meanL ((gainC l p).take ((askL l p).length / 2))) := Lib.hid (by unfold gainA; rw [if_pos h0])
    have HB : Hid (gainB l p = if (askL l p).length < 2 then 6 else 0) := Lib.hid (by unfold gainB; rw [if_pos h0])
    rw [h0]
    have HO := Lib.hid ho
    obtain ⟨ax, mx, cx, he, hm, hmc, hcm, hcc⟩ := ho
    cases he
    have Hcc := Lib.hid hcc; clear hcc
    have Hm := Lib.hid hm; clear hm
    by_cases h2 : m < 2
    · have HA : Hid (gainA l p = 0) := Lib.hid (by rw [HL.out, if_pos (by rw [← Hm.out]; exact h2)])
      have HB : Hid (gainB l p = 6) := Lib.hid (by rw [HB.out, if_pos (by rw [← Hm.out]; exact h2)])
      go_wp2
      go_ret2
      exact Gives.ii HA.out HB.out hb1
    · have hd1 : (m : Int).tdiv 2 = ((m / 2 : Nat) : Int) := by rw [Int.tdiv_eq_ediv_of_nonneg (by omega)]; rfl
      have hd2 : (m : Int) / 2 = ((m / 2 : Nat) : Int) := rfl
      have hq : m / 2 ≤ m := Nat.div_le_self _ _
      have hq1 : 1 ≤ m / 2 := by omega
      have hq2 : m / 2 < m := by omega
      generalize hqq : m / 2 = q at *
      have Hq := Lib.hid hqq
      clear hqq
      have hwq : IntKind.i64.wrap (q : Int) = (q : Int) := IntWalk.i64_in _ (by omega)
      have Hx := Lib.hid (fun i hi => ((okAtts_nth (askCode_ok h0)).1 i hi).2)
      have Hl := Lib.hid (askL_nth l p)
      have Hl100 := Lib.hid (askL_len l p)
      have HM1 := Lib.hid (fun W (x : Below w1.heap.size w1 W) => l24Mean_c v (.slice (a1.map fun x => x.add (m - q)) (m - (m - q)) (c1 - (m - q))) l ((askL l p).drop (m - q)) W (HV.out.below (bthen hb1 x)) ((ints_from Hcc.out Hm.out (by omega) hmc hcm).below x) (by rw [List.length_drop, ← Hm.out]; omega) (by have := Hl100.out; rw [List.length_drop]; omega)
        (fun k hk => by rw [nth_drop]; rw [List.length_drop] at hk; exact Hl.out _ (by omega)) Hx.out)
      have HM2 := Lib.hid (fun W (x : Below w1.heap.size w1 W) => l24Mean_c v (.slice a1 q c1) l ((askL l p).take q) W (HV.out.below (bthen hb1 x)) ((ints_cut Hcc.out (by rw [← Hm.out]; omega) (by rw [← Hm.out]; exact hmc) hcm).below x) (by rw [List.length_take, ← Hm.out]; omega) (by have := Hl100.out; rw [List.length_take]; omega)
        (fun k hk => by rw [List.length_take] at hk; rw [nth_take _ _ _ (by omega)]; exact Hl.out _ (by omega)) Hx.out)
      have HG : Hid (gainA l p = meanL (catL l ((askL l p).drop (m - q))) - meanL (catL l ((askL l p).take q))) := Lib.hid (by rw [HL.out, if_neg (by rw [← Hm.out]; exact h2), ← Hm.out, Hq.out]; unfold gainC catL; rw [List.map_drop, List.map_take])
      have HB0 : Hid (gainB l p = 0) := Lib.hid (by rw [HB.out, if_neg (by rw [← Hm.out]; exact h2)])
      have hX := meanL_in (catL l ((askL l p).drop (m - q))) (catL_in (fun k hk => by rw [nth_drop]; rw [List.length_drop] at hk; exact Hl.out _ (by omega)) Hx.out) (by have := Hl100.out; rw [catL_len, List.length_drop]; omega)
      have hY := meanL_in (catL l ((askL l p).take q)) (catL_in (fun k hk => by rw [List.length_take] at hk; rw [nth_take _ _ _ (by omega)]; exact Hl.out _ (by omega)) Hx.out) (by have := Hl100.out; rw [catL_len, List.length_take]; omega)
      generalize meanL (catL l ((askL l p).drop (m - q))) = X at *
      generalize meanL (catL l ((askL l p).take q)) = Y at *
      have hwXY : IntKind.i64.wrap (X - Y) = X - Y := IntWalk.i64_in _ (by omega)
      clear hX hY Hl Hx Hl100
      go_wp2
      refine wp_region_quiet_below (by kernel_rfl) (by kernel_rfl) ?_
      repeat (first | go_big_quiet_step (first | with_reducible exact Calls.regrown_of (HM1.out _ (below_regrown _ _ _)) | with_reducible exact Calls.regrown_of (HM2.out _ (below_regrown _ _ _))) | quiet_step (first | with_reducible exact Calls.regrown_of (HM1.out _ (below_regrown _ _ _)) | with_reducible exact Calls.regrown_of (HM2.out _ (below_regrown _ _ _))))
      refine wpQuiet_nil ?_
      intro _ hw'
      obtain ⟨⟨dq, osq⟩, hw''⟩ := hw'
      subst hw''
      have hbq := below_regrown w1 dq osq
      generalize Go.Sort.grow (redrawn w1 dq) osq = wq at *
      go_wp2
      go_ret2
      exact Gives.ii HG.out HB0.out (bthen hb1 hbq)
  · have HA : Hid (gainA l p = 0) := Lib.hid (by unfold gainA; rw [if_neg h0])
    have HB : Hid (gainB l p = askCode l p) := Lib.hid (by unfold gainB; rw [if_neg h0])
    have hne : (askCode l p != 0) = true := by simpa using h0
    clear ho
    generalize askCode l p = code at *
    go_wp2
    go_ret2
    exact Gives.ii HA.out HB.out hb1
end Go.Proofs.Ytpnphmhcfahcaaa
