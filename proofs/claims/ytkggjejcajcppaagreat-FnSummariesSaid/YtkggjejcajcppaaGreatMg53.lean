import Derived.Test.YtkggjejcajcppaaGreatMg52
import Derived.Test.YtkggjejcajcppaaGreatMg14
/- SumC: the laws FnExactSummaryOf and FnExactDropRate. -/
namespace Go.Proofs.YtkggjejcajcppaaGreat
open Go.ChangeShapes Go.WideShapes Go.ChangeAt Go.RowKit

theorem smF_in (l : List Att) (P : Int) : ∀ (own : List Int) (s : Sm), (∀ i ∈ own, 0 ≤ (nth l i.toNat).catches ∧ (nth l i.toNat).catches ≤ 100000) →
    (s.cat ≤ (smF l P own s).cat ∧ (smF l P own s).cat ≤ s.cat + 100000 * own.length) ∧ s.drops ≤ (smF l P own s).drops
  | [], s, _ => by simp [smF]
  | i :: own, s, h => by
    have h1 := h i (List.mem_cons_self ..)
    have h2 := smF_in l P own (smStep P s (nth l i.toNat)) (fun j hj => h j (List.mem_cons_of_mem _ hj))
    have h3 : (smStep P s (nth l i.toNat)).cat = s.cat + (nth l i.toNat).catches := rfl
    have h4 : s.drops ≤ (smStep P s (nth l i.toNat)).drops := by unfold smStep; dsimp only; split <;> omega
    simp only [smF, List.length_cons, Int.natCast_add, Int.mul_add, Int.natCast_one, Int.mul_one]
    omega
theorem sumL_in (l : List Att) (p : List Int) : 0 ≤ (sumL l p).cat ∧ (sumL l p).cat ≤ 10000000 ∧ 0 ≤ (sumL l p).drops := by
  unfold sumL
  split
  · rename_i h
    have hx := (okAtts_nth (askCode_ok h)).1
    have hm : ∀ i ∈ askL l p, 0 ≤ (nth l i.toNat).catches ∧ (nth l i.toNat).catches ≤ 100000 := by
      intro i hi
      obtain ⟨k, hk, rfl⟩ := List.getElem_of_mem hi
      obtain ⟨j, hj, hjl⟩ := askL_nth l p k hk
      rw [nth_eq _ _ hk] at hj
      rw [hj, Int.toNat_natCast]
      exact (hx j hjl).2
    have h2 := smF_in l (propsL p) (askL l p) sumZ hm
    have h3 := askL_len l p
    have h4 : sumZ.cat = 0 := rfl
    have h5 : sumZ.drops = 0 := rfl
    omega
  · exact ⟨Int.le_refl _, by decide, Int.le_refl _⟩
def rateA (l : List Att) (p : List Int) : Int := if askCode l p = 0 then (if (sumL l p).drops = 0 then 0 else (sumL l p).cat / (sumL l p).drops) else 0
def rateB (l : List Att) (p : List Int) : Int := if askCode l p = 0 then (if (sumL l p).drops = 0 then 6 else 0) else askCode l p
theorem div_facts2 {t : Int} {k : Nat} (h0 : 0 ≤ t) (h1 : t ≤ 10000000) (hk : 1 ≤ k) : ((k : Int) == 0) = false ∧ t.tdiv (k : Int) = t / (k : Int) ∧ IntKind.i64.wrap (t / (k : Int)) = t / (k : Int) :=
  ⟨beq_eq_false_iff_ne.2 (by omega), Int.tdiv_eq_ediv_of_nonneg h0, IntWalk.i64_in _ (by have := Int.ediv_nonneg h0 (show (0 : Int) ≤ k by omega); have := Int.ediv_le_self (k : Int) h0; omega)⟩
set_option maxHeartbeats 1000000 in
theorem sDropRate_c (v u : Value) (l : List Att) (p : List Int) (w : World) (hv : AttsAt w v l) (hu : IntsAt w u p) :
    Calls Tryz.prog 15 #[v, u] w (Gives (.tuple #[.int .i64 (rateA l p), .int .i64 (rateB l p)]) w) := by
  have HQ := Lib.hid (sSummaryOf_c v u l p w hv hu)
  have hin := sumL_in l p
  have HA := Lib.hid (show rateA l p = if askCode l p = 0 then (if (sumL l p).drops = 0 then 0 else (sumL l p).cat / (sumL l p).drops) else 0 from rfl)
  have HB := Lib.hid (show rateB l p = if askCode l p = 0 then (if (sumL l p).drops = 0 then 6 else 0) else askCode l p from rfl)
  clear hv hu
  generalize sumL l p = s at *
  obtain ⟨at', c, b, d, f, r⟩ := s
  dsimp only at hin
  by_cases h0 : askCode l p = 0
  · have HQ2 : Hid (Calls Tryz.prog 15 #[v, u] w (Gives (.tuple #[.int .i64 (rateA l p), .int .i64 (rateB l p)]) w) → True) := Lib.hid (fun _ => trivial)
    clear HQ2
    by_cases hd : d = 0
    · have HA2 : Hid (rateA l p = 0) := Lib.hid (by rw [HA.out, if_pos h0, if_pos hd])
      have HB2 : Hid (rateB l p = 6) := Lib.hid (by rw [HB.out, if_pos h0, if_pos hd])
      subst hd
      clear HA HB
      have HQ3 := HQ.out
      rw [h0] at HQ3
      clear HQ h0
      go_enter Tryz.func15, Tryz.ntmps15
      go_wp2_with fail
      refine HQ3.mono ?_
      rintro e w1 ⟨rfl, hb1⟩
      clear HQ3
      have hsz := hb1.size
      go_wp2
      go_ret2
      exact Gives.ii HA2.out HB2.out (hb1.alloc hsz _)
    · have HA2 : Hid (rateA l p = c / d) := Lib.hid (by rw [HA.out, if_pos h0, if_neg hd])
      have HB2 : Hid (rateB l p = 0) := Lib.hid (by rw [HB.out, if_pos h0, if_neg hd])
      have HQ3 := HQ.out
      rw [h0] at HQ3
      obtain ⟨D, rfl⟩ : ∃ D : Nat, d = (D : Int) := ⟨d.toNat, by omega⟩
      obtain ⟨hk0, hdv, hw⟩ := div_facts2 (t := c) (k := D) (by omega) (by omega) (by omega)
      clear HA HB HQ h0
      go_enter Tryz.func15, Tryz.ntmps15
      go_wp2_with fail
      refine HQ3.mono ?_
      rintro e w1 ⟨rfl, hb1⟩
      clear HQ3
      have hsz := hb1.size
      go_wp2
      go_ret2
      exact Gives.ii HA2.out HB2.out (hb1.alloc hsz _)
  · have HA2 : Hid (rateA l p = 0) := Lib.hid (by rw [HA.out, if_neg h0])
    have HB2 : Hid (rateB l p = askCode l p) := Lib.hid (by rw [HB.out, if_neg h0])
    have hne : (askCode l p != 0) = true := by simpa using h0
    clear HA HB h0
    generalize askCode l p = code at *
    go_enter Tryz.func15, Tryz.ntmps15
    go_wp2_with fail
    refine HQ.out.mono ?_
    rintro e w1 ⟨rfl, hb1⟩
    have hsz := hb1.size
    go_wp2
    go_ret2
    exact Gives.ii HA2.out HB2.out (hb1.alloc hsz _)
set_option maxHeartbeats 1000000 in
theorem iDropRate_c (v u : Value) (l : List Att) (p : List Int) (w : World) (hv : AttsAt w v l) (hu : IntsAt w u p) :
    Calls Tryz.prog 14 #[v, u] w (Gives (.tuple #[.int .i64 (rateA l p), .int .i64 (rateB l p)]) w) := by
  have HQ := Lib.hid (iSummaryOf_c v u l p w hv hu)
  have hin := sumL_in l p
  have HA := Lib.hid (show rateA l p = if askCode l p = 0 then (if (sumL l p).drops = 0 then 0 else (sumL l p).cat / (sumL l p).drops) else 0 from rfl)
  have HB := Lib.hid (show rateB l p = if askCode l p = 0 then (if (sumL l p).drops = 0 then 6 else 0) else askCode l p from rfl)
  clear hv hu
  generalize sumL l p = s at *
  obtain ⟨at', c, b, d, f, r⟩ := s
  dsimp only at hin
  by_cases h0 : askCode l p = 0
  · have HQ2 : Hid (Calls Tryz.prog 14 #[v, u] w (Gives (.tuple #[.int .i64 (rateA l p), .int .i64 (rateB l p)]) w) → True) := Lib.hid (fun _ => trivial)
    clear HQ2
    by_cases hd : d = 0
    · have HA2 : Hid (rateA l p = 0) := Lib.hid (by rw [HA.out, if_pos h0, if_pos hd])
      have HB2 : Hid (rateB l p = 6) := Lib.hid (by rw [HB.out, if_pos h0, if_pos hd])
      subst hd
      clear HA HB
      have HQ3 := HQ.out
      rw [h0] at HQ3
      clear HQ h0
      go_enter Tryz.func14, Tryz.ntmps14
      go_wp2_with fail
      refine HQ3.mono ?_
      rintro e w1 ⟨rfl, hb1⟩
      clear HQ3
      have hsz := hb1.size
      go_wp2
      go_ret2
      exact Gives.ii HA2.out HB2.out (hb1.alloc hsz _)
    · have HA2 : Hid (rateA l p = c / d) := Lib.hid (by rw [HA.out, if_pos h0, if_neg hd])
      have HB2 : Hid (rateB l p = 0) := Lib.hid (by rw [HB.out, if_pos h0, if_neg hd])
      have HQ3 := HQ.out
      rw [h0] at HQ3
      obtain ⟨D, rfl⟩ : ∃ D : Nat, d = (D : Int) := ⟨d.toNat, by omega⟩
      obtain ⟨hk0, hdv, hw⟩ := div_facts2 (t := c) (k := D) (by omega) (by omega) (by omega)
      clear HA HB HQ h0
      go_enter Tryz.func14, Tryz.ntmps14
      go_wp2_with fail
      refine HQ3.mono ?_
      rintro e w1 ⟨rfl, hb1⟩
      clear HQ3
      have hsz := hb1.size
      go_wp2
      go_ret2
      exact Gives.ii HA2.out HB2.out (hb1.alloc hsz _)
  · have HA2 : Hid (rateA l p = 0) := Lib.hid (by rw [HA.out, if_neg h0])
    have HB2 : Hid (rateB l p = askCode l p) := Lib.hid (by rw [HB.out, if_neg h0])
    have hne : (askCode l p != 0) = true := by simpa using h0
    clear HA HB h0
    generalize askCode l p = code at *
    go_enter Tryz.func14, Tryz.ntmps14
    go_wp2_with fail
    refine HQ.out.mono ?_
    rintro e w1 ⟨rfl, hb1⟩
    have hsz := hb1.size
    go_wp2
    go_ret2
    exact Gives.ii HA2.out HB2.out (hb1.alloc hsz _)
end Go.Proofs.YtkggjejcajcppaaGreat
