import Derived.Test.YtpfjmbgkbildjaaMg3
import Derived.Test.YtpfjmbgkbildjaaMg1
/- Props: the number of props of a pattern, its highest throw, by both packages. -/
namespace Go.Proofs.Ytpfjmbgkbildjaa
open Go.ChangeShapes Go.WideShapes Go.ChangeAt Go.RowKit

/-- The number of props. -/
def propsL (l : List Int) : Int := meanL l
theorem propsL_in {l : List Int} (h : throwsB l = true) : 0 ≤ propsL l ∧ propsL l ≤ 180 := by
  obtain ⟨hx, h1, h12⟩ := throwsB_nth h
  have hm : ∀ x ∈ l, 0 ≤ x ∧ x ≤ 15 := by
    intro x hxl
    obtain ⟨i, hi, rfl⟩ := List.getElem_of_mem hxl
    have := hx i hi
    rwa [nth_eq l i hi] at this
  have h2 := sumF_in l 0 15 hm (by omega)
  unfold propsL meanL
  exact ⟨Int.ediv_nonneg (by omega) (by omega), Int.le_trans (Int.ediv_le_self _ (by omega)) (by omega)⟩
theorem sumF_throws {l : List Int} (h : throwsB l = true) : 0 ≤ sumF l 0 ∧ sumF l 0 ≤ 180 := by
  obtain ⟨hx, h1, h12⟩ := throwsB_nth h
  have hm : ∀ x ∈ l, 0 ≤ x ∧ x ≤ 15 := by
    intro x hxl
    obtain ⟨i, hi, rfl⟩ := List.getElem_of_mem hxl
    have := hx i hi
    rwa [nth_eq l i hi] at this
  have h2 := sumF_in l 0 15 hm (by omega)
  omega
set_option maxHeartbeats 1000000 in
theorem l02Sum_c (v : Value) (l : List Int) (w : World) (hv : IntsAt w v l) (ht : throwsB l = true) : Calls Try.prog 90 #[v] w (Gives (.int .i64 (sumF l 0)) w) := by
  obtain ⟨hx, h1, h12⟩ := throwsB_nth ht
  obtain ⟨a', m, cap', rfl, hm, -, -, hc'⟩ := hv
  have Hc' := Lib.hid hc'; clear hc'
  have hm12 : m ≤ 12 := by omega
  have Hm := Lib.hid hm; clear hm h1 h12
  have Hx := Lib.hid hx; clear hx ht
  go_enter Try.func90, Try.ntmps90
  go_wp2
  go_loopw [3, 4] (fun s i wr => ∃ (k : Nat) (t : Int), i = .int .i64 k ∧ s = .int .i64 t ∧ k ≤ m ∧ 0 ≤ t ∧ t ≤ 15 * k ∧ Hid (sumF l 0 = sumF (l.drop k) t) ∧ Below w.heap.size w wr) (fun _ i _ => m - (intOf i).toNat)
  case atStart => exact ⟨0, 0, rfl, rfl, Nat.zero_le _, Int.le_refl _, by omega, Lib.hid rfl, Below.refl _ _⟩
  case round =>
    obtain ⟨k, t, rfl, rfl, hk, hc0, hck, HS, hb⟩ := hrel
    by_cases hlt : k < m
    · obtain ⟨b', o', rfl, hbs', d0⟩ := (Hc'.out.below hb) k (by rw [← Hm.out]; exact hlt)
      obtain ⟨hx0, hx1⟩ := Hx.out k (by rw [← Hm.out]; exact hlt)
      have HT : Hid (sumF l 0 = sumF (l.drop (k + 1)) (t + nth l k)) := Lib.hid (by rw [HS.out, sumF_step _ _ k (by rw [← Hm.out]; exact hlt)])
      clear HS
      generalize nth l k = xc at *
      have hs : IntKind.i64.wrap (t + xc) = t + xc := IntWalk.i64_in _ (by omega)
      go_wp2
      exact ⟨⟨k + 1, _, by go_num, rfl, hlt, by omega, by omega, HT, hb⟩, by simp [intOf]; omega⟩
    · obtain rfl : k = m := by omega
      go_wp2
      go_ret
      exact Gives.int (by rw [HS.out, drop_end _ k k Hm.out (Nat.le_refl _)]; rfl) hb
theorem div_facts {t : Int} {k : Nat} (h0 : 0 ≤ t) (h1 : t ≤ 1000000) (hk : 1 ≤ k) : ((k : Int) == 0) = false ∧ t.tdiv (k : Int) = t / (k : Int) ∧ IntKind.i64.wrap (t / (k : Int)) = t / (k : Int) :=
  ⟨beq_eq_false_iff_ne.2 (by omega), Int.tdiv_eq_ediv_of_nonneg h0, IntWalk.i64_in _ (by have := Int.ediv_nonneg h0 (show (0 : Int) ≤ k by omega); have := Int.ediv_le_self (k : Int) h0; omega)⟩
set_option maxHeartbeats 1000000 in
theorem l02Props_c (v : Value) (l : List Int) (w : World) (hv : IntsAt w v l) (ht : throwsB l = true) : Calls Try.prog 72 #[v] w (Gives (.int .i64 (propsL l)) w) := by
  have HQ := Lib.hid (l02Sum_c v l w hv ht)
  obtain ⟨hx, h1, h12⟩ := throwsB_nth ht
  obtain ⟨hs0, hs1⟩ := sumF_throws ht
  obtain ⟨a', m, cap', rfl, hm, -, -, hc'⟩ := hv
  have hm1 : 1 ≤ m := by omega
  have hm12 : m ≤ 12 := by omega
  have HR : Hid (propsL l = sumF l 0 / (m : Int)) := Lib.hid (by unfold propsL meanL; rw [hm])
  clear hx hm hc' h1 h12 ht
  generalize sumF l 0 = t at *
  obtain ⟨hk0, hd, hw⟩ := div_facts (t := t) (k := m) hs0 (by omega) hm1
  go_enter Try.func72, Try.ntmps72
  go_wp2_with fail
  refine HQ.out.mono ?_
  rintro e w1 ⟨rfl, hb1⟩
  go_wp2
  go_ret
  exact Gives.int HR.out hb1
set_option maxHeartbeats 1000000 in
theorem propsOf_c (v : Value) (l : List Int) (w : World) (hv : IntsAt w v l) (ht : throwsB l = true) : Calls Try.prog 69 #[v] w (Gives (.int .i64 (propsL l)) w) := by
  have HA := Lib.hid hv
  have HP := Lib.hid (fun W x => period_c v l W x)
  obtain ⟨hx, h1, h12⟩ := throwsB_nth ht
  obtain ⟨a', m, cap', rfl, hm, -, -, hc'⟩ := hv
  have Hc' := Lib.hid hc'; clear hc'
  have hm1 : 1 ≤ m := by omega
  have hm12 : m ≤ 12 := by omega
  have Hm := Lib.hid hm
  rw [← hm] at HP
  clear hm h1 h12
  have Hx := Lib.hid hx; clear hx ht
  go_enter Try.func69, Try.ntmps69
  go_wp2
  go_loopw [3, 8] (fun s i wr => ∃ (k : Nat) (t : Int), i = .int .i64 k ∧ s = .int .i64 t ∧ k ≤ m ∧ 0 ≤ t ∧ t ≤ 15 * k ∧ Hid (sumF l 0 = sumF (l.drop k) t) ∧ Below w.heap.size w wr) (fun _ i _ => m - (intOf i).toNat)
  case atStart => exact ⟨0, 0, rfl, rfl, Nat.zero_le _, Int.le_refl _, by omega, Lib.hid rfl, Below.refl _ _⟩
  case round =>
    obtain ⟨k, t, rfl, rfl, hk, hc0, hck, HS, hb⟩ := hrel
    by_cases hlt : k < m
    · obtain ⟨b', o', rfl, hbs', d0⟩ := (Hc'.out.below hb) k (by rw [← Hm.out]; exact hlt)
      obtain ⟨hx0, hx1⟩ := Hx.out k (by rw [← Hm.out]; exact hlt)
      have HT : Hid (sumF l 0 = sumF (l.drop (k + 1)) (t + nth l k)) := Lib.hid (by rw [HS.out, sumF_step _ _ k (by rw [← Hm.out]; exact hlt)])
      clear HS
      generalize nth l k = xc at *
      have hs : IntKind.i64.wrap (t + xc) = t + xc := IntWalk.i64_in _ (by omega)
      go_wp2
      exact ⟨⟨k + 1, _, by go_num, rfl, hlt, by omega, by omega, HT, hb⟩, by simp [intOf]; omega⟩
    · obtain rfl : k = m := by omega
      have HR : Hid (propsL l = t / (k : Int)) := Lib.hid (by unfold propsL meanL; rw [HS.out, drop_end _ k k Hm.out (Nat.le_refl _), ← Hm.out]; rfl)
      obtain ⟨hk0, hd, hw⟩ := div_facts (t := t) (k := k) hc0 (by omega) hm1
      clear HS
      go_wp2_with fail
      refine (HP.out _ (HA.out.below hb)).mono ?_
      rintro e w1 ⟨rfl, hb1⟩
      go_wp2
      go_ret
      exact Gives.int HR.out (bthen hb hb1)
end Go.Proofs.Ytpfjmbgkbildjaa
