/- MarkAH: the marks of attempts held. -/
import Derived.Test.YtnhdoppabfmonaaDoorAtts
import Derived.Test.YtnhdoppabfmonaaDoorMarkA
namespace Go.Proofs.YtnhdoppabfmonaaDoor
open Go.ChangeShapes Go.WideShapes Go.ChangeAt Go.RowKit
theorem attMarks_nth (l : List Att) (k j : Nat) (h : j < l.length) : nth (attMarks l k) j = attMark (nth l j) (k + attsM (l.take j)) := by
  have h1 : attMarks l k = attMarks (l.take j) k ++ attMarks (l.drop j) (k + attsM (l.take j)) := by
    rw [← attMarks_append, List.take_append_drop]
  rw [h1, drop_nth l j h]
  have hl : (attMarks (l.take j) k).length = j := by rw [attMarks_len, List.length_take]; omega
  unfold nth
  rw [List.getD, List.getElem?_append_right (by omega), hl, Nat.sub_self]
  rfl
set_option maxHeartbeats 1000000 in
theorem heldIntKA_c (v : Value) (n0 k : Nat) (w : World) (hv : IntsAt w v (intMarks n0 k)) (hl : n0 ≤ 1099511627776) (hk : k ≤ 281474976710656) :
    Calls Tryd.prog 59 #[v, .int .i64 k] w (Gives (.int .i64 ((k + n0 : Nat) : Int)) w) := by
  obtain ⟨a, n, cap, rfl, hn, hcl, hm, hc⟩ := hv
  have Hc := Lib.hid hc; clear hc
  rw [intMarks_len] at hn
  subst hn
  go_enter Tryd.func59, Tryd.ntmps59
  go_wp2
  go_loopw [1, 5] (fun s i wr => ∃ j q : Nat, i = .int .i64 j ∧ s = .int .i64 q ∧ j ≤ n ∧ q ≤ k + j ∧ Hid (q = k + j) ∧ Below w.heap.size w wr) (fun _ i _ => n - (intOf i).toNat)
  case atStart => exact ⟨0, k, rfl, rfl, Nat.zero_le _, Nat.le_refl _, Lib.hid rfl, Below.refl _ _⟩
  case round =>
    obtain ⟨j, q, rfl, rfl, hj, hq, HQ, hb⟩ := hrel
    by_cases hlt : j < n
    · obtain ⟨b, o, rfl, hbs, c0⟩ := (Hc.out.below hb) j (by rw [intMarks_len]; exact hlt)
      have hx : nth (intMarks n k) j = (q : Int) := by unfold intMarks; rw [nth_range_map _ _ _ hlt, HQ.out]
      rw [hx] at c0
      clear hx
      go_wp2
      exact ⟨⟨j + 1, q + 1, by go_num, by go_num, hlt, by omega, Lib.hid (by have := HQ.out; omega), hb⟩, by simp [intOf]; omega⟩
    · obtain rfl : j = n := by omega
      have HR : Hid (q = k + j) := Lib.hid HQ.out
      go_wp2
      go_ret
      exact Gives.int (by rw [HR.out]) hb
set_option maxHeartbeats 2000000 in
theorem heldAttemptS_c (v : Value) (l : List Att) (w : World) (hv : AttsAt w v (attMarks l 1)) (hl : l.length ≤ 1048576) (hp : ∀ x ∈ l, x.pattern.length ≤ 1048576) (m : Nat) (hm' : m = 1 + attsM l) :
    Calls Tryd.prog 26 #[v, .int .i64 1] w (Gives (.int .i64 m) w) := by
  obtain ⟨a, n, cap, rfl, hn, hcl, hm, hc⟩ := hv
  have Hc := Lib.hid hc; clear hc
  rw [attMarks_len] at hn
  have Hm := Lib.hid hm'; clear hm'
  have Hn := Lib.hid hn
  have Hp := Lib.hid hp
  have Hbd : Hid (∀ j, attsM (l.take j) ≤ 1099513724928) := Lib.hid (fun j => by
    have h1 := attsM_le (l.take j) (fun x hx => hp x (List.mem_of_mem_take hx))
    have h2 : (l.take j).length ≤ 1048576 := by rw [List.length_take]; omega
    have h3 := Nat.mul_le_mul_right 1048578 h2
    omega)
  rw [← hn] at hl
  clear hn hp
  go_enter Tryd.func26, Tryd.ntmps26
  go_wp2
  go_loopw [1, 5] (fun s i wr => ∃ j q : Nat, i = .int .i64 j ∧ s = .int .i64 q ∧ q ≤ 1099513724929 ∧ 1 ≤ q ∧ j ≤ n ∧ Hid (q = 1 + attsM (l.take j)) ∧ Below w.heap.size w wr) (fun _ i _ => n - (intOf i).toNat)
  case atStart => exact ⟨0, 1, rfl, rfl, by omega, Nat.le_refl _, Nat.zero_le _, Lib.hid (by simp [attsM]), Below.refl _ _⟩
  case round =>
    obtain ⟨j, q, rfl, rfl, hq2, hq1, hj, HQ, hb⟩ := hrel
    by_cases hlt : j < n
    · have hjl : j < l.length := by rw [← Hn.out]; exact hlt
      obtain ⟨b, o, pa, pn, pc, rfl, hbs, hpa, c0, c1, c2⟩ := att_cells (Hc.out.below hb) j (by rw [attMarks_len]; exact hjl)
      have hx : nth (attMarks l 1) j = attMark (nth l j) q := by rw [attMarks_nth l 1 j hjl, HQ.out]
      rw [hx] at c1 c2 hpa
      change IntsAt _ _ (intMarks (nth l j).pattern.length q) at hpa
      obtain ⟨t, ht⟩ : ∃ t, (nth l j).pattern.length = t := ⟨_, rfl⟩
      have hpl : t ≤ 1048576 := by rw [← ht]; exact Hp.out _ (mem_nth hjl)
      rw [ht] at hpa
      change _ = some (Value.int .i64 ((q + (nth l j).pattern.length : Nat) : Int)) at c1
      change _ = some (Value.bool (decide ((q + (nth l j).pattern.length + 1) % 3 = 0))) at c2
      rw [ht] at c1 c2
      have HPA := Lib.hid hpa
      have HC1 := Lib.hid c1
      have HC2 := Lib.hid c2
      have HS : Hid (q + t + 2 = 1 + attsM (l.take (j + 1))) := Lib.hid (by rw [attsM_step l j hjl, ht]; have := HQ.out; omega)
      have hbd := Hbd.out (j + 1)
      have hqb : q + t + 2 ≤ 1099513724929 := by have := HS.out; omega
      clear hx c1 c2 hpa hbd hjl ht
      have HK := Lib.hid (fun W x => heldIntKA_c (.slice pa pn pc) t q W x (by omega) (by omega))
      obtain ⟨r, hr⟩ : ∃ r : Nat, (q + t + 1) % 3 = r := ⟨_, rfl⟩
      have hr3 : r < 3 := by omega
      have hr1 : (((q + t : Nat) : Int) + 1).tmod 3 = (r : Int) := by rw [Int.tmod_eq_emod_of_nonneg (by omega)]; omega
      have hr1' : (((q + t + 1 : Nat) : Int)).tmod 3 = (r : Int) := by rw [Int.tmod_eq_emod_of_nonneg (by omega)]; omega
      have hwr : IntKind.i64.wrap (r : Int) = (r : Int) := IntWalk.i64_in _ (by omega)
      rw [hr] at HC2
      go_wp2_with fail
      refine (HK.out _ HPA.out).mono ?_
      rintro e w3 ⟨rfl, hb3⟩
      clear HK
      have c1 := cell_then hbs HC1.out hb3
      have c2 := cell_then hbs HC2.out hb3
      generalize hu : q + t = u at *
      have hge : ¬ ((u : Nat) : Int) < 0 := by omega
      have hz : ((r : Int) == 0) = decide (r = 0) := by rw [Bool.eq_iff_iff]; simp
      generalize hbq : decide (r = 0) = bq at *
      go_wp2
      exact ⟨⟨j + 1, u + 2, by go_num, by go_num, hqb, by omega, hlt, HS, bthen hb hb3⟩, by simp [intOf]; omega⟩
    · obtain rfl : j = n := by omega
      have HR : Hid (q = m) := Lib.hid (by rw [Hm.out, HQ.out, Hn.out, List.take_length])
      clear HQ
      go_wp2
      go_ret
      exact Gives.int (by rw [HR.out]) hb
end Go.Proofs.YtnhdoppabfmonaaDoor
