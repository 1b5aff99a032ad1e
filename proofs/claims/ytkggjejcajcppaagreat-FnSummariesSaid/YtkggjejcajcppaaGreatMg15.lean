import Derived.Test.YtkggjejcajcppaaGreatMg13
import Derived.Test.YtkggjejcajcppaaGreatMg5
import Derived.Test.YtkggjejcajcppaaGreatMg14
/- Gain: means of catches, by both packages; the law FnExactGainOf. -/
namespace Go.Proofs.YtkggjejcajcppaaGreat
open Go.ChangeShapes Go.WideShapes Go.ChangeAt Go.RowKit

/-- The catches of attempts. -/
def catL (l : List Att) (own : List Int) : List Int := own.map fun i => (nth l i.toNat).catches
theorem catL_len (l : List Att) (own : List Int) : (catL l own).length = own.length := by simp [catL]
theorem meanL_in (l : List Int) (h : ∀ x ∈ l, 0 ≤ x ∧ x ≤ 100000) (h100 : l.length ≤ 100) : 0 ≤ meanL l ∧ meanL l ≤ 10000000 := by
  have h2 := sumF_in l 0 100000 h (by omega)
  unfold meanL
  refine ⟨Int.ediv_nonneg (by omega) (by omega), Int.le_trans (Int.ediv_le_self _ (by omega)) (by omega)⟩

set_option maxHeartbeats 1000000 in
theorem l24Mean_c (v u : Value) (l : List Att) (own : List Int) (w : World) (hv : AttsAt w v l) (hu : IntsAt w u own) (h1 : 1 ≤ own.length) (h100 : own.length ≤ 100)
    (ho : ∀ k, k < own.length → ∃ j : Nat, nth own k = (j : Int) ∧ j < l.length) (hx : ∀ i, i < l.length → 0 ≤ (nth l i).catches ∧ (nth l i).catches ≤ 100000) :
    Calls Tryz.prog 28 #[v, u] w (Gives (.int .i64 (meanL (catL l own))) w) := by
  obtain ⟨a, n, cap, rfl, hn, -, -, hc⟩ := hv
  obtain ⟨a', m, cap', rfl, hm, -, -, hc'⟩ := hu
  have Hc := Lib.hid hc; clear hc
  have Hc' := Lib.hid hc'; clear hc'
  have Hn := Lib.hid hn; clear hn
  have hm1 : 1 ≤ m := by omega
  have hm100 : m ≤ 100 := by omega
  have Hm := Lib.hid hm; clear hm h1 h100
  have Ho := Lib.hid ho; clear ho
  have Hx := Lib.hid hx; clear hx
  go_enter Tryz.func28, Tryz.ntmps28
  go_wp2
  go_loopw [5, 6] (fun s i wr => ∃ (k : Nat) (c : Int), i = .int .i64 k ∧ s = .int .i64 c ∧ k ≤ m ∧ 0 ≤ c ∧ c ≤ 100000 * k ∧ Hid (sumF (catL l own) 0 = sumF ((catL l own).drop k) c) ∧ Below w.heap.size w wr) (fun _ i _ => m - (intOf i).toNat)
  case atStart => exact ⟨0, 0, rfl, rfl, Nat.zero_le _, Int.le_refl _, by omega, Lib.hid rfl, Below.refl _ _⟩
  case round =>
    obtain ⟨k, c, rfl, rfl, hk, hc0, hck, HS, hb⟩ := hrel
    by_cases hlt : k < m
    · obtain ⟨b', o', rfl, hbs', d0⟩ := (Hc'.out.below hb) k (by rw [← Hm.out]; exact hlt)
      obtain ⟨j, hj, hjl⟩ := Ho.out k (by rw [← Hm.out]; exact hlt)
      have hjn : j < n := by rw [Hn.out]; exact hjl
      obtain ⟨b, o, pa, pn, pc, rfl, hbs, hp, c0, c1, c2⟩ := att_cells (Hc.out.below hb) j hjl
      have hcat : nth (catL l own) k = (nth l j).catches := by
        unfold catL; rw [nth_map' _ own k (by rw [← Hm.out]; exact hlt), hj, Int.toNat_natCast]
      obtain ⟨hx0, hx1⟩ := Hx.out j hjl
      have HT : Hid (sumF (catL l own) 0 = sumF ((catL l own).drop (k + 1)) (c + (nth l j).catches)) := Lib.hid (by rw [HS.out, sumF_step _ _ k (by rw [catL_len, ← Hm.out]; exact hlt), hcat])
      rw [hj] at d0
      clear hp HS hcat hj hjl
      generalize nth l j = x at *
      obtain ⟨xp, xc, xd⟩ := x
      dsimp only at c1 c2 hx0 hx1 HT
      have hs : IntKind.i64.wrap (c + xc) = c + xc := IntWalk.i64_in _ (by omega)
      go_wp2
      exact ⟨⟨k + 1, _, by go_num, rfl, hlt, by omega, by omega, HT, hb⟩, by simp [intOf]; omega⟩
    · obtain rfl : k = m := by omega
      have HR : Hid (meanL (catL l own) = c / (k : Int)) := Lib.hid (by unfold meanL; rw [HS.out, drop_end _ k k (by rw [catL_len, ← Hm.out]) (Nat.le_refl _), catL_len, ← Hm.out]; rfl)
      have hk0 : ((k : Int) == 0) = false := beq_eq_false_iff_ne.2 (by omega)
      have hd : c.tdiv (k : Int) = c / (k : Int) := Int.tdiv_eq_ediv_of_nonneg hc0
      have hw : IntKind.i64.wrap (c / (k : Int)) = c / (k : Int) := IntWalk.i64_in _ (by have := Int.ediv_nonneg hc0 (show (0 : Int) ≤ k by omega); have := Int.ediv_le_self (k : Int) hc0; omega)
      clear HS
      go_wp2
      go_ret
      exact Gives.int HR.out hb
end Go.Proofs.YtkggjejcajcppaaGreat

/- Gain2: the catches of the attempts at a pattern, by the package impl. -/
namespace Go.Proofs.YtkggjejcajcppaaGreat
open Go.ChangeShapes Go.WideShapes Go.ChangeAt Go.RowKit

def askL (l : List Att) (p : List Int) : List Int := if askCode l p = 0 then atsL l p else []
theorem askCode_ok {l : List Att} {p : List Int} (h : askCode l p = 0) : okAtts l = true := by
  unfold askCode at h
  cases hE : okAtts l
  · rw [hE] at h; simp at h
  · rfl
theorem ask_gen {l : List Att} {p : List Int} {w w' : World} {e : Ending} (h : AskPost l p w e w') :
    ∃ a n c, e = .returned (.tuple #[.slice a n c, .int .i64 (askCode l p)]) ∧ IntsAt w' (.slice a n c) (askL l p) ∧ Below w.heap.size w w' := by
  rcases h with ⟨h0, rfl, hb⟩ | ⟨_, _, _, h0, a, n, c, rfl, ho, hb⟩
  · refine ⟨none, 0, 0, rfl, ?_, hb⟩
    unfold askL; rw [if_neg h0]
    exact ⟨none, 0, 0, rfl, rfl, Nat.le_refl _, by decide, fun i hi => absurd hi (Nat.not_lt_zero _)⟩
  · refine ⟨a, n, c, by rw [h0], ?_, hb⟩
    unfold askL; rw [if_pos h0]
    exact OwnInts.at ho
theorem askL_nth (l : List Att) (p : List Int) : ∀ k, k < (askL l p).length → ∃ j : Nat, nth (askL l p) k = (j : Int) ∧ j < l.length := by
  intro k hk
  unfold askL at hk ⊢
  split at hk
  · rename_i h; rw [if_pos h]; exact atsL_nth hk
  · exact absurd hk (Nat.not_lt_zero _)
theorem askL_len (l : List Att) (p : List Int) : (askL l p).length ≤ 100 := by
  unfold askL; split
  · rename_i h
    have := (okAtts_nth (askCode_ok h)).2
    have h2 := atsN_len l (canL p) l.length
    unfold atsL; omega
  · exact Nat.zero_le _

set_option maxHeartbeats 1000000 in
theorem catchesAt_c (v u : Value) (l : List Att) (p : List Int) (w : World) (hv : AttsAt w v l) (hu : IntsAt w u p) :
    Calls Tryz.prog 23 #[v, u] w (fun e w' => ∃ a n c, e = .returned (.tuple #[.slice a n c, .int .i64 (askCode l p)]) ∧ OwnInts w' w.heap.size (.slice a n c) (catL l (askL l p)) ∧ Below w.heap.size w w') := by
  have HQ := Lib.hid (attemptsAt_c v u l p w hv hu)
  obtain ⟨a, n, cap, rfl, hn, -, -, hc⟩ := hv
  have Hc := Lib.hid hc; clear hc
  have Hn := Lib.hid hn; clear hn hu
  go_enter Tryz.func23, Tryz.ntmps23
  go_wp2_with fail
  refine HQ.out.mono ?_
  intro e w1 hp
  obtain ⟨a1, m, c1, rfl, ho, hb1⟩ := ask_gen hp
  obtain ⟨ax, mx, cx, he, hm, -, -, hc'⟩ := ho
  cases he
  have Hc1 := Lib.hid (Hc.out.below hb1)
  have Hc' := Lib.hid hc'; clear hc'
  have hm100 : m ≤ 100 := by have := askL_len l p; omega
  have Hm := Lib.hid hm; clear hm hp HQ Hc
  have Ho := Lib.hid (askL_nth l p)
  have Hs := Lib.hid hb1.size
  go_wp2
  go_loopw [8, 20] (fun s i wr => ∃ (k : Nat) (a' : Option Addr) (n' c' : Nat), i = .int .i64 k ∧ k ≤ m ∧ s = .slice a' n' c' ∧ Hid (OwnInts wr w1.heap.size (.slice a' n' c') (catL l ((askL l p).take k))) ∧ Below w1.heap.size w1 wr) (fun _ i _ => m - (intOf i).toNat)
  case atStart => exact ⟨0, _, _, _, rfl, Nat.zero_le _, rfl, Lib.hid (own_empty w1), by go_grown⟩
  case round =>
    obtain ⟨k, a', n', c', rfl, hk, rfl, HO, hb⟩ := hrel
    by_cases hlt : k < m
    · obtain ⟨b', o', rfl, hbs', d0⟩ := (Hc'.out.below hb) k (by rw [← Hm.out]; exact hlt)
      obtain ⟨j, hj, hjl⟩ := Ho.out k (by rw [← Hm.out]; exact hlt)
      have hjn : j < n := by rw [Hn.out]; exact hjl
      obtain ⟨b, o, pa, pn, pc, rfl, hbs, hp, c0, c1, c2⟩ := att_cells (Hc1.out.below hb) j hjl
      have HT : Hid (catL l ((askL l p).take (k + 1)) = catL l ((askL l p).take k) ++ [(nth l j).catches]) := Lib.hid (by unfold catL; rw [take_nth (askL l p) k (by rw [← Hm.out]; exact hlt), List.map_append, List.map_singleton, hj, Int.toNat_natCast])
      have Hlen : Hid ((catL l ((askL l p).take k)).length ≤ 100) := Lib.hid (by rw [catL_len, List.length_take]; omega)
      rw [hj] at d0
      clear hp hj hjl
      generalize nth l j = x at *
      obtain ⟨xp, xc, xd⟩ := x
      dsimp only at c1 c2 HT
      have hsz := hb.size
      go_wp2_with (at_builtin; refine wpList_app_ints rfl _ _ rfl w1.heap.size _ _ rfl (HO.out.alloc _) _ _ _ [xc] rfl rfl (ints_new _ _ _) (by have := Hlen.out; simp; omega) (by simp; omega) ?_)
      intro a4 n4 c4 w6 ho4 hg4 _ _
      have hb6 : Below w1.heap.size w1 w6 := (hb.alloc (by omega) _).grown hg4 (by simp; omega) (fun g hg => (World.ownsRow.lt HO.out g hg).1)
      have HO4 : Hid (OwnInts w6 w1.heap.size (.slice a4 n4 c4) (catL l ((askL l p).take (k + 1)))) := Lib.hid (by rw [HT.out]; exact ho4)
      clear ho4 hg4 HO HT
      go_wp2
      exact ⟨⟨k + 1, a4, n4, c4, by go_num, hlt, rfl, HO4, hb6⟩, by simp [intOf]; omega⟩
    · obtain rfl : k = m := by omega
      have HO3 : Hid (OwnInts wr w1.heap.size (.slice a' n' c') (catL l (askL l p))) := Lib.hid (by have := HO.out; rwa [List.take_of_length_le (by rw [← Hm.out]; omega)] at this)
      clear HO
      go_wp2
      go_ret2
      exact ⟨_, _, _, rfl, own_mono HO3.out Hs.out, bthen hb1 hb⟩

set_option maxHeartbeats 1000000 in
theorem mean_c (v : Value) (c : List Int) (w : World) (hv : IntsAt w v c) (h1 : 1 ≤ c.length) (h100 : c.length ≤ 100) (hx : ∀ i, i < c.length → 0 ≤ nth c i ∧ nth c i ≤ 100000) :
    Calls Tryz.prog 27 #[v] w (Gives (.int .i64 (meanL c)) w) := by
  obtain ⟨a', m, cap', rfl, hm, -, -, hc'⟩ := hv
  have Hc' := Lib.hid hc'; clear hc'
  have hm1 : 1 ≤ m := by omega
  have hm100 : m ≤ 100 := by omega
  have Hm := Lib.hid hm; clear hm h1 h100
  have Hx := Lib.hid hx; clear hx
  go_enter Tryz.func27, Tryz.ntmps27
  go_wp2
  go_loopw [3, 8] (fun s i wr => ∃ (k : Nat) (t : Int), i = .int .i64 k ∧ s = .int .i64 t ∧ k ≤ m ∧ 0 ≤ t ∧ t ≤ 100000 * k ∧ Hid (sumF c 0 = sumF (c.drop k) t) ∧ Below w.heap.size w wr) (fun _ i _ => m - (intOf i).toNat)
  case atStart => exact ⟨0, 0, rfl, rfl, Nat.zero_le _, Int.le_refl _, by omega, Lib.hid rfl, Below.refl _ _⟩
  case round =>
    obtain ⟨k, t, rfl, rfl, hk, hc0, hck, HS, hb⟩ := hrel
    by_cases hlt : k < m
    · obtain ⟨b', o', rfl, hbs', d0⟩ := (Hc'.out.below hb) k (by rw [← Hm.out]; exact hlt)
      obtain ⟨hx0, hx1⟩ := Hx.out k (by rw [← Hm.out]; exact hlt)
      have HT : Hid (sumF c 0 = sumF (c.drop (k + 1)) (t + nth c k)) := Lib.hid (by rw [HS.out, sumF_step _ _ k (by rw [← Hm.out]; exact hlt)])
      clear HS
      generalize nth c k = xc at *
      have hs : IntKind.i64.wrap (t + xc) = t + xc := IntWalk.i64_in _ (by omega)
      go_wp2
      exact ⟨⟨k + 1, _, by go_num, rfl, hlt, by omega, by omega, HT, hb⟩, by simp [intOf]; omega⟩
    · obtain rfl : k = m := by omega
      have HR : Hid (meanL c = t / (k : Int)) := Lib.hid (by unfold meanL; rw [HS.out, drop_end _ k k Hm.out (Nat.le_refl _), ← Hm.out]; rfl)
      have hk0 : ((k : Int) == 0) = false := beq_eq_false_iff_ne.2 (by omega)
      have hd : t.tdiv (k : Int) = t / (k : Int) := Int.tdiv_eq_ediv_of_nonneg hc0
      have hw : IntKind.i64.wrap (t / (k : Int)) = t / (k : Int) := IntWalk.i64_in _ (by have := Int.ediv_nonneg hc0 (show (0 : Int) ≤ k by omega); have := Int.ediv_le_self (k : Int) hc0; omega)
      clear HS
      go_wp2
      go_ret
      exact Gives.int HR.out hb
end Go.Proofs.YtkggjejcajcppaaGreat
