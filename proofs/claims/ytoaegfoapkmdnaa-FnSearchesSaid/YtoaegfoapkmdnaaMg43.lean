import Derived.Test.YtoaegfoapkmdnaaMg30
import Derived.Test.YtoaegfoapkmdnaaMg34
import Derived.Test.YtoaegfoapkmdnaaMg41
import Derived.Test.YtoaegfoapkmdnaaMg42
import Derived.Deep.RegionHeld3
/- F6: the group laws' own helps. -/
namespace Go.Proofs.Ytoaegfoapkmdnaa
open Go.ChangeShapes Go.WideShapes Go.ChangeAt Go.RowKit

theorem f6ints_c (v u : Value) (l m : List Int) (w : World) (hv : IntsAt w v l) (hu : IntsAt w u m) :
    Calls Try.prog 16 #[v, u] w (Gives (.bool (same2 eqI l m)) w) := by
  obtain ⟨a, n, cap, rfl, hn, hl, hm, hc⟩ := hv
  obtain ⟨a', n', cap', rfl, hn', hl', hm', hc'⟩ := hu
  have Hc := Lib.hid hc; clear hc
  have Hc' := Lib.hid hc'; clear hc'
  have Hn := Lib.hid hn; clear hn
  have Hn' := Lib.hid hn'; clear hn'
  by_cases hnm : n = n'
  · subst hnm
    go_enter Try.func16, Try.ntmps16
    go_wp2
    go_loopw [5] (fun i wr => ∃ k : Nat, i = .int .i64 k ∧ k ≤ n ∧ Hid (same2 eqI l m = same2 eqI (l.drop k) (m.drop k)) ∧ Below w.heap.size w wr) (fun i _ => n - (intOf i).toNat)
    case atStart => exact ⟨0, rfl, Nat.zero_le _, Lib.hid rfl, Below.refl _ _⟩
    case round =>
      obtain ⟨k, rfl, hk, HS, hb⟩ := hrel
      by_cases hlt : k < n
      · obtain ⟨b, o, rfl, hbs, c0⟩ := (Hc.out.below hb) k (by rw [← Hn.out]; exact hlt)
        obtain ⟨b', o', rfl, hbs', d0⟩ := (Hc'.out.below hb) k (by rw [← Hn'.out]; exact hlt)
        have HT := Lib.hid (HS.out.trans (same2_step eqI l m k (by rw [← Hn.out]; exact hlt) (by rw [← Hn'.out]; exact hlt)))
        clear HS
        generalize nth l k = x at *
        generalize nth m k = y at *
        cases hE : eqI x y
        · have HV : Hid (same2 eqI l m = (false && same2 eqI (l.drop (k + 1)) (m.drop (k + 1)))) := Lib.hid (by rw [HT.out, hE])
          have hxy := eqI_ne hE
          clear HT hE
          go_wp2
          go_quiet (fail)
          go_wp2
          go_ret
          exact Gives.bool HV.out (below_drewN hb _)
        · have HV : Hid (same2 eqI l m = (true && same2 eqI (l.drop (k + 1)) (m.drop (k + 1)))) := Lib.hid (by rw [HT.out, hE])
          have hxy := eqI_eq hE
          clear HT hE
          go_wp2
          go_quiet (fail)
          go_wp2
          exact ⟨⟨k + 1, by go_num, hlt, HV, below_drewN hb _⟩, by simp [intOf]; omega⟩
      · go_wp2
        go_ret
        exact Gives.bool (by rw [HS.out, drop_end l k n Hn.out (by omega), drop_end m k n Hn'.out (by omega)]; rfl) hb
  · go_enter Try.func16, Try.ntmps16
    go_wp2
    go_ret
    exact Gives.bool (same2_len eqI l m (by rw [← Hn.out, ← Hn'.out]; exact hnm)) (Below.refl _ _)
set_option maxHeartbeats 1000000 in
theorem f6lists_c (v u : Value) (l m : List (List Int)) (w : World) (hv : IntssAt w v l) (hu : IntssAt w u m) :
    Calls Try.prog 15 #[v, u] w (Gives (.bool (same2 (same2 eqI) l m)) w) := by
  obtain ⟨a, n, cap, rfl, hn, hl, hm, hc⟩ := hv
  obtain ⟨a', n', cap', rfl, hn', hl', hm', hc'⟩ := hu
  have Hc := Lib.hid hc; clear hc
  have Hc' := Lib.hid hc'; clear hc'
  have Hn := Lib.hid hn; clear hn
  have Hn' := Lib.hid hn'; clear hn'
  by_cases hnm : n = n'
  · subst hnm
    go_enter Try.func15, Try.ntmps15
    go_wp2
    go_loopw [5] (fun i wr => ∃ k : Nat, i = .int .i64 k ∧ k ≤ n ∧ Hid (same2 (same2 eqI) l m = same2 (same2 eqI) (l.drop k) (m.drop k)) ∧ Below w.heap.size w wr) (fun i _ => n - (intOf i).toNat)
    case atStart => exact ⟨0, rfl, Nat.zero_le _, Lib.hid rfl, Below.refl _ _⟩
    case round =>
      obtain ⟨k, rfl, hk, HS, hb⟩ := hrel
      by_cases hlt : k < n
      · obtain ⟨b, o, pa, pn, pc, rfl, hbs, hp, c0⟩ := intss_cells (Hc.out.below hb) k (by rw [← Hn.out]; exact hlt)
        obtain ⟨b', o', qa, qn, qc, rfl, hbs', hq, d0⟩ := intss_cells (Hc'.out.below hb) k (by rw [← Hn'.out]; exact hlt)
        have HT := Lib.hid (HS.out.trans (same2_step (same2 eqI) l m k (by rw [← Hn.out]; exact hlt) (by rw [← Hn'.out]; exact hlt)))
        clear HS
        have HP := Lib.hid hp; have HQ := Lib.hid hq
        have KQ := Lib.hid (fun W a b => f6ints_c (.slice pa pn pc) (.slice qa qn qc) (nth l k) (nth m k) W a b)
        have k0 := cell_regrown c0
        have g0 := cell_regrown d0
        clear hp hq hbs hbs' c0 d0
        generalize same2 eqI (nth l k) (nth m k) = bq at *
        cases bq
        all_goals
          go_wp2
          refine wp_region_quiet_below (by kernel_rfl) (by kernel_rfl) ?_
          repeat (first | go_big_quiet_step (exact Calls.regrown_of (KQ.out _ (HP.out.below (below_regrown _ _ _)) (HQ.out.below (below_regrown _ _ _)))) | quiet_step (exact Calls.regrown_of (KQ.out _ (HP.out.below (below_regrown _ _ _)) (HQ.out.below (below_regrown _ _ _)))))
          refine wpQuiet_nil ?_
          intro _ hw'
          obtain ⟨⟨dq, osq⟩, hw''⟩ := hw'
          subst hw''
          have hbq := below_regrown wr dq osq
          generalize Go.Sort.grow (redrawn wr dq) osq = wq at *
          have hb2 := bthen hb hbq
          go_wp2
        · go_ret
          exact Gives.bool HT.out hb2
        · exact ⟨⟨k + 1, by go_num, hlt, HT, hb2⟩, by simp [intOf]; omega⟩
      · go_wp2
        go_ret
        exact Gives.bool (by rw [HS.out, drop_end l k n Hn.out (by omega), drop_end m k n Hn'.out (by omega)]; rfl) hb
  · go_enter Try.func15, Try.ntmps15
    go_wp2
    go_ret
    exact Gives.bool (same2_len (same2 eqI) l m (by rw [← Hn.out, ← Hn'.out]; exact hnm)) (Below.refl _ _)
theorem f6big_c (v : Value) (l : List Int) (w : World) (hv : BytesAt w v l) : Calls Try.prog 4 #[v] w (Gives (.bool (decide (4096 < l.length))) w) := by
  obtain ⟨a, n, c, rfl, hn, -, -, -⟩ := hv
  have Hn := Lib.hid hn; clear hn
  go_enter Try.func4, Try.ntmps4
  go_wp2
  go_ret
  exact Gives.bool (by rw [← Hn.out]; exact decide_eq_decide.2 (by omega)) (Below.refl _ _)
theorem eqI_self (l : List Int) : same2 eqI l l = true := by
  induction l with
  | nil => rfl
  | cons x l ih => simp [same2, eqI, ih]
theorem eqI_of : ∀ (l m : List Int), same2 eqI l m = true → l = m
  | [], [], _ => rfl
  | x :: l, y :: m, h => by
    simp only [same2, eqI, Bool.and_eq_true, beq_iff_eq] at h
    rw [h.1, eqI_of l m h.2]
  | [], _ :: _, h => by simp [same2] at h
  | _ :: _, [], h => by simp [same2] at h
theorem eqII_self (l : List (List Int)) : same2 (same2 eqI) l l = true := by
  induction l with
  | nil => rfl
  | cons x l ih => simp [same2, eqI_self, ih]
end Go.Proofs.Ytoaegfoapkmdnaa

/- LawSr0: plain: what the law on searches asks. -/
namespace Go.Proofs.Ytoaegfoapkmdnaa
open Go.ChangeShapes Go.WideShapes Go.ChangeAt Go.RowKit

theorem take_nthL {α : Type} [Inhabited α] (l : List α) (n k : Nat) (h : k < (l.take n).length) : nth (l.take n) k = nth l k := by
  have h2 : k < l.length := by rw [List.length_take] at h; omega
  rw [nth_eq _ _ h, nth_eq _ _ h2, List.getElem_take]
theorem find_law {q : Query} {most : Int} (h : findCode q most = 0) : searchCode q = 0 ∧ (findL q most = (treeR q).2.take most.toNat) ∧ 0 ≤ most ∧
    (∀ k, k < (findL q most).length → mqB q (nth (findL q most) k) = true) ∧
    (∀ k, k + 1 < (findL q most).length → cmpL (nth (findL q most) k) (nth (findL q most) (k + 1)) = -1 ∧ nextCode q (nth (findL q most) k) = 0 ∧ nextL q (nth (findL q most) k) = nth (findL q most) (k + 1)) := by
  have ho : okQueryB q = true := by
    unfold findCode at h
    split at h
    · assumption
    · exact absurd h (by decide)
  have hi : inB most 0 200 = true := by
    unfold findCode at h
    rw [if_pos ho] at h
    split at h
    · assumption
    · exact absurd h (by decide)
  have hs : searchCode q = 0 := by
    unfold findCode at h
    rw [if_pos ho, if_pos hi] at h
    exact h
  have hl : findL q most = (treeR q).2.take most.toNat := by unfold findL; rw [if_pos h]
  have hm := inB_true hi
  refine ⟨hs, hl, hm.1, ?_, ?_⟩
  · rw [hl]
    intro k hk
    rw [take_nthL _ _ _ hk]
    rw [List.length_take] at hk
    obtain ⟨h1, h2⟩ := treeR_mem ho _ (mem_nth (show k < (treeR q).2.length by omega))
    unfold mqB
    rw [ho, h1, h2]; rfl
  · rw [hl]
    intro k hk
    rw [take_nthL _ _ _ hk, take_nthL _ _ _ (show k < _ by omega)]
    rw [List.length_take] at hk
    exact ⟨order_nth (treeR_order q) (Nat.lt_succ_self k) (by omega), next_found hs (by omega)⟩
theorem find_count {q : Query} {most : Int} (h : findCode q most = 0) : countI q = ((treeR q).2.length : Int) ∧ (((findL q most).length : Nat) : Int) = if ((treeR q).2.length : Int) ≤ most then ((treeR q).2.length : Int) else most := by
  obtain ⟨hs, hl, hm, _⟩ := find_law h
  refine ⟨by unfold countI; rw [if_pos hs], ?_⟩
  rw [hl, List.length_take]
  split <;> omega
end Go.Proofs.Ytoaegfoapkmdnaa
