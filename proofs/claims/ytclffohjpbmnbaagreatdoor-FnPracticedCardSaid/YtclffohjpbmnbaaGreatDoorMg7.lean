import Derived.Test.YtclffohjpbmnbaaGreatDoorMg6
import Derived.Test.YtclffohjpbmnbaaGreatDoorMg3
/- Canon2c: how two lists compare, by both packages. -/
namespace Go.Proofs.YtclffohjpbmnbaaGreatDoor
open Go.ChangeShapes Go.WideShapes Go.ChangeAt Go.RowKit

set_option maxHeartbeats 1000000 in
theorem l02Compare_c (v u : Value) (l m : List Int) (w : World) (hv : IntsAt w v l) (hu : IntsAt w u m) : Calls Tryz.prog 87 #[v, u] w (Gives (.int .i64 (cmpL l m)) w) := by
  obtain ⟨a, n, cap, rfl, hn, hl, hm, hc⟩ := hv
  obtain ⟨a', n', cap', rfl, hn', -, hm', hc'⟩ := hu
  have Hc := Lib.hid hc; clear hc
  have Hc' := Lib.hid hc'; clear hc'
  by_cases h1 : n < n'
  · have HR : Hid (cmpL l m = -1) := Lib.hid (by unfold cmpL; rw [← hn, ← hn', if_pos h1])
    have hne : ((n : Int) != (n' : Int)) = true := by simp; omega
    clear hn hn'
    go_enter Tryz.func87, Tryz.ntmps87
    go_wp2
    go_ret
    exact Gives.int HR.out (Below.refl _ _)
  by_cases h2 : n' < n
  · have HR : Hid (cmpL l m = 1) := Lib.hid (by unfold cmpL; rw [← hn, ← hn', if_neg h1, if_pos h2])
    have hne : ((n : Int) != (n' : Int)) = true := by simp; omega
    clear hn hn'
    go_enter Tryz.func87, Tryz.ntmps87
    go_wp2
    go_ret
    exact Gives.int HR.out (Below.refl _ _)
  obtain rfl : n = n' := by omega
  have HR : Hid (cmpL l m = cmpF l m) := Lib.hid (by unfold cmpL; rw [← hn, ← hn', if_neg h1, if_neg h1])
  have Hn := Lib.hid hn; clear hn
  have Hn' := Lib.hid hn'; clear hn' h1 h2
  go_enter Tryz.func87, Tryz.ntmps87
  go_wp2
  go_loopw [5] (fun i wr => ∃ k : Nat, i = .int .i64 k ∧ k ≤ n ∧ Hid (cmpL l m = cmpF (l.drop k) (m.drop k)) ∧ Below w.heap.size w wr) (fun i _ => n - (intOf i).toNat)
  case atStart => exact ⟨0, rfl, Nat.zero_le _, HR, Below.refl _ _⟩
  case round =>
    obtain ⟨k, rfl, hk, HS, hb⟩ := hrel
    by_cases hlt : k < n
    · obtain ⟨b, o, rfl, hbs, c0⟩ := (Hc.out.below hb) k (by rw [← Hn.out]; exact hlt)
      obtain ⟨b', o', rfl, hbs', d0⟩ := (Hc'.out.below hb) k (by rw [← Hn'.out]; exact hlt)
      have HT := Lib.hid (HS.out.trans (cmpF_step l m k (by rw [← Hn.out]; exact hlt) (by rw [← Hn'.out]; exact hlt)))
      clear HS HR
      generalize nth l k = x at *
      generalize nth m k = y at *
      by_cases hxy : x < y
      · have hd : decide (x < y) = true := decide_eq_true hxy
        have HV : Hid (cmpL l m = -1) := Lib.hid (by rw [HT.out, if_pos hxy])
        clear HT
        go_wp2
        go_quiet (fail)
        go_wp2
        go_ret
        exact Gives.int HV.out (below_drewN hb _)
      · have hd : decide (x < y) = false := decide_eq_false hxy
        by_cases hyx : y < x
        · have hd2 : decide (y < x) = true := decide_eq_true hyx
          have HV : Hid (cmpL l m = 1) := Lib.hid (by rw [HT.out, if_neg hxy, if_pos hyx])
          clear HT
          go_wp2
          go_quiet (fail)
          have hd0 : Below wr.heap.size wr (wr.drewN nq) := below_drewN (Below.refl _ _) nq
          have c0' := cell_then hbs c0 hd0
          have d0' := cell_then hbs' d0 hd0
          have hb' := bthen hb hd0
          clear hd0 c0 d0
          generalize wr.drewN nq = wd at *
          go_wp2
          go_quiet (fail)
          go_wp2
          go_ret
          exact Gives.int HV.out (below_drewN hb' _)
        · have hd2 : decide (y < x) = false := decide_eq_false hyx
          have HV : Hid (cmpL l m = cmpF (l.drop (k + 1)) (m.drop (k + 1))) := Lib.hid (by rw [HT.out, if_neg hxy, if_neg hyx])
          clear HT
          go_wp2
          go_quiet (fail)
          have hd0 : Below wr.heap.size wr (wr.drewN nq) := below_drewN (Below.refl _ _) nq
          have c0' := cell_then hbs c0 hd0
          have d0' := cell_then hbs' d0 hd0
          have hb' := bthen hb hd0
          clear hd0 c0 d0
          generalize wr.drewN nq = wd at *
          go_wp2
          go_quiet (fail)
          go_wp2
          exact ⟨⟨k + 1, by go_num, hlt, HV, below_drewN hb' _⟩, by simp [intOf]; omega⟩
    · go_wp2
      go_ret
      exact Gives.int (by rw [HS.out, drop_end l k n Hn.out (by omega)]; rfl) hb
set_option maxHeartbeats 1000000 in
theorem comparePatterns_c (v u : Value) (l m : List Int) (w : World) (hv : IntsAt w v l) (hu : IntsAt w u m) : Calls Tryz.prog 43 #[v, u] w (Gives (.int .i64 (cmpL l m)) w) := by
  obtain ⟨a, n, cap, rfl, hn, hl, hm, hc⟩ := hv
  obtain ⟨a', n', cap', rfl, hn', -, hm', hc'⟩ := hu
  have Hc := Lib.hid hc; clear hc
  have Hc' := Lib.hid hc'; clear hc'
  by_cases h1 : n < n'
  · have HR : Hid (cmpL l m = -1) := Lib.hid (by unfold cmpL; rw [← hn, ← hn', if_pos h1])
    have hne : ((n : Int) != (n' : Int)) = true := by simp; omega
    clear hn hn'
    go_enter Tryz.func43, Tryz.ntmps43
    go_wp2
    go_ret
    exact Gives.int HR.out (Below.refl _ _)
  by_cases h2 : n' < n
  · have HR : Hid (cmpL l m = 1) := Lib.hid (by unfold cmpL; rw [← hn, ← hn', if_neg h1, if_pos h2])
    have hne : ((n : Int) != (n' : Int)) = true := by simp; omega
    clear hn hn'
    go_enter Tryz.func43, Tryz.ntmps43
    go_wp2
    go_ret
    exact Gives.int HR.out (Below.refl _ _)
  obtain rfl : n = n' := by omega
  have HR : Hid (cmpL l m = cmpF l m) := Lib.hid (by unfold cmpL; rw [← hn, ← hn', if_neg h1, if_neg h1])
  have Hn := Lib.hid hn; clear hn
  have Hn' := Lib.hid hn'; clear hn' h1 h2
  go_enter Tryz.func43, Tryz.ntmps43
  go_wp2
  go_loopw [20] (fun i wr => ∃ k : Nat, i = .int .i64 k ∧ k ≤ n ∧ Hid (cmpL l m = cmpF (l.drop k) (m.drop k)) ∧ Below w.heap.size w wr) (fun i _ => n - (intOf i).toNat)
  case atStart => exact ⟨0, rfl, Nat.zero_le _, HR, Below.refl _ _⟩
  case round =>
    obtain ⟨k, rfl, hk, HS, hb⟩ := hrel
    by_cases hlt : k < n
    · obtain ⟨b, o, rfl, hbs, c0⟩ := (Hc.out.below hb) k (by rw [← Hn.out]; exact hlt)
      obtain ⟨b', o', rfl, hbs', d0⟩ := (Hc'.out.below hb) k (by rw [← Hn'.out]; exact hlt)
      have HT := Lib.hid (HS.out.trans (cmpF_step l m k (by rw [← Hn.out]; exact hlt) (by rw [← Hn'.out]; exact hlt)))
      clear HS HR
      generalize nth l k = x at *
      generalize nth m k = y at *
      by_cases hxy : x < y
      · have hd : decide (x < y) = true := decide_eq_true hxy
        have HV : Hid (cmpL l m = -1) := Lib.hid (by rw [HT.out, if_pos hxy])
        clear HT
        go_wp2
        go_quiet (fail)
        go_wp2
        go_ret
        exact Gives.int HV.out (below_drewN hb _)
      · have hd : decide (x < y) = false := decide_eq_false hxy
        by_cases hyx : y < x
        · have hd2 : decide (y < x) = true := decide_eq_true hyx
          have HV : Hid (cmpL l m = 1) := Lib.hid (by rw [HT.out, if_neg hxy, if_pos hyx])
          clear HT
          go_wp2
          go_quiet (fail)
          have hd0 : Below wr.heap.size wr (wr.drewN nq) := below_drewN (Below.refl _ _) nq
          have c0' := cell_then hbs c0 hd0
          have d0' := cell_then hbs' d0 hd0
          have hb' := bthen hb hd0
          clear hd0 c0 d0
          generalize wr.drewN nq = wd at *
          go_wp2
          go_quiet (fail)
          go_wp2
          go_ret
          exact Gives.int HV.out (below_drewN hb' _)
        · have hd2 : decide (y < x) = false := decide_eq_false hyx
          have HV : Hid (cmpL l m = cmpF (l.drop (k + 1)) (m.drop (k + 1))) := Lib.hid (by rw [HT.out, if_neg hxy, if_neg hyx])
          clear HT
          go_wp2
          go_quiet (fail)
          have hd0 : Below wr.heap.size wr (wr.drewN nq) := below_drewN (Below.refl _ _) nq
          have c0' := cell_then hbs c0 hd0
          have d0' := cell_then hbs' d0 hd0
          have hb' := bthen hb hd0
          clear hd0 c0 d0
          generalize wr.drewN nq = wd at *
          go_wp2
          go_quiet (fail)
          go_wp2
          exact ⟨⟨k + 1, by go_num, hlt, HV, below_drewN hb' _⟩, by simp [intOf]; omega⟩
    · go_wp2
      go_ret
      exact Gives.int (by rw [HS.out, drop_end l k n Hn.out (by omega)]; rfl) hb
end Go.Proofs.YtclffohjpbmnbaaGreatDoor

/- ValidAtts: which lists of attempts are valid; the longest streak. -/
namespace Go.Proofs.YtclffohjpbmnbaaGreatDoor
open Go.ChangeShapes Go.WideShapes Go.ChangeAt Go.RowKit

def okAttsF : List Att → Bool
  | [] => true
  | x :: l => (okPat x.pattern && inB x.catches 0 100000) && okAttsF l
def okAtts (l : List Att) : Bool := okAttsF l && decide (l.length ≤ 100)
theorem okAttsF_step (l : List Att) (k : Nat) (h : k < l.length) : okAttsF (l.drop k) = ((okPat (nth l k).pattern && inB (nth l k).catches 0 100000) && okAttsF (l.drop (k + 1))) := by
  rw [drop_nth l k h]; rfl
theorem okAttsF_mem : ∀ (l : List Att), okAttsF l = true → ∀ x ∈ l, okPat x.pattern = true ∧ 0 ≤ x.catches ∧ x.catches ≤ 100000
  | t :: l, h, x, hx => by
    simp only [okAttsF, Bool.and_eq_true] at h
    cases hx with
    | head => exact ⟨h.1.1, inB_true h.1.2⟩
    | tail _ hx => exact okAttsF_mem l h.2 x hx
theorem okAtts_nth {l : List Att} (h : okAtts l = true) : (∀ i, i < l.length → okPat (nth l i).pattern = true ∧ 0 ≤ (nth l i).catches ∧ (nth l i).catches ≤ 100000) ∧ l.length ≤ 100 := by
  simp only [okAtts, Bool.and_eq_true, decide_eq_true_eq] at h
  exact ⟨fun i hi => okAttsF_mem l h.1 _ (mem_nth hi), h.2⟩

set_option maxHeartbeats 1000000 in
theorem l24Ok_c (v : Value) (l : List Att) (w : World) (hv : AttsAt w v l) :
    Calls Tryz.prog 85 #[v] w (Gives (.bool (okAtts l)) w) := by
  obtain ⟨a, n, cap, rfl, hn, hl, hm, hc⟩ := hv
  have Hc := Lib.hid hc; clear hc
  have Hn := Lib.hid hn; clear hn
  go_enter Tryz.func85, Tryz.ntmps85
  go_wp2
  go_loopw [3] (fun i wr => ∃ k : Nat, i = .int .i64 k ∧ k ≤ n ∧ Hid (okAttsF l = okAttsF (l.drop k)) ∧ Below w.heap.size w wr) (fun i _ => n - (intOf i).toNat)
  case atStart => exact ⟨0, rfl, Nat.zero_le _, Lib.hid rfl, Below.refl _ _⟩
  case round =>
    obtain ⟨k, rfl, hk, HS, hb⟩ := hrel
    by_cases hlt : k < n
    · obtain ⟨b, o, pa, pn, pc, rfl, hbs, hp, c0, c1, c2⟩ := att_cells (Hc.out.below hb) k (by rw [← Hn.out]; exact hlt)
      have HT := Lib.hid (HS.out.trans (okAttsF_step l k (by rw [← Hn.out]; exact hlt)))
      have HP := Lib.hid hp; clear hp HS
      generalize nth l k = x at *
      have HQ1 := Lib.hid (fun W a => l02Ok_c (.slice pa pn pc) x.pattern W a)
      have HQ2 := Lib.hid (l00In_c x.catches 0 100000)
      generalize okPat x.pattern = b1 at *
      generalize inB x.catches 0 100000 = b2 at *
      rcases (by cases b1 <;> cases b2 <;> simp : b1 = false ∨ (b1 = true ∧ b2 = false) ∨ (b1 = true ∧ b2 = true)) with rfl | ⟨rfl, rfl⟩ | ⟨rfl, rfl⟩
      · go_wp2_with fail
        refine (HQ1.out wr HP.out).mono ?_
        rintro e w1 ⟨rfl, hb1⟩
        go_wp2
        go_ret
        exact Gives.bool (by unfold okAtts; rw [HT.out]; rfl) (bthen hb hb1)
      all_goals
        go_wp2_with fail
        refine (HQ1.out wr HP.out).mono ?_
        rintro e w1 ⟨rfl, hb1⟩
        have d1 := cell_then hbs c1 hb1
        go_wp2_with fail
        refine (HQ2.out w1).mono ?_
        rintro e w2 ⟨rfl, hb2⟩
        have hb3 := bthen (bthen hb hb1) hb2
        go_wp2
      · go_ret
        exact Gives.bool (by unfold okAtts; rw [HT.out]; rfl) hb3
      · exact ⟨⟨k + 1, by go_num, hlt, HT, hb3⟩, by simp [intOf]; omega⟩
    · have HV : Hid (okAtts l = decide (n ≤ 100)) := Lib.hid (by unfold okAtts; rw [HS.out, drop_end l k n Hn.out (by omega), Hn.out]; rfl)
      by_cases h40 : n ≤ 100
      · have HW : Hid (okAtts l = true) := Lib.hid (by rw [HV.out]; exact decide_eq_true h40)
        clear HV HS
        go_wp2
        go_ret
        exact Gives.bool (by rw [HW.out]; simp; omega) hb
      · have HW : Hid (okAtts l = false) := Lib.hid (by rw [HV.out]; exact decide_eq_false h40)
        clear HV HS
        go_wp2
        go_ret
        exact Gives.bool (by rw [HW.out]; simp; omega) hb
set_option maxHeartbeats 1000000 in
theorem iValidAttempts_c (v : Value) (l : List Att) (w : World) (hv : AttsAt w v l) :
    Calls Tryz.prog 40 #[v] w (Gives (.bool (okAtts l)) w) := by
  obtain ⟨a, n, cap, rfl, hn, hl, hm, hc⟩ := hv
  have Hc := Lib.hid hc; clear hc
  have Hn := Lib.hid hn; clear hn
  go_enter Tryz.func40, Tryz.ntmps40
  go_wp2
  go_loopw [7] (fun i wr => ∃ k : Nat, i = .int .i64 k ∧ k ≤ n ∧ Hid (okAttsF l = okAttsF (l.drop k)) ∧ Below w.heap.size w wr) (fun i _ => n - (intOf i).toNat)
  case atStart => exact ⟨0, rfl, Nat.zero_le _, Lib.hid rfl, Below.refl _ _⟩
  case round =>
    obtain ⟨k, rfl, hk, HS, hb⟩ := hrel
    by_cases hlt : k < n
    · obtain ⟨b, o, pa, pn, pc, rfl, hbs, hp, c0, c1, c2⟩ := att_cells (Hc.out.below hb) k (by rw [← Hn.out]; exact hlt)
      have HT := Lib.hid (HS.out.trans (okAttsF_step l k (by rw [← Hn.out]; exact hlt)))
      have HP := Lib.hid hp; clear hp HS
      generalize nth l k = x at *
      have HQ1 := Lib.hid (fun W a => validPattern_c (.slice pa pn pc) x.pattern W a)
      have HQ2 := Lib.hid (between_c x.catches 0 100000)
      generalize okPat x.pattern = b1 at *
      generalize inB x.catches 0 100000 = b2 at *
      rcases (by cases b1 <;> cases b2 <;> simp : b1 = false ∨ (b1 = true ∧ b2 = false) ∨ (b1 = true ∧ b2 = true)) with rfl | ⟨rfl, rfl⟩ | ⟨rfl, rfl⟩
      all_goals
        go_wp2_with fail
        generalize hG : World.alloc wr (.cells #[.slice pa pn pc, .int .i64 x.catches, .bool x.dropped] 103) = wx at *
        have hbx : Below wr.heap.size wr wx := by rw [← hG]; go_grown
        have BX : BoxIs wx wr.heap.size [.slice pa pn pc, .int .i64 x.catches, .bool x.dropped] := by rw [← hG]; exact BoxIs.new _ _ _
        clear hG
        refine (HQ1.out wx (HP.out.below hbx)).mono ?_
        rintro e w1 ⟨rfl, hb1⟩
        have hb0 := bthen (bthen hb hbx) hb1
        have d1 := (BX.below hb1).2.1
        clear BX
      · go_wp2
        go_ret
        exact Gives.bool (by unfold okAtts; rw [HT.out]; rfl) hb0
      all_goals
        go_wp2_with fail
        refine (HQ2.out w1).mono ?_
        rintro e w2 ⟨rfl, hb2⟩
        have hb3 := bthen hb0 hb2
        go_wp2
      · go_ret
        exact Gives.bool (by unfold okAtts; rw [HT.out]; rfl) hb3
      · exact ⟨⟨k + 1, by go_num, hlt, HT, hb3⟩, by simp [intOf]; omega⟩
    · have HV : Hid (okAtts l = decide (n ≤ 100)) := Lib.hid (by unfold okAtts; rw [HS.out, drop_end l k n Hn.out (by omega), Hn.out]; rfl)
      by_cases h40 : n ≤ 100
      · have HW : Hid (okAtts l = true) := Lib.hid (by rw [HV.out]; exact decide_eq_true h40)
        clear HV HS
        go_wp2
        go_ret
        exact Gives.bool (by rw [HW.out]; simp; omega) hb
      · have HW : Hid (okAtts l = false) := Lib.hid (by rw [HV.out]; exact decide_eq_false h40)
        clear HV HS
        go_wp2
        go_ret
        exact Gives.bool (by rw [HW.out]; simp; omega) hb

theorem sValidAttempts_c (v : Value) (l : List Att) (w : World) (hv : AttsAt w v l) :
    Calls Tryz.prog 41 #[v] w (Gives (.bool (okAtts l)) w) := by
  have HQ := Lib.hid (l24Ok_c v l w hv); clear hv
  go_enter Tryz.func41, Tryz.ntmps41
  go_wp2_with fail
  refine HQ.out.mono ?_
  rintro e w1 ⟨rfl, hb1⟩
  go_wp2
  go_ret
  exact Gives.bool rfl hb1
end Go.Proofs.YtclffohjpbmnbaaGreatDoor
