import Derived.Test.YthkmgahbahaabaaMg11
import Derived.Test.YthkmgahbahaabaaMg6
/- ValidAtts: which lists of attempts are valid; the longest streak. -/
namespace Go.Proofs.Ythkmgahbahaabaa
open Go.ChangeShapes Go.WideShapes Go.ChangeAt Go.RowKit

def okAttsF : List Att → Bool
  | [] => true
  | x :: l => (okPat x.pattern && inB x.catches 0 100000) && okAttsF l
def okAtts (l : List Att) : Bool := okAttsF l && decide (l.length ≤ 100)
theorem okAttsF_step (l : List Att) (k : Nat) (h : k < l.length) : okAttsF (l.drop k) = ((okPat (nth l k).pattern && inB (nth l k).catches 0 100000) && okAttsF (l.drop (k + 1))) := by
  rw [drop_nth l k h]; rfl
theorem okAttsF_mem : ∀ (l : List Att), okAttsF l = true → ∀ x ∈ l, okPat x.pattern = true ∧ 0 ≤ x.catches ∧ x.catches ≤ 100000
  | t :: l, h, x, hx => by
    simp only [okAttsF, Bool.and_eq_true] at h
    cases hx with
    | head => exact ⟨h.1.1, inB_true h.1.2⟩
    | tail _ hx => exact okAttsF_mem l h.2 x hx
theorem okAtts_nth {l : List Att} (h : okAtts l = true) : (∀ i, i < l.length → okPat (nth l i).pattern = true ∧ 0 ≤ (nth l i).catches ∧ (nth l i).catches ≤ 100000) ∧ l.length ≤ 100 := by
  simp only [okAtts, Bool.and_eq_true, decide_eq_true_eq] at h
  exact ⟨fun i hi => okAttsF_mem l h.1 _ (mem_nth hi), h.2⟩

set_option maxHeartbeats 1000000 in
theorem l24Ok_c (v : Value) (l : List Att) (w : World) (hv : AttsAt w v l) :
    Calls Try.prog 14 #[v] w (Gives (.bool (okAtts l)) w) := by
  obtain ⟨a, n, cap, rfl, hn, hl, hm, hc⟩ := hv
  have Hc := Lib.hid hc; clear hc
  have Hn := Lib.hid hn; clear hn
  go_enter Try.func14, Try.ntmps14
  go_wp2
  go_loopw [3] (fun i wr => ∃ k : Nat, i = .int .i64 k ∧ k ≤ n ∧ Hid (okAttsF l = okAttsF (l.drop k)) ∧ Below w.heap.size w wr) (fun i _ => n - (intOf i).toNat)
  case atStart => exact ⟨0, rfl, Nat.zero_le _, Lib.hid rfl, Below.refl _ _⟩
  case round =>
    obtain ⟨k, rfl, hk, HS, hb⟩ := hrel
    by_cases hlt : k < n
    · obtain ⟨b, o, pa, pn, pc, rfl, hbs, hp, c0, c1, c2⟩ := att_cells (Hc.out.below hb) k (by rw [← Hn.out]; exact hlt)
      have HT := Lib.hid (HS.out.trans (okAttsF_step l k (by rw [← Hn.out]; exact hlt)))
      have HP := Lib.hid hp; clear hp HS
      generalize nth l k = x at *
      have HQ1 := Lib.hid (fun W a => l02Ok_c (.slice pa pn pc) x.pattern W a)
      have HQ2 := Lib.hid (l00In_c x.catches 0 100000)
      generalize okPat x.pattern = b1 at *
      generalize inB x.catches 0 100000 = b2 at *
      rcases (by cases b1 <;> cases b2 <;> simp : b1 = false ∨ (b1 = true ∧ b2 = false) ∨ (b1 = true ∧ b2 = true)) with rfl | ⟨rfl, rfl⟩ | ⟨rfl, rfl⟩
      · go_wp2_with fail
        refine (HQ1.out wr HP.out).mono ?_
        rintro e w1 ⟨rfl, hb1⟩
        go_wp2
        go_ret
        exact Gives.bool (by unfold okAtts; rw [HT.out]; rfl) (bthen hb hb1)
      all_goals
        go_wp2_with fail
        refine (HQ1.out wr HP.out).mono ?_
        rintro e w1 ⟨rfl, hb1⟩
        have d1 := cell_then hbs c1 hb1
        go_wp2_with fail
        refine (HQ2.out w1).mono ?_
        rintro e w2 ⟨rfl, hb2⟩
        have hb3 := bthen (bthen hb hb1) hb2
        go_wp2
      · go_ret
        exact Gives.bool (by unfold okAtts; rw [HT.out]; rfl) hb3
      · exact ⟨⟨k + 1, by go_num, hlt, HT, hb3⟩, by simp [intOf]; omega⟩
    · have HV : Hid (okAtts l = decide (n ≤ 100)) := Lib.hid (by unfold okAtts; rw [HS.out, drop_end l k n Hn.out (by omega), Hn.out]; rfl)
      by_cases h40 : n ≤ 100
      · have HW : Hid (okAtts l = true) := Lib.hid (by rw [HV.out]; exact decide_eq_true h40)
        clear HV HS
        go_wp2
        go_ret
        exact Gives.bool (by rw [HW.out]; simp; omega) hb
      · have HW : Hid (okAtts l = false) := Lib.hid (by rw [HV.out]; exact decide_eq_false h40)
        clear HV HS
        go_wp2
        go_ret
        exact Gives.bool (by rw [HW.out]; simp; omega) hb
set_option maxHeartbeats 1000000 in
theorem iValidAttempts_c (v : Value) (l : List Att) (w : World) (hv : AttsAt w v l) :
    Calls Try.prog 19 #[v] w (Gives (.bool (okAtts l)) w) := by
  obtain ⟨a, n, cap, rfl, hn, hl, hm, hc⟩ := hv
  have Hc := Lib.hid hc; clear hc
  have Hn := Lib.hid hn; clear hn
  go_enter Try.func19, Try.ntmps19
  go_wp2
  go_loopw [7] (fun i wr => ∃ k : Nat, i = .int .i64 k ∧ k ≤ n ∧ Hid (okAttsF l = okAttsF (l.drop k)) ∧ Below w.heap.size w wr) (fun i _ => n - (intOf i).toNat)
  case atStart => exact ⟨0, rfl, Nat.zero_le _, Lib.hid rfl, Below.refl _ _⟩
  case round =>
    obtain ⟨k, rfl, hk, HS, hb⟩ := hrel
    by_cases hlt : k < n
    · obtain ⟨b, o, pa, pn, pc, rfl, hbs, hp, c0, c1, c2⟩ := att_cells (Hc.out.below hb) k (by rw [← Hn.out]; exact hlt)
      have HT := Lib.hid (HS.out.trans (okAttsF_step l k (by rw [← Hn.out]; exact hlt)))
      have HP := Lib.hid hp; clear hp HS
      generalize nth l k = x at *
      have HQ1 := Lib.hid (fun W a => validPattern_c (.slice pa pn pc) x.pattern W a)
      have HQ2 := Lib.hid (between_c x.catches 0 100000)
      generalize okPat x.pattern = b1 at *
      generalize inB x.catches 0 100000 = b2 at *
      rcases (by cases b1 <;> cases b2 <;> simp : b1 = false ∨ (b1 = true ∧ b2 = false) ∨ (b1 = true ∧ b2 = true)) with rfl | ⟨rfl, rfl⟩ | ⟨rfl, rfl⟩
      all_goals
        go_wp2_with fail
        generalize hG : World.alloc wr (.cells #[.slice pa pn pc, .int .i64 x.catches, .bool x.dropped] 40) = wx at *
        have hbx : Below wr.heap.size wr wx := by rw [← hG]; go_grown
        have BX : BoxIs wx wr.heap.size [.slice pa pn pc, .int .i64 x.catches, .bool x.dropped] := by rw [← hG]; exact BoxIs.new _ _ _
        clear hG
        refine (HQ1.out wx (HP.out.below hbx)).mono ?_
        rintro e w1 ⟨rfl, hb1⟩
        have hb0 := bthen (bthen hb hbx) hb1
        have d1 := (BX.below hb1).2.1
        clear BX
      · go_wp2
        go_ret
        exact Gives.bool (by unfold okAtts; rw [HT.out]; rfl) hb0
      all_goals
        go_wp2_with fail
        refine (HQ2.out w1).mono ?_
        rintro e w2 ⟨rfl, hb2⟩
        have hb3 := bthen hb0 hb2
        go_wp2
      · go_ret
        exact Gives.bool (by unfold okAtts; rw [HT.out]; rfl) hb3
      · exact ⟨⟨k + 1, by go_num, hlt, HT, hb3⟩, by simp [intOf]; omega⟩
    · have HV : Hid (okAtts l = decide (n ≤ 100)) := Lib.hid (by unfold okAtts; rw [HS.out, drop_end l k n Hn.out (by omega), Hn.out]; rfl)
      by_cases h40 : n ≤ 100
      · have HW : Hid (okAtts l = true) := Lib.hid (by rw [HV.out]; exact decide_eq_true h40)
        clear HV HS
        go_wp2
        go_ret
        exact Gives.bool (by rw [HW.out]; simp; omega) hb
      · have HW : Hid (okAtts l = false) := Lib.hid (by rw [HV.out]; exact decide_eq_false h40)
        clear HV HS
        go_wp2
        go_ret
        exact Gives.bool (by rw [HW.out]; simp; omega) hb

end Go.Proofs.Ythkmgahbahaabaa
