import Derived.Test.YtcgbdhbdlnimhaaGreatMg21
import Derived.Test.YtcgbdhbdlnimhaaGreatMg2
import Derived.Test.YtcgbdhbdlnimhaaGreatMg45
import Derived.Deep.RegionHeld3
/- Spoil: texts that are drawn with a change. -/
namespace Go.Proofs.YtcgbdhbdlnimhaaGreat
open Go.ChangeShapes Go.WideShapes Go.ChangeAt Go.RowKit

def spoilT : List ByteArray := [{ data := #[32] }, { data := #[48] }, { data := #[45] }, { data := #[120] }, { data := #[49] }, { data := #[57] }, { data := #[46] }]
/-- A text of at most m bytes, drawn. -/
def DrawsS (m b n : Nat) (w : World) (e : Ending) (w' : World) : Prop := ∃ r : ByteArray, e = .returned (.string r) ∧ r.size ≤ m ∧ Drew b n w w'
set_option maxRecDepth 100000 in
set_option maxHeartbeats 2000000 in
theorem l01Spoil_c (b n : Nat) (t : ByteArray) (w : World) (h : SrcAt w b n) (hn : n ≤ 10000000) (ht : t.size ≤ 100000) : Calls Tryz.prog 75 #[.pointer (some ⟨b, 0, none⟩), .string t] w (DrawsS (t.size + 1) b (n + 10) w) := by
  have HS := Lib.hid h
  have hbl := h.lt
  clear h
  go_enter Tryz.func75, Tryz.ntmps75
  go_wp2_with fail
  refine (pick_c b n 5 w HS.out (by omega) (by omega)).mono ?_
  rintro e w1 ⟨v, rfl, -, hd⟩
  have HD := Lib.hid hd
  clear hd HS
  by_cases h0 : v = 0
  · subst h0
    go_wp2_with fail
    refine (pick_c b _ ((t.size : Int) + 1) _ HD.out.1 (by omega) (by omega)).mono ?_
    rintro e w2 ⟨r, rfl, hr, hd⟩
    have hrt : r ≤ t.size := by omega
    replace HD := Lib.hid (HD.out.trans hd)
    clear hd hr
    have hsw := HD.out.2.size
    have HSt : Hid (StrsAt (w2.alloc (.cells (spoilT.map Value.string).toArray 9)) (.slice (some ⟨w2.heap.size, 0, none⟩) 7 7) spoilT) := Lib.hid (strs_lit (w := w2) spoilT 7 rfl _ rfl (by decide))
    have HDA := Lib.hid (HD.out.then_below (show Below w2.heap.size w2 (w2.alloc (.cells (spoilT.map Value.string).toArray 9)) by go_grown))
    have hz1 : (t.extract 0 r).size = r := by rw [ByteArray.size_extract]; omega
    have hz2 : (t.extract r t.size).size = t.size - r := by rw [ByteArray.size_extract]; omega
    generalize ht1 : t.extract 0 r = t1 at *
    generalize ht2 : t.extract r t.size = t2 at *
    have hri : (r : Int) ≤ (t.size : Int) := by omega
    go_wp2
    refine wp_region_held_drew (S := fun w' => True) (by kernel_rfl) (by exact trivial) (fun hHeld => ?_)
    refine wpAnyH_take (i := 0) (oi := ⟨_, _, _, _, _, _⟩) (v := ?_) rfl (by kernel_rfl) (by kernel_rfl) (by kernel_rfl) (fun _ _ _ h => h) (Or.inl ⟨by rfl, ?_⟩) (by assumption) ?_; rotate_left; (focus (intro w hSw; (try dsimp only at hSw); go_simp; try with_reducible rfl)); (try simp only [Act.put, List.setIfInBounds_toArray, List.set_cons_zero, List.set_cons_succ])
    refine wpAnyH_take (i := 1) (oi := ⟨_, _, _, _, _, _⟩) (v := ?_) rfl (by kernel_rfl) (by kernel_rfl) (by kernel_rfl) (fun _ _ _ h => h) (Or.inl ⟨by rfl, ?_⟩) (by assumption) ?_; rotate_left; (focus (intro w hSw; (try dsimp only at hSw); go_simp; try with_reducible rfl)); (try simp only [Act.put, List.setIfInBounds_toArray, List.set_cons_zero, List.set_cons_succ])
    refine wpAnyH_take (i := 2) (oi := ⟨_, _, _, _, _, _⟩) (v := ?_) rfl (by kernel_rfl) (by kernel_rfl) (by kernel_rfl) (fun _ _ _ h => h) (Or.inl ⟨by rfl, ?_⟩) (by assumption) ?_; rotate_left; (focus (intro w hSw; (try dsimp only at hSw); go_simp; try with_reducible rfl)); (try simp only [Act.put, List.setIfInBounds_toArray, List.set_cons_zero, List.set_cons_succ])
    refine wpAnyH_take (i := 3) (oi := ⟨_, _, _, _, _, _⟩) (v := ?_) rfl (by kernel_rfl) (by kernel_rfl) (by kernel_rfl) (fun _ _ _ h => h) (Or.inl ⟨by rfl, ?_⟩) (by assumption) ?_; rotate_left; (focus (intro w hSw; (try dsimp only at hSw); go_simp; try with_reducible rfl)); (try simp only [Act.put, List.setIfInBounds_toArray, List.set_cons_zero, List.set_cons_succ])
    refine wpAnyH_take (i := 7) (oi := ⟨_, _, _, _, _, _⟩) (v := ?_) rfl (by kernel_rfl) (by kernel_rfl) (by kernel_rfl) (fun _ _ _ h => h) (Or.inl ⟨by rfl, ?_⟩) (by assumption) ?_; rotate_left; (focus (intro w hSw; (try dsimp only at hSw); go_simp; try with_reducible rfl)); (try simp only [Act.put, List.setIfInBounds_toArray, List.set_cons_zero, List.set_cons_succ])
    refine wpAnyH_take (i := 8) (oi := ⟨_, _, _, _, _, _⟩) (v := ?_) rfl (by kernel_rfl) (by kernel_rfl) (by kernel_rfl) (fun _ _ _ h => h) (Or.inl ⟨by rfl, ?_⟩) (by assumption) ?_; rotate_left; (focus (intro w hSw; (try dsimp only at hSw); go_simp; try with_reducible rfl)); (try simp only [Act.put, List.setIfInBounds_toArray, List.set_cons_zero, List.set_cons_succ])
    refine wpAnyH_take (i := 9) (oi := ⟨_, _, _, _, _, _⟩) (v := ?_) rfl (by kernel_rfl) (by kernel_rfl) (by kernel_rfl) (fun _ _ _ h => h) (Or.inl ⟨by rfl, ?_⟩) (by assumption) ?_; rotate_left; (focus (intro w hSw; (try dsimp only at hSw); go_simp; try with_reducible rfl)); (try simp only [Act.put, List.setIfInBounds_toArray, List.set_cons_zero, List.set_cons_succ])
    refine wpAnyH_ready (rs := [4]) (by kernel_rfl) (by simp) ?_
    refine AllReadyH.cons (o := ⟨_, _, _, _, _, _⟩) rfl (fun K hK => ?_) AllReadyH.nil
    go_simp
    refine hK.out _ _ (by exact trivial) (fun hHeld' => ?_)
    clear hHeld hK K
    have hHeld := hHeld'
    clear hHeld'
    try simp only [Act.put, List.setIfInBounds_toArray, List.set_cons_zero, List.set_cons_succ]
    refine wpAnyH_ready (rs := [5]) (by kernel_rfl) (by simp) ?_
    refine AllReadyH.cons (o := ⟨_, _, _, _, _, _⟩) rfl (fun K hK => ?_) AllReadyH.nil
    go_simp
    go_at_call 83; refine (text_c b _ _ spoilT _ (HDA.out.1.below (Below.refl _ _).drew) (by omega) (HSt.out.below (Below.refl _ _).drew) (by decide) (by decide) (fun b' o m c e => by injection e with e1; injection e1 with e1; injection e1 with e1; omega)).mono ?_; rintro e w5 ⟨r4, hr4, rfl, hd⟩; have hS' : True := trivial; have HD5 := Lib.hid ((HDA.out.then_below (Below.refl _ _).drew).trans hd); have hns : (nth spoilT r4).size ≤ 1 := (by decide : ∀ x ∈ spoilT, x.size ≤ 1) _ (mem_nth hr4); clear hd hr4; generalize nth spoilT r4 = nm at *; have hq1 : ¬ 9223372036854775807 < r + nm.size := (by omega); have hq2 : ¬ 9223372036854775807 < r + nm.size + (t.size - r) := (by omega)
    refine hK.out _ _ (by exact hS') (fun hHeld' => ?_)
    clear hHeld hK K
    have hHeld := hHeld'
    clear hHeld'
    try simp only [Act.put, List.setIfInBounds_toArray, List.set_cons_zero, List.set_cons_succ]
    refine wpAnyH_take (i := 6) (oi := ⟨_, _, _, _, _, _⟩) (v := ?_) rfl (by kernel_rfl) (by kernel_rfl) (by kernel_rfl) (fun _ _ _ h => h) (Or.inl ⟨by rfl, ?_⟩) (by assumption) ?_; rotate_left; (focus (intro w hSw; (try dsimp only at hSw); go_simp; try with_reducible rfl)); (try simp only [Act.put, List.setIfInBounds_toArray, List.set_cons_zero, List.set_cons_succ])
    refine wpAnyH_take (i := 10) (oi := ⟨_, _, _, _, _, _⟩) (v := ?_) rfl (by kernel_rfl) (by kernel_rfl) (by kernel_rfl) (fun _ _ _ h => h) (Or.inl ⟨by rfl, ?_⟩) (by assumption) ?_; rotate_left; (focus (intro w hSw; (try dsimp only at hSw); go_simp; try with_reducible rfl)); (try simp only [Act.put, List.setIfInBounds_toArray, List.set_cons_zero, List.set_cons_succ])
    refine wpAnyH_take (i := 11) (oi := ⟨_, _, _, _, _, _⟩) (v := ?_) rfl (by kernel_rfl) (by kernel_rfl) (by kernel_rfl) (fun _ _ _ h => h) (Or.inl ⟨by rfl, ?_⟩) (by assumption) ?_; rotate_left; (focus (intro w hSw; (try dsimp only at hSw); go_simp; try with_reducible rfl)); (try simp only [Act.put, List.setIfInBounds_toArray, List.set_cons_zero, List.set_cons_succ])
    refine wpAnyH_done (by kernel_rfl) ?_ _
    go_wp2
    go_ret
    exact ⟨_, rfl, by rw [ByteArray.size_append, ByteArray.size_append]; omega, HD5.out.mono (by omega)⟩
  have hz0 : ((v : Int) == 0) = false := beq_eq_false_iff_ne.2 (by omega)
  by_cases h1 : v = 1
  · subst h1
    by_cases hte : t.size = 0
    · have htb : t.toList.isEmpty = true := by rw [isEmpty_size]; exact decide_eq_true hte
      go_wp2
      go_ret
      exact ⟨t, rfl, by omega, HD.out.mono (by omega)⟩
    · have htb : t.toList.isEmpty = false := by rw [isEmpty_size]; exact decide_eq_false hte
      go_wp2_with fail
      refine (pick_c b _ (t.size : Int) _ HD.out.1 (by omega) (by omega)).mono ?_
      rintro e w2 ⟨r, rfl, hr, hd⟩
      have hrt : r < t.size := by omega
      replace HD := Lib.hid (HD.out.trans hd)
      clear hd hr
      have hz1 : (t.extract 0 r).size = r := by rw [ByteArray.size_extract]; omega
      have hz2 : (t.extract (r + 1) t.size).size = t.size - (r + 1) := by rw [ByteArray.size_extract]; omega
      have hq1 : ¬ 9223372036854775807 < r + (t.size - (r + 1)) := by omega
      have hr1 : r + 1 ≤ t.size := hrt
      go_wp2
      go_quiet (fail)
      go_wp2
      go_ret
      exact ⟨_, rfl, by rw [ByteArray.size_append]; omega, (HD.out.then_below (below_drewN (Below.refl _ _) _)).mono (by omega)⟩
  have hz1 : ((v : Int) == 1) = false := beq_eq_false_iff_ne.2 (by omega)
  clear h0 h1
  go_wp2
  go_ret
  exact ⟨t, rfl, by omega, HD.out.mono (by omega)⟩
end Go.Proofs.YtcgbdhbdlnimhaaGreat
