import Derived.Test.YtclffohjpbmnbaaGreatDoorMg44
import Derived.Test.YtclffohjpbmnbaaGreatDoorMg13
import Derived.Test.YtclffohjpbmnbaaGreatDoorMg8
import Derived.Test.YtclffohjpbmnbaaGreatDoorMg23
import Derived.Deep.RegionHeld3
/- TextD: texts that are drawn. -/
namespace Go.Proofs.YtclffohjpbmnbaaGreatDoor
open Go.ChangeShapes Go.WideShapes Go.ChangeAt Go.RowKit

theorem strs_lit {w : World} (xs : List ByteArray) (k : Nat) (hk : k = xs.length) (b : Nat) (hb : b = w.heap.size) (h1 : k ≤ 1000) : StrsAt (w.alloc (.cells (xs.map Value.string).toArray 9)) (.slice (some ⟨b, 0, none⟩) k k) xs := by
  subst hb hk
  refine ⟨some ⟨w.heap.size, 0, none⟩, _, _, rfl, rfl, Nat.le_refl _, by omega, fun i hi => ⟨w.heap.size, 0, rfl, by simp, ?_⟩⟩
  rw [World.cell?_alloc_at _ _ _ _ rfl]
  simp [nth_get? xs i hi]
theorem StrsAt.drew {w w' : World} {b n : Nat} {v : Value} {l : List ByteArray} (h : StrsAt w v l) (hd : Drew b n w w') (hv : 0 < l.length → ∀ b' o m c, v = .slice (some ⟨b', o, none⟩) m c → b' ≠ b) : StrsAt w' v l := by
  obtain ⟨a, m, c, rfl, h1, h2, h3, hc⟩ := h
  refine ⟨a, m, c, rfl, h1, h2, h3, fun i hi => ?_⟩
  obtain ⟨b', o, rfl, hs, c0⟩ := hc i hi
  have hne := hv (by omega) b' o m c rfl
  have hk := hd.2.block b' hs (by omega)
  exact ⟨b', o, rfl, Nat.lt_of_lt_of_le hs hd.2.size, (World.cell?_of_block (a := ⟨b', o + i, none⟩) hk).trans c0⟩
set_option maxHeartbeats 1000000 in
theorem text_c (b n : Nat) (v : Value) (l : List ByteArray) (w : World) (h : SrcAt w b n) (hn : n ≤ 100000000) (hv : StrsAt w v l) (hl : 0 < l.length) (hl2 : l.length ≤ 1000) (hvb : ∀ b' o m c, v = .slice (some ⟨b', o, none⟩) m c → b' ≠ b) :
    Calls Tryz.prog 127 #[.pointer (some ⟨b, 0, none⟩), v] w fun e w' => ∃ r : Nat, r < l.length ∧ e = .returned (.string (nth l r)) ∧ Drew b (n + 2) w w' := by
  have HV := Lib.hid hv
  obtain ⟨a, m, c, rfl, hm, -, -, -⟩ := hv
  have HP := Lib.hid (pick_c b n (m : Int) w h hn (by omega))
  have Hm := Lib.hid hm
  have Hvb := Lib.hid hvb
  have Hl := Lib.hid hl
  clear h hvb hm hl hl2
  go_enter Tryz.func127, Tryz.ntmps127
  go_wp2_with fail
  refine HP.out.mono ?_
  rintro e w1 ⟨r, rfl, hr, hd⟩
  have hrl : r < l.length := by have := Hm.out; have := Hl.out; omega
  obtain ⟨a', m', c', he, hm', -, -, hc⟩ := HV.out.drew hd (fun _ => Hvb.out)
  cases he
  obtain ⟨b', o, rfl, hbs, c0⟩ := hc r hrl
  have hrm : r < m := by have := Hm.out; omega
  have Hrl := Lib.hid hrl
  have HD := Lib.hid hd
  clear hm' hc hr hrl hd
  go_wp2
  go_ret
  exact ⟨r, Hrl.out, rfl, HD.out⟩
end Go.Proofs.YtclffohjpbmnbaaGreatDoor

/- Spoil: texts that are drawn with a change. -/
namespace Go.Proofs.YtclffohjpbmnbaaGreatDoor
open Go.ChangeShapes Go.WideShapes Go.ChangeAt Go.RowKit

def spoilT : List ByteArray := [{ data := #[32] }, { data := #[48] }, { data := #[45] }, { data := #[120] }, { data := #[49] }, { data := #[57] }, { data := #[46] }]
/-- A text of at most m bytes, drawn. -/
def DrawsS (m b n : Nat) (w : World) (e : Ending) (w' : World) : Prop := ∃ r : ByteArray, e = .returned (.string r) ∧ r.size ≤ m ∧ Drew b n w w'
set_option maxRecDepth 100000 in
set_option maxHeartbeats 2000000 in
theorem l01Spoil_c (b n : Nat) (t : ByteArray) (w : World) (h : SrcAt w b n) (hn : n ≤ 10000000) (ht : t.size ≤ 100000) : Calls Tryz.prog 67 #[.pointer (some ⟨b, 0, none⟩), .string t] w (DrawsS (t.size + 1) b (n + 10) w) := by
  have HS := Lib.hid h
  have hbl := h.lt
  clear h
  go_enter Tryz.func67, Tryz.ntmps67
  go_wp2_with fail
  refine (pick_c b n 5 w HS.out (by omega) (by omega)).mono ?_
  rintro e w1 ⟨v, rfl, -, hd⟩
  have HD := Lib.hid hd
  clear hd HS
  by_cases h0 : v = 0
  · subst h0
    go_wp2_with fail
    refine (pick_c b _ ((t.size : Int) + 1) _ HD.out.1 (by omega) (by omega)).mono ?_
    rintro e w2 ⟨r, rfl, hr, hd⟩
    have hrt : r ≤ t.size := by omega
    replace HD := Lib.hid (HD.out.trans hd)
    clear hd hr
    have hsw := HD.out.2.size
    have HSt : Hid (StrsAt (w2.alloc (.cells (spoilT.map Value.string).toArray 9)) (.slice (some ⟨w2.heap.size, 0, none⟩) 7 7) spoilT) := Lib.hid (strs_lit (w := w2) spoilT 7 rfl _ rfl (by decide))
    have HDA := Lib.hid (HD.out.then_below (show Below w2.heap.size w2 (w2.alloc (.cells (spoilT.map Value.string).toArray 9)) by go_grown))
    have hz1 : (t.extract 0 r).size = r := by rw [ByteArray.size_extract]; omega
    have hz2 : (t.extract r t.size).size = t.size - r := by rw [ByteArray.size_extract]; omega
    generalize ht1 : t.extract 0 r = t1 at *
    generalize ht2 : t.extract r t.size = t2 at *
    have hri : (r : Int) ≤ (t.size : Int) := by omega
    go_wp2
    refine wp_region_held_drew (S := fun w' => True) (by kernel_rfl) (by exact trivial) (fun hHeld => ?_)
    refine wpAnyH_take (i := 0) (oi := ⟨_, _, _, _, _, _⟩) (v := ?_) rfl (by kernel_rfl) (by kernel_rfl) (by kernel_rfl) (fun _ _ _ h => h) (Or.inl ⟨by rfl, ?_⟩) (by assumption) ?_; rotate_left; (focus (intro w hSw; (try dsimp only at hSw); go_simp; try with_reducible rfl)); (try simp only [Act.put, List.setIfInBounds_toArray, List.set_cons_zero, List.set_cons_succ])
    refine wpAnyH_take (i := 1) (oi := ⟨_, _, _, _, _, _⟩) (v := ?_) rfl (by kernel_rfl) (by kernel_rfl) (by kernel_rfl) (fun _ _ _ h => h) (Or.inl ⟨by rfl, ?_⟩) (by assumption) ?_; rotate_left; (focus (intro w hSw; (try dsimp only at hSw); go_simp; try with_reducible rfl)); (try simp only [Act.put, List.setIfInBounds_toArray, List.set_cons_zero, List.set_cons_succ])
    refine wpAnyH_take (i := 2) (oi := ⟨_, _, _, _, _, _⟩) (v := ?_) rfl (by kernel_rfl) (by kernel_rfl) (by kernel_rfl) (fun _ _ _ h => h) (Or.inl ⟨by rfl, ?_⟩) (by assumption) ?_; rotate_left; (focus (intro w hSw; (try dsimp only at hSw); go_simp; try with_reducible rfl)); (try simp only [Act.put, List.setIfInBounds_toArray, List.set_cons_zero, List.set_cons_succ])
    refine wpAnyH_take (i := 3) (oi := ⟨_, _, _, _, _, _⟩) (v := ?_) rfl (by kernel_rfl) (by kernel_rfl) (by kernel_rfl) (fun _ _ _ h => h) (Or.inl ⟨by rfl, ?_⟩) (by assumption) ?_; rotate_left; (focus (intro w hSw; (try dsimp only at hSw); go_simp; try with_reducible rfl)); (try simp only [Act.put, List.setIfInBounds_toArray, List.set_cons_zero, List.set_cons_succ])
    refine wpAnyH_take (i := 7) (oi := ⟨_, _, _, _, _, _⟩) (v := ?_) rfl (by kernel_rfl) (by kernel_rfl) (by kernel_rfl) (fun _ _ _ h => h) (Or.inl ⟨by rfl, ?_⟩) (by assumption) ?_; rotate_left; (focus (intro w hSw; (try dsimp only at hSw); go_simp; try with_reducible rfl)); (try simp only [Act.put, List.setIfInBounds_toArray, List.set_cons_zero, List.set_cons_succ])
    refine wpAnyH_take (i := 8) (oi := ⟨_, _, _, _, _, _⟩) (v := ?_) rfl (by kernel_rfl) (by kernel_rfl) (by kernel_rfl) (fun _ _ _ h => h) (Or.inl ⟨by rfl, ?_⟩) (by assumption) ?_; rotate_left; (focus (intro w hSw; (try dsimp only at hSw); go_simp; try with_reducible rfl)); (try simp only [Act.put, List.setIfInBounds_toArray, List.set_cons_zero, List.set_cons_succ])
    refine wpAnyH_take (i := 9) (oi := ⟨_, _, _, _, _, _⟩) (v := ?_) rfl (by kernel_rfl) (by kernel_rfl) (by kernel_rfl) (fun _ _ _ h => h) (Or.inl ⟨by rfl, ?_⟩) (by assumption) ?_; rotate_left; (focus (intro w hSw; (try dsimp only at hSw); go_simp; try with_reducible rfl)); (try simp only [Act.put, List.setIfInBounds_toArray, List.set_cons_zero, List.set_cons_succ])
    refine wpAnyH_ready (rs := [4]) (by kernel_rfl) (by simp) ?_
    refine AllReadyH.cons (o := ⟨_, _, _, _, _, _⟩) rfl (fun K hK => ?_) AllReadyH.nil
    go_simp
    refine hK.out _ _ (by exact trivial) (fun hHeld' => ?_)
    clear hHeld hK K
    have hHeld := hHeld'
    clear hHeld'
    try simp only [Act.put, List.setIfInBounds_toArray, List.set_cons_zero, List.set_cons_succ]
    refine wpAnyH_ready (rs := [5]) (by kernel_rfl) (by simp) ?_
    refine AllReadyH.cons (o := ⟨_, _, _, _, _, _⟩) rfl (fun K hK => ?_) AllReadyH.nil
    go_simp
    go_at_call 127; refine (text_c b _ _ spoilT _ (HDA.out.1.below (Below.refl _ _).drew) (by omega) (HSt.out.below (Below.refl _ _).drew) (by decide) (by decide) (fun b' o m c e => by injection e with e1; injection e1 with e1; injection e1 with e1; omega)).mono ?_; rintro e w5 ⟨r4, hr4, rfl, hd⟩; have hS' : True := trivial; have HD5 := Lib.hid ((HDA.out.then_below (Below.refl _ _).drew).trans hd); have hns : (nth spoilT r4).size ≤ 1 := (by decide : ∀ x ∈ spoilT, x.size ≤ 1) _ (mem_nth hr4); clear hd hr4; generalize nth spoilT r4 = nm at *; have hq1 : ¬ 9223372036854775807 < r + nm.size := (by omega); have hq2 : ¬ 9223372036854775807 < r + nm.size + (t.size - r) := (by omega)
    refine hK.out _ _ (by exact hS') (fun hHeld' => ?_)
    clear hHeld hK K
    have hHeld := hHeld'
    clear hHeld'
    try simp only [Act.put, List.setIfInBounds_toArray, List.set_cons_zero, List.set_cons_succ]
    refine wpAnyH_take (i := 6) (oi := ⟨_, _, _, _, _, _⟩) (v := ?_) rfl (by kernel_rfl) (by kernel_rfl) (by kernel_rfl) (fun _ _ _ h => h) (Or.inl ⟨by rfl, ?_⟩) (by assumption) ?_; rotate_left; (focus (intro w hSw; (try dsimp only at hSw); go_simp; try with_reducible rfl)); (try simp only [Act.put, List.setIfInBounds_toArray, List.set_cons_zero, List.set_cons_succ])
    refine wpAnyH_take (i := 10) (oi := ⟨_, _, _, _, _, _⟩) (v := ?_) rfl (by kernel_rfl) (by kernel_rfl) (by kernel_rfl) (fun _ _ _ h => h) (Or.inl ⟨by rfl, ?_⟩) (by assumption) ?_; rotate_left; (focus (intro w hSw; (try dsimp only at hSw); go_simp; try with_reducible rfl)); (try simp only [Act.put, List.setIfInBounds_toArray, List.set_cons_zero, List.set_cons_succ])
    refine wpAnyH_take (i := 11) (oi := ⟨_, _, _, _, _, _⟩) (v := ?_) rfl (by kernel_rfl) (by kernel_rfl) (by kernel_rfl) (fun _ _ _ h => h) (Or.inl ⟨by rfl, ?_⟩) (by assumption) ?_; rotate_left; (focus (intro w hSw; (try dsimp only at hSw); go_simp; try with_reducible rfl)); (try simp only [Act.put, List.setIfInBounds_toArray, List.set_cons_zero, List.set_cons_succ])
    refine wpAnyH_done (by kernel_rfl) ?_ _
    go_wp2
    go_ret
    exact ⟨_, rfl, by rw [ByteArray.size_append, ByteArray.size_append]; omega, HD5.out.mono (by omega)⟩
  have hz0 : ((v : Int) == 0) = false := beq_eq_false_iff_ne.2 (by omega)
  by_cases h1 : v = 1
  · subst h1
    by_cases hte : t.size = 0
    · have htb : t.toList.isEmpty = true := by rw [isEmpty_size]; exact decide_eq_true hte
      go_wp2
      go_ret
      exact ⟨t, rfl, by omega, HD.out.mono (by omega)⟩
    · have htb : t.toList.isEmpty = false := by rw [isEmpty_size]; exact decide_eq_false hte
      go_wp2_with fail
      refine (pick_c b _ (t.size : Int) _ HD.out.1 (by omega) (by omega)).mono ?_
      rintro e w2 ⟨r, rfl, hr, hd⟩
      have hrt : r < t.size := by omega
      replace HD := Lib.hid (HD.out.trans hd)
      clear hd hr
      have hz1 : (t.extract 0 r).size = r := by rw [ByteArray.size_extract]; omega
      have hz2 : (t.extract (r + 1) t.size).size = t.size - (r + 1) := by rw [ByteArray.size_extract]; omega
      have hq1 : ¬ 9223372036854775807 < r + (t.size - (r + 1)) := by omega
      have hr1 : r + 1 ≤ t.size := hrt
      go_wp2
      go_quiet (fail)
      go_wp2
      go_ret
      exact ⟨_, rfl, by rw [ByteArray.size_append]; omega, (HD.out.then_below (below_drewN (Below.refl _ _) _)).mono (by omega)⟩
  have hz1 : ((v : Int) == 1) = false := beq_eq_false_iff_ne.2 (by omega)
  clear h0 h1
  go_wp2
  go_ret
  exact ⟨t, rfl, by omega, HD.out.mono (by omega)⟩
end Go.Proofs.YtclffohjpbmnbaaGreatDoor
