import Derived.Test.YtcgbdhbdlnimhaaGreatMg22
import Derived.Test.YtcgbdhbdlnimhaaGreatMg4
import Derived.Test.YtcgbdhbdlnimhaaGreatMg47
import Derived.Deep.RegionHeld3
import Derived.Test.YtcgbdhbdlnimhaaGreatMg20
/- Spoil: texts that are drawn with a change. -/
namespace Go.Proofs.YtcgbdhbdlnimhaaGreat
open Go.ChangeShapes Go.WideShapes Go.ChangeAt Go.RowKit

def spoilT : List ByteArray := [{ data := #[32] }, { data := #[48] }, { data := #[45] }, { data := #[120] }, { data := #[49] }, { data := #[57] }, { data := #[46] }]
/-- A text of at most m bytes, drawn. -/
def DrawsS (m b n : Nat) (w : World) (e : Ending) (w' : World) : Prop := ∃ r : ByteArray, e = .returned (.string r) ∧ r.size ≤ m ∧ Drew b n w w'
set_option maxRecDepth 100000 in
set_option maxHeartbeats 2000000 in
theorem l01Spoil_c (b n : Nat) (t : ByteArray) (w : World) (h : SrcAt w b n) (hn : n ≤ 10000000) (ht : t.size ≤ 100000) : Calls Tryz.prog 75 #[.pointer (some ⟨b, 0, none⟩), .string t] w (DrawsS (t.size + 1) b (n + 10) w) := by
  have HS := Lib.hid h
  have hbl := h.lt
  clear h
  go_enter Tryz.func75, Tryz.ntmps75
  go_wp2_with fail
  refine (pick_c b n 5 w HS.out (by omega) (by omega)).mono ?_
  rintro e w1 ⟨v, rfl, -, hd⟩
  have HD := Lib.hid hd
  clear hd HS
  by_cases h0 : v = 0
  · subst h0
    go_wp2_with fail
    refine (pick_c b _ ((t.size : Int) + 1) _ HD.out.1 (by omega) (by omega)).mono ?_
    rintro e w2 ⟨r, rfl, hr, hd⟩
    have hrt : r ≤ t.size := by omega
    replace HD := Lib.hid (HD.out.trans hd)
    clear hd hr
    have hsw := HD.out.2.size
    have HSt : Hid (StrsAt (w2.alloc (.cells (spoilT.map Value.string).toArray 9)) (.slice (some ⟨w2.heap.size, 0, none⟩) 7 7) spoilT) := Lib.hid (strs_lit (w := w2) spoilT 7 rfl _ rfl (by decide))
    have HDA := Lib.hid (HD.out.then_below (show Below w2.heap.size w2 (w2.alloc (.cells (spoilT.map Value.string).toArray 9)) by go_grown))
    have hz1 : (t.extract 0 r).size = r := by rw [ByteArray.size_extract]; omega
    have hz2 : (t.extract r t.size).size = t.size - r := by rw [ByteArray.size_extract]; omega
    generalize ht1 : t.extract 0 r = t1 at *
    generalize ht2 : t.extract r t.size = t2 at *
    have hri : (r : Int) ≤ (t.size : Int) := by omega
    go_wp2
    refine wp_region_held_drew (S := fun w' => True) (by kernel_rfl) (by exact trivial) (fun hHeld => ?_)
    refine wpAnyH_take (i := 0) (oi := ⟨_, _, _, _, _, _⟩) (v := ?_) rfl (by kernel_rfl) (by kernel_rfl) (by kernel_rfl) (fun _ _ _ h => h) (Or.inl ⟨by rfl, ?_⟩) (by assumption) ?_; rotate_left; (focus (intro w hSw; (try dsimp only at hSw); go_simp; try with_reducible rfl)); (try simp only [Act.put, List.setIfInBounds_toArray, List.set_cons_zero, List.set_cons_succ])
    refine wpAnyH_take (i := 1) (oi := ⟨_, _, _, _, _, _⟩) (v := ?_) rfl (by kernel_rfl) (by kernel_rfl) (by kernel_rfl) (fun _ _ _ h => h) (Or.inl ⟨by rfl, ?_⟩) (by assumption) ?_; rotate_left; (focus (intro w hSw; (try dsimp only at hSw); go_simp; try with_reducible rfl)); (try simp only [Act.put, List.setIfInBounds_toArray, List.set_cons_zero, List.set_cons_succ])
    refine wpAnyH_take (i := 2) (oi := ⟨_, _, _, _, _, _⟩) (v := ?_) rfl (by kernel_rfl) (by kernel_rfl) (by kernel_rfl) (fun _ _ _ h => h) (Or.inl ⟨by rfl, ?_⟩) (by assumption) ?_; rotate_left; (focus (intro w hSw; (try dsimp only at hSw); go_simp; try with_reducible rfl)); (try simp only [Act.put, List.setIfInBounds_toArray, List.set_cons_zero, List.set_cons_succ])
    refine wpAnyH_take (i := 3) (oi := ⟨_, _, _, _, _, _⟩) (v := ?_) rfl (by kernel_rfl) (by kernel_rfl) (by kernel_rfl) (fun _ _ _ h => h) (Or.inl ⟨by rfl, ?_⟩) (by assumption) ?_; rotate_left; (focus (intro w hSw; (try dsimp only at hSw); go_simp; try with_reducible rfl)); (try simp only [Act.put, List.setIfInBounds_toArray, List.set_cons_zero, List.set_cons_succ])
    refine wpAnyH_take (i := 7) (oi := ⟨_, _, _, _, _, _⟩) (v := ?_) rfl (by kernel_rfl) (by kernel_rfl) (by kernel_rfl) (fun _ _ _ h => h) (Or.inl ⟨by rfl, ?_⟩) (by assumption) ?_; rotate_left; (focus (intro w hSw; (try dsimp only at hSw); go_simp; try with_reducible rfl)); (try simp only [Act.put, List.setIfInBounds_toArray, List.set_cons_zero, List.set_cons_succ])
    refine wpAnyH_take (i := 8) (oi := ⟨_, _, _, _, _, _⟩) (v := ?_) rfl (by kernel_rfl) (by kernel_rfl) (by kernel_rfl) (fun _ _ _ h => h) (Or.inl ⟨by rfl, ?_⟩) (by assumption) ?_; rotate_left; (focus (intro w hSw; (try dsimp only at hSw); go_simp; try with_reducible rfl)); (try simp only [Act.put, List.setIfInBounds_toArray, List.set_cons_zero, List.set_cons_succ])
    refine wpAnyH_take (i := 9) (oi := ⟨_, _, _, _, _, _⟩) (v := ?_) rfl (by kernel_rfl) (by kernel_rfl) (by kernel_rfl) (fun _ _ _ h => h) (Or.inl ⟨by rfl, ?_⟩) (by assumption) ?_; rotate_left; (focus (intro w hSw; (try dsimp only at hSw); go_simp; try with_reducible rfl)); (try simp only [Act.put, List.setIfInBounds_toArray, List.set_cons_zero, List.set_cons_succ])
    refine wpAnyH_ready (rs := [4]) (by kernel_rfl) (by simp) ?_
    refine AllReadyH.cons (o := ⟨_, _, _, _, _, _⟩) rfl (fun K hK => ?_) AllReadyH.nil
    go_simp
    refine hK.out _ _ (by exact trivial) (fun hHeld' => ?_)
    clear hHeld hK K
    have hHeld := hHeld'
    clear hHeld'
    try simp only [Act.put, List.setIfInBounds_toArray, List.set_cons_zero, List.set_cons_succ]
    refine wpAnyH_ready (rs := [5]) (by kernel_rfl) (by simp) ?_
    refine AllReadyH.cons (o := ⟨_, _, _, _, _, _⟩) rfl (fun K hK => ?_) AllReadyH.nil
    go_simp
    go_at_call 83; refine (text_c b _ _ spoilT _ (HDA.out.1.below (Below.refl _ _).drew) (by omega) (HSt.out.below (Below.refl _ _).drew) (by decide) (by decide) (fun b' o m c e => by injection e with e1; injection e1 with e1; injection e1 with e1; omega)).mono ?_; rintro e w5 ⟨r4, hr4, rfl, hd⟩; have hS' : True := trivial; have HD5 := Lib.hid ((HDA.out.then_below (Below.refl _ _).drew).trans hd); have hns : (nth spoilT r4).size ≤ 1 := (by decide : ∀ x ∈ spoilT, x.size ≤ 1) _ (mem_nth hr4); clear hd hr4; generalize nth spoilT r4 = nm at *; have hq1 : ¬ 9223372036854775807 < r + nm.size := (by omega); have hq2 : ¬ 9223372036854775807 < r + nm.size + (t.size - r) := (by omega)
    refine hK.out _ _ (by exact hS') (fun hHeld' => ?_)
    clear hHeld hK K
    have hHeld := hHeld'
    clear hHeld'
    try simp only [Act.put, List.setIfInBounds_toArray, List.set_cons_zero, List.set_cons_succ]
    refine wpAnyH_take (i := 6) (oi := ⟨_, _, _, _, _, _⟩) (v := ?_) rfl (by kernel_rfl) (by kernel_rfl) (by kernel_rfl) (fun _ _ _ h => h) (Or.inl ⟨by rfl, ?_⟩) (by assumption) ?_; rotate_left; (focus (intro w hSw; (try dsimp only at hSw); go_simp; try with_reducible rfl)); (try simp only [Act.put, List.setIfInBounds_toArray, List.set_cons_zero, List.set_cons_succ])
    refine wpAnyH_take (i := 10) (oi := ⟨_, _, _, _, _, _⟩) (v := ?_) rfl (by kernel_rfl) (by kernel_rfl) (by kernel_rfl) (fun _ _ _ h => h) (Or.inl ⟨by rfl, ?_⟩) (by assumption) ?_; rotate_left; (focus (intro w hSw; (try dsimp only at hSw); go_simp; try with_reducible rfl)); (try simp only [Act.put, List.setIfInBounds_toArray, List.set_cons_zero, List.set_cons_succ])
    refine wpAnyH_take (i := 11) (oi := ⟨_, _, _, _, _, _⟩) (v := ?_) rfl (by kernel_rfl) (by kernel_rfl) (by kernel_rfl) (fun _ _ _ h => h) (Or.inl ⟨by rfl, ?_⟩) (by assumption) ?_; rotate_left; (focus (intro w hSw; (try dsimp only at hSw); go_simp; try with_reducible rfl)); (try simp only [Act.put, List.setIfInBounds_toArray, List.set_cons_zero, List.set_cons_succ])
    refine wpAnyH_done (by kernel_rfl) ?_ _
    go_wp2
    go_ret
    exact ⟨_, rfl, by rw [ByteArray.size_append, ByteArray.size_append]; omega, HD5.out.mono (by omega)⟩
  have hz0 : ((v : Int) == 0) = false := beq_eq_false_iff_ne.2 (by omega)
  by_cases h1 : v = 1
  · subst h1
    by_cases hte : t.size = 0
    · have htb : t.toList.isEmpty = true := by rw [isEmpty_size]; exact decide_eq_true hte
      go_wp2
      go_ret
      exact ⟨t, rfl, by omega, HD.out.mono (by omega)⟩
    · have htb : t.toList.isEmpty = false := by rw [isEmpty_size]; exact decide_eq_false hte
      go_wp2_with fail
      refine (pick_c b _ (t.size : Int) _ HD.out.1 (by omega) (by omega)).mono ?_
      rintro e w2 ⟨r, rfl, hr, hd⟩
      have hrt : r < t.size := by omega
      replace HD := Lib.hid (HD.out.trans hd)
      clear hd hr
      have hz1 : (t.extract 0 r).size = r := by rw [ByteArray.size_extract]; omega
      have hz2 : (t.extract (r + 1) t.size).size = t.size - (r + 1) := by rw [ByteArray.size_extract]; omega
      have hq1 : ¬ 9223372036854775807 < r + (t.size - (r + 1)) := by omega
      have hr1 : r + 1 ≤ t.size := hrt
      go_wp2
      go_quiet (fail)
      go_wp2
      go_ret
      exact ⟨_, rfl, by rw [ByteArray.size_append]; omega, (HD.out.then_below (below_drewN (Below.refl _ _) _)).mono (by omega)⟩
  have hz1 : ((v : Int) == 1) = false := beq_eq_false_iff_ne.2 (by omega)
  clear h0 h1
  go_wp2
  go_ret
  exact ⟨t, rfl, by omega, HD.out.mono (by omega)⟩
end Go.Proofs.YtcgbdhbdlnimhaaGreat

/- Dice: the group laws' own dice. -/
namespace Go.Proofs.YtcgbdhbdlnimhaaGreat
open Go.ChangeShapes Go.WideShapes Go.ChangeAt Go.RowKit

theorem andMask (x : Int) (h0 : 0 ≤ x) (h1 : x ≤ 18446744073709551615) : ∃ r : Nat, bits BinOp.and IntKind.u64 x 16777215 = (r : Int) ∧ r ≤ 16777215 := by
  obtain ⟨u, rfl⟩ : ∃ u : Nat, x = (u : Int) := ⟨x.toNat, by omega⟩
  exact ⟨u &&& 16777215, bits_and_u64_nat u 16777215 (by omega) (by omega), Nat.and_le_right⟩
theorem wrap64_of_in {n : Int} (h : -9223372036854775808 ≤ n ∧ n ≤ 9223372036854775807) : wrap64 n = n := by unfold wrap64; omega
/-- Dice in block b. -/
def DiceAt (w : World) (b : Nat) (cs : List Int) : Prop := ∃ (a : Option Addr) (m c k : Nat) (sd : Int), k ≤ m ∧ m = cs.length ∧ m ≤ 4096 ∧ BoxIs w b [.slice a m c, .int .i64 k, .int .u64 sd] ∧ BytesC w a cs ∧ (∀ x ∈ cs, 0 ≤ x ∧ x ≤ 255) ∧ (0 < cs.length → ∀ b' o, a = some ⟨b', o, none⟩ → b' < b) ∧ 0 ≤ sd ∧ sd ≤ 18446744073709551615
set_option maxRecDepth 100000 in
set_option maxHeartbeats 2000000 in
theorem f6roll_c (v : Value) (cs : List Int) (seed : Int) (w : World) (hv : BytesAt w v cs) (hin : ∀ x ∈ cs, 0 ≤ x ∧ x ≤ 255) (hl : cs.length ≤ 4096) : Calls Tryz.prog 19 #[v, .int .u64 seed] w fun e w' => e = .returned (.pointer (some ⟨w.heap.size, 0, none⟩)) ∧ DiceAt w' w.heap.size cs ∧ Below w.heap.size w w' := by
  obtain ⟨a, m, c, rfl, hm, hmc, hc0, hc⟩ := hv
  have HC := Lib.hid hc
  have Hm := Lib.hid hm
  have Hin := Lib.hid hin
  have hm4 : m ≤ 4096 := by omega
  have Hne : Hid (0 < cs.length → ∀ b' o, a = some ⟨b', o, none⟩ → b' < w.heap.size) := Lib.hid (by
    rintro h0 b' o rfl
    obtain ⟨b2, o2, he, hbs, _⟩ := hc 0 h0
    cases he
    exact hbs)
  clear hc hm hin hl hmc hc0
  go_enter Tryz.func19, Tryz.ntmps19
  go_wp2
  go_loopw [6] (fun i wr => ∃ (k : Nat) (sd : Int), i = .int .i64 k ∧ k ≤ m ∧ Hid (BoxIs wr w.heap.size [.slice a m c, .int .i64 0, .int .u64 sd]) ∧ Hid (0 ≤ sd ∧ sd ≤ 18446744073709551615) ∧ Below w.heap.size w wr) (fun i _ => m - (intOf i).toNat)
  case atStart => exact ⟨0, _, rfl, Nat.zero_le _, Lib.hid (BoxIs.new w _ _), Lib.hid (u64_in _), by go_grown⟩
  case round =>
    obtain ⟨k, sd, rfl, hk, HB, Hsd, hb⟩ := hrel
    by_cases hlt : k < m
    · obtain ⟨b', o, rfl, hbs, c0⟩ := HC.out k (by rw [← Hm.out]; exact hlt)
      have hb0 : b' < w.heap.size := Hne.out (by rw [← Hm.out]; omega) b' o rfl
      have hx := Hin.out _ (mem_nth (show k < cs.length by rw [← Hm.out]; exact hlt))
      generalize nth cs k = x at *
      have HC1 := Lib.hid (cell_then hbs c0 hb)
      have hbs1 : b' < wr.heap.size := Nat.lt_of_lt_of_le hbs hb.size
      have hne : b' ≠ w.heap.size := by omega
      clear c0
      go_wp2
      refine wp_region_dep (S := fun L w' => Till 15 (fun w' => BoxIs w' w.heap.size [.slice (some ⟨b', o, none⟩) m c, .int .i64 0, .int .u64 sd] ∧ w'.cell? ⟨b', o + k, none⟩ = some (.int .u8 x)) L w') (by kernel_rfl) (by exact (fun _ => ⟨HB.out.below (Below.refl _ _).drew, HC1.out⟩)) (fun hHeld => ?_)
      refine wpAnyD_take (i := 0) (oi := ⟨_, _, _, _, _, _⟩) (v := ?_) rfl (by kernel_rfl) (by kernel_rfl) (by kernel_rfl) (fun _ _ _ h => h) (by intro L w'; (try dsimp only); repeat (first | exact Iff.rfl | exact Till.ins (by decide) _ _ _ | refine and_congr ?_ ?_)) [] (by kernel_rfl) (by kernel_rfl) (Or.inl ⟨by rfl, ?_⟩) (by assumption) (fun hHeld' => ?_); rotate_left; (focus (intro w _; go_simp; try with_reducible rfl)); clear hHeld; have hHeld := hHeld'; clear hHeld'; (try simp only [Act.put, List.setIfInBounds_toArray, List.set_cons_zero, List.set_cons_succ])
      refine wpAnyD_take (i := 1) (oi := ⟨_, _, _, _, _, _⟩) (v := ?_) rfl (by kernel_rfl) (by kernel_rfl) (by kernel_rfl) (fun _ _ _ h => h) (by intro L w'; (try dsimp only); repeat (first | exact Iff.rfl | exact Till.ins (by decide) _ _ _ | refine and_congr ?_ ?_)) [] (by kernel_rfl) (by kernel_rfl) (Or.inl ⟨by rfl, ?_⟩) (by assumption) (fun hHeld' => ?_); rotate_left; (focus (intro w _; go_simp; try with_reducible rfl)); clear hHeld; have hHeld := hHeld'; clear hHeld'; (try simp only [Act.put, List.setIfInBounds_toArray, List.set_cons_zero, List.set_cons_succ])
      refine wpAnyD_take (i := 2) (oi := ⟨_, _, _, _, _, _⟩) (v := ?_) rfl (by kernel_rfl) (by kernel_rfl) (by kernel_rfl) (fun _ _ _ h => h) (by intro L w'; (try dsimp only); repeat (first | exact Iff.rfl | exact Till.ins (by decide) _ _ _ | refine and_congr ?_ ?_)) [] (by kernel_rfl) (by kernel_rfl) (Or.inl ⟨by rfl, ?_⟩) (by assumption) (fun hHeld' => ?_); rotate_left; (focus (intro w _; go_simp; try with_reducible rfl)); clear hHeld; have hHeld := hHeld'; clear hHeld'; (try simp only [Act.put, List.setIfInBounds_toArray, List.set_cons_zero, List.set_cons_succ])
      refine wpAnyD_take (i := 3) (oi := ⟨_, _, _, _, _, _⟩) (v := ?_) rfl (by kernel_rfl) (by kernel_rfl) (by kernel_rfl) (fun _ _ _ h => h) (by intro L w'; (try dsimp only); repeat (first | exact Iff.rfl | exact Till.ins (by decide) _ _ _ | refine and_congr ?_ ?_)) [] (by kernel_rfl) (by kernel_rfl) (Or.inl ⟨by rfl, ?_⟩) (by assumption) (fun hHeld' => ?_); rotate_left; (focus (intro w _; go_simp; try with_reducible rfl)); clear hHeld; have hHeld := hHeld'; clear hHeld'; (try simp only [Act.put, List.setIfInBounds_toArray, List.set_cons_zero, List.set_cons_succ])
      refine wpAnyD_take (i := 4) (oi := ⟨_, _, _, _, _, _⟩) (v := ?_) rfl (by kernel_rfl) (by kernel_rfl) (by kernel_rfl) (fun _ _ _ h => h) (by intro L w'; (try dsimp only); repeat (first | exact Iff.rfl | exact Till.ins (by decide) _ _ _ | refine and_congr ?_ ?_)) [5, 13, 14, 15] (by kernel_rfl) (by kernel_rfl) (Or.inl ⟨by rfl, ?_⟩) (by assumption) (fun hHeld' => ?_); rotate_left; (focus (intro w hSw0; obtain ⟨L, ho, hSw⟩ := hSw0; (try dsimp only at hSw); have HH := Till.of hSw ho rfl; have t6 := HH.1.2.1; have t7 := HH.2; clear HH; clear ho hSw; go_simp; try with_reducible rfl)); clear hHeld; have hHeld := hHeld'; clear hHeld'; (try simp only [Act.put, List.setIfInBounds_toArray, List.set_cons_zero, List.set_cons_succ])
      refine wpAnyD_take (i := 5) (oi := ⟨_, _, _, _, _, _⟩) (v := ?_) rfl (by kernel_rfl) (by kernel_rfl) (by kernel_rfl) (fun _ _ _ h => h) (by intro L w'; (try dsimp only); repeat (first | exact Iff.rfl | exact Till.ins (by decide) _ _ _ | refine and_congr ?_ ?_)) [] (by kernel_rfl) (by kernel_rfl) (Or.inl ⟨by rfl, ?_⟩) (by assumption) (fun hHeld' => ?_); rotate_left; (focus (intro w _; go_simp; try with_reducible rfl)); clear hHeld; have hHeld := hHeld'; clear hHeld'; (try simp only [Act.put, List.setIfInBounds_toArray, List.set_cons_zero, List.set_cons_succ])
      refine wpAnyD_take (i := 6) (oi := ⟨_, _, _, _, _, _⟩) (v := ?_) rfl (by kernel_rfl) (by kernel_rfl) (by kernel_rfl) (fun _ _ _ h => h) (by intro L w'; (try dsimp only); repeat (first | exact Iff.rfl | exact Till.ins (by decide) _ _ _ | refine and_congr ?_ ?_)) [] (by kernel_rfl) (by kernel_rfl) (Or.inl ⟨by rfl, ?_⟩) (by assumption) (fun hHeld' => ?_); rotate_left; (focus (intro w _; go_simp; try with_reducible rfl)); clear hHeld; have hHeld := hHeld'; clear hHeld'; (try simp only [Act.put, List.setIfInBounds_toArray, List.set_cons_zero, List.set_cons_succ])
      refine wpAnyD_take (i := 7) (oi := ⟨_, _, _, _, _, _⟩) (v := ?_) rfl (by kernel_rfl) (by kernel_rfl) (by kernel_rfl) (fun _ _ _ h => h) (by intro L w'; (try dsimp only); repeat (first | exact Iff.rfl | exact Till.ins (by decide) _ _ _ | refine and_congr ?_ ?_)) [] (by kernel_rfl) (by kernel_rfl) (Or.inl ⟨by rfl, ?_⟩) (by assumption) (fun hHeld' => ?_); rotate_left; (focus (intro w _; go_simp; try with_reducible rfl)); clear hHeld; have hHeld := hHeld'; clear hHeld'; (try simp only [Act.put, List.setIfInBounds_toArray, List.set_cons_zero, List.set_cons_succ])
      refine wpAnyD_take (i := 8) (oi := ⟨_, _, _, _, _, _⟩) (v := ?_) rfl (by kernel_rfl) (by kernel_rfl) (by kernel_rfl) (fun _ _ _ h => h) (by intro L w'; (try dsimp only); repeat (first | exact Iff.rfl | exact Till.ins (by decide) _ _ _ | refine and_congr ?_ ?_)) [] (by kernel_rfl) (by kernel_rfl) (Or.inl ⟨by rfl, ?_⟩) (by assumption) (fun hHeld' => ?_); rotate_left; (focus (intro w _; go_simp; try with_reducible rfl)); clear hHeld; have hHeld := hHeld'; clear hHeld'; (try simp only [Act.put, List.setIfInBounds_toArray, List.set_cons_zero, List.set_cons_succ])
      refine wpAnyD_take (i := 9) (oi := ⟨_, _, _, _, _, _⟩) (v := ?_) rfl (by kernel_rfl) (by kernel_rfl) (by kernel_rfl) (fun _ _ _ h => h) (by intro L w'; (try dsimp only); repeat (first | exact Iff.rfl | exact Till.ins (by decide) _ _ _ | refine and_congr ?_ ?_)) [10, 13, 14, 15] (by kernel_rfl) (by kernel_rfl) (Or.inl ⟨by rfl, ?_⟩) (by assumption) (fun hHeld' => ?_); rotate_left; (focus (intro w hSw0; obtain ⟨L, ho, hSw⟩ := hSw0; (try dsimp only at hSw); have HH := Till.of hSw ho rfl; have t6 := HH.1.2.1; have t7 := HH.2; clear HH; clear ho hSw; go_simp; try with_reducible rfl)); clear hHeld; have hHeld := hHeld'; clear hHeld'; (try simp only [Act.put, List.setIfInBounds_toArray, List.set_cons_zero, List.set_cons_succ])
      refine wpAnyD_take (i := 10) (oi := ⟨_, _, _, _, _, _⟩) (v := ?_) rfl (by kernel_rfl) (by kernel_rfl) (by kernel_rfl) (fun _ _ _ h => h) (by intro L w'; (try dsimp only); repeat (first | exact Iff.rfl | exact Till.ins (by decide) _ _ _ | refine and_congr ?_ ?_)) [] (by kernel_rfl) (by kernel_rfl) (Or.inl ⟨by rfl, ?_⟩) (by assumption) (fun hHeld' => ?_); rotate_left; (focus (intro w _; go_simp; try with_reducible rfl)); clear hHeld; have hHeld := hHeld'; clear hHeld'; (try simp only [Act.put, List.setIfInBounds_toArray, List.set_cons_zero, List.set_cons_succ])
      refine wpAnyD_take (i := 11) (oi := ⟨_, _, _, _, _, _⟩) (v := ?_) rfl (by kernel_rfl) (by kernel_rfl) (by kernel_rfl) (fun _ _ _ h => h) (by intro L w'; (try dsimp only); repeat (first | exact Iff.rfl | exact Till.ins (by decide) _ _ _ | refine and_congr ?_ ?_)) [] (by kernel_rfl) (by kernel_rfl) (Or.inl ⟨by rfl, ?_⟩) (by assumption) (fun hHeld' => ?_); rotate_left; (focus (intro w _; go_simp; try with_reducible rfl)); clear hHeld; have hHeld := hHeld'; clear hHeld'; (try simp only [Act.put, List.setIfInBounds_toArray, List.set_cons_zero, List.set_cons_succ])
      refine wpAnyD_take (i := 12) (oi := ⟨_, _, _, _, _, _⟩) (v := ?_) rfl (by kernel_rfl) (by kernel_rfl) (by kernel_rfl) (fun _ _ _ h => h) (by intro L w'; (try dsimp only); repeat (first | exact Iff.rfl | exact Till.ins (by decide) _ _ _ | refine and_congr ?_ ?_)) [] (by kernel_rfl) (by kernel_rfl) (Or.inl ⟨by rfl, ?_⟩) (by assumption) (fun hHeld' => ?_); rotate_left; (focus (intro w _; go_simp; try with_reducible rfl)); clear hHeld; have hHeld := hHeld'; clear hHeld'; (try simp only [Act.put, List.setIfInBounds_toArray, List.set_cons_zero, List.set_cons_succ])
      refine wpAnyD_take (i := 13) (oi := ⟨_, _, _, _, _, _⟩) (v := ?_) rfl (by kernel_rfl) (by kernel_rfl) (by kernel_rfl) (fun _ _ _ h => h) (by intro L w'; (try dsimp only); repeat (first | exact Iff.rfl | exact Till.ins (by decide) _ _ _ | refine and_congr ?_ ?_)) [] (by kernel_rfl) (by kernel_rfl) (Or.inl ⟨by rfl, ?_⟩) (by assumption) (fun hHeld' => ?_); rotate_left; (focus (intro w _; go_simp; try with_reducible rfl)); clear hHeld; have hHeld := hHeld'; clear hHeld'; (try simp only [Act.put, List.setIfInBounds_toArray, List.set_cons_zero, List.set_cons_succ])
      refine wpAnyD_take (i := 14) (oi := ⟨_, _, _, _, _, _⟩) (v := ?_) rfl (by kernel_rfl) (by kernel_rfl) (by kernel_rfl) (fun _ _ _ h => h) (by intro L w'; (try dsimp only); repeat (first | exact Iff.rfl | exact Till.ins (by decide) _ _ _ | refine and_congr ?_ ?_)) [] (by kernel_rfl) (by kernel_rfl) (Or.inl ⟨by rfl, ?_⟩) (by assumption) (fun hHeld' => ?_); rotate_left; (focus (intro w _; go_simp; try with_reducible rfl)); clear hHeld; have hHeld := hHeld'; clear hHeld'; (try simp only [Act.put, List.setIfInBounds_toArray, List.set_cons_zero, List.set_cons_succ])
      refine wpAnyD_ready (rs := [15]) (by kernel_rfl) (by simp) ?_
      refine AllReadyD.cons (o := ⟨_, _, _, _, _, _⟩) rfl (fun K hK => ?_) AllReadyD.nil
      have g1 := (hHeld rfl).1.2.1; have g2 := (hHeld rfl).1.2.2
      go_simp
      refine hK.out _ _ (by exact (fun h => absurd h (by decide))) (fun hHeld' => ?_)
      clear hHeld hK K
      have hHeld := hHeld'
      clear hHeld'
      try simp only [Act.put, List.setIfInBounds_toArray, List.set_cons_zero, List.set_cons_succ]
      refine wpAnyD_done (by kernel_rfl) ?_ _
      go_wp2
      exact ⟨⟨k + 1, _, by go_num, hlt, Lib.hid ((HB.out.set 2 (by simp) _).below (Below.refl _ _).drew), Lib.hid (u64_in _), (hb.setCell (Nat.le_refl _) _).drew⟩, by simp [intOf]; omega⟩
    · obtain rfl : k = m := by omega
      go_wp2
      go_ret
      exact ⟨rfl, ⟨_, k, c, 0, sd, Nat.zero_le _, Hm.out, hm4, HB.out, HC.out.below hb, Hin.out, Hne.out, Hsd.out⟩, hb⟩
set_option maxRecDepth 100000 in
set_option maxHeartbeats 2000000 in
theorem below_c (b : Nat) (cs : List Int) (n : Int) (w : World) (h : DiceAt w b cs) (hn : 1 ≤ n) (hn2 : n ≤ 1000) : Calls Tryz.prog 20 #[.pointer (some ⟨b, 0, none⟩), .int .i64 n] w fun e w' => ∃ r : Nat, e = .returned (.int .i64 r) ∧ (r : Int) < n ∧ Below b w w' := by
  obtain ⟨a, m, c, k, sd, hk, hm, hm4, hB, hC, hin, hne, hs0, hs1⟩ := h
  have HB := Lib.hid hB
  have HC := Lib.hid hC
  have Hin := Lib.hid hin
  have Hm := Lib.hid hm
  have Hne := Lib.hid hne
  have e0 := hB.2.1
  have f0 := hB.2.2
  have hbl := hB.1
  have hn0 : (n == 0) = false := beq_eq_false_iff_ne.2 (by omega)
  clear hB hC hin hm hne
  have hsd := u64_in (IntKind.u64.wrap (sd * 6364136223846793005) + 1442695040888963407)
  go_enter Tryz.func20, Tryz.ntmps20
  go_wp2
  generalize hG : IntKind.u64.wrap (IntKind.u64.wrap (sd * 6364136223846793005) + 1442695040888963407) = sd2 at *
  have HB1 := Lib.hid (src_store2 sd2 HB.out)
  have HC1 := Lib.hid (HC.out.set (p := ⟨b, 2, none⟩) (fun h0 b' o e => Nat.ne_of_lt (Hne.out h0 b' o e)) (.int .u64 sd2))
  have hb1 : Below b w (w.setCell ⟨b, 2, none⟩ (.int .u64 sd2)) := (Below.refl b w).setCell (p := ⟨b, 2, none⟩) (Nat.le_refl _) _
  have hbl1 : b < (w.setCell ⟨b, 2, none⟩ (.int .u64 sd2)).heap.size := by simpa [World.setCell] using hbl
  clear e0 f0
  generalize w.setCell ⟨b, 2, none⟩ (.int .u64 sd2) = w1 at *
  have e0 := HB1.out.2.1
  have f0 := HB1.out.2.2
  obtain ⟨x, hx, hx2⟩ := andMask (sd2 / 8589934592) (by omega) (by omega)
  have hxm := Int.tmod_eq_emod_of_nonneg (show 0 ≤ (x : Int) by omega) (b := n)
  clear hsd hG HB HC
  by_cases hlt : k < m
  · have hlt2 : (k : Int) < (m : Int) := by omega
    obtain ⟨b', o, rfl, hbs, c0⟩ := HC1.out k (by rw [← Hm.out]; exact hlt)
    have hz := Hin.out _ (mem_nth (show k < cs.length by rw [← Hm.out]; exact hlt))
    generalize nth cs k = z at *
    go_quiet (fail)
    have hd1 : Below w1.heap.size w1 (w1.drewN nq) := below_drewN (Below.refl _ _) nq
    have HB2 := Lib.hid (HB1.out.below hd1)
    have c1 := cell_then hbs c0 hd1
    have hb2 := hb1.trans (hd1.mono (by omega))
    clear e0 f0 c0
    generalize w1.drewN nq = w2 at *
    have e0 := HB2.out.2.1
    have f0 := HB2.out.2.2
    go_wp2
    go_quiet (fail)
    have hd2 : Below w2.heap.size w2 (w2.drewN nq) := below_drewN (Below.refl _ _) nq
    have HB3 := Lib.hid (HB2.out.below hd2)
    have hb3 := hb2.trans (hd2.mono (by have := HB2.out.1; omega))
    clear e0 f0 c1
    generalize w2.drewN nq = w3 at *
    have e0 := HB3.out.2.1
    have f0 := HB3.out.2.2
    obtain ⟨u, hu, hun⟩ : ∃ u : Nat, (wrap64 (wrap64 (x : Int) + z)).tmod n = (u : Int) ∧ (u : Int) < n := by
      rw [show wrap64 (x : Int) = (x : Int) from wrap64_of_in (by omega), show wrap64 ((x : Int) + z) = (x : Int) + z from wrap64_of_in (by omega), Int.tmod_eq_emod_of_nonneg (by omega)]
      have h1 := Int.emod_nonneg ((x : Int) + z) (show n ≠ 0 by omega)
      have h2 := Int.emod_lt_of_pos ((x : Int) + z) (show 0 < n by omega)
      exact ⟨(((x : Int) + z) % n).toNat, by omega, by omega⟩
    have Hu := Lib.hid hu
    clear hu hxm
    go_wp2
    go_ret
    exact ⟨u, by rw [Hu.out]; rfl, hun, hb3.setCell (p := ⟨b, 1, none⟩) (Nat.le_refl _) _⟩
  · have hlt2 : ¬ (k : Int) < (m : Int) := by omega
    go_quiet (fail)
    have hd1 : Below w1.heap.size w1 (w1.drewN nq) := below_drewN (Below.refl _ _) nq
    have hb2 := hb1.trans (hd1.mono (by omega))
    clear e0 f0
    generalize w1.drewN nq = w2 at *
    obtain ⟨u, hu, hun⟩ : ∃ u : Nat, (wrap64 (x : Int)).tmod n = (u : Int) ∧ (u : Int) < n := by
      rw [show wrap64 (x : Int) = (x : Int) from wrap64_of_in (by omega), Int.tmod_eq_emod_of_nonneg (by omega)]
      have h1 := Int.emod_nonneg (x : Int) (show n ≠ 0 by omega)
      have h2 := Int.emod_lt_of_pos (x : Int) (show 0 < n by omega)
      exact ⟨((x : Int) % n).toNat, by omega, by omega⟩
    have Hu := Lib.hid hu
    clear hu hxm
    go_wp2
    go_ret
    exact ⟨u, by rw [Hu.out]; rfl, hun, hb2⟩
end Go.Proofs.YtcgbdhbdlnimhaaGreat
