/- ItemsCp: copies of items, by both packages. -/
import Derived.Test.YthnkhpebaeloeaaItemsFn
namespace Go.Proofs.Ythnkhpebaeloeaa
open Go.ChangeShapes Go.WideShapes Go.ChangeAt Go.RowKit

theorem cell_alloc {W : World} {p : Addr} {x : Value} (h : W.cell? p = some x) (o : Obj) : (W.alloc o).cell? p = some x := by
  rw [World.cell?_alloc_some _ _ _ (by rw [h]; rfl)]; exact h
theorem cell_grown {W W' : World} {b o : Nat} {x : Value} {row : Option Nat} (h : W.cell? ⟨b, o, none⟩ = some x) (hg : W.grownBy W' row) (hne : row ≠ some b) : W'.cell? ⟨b, o, none⟩ = some x :=
  (World.cell?_of_block (hg.block b (World.block_lt_of_cell? W _ h) (fun e => hne e.symm))).trans h
theorem NestIn.more {α : Type} [Inhabited α] {S : Shape α} {T : TypeId} {w : World} {lo hi hi' : Nat} {v : Value} {ps : List (Value × α)} (h : NestIn S T w lo hi v ps) (hh : hi ≤ hi') : NestIn S T w lo hi' v ps :=
  ⟨⟨h.row.1, fun g hg => Nat.lt_of_lt_of_le (h.row.2 g hg) hh⟩, h.sl, fun i hi0 => ⟨(h.pat i hi0).1, fun g hg => Nat.lt_of_lt_of_le ((h.pat i hi0).2 g hg) hh⟩, h.ok, h.far, h.dis⟩
theorem go_below_alloc (W : World) (o : Obj) : Below W.heap.size W (W.alloc o) := (Below.refl _ _).alloc (Nat.le_refl _) _
set_option maxHeartbeats 2000000 in
theorem l22Own_c (v : Value) (l : List Item) (w : World) (hv : ItemsAt w v l) (hl1000 : l.length ≤ 1048576) (hp20 : ∀ x ∈ l, x.pattern.length ≤ 1048576) :
    Calls Try.prog 85 #[v] w (GivesItems l w) := by
  obtain ⟨a, n, cap, rfl, hn, hl, hm, hc⟩ := hv
  have Hc := Lib.hid hc; clear hc
  have hn20 : n ≤ 1048576 := by omega
  have Hn := Lib.hid hn; clear hn hl1000
  have Hp20 := Lib.hid hp20; clear hp20
  go_enter Try.func85, Try.ntmps85
  go_wp2
  go_loopw [3, 4] (fun s i wr => ∃ (k : Nat) (a' : Option Addr) (n' c' : Nat), i = .int .i64 k ∧ k ≤ n ∧ s = .slice a' n' c' ∧ Hid (OwnItems wr w.heap.size (.slice a' n' c') (l.take k)) ∧ Below w.heap.size w wr) (fun _ i _ => n - (intOf i).toNat)
  case atStart => exact ⟨0, _, _, _, rfl, Nat.zero_le _, rfl, Lib.hid (own_items_empty w), by go_grown⟩
  case round =>
    obtain ⟨k, a', n', c', rfl, hk, rfl, HO, hb⟩ := hrel
    by_cases hlt : k < n
    · have Hkl : Hid (k < l.length) := Lib.hid (by rw [← Hn.out]; exact hlt)
      obtain ⟨b, o, pa, pn, pc, rfl, hbs, hsz, hp, c0, c1⟩ := item_cells Hc.out k Hkl.out
      have HP := Lib.hid hp; clear hp
      have C0 : Hid (∀ W, Below w.heap.size w W → W.cell? ⟨b, o + k * 2, none⟩ = some (.string (nth l k).name)) := Lib.hid (fun W h => cell_then hbs c0 h)
      have C1 : Hid (∀ W, Below w.heap.size w W → W.cell? ⟨b, o + k * 2 + 1, none⟩ = some (.slice pa pn pc)) := Lib.hid (fun W h => cell_then hbs c1 h)
      clear c0 c1
      obtain ⟨ps, hps', hN⟩ := InNest.of HO.out
      have hlen : ps.length = k := by have := congrArg List.length hps'; rw [List.length_map, List.length_take, ← Hn.out] at this; omega
      have Hps := Lib.hid hps'; clear hps'
      have HN := Lib.hid hN; clear hN HO
      have Hlen := Lib.hid hlen; clear hlen
      have Hsz := Lib.hid hsz; clear hsz
      have K1 := Lib.hid (fun W x => l00Own_c (.slice pa pn pc) (nth l k).pattern W x (Hp20.out _ (mem_nth Hkl.out)))
      go_wp2
      refine wp_region_held_drew (S := fun w' => Below w.heap.size w w') (by kernel_rfl) (by exact (hb).drew) (fun hHeld => ?_)
      refine wpAnyH_take (i := 0) (oi := ⟨_, _, _, _, _, _⟩) (v := ?_) rfl (by kernel_rfl) (by kernel_rfl) (by kernel_rfl) (fun _ _ _ h => h) (Or.inl ⟨by rfl, ?_⟩) (by assumption) ?_; rotate_left; (focus (intro w hSw; (try dsimp only at hSw); go_simp; try with_reducible rfl)); (try simp only [Act.put, List.setIfInBounds_toArray, List.set_cons_zero, List.set_cons_succ])
      refine wpAnyH_take (i := 1) (oi := ⟨_, _, _, _, _, _⟩) (v := ?_) rfl (by kernel_rfl) (by kernel_rfl) (by kernel_rfl) (fun _ _ _ h => h) (Or.inl ⟨by rfl, ?_⟩) (by assumption) ?_; rotate_left; (focus (intro w hSw; (try dsimp only at hSw); go_simp; try with_reducible rfl)); (try simp only [Act.put, List.setIfInBounds_toArray, List.set_cons_zero, List.set_cons_succ])
      refine wpAnyH_take (i := 2) (oi := ⟨_, _, _, _, _, _⟩) (v := ?_) rfl (by kernel_rfl) (by kernel_rfl) (by kernel_rfl) (fun _ _ _ h => h) (Or.inl ⟨by rfl, ?_⟩) (by assumption) ?_; rotate_left; (focus (intro w hSw; (try dsimp only at hSw); go_simp; try with_reducible rfl)); (try simp only [Act.put, List.setIfInBounds_toArray, List.set_cons_zero, List.set_cons_succ])
      refine wpAnyH_take (i := 3) (oi := ⟨_, _, _, _, _, _⟩) (v := ?_) rfl (by kernel_rfl) (by kernel_rfl) (by kernel_rfl) (fun _ _ _ h => h) (Or.inl ⟨by rfl, ?_⟩) (by assumption) ?_; rotate_left; (focus (intro w hSw; (try dsimp only at hSw); go_simp; try with_reducible rfl)); (try simp only [Act.put, List.setIfInBounds_toArray, List.set_cons_zero, List.set_cons_succ])
      refine wpAnyH_take (i := 4) (oi := ⟨_, _, _, _, _, _⟩) (v := ?_) rfl (by kernel_rfl) (by kernel_rfl) (by kernel_rfl) (fun _ _ _ h => h) (Or.inl ⟨by rfl, ?_⟩) (by assumption) ?_; rotate_left; (focus (intro w hSw; (try dsimp only at hSw); go_simp; try with_reducible rfl)); (try simp only [Act.put, List.setIfInBounds_toArray, List.set_cons_zero, List.set_cons_succ])
      refine wpAnyH_take (i := 5) (oi := ⟨_, _, _, _, _, _⟩) (v := ?_) rfl (by kernel_rfl) (by kernel_rfl) (by kernel_rfl) (fun _ _ _ h => h) (Or.inl ⟨by rfl, ?_⟩) (by assumption) ?_; rotate_left; (focus (intro w hSw; (try dsimp only at hSw); have t0 := C0.out _ hSw; have t1 := C1.out _ hSw; go_simp; try with_reducible rfl)); (try simp only [Act.put, List.setIfInBounds_toArray, List.set_cons_zero, List.set_cons_succ])
      refine wpAnyH_take (i := 6) (oi := ⟨_, _, _, _, _, _⟩) (v := ?_) rfl (by kernel_rfl) (by kernel_rfl) (by kernel_rfl) (fun _ _ _ h => h) (Or.inl ⟨by rfl, ?_⟩) (by assumption) ?_; rotate_left; (focus (intro w hSw; (try dsimp only at hSw); go_simp; try with_reducible rfl)); (try simp only [Act.put, List.setIfInBounds_toArray, List.set_cons_zero, List.set_cons_succ])
      refine wpAnyH_take (i := 7) (oi := ⟨_, _, _, _, _, _⟩) (v := ?_) rfl (by kernel_rfl) (by kernel_rfl) (by kernel_rfl) (fun _ _ _ h => h) (Or.inl ⟨by rfl, ?_⟩) (by assumption) ?_; rotate_left; (focus (intro w hSw; (try dsimp only at hSw); go_simp; try with_reducible rfl)); (try simp only [Act.put, List.setIfInBounds_toArray, List.set_cons_zero, List.set_cons_succ])
      refine wpAnyH_take (i := 8) (oi := ⟨_, _, _, _, _, _⟩) (v := ?_) rfl (by kernel_rfl) (by kernel_rfl) (by kernel_rfl) (fun _ _ _ h => h) (Or.inl ⟨by rfl, ?_⟩) (by assumption) ?_; rotate_left; (focus (intro w hSw; (try dsimp only at hSw); go_simp; try with_reducible rfl)); (try simp only [Act.put, List.setIfInBounds_toArray, List.set_cons_zero, List.set_cons_succ])
      refine wpAnyH_take (i := 9) (oi := ⟨_, _, _, _, _, _⟩) (v := ?_) rfl (by kernel_rfl) (by kernel_rfl) (by kernel_rfl) (fun _ _ _ h => h) (Or.inl ⟨by rfl, ?_⟩) (by assumption) ?_; rotate_left; (focus (intro w hSw; (try dsimp only at hSw); go_simp; try with_reducible rfl)); (try simp only [Act.put, List.setIfInBounds_toArray, List.set_cons_zero, List.set_cons_succ])
      refine wpAnyH_take (i := 10) (oi := ⟨_, _, _, _, _, _⟩) (v := ?_) rfl (by kernel_rfl) (by kernel_rfl) (by kernel_rfl) (fun _ _ _ h => h) (Or.inl ⟨by rfl, ?_⟩) (by assumption) ?_; rotate_left; (focus (intro w hSw; (try dsimp only at hSw); have t0 := C0.out _ hSw; have t1 := C1.out _ hSw; go_simp; try with_reducible rfl)); (try simp only [Act.put, List.setIfInBounds_toArray, List.set_cons_zero, List.set_cons_succ])
      refine wpAnyH_ready (rs := [11]) (by kernel_rfl) (by simp) ?_
      refine AllReadyH.cons (o := ⟨_, _, _, _, _, _⟩) rfl (fun K hK => ?_) AllReadyH.nil
      go_simp
      go_at_call 104; (with_reducible refine (K1.out _ (HP.out.below hHeld)).mono ?_); rintro e x1 ⟨a1, n1, c1, rfl, o1, d1⟩; have hd1 := below_of_drew d1; have HI : Hid (InInts x1 wr.heap.size x1.heap.size (.slice a1 n1 c1) (nth l k).pattern) := Lib.hid (InInts.of o1); have HN1 := Lib.hid (HN.out.below hd1); have hS' := bthen hHeld d1; clear o1 d1
      refine hK.out _ _ (by exact hS') (fun hHeld' => ?_)
      clear hHeld hK K
      have hHeld := hHeld'
      clear hHeld'
      try simp only [Act.put, List.setIfInBounds_toArray, List.set_cons_zero, List.set_cons_succ]
      refine wpAnyH_take (i := 12) (oi := ⟨_, _, _, _, _, _⟩) (v := ?_) rfl (by kernel_rfl) (by kernel_rfl) (by kernel_rfl) (fun _ _ _ h => h) (Or.inl ⟨by rfl, ?_⟩) (by assumption) ?_; rotate_left; (focus (intro w hSw; (try dsimp only at hSw); go_simp; try with_reducible rfl)); (try simp only [Act.put, List.setIfInBounds_toArray, List.set_cons_zero, List.set_cons_succ])
      refine wpAnyH_ready (rs := [13]) (by kernel_rfl) (by simp) ?_
      refine AllReadyH.cons (o := ⟨_, _, _, _, _, _⟩) rfl (fun K hK => ?_) AllReadyH.nil
      go_simp
      refine hK.out _ _ (by exact hHeld.alloc hHeld.size _) (fun hHeld' => ?_)
      clear hHeld hK K
      have hHeld := hHeld'
      clear hHeld'
      try simp only [Act.put, List.setIfInBounds_toArray, List.set_cons_zero, List.set_cons_succ]
      refine wpAnyH_ready (rs := [14]) (by kernel_rfl) (by simp) ?_
      refine AllReadyH.cons (o := ⟨_, _, _, _, _, _⟩) rfl (fun K hK => ?_) AllReadyH.nil
      refine step_app_items rfl _ _ rfl w.heap.size _ ps.length _ rfl (HN1.out.below (go_below_alloc _ _)).row.1 _ 1 1 [.string (nth l k).name, .slice a1 n1 c1] rfl (item_new _ _ _ _) (by intro u hu; simp at hu; rcases hu with rfl | rfl <;> rfl) (by have := Hlen.out; omega) (by have := hS'.size; simp; omega) ?_; intro a2 n2 c2 w2 ho2 hg2 hl2; have hS' : Below w.heap.size w w2 := hHeld.grown hg2 hHeld.size (fun g hg => (HN.out.row.1.lt g hg).1)
      refine hK.out _ _ (by exact hS') (fun hHeld' => ?_)
      clear hHeld hK K
      have hHeld := hHeld'
      clear hHeld'
      try simp only [Act.put, List.setIfInBounds_toArray, List.set_cons_zero, List.set_cons_succ]
      refine wpAnyH_take (i := 15) (oi := ⟨_, _, _, _, _, _⟩) (v := ?_) rfl (by kernel_rfl) (by kernel_rfl) (by kernel_rfl) (fun _ _ _ h => h) (Or.inl ⟨by rfl, ?_⟩) (by assumption) ?_; rotate_left; (focus (intro w hSw; (try dsimp only at hSw); go_simp; try with_reducible rfl)); (try simp only [Act.put, List.setIfInBounds_toArray, List.set_cons_zero, List.set_cons_succ])
      refine wpAnyH_done (by kernel_rfl) ?_ _
      have HO2 : Hid (OwnItems w2 w.heap.size (.slice a2 n2 c2) (l.take (k + 1))) := Lib.hid (by
        have h := nest_snoc (x := nth l k) (HN1.out.below (go_below_alloc _ _)) (HI.out.below (go_below_alloc _ _)) (hb.size) ⟨_, _, _, rfl⟩ Hsz.out (by have := hd1.size; simp; omega) ho2 hg2 hl2
        rw [Hps.out, ← take_nth l k Hkl.out] at h
        exact h)
      clear ho2 hg2 hl2
      go_wp2
      exact ⟨⟨k + 1, a2, n2, c2, by go_num, hlt, rfl, HO2, hHeld⟩, by simp [intOf]; omega⟩
    · obtain rfl : k = n := by omega
      have HO3 : Hid (OwnItems wr w.heap.size (.slice a' n' c') l) := Lib.hid (by have := HO.out; rwa [Hn.out, List.take_length] at this)
      clear HO
      go_wp2
      go_ret
      exact ⟨_, _, _, rfl, HO3.out, hb⟩
set_option maxHeartbeats 2000000 in
theorem copyItems_c (v : Value) (l : List Item) (w : World) (hv : ItemsAt w v l) (hl1000 : l.length ≤ 1048576) (hp20 : ∀ x ∈ l, x.pattern.length ≤ 1048576) :
    Calls Try.prog 92 #[v] w (GivesItems l w) := by
  obtain ⟨a, n, cap, rfl, hn, hl, hm, hc⟩ := hv
  have Hc := Lib.hid hc; clear hc
  have hn20 : n ≤ 1048576 := by omega
  have Hn := Lib.hid hn; clear hn hl1000
  have Hp20 := Lib.hid hp20; clear hp20
  go_enter Try.func92, Try.ntmps92
  go_wp2
  go_loopw [3, 9] (fun s i wr => ∃ (k : Nat) (a' : Option Addr) (n' c' : Nat), i = .int .i64 k ∧ k ≤ n ∧ s = .slice a' n' c' ∧ Hid (OwnItems wr w.heap.size (.slice a' n' c') (l.take k)) ∧ Below w.heap.size w wr) (fun _ i _ => n - (intOf i).toNat)
  case atStart => exact ⟨0, _, _, _, rfl, Nat.zero_le _, rfl, Lib.hid (own_items_empty w), by go_grown⟩
  case round =>
    obtain ⟨k, a', n', c', rfl, hk, rfl, HO, hb⟩ := hrel
    by_cases hlt : k < n
    · have Hkl : Hid (k < l.length) := Lib.hid (by rw [← Hn.out]; exact hlt)
      obtain ⟨b, o, pa, pn, pc, rfl, hbs, hsz, hp, c0, c1⟩ := item_cells (Hc.out.below hb) k Hkl.out
      have HP := Lib.hid hp; clear hp
      obtain ⟨ps, hps', hN⟩ := InNest.of HO.out
      have hlen : ps.length = k := by have := congrArg List.length hps'; rw [List.length_map, List.length_take, ← Hn.out] at this; omega
      have Hps := Lib.hid hps'; clear hps'
      have HN := Lib.hid hN; clear hN HO
      have Hlen := Lib.hid hlen; clear hlen
      have Hsz := Lib.hid hsz; clear hsz
      have K1 := Lib.hid (fun W x => copyNumbers_c (.slice pa pn pc) (nth l k).pattern W x (Hp20.out _ (mem_nth Hkl.out)))
      go_wp2
      generalize hG : World.alloc wr (.cells #[.string (nth l k).name, .slice pa pn pc] 93) = wx at *
      have hbx : Below wr.heap.size wr wx := by rw [← hG]; go_grown
      have HB : Hid (BoxIs wx wr.heap.size [.string (nth l k).name, .slice pa pn pc]) := Lib.hid (by rw [← hG]; exact BoxIs.new _ _ _)
      clear hG c0 c1
      have hbw := bthen hb hbx
      have HNx := Lib.hid (HN.out.below hbx)
      have HPx := Lib.hid (HP.out.below hbx)
      refine wp_region_held_drew (S := fun w' => Below w.heap.size w w' ∧ w'.cell? ⟨wr.heap.size, 0, none⟩ = some (.string (nth l k).name) ∧ w'.cell? ⟨wr.heap.size, 1, none⟩ = some (.slice pa pn pc)) (by kernel_rfl) (by exact ⟨hbw.drew, HB.out.2.1 0, HB.out.2.1 1⟩) (fun hHeld => ?_)
      refine wpAnyH_take (i := 0) (oi := ⟨_, _, _, _, _, _⟩) (v := ?_) rfl (by kernel_rfl) (by kernel_rfl) (by kernel_rfl) (fun _ _ _ h => h) (Or.inl ⟨by rfl, ?_⟩) (by assumption) ?_; rotate_left; (focus (intro w hSw; (try dsimp only at hSw); go_simp; try with_reducible rfl)); (try simp only [Act.put, List.setIfInBounds_toArray, List.set_cons_zero, List.set_cons_succ])
      refine wpAnyH_take (i := 1) (oi := ⟨_, _, _, _, _, _⟩) (v := ?_) rfl (by kernel_rfl) (by kernel_rfl) (by kernel_rfl) (fun _ _ _ h => h) (Or.inl ⟨by rfl, ?_⟩) (by assumption) ?_; rotate_left; (focus (intro w hSw; (try dsimp only at hSw); go_simp; try with_reducible rfl)); (try simp only [Act.put, List.setIfInBounds_toArray, List.set_cons_zero, List.set_cons_succ])
      refine wpAnyH_take (i := 2) (oi := ⟨_, _, _, _, _, _⟩) (v := ?_) rfl (by kernel_rfl) (by kernel_rfl) (by kernel_rfl) (fun _ _ _ h => h) (Or.inl ⟨by rfl, ?_⟩) (by assumption) ?_; rotate_left; (focus (intro w hSw; (try dsimp only at hSw); obtain ⟨_, t0, t1⟩ := hSw; go_simp; try with_reducible rfl)); (try simp only [Act.put, List.setIfInBounds_toArray, List.set_cons_zero, List.set_cons_succ])
      refine wpAnyH_take (i := 3) (oi := ⟨_, _, _, _, _, _⟩) (v := ?_) rfl (by kernel_rfl) (by kernel_rfl) (by kernel_rfl) (fun _ _ _ h => h) (Or.inl ⟨by rfl, ?_⟩) (by assumption) ?_; rotate_left; (focus (intro w hSw; (try dsimp only at hSw); go_simp; try with_reducible rfl)); (try simp only [Act.put, List.setIfInBounds_toArray, List.set_cons_zero, List.set_cons_succ])
      refine wpAnyH_take (i := 4) (oi := ⟨_, _, _, _, _, _⟩) (v := ?_) rfl (by kernel_rfl) (by kernel_rfl) (by kernel_rfl) (fun _ _ _ h => h) (Or.inl ⟨by rfl, ?_⟩) (by assumption) ?_; rotate_left; (focus (intro w hSw; (try dsimp only at hSw); obtain ⟨_, t0, t1⟩ := hSw; go_simp; try with_reducible rfl)); (try simp only [Act.put, List.setIfInBounds_toArray, List.set_cons_zero, List.set_cons_succ])
      refine wpAnyH_ready (rs := [5]) (by kernel_rfl) (by simp) ?_
      refine AllReadyH.cons (o := ⟨_, _, _, _, _, _⟩) rfl (fun K hK => ?_) AllReadyH.nil
      go_simp
      go_at_call 93; (with_reducible refine (K1.out _ (HPx.out.below (Below.refl _ _).drew)).mono ?_); rintro e x1 ⟨a1, n1, c1, rfl, o1, d1⟩; have hd1 := below_of_drew d1; have HI : Hid (InInts x1 wx.heap.size x1.heap.size (.slice a1 n1 c1) (nth l k).pattern) := Lib.hid (InInts.of o1); have HN1 := Lib.hid (HNx.out.below hd1); have hS' : Below w.heap.size w x1 ∧ x1.cell? ⟨wr.heap.size, 0, none⟩ = some (.string (nth l k).name) ∧ x1.cell? ⟨wr.heap.size, 1, none⟩ = some (.slice pa pn pc) := ⟨bthen hHeld.1 d1, (HB.out.below hd1).2.1 0, (HB.out.below hd1).2.1 1⟩; clear o1 d1
      refine hK.out _ _ (by exact hS') (fun hHeld' => ?_)
      clear hHeld hK K
      have hHeld := hHeld'
      clear hHeld'
      try simp only [Act.put, List.setIfInBounds_toArray, List.set_cons_zero, List.set_cons_succ]
      refine wpAnyH_take (i := 6) (oi := ⟨_, _, _, _, _, _⟩) (v := ?_) rfl (by kernel_rfl) (by kernel_rfl) (by kernel_rfl) (fun _ _ _ h => h) (Or.inl ⟨by rfl, ?_⟩) (by assumption) ?_; rotate_left; (focus (intro w hSw; (try dsimp only at hSw); go_simp; try with_reducible rfl)); (try simp only [Act.put, List.setIfInBounds_toArray, List.set_cons_zero, List.set_cons_succ])
      refine wpAnyH_ready (rs := [7]) (by kernel_rfl) (by simp) ?_
      refine AllReadyH.cons (o := ⟨_, _, _, _, _, _⟩) rfl (fun K hK => ?_) AllReadyH.nil
      go_simp
      refine hK.out _ _ (by exact ⟨hHeld.1.alloc hHeld.1.size _, cell_alloc hHeld.2.1 _, cell_alloc hHeld.2.2 _⟩) (fun hHeld' => ?_)
      clear hHeld hK K
      have hHeld := hHeld'
      clear hHeld'
      try simp only [Act.put, List.setIfInBounds_toArray, List.set_cons_zero, List.set_cons_succ]
      refine wpAnyH_ready (rs := [8]) (by kernel_rfl) (by simp) ?_
      refine AllReadyH.cons (o := ⟨_, _, _, _, _, _⟩) rfl (fun K hK => ?_) AllReadyH.nil
      refine step_app_items rfl _ _ rfl w.heap.size _ ps.length _ rfl (HN1.out.below (go_below_alloc _ _)).row.1 _ 1 1 [.string (nth l k).name, .slice a1 n1 c1] rfl (item_new _ _ _ _) (by intro u hu; simp at hu; rcases hu with rfl | rfl <;> rfl) (by have := Hlen.out; omega) (by have := hS'.1.size; simp; omega) ?_; intro a2 n2 c2 w2 ho2 hg2 hl2; have hS' : Below w.heap.size w w2 ∧ w2.cell? ⟨wr.heap.size, 0, none⟩ = some (.string (nth l k).name) ∧ w2.cell? ⟨wr.heap.size, 1, none⟩ = some (.slice pa pn pc) := ⟨hHeld.1.grown hg2 hHeld.1.size (fun g hg => (HN.out.row.1.lt g hg).1), cell_grown hHeld.2.1 hg2 (fun e => Nat.lt_irrefl _ (HN.out.row.1.lt _ e).2), cell_grown hHeld.2.2 hg2 (fun e => Nat.lt_irrefl _ (HN.out.row.1.lt _ e).2)⟩
      refine hK.out _ _ (by exact hS') (fun hHeld' => ?_)
      clear hHeld hK K
      have hHeld := hHeld'
      clear hHeld'
      try simp only [Act.put, List.setIfInBounds_toArray, List.set_cons_zero, List.set_cons_succ]
      refine wpAnyH_take (i := 9) (oi := ⟨_, _, _, _, _, _⟩) (v := ?_) rfl (by kernel_rfl) (by kernel_rfl) (by kernel_rfl) (fun _ _ _ h => h) (Or.inl ⟨by rfl, ?_⟩) (by assumption) ?_; rotate_left; (focus (intro w hSw; (try dsimp only at hSw); go_simp; try with_reducible rfl)); (try simp only [Act.put, List.setIfInBounds_toArray, List.set_cons_zero, List.set_cons_succ])
      refine wpAnyH_done (by kernel_rfl) ?_ _
      have HO2 : Hid (OwnItems w2 w.heap.size (.slice a2 n2 c2) (l.take (k + 1))) := Lib.hid (by
        have h := nest_snoc (x := nth l k) (hi := wx.heap.size) (NestIn.more (HN1.out.below (go_below_alloc _ _)) hbx.size) (HI.out.below (go_below_alloc _ _)) (hbw.size) ⟨_, _, _, rfl⟩ Hsz.out (by have := hd1.size; simp; omega) ho2 hg2 hl2
        rw [Hps.out, ← take_nth l k Hkl.out] at h
        exact h)
      clear ho2 hg2 hl2
      have hb2 := hHeld.1
      clear hHeld
      go_wp2
      exact ⟨⟨k + 1, a2, n2, c2, by go_num, hlt, rfl, HO2, hb2⟩, by simp [intOf]; omega⟩
    · obtain rfl : k = n := by omega
      have HO3 : Hid (OwnItems wr w.heap.size (.slice a' n' c') l) := Lib.hid (by have := HO.out; rwa [Hn.out, List.take_length] at this)
      clear HO
      go_wp2
      go_ret
      exact ⟨_, _, _, rfl, HO3.out, hb⟩
end Go.Proofs.Ythnkhpebaeloeaa
